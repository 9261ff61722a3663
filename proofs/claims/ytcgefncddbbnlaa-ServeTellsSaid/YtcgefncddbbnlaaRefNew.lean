/-
  The walks of the document's New, and of the statement FrameTells.
-/
import Derived.Test.YtcgefncddbbnlaaFrameL
import Derived.Test.YtcgefncddbbnlaaSeqT
namespace Go.Proofs.Ytcgefncddbbnlaa.Fr
open Go.RowKit
attribute [local go_sem] max_ints min_ints

theorem infoV : (Try.prog.info? 80).map (fun i => (i.zero, i.size, i.bytes)) = some (some (.agg #[.int .i64 0, .int .i64 0, .int .i64 0]), 3, 24) := by kernel_rfl
theorem RdW.rows {w : World} {b o cap : Nat} {ws : List W3} (h : RdW w (.slice (some ⟨b, o, none⟩) ws.length cap) ws) (j : Nat) (u : Value) (hu : (rws encW ws)[j]? = some u) : w.cell? ((⟨b, o, none⟩ : Addr).add j) = some u := by
  obtain ⟨A', c', e, h⟩ := h
  injection e with e1 e2 e3
  subst e1 e3
  have hj : j < ws.length * 3 := by
    have := (List.getElem?_eq_some_iff.1 hu).1
    rwa [rws_len encW_len] at this
  obtain ⟨x, hx⟩ : ∃ x, ws[j / 3]? = some x := ⟨_, List.getElem?_eq_getElem (by omega)⟩
  obtain ⟨b', o', e, _, h0, h1, h2⟩ := h (j / 3) x hx
  injection e with e
  injection e with e1 e2
  subst e1 e2
  have hr := rws_at encW_len ws (j / 3) x hx (j % 3) (Nat.mod_lt _ (by omega))
  rw [show j / 3 * 3 + j % 3 = j by omega, hu] at hr
  rw [Addr.add_lit]
  have h3 : j % 3 = 0 ∨ j % 3 = 1 ∨ j % 3 = 2 := by omega
  rcases h3 with h3 | h3 | h3
  · rw [h3] at hr
    have hr : some u = some (.int .i64 x.1) := hr
    injection hr with hr
    rw [hr, show o + j = o + j / 3 * 3 by omega]
    exact h0
  · rw [h3] at hr
    have hr : some u = some (.int .i64 x.2.1) := hr
    injection hr with hr
    rw [hr, show o + j = o + j / 3 * 3 + 1 by omega]
    exact h1
  · rw [h3] at hr
    have hr : some u = some (.int .i64 x.2.2) := hr
    injection hr with hr
    rw [hr, show o + j = o + j / 3 * 3 + 2 by omega]
    exact h2
theorem run_append_rd (w : World) (ty : TypeId) (b0 : Nat) (hb0 : Blk w b0 80 #[]) (A : Option Addr) (cap : Nat) (ws : List W3) (h : RdW w (.slice A ws.length cap) ws) (hl : ws.length ≤ 32) :
    ∃ v' w', (Builtin.append_ #[42, 42] ty #[.slice (some ⟨b0, 0, none⟩) 0 0, .slice A ws.length cap]).run Try.prog w = .ok v' w' ∧ SlR encW w' b0 80 3 v' ws ∧ Upd (fun k => k = b0) w w' := by
  obtain ⟨i0, hi0, hz0, hz1, hz2⟩ := info_parts infoV
  have hown : w.ownsRow b0 80 3 (.slice (some ⟨b0, 0, none⟩) 0 0) 0 [] := ⟨by simp, .inr ⟨b0, 0, #[], rfl, Nat.le_refl _, hb0, Nat.le_refl _, Nat.zero_le _, by simp, by simp⟩⟩
  by_cases h0 : ws.length = 0
  · have hx0 : ws = [] := List.eq_nil_of_length_eq_zero h0
    subst hx0
    refine ⟨_, w, ?_, Sl.own hown, Upd.refl _ w⟩
    have hu := run_underlying (P := Try.prog) (t := 42) Try.underlying42
    cases A with
    | none => simp [Builtin.append_, hu, sizeOf, typeInfo, hi0, Builtin.lenOf, Builtin.firstCells, storeCells]
    | some a =>
      have hz := run_loadCells_list (P := Try.prog) (w := w) a [] (by simp)
      simp only [List.length_nil] at hz
      simp [Builtin.append_, hu, sizeOf, typeInfo, hi0, Builtin.lenOf, Builtin.firstCells, storeCells, hz]
  · obtain ⟨x, hx⟩ : ∃ x, ws[0]? = some x := ⟨_, List.getElem?_eq_getElem (by omega)⟩
    obtain ⟨b, o, hA⟩ : ∃ b o, A = some ⟨b, o, none⟩ := by
      obtain ⟨A', c', e, h⟩ := h
      injection e with e1 e2 e3
      subst e1 e3
      obtain ⟨b, o, e, _⟩ := h 0 x hx
      exact ⟨b, o, e⟩
    subst hA
    obtain ⟨v', w', hrun, ho', hg, _⟩ := run_append_own (P := Try.prog) w b0 42 ty 80 i0 _ 3 24 Try.underlying42 hi0 hz0 hz1 hz2 rfl (by decide) _ 0 [] hown ⟨b, o, none⟩ ws.length cap (rws encW ws) (rws_len encW_len ws)
      (fun j u hu => h.rows j u hu) (rws_one_cell encW_one ws) (by unfold maxLen; omega) (by omega) (Nat.le_of_lt hb0.lt)
    refine ⟨v', w', hrun, ?_, (Upd.refl (fun k => k = b0) w).grown hg (fun k hk _ => ?_)⟩
    · have := Sl.own ho'
      unfold SlR
      simpa using this
    · have : b0 = k := by simpa [Value.ownBlock] using hk
      exact this.symm
theorem wpList_append_rd {ops : Array Oper} {rest : List Oper} {o : Oper} {a : Act} {w : World} {Q : Exit → Act → World → Prop} (hgd : o.guard = none) (s x : Operand)
    (ho : o.op = .call { callee := .builtin .append, args := #[s, x], argTypes := #[42, 42] })
    (b0 : Nat) (hs : a.eval s = .slice (some ⟨b0, 0, none⟩) 0 0) (hb0 : Blk w b0 80 #[]) (A : Option Addr) (cap : Nat) (ws : List W3) (hx : a.eval x = .slice A ws.length cap) (hL : RdW w (.slice A ws.length cap) ws) (hl : ws.length ≤ 32)
    (h : ∀ v' w', SlR encW w' b0 80 3 v' ws → Upd (fun k => k = b0) w w' → wpList Try.prog ops Q rest (a.put o.dst v') w') : wpList Try.prog ops Q (o :: rest) a w := by
  refine wpList_plain hgd fun K hK => ?_
  obtain ⟨v', w', hrun, r1, r2⟩ := run_append_rd w o.type b0 hb0 A cap ws hL hl
  unfold Oper.wp
  simp [execOp, ho, resolve, invoke, builtin, hs, hx, hrun, Result.andThen]
  exact hK _ _ (h v' w' r1 r2)

set_option maxRecDepth 100000 in
set_option maxHeartbeats 1600000 in
theorem refYes (w : World) (F : Nat) (M : Int) (v : Value) (ws : List W3) (hv : RdW w v ws) (hr : rightB F M ws = true) :
    Calls Try.prog 15 #[.int .i64 F, .int .i64 M, v] w fun e w' => ∃ g, e = .returned (.pointer (some ⟨g, 0, none⟩)) ∧ RTb w' g F M ws ∧ Upd (fun _ => False) w w' := by
  have hl := (rightB_parts hr).2.2.2.2.1
  have HR := Lib.hid hr; have HV := Lib.hid hv
  obtain ⟨A, cap, rfl, _⟩ := hv
  clear hr
  go_enter Try.func15, Try.ntmps15
  go_wp2_with fail
  refine (rightR _ F M _ ws HV.out).mono ?_
  rintro e w1 ⟨rfl, hU⟩
  rw [HR.out]
  have U1 := Lib.hid hU
  clear hU
  go_wp2_with (
    at_builtin
    refine wpList_append_rd rfl (.tmp 14) (.tmp 15) rfl w1.heap.size rfl (Blk.new w1 _ _) A cap ws rfl (HV.out.still (U1.out.alloc _)) hl ?_
    intro v' w2 hs2 hu2
    obtain ⟨A2, c2, hsh⟩ := hs2.shape
    subst hsh
    have S2 := Lib.hid hs2
    have U2 := Lib.hid ((((U1.out.alloc (.cells #[] 80)).mono (S' := fun k => w.heap.size ≤ k) (fun _ _ h => h.elim)).trans (hu2.mono (fun k _ hk => by rw [hk]; exact U1.out.size))).mono (S' := fun _ => False) (fun k hk h => absurd h (by omega)))
    clear hs2 hu2)
  go_returns
  exact ⟨_, rfl, ⟨HR.out, _, Blk.new w2 _ _, (RdW.of S2.out).still ((Upd.refl _ w2).alloc _)⟩, U2.out.alloc _⟩

set_option maxHeartbeats 800000 in
theorem refNo (w : World) (n M : Int) (v : Value) (ws : List W3) (hv : RdW w v ws) (hr : rightB n M ws = false) :
    Calls Try.prog 15 #[.int .i64 n, .int .i64 M, v] w fun e w' => e = .returned (.pointer none) ∧ Upd (fun _ => False) w w' := by
  have HR := Lib.hid hr; have HV := Lib.hid hv
  obtain ⟨A, cap, rfl, _⟩ := hv
  clear hr
  go_enter Try.func15, Try.ntmps15
  go_wp2_with fail
  refine (rightR _ n M _ ws HV.out).mono ?_
  rintro e w1 ⟨rfl, hU⟩
  rw [HR.out]
  have U1 := Lib.hid hU
  clear hU
  go_wp2_with fail
  go_returns
  exact ⟨rfl, U1.out⟩

end Go.Proofs.Ytcgefncddbbnlaa.Fr
