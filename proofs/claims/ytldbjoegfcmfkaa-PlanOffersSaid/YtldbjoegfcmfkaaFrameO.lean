/-
  The walks of the document's New, and of the statement FrameTells.
-/
import Derived.Test.YtldbjoegfcmfkaaFrameN
import Derived.Test.YtldbjoegfcmfkaaSeqT
namespace Go.Proofs.Ytldbjoegfcmfkaa
open Go.RowKit
attribute [local go_sem] max_ints min_ints

theorem infoV : (Try.prog.info? 40).map (fun i => (i.zero, i.size, i.bytes)) = some (some (.agg #[.int .i64 0, .int .i64 0, .int .i64 0]), 3, 24) := by kernel_rfl
theorem RdW.rows {w : World} {b o cap : Nat} {ws : List W3} (h : RdW w (.slice (some ⟨b, o, none⟩) ws.length cap) ws) (j : Nat) (u : Value) (hu : (rws encW ws)[j]? = some u) : w.cell? ((⟨b, o, none⟩ : Addr).add j) = some u := by
  obtain ⟨A', c', e, h⟩ := h
  injection e with e1 e2 e3
  subst e1 e3
  have hj : j < ws.length * 3 := by
    have := (List.getElem?_eq_some_iff.1 hu).1
    rwa [rws_len encW_len] at this
  obtain ⟨x, hx⟩ : ∃ x, ws[j / 3]? = some x := ⟨_, List.getElem?_eq_getElem (by omega)⟩
  obtain ⟨b', o', e, _, h0, h1, h2⟩ := h (j / 3) x hx
  injection e with e
  injection e with e1 e2
  subst e1 e2
  have hr := rws_at encW_len ws (j / 3) x hx (j % 3) (Nat.mod_lt _ (by omega))
  rw [show j / 3 * 3 + j % 3 = j by omega, hu] at hr
  rw [Addr.add_lit]
  have h3 : j % 3 = 0 ∨ j % 3 = 1 ∨ j % 3 = 2 := by omega
  rcases h3 with h3 | h3 | h3
  · rw [h3] at hr
    have hr : some u = some (.int .i64 x.1) := hr
    injection hr with hr
    rw [hr, show o + j = o + j / 3 * 3 by omega]
    exact h0
  · rw [h3] at hr
    have hr : some u = some (.int .i64 x.2.1) := hr
    injection hr with hr
    rw [hr, show o + j = o + j / 3 * 3 + 1 by omega]
    exact h1
  · rw [h3] at hr
    have hr : some u = some (.int .i64 x.2.2) := hr
    injection hr with hr
    rw [hr, show o + j = o + j / 3 * 3 + 2 by omega]
    exact h2
theorem run_append_rd (w : World) (ty : TypeId) (b0 : Nat) (hb0 : Blk w b0 40 #[]) (A : Option Addr) (cap : Nat) (ws : List W3) (h : RdW w (.slice A ws.length cap) ws) (hl : ws.length ≤ 32) :
    ∃ v' w', (Builtin.append_ #[28, 28] ty #[.slice (some ⟨b0, 0, none⟩) 0 0, .slice A ws.length cap]).run Try.prog w = .ok v' w' ∧ SlR encW w' b0 40 3 v' ws ∧ Upd (fun k => k = b0) w w' := by
  obtain ⟨i0, hi0, hz0, hz1, hz2⟩ := info_parts infoV
  have hown : w.ownsRow b0 40 3 (.slice (some ⟨b0, 0, none⟩) 0 0) 0 [] := ⟨by simp, .inr ⟨b0, 0, #[], rfl, Nat.le_refl _, hb0, Nat.le_refl _, Nat.zero_le _, by simp, by simp⟩⟩
  by_cases h0 : ws.length = 0
  · have hx0 : ws = [] := List.eq_nil_of_length_eq_zero h0
    subst hx0
    refine ⟨_, w, ?_, Sl.own hown, Upd.refl _ w⟩
    have hu := run_underlying (P := Try.prog) (t := 28) Try.underlying28
    cases A with
    | none => simp [Builtin.append_, hu, sizeOf, typeInfo, hi0, Builtin.lenOf, Builtin.firstCells, storeCells]
    | some a =>
      have hz := run_loadCells_list (P := Try.prog) (w := w) a [] (by simp)
      simp only [List.length_nil] at hz
      simp [Builtin.append_, hu, sizeOf, typeInfo, hi0, Builtin.lenOf, Builtin.firstCells, storeCells, hz]
  · obtain ⟨x, hx⟩ : ∃ x, ws[0]? = some x := ⟨_, List.getElem?_eq_getElem (by omega)⟩
    obtain ⟨b, o, hA⟩ : ∃ b o, A = some ⟨b, o, none⟩ := by
      obtain ⟨A', c', e, h⟩ := h
      injection e with e1 e2 e3
      subst e1 e3
      obtain ⟨b, o, e, _⟩ := h 0 x hx
      exact ⟨b, o, e⟩
    subst hA
    obtain ⟨v', w', hrun, ho', hg, _⟩ := run_append_own (P := Try.prog) w b0 28 ty 40 i0 _ 3 24 Try.underlying28 hi0 hz0 hz1 hz2 rfl (by decide) _ 0 [] hown ⟨b, o, none⟩ ws.length cap (rws encW ws) (rws_len encW_len ws)
      (fun j u hu => h.rows j u hu) (rws_one_cell encW_one ws) (by unfold maxLen; omega) (by omega) (Nat.le_of_lt hb0.lt)
    refine ⟨v', w', hrun, ?_, (Upd.refl (fun k => k = b0) w).grown hg (fun k hk _ => ?_)⟩
    · have := Sl.own ho'
      unfold SlR
      simpa using this
    · have : b0 = k := by simpa [Value.ownBlock] using hk
      exact this.symm
theorem wpList_append_rd {ops : Array Oper} {rest : List Oper} {o : Oper} {a : Act} {w : World} {Q : Exit → Act → World → Prop} (hgd : o.guard = none) (s x : Operand)
    (ho : o.op = .call { callee := .builtin .append, args := #[s, x], argTypes := #[28, 28] })
    (b0 : Nat) (hs : a.eval s = .slice (some ⟨b0, 0, none⟩) 0 0) (hb0 : Blk w b0 40 #[]) (A : Option Addr) (cap : Nat) (ws : List W3) (hx : a.eval x = .slice A ws.length cap) (hL : RdW w (.slice A ws.length cap) ws) (hl : ws.length ≤ 32)
    (h : ∀ v' w', SlR encW w' b0 40 3 v' ws → Upd (fun k => k = b0) w w' → wpList Try.prog ops Q rest (a.put o.dst v') w') : wpList Try.prog ops Q (o :: rest) a w := by
  refine wpList_plain hgd fun K hK => ?_
  obtain ⟨v', w', hrun, r1, r2⟩ := run_append_rd w o.type b0 hb0 A cap ws hL hl
  unfold Oper.wp
  simp [execOp, ho, resolve, invoke, builtin, hs, hx, hrun, Result.andThen]
  exact hK _ _ (h v' w' r1 r2)

set_option maxRecDepth 100000 in
set_option maxHeartbeats 1600000 in
theorem refYes (w : World) (F : Nat) (M : Int) (v : Value) (ws : List W3) (hv : RdW w v ws) (hr : rightB F M ws = true) :
    Calls Try.prog 21 #[.int .i64 F, .int .i64 M, v] w fun e w' => ∃ g, e = .returned (.pointer (some ⟨g, 0, none⟩)) ∧ RTb w' g F M ws ∧ Upd (fun _ => False) w w' := by
  have hl := (rightB_parts hr).2.2.2.2.1
  have HR := Lib.hid hr; have HV := Lib.hid hv
  obtain ⟨A, cap, rfl, _⟩ := hv
  clear hr
  go_enter Try.func21, Try.ntmps21
  go_wp2_with fail
  refine (rightR _ F M _ ws HV.out).mono ?_
  rintro e w1 ⟨rfl, hU⟩
  rw [HR.out]
  have U1 := Lib.hid hU
  clear hU
  go_wp2_with (
    at_builtin
    refine wpList_append_rd rfl (.tmp 14) (.tmp 15) rfl w1.heap.size rfl (Blk.new w1 _ _) A cap ws rfl (HV.out.still (U1.out.alloc _)) hl ?_
    intro v' w2 hs2 hu2
    obtain ⟨A2, c2, hsh⟩ := hs2.shape
    subst hsh
    have S2 := Lib.hid hs2
    have U2 := Lib.hid ((((U1.out.alloc (.cells #[] 40)).mono (S' := fun k => w.heap.size ≤ k) (fun _ _ h => h.elim)).trans (hu2.mono (fun k _ hk => by rw [hk]; exact U1.out.size))).mono (S' := fun _ => False) (fun k hk h => absurd h (by omega)))
    clear hs2 hu2)
  go_returns
  exact ⟨_, rfl, ⟨HR.out, _, Blk.new w2 _ _, (RdW.of S2.out).still ((Upd.refl _ w2).alloc _)⟩, U2.out.alloc _⟩

set_option maxHeartbeats 800000 in
theorem refNo (w : World) (n M : Int) (v : Value) (ws : List W3) (hv : RdW w v ws) (hr : rightB n M ws = false) :
    Calls Try.prog 21 #[.int .i64 n, .int .i64 M, v] w fun e w' => e = .returned (.pointer none) ∧ Upd (fun _ => False) w w' := by
  have HR := Lib.hid hr; have HV := Lib.hid hv
  obtain ⟨A, cap, rfl, _⟩ := hv
  clear hr
  go_enter Try.func21, Try.ntmps21
  go_wp2_with fail
  refine (rightR _ n M _ ws HV.out).mono ?_
  rintro e w1 ⟨rfl, hU⟩
  rw [HR.out]
  have U1 := Lib.hid hU
  clear hU
  go_wp2_with fail
  go_returns
  exact ⟨rfl, U1.out⟩

set_option maxRecDepth 100000 in
set_option maxHeartbeats 3200000 in
theorem tells_any (w : World) (n M : Int) (v : Value) (ws : List W3) (hv : RdW w v ws) (p tick many : Int) (hwt : -9223372036854775808 ≤ tick) :
    Calls Try.prog 6 #[.int .i64 n, .int .i64 M, v, .int .i64 p, .int .i64 tick, .int .i64 many] w fun e w' => e = .returned (.bool true) ∧ Upd (fun _ => False) w w' := by
  have HV := Lib.hid hv
  obtain ⟨A, cap, hsh, _⟩ := hv
  subst hsh
  by_cases hr : rightB n M ws = true
  · have HR := Lib.hid hr
    have hn1 : 1 ≤ n := by
      have := hr
      unfold rightB at this
      simp only [Bool.and_eq_true, decide_eq_true_eq] at this
      omega
    obtain ⟨F, rfl⟩ : ∃ F : Nat, n = F := ⟨n.toNat, by omega⟩
    obtain ⟨hF1, hF2, hM, hM8, hl32, hfit⟩ := rightB_parts hr
    obtain ⟨m, hm⟩ : ∃ m : Nat, min (max many 0) 4611686018427387904 = (m : Int) := ⟨(min (max many 0) 4611686018427387904).toNat, by omega⟩
    have HM := Lib.hid hm
    obtain ⟨t', ht'⟩ : ∃ t', min tick 4611686018427387904 = t' := ⟨_, rfl⟩
    have HT' := Lib.hid ht'
    obtain ⟨⟨o1, o2⟩, ho⟩ : ∃ o, ownR M (tick % (F : Int)) ws = o := ⟨_, rfl⟩
    have HO := Lib.hid ho
    obtain ⟨c, hc⟩ : ∃ c, cntO M ws p F = c := ⟨_, rfl⟩
    have HC := Lib.hid hc
    obtain ⟨k, hk⟩ : ∃ k, cntF M ws p F tick m = k := ⟨_, rfl⟩
    have HK := Lib.hid hk
    have d0 : decide (60 < (ws.length : Int)) = false := decide_eq_false (by omega)
    have d0' : ¬ 60 < ws.length := by omega
    clear hr hfit hn1 hm ht' ho hc hk
    go_enter Try.func6, Try.ntmps6
    go_wp2_with fail
    refine (refYes _ F M _ ws HV.out HR.out).mono ?_
    rintro e w1 ⟨r, rfl, hRT, hU⟩
    have R1 := Lib.hid hRT
    have U1 := Lib.hid hU
    clear hU hRT
    go_wp2_with fail
    refine (knowsF _).mono ?_
    rintro e w2 ⟨rfl, hU⟩
    have R2 := Lib.hid (R1.out.still hU)
    have U2 := Lib.hid (U1.out.trans hU)
    clear hU
    go_wp2_with fail
    refine (ownYes _ F M _ ws (HV.out.still U2.out) HR.out).mono ?_
    rintro e w3 ⟨base, g, rfl, hg, hT, hU⟩
    have T3 := Lib.hid hT
    have R3 := Lib.hid (R2.out.still hU)
    have U3 := Lib.hid (U2.out.trans hU)
    clear hU hT hg
    go_wp2_with fail
    refine (ownerT _ base g F M ws T3.out tick).mono ?_
    rintro e w4 ⟨rfl, hU⟩
    rw [HO.out]
    have T4 := Lib.hid (T3.out.still hU)
    have R4 := Lib.hid (R3.out.still hU)
    have U4 := Lib.hid (U3.out.trans hU)
    clear hU
    go_wp2_with fail
    refine (ownerR _ r F M ws R4.out tick).mono ?_
    rintro e w5 ⟨rfl, hU⟩
    rw [HO.out]
    have T5 := Lib.hid (T4.out.still hU)
    have R5 := Lib.hid (R4.out.still hU)
    have U5 := Lib.hid (U4.out.trans hU)
    clear hU
    go_wp2_with fail
    refine (nextT _ base g F M ws T5.out p tick t' HT'.out hwt).mono ?_
    rintro e w6 ⟨x, b, rfl, hN, hU⟩
    have T6 := Lib.hid (T5.out.still hU)
    have R6 := Lib.hid (R5.out.still hU)
    have U6 := Lib.hid (U5.out.trans hU)
    have HN := Lib.hid hN
    clear hU hN
    go_wp2_with fail
    refine (nextR _ r F M ws R6.out p tick t' HT'.out hwt).mono ?_
    rintro e w7 ⟨y, b', rfl, hN, hU⟩
    have T7 := Lib.hid (T6.out.still hU)
    have R7 := Lib.hid (R6.out.still hU)
    have U7 := Lib.hid (U6.out.trans hU)
    obtain ⟨hxy, hbb⟩ := hN.eq HN.out
    subst hxy hbb
    clear hU hN
    go_wp2_with fail
    refine (offeredTc _ base g F M ws T7.out p c HC.out).mono ?_
    rintro e w8 ⟨rfl, k8, rfl⟩
    have R8 := Lib.hid (R7.out.still ((Upd.refl _ w7).drewN k8))
    have T8 := Lib.hid (T7.out.drewN k8)
    have U8 := Lib.hid (U7.out.drewN k8)
    go_wp2_with fail
    refine (offR _ r F M ws R8.out p c HC.out).mono ?_
    rintro e w9 ⟨rfl, hU⟩
    have T9 := Lib.hid (T8.out.still hU)
    have R9 := Lib.hid (R8.out.still hU)
    have U9 := Lib.hid (U8.out.trans hU)
    clear hU
    go_wp2_with fail
    refine (countT _ base g F M ws T9.out p tick many m HM.out).mono ?_
    rintro e w10 ⟨rfl, k10, rfl⟩
    rw [HK.out]
    have R10 := Lib.hid (R9.out.still ((Upd.refl _ w9).drewN k10))
    have U10 := Lib.hid (U9.out.drewN k10)
    go_wp2_with fail
    refine (countR _ r F M ws R10.out p tick many m HM.out k HK.out).mono ?_
    rintro e w11 ⟨rfl, hU⟩
    have U11 := Lib.hid (U10.out.trans hU)
    clear hU
    go_wp2_with fail
    go_returns
    exact ⟨by simp, U11.out⟩
  · have HR := Lib.hid (Bool.eq_false_iff.2 hr)
    clear hr
    by_cases hl : ws.length ≤ 60
    · have d0 : decide (60 < (ws.length : Int)) = false := decide_eq_false (by omega)
      have d0' : ¬ 60 < ws.length := by omega
      go_enter Try.func6, Try.ntmps6
      go_wp2_with fail
      refine (refNo _ n M _ ws HV.out HR.out).mono ?_
      rintro e w1 ⟨rfl, hU⟩
      have U1 := Lib.hid hU
      clear hU
      go_wp2_with fail
      refine (knowsF _).mono ?_
      rintro e w2 ⟨rfl, hU⟩
      have U2 := Lib.hid (U1.out.trans hU)
      clear hU
      go_wp2_with fail
      go_returns
      exact ⟨rfl, U2.out⟩
    · have d0 : decide (60 < (ws.length : Int)) = true := decide_eq_true (by omega)
      have d0' : 60 < ws.length := by omega
      go_enter Try.func6, Try.ntmps6
      go_wp2_with fail
      refine (refNo _ n M _ ws HV.out HR.out).mono ?_
      rintro e w1 ⟨rfl, hU⟩
      have U1 := Lib.hid hU
      clear hU
      go_wp2_with fail
      refine (knowsF _).mono ?_
      rintro e w2 ⟨rfl, hU⟩
      have U2 := Lib.hid (U1.out.trans hU)
      clear hU
      go_wp2_with fail
      go_returns
      exact ⟨rfl, U2.out⟩

theorem frameTells_any (w : World) (n : Int) (_ : (Lit.int .i64 n).wf = true) (M : Int) (_ : (Lit.int .i64 M).wf = true) (A : Option Addr) (len cap : Nat) (xs : Nat → Nat → Int) (_ : ∀ k j, k < len → j < 3 → (Lit.int .i64 (xs k j)).wf = true) (hc : Row3 w A len xs)
    (p : Int) (_ : (Lit.int .i64 p).wf = true) (tick : Int) (ht : (Lit.int .i64 tick).wf = true) (many : Int) (_ : (Lit.int .i64 many).wf = true) :
    Calls Try.prog 6 #[.int .i64 n, .int .i64 M, .slice A len cap, .int .i64 p, .int .i64 tick, .int .i64 many] w fun e w' => e = .returned (.bool true) ∧ Below w.heap.size w w' := by
  have h1 : -9223372036854775808 ≤ tick := by
    simp only [Lit.wf, Bool.and_eq_true, decide_eq_true_eq] at ht
    exact ht.1
  exact (tells_any w n M _ _ (rdW_of hc) p tick many h1).mono (fun _ _ ⟨h1, h2⟩ => ⟨h1, h2.below (Nat.le_refl _) (fun _ h => h.elim)⟩)
end Go.Proofs.Ytldbjoegfcmfkaa
