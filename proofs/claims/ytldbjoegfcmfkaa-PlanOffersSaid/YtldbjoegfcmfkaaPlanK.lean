/-
  The walk of plan.Gaps.
-/
import Derived.Test.YtldbjoegfcmfkaaPlanJ
namespace Go.Proofs.Ytldbjoegfcmfkaa
open Go.RowKit
attribute [local go_sem] max_ints min_ints

theorem stepG_snoc {xs : List W3} {i : Nat} {x : W3} (h : xs[i]? = some x) (s : List W3 × Int) : (xs.take (i + 1)).foldl stepG s = stepG ((xs.take i).foldl stepG s) x := by
  rw [take_one h, List.foldl_append]
  rfl
theorem new_cellsW (w : World) (cs : List Value) (t : TypeId) : ∀ j u, cs[j]? = some u → (w.alloc (.cells cs.toArray t)).cell? ((⟨w.heap.size, 0, none⟩ : Addr).add j) = some u := by
  intro j u hu
  rw [add_at, (Blk.new _ _ _).cell j]
  simpa using hu

set_option maxRecDepth 100000 in
set_option maxHeartbeats 3200000 in
theorem gapsP (w : World) (base : Nat) (n : Int) (v : Value) (ws : List W3) (hv : SlR encW w base 39 3 v ws) (hl : ws.length ≤ 1000) (gs : List W3) (hgs : (if rightB n 0 ws = true then gapsN n ws else []) = gs) :
    Calls Try.prog 18 #[.int .i64 n, v] w fun e w' => ∃ v', e = .returned v' ∧ SlR encW w' w.heap.size 39 3 v' gs ∧ Upd (fun _ => False) w w' := by
  have HV := Lib.hid hv
  obtain ⟨A, cap, hsh⟩ := hv.shape
  subst hsh
  clear hv
  by_cases hr : rightB n 0 ws = true
  · rw [if_pos hr] at hgs
    have HR := Lib.hid hr
    have HGS := Lib.hid hgs
    have hn1 : 1 ≤ n := by
      have := hr
      unfold rightB at this
      simp only [Bool.and_eq_true, decide_eq_true_eq] at this
      omega
    obtain ⟨F, rfl⟩ : ∃ F : Nat, n = F := ⟨n.toNat, by omega⟩
    obtain ⟨hF1, hF2, _, _, hl32, hfit⟩ := rightB_parts hr
    have HF := Lib.hid hfit
    clear hr hgs hfit
    obtain ⟨i0, hi0, hz0, hz1, hz2⟩ := info_parts infoW
    obtain ⟨xs, hxs⟩ : ∃ xs, ws ++ [((F : Int), (0 : Int), (0 : Int))] = xs := ⟨_, rfl⟩
    have hxl : xs.length = ws.length + 1 := by rw [← hxs]; simp
    have HXS := Lib.hid hxs
    have HB : Hid (∀ x ∈ xs, 0 ≤ x.1 ∧ x.1 ≤ 256 ∧ 0 ≤ x.2.1 ∧ x.2.1 ≤ 256) := Lib.hid (by
      intro x hx
      rw [← HXS.out] at hx
      rcases List.mem_append.1 hx with hx | hx
      · have := fitsB_mem HF.out x hx; omega
      · simp only [List.mem_singleton] at hx; subst hx; dsimp only; omega)
    clear hxs
    go_enter Try.func18, Try.ntmps18
    go_wp2_with fail
    refine (newYes _ base F 0 _ ws HV.out HR.out).mono ?_
    rintro e w1 ⟨g, rfl, _, _, hU⟩
    have U1 := Lib.hid hU
    clear hU
    go_wp2_with fail
    refine (cloneW _ base _ ws (HV.out.still U1.out) (by omega)).mono ?_
    rintro e w2 ⟨v2, rfl, hS, hU⟩
    have S2 := Lib.hid hS
    have hsz1 := U1.out.size
    have hsz12 := hU.size
    have U2 := Lib.hid (U1.out.trans hU)
    have hsz2 := U2.out.size
    obtain ⟨A2, c2, hsh⟩ := hS.shape
    subst hsh
    clear hS hU
    go_wp2_with (
      at_builtin
      refine wpList_append_sl rfl (.tmp 14) (.tmp 17) 24 rfl w1.heap.size 39 i0 _ 3 24 Try.underlying24 hi0 hz0 hz1 hz2 rfl (by decide) _ ws.length (rws encW ws) rfl (by exact Sl.alloc S2.out (.cells #[.int .i64 F, .int .i64 0, .int .i64 0] 39)) ⟨_, 0, none⟩ 1 [.int .i64 F, .int .i64 0, .int .i64 0] rfl rfl (new_cellsW w2 _ _) (by simp [Value.oneCell']) (by unfold maxLen; omega) (by omega) (by simp; omega) ?_
      intro v' w6 hs6 hu6 hv6
      have FS6 : Hid (SlR encW w6 w1.heap.size 39 3 v' xs) := Lib.hid (by
        rw [← HXS.out]
        unfold SlR
        rw [List.length_append, rws_append]
        exact hs6)
      have U6 : Hid (Upd (fun _ => False) w w6) := Lib.hid (by
        have h1 := (U2.out.alloc (.cells #[.int .i64 F, .int .i64 0, .int .i64 0] 39)).mono (S' := fun k => w1.heap.size ≤ k) (fun _ _ h => h.elim)
        exact (h1.trans (hu6.mono (fun k _ hk => (Sl.blk S2.out k hk).1))).mono (fun k hk h => absurd h (by omega)))
      obtain ⟨bq, oq, cq, rfl, _, _, _, _⟩ := hs6.form (by omega)
      clear hs6 hu6 hv6)
    go_loopw [5, 6, 20] (fun vx ve vi wr => ∃ (i : Nat) (o : List W3) (e : Int), i ≤ ws.length + 1 ∧ vi = .int .i64 i ∧ ve = .int .i64 e ∧ (xs.take i).foldl stepG ([], 0) = (o, e) ∧ 0 ≤ e ∧ e ≤ 512 ∧ o.length ≤ i ∧ SlR encW wr w6.heap.size 39 3 vx o ∧ Upd (fun _ => False) w6 wr) (fun _ _ vi _ => ws.length + 1 - (intOf vi).toNat)
    case atStart => exact ⟨0, [], 0, Nat.zero_le _, rfl, rfl, rfl, by decide, by decide, by decide, SlR.nil, Upd.refl _ w6⟩
    case round =>
      obtain ⟨i, o, e, hi, rfl, rfl, hst, he0, he1, hol, hS, hU⟩ := hrel
      have HST := Lib.hid hst; have HS := Lib.hid hS; have HU := Lib.hid hU
      obtain ⟨Ax, cx, hsh⟩ := hS.shape
      subst hsh
      clear hst hS hU
      by_cases hlt : i < ws.length + 1
      · obtain ⟨x, hx⟩ : ∃ x, xs[i]? = some x := ⟨_, List.getElem?_eq_getElem (by omega)⟩
        have hxb := HB.out x (List.mem_of_getElem? hx)
        obtain ⟨A', cap', e', hcell⟩ := RdW.of (FS6.out.still HU.out)
        rw [hxl] at e'
        injection e' with e1 e2 e3
        subst e1 e3
        obtain ⟨b, o', e', hb, q0, q1, q2⟩ := hcell i x hx
        injection e' with e'
        injection e' with e1 e2
        subst e1 e2
        have HX : Hid ((xs.take (i + 1)).foldl stepG ([], 0) = (if e < x.1 then o ++ [(e, x.1 - e, 0)] else o, x.1 + x.2.1)) := Lib.hid (by rw [stepG_snoc hx, HST.out]; rfl)
        clear hcell hx
        obtain ⟨x0, x1, x2⟩ := x
        dsimp only at *
        have hsz := HU.out.size
        have HU1 := Lib.hid (HU.out.alloc (.cells #[.int .i64 x0, .int .i64 x1, .int .i64 x2] 39))
        have w1' := wrap_in (x0 + x1) (by omega) (by omega)
        by_cases hg : e < x0
        · rw [if_pos hg] at HX
          have d1 : decide (e < x0) = true := decide_eq_true hg
          have w2' := wrap_in (x0 - e) (by omega) (by omega)
          go_wp2_with (
            at_builtin
            refine wpList_append_sl rfl (.tmp 28) (.tmp 35) 24 rfl w6.heap.size 39 i0 _ 3 24 Try.underlying24 hi0 hz0 hz1 hz2 rfl (by decide) _ o.length (rws encW o) rfl (by exact Sl.alloc (Sl.alloc HS.out (.cells #[.int .i64 x0, .int .i64 x1, .int .i64 x2] 39)) (.cells #[.int .i64 e, .int .i64 (x0 - e), .int .i64 0] 39)) ⟨_, 0, none⟩ 1 [.int .i64 e, .int .i64 (x0 - e), .int .i64 0] rfl rfl (new_cellsP wr _ _ _) (by simp [Value.oneCell']) (by unfold maxLen; omega) (by omega) (by simp; omega) ?_
            intro v' w7 hs7 hu7 hv7
            have FS7 := Lib.hid hs7
            have U7 : Hid (Upd (fun _ => False) w6 w7) := Lib.hid (by
              have h1 := (HU1.out.alloc (.cells #[.int .i64 e, .int .i64 (x0 - e), .int .i64 0] 39)).mono (S' := fun k => w6.heap.size ≤ k) (fun _ _ h => h.elim)
              exact (h1.trans (hu7.mono (fun k _ hk => (Sl.blk HS.out k hk).1))).mono (fun k hk h => absurd h (by omega)))
            have C7 : Hid (w7.cell? ⟨wr.heap.size, 0, none⟩ = some (.int .i64 x0) ∧ w7.cell? ⟨wr.heap.size, 1, none⟩ = some (.int .i64 x1)) := Lib.hid (by
              have hB := ((Blk.new wr 39 #[.int .i64 x0, .int .i64 x1, .int .i64 x2]).alloc (.cells #[.int .i64 e, .int .i64 (x0 - e), .int .i64 0] 39)).upd hu7 (fun h => by have := (Sl.blk HS.out _ h).2.1; omega)
              exact ⟨hB.cell 0, hB.cell 1⟩)
            have c70 := C7.out.1
            have c71 := C7.out.2
            obtain ⟨bz, oz, cz, rfl, _, _, _, _⟩ := hs7.form (by omega)
            clear hs7 hu7 hv7)
          go_roundw
          case rel =>
            refine ⟨i + 1, o ++ [(e, x0 - e, 0)], x0 + x1, by omega, by go_num, rfl, HX.out, by omega, by omega, by simp; omega, ?_, U7.out⟩
            unfold SlR
            rw [List.length_append, rws_append]
            exact FS7.out
          case measure => simp [intOf]; omega
        · rw [if_neg hg] at HX
          have d1 : decide (e < x0) = false := decide_eq_false hg
          go_wp2_with fail
          go_roundw
          case rel => exact ⟨i + 1, o, x0 + x1, by omega, by go_num, rfl, HX.out, by omega, by omega, by omega, SlR.alloc HS.out _, HU1.out⟩
          case measure => simp [intOf]; omega
      · have hie : i = ws.length + 1 := by omega
        subst hie
        rw [← hxl, List.take_length] at HST
        have HE : Hid (gs = o) := Lib.hid (by rw [← HGS.out, gapsN, HXS.out, HST.out])
        have hsz := U6.out.size
        go_wp2_with fail
        go_returns
        exact ⟨_, rfl, by rw [HE.out]; exact HS.out.mono hsz, U6.out.trans HU.out⟩
  · rw [if_neg hr] at hgs
    subst hgs
    have HR := Lib.hid (Bool.eq_false_iff.2 hr)
    clear hr
    go_enter Try.func18, Try.ntmps18
    go_wp2_with fail
    refine (newNo _ base n 0 _ ws HV.out hl HR.out).mono ?_
    rintro e w1 ⟨rfl, hU⟩
    have U1 := Lib.hid hU
    clear hU
    go_wp2_with fail
    go_returns
    exact ⟨_, rfl, SlR.nil, U1.out⟩
end Go.Proofs.Ytldbjoegfcmfkaa
