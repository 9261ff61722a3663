/-
  The walk of frame.New.
-/
import Derived.Test.YtcgefncddbbnlaaFrameG
import Derived.Test.YtcgefncddbbnlaaCloneW
import Derived.Test.YtcgefncddbbnlaaSeqT
namespace Go.Proofs.Ytcgefncddbbnlaa.Fr
open Go.RowKit
attribute [local go_sem] max_ints min_ints

def tabc (L : Value) (M : Int) (F : Nat) (A : Nat → Value) : Array Value := #[L, .int .i64 M, .int .i64 F, A 0, A 1, A 2, A 3, A 4, A 5]
theorem tabc_set (L : Value) (M : Int) (F : Nat) (A : Nat → Value) (v : Value) : ∀ i, i < 6 → (tabc L M F A).setIfInBounds (3 + i) v = tabc L M F (fun q => if q = i then v else A q)
  | 0, _ => rfl
  | 1, _ => rfl
  | 2, _ => rfl
  | 3, _ => rfl
  | 4, _ => rfl
  | 5, _ => rfl
theorem rightB_mk {F : Int} {M : Int} {ws : List W3} (h1 : 1 ≤ F) (h2 : F ≤ 256) (h3 : 0 ≤ M) (h4 : M ≤ 8) (h5 : ws.length ≤ 32) : rightB F M ws = fitsB F 0 ws := by
  unfold rightB
  rw [decide_eq_true ⟨h1, h2, h3, h4, h5⟩]
  rfl

set_option maxRecDepth 100000 in
set_option maxHeartbeats 1600000 in
theorem newYes (w : World) (base F : Nat) (M : Int) (v : Value) (ws : List W3) (hv : SlR encW w base 79 3 v ws) (hr : rightB F M ws = true) :
    Calls Try.prog 43 #[.int .i64 F, .int .i64 M, v] w fun e w' => ∃ g, e = .returned (.pointer (some ⟨g, 0, none⟩)) ∧ w.heap.size ≤ g ∧ TabS w' w.heap.size g F M ws ∧ Upd (fun _ => False) w w' := by
  obtain ⟨hF1, hF2, hM, hM8, hl, hfit⟩ := rightB_parts hr
  have HFIT := Lib.hid hfit; have HR := Lib.hid hr
  have d1 : decide ((F : Int) < 1) = false := decide_eq_false (by omega)
  have d2 : decide (256 < (F : Int)) = false := decide_eq_false (by omega)
  have d3 : decide (M < 0) = false := decide_eq_false (by omega)
  have d4 : decide (8 < M) = false := decide_eq_false (by omega)
  have d5 : decide (32 < (ws.length : Int)) = false := decide_eq_false (by omega)
  have tF : ¬ (F = 0) := by omega
  have HV := Lib.hid hv
  obtain ⟨A0, cap, hsh⟩ := hv.shape
  subst hsh
  clear hv hr hfit
  go_enter Try.func43, Try.ntmps43
  go_wp2_with fail
  refine (fitsW _ F (by omega) (by omega) _ ws (RdW.of HV.out) (by omega)).mono ?_
  rintro e w1 ⟨rfl, hU1⟩
  rw [HFIT.out]
  have U1 := Lib.hid hU1
  clear hU1
  go_wp2_with fail
  refine (cloneW _ base _ ws (HV.out.still U1.out) (by omega)).mono ?_
  rintro e w2 ⟨v2, rfl, h2, hU2⟩
  have U2 := Lib.hid (U1.out.trans hU2)
  have V2 := Lib.hid (SlR.mono h2 U1.out.size)
  obtain ⟨A2, cap2, hsh⟩ := h2.shape
  subst hsh
  clear h2 hU2
  go_wp2_with fail
  have B2 := Lib.hid (Blk.new w2 87 (tabc (.slice A2 ws.length cap2) M F (fun _ => .slice none 0 0)))
  have V3 := Lib.hid (V2.out.alloc (.cells (tabc (.slice A2 ws.length cap2) M F (fun _ => .slice none 0 0)) 87))
  have U3 := Lib.hid (U2.out.alloc (.cells (tabc (.slice A2 ws.length cap2) M F (fun _ => .slice none 0 0)) 87))
  have HG : Hid (w.heap.size ≤ w2.heap.size) := Lib.hid U2.out.size
  obtain ⟨g, hg⟩ : ∃ g, w2.heap.size = g := ⟨_, rfl⟩
  rw [hg] at B2 HG ⊢
  go_loopw [41] (fun vi wr => ∃ (i : Nat) (A : Nat → Value), i ≤ 6 ∧ vi = .int .i64 i ∧ Blk wr g 87 (tabc (.slice A2 ws.length cap2) M F A) ∧ (∀ q : Nat, q < i → SlR encI wr w.heap.size 3 1 (A q) (aheadL M ws q F)) ∧
    SlR encW wr w.heap.size 79 3 (.slice A2 ws.length cap2) ws ∧ Upd (fun _ => False) w wr) (fun vi _ => 6 - (intOf vi).toNat)
  case atStart => exact ⟨0, _, by omega, rfl, B2.out, (fun q hq => by omega), V3.out, U3.out⟩
  case round =>
    obtain ⟨i, A, hi, rfl, hB, hA, hV, hU⟩ := hrel
    have HB := Lib.hid hB; have HA := Lib.hid hA; have HV' := Lib.hid hV; have HU := Lib.hid hU
    clear hB hA hV hU
    by_cases hlt : i < 6
    · go_upto_region 7 with fail
      refine wp_region_tree (.q 0 (.q 1 (.q 2 (.q 3 (.q 5 (.q 6 (.l 4 (.q 7 (.l 8 .d))))))))) (fun i => decide (9 ≤ i ∧ i < 9)) (fun _ => True)
        (by kernel_rfl) (by kernel_rfl) (fun t ht => (of_decide_eq_true ht).2) (fun _ _ _ _ _ h => h) (by kernel_rfl) rfl trivial ?_
      iterate 6
        refine' wpOT_q (by rfl) (by rfl) (fun w' hS' => ?_) ?_
        rotate_left
        · go_simp
          try rfl
        try simp only [Act.put, List.setIfInBounds_toArray, List.set_cons_zero, List.set_cons_succ]
      refine wpOT_l (by rfl) (by rfl) (fun KQ hKQ => ?_)
      go_simp
      go_at_call 64
      refine (tallyT _ g F M ws _ _ (HB.out.drewN 1) rfl rfl rfl (RdW.of (HV'.out.drewN 1)) HR.out i hlt).mono ?_
      rintro e w9 ⟨v, rfl, hS, hU9⟩
      have S9 := Lib.hid hS
      have U9 := Lib.hid ((HU.out.drewN 1).trans hU9)
      have B9 := Lib.hid ((HB.out.drewN 1).upd hU9 (fun h => h))
      have V9 := Lib.hid ((HV'.out.drewN 1).still hU9)
      have A9 : Hid (∀ q : Nat, q < i → SlR encI w9 w.heap.size 3 1 (A q) (aheadL M ws q F)) := Lib.hid (fun q hq => ((HA.out q hq).drewN 1).still hU9)
      have f9 := B9.out.frozen (3 + i)
      have c9 : w9.cell? ⟨g, 3 + i, none⟩ = some (A i) := (B9.out.cell (3 + i)).trans (by
        match i, hlt with
        | 0, _ => rfl
        | 1, _ => rfl
        | 2, _ => rfl
        | 3, _ => rfl
        | 4, _ => rfl
        | 5, _ => rfl)
      obtain ⟨av, cv, hsh⟩ := hS.shape
      subst hsh
      clear hS hU9
      refine hKQ _ _ (.inr trivial) ?_
      clear hKQ KQ
      try simp only [Act.put, List.setIfInBounds_toArray, List.set_cons_zero, List.set_cons_succ]
      iterate 1
        refine' wpOT_q (by rfl) (by rfl) (fun w' hS' => ?_) ?_
        rotate_left
        · go_simp
          try rfl
        try simp only [Act.put, List.setIfInBounds_toArray, List.set_cons_zero, List.set_cons_succ]
      refine wpOT_l (by rfl) (by rfl) (fun KQ hKQ => ?_)
      go_simp
      refine hKQ _ _ (.inr trivial) ?_
      clear hKQ KQ
      try simp only [Act.put, List.setIfInBounds_toArray, List.set_cons_zero, List.set_cons_succ]
      refine wpOT_d ?_
      have UG : Hid (Upd (fun k => k = g) w9 (w9.setCell ⟨g, 3 + i, none⟩ (.slice av (aheadL M ws (i : Int) F).length cv))) := Lib.hid ((Upd.refl (fun k => k = g) w9).setCell (p := ⟨g, 3 + i, none⟩) (fun _ => rfl) _)
      go_wp2_with fail
      go_roundw
      case rel =>
        refine ⟨i + 1, fun q => if q = i then .slice av (aheadL M ws (i : Int) F).length cv else A q, by omega, by go_num, ?_, ?_, ?_, U9.out.setCell (p := ⟨g, 3 + i, none⟩) (fun h => by have := HG.out; simp only at h; omega) _⟩
        · have := B9.out.set_ (3 + i) (.slice av (aheadL M ws (i : Int) F).length cv)
          rw [tabc_set _ _ _ _ _ i hlt] at this
          exact this
        · intro q hq
          by_cases e : q = i
          · subst e
            dsimp only
            rw [if_pos rfl]
            exact (SlR.mono S9.out (by have := (HU.out).size; simpa using this)).upd UG.out (fun k hk => Sl.ne_ S9.out B9.out (by decide) k hk)
          · dsimp only
            rw [if_neg e]
            exact (A9.out q (by omega)).upd UG.out (fun k hk => Sl.ne_ (A9.out q (by omega)) B9.out (by decide) k hk)
        · exact V9.out.upd UG.out (fun k hk => Sl.ne_ V9.out B9.out (by decide) k hk)
      case measure => simp [intOf]; omega
    · have hie : i = 6 := by omega
      subst hie
      go_wp2_with fail
      go_returns
      refine ⟨g, rfl, HG.out, ⟨_, A, HB.out, HV'.out, HA.out, HR.out⟩, HU.out⟩

set_option maxRecDepth 100000 in
set_option maxHeartbeats 1600000 in
theorem newNo (w : World) (base : Nat) (F M : Int) (v : Value) (ws : List W3) (hv : SlR encW w base 79 3 v ws) (hl : ws.length ≤ 1000) (hr : rightB F M ws = false) :
    Calls Try.prog 43 #[.int .i64 F, .int .i64 M, v] w fun e w' => e = .returned (.pointer none) ∧ Upd (fun _ => False) w w' := by
  have HV := Lib.hid hv
  obtain ⟨A0, cap, hsh⟩ := hv.shape
  subst hsh
  clear hv
  by_cases h1 : 1 ≤ F
  · have d1 : decide (F < 1) = false := decide_eq_false (by omega)
    by_cases h2 : F ≤ 256
    · have d2 : decide (256 < F) = false := decide_eq_false (by omega)
      by_cases h3 : 0 ≤ M
      · have d3 : decide (M < 0) = false := decide_eq_false (by omega)
        by_cases h4 : M ≤ 8
        · have d4 : decide (8 < M) = false := decide_eq_false (by omega)
          by_cases h5 : ws.length ≤ 32
          · have d5 : decide (32 < (ws.length : Int)) = false := decide_eq_false (by omega)
            have d6 : ¬ 32 < ws.length := by omega
            have HFIT : Hid (fitsB F 0 ws = false) := Lib.hid (by rw [← rightB_mk h1 h2 h3 h4 h5]; exact hr)
            clear hr
            go_enter Try.func43, Try.ntmps43
            go_wp2_with fail
            refine (fitsW _ F h1 h2 _ ws (RdW.of HV.out) hl).mono ?_
            rintro e w1 ⟨rfl, hU1⟩
            rw [HFIT.out]
            have U1 := Lib.hid hU1
            clear hU1
            go_wp2_with fail
            go_returns
            exact ⟨rfl, U1.out⟩
          · have d5 : decide (32 < (ws.length : Int)) = true := decide_eq_true (by omega)
            have d6 : 32 < ws.length := by omega
            clear hr
            go_enter Try.func43, Try.ntmps43
            go_wp2_with fail
            go_returns
            exact ⟨rfl, Upd.refl _ _⟩
        · have d4 : decide (8 < M) = true := decide_eq_true (by omega)
          clear hr
          go_enter Try.func43, Try.ntmps43
          go_wp2_with fail
          go_returns
          exact ⟨rfl, Upd.refl _ _⟩
      · have d3 : decide (M < 0) = true := decide_eq_true (by omega)
        clear hr
        go_enter Try.func43, Try.ntmps43
        go_wp2_with fail
        go_returns
        exact ⟨rfl, Upd.refl _ _⟩
    · have d2 : decide (256 < F) = true := decide_eq_true (by omega)
      clear hr
      go_enter Try.func43, Try.ntmps43
      go_wp2_with fail
      go_returns
      exact ⟨rfl, Upd.refl _ _⟩
  · have d1 : decide (F < 1) = true := decide_eq_true (by omega)
    clear hr
    go_enter Try.func43, Try.ntmps43
    go_wp2_with fail
    go_returns
    exact ⟨rfl, Upd.refl _ _⟩
end Go.Proofs.Ytcgefncddbbnlaa.Fr
