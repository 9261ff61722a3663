/-
  The walks of the document's table: Right, Owner, Is, Offered, Count, Next.
-/
import Derived.Test.YtcgefncddbbnlaaFrameD
namespace Go.Proofs.Ytcgefncddbbnlaa.Fr
open Go.RowKit
attribute [local go_sem] max_ints min_ints

set_option maxRecDepth 100000 in
set_option maxHeartbeats 6400000 in
theorem rightR (w : World) (F M : Int) (v : Value) (ws : List W3) (h : RdW w v ws) :
    Calls Try.prog 18 #[.int .i64 F, .int .i64 M, v] w fun e w' => e = .returned (.bool (rightB F M ws)) ∧ Upd (fun _ => False) w w' := by
  have HR := Lib.hid h
  obtain ⟨A, cap, rfl, _⟩ := h
  by_cases g1 : 1 ≤ F
  · have q1 : decide (F < 1) = false := decide_eq_false (by omega)
    by_cases g2 : F ≤ 256
    · have q2 : decide (256 < F) = false := decide_eq_false (by omega)
      by_cases g3 : 0 ≤ M
      · have q3 : decide (M < 0) = false := decide_eq_false (by omega)
        by_cases g4 : M ≤ 8
        · have q4 : decide (8 < M) = false := decide_eq_false (by omega)
          by_cases g5 : ws.length ≤ 32
          · have q5 : decide (32 < (ws.length : Int)) = false := decide_eq_false (by omega)
            have q6 : ¬ 32 < ws.length := by omega
            have hfb : rightB F M ws = fitsB F 0 ws := by
              unfold rightB
              rw [decide_eq_true ⟨g1, g2, g3, g4, g5⟩]
              rfl
            rw [hfb]
            clear hfb
            go_enter Try.func18, Try.ntmps18
            go_wp2_with fail
            go_loopw [7, 8] (fun va vi wr => ∃ (i : Nat) (at_ : Int), i ≤ ws.length ∧ vi = .int .i64 i ∧ va = .int .i64 at_ ∧ 0 ≤ at_ ∧ at_ ≤ 256 ∧ fitsB F 0 ws = fitsB F at_ (ws.drop i) ∧ Upd (fun _ => False) w wr) (fun _ vi _ => ws.length - (intOf vi).toNat)
            case atStart => exact ⟨0, 0, Nat.zero_le _, rfl, rfl, by omega, by omega, rfl, Upd.refl _ _⟩
            case round =>
              obtain ⟨i, at_, hi, rfl, rfl, ha0, ha1, hfit, hU⟩ := hrel
              have HFIT := Lib.hid hfit; have HU := Lib.hid hU
              clear hfit hU
              by_cases hlt : i < ws.length
              · obtain ⟨x, hx⟩ : ∃ x, ws[i]? = some x := ⟨_, List.getElem?_eq_getElem hlt⟩
                obtain ⟨A', cap', e, hcell⟩ := HR.out.still HU.out
                injection e with e1 e2 e3
                subst e1 e3
                obtain ⟨b, o, rfl, hb, c0, c1, c2⟩ := hcell i x hx
                have HX := Lib.hid (drop_cons hx)
                clear hcell hx
                obtain ⟨x0, x1, x2⟩ := x
                dsimp only at *
                by_cases h1 : at_ ≤ x0
                · have d1 : decide (x0 < at_) = false := decide_eq_false (by omega)
                  by_cases h2 : x0 < F
                  · have d2 : decide (F ≤ x0) = false := decide_eq_false (by omega)
                    by_cases h3 : 1 ≤ x1
                    · have d3 : decide (x1 < 1) = false := decide_eq_false (by omega)
                      by_cases h4 : x1 ≤ F - x0
                      · have d4 : decide (F - x0 < x1) = false := decide_eq_false (by omega)
                        by_cases h5 : 0 ≤ x2
                        · have d5 : decide (x2 < 0) = false := decide_eq_false (by omega)
                          by_cases h6 : x2 < 6
                          · have d6 : decide (6 ≤ x2) = false := decide_eq_false (by omega)
                            have hyes := fitsB_yes (F := F) (at_ := at_) (x := (x0, x1, x2)) (t := ws.drop (i + 1)) ⟨by omega, by omega, by omega, by omega, by omega, by omega⟩
                            have HN : Hid (fitsB F 0 ws = fitsB F (x0 + x1) (ws.drop (i + 1))) := Lib.hid (by rw [HFIT.out, HX.out]; exact hyes)
                            clear hyes
                            go_wp2_with fail
                            go_roundw
                            case rel => exact ⟨i + 1, x0 + x1, by omega, by go_num, rfl, by omega, by omega, HN.out, HU.out.alloc _⟩
                            case measure => simp [intOf]; omega
                          · have d6 : decide (6 ≤ x2) = true := decide_eq_true (by omega)
                            have ht : fitsB F 0 ws = false := by rw [HFIT.out, HX.out]; exact fitsB_no (by dsimp only; omega)
                            have HB := Lib.hid ht
                            clear ht
                            go_wp2_with fail
                            go_returns
                            exact ⟨ret_bool HB.out.symm, HU.out.alloc _⟩
                        · have d5 : decide (x2 < 0) = true := decide_eq_true (by omega)
                          have ht : fitsB F 0 ws = false := by rw [HFIT.out, HX.out]; exact fitsB_no (by dsimp only; omega)
                          have HB := Lib.hid ht
                          clear ht
                          go_wp2_with fail
                          go_returns
                          exact ⟨ret_bool HB.out.symm, HU.out.alloc _⟩
                      · have d4 : decide (F - x0 < x1) = true := decide_eq_true (by omega)
                        have ht : fitsB F 0 ws = false := by rw [HFIT.out, HX.out]; exact fitsB_no (by dsimp only; omega)
                        have HB := Lib.hid ht
                        clear ht
                        go_wp2_with fail
                        go_returns
                        exact ⟨ret_bool HB.out.symm, HU.out.alloc _⟩
                    · have d3 : decide (x1 < 1) = true := decide_eq_true (by omega)
                      have ht : fitsB F 0 ws = false := by rw [HFIT.out, HX.out]; exact fitsB_no (by dsimp only; omega)
                      have HB := Lib.hid ht
                      clear ht
                      go_wp2_with fail
                      go_returns
                      exact ⟨ret_bool HB.out.symm, HU.out.alloc _⟩
                  · have d2 : decide (F ≤ x0) = true := decide_eq_true (by omega)
                    have ht : fitsB F 0 ws = false := by rw [HFIT.out, HX.out]; exact fitsB_no (by dsimp only; omega)
                    have HB := Lib.hid ht
                    clear ht
                    go_wp2_with fail
                    go_returns
                    exact ⟨ret_bool HB.out.symm, HU.out.alloc _⟩
                · have d1 : decide (x0 < at_) = true := decide_eq_true (by omega)
                  have ht : fitsB F 0 ws = false := by rw [HFIT.out, HX.out]; exact fitsB_no (by dsimp only; omega)
                  have HB := Lib.hid ht
                  clear ht
                  go_wp2_with fail
                  go_returns
                  exact ⟨ret_bool HB.out.symm, HU.out.alloc _⟩
              · have hii : i = ws.length := by omega
                have ht : fitsB F 0 ws = true := by rw [HFIT.out, hii, List.drop_length]; rfl
                have HB := Lib.hid ht
                clear ht
                go_wp2_with fail
                go_returns
                exact ⟨ret_bool HB.out.symm, HU.out⟩
          · have q5 : decide (32 < (ws.length : Int)) = true := decide_eq_true (by omega)
            have q6 : 32 < ws.length := by omega
            have HB : Hid (rightB F M ws = false) := Lib.hid (by unfold rightB; rw [decide_eq_false (by omega)]; rfl)
            go_enter Try.func18, Try.ntmps18
            go_wp2_with fail
            go_returns
            exact ⟨ret_bool HB.out.symm, Upd.refl _ _⟩
        · have q4 : decide (8 < M) = true := decide_eq_true (by omega)
          have HB : Hid (rightB F M ws = false) := Lib.hid (by unfold rightB; rw [decide_eq_false (by omega)]; rfl)
          go_enter Try.func18, Try.ntmps18
          go_wp2_with fail
          go_returns
          exact ⟨ret_bool HB.out.symm, Upd.refl _ _⟩
      · have q3 : decide (M < 0) = true := decide_eq_true (by omega)
        have HB : Hid (rightB F M ws = false) := Lib.hid (by unfold rightB; rw [decide_eq_false (by omega)]; rfl)
        go_enter Try.func18, Try.ntmps18
        go_wp2_with fail
        go_returns
        exact ⟨ret_bool HB.out.symm, Upd.refl _ _⟩
    · have q2 : decide (256 < F) = true := decide_eq_true (by omega)
      have HB : Hid (rightB F M ws = false) := Lib.hid (by unfold rightB; rw [decide_eq_false (by omega)]; rfl)
      go_enter Try.func18, Try.ntmps18
      go_wp2_with fail
      go_returns
      exact ⟨ret_bool HB.out.symm, Upd.refl _ _⟩
  · have q1 : decide (F < 1) = true := decide_eq_true (by omega)
    have HB : Hid (rightB F M ws = false) := Lib.hid (by unfold rightB; rw [decide_eq_false (by omega)]; rfl)
    go_enter Try.func18, Try.ntmps18
    go_wp2_with fail
    go_returns
    exact ⟨ret_bool HB.out.symm, Upd.refl _ _⟩
end Go.Proofs.Ytcgefncddbbnlaa.Fr
