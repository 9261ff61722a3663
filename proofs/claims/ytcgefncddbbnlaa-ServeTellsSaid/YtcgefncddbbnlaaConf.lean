/-
  May a server be? (conf.Server.Right: numbers that rise.)
-/
import Derived.Test.YtcgefncddbbnlaaSl
namespace Go.Proofs.Ytcgefncddbbnlaa.Cf
open Go.RowKit

set_option maxHeartbeats 400000 in
theorem nan_ (w : World) (a : Int) : Calls Try.prog 81 #[.int .i64 a] w fun e w' => e = .returned (.bool false) ∧ ∃ k, w' = w.drewN k := by
  go_enter Try.func81, Try.ntmps81
  go_wp2
  go_ret
  exact ⟨by simp, 0, rfl⟩

set_option maxHeartbeats 400000 in
theorem less_ (w : World) (a b : Int) (t : Bool) (ht : decide (a < b) = t) : Calls Try.prog 67 #[.int .i64 a, .int .i64 b] w fun e w' => e = .returned (.bool t) ∧ ∃ k, w' = w.drewN k := by
  go_enter Try.func67, Try.ntmps67
  go_wp2_with fail
  refine (nan_ _ _).mono ?_
  rintro e w1 ⟨rfl, k, rfl⟩
  go_wp2
  go_ret
  exact ⟨rfl, k, rfl⟩

set_option maxRecDepth 100000 in
set_option maxHeartbeats 800000 in
theorem sorted_ (w : World) (b m cap : Nat) (f : Nat → Int) (hc : ∀ k, k < m + 1 → w.cell? ⟨b, k, none⟩ = some (.int .i64 (f k))) (hm : m < 1000) (t : Bool) (ht : decide (∀ k, k < m → f k ≤ f (k + 1)) = t) :
    Calls Try.prog 46 #[.slice (some ⟨b, 0, none⟩) (m + 1) cap] w fun e w' => e = .returned (.bool t) ∧ Upd (fun _ => False) w w' := by
  have HC := Lib.hid hc; clear hc
  have HT := Lib.hid ht; clear ht
  go_enter Try.func46, Try.ntmps46
  go_wp2_with fail
  go_loopw [3] (fun vi wr => ∃ i : Nat, i ≤ m ∧ vi = .int .i64 i ∧ (∀ k, i ≤ k → k < m → f k ≤ f (k + 1)) ∧ Upd (fun _ => False) w wr) (fun vi _ => (intOf vi).toNat)
  case atStart => exact ⟨m, Nat.le_refl _, by go_num, fun k h1 h2 => by omega, Upd.refl _ _⟩
  case round =>
    obtain ⟨i, hi, rfl, hs, hU⟩ := hrel
    have HS := Lib.hid hs; clear hs
    cases i with
    | zero =>
      have htt : t = true := by
        rw [← HT.out]
        exact decide_eq_true (fun k hk => HS.out k (Nat.zero_le _) hk)
      subst htt
      go_wp2_with fail
      go_ret
      exact ⟨rfl, hU⟩
    | succ i =>
      have hb1 := HC.out (i + 1) (by omega)
      have hb0 := HC.out i (by omega)
      have h1 := (hU.cell (p := ⟨b, i + 1, none⟩) (block_lt_of_cell hb1) (fun h => h)).trans hb1
      have h0 := (hU.cell (p := ⟨b, i, none⟩) (block_lt_of_cell hb0) (fun h => h)).trans hb0
      clear hb1 hb0
      have HU := Lib.hid hU; clear hU
      generalize hx : f (i + 1) = x at *
      generalize hy : f i = y at *
      have HX := Lib.hid hx; have HY := Lib.hid hy; clear hx hy
      obtain ⟨q, hq⟩ : ∃ q, decide (x < y) = q := ⟨_, rfl⟩
      have HQ := Lib.hid hq; clear hq
      have e0 : decide ((0 : Int) < ((i + 1 : Nat) : Int)) = true := decide_eq_true (by omega)
      go_wp2_with fail
      go_quiet ((go_at_call 67; exact Calls.quiet_of (less_ _ _ _ q HQ.out)))
      cases q
      · go_wp2_with fail
        go_roundw
        case rel =>
          refine ⟨i, by omega, by go_num, fun k h1 h2 => ?_, HU.out.drewN _⟩
          by_cases e : k = i
          · subst e
            have := of_decide_eq_false HQ.out
            rw [HX.out, HY.out]
            omega
          · exact HS.out k (by omega) h2
        case measure => simp [intOf]
      · have htt : t = false := by
          rw [← HT.out]
          refine decide_eq_false (fun hh => ?_)
          have h3 := hh i (by omega)
          rw [HX.out, HY.out] at h3
          have := of_decide_eq_true HQ.out
          omega
        subst htt
        go_wp2_with fail
        go_ret
        exact ⟨rfl, HU.out.drewN _⟩

def okS (C T : Int) : Bool := decide (1 ≤ C ∧ C ≤ T ∧ T ≤ 1000)

set_option maxRecDepth 100000 in
set_option maxHeartbeats 800000 in
theorem rise4 (w : World) (b cap : Nat) (x0 x1 x2 x3 : Int) (h0 : w.cell? ⟨b, 0, none⟩ = some (.int .i64 x0)) (h1 : w.cell? ⟨b, 1, none⟩ = some (.int .i64 x1)) (h2 : w.cell? ⟨b, 2, none⟩ = some (.int .i64 x2)) (h3 : w.cell? ⟨b, 3, none⟩ = some (.int .i64 x3))
    (t : Bool) (ht : decide (x0 ≤ x1 ∧ x1 ≤ x2 ∧ x2 ≤ x3) = t) :
    Calls Try.prog 20 #[.slice (some ⟨b, 0, none⟩) 4 cap] w fun e w' => e = .returned (.bool t) ∧ Upd (fun _ => False) w w' := by
  have hs := sorted_ w b 3 cap (fun k => match k with | 0 => x0 | 1 => x1 | 2 => x2 | _ => x3)
    (fun k hk => by
      rcases k with _ | _ | _ | _ | k
      · exact h0
      · exact h1
      · exact h2
      · exact h3
      · omega) (by omega) t (by
      rw [← ht]
      by_cases hh : x0 ≤ x1 ∧ x1 ≤ x2 ∧ x2 ≤ x3
      · rw [decide_eq_true hh]
        refine decide_eq_true (fun k hk => ?_)
        rcases k with _ | _ | _ | k
        · exact hh.1
        · exact hh.2.1
        · exact hh.2.2
        · omega
      · rw [decide_eq_false hh]
        exact decide_eq_false (fun g => hh ⟨g 0 (by omega), g 1 (by omega), g 2 (by omega)⟩))
  have HS := Lib.hid hs; clear hs h0 h1 h2 h3
  go_enter Try.func20, Try.ntmps20
  go_wp2_with fail
  refine HS.out.mono ?_
  rintro e w1 ⟨rfl, hU⟩
  go_wp2
  go_ret
  exact ⟨rfl, hU⟩

set_option maxRecDepth 100000 in
set_option maxHeartbeats 800000 in
theorem rightS (w : World) (rf : Bool) (C T : Int) (t : Bool) (ht : okS C T = t) :
    Calls Try.prog 6 #[.agg #[.bool rf, .int .i64 C, .int .i64 T]] w fun e w' => e = .returned (.bool t) ∧ Upd (fun _ => False) w w' := by
  unfold okS at ht
  have HT := Lib.hid ht; clear ht
  go_enter Try.func6, Try.ntmps6
  go_wp2_with fail
  refine (rise4 _ _ _ 1 C T 1000 ?_ ?_ ?_ ?_ t HT.out).mono ?_
  · simp [World.cell?_alloc_new]
  · simp
  · simp
  · simp
  rintro e w1 ⟨rfl, hU⟩
  go_wp2
  go_ret
  exact ⟨rfl, (((Upd.refl (fun _ => False) w).alloc _).alloc _).trans hU⟩
end Go.Proofs.Ytcgefncddbbnlaa.Cf
