/-
  The walks of supply: the least of some ticks.
-/
import Derived.Test.YtnfajehocljbnaaSupP
import Derived.Test.YtnfajehocljbnaaFrameL
namespace Go.Proofs.Ytnfajehocljbnaa
open Go.RowKit
attribute [local go_sem] max_ints min_ints

set_option maxRecDepth 100000 in
set_option maxHeartbeats 1600000 in
theorem leastsF (w : World) (base g F : Nat) (M : Int) (ws : List W3) (h : TabS w base g F M ws) (p : Int) (b1 b2 : Nat) (h1 : w.cell? ⟨b1, 0, none⟩ = some (.pointer (some ⟨g, 0, none⟩))) (h2 : w.cell? ⟨b2, 0, none⟩ = some (.int .i64 p))
    (n : Int) (m : Nat) (hm : min (max n 0) 4611686018427387904 = (m : Int)) :
    Calls Try.prog 50 #[.int .i64 n, .pointer (some ⟨b1, 0, none⟩), .pointer (some ⟨b2, 0, none⟩)] w fun e w' => e = .returned (.tuple #[.int .i64 (leN M ws p F m), .int .i64 (atN M ws p F m)]) ∧ ∃ k, w' = w.drewN k := by
  have hr := h.right
  have hF1 := hr.1
  have hF2 := hr.2.1
  have H := Lib.hid h; have HM := Lib.hid hm
  clear h hr hm
  obtain ⟨c0, hc0⟩ : ∃ c, cntF M ws p F 0 m = c := ⟨_, rfl⟩
  have HC0 := Lib.hid hc0
  clear hc0
  go_enter Try.func50, Try.ntmps50
  go_wp2_with fail
  refine (countT _ base g F M ws H.out p 0 n m HM.out).mono ?_
  rw [HC0.out]
  rintro e w1 ⟨rfl, k1, rfl⟩
  go_wp2_with fail
  go_loopw [6, 7, 8, 9] (fun vl va vi vk wr => ∃ (i : Nat) (l a : Int), i < F ∧ vi = .int .i64 ((i : Int) + 1) ∧ vl = .int .i64 l ∧ va = .int .i64 a ∧ lsN M ws p F m i = (l, a) ∧ ∃ q, wr = w.drewN q) (fun _ _ vi _ _ => F + 1 - (intOf vi).toNat)
  case atStart => exact ⟨0, c0, 0, hF1, rfl, rfl, rfl, by rw [lsN, HC0.out], _, rfl⟩
  case round =>
    obtain ⟨i, l, a, hi, rfl, rfl, rfl, hs, q, rfl⟩ := hrel
    have HS := Lib.hid hs
    clear hs
    go_wp2_with fail
    refine (frameT _ base g F M ws (H.out.drewN _)).mono ?_
    rintro e w2 ⟨rfl, k2, rfl⟩
    by_cases hlt : i + 1 < F
    · obtain ⟨c, hc⟩ : ∃ c, cntF M ws p F ((i : Int) + 1) m = c := ⟨_, rfl⟩
      have HC := Lib.hid hc
      have HN : Hid (lsN M ws p F m (i + 1) = if c < l then (c, (i : Int) + 1) else (l, a)) := Lib.hid (by
        rw [lsN, Int.natCast_add, Int.natCast_one, hc, HS.out])
      clear hc
      go_wp2_with fail
      refine (countT _ base g F M ws (H.out.drewN _) p _ n m HM.out).mono ?_
      rw [HC.out]
      rintro e w3 ⟨rfl, k3, rfl⟩
      by_cases hcl : c < l
      · rw [if_pos hcl] at HN
        have t1 : decide (c < l) = true := decide_eq_true hcl
        go_wp2_with fail
        go_roundw
        case rel => exact ⟨i + 1, c, (i : Int) + 1, by omega, by go_num, rfl, rfl, HN.out, _, rfl⟩
        case measure => simp [intOf]; omega
      · rw [if_neg hcl] at HN
        have t1 : decide (c < l) = false := decide_eq_false hcl
        go_wp2_with fail
        go_roundw
        case rel => exact ⟨i + 1, l, a, by omega, by go_num, rfl, rfl, HN.out, _, rfl⟩
        case measure => simp [intOf]; omega
    · have hie : F - 1 = i := by omega
      have HL : Hid (leN M ws p F m = l) := Lib.hid (by rw [leN, hie, HS.out])
      have HA : Hid (atN M ws p F m = a) := Lib.hid (by rw [atN, hie, HS.out])
      go_wp2_with fail
      go_returns
      exact ⟨by rw [HL.out, HA.out]; rfl, _, rfl⟩

set_option maxHeartbeats 400000 in
theorem leastsP (w : World) (g : Nat) (p : Int) :
    Calls Try.prog 32 #[.pointer (some ⟨g, 0, none⟩), .int .i64 p] w fun e w' => e = .returned (.func (.func 50) #[] #[.pointer (some ⟨w.heap.size, 0, none⟩), .pointer (some ⟨w.heap.size + 1, 0, none⟩)]) ∧ w' = (w.alloc (.cells #[.pointer (some ⟨g, 0, none⟩)] 25)).alloc (.cells #[.int .i64 p] 3) := by
  have hmf : ∀ (fn : Fn) (first cap : Array Value) (w : World), (Instr.makeFunc fn first cap).run Try.prog w = .ok (.func fn first cap) w := fun _ _ _ _ => rfl
  go_enter Try.func32, Try.ntmps32
  go_wp2_with fail
  go_returns
  exact ⟨rfl, rfl⟩

set_option maxHeartbeats 400000 in
theorem supCut (w : World) (n : Int) (m : Int) (hm : min (max n 0) 1125899906842624 = m) :
    Calls Try.prog 34 #[.int .i64 n] w fun e w' => e = .returned (.int .i64 m) ∧ ∃ k, w' = w.drewN k := by
  subst hm
  go_enter Try.func34, Try.ntmps34
  go_wp2_with fail
  go_returns
  exact ⟨rfl, 0, rfl⟩

set_option maxHeartbeats 400000 in
theorem supNone (w : World) (s g : Nat) (h : w.cell? ⟨s, 0, none⟩ = some (.pointer (some ⟨g, 0, none⟩))) :
    Calls Try.prog 33 #[.pointer (some ⟨s, 0, none⟩)] w fun e w' => e = .returned (.bool false) ∧ ∃ k, w' = w.drewN k := by
  go_enter Try.func33, Try.ntmps33
  go_wp2_with fail
  go_returns
  exact ⟨rfl, 0, rfl⟩
end Go.Proofs.Ytnfajehocljbnaa
