/-
  sort.Search, with a function of ours.
-/
import Derived.Test.YtnfajehocljbnaaRws
namespace Go.Proofs.Ytnfajehocljbnaa
open Go.RowKit

set_option maxRecDepth 100000 in
set_option maxHeartbeats 1600000 in
theorem searchS (w : World) (n : Nat) (hn : n ≤ 1000000000000000) (c1 c2 : Value) (p : Nat → Bool) (hm : ∀ i j, i ≤ j → j < n → p i = true → p j = true)
    (hc : ∀ (h : Nat) (wr : World), h < n → Upd (fun _ => False) w wr → Calls Try.prog 38 #[.int .i64 h, c1, c2] wr fun e w' => e = .returned (.bool (p h)) ∧ Upd (fun _ => False) wr w') :
    Calls Try.prog 37 #[.int .i64 n, .func (.func 38) #[] #[c1, c2]] w fun e w' => ∃ k : Nat, k ≤ n ∧ e = .returned (.int .i64 k) ∧ (∀ i, i < k → p i = false) ∧ (∀ i, k ≤ i → i < n → p i = true) ∧ Upd (fun _ => False) w w' := by
  have HC := Lib.hid hc; clear hc
  have HM := Lib.hid hm; clear hm
  go_enter Try.func37, Try.ntmps37
  go_wp2_with fail
  go_loopw [5, 6] (fun vi vj wr => ∃ i j : Nat, i ≤ j ∧ j ≤ n ∧ vi = .int .i64 i ∧ vj = .int .i64 j ∧ (∀ x, x < i → p x = false) ∧ (∀ x, j ≤ x → x < n → p x = true) ∧ Upd (fun _ => False) w wr) (fun vi vj _ => (intOf vj).toNat - (intOf vi).toNat)
  case atStart => exact ⟨0, n, Nat.zero_le _, Nat.le_refl _, rfl, rfl, (fun x h => by omega), (fun x h1 h2 => by omega), Upd.refl _ _⟩
  case round =>
    obtain ⟨i, j, hij, hj, rfl, rfl, h1, h2, hU⟩ := hrel
    have H1 := Lib.hid h1; have H2 := Lib.hid h2; have HU := Lib.hid hU
    clear h1 h2 hU
    by_cases hlt : i < j
    · obtain ⟨h, hh⟩ : ∃ h : Nat, (i + j) / 2 = h := ⟨_, rfl⟩
      have hh1 : i ≤ h := by omega
      have hh2 : h < j := by omega
      have HH := Lib.hid hh
      clear hh
      go_wp2_with fail
      have eh : ((i : Int) + (j : Int)) / 2 = (h : Int) := by have := HH.out; omega
      rw [eh]
      clear eh
      refine (HC.out h _ (by omega) HU.out).mono ?_
      rintro e w2 ⟨rfl, hU2⟩
      have U2 := Lib.hid (HU.out.trans hU2)
      clear hU2
      obtain ⟨b, hb⟩ : ∃ b, p h = b := ⟨_, rfl⟩
      have HB := Lib.hid hb
      rw [hb]
      clear hb
      cases b
      · go_wp2_with fail
        go_roundw
        case rel =>
          refine ⟨h + 1, j, by omega, by omega, by go_num, rfl, fun x hx => ?_, H2.out, U2.out⟩
          by_cases e : p x = true
          · have := HM.out x h (by omega) (by omega) e
            rw [HB.out] at this
            cases this
          · simpa using e
        case measure => simp [intOf]; omega
      · go_wp2_with fail
        go_roundw
        case rel => exact ⟨i, h, by omega, by omega, rfl, rfl, H1.out, (fun x h1 h2 => HM.out h x h1 h2 HB.out), U2.out⟩
        case measure => simp [intOf]; omega
    · go_wp2_with fail
      go_ret
      exact ⟨i, by omega, rfl, H1.out, fun x h1 h2 => H2.out x (by omega) h2, HU.out⟩
end Go.Proofs.Ytnfajehocljbnaa
