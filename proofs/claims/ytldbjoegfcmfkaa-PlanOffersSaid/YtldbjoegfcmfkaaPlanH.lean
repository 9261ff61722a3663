/-
  The walks of the statement's windows and num.
-/
import Derived.Test.YtldbjoegfcmfkaaPlanG
namespace Go.Proofs.Ytldbjoegfcmfkaa
open Go.RowKit
attribute [local go_sem] max_ints min_ints

set_option maxHeartbeats 400000 in
theorem numP (w : World) (n : Int) : Calls Try.prog 14 #[.int .i64 n] w fun e w' => e = .returned (.int .i64 n) ∧ ∃ k, w' = w.drewN k := by
  go_enter Try.func14, Try.ntmps14
  go_wp2_with fail
  go_returns
  exact ⟨rfl, 0, rfl⟩

set_option maxRecDepth 100000 in
set_option maxHeartbeats 1600000 in
theorem windowsP (w : World) (b1 b2 : Nat) (v1 v2 : Value) (xs : List W3) (h1 : SlR encW w b1 39 3 v1 xs) (h2 : SlR encW w b2 40 3 v2 xs) (hl : xs.length ≤ 1000) :
    Calls Try.prog 13 #[v1, v2] w fun e w' => e = .returned (.bool true) ∧ ∃ k, w' = w.drewN k := by
  have R1 := Lib.hid (RdW.of h1); have R2 := Lib.hid (RdW.of h2)
  obtain ⟨A1, c1, hsh⟩ := h1.shape
  subst hsh
  obtain ⟨A2, c2, hsh⟩ := h2.shape
  subst hsh
  clear h1 h2
  go_enter Try.func13, Try.ntmps13
  go_wp2_with fail
  go_loopw [5] (fun vi wr => ∃ i : Nat, i ≤ xs.length ∧ vi = .int .i64 i ∧ ∃ q, wr = w.drewN q) (fun vi _ => xs.length - (intOf vi).toNat)
  case atStart => exact ⟨0, Nat.zero_le _, rfl, 0, rfl⟩
  case round =>
    obtain ⟨i, hi, rfl, q, rfl⟩ := hrel
    by_cases hlt : i < xs.length
    · obtain ⟨x, hx⟩ : ∃ x, xs[i]? = some x := ⟨_, List.getElem?_eq_getElem hlt⟩
      obtain ⟨A', cap', e, hcell⟩ := R1.out
      injection e with e1 e2 e3
      subst e1 e3
      obtain ⟨b, o, rfl, hb, p0, p1, p2⟩ := hcell i x hx
      clear hcell
      obtain ⟨A', cap', e, hcell⟩ := R2.out
      injection e with e1 e2 e3
      subst e1 e3
      obtain ⟨b', o', rfl, hb', q0, q1, q2⟩ := hcell i x hx
      clear hcell hx
      obtain ⟨x0, x1, x2⟩ := x
      dsimp only at *
      go_wp2_with fail
      go_quiet (fail)
      go_wp2_with fail
      go_roundw
      case rel => exact ⟨i + 1, by omega, by go_num, _, rfl⟩
      case measure => simp [intOf]; omega
    · go_wp2_with fail
      go_returns
      exact ⟨rfl, q, rfl⟩
end Go.Proofs.Ytldbjoegfcmfkaa
