/-
  The walks of the ledger's reference: Count.
-/
import Derived.Test.YtfpigcjhonfcjaaLedgerR
namespace Go.Proofs.Ytfpigcjhonfcjaa
open Go.RowKit

def matchB (kind p q : Int) (c : Chg) : Bool := (c.1 == kind) && ((p == -2) || (c.2.1 == p)) && ((q == -2) || (c.2.2 == q))
def countF (kind p q : Int) (l : List Chg) : Nat := (l.filter (matchB kind p q)).length
theorem countF_take (kind p q : Int) (l : List Chg) (i : Nat) (c : Chg) (h : l[i]? = some c) : countF kind p q (l.take (i + 1)) = countF kind p q (l.take i) + if matchB kind p q c = true then 1 else 0 := by
  unfold countF
  rw [List.take_add_one, h, List.filter_append, List.length_append]
  congr 1
  by_cases e : matchB kind p q c = true <;> simp [e]
theorem countF_le (kind p q : Int) (l : List Chg) : countF kind p q l ≤ l.length := List.length_filter_le _ _

set_option maxRecDepth 100000 in
set_option maxHeartbeats 3200000 in
theorem countR (w : World) (base r m : Nat) (l : List Chg) (h : RLed w base r m l) (hl : l.length ≤ 1000) (kind p q : Int) :
    Calls Try.prog 51 #[.pointer (some ⟨r, 0, none⟩), .int .i64 kind, .int .i64 p, .int .i64 q] w fun e w' => e = .returned (.int .i64 (countF kind p q l)) ∧ Below w.heap.size w w' := by
  obtain ⟨v, hb, ho⟩ := h
  rcases Nat.eq_zero_or_pos l.length with hz | hz
  · have hnil : l = [] := List.eq_nil_of_length_eq_zero hz
    subst hnil
    rcases ho.2 with ⟨hv, _⟩ | ⟨g, cap, cur, hv, _⟩
    all_goals
      subst hv
      have c1 := hb.cell 1
      simp at c1
      clear hb ho hz
      go_enter Try.func51, Try.ntmps51
      go_wp2
      refine wp_loop_rounds 1 ?_
      rw [rounds_succ]
      go_wp2
      go_ret
      exact ⟨rfl, Below.refl _ _⟩
  · obtain ⟨gv, cv, rfl, hgv, hlt⟩ := own_form ho hz
    have HB := Lib.hid hb; clear hb
    have HO := Lib.hid ho; clear ho
    go_enter Try.func51, Try.ntmps51
    go_wp2
    go_loopw [9, 10] (fun vn vi wr => ∃ i : Nat, i ≤ l.length ∧ vi = .int .i64 i ∧ vn = .int .i64 (countF kind p q (l.take i)) ∧ Below w.heap.size w wr) (fun _ vi _ => l.length - (intOf vi).toNat)
    case atStart => exact ⟨0, by omega, rfl, by simp [countF], Below.refl _ _⟩
    case round =>
      obtain ⟨i, hi, rfl, rfl, hB⟩ := hrel
      have hbr := HB.out.below hB HB.out.lt
      have c1 := hbr.cell 1
      simp at c1
      clear hbr
      have hcn : countF kind p q (l.take i) ≤ 1000 := by have := countF_le kind p q (l.take i); have := List.length_take_le i l; omega
      have HBr := Lib.hid hB; clear hB
      by_cases hlt2 : i < l.length
      · obtain ⟨c, hc⟩ : ∃ c, l[i]? = some c := ⟨_, List.getElem?_eq_getElem hlt2⟩
        have hs := countF_take kind p q l i c hc
        have hat := oneCells_at l i c hc
        have k0 := (HBr.out.cell (p := ⟨gv, i * 3, none⟩) hlt).trans ((HO.out.cellAt (i * 3) (by omega)).trans hat.1)
        have k1 := (HBr.out.cell (p := ⟨gv, i * 3 + 1, none⟩) hlt).trans ((HO.out.cellAt (i * 3 + 1) (by omega)).trans hat.2.1)
        have k2 := (HBr.out.cell (p := ⟨gv, i * 3 + 2, none⟩) hlt).trans ((HO.out.cellAt (i * 3 + 2) (by omega)).trans hat.2.2)
        obtain ⟨x, y, z⟩ := c
        have HS := Lib.hid hs; clear hs hat hc
        generalize countF kind p q (l.take i) = n at *
        have hall : ((x == kind) = false) ∨ ((x == kind) = true ∧ (p == -2) = true ∧ (q == -2) = true) ∨ ((x == kind) = true ∧ (p == -2) = true ∧ (q == -2) = false ∧ (z == q) = true) ∨ ((x == kind) = true ∧ (p == -2) = true ∧ (q == -2) = false ∧ (z == q) = false) ∨ ((x == kind) = true ∧ (p == -2) = false ∧ (y == p) = false) ∨ ((x == kind) = true ∧ (p == -2) = false ∧ (y == p) = true ∧ (q == -2) = true) ∨ ((x == kind) = true ∧ (p == -2) = false ∧ (y == p) = true ∧ (q == -2) = false ∧ (z == q) = true) ∨ ((x == kind) = true ∧ (p == -2) = false ∧ (y == p) = true ∧ (q == -2) = false ∧ (z == q) = false) := by
          cases (x == kind) <;> cases (p == -2) <;> cases (y == p) <;> cases (q == -2) <;> cases (z == q) <;> simp
        rcases hall with h0 | ⟨h0, h1, h2⟩ | ⟨h0, h1, h2, h3⟩ | ⟨h0, h1, h2, h3⟩ | ⟨h0, h1, h2⟩ | ⟨h0, h1, h2, h3⟩ | ⟨h0, h1, h2, h3, h4⟩ | ⟨h0, h1, h2, h3, h4⟩
        · have hM : matchB kind p q (x, y, z) = false := by simp [matchB, h0]
          have hS := HS.out
          rw [hM] at hS
          have HS2 := Lib.hid hS; clear hS hM HS
          go_wp2
          go_roundw
          case rel => exact ⟨i + 1, by omega, by go_num, by rw [HS2.out]; go_num, HBr.out.alloc HBr.out.size _⟩
          case measure => simp [intOf]; omega
        · have hM : matchB kind p q (x, y, z) = true := by simp [matchB, h0, h1, h2]
          have hS := HS.out
          rw [hM] at hS
          have HS2 := Lib.hid hS; clear hS hM HS
          go_wp2
          go_roundw
          case rel => exact ⟨i + 1, by omega, by go_num, by rw [HS2.out]; go_num, HBr.out.alloc HBr.out.size _⟩
          case measure => simp [intOf]; omega
        · have hM : matchB kind p q (x, y, z) = true := by simp [matchB, h0, h1, h2, h3]
          have hS := HS.out
          rw [hM] at hS
          have HS2 := Lib.hid hS; clear hS hM HS
          go_wp2
          go_roundw
          case rel => exact ⟨i + 1, by omega, by go_num, by rw [HS2.out]; go_num, HBr.out.alloc HBr.out.size _⟩
          case measure => simp [intOf]; omega
        · have hM : matchB kind p q (x, y, z) = false := by simp [matchB, h0, h1, h2, h3]
          have hS := HS.out
          rw [hM] at hS
          have HS2 := Lib.hid hS; clear hS hM HS
          go_wp2
          go_roundw
          case rel => exact ⟨i + 1, by omega, by go_num, by rw [HS2.out]; go_num, HBr.out.alloc HBr.out.size _⟩
          case measure => simp [intOf]; omega
        · have hM : matchB kind p q (x, y, z) = false := by simp [matchB, h0, h1, h2]
          have hS := HS.out
          rw [hM] at hS
          have HS2 := Lib.hid hS; clear hS hM HS
          go_wp2
          go_roundw
          case rel => exact ⟨i + 1, by omega, by go_num, by rw [HS2.out]; go_num, HBr.out.alloc HBr.out.size _⟩
          case measure => simp [intOf]; omega
        · have hM : matchB kind p q (x, y, z) = true := by simp [matchB, h0, h1, h2, h3]
          have hS := HS.out
          rw [hM] at hS
          have HS2 := Lib.hid hS; clear hS hM HS
          go_wp2
          go_roundw
          case rel => exact ⟨i + 1, by omega, by go_num, by rw [HS2.out]; go_num, HBr.out.alloc HBr.out.size _⟩
          case measure => simp [intOf]; omega
        · have hM : matchB kind p q (x, y, z) = true := by simp [matchB, h0, h1, h2, h3, h4]
          have hS := HS.out
          rw [hM] at hS
          have HS2 := Lib.hid hS; clear hS hM HS
          go_wp2
          go_roundw
          case rel => exact ⟨i + 1, by omega, by go_num, by rw [HS2.out]; go_num, HBr.out.alloc HBr.out.size _⟩
          case measure => simp [intOf]; omega
        · have hM : matchB kind p q (x, y, z) = false := by simp [matchB, h0, h1, h2, h3, h4]
          have hS := HS.out
          rw [hM] at hS
          have HS2 := Lib.hid hS; clear hS hM HS
          go_wp2
          go_roundw
          case rel => exact ⟨i + 1, by omega, by go_num, by rw [HS2.out]; go_num, HBr.out.alloc HBr.out.size _⟩
          case measure => simp [intOf]; omega
      · have he : i = l.length := by omega
        have HE := Lib.hid he; clear he
        go_wp2
        go_ret
        exact ⟨ret_int (by rw [HE.out, List.take_length]), HBr.out⟩
end Go.Proofs.Ytfpigcjhonfcjaa
