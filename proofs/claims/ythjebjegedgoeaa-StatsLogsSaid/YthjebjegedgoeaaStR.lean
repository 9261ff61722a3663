/-
  StatsTells, for every input.
-/
import Derived.Test.YthjebjegedgoeaaStQ
namespace Go.Proofs.Ythjebjegedgoeaa
open Go.RowKit Go.Shelf Go.Maps Go.Sort
attribute [local go_sem] max_ints min_ints

theorem row_still {w w' : World} {A : Option Addr} {n : Nat} {f : Nat → Value} (h : Row w A n f) (hu : Upd (fun _ => False) w w') : Row w' A n f := fun k hk => by
  obtain ⟨a, h1, h2, h3⟩ := h k hk
  refine ⟨a, h1, Nat.lt_of_lt_of_le h2 hu.size, ?_⟩
  rw [← h3]
  exact hu.cell (p := a.add k) (by rw [block_add]; exact h2) (fun h => h)

set_option maxRecDepth 100000 in
set_option maxHeartbeats 6400000 in
theorem statsTells_main (w : World) (b d : Int) (A : Option Addr) (cap : Nat) (l : List J5) (hl : l.length ≤ 60) (hwf : ∀ j ∈ l, j.Wf) (hj : JRow w A l) (total : Int) (A4 : Option Addr) (len4 cap4 : Nat) (hl4 : len4 ≤ 60) (X4 : Nat → Int) (hc4 : Row w A4 len4 fun k => .int .i64 (X4 k)) :
    Calls Try.prog 3 #[.int .i64 b, .int .i64 d, .slice A l.length cap, .int .i64 total, .slice A4 len4 cap4] w fun e w' => e = .returned (.bool true) ∧ Upd (fun _ => False) w w' := by
  have d1 : decide (60 < (l.length : Int)) = false := decide_eq_false (by omega)
  have d2 : decide (60 < (len4 : Int)) = false := decide_eq_false (by omega)
  have HWF := Lib.hid hwf; have HJ := Lib.hid hj; have HC := Lib.hid hc4
  clear hwf hj hc4
  go_enter Try.func3, Try.ntmps3
  go_wp2_with fail
  refine (newS w b d).mono ?_
  rintro e w1 ⟨rfl, hT, hU1⟩
  obtain ⟨g, hg⟩ : ∃ g, w.heap.size + 1 = g := ⟨_, rfl⟩
  obtain ⟨bm, hbm⟩ : ∃ bm, w.heap.size = bm := ⟨_, rfl⟩
  rw [hg] at hT ⊢
  obtain ⟨B, hB⟩ : ∃ B : Nat, (min (max b 1) 64).toNat = B := ⟨_, rfl⟩
  obtain ⟨W, hW⟩ : ∃ W : Nat, (min (max d 1) 1000).toNat = W := ⟨_, rfl⟩
  have hBW : 1 ≤ B ∧ B ≤ 64 ∧ 1 ≤ W := by omega
  have HBW := Lib.hid hB; have HWW := Lib.hid hW
  have T1 : Hid (TabS w1 g bm B W [] (fun _ => Ln.zero) (fun _ => []) (fun k => k < w.heap.size)) := Lib.hid (by rw [← hB, ← hW, ← hbm]; exact hT)
  have U1 := Lib.hid hU1
  clear hT hU1 hg hbm hB hW
  go_wp2_with fail
  refine (jobsC w1 A cap l (by omega) (HJ.out.still U1.out)).mono ?_
  rintro e w2 ⟨v2, rfl, hv2, hU2⟩
  have V2 := Lib.hid hv2
  have T2 : Hid (TabJ w2 g bm B W [] [] (fun k => k < w.heap.size ∨ w1.heap.size ≤ k ∧ k < w2.heap.size)) := Lib.hid (TabJ.new (T1.out.more hU2 (fun k h1 h2 => by
    rcases h1 with h1 | h1
    · exact h1
    · omega)))
  have U2 := Lib.hid (U1.out.trans hU2)
  clear hv2 hU2 T1
  go_wp2_with fail
  refine (addC w2 g bm B W [] _ T2.out (fun k hk => by
    have := U2.out.size
    rcases hk with hk | hk <;> omega) hBW.1 hBW.2.1 hBW.2.2 v2 l (Sl.mono V2.out (Nat.zero_le _)) (fun k hk => .inr (by
      obtain ⟨h1, h2, _⟩ := Sl.blk V2.out k hk
      exact ⟨h1, h2⟩)) (by omega) HWF.out).mono ?_
  rintro e w3 ⟨rfl, ⟨ks, hT⟩, hU⟩
  obtain ⟨N, hN⟩ : ∃ N : Nat → Prop, (fun k => k < w.heap.size ∨ w1.heap.size ≤ k ∧ k < w2.heap.size) = N := ⟨_, rfl⟩
  rw [hN] at hT
  have U3 : Hid (Upd (fun _ => False) w w3) := Lib.hid (((U2.out.mono (fun _ _ h => h.elim)).trans hU).mono (fun k hk h => h (.inl hk)))
  have T3 := Lib.hid hT
  clear hU hT T2 U2 V2 U1 hN
  go_wp2_with fail
  refine (rNewC w3 b d).mono ?_
  rintro e w4 ⟨rfl, hB4, hU4⟩
  rw [HBW.out, HWW.out] at hB4
  obtain ⟨r, hr⟩ : ∃ r, w3.heap.size = r := ⟨_, rfl⟩
  rw [hr] at hB4 ⊢
  have c2 : w4.cell? ⟨r, 2, none⟩ = some (.slice none 0 0) := hB4.cell 2
  have f2 := hB4.frozen 2
  have hU5 : Upd (fun _ => False) w3 (w4.setCell ⟨r, 2, none⟩ (.slice A l.length cap)) := hU4.setCell (p := ⟨r, 2, none⟩) (fun h => by simp only at h; omega) _
  have T5 := Lib.hid (T3.out.still hU5)
  have U5 := Lib.hid (U3.out.trans hU5)
  have R5 : Hid (RTab (w4.setCell ⟨r, 2, none⟩ (.slice A l.length cap)) r B W A cap l) := Lib.hid ⟨by
    have := hB4.set_ 2 (.slice A l.length cap)
    exact this, HJ.out.still U5.out⟩
  clear hB4 hU4 hU5 hr T3 U3
  go_upto_region 7 with fail
  clear c2 f2
  generalize w4.setCell ⟨r, 2, none⟩ (.slice A l.length cap) = w5 at *
  go_wp2_with fail
  refine (sameC w5 g bm B W ks N l r cap A T5.out R5.out (by omega) HWF.out hBW.1 hBW.2.1 hBW.2.2).mono ?_
  rintro e w6 ⟨rfl, hU6⟩
  have T6 := Lib.hid (T5.out.still hU6); have R6 := Lib.hid (R5.out.still hU6); have U6 := Lib.hid (U5.out.trans hU6)
  clear hU6 T5 R5 U5
  go_wp2_with fail
  refine (sharesC w6 total A4 len4 cap4 (by omega) X4 (row_still HC.out U6.out)).mono ?_
  rintro e w7 ⟨v7, rfl, hv7, hU7⟩
  have V7 := Lib.hid hv7
  have T7 := Lib.hid (T6.out.still hU7); have R7 := Lib.hid (R6.out.still hU7); have U7 := Lib.hid (U6.out.trans hU7)
  clear hv7 hU7 T6 R6 U6
  go_wp2_with fail
  refine (rSharesC w7 total A4 len4 cap4 (by omega) X4 (row_still HC.out U7.out)).mono ?_
  rintro e w8 ⟨v8, rfl, hv8, hU8⟩
  have V8 := Lib.hid hv8
  have V7b := Lib.hid (V7.out.upd hU8 (fun _ _ h => h))
  have T8 := Lib.hid (T7.out.still hU8); have R8 := Lib.hid (R7.out.still hU8); have U8 := Lib.hid (U7.out.trans hU8)
  clear hv8 hU8 T7 R7 U7 V7
  go_wp2_with fail
  refine (intsEq w8 _ _ v7 v8 _ V7b.out V8.out (by rw [sharesL_len]; omega)).mono ?_
  rintro e w9 ⟨rfl, k9, h9⟩
  have hU9 : Upd (fun _ => False) w8 w9 := by rw [h9]; exact (Upd.refl _ w8).drewN k9
  have T9 := Lib.hid (T8.out.still hU9); have R9 := Lib.hid (R8.out.still hU9); have U9 := Lib.hid (U8.out.trans hU9)
  clear h9 hU9 T8 R8 U8 V7b V8
  go_wp2_with fail
  refine (countsC w9 g bm B W ks N l T9.out hBW.2.1 (-77) (by decide)).mono ?_
  rintro e wA ⟨vA, rfl, hvA, hUA⟩
  obtain ⟨AA, cA, rfl⟩ := SlR.shape hvA
  have RA := Lib.hid (R9.out.still hUA); have UA := Lib.hid (U9.out.trans hUA)
  clear hvA hUA T9 R9 U9
  go_wp2_with fail
  refine (rCountsC wA r B W cap A l RA.out (by omega) HWF.out hBW.1 hBW.2.1 hBW.2.2 (-77)).mono ?_
  rintro e wB ⟨vB, rfl, hvB, hUB⟩
  obtain ⟨AB, cB, rfl⟩ := SlR.shape hvB
  have UB := Lib.hid (UA.out.trans hUB)
  clear hvB hUB RA UA
  generalize (cntsJ B W l (-77)).length = n7
  go_wp2_with fail
  refine (knowsC _).mono ?_
  rintro e wC ⟨rfl, hUC⟩
  go_wp2_with fail
  go_returns
  exact ⟨rfl, UB.out.trans hUC⟩

theorem statsTells_out (w : World) (b d : Int) (A : Option Addr) (len cap : Nat) (total : Int) (A4 : Option Addr) (len4 cap4 : Nat) (h : 60 < len ∨ 60 < len4) :
    Calls Try.prog 3 #[.int .i64 b, .int .i64 d, .slice A len cap, .int .i64 total, .slice A4 len4 cap4] w fun e w' => e = .returned (.bool true) ∧ Upd (fun _ => False) w w' := by
  by_cases h1 : 60 < len
  · have d1 : decide (60 < (len : Int)) = true := decide_eq_true (by omega)
    go_enter Try.func3, Try.ntmps3
    go_wp2_with fail
    refine (knowsC _).mono ?_
    rintro e w1 ⟨rfl, hU⟩
    go_wp2_with fail
    go_returns
    exact ⟨rfl, hU⟩
  · have d1 : decide (60 < (len : Int)) = false := decide_eq_false (by omega)
    have d2 : decide (60 < (len4 : Int)) = true := decide_eq_true (by omega)
    go_enter Try.func3, Try.ntmps3
    go_wp2_with fail
    refine (knowsC _).mono ?_
    rintro e w1 ⟨rfl, hU⟩
    go_wp2_with fail
    go_returns
    exact ⟨rfl, hU⟩

theorem statsTells_any (w : World) (b : Int) (_ : (Lit.int .i64 b).wf = true) (d : Int) (_ : (Lit.int .i64 d).wf = true) (A : Option Addr) (len cap : Nat) (X : Nat → Int × Int × Int × Int × Int)
    (hwf : ∀ k, k < len → (Lit.int .i64 ((X k).1)).wf = true ∧ (Lit.int .i64 ((X k).2.1)).wf = true ∧ (Lit.int .i64 ((X k).2.2.1)).wf = true ∧ (Lit.int .i64 ((X k).2.2.2.1)).wf = true ∧ (Lit.int .i64 ((X k).2.2.2.2)).wf = true) (hc : Rowiiiii w A len X)
    (total : Int) (_ : (Lit.int .i64 total).wf = true) (A4 : Option Addr) (len4 cap4 : Nat) (X4 : Nat → Int) (_ : ∀ k, k < len4 → (Lit.int .i64 (X4 k)).wf = true) (hc4 : Row w A4 len4 fun k => .int .i64 (X4 k)) :
    Calls Try.prog 3 #[.int .i64 b, .int .i64 d, .slice A len cap, .int .i64 total, .slice A4 len4 cap4] w fun e w' => e = .returned (.bool true) ∧ Below w.heap.size w w' := by
  have key : Calls Try.prog 3 #[.int .i64 b, .int .i64 d, .slice A len cap, .int .i64 total, .slice A4 len4 cap4] w fun e w' => e = .returned (.bool true) ∧ Upd (fun _ => False) w w' := by
    by_cases h : 60 < len ∨ 60 < len4
    · exact statsTells_out w b d A len cap total A4 len4 cap4 h
    · have := statsTells_main w b d A cap (listJ X len) (by rw [listJ_len]; omega) (listJ_wf hwf) (jrow_of hc) total A4 len4 cap4 (by omega) X4 hc4
      rw [listJ_len] at this
      exact this
  exact key.mono (fun _ _ ⟨h1, h2⟩ => ⟨h1, h2.below (Nat.le_refl _) (fun _ h => h.elim)⟩)
end Go.Proofs.Ythjebjegedgoeaa
