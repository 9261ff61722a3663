/-
  The walks of a ledger: what was got; a charge.
-/
import Derived.Test.YtfpigcjhonfcjaaLedger
import Derived.Deep.MidRow
namespace Go.Proofs.Ytfpigcjhonfcjaa
open Go.RowKit
attribute [local go_sem] max_ints min_ints

def gaveRow (L : Nat → Int) : List Value := (List.range 36).map fun i => Value.int .i64 (L (31 + i))
def gotOf (L : Nat → Int) (p : Nat) : Int := L (31 + p) + L (37 + p) + L (43 + p) + L (49 + p) + L (55 + p) + L (61 + p)

theorem gave_ix0 (L : Nat → Int) (w : World) : (Instr.index 89 (.agg (gaveRow L).toArray) (.int .i64 0)).run Try.prog w = .ok (.agg #[.int .i64 (L 31), .int .i64 (L 32), .int .i64 (L 33), .int .i64 (L 34), .int .i64 (L 35), .int .i64 (L 36)]) w := by kernel_rfl
theorem gave_ix1 (L : Nat → Int) (w : World) : (Instr.index 89 (.agg (gaveRow L).toArray) (.int .i64 1)).run Try.prog w = .ok (.agg #[.int .i64 (L 37), .int .i64 (L 38), .int .i64 (L 39), .int .i64 (L 40), .int .i64 (L 41), .int .i64 (L 42)]) w := by kernel_rfl
theorem gave_ix2 (L : Nat → Int) (w : World) : (Instr.index 89 (.agg (gaveRow L).toArray) (.int .i64 2)).run Try.prog w = .ok (.agg #[.int .i64 (L 43), .int .i64 (L 44), .int .i64 (L 45), .int .i64 (L 46), .int .i64 (L 47), .int .i64 (L 48)]) w := by kernel_rfl
theorem gave_ix3 (L : Nat → Int) (w : World) : (Instr.index 89 (.agg (gaveRow L).toArray) (.int .i64 3)).run Try.prog w = .ok (.agg #[.int .i64 (L 49), .int .i64 (L 50), .int .i64 (L 51), .int .i64 (L 52), .int .i64 (L 53), .int .i64 (L 54)]) w := by kernel_rfl
theorem gave_ix4 (L : Nat → Int) (w : World) : (Instr.index 89 (.agg (gaveRow L).toArray) (.int .i64 4)).run Try.prog w = .ok (.agg #[.int .i64 (L 55), .int .i64 (L 56), .int .i64 (L 57), .int .i64 (L 58), .int .i64 (L 59), .int .i64 (L 60)]) w := by kernel_rfl
theorem gave_ix5 (L : Nat → Int) (w : World) : (Instr.index 89 (.agg (gaveRow L).toArray) (.int .i64 5)).run Try.prog w = .ok (.agg #[.int .i64 (L 61), .int .i64 (L 62), .int .i64 (L 63), .int .i64 (L 64), .int .i64 (L 65), .int .i64 (L 66)]) w := by kernel_rfl

set_option maxRecDepth 100000 in
set_option maxHeartbeats 1600000 in
theorem gotL_yes (w : World) (g : Nat) (L : Nat → Int) (h : Led w g L) (p : Nat) (hp : (p : Int) < L 0) (hL : L 0 ≤ 6) (hb : ∀ i, 0 ≤ L i ∧ L i ≤ 1000) :
    Calls Try.prog 53 #[.pointer (some ⟨g, 0, none⟩), .int .i64 p] w fun e w' => e = .returned (.int .i64 (gotOf L p)) ∧ Upd (fun _ => False) w w' := by
  have hrng : ∀ n o k, (((w.drewN n).alloc o).drewN k).rangeAt g 31 (gaveRow L) := by
    intro n o k j v hv
    have hj : j < 36 := by have := (List.getElem?_eq_some_iff.1 hv).1; simpa [gaveRow] using this
    have := (((h.drewN n).alloc o).drewN k).cell (31 + j) (by omega)
    rw [this]
    simp [gaveRow, hj] at hv
    rw [← hv]
  have i0 := gave_ix0 L
  have i1 := gave_ix1 L
  have i2 := gave_ix2 L
  have i3 := gave_ix3 L
  have i4 := gave_ix4 L
  have i5 := gave_ix5 L
  have hlen : (gaveRow L).length = 36 := by simp [gaveRow]
  have HR : Hid (decide (0 ≤ (p : Int) ∧ (p : Int) < L 0) = true) := Lib.hid (decide_eq_true (by omega))
  have H := Lib.hid h; clear h
  have HRNG := Lib.hid hrng; clear hrng
  have hp6 : p < 6 := by omega
  have HB := Lib.hid hb; clear hb hL hp
  have hsz : Hid ((Try.prog.info? 89).map (·.size) = some (gaveRow L).length) := Lib.hid (by rw [hlen]; kernel_rfl)
  clear hlen
  generalize gaveRow L = G at *
  unfold gotOf
  have hp' : p = 0 ∨ p = 1 ∨ p = 2 ∨ p = 3 ∨ p = 4 ∨ p = 5 := by omega
  clear hp6
  rcases hp' with rfl | rfl | rfl | rfl | rfl | rfl
  · obtain ⟨l0, m0⟩ := HB.out 31
    obtain ⟨l1, m1⟩ := HB.out 37
    obtain ⟨l2, m2⟩ := HB.out 43
    obtain ⟨l3, m3⟩ := HB.out 49
    obtain ⟨l4, m4⟩ := HB.out 55
    obtain ⟨l5, m5⟩ := HB.out 61
    go_enter Try.func53, Try.ntmps53
    go_wp2_with (first
      | (go_at_call 66; refine (noneL _ g L H.out).mono ?_; rintro e w1 ⟨rfl, k1, rfl⟩)
      | (go_at_call 68; refine (is1L _ g L (Led.alloc (H.out.drewN _) _) w.heap.size ((0 : Nat) : Int) (by simpa using (Blk.new (w.drewN k1) 3 #[.int .i64 ((0 : Nat) : Int)]).cell 0) _ HR.out).mono ?_; rintro e w2 ⟨rfl, k2, rfl⟩)
      | (refine wpList_load_mid rfl 89 _ rfl g 31 rfl G _ (HRNG.out _ _ _) Try.underlying89 rfl hsz.out ?_))
    go_rounds 7
    go_ret
    exact ⟨rfl, by repeat (first | exact Upd.refl _ _ | refine Upd.alloc ?_ _ | refine Upd.drewN ?_ _ | refine Upd.drew ?_)⟩
  · obtain ⟨l0, m0⟩ := HB.out 32
    obtain ⟨l1, m1⟩ := HB.out 38
    obtain ⟨l2, m2⟩ := HB.out 44
    obtain ⟨l3, m3⟩ := HB.out 50
    obtain ⟨l4, m4⟩ := HB.out 56
    obtain ⟨l5, m5⟩ := HB.out 62
    go_enter Try.func53, Try.ntmps53
    go_wp2_with (first
      | (go_at_call 66; refine (noneL _ g L H.out).mono ?_; rintro e w1 ⟨rfl, k1, rfl⟩)
      | (go_at_call 68; refine (is1L _ g L (Led.alloc (H.out.drewN _) _) w.heap.size ((1 : Nat) : Int) (by simpa using (Blk.new (w.drewN k1) 3 #[.int .i64 ((1 : Nat) : Int)]).cell 0) _ HR.out).mono ?_; rintro e w2 ⟨rfl, k2, rfl⟩)
      | (refine wpList_load_mid rfl 89 _ rfl g 31 rfl G _ (HRNG.out _ _ _) Try.underlying89 rfl hsz.out ?_))
    go_rounds 7
    go_ret
    exact ⟨rfl, by repeat (first | exact Upd.refl _ _ | refine Upd.alloc ?_ _ | refine Upd.drewN ?_ _ | refine Upd.drew ?_)⟩
  · obtain ⟨l0, m0⟩ := HB.out 33
    obtain ⟨l1, m1⟩ := HB.out 39
    obtain ⟨l2, m2⟩ := HB.out 45
    obtain ⟨l3, m3⟩ := HB.out 51
    obtain ⟨l4, m4⟩ := HB.out 57
    obtain ⟨l5, m5⟩ := HB.out 63
    go_enter Try.func53, Try.ntmps53
    go_wp2_with (first
      | (go_at_call 66; refine (noneL _ g L H.out).mono ?_; rintro e w1 ⟨rfl, k1, rfl⟩)
      | (go_at_call 68; refine (is1L _ g L (Led.alloc (H.out.drewN _) _) w.heap.size ((2 : Nat) : Int) (by simpa using (Blk.new (w.drewN k1) 3 #[.int .i64 ((2 : Nat) : Int)]).cell 0) _ HR.out).mono ?_; rintro e w2 ⟨rfl, k2, rfl⟩)
      | (refine wpList_load_mid rfl 89 _ rfl g 31 rfl G _ (HRNG.out _ _ _) Try.underlying89 rfl hsz.out ?_))
    go_rounds 7
    go_ret
    exact ⟨rfl, by repeat (first | exact Upd.refl _ _ | refine Upd.alloc ?_ _ | refine Upd.drewN ?_ _ | refine Upd.drew ?_)⟩
  · obtain ⟨l0, m0⟩ := HB.out 34
    obtain ⟨l1, m1⟩ := HB.out 40
    obtain ⟨l2, m2⟩ := HB.out 46
    obtain ⟨l3, m3⟩ := HB.out 52
    obtain ⟨l4, m4⟩ := HB.out 58
    obtain ⟨l5, m5⟩ := HB.out 64
    go_enter Try.func53, Try.ntmps53
    go_wp2_with (first
      | (go_at_call 66; refine (noneL _ g L H.out).mono ?_; rintro e w1 ⟨rfl, k1, rfl⟩)
      | (go_at_call 68; refine (is1L _ g L (Led.alloc (H.out.drewN _) _) w.heap.size ((3 : Nat) : Int) (by simpa using (Blk.new (w.drewN k1) 3 #[.int .i64 ((3 : Nat) : Int)]).cell 0) _ HR.out).mono ?_; rintro e w2 ⟨rfl, k2, rfl⟩)
      | (refine wpList_load_mid rfl 89 _ rfl g 31 rfl G _ (HRNG.out _ _ _) Try.underlying89 rfl hsz.out ?_))
    go_rounds 7
    go_ret
    exact ⟨rfl, by repeat (first | exact Upd.refl _ _ | refine Upd.alloc ?_ _ | refine Upd.drewN ?_ _ | refine Upd.drew ?_)⟩
  · obtain ⟨l0, m0⟩ := HB.out 35
    obtain ⟨l1, m1⟩ := HB.out 41
    obtain ⟨l2, m2⟩ := HB.out 47
    obtain ⟨l3, m3⟩ := HB.out 53
    obtain ⟨l4, m4⟩ := HB.out 59
    obtain ⟨l5, m5⟩ := HB.out 65
    go_enter Try.func53, Try.ntmps53
    go_wp2_with (first
      | (go_at_call 66; refine (noneL _ g L H.out).mono ?_; rintro e w1 ⟨rfl, k1, rfl⟩)
      | (go_at_call 68; refine (is1L _ g L (Led.alloc (H.out.drewN _) _) w.heap.size ((4 : Nat) : Int) (by simpa using (Blk.new (w.drewN k1) 3 #[.int .i64 ((4 : Nat) : Int)]).cell 0) _ HR.out).mono ?_; rintro e w2 ⟨rfl, k2, rfl⟩)
      | (refine wpList_load_mid rfl 89 _ rfl g 31 rfl G _ (HRNG.out _ _ _) Try.underlying89 rfl hsz.out ?_))
    go_rounds 7
    go_ret
    exact ⟨rfl, by repeat (first | exact Upd.refl _ _ | refine Upd.alloc ?_ _ | refine Upd.drewN ?_ _ | refine Upd.drew ?_)⟩
  · obtain ⟨l0, m0⟩ := HB.out 36
    obtain ⟨l1, m1⟩ := HB.out 42
    obtain ⟨l2, m2⟩ := HB.out 48
    obtain ⟨l3, m3⟩ := HB.out 54
    obtain ⟨l4, m4⟩ := HB.out 60
    obtain ⟨l5, m5⟩ := HB.out 66
    go_enter Try.func53, Try.ntmps53
    go_wp2_with (first
      | (go_at_call 66; refine (noneL _ g L H.out).mono ?_; rintro e w1 ⟨rfl, k1, rfl⟩)
      | (go_at_call 68; refine (is1L _ g L (Led.alloc (H.out.drewN _) _) w.heap.size ((5 : Nat) : Int) (by simpa using (Blk.new (w.drewN k1) 3 #[.int .i64 ((5 : Nat) : Int)]).cell 0) _ HR.out).mono ?_; rintro e w2 ⟨rfl, k2, rfl⟩)
      | (refine wpList_load_mid rfl 89 _ rfl g 31 rfl G _ (HRNG.out _ _ _) Try.underlying89 rfl hsz.out ?_))
    go_rounds 7
    go_ret
    exact ⟨rfl, by repeat (first | exact Upd.refl _ _ | refine Upd.alloc ?_ _ | refine Upd.drewN ?_ _ | refine Upd.drew ?_)⟩

set_option maxRecDepth 100000 in
set_option maxHeartbeats 400000 in
theorem gotL_no (w : World) (g : Nat) (L : Nat → Int) (h : Led w g L) (p : Int) (hp : ¬ (0 ≤ p ∧ p < L 0)) :
    Calls Try.prog 53 #[.pointer (some ⟨g, 0, none⟩), .int .i64 p] w fun e w' => e = .returned (.int .i64 0) ∧ Upd (fun _ => False) w w' := by
  have HR : Hid (decide (0 ≤ p ∧ p < L 0) = false) := Lib.hid (decide_eq_false hp)
  have H := Lib.hid h; clear h hp
  go_enter Try.func53, Try.ntmps53
  go_wp2_with (first
    | (go_at_call 66; refine (noneL _ g L H.out).mono ?_; rintro e w1 ⟨rfl, k1, rfl⟩)
    | (go_at_call 68; refine (is1L _ g L (Led.alloc (H.out.drewN _) _) w.heap.size p (by simpa using (Blk.new (w.drewN k1) 3 #[.int .i64 p]).cell 0) _ HR.out).mono ?_; rintro e w2 ⟨rfl, k2, rfl⟩))
  go_ret
  exact ⟨rfl, (((Upd.refl _ _).drewN _).alloc _).drewN _⟩

/-- May a tick be charged so? -/
def fineB (P kind p q : Int) : Bool :=
  if kind = 0 ∨ kind = 2 ∨ kind = 3 then decide (0 ≤ p ∧ p < P)
  else if kind = 1 then decide ((0 ≤ p ∧ p < P) ∧ (0 ≤ q ∧ q < P)) && decide (p ≠ q)
  else decide (kind = 4)

set_option maxRecDepth 100000 in
set_option maxHeartbeats 800000 in
theorem fineL (w : World) (g : Nat) (L : Nat → Int) (h : Led w g L) (kind p q : Int) (r : Bool) (hr : fineB (L 0) kind p q = r) :
    Calls Try.prog 67 #[.pointer (some ⟨g, 0, none⟩), .int .i64 kind, .int .i64 p, .int .i64 q] w fun e w' => e = .returned (.bool r) ∧ Upd (fun _ => False) w w' := by
  have H := Lib.hid h; clear h
  unfold fineB at hr
  by_cases hk : kind = 0 ∨ kind = 2 ∨ kind = 3
  · rw [if_pos hk] at hr
    have HR := Lib.hid hr; clear hr
    rcases hk with rfl | rfl | rfl
    all_goals
      go_enter Try.func67, Try.ntmps67
      go_wp2_with (go_at_call 68; refine (is1L _ g L (Led.alloc H.out _) w.heap.size p (by simp) _ HR.out).mono ?_; rintro e w2 ⟨rfl, k2, rfl⟩)
      go_ret
      exact ⟨rfl, ((Upd.refl _ _).alloc _).drewN _⟩
  · rw [if_neg hk] at hr
    by_cases hk1 : kind = 1
    · rw [if_pos hk1] at hr
      subst hk1
      clear hk
      obtain ⟨r1, hr1⟩ : ∃ r1, decide ((0 ≤ p ∧ p < L 0) ∧ (0 ≤ q ∧ q < L 0)) = r1 := ⟨_, rfl⟩
      rw [hr1] at hr
      have HR := Lib.hid hr1; clear hr1
      cases r1
      · simp at hr
        subst hr
        go_enter Try.func67, Try.ntmps67
        go_wp2_with (go_at_call 68; refine (is2L _ g L (Led.alloc H.out _) w.heap.size p q (by simp) (by simp) _ HR.out).mono ?_; rintro e w2 ⟨rfl, k2, rfl⟩)
        go_ret
        exact ⟨rfl, ((Upd.refl _ _).alloc _).drewN _⟩
      · rw [Bool.true_and] at hr
        have e1 : (p != q) = r := by rw [← hr]; by_cases e : p = q <;> simp [e]
        clear hr
        go_enter Try.func67, Try.ntmps67
        go_wp2_with (go_at_call 68; refine (is2L _ g L (Led.alloc H.out _) w.heap.size p q (by simp) (by simp) _ HR.out).mono ?_; rintro e w2 ⟨rfl, k2, rfl⟩)
        go_ret
        exact ⟨rfl, ((Upd.refl _ _).alloc _).drewN _⟩
    · rw [if_neg hk1] at hr
      have e0 : (kind == 0) = false := beq_eq_false_iff_ne.2 (by omega)
      have e1 : (kind == 1) = false := beq_eq_false_iff_ne.2 (by omega)
      have e2 : (kind == 2) = false := beq_eq_false_iff_ne.2 (by omega)
      have e3 : (kind == 3) = false := beq_eq_false_iff_ne.2 (by omega)
      have e4 : (kind == 4) = r := by rw [← hr]; by_cases e : kind = 4 <;> simp [e]
      clear hr hk hk1
      go_enter Try.func67, Try.ntmps67
      go_wp2
      go_ret
      exact ⟨rfl, Upd.refl _ _⟩

/-- What a charge that is fine turns. -/
def chg (L : Nat → Int) (kind p q : Nat) : Nat → Int :=
  let L1 := setL L 67 (L 67 + 1)
  if kind = 4 then L1
  else
    let L2 := if kind = 1 then setL L1 (31 + p * 6 + q) (L1 (31 + p * 6 + q) + 1) else L1
    setL L2 (1 + kind * 6 + p) (L2 (1 + kind * 6 + p) + 1)

set_option maxRecDepth 100000 in
set_option maxHeartbeats 800000 in
theorem chargeL_no (w : World) (g : Nat) (L : Nat → Int) (h : Led w g L) (kind p q : Int) (hr : fineB (L 0) kind p q = false) :
    Calls Try.prog 49 #[.pointer (some ⟨g, 0, none⟩), .int .i64 kind, .int .i64 p, .int .i64 q] w fun e w' => e = .returned (.int .i64 1) ∧ Upd (fun _ => False) w w' := by
  have H := Lib.hid h; clear h
  have HR := Lib.hid hr; clear hr
  go_enter Try.func49, Try.ntmps49
  go_wp2_with (first
    | (go_at_call 66; refine (noneL _ g L H.out).mono ?_; rintro e w1 ⟨rfl, k1, rfl⟩)
    | (go_at_call 67; refine (fineL _ g L (H.out.drewN _) kind p q _ HR.out).mono ?_; rintro e w2 ⟨rfl, hU⟩; have HU := Lib.hid hU; clear hU))
  go_ret
  exact ⟨rfl, ((Upd.refl _ _).drewN _).trans HU.out⟩

set_option maxRecDepth 100000 in
set_option maxHeartbeats 800000 in
theorem chargeL_gap (w : World) (g : Nat) (L : Nat → Int) (h : Led w g L) (p q : Int) (hb : 0 ≤ L 67 ∧ L 67 ≤ 1000) :
    Calls Try.prog 49 #[.pointer (some ⟨g, 0, none⟩), .int .i64 4, .int .i64 p, .int .i64 q] w fun e w' => e = .returned (.int .i64 0) ∧ Led w' g (setL L 67 (L 67 + 1)) ∧ Upd (fun k => k = g) w w' := by
  have H := Lib.hid h; clear h
  obtain ⟨b0, b1⟩ := hb
  have HR : Hid (fineB (L 0) 4 p q = true) := Lib.hid (by simp [fineB])
  go_enter Try.func49, Try.ntmps49
  go_wp2_with fail
  refine (noneL _ g L H.out).mono ?_
  rintro e w1 ⟨rfl, k1, rfl⟩
  go_wp2_with fail
  refine (fineL _ g L (H.out.drewN _) 4 p q _ HR.out).mono ?_
  rintro e w2 ⟨rfl, hU⟩
  have hL2 := (H.out.drewN k1).upd hU (fun h => h)
  have HU := Lib.hid hU; clear hU
  have c := hL2.cell 67 (by omega)
  have f := Blk.frozen hL2 67
  have HL2 := Lib.hid hL2; clear hL2
  have e1 : decide (4611686018427387904 ≤ L 67) = false := decide_eq_false (by omega)
  go_wp2
  go_ret
  exact ⟨rfl, HL2.out.set_ 67 _ (by omega), (((Upd.refl (fun k => k = g) w).drewN _).trans (HU.out.mono (fun k _ h => h.elim))).setCell (fun _ => rfl) _⟩

set_option maxRecDepth 100000 in
set_option maxHeartbeats 800000 in
theorem chargeL_one (w : World) (g : Nat) (L : Nat → Int) (h : Led w g L) (kind p : Nat) (q : Int) (hk : kind = 0 ∨ kind = 2 ∨ kind = 3) (hp : (p : Int) < L 0) (hL : L 0 ≤ 6) (hb : ∀ i, 0 ≤ L i ∧ L i ≤ 1000) :
    Calls Try.prog 49 #[.pointer (some ⟨g, 0, none⟩), .int .i64 kind, .int .i64 p, .int .i64 q] w fun e w' => e = .returned (.int .i64 0) ∧
      Led w' g (setL (setL L 67 (L 67 + 1)) (1 + kind * 6 + p) (L (1 + kind * 6 + p) + 1)) ∧ Upd (fun k => k = g) w w' := by
  have H := Lib.hid h; clear h
  obtain ⟨b0, b1⟩ := hb 67
  obtain ⟨b2, b3⟩ := hb (1 + kind * 6 + p)
  have hp6 : p < 6 := by omega
  have hk4 : kind < 4 := by omega
  have HR : Hid (fineB (L 0) kind p q = true) := Lib.hid (by unfold fineB; rw [if_pos (by omega)]; exact decide_eq_true (by omega))
  clear hb hL hp
  have e4 : ((kind : Int) == 4) = false := beq_eq_false_iff_ne.2 (by omega)
  have e5 : ((kind : Int) == 1) = false := beq_eq_false_iff_ne.2 (by omega)
  clear hk
  go_enter Try.func49, Try.ntmps49
  go_wp2_with fail
  refine (noneL _ g L H.out).mono ?_
  rintro e w1 ⟨rfl, k1, rfl⟩
  go_wp2_with fail
  refine (fineL _ g L (H.out.drewN _) kind p q _ HR.out).mono ?_
  rintro e w2 ⟨rfl, hU⟩
  have hL2 := (H.out.drewN k1).upd hU (fun h => h)
  have HU := Lib.hid hU; clear hU
  have c := hL2.cell 67 (by omega)
  have f := Blk.frozen hL2 67
  have cs : (w2.setCell ⟨g, 67, none⟩ (.int .i64 (L 67 + 1))).cell? ⟨g, 1 + kind * 6 + p, none⟩ = some (.int .i64 (L (1 + kind * 6 + p))) := by
    have := (hL2.set_ 67 (L 67 + 1) (by omega)).cell (1 + kind * 6 + p) (by omega)
    rw [this]; unfold setL; rw [if_neg (by omega)]
  have fs : (w2.setCell ⟨g, 67, none⟩ (.int .i64 (L 67 + 1))).frozen? ⟨g, 1 + kind * 6 + p, none⟩ = false := Blk.frozen (hL2.set_ 67 (L 67 + 1) (by omega)) _
  have HL2 := Lib.hid hL2; clear hL2
  have e1 : decide (4611686018427387904 ≤ L 67) = false := decide_eq_false (by omega)
  go_wp2
  go_region
  go_wp2
  go_ret
  refine ⟨rfl, ?_, (((((Upd.refl (fun k => k = g) w).drewN _).trans (HU.out.mono (fun k _ h => h.elim))).setCell (p := ⟨g, 67, none⟩) (fun _ => rfl) _).drewN 1).setCell (fun _ => rfl) _⟩
  have := ((HL2.out.set_ 67 (L 67 + 1) (by omega)).drewN 1).set_ (1 + kind * 6 + p) (L (1 + kind * 6 + p) + 1) (by omega)
  exact this

set_option maxRecDepth 100000 in
set_option maxHeartbeats 800000 in
theorem chargeL_given (w : World) (g : Nat) (L : Nat → Int) (h : Led w g L) (p q : Nat) (hp : (p : Int) < L 0) (hq : (q : Int) < L 0) (hpq : p ≠ q) (hL : L 0 ≤ 6) (hb : ∀ i, 0 ≤ L i ∧ L i ≤ 1000) :
    Calls Try.prog 49 #[.pointer (some ⟨g, 0, none⟩), .int .i64 1, .int .i64 p, .int .i64 q] w fun e w' => e = .returned (.int .i64 0) ∧
      Led w' g (setL (setL (setL L 67 (L 67 + 1)) (31 + p * 6 + q) (L (31 + p * 6 + q) + 1)) (7 + p) (L (7 + p) + 1)) ∧ Upd (fun k => k = g) w w' := by
  have H := Lib.hid h; clear h
  obtain ⟨b0, b1⟩ := hb 67
  obtain ⟨b2, b3⟩ := hb (7 + p)
  obtain ⟨b4, b5⟩ := hb (31 + p * 6 + q)
  have hp6 : p < 6 := by omega
  have hq6 : q < 6 := by omega
  have HR : Hid (fineB (L 0) 1 p q = true) := Lib.hid (by unfold fineB; rw [if_neg (by omega), if_pos rfl, Bool.and_eq_true]; exact ⟨decide_eq_true (by omega), decide_eq_true (by omega)⟩)
  clear hb hL hp hq hpq
  go_enter Try.func49, Try.ntmps49
  go_wp2_with fail
  refine (noneL _ g L H.out).mono ?_
  rintro e w1 ⟨rfl, k1, rfl⟩
  go_wp2_with fail
  refine (fineL _ g L (H.out.drewN _) 1 p q _ HR.out).mono ?_
  rintro e w2 ⟨rfl, hU⟩
  have hL2 := (H.out.drewN k1).upd hU (fun h => h)
  have HU := Lib.hid hU; clear hU
  have c := hL2.cell 67 (by omega)
  have f := Blk.frozen hL2 67
  have hL3 := hL2.set_ 67 (L 67 + 1) (by omega)
  have cs : (w2.setCell ⟨g, 67, none⟩ (.int .i64 (L 67 + 1))).cell? ⟨g, 31 + p * 6 + q, none⟩ = some (.int .i64 (L (31 + p * 6 + q))) := by
    rw [hL3.cell (31 + p * 6 + q) (by omega)]; unfold setL; rw [if_neg (by omega)]
  have fs : (w2.setCell ⟨g, 67, none⟩ (.int .i64 (L 67 + 1))).frozen? ⟨g, 31 + p * 6 + q, none⟩ = false := Blk.frozen hL3 _
  have HL3 := Lib.hid hL3; clear hL3 hL2
  have e1 : decide (4611686018427387904 ≤ L 67) = false := decide_eq_false (by omega)
  go_wp2
  go_region
  clear c f cs fs
  have hL4 := HL3.out.set_ (31 + p * 6 + q) (L (31 + p * 6 + q) + 1) (by omega)
  have hU4 : Upd (fun k => k = g) w ((w2.setCell ⟨g, 67, none⟩ (.int .i64 (L 67 + 1))).setCell ⟨g, 31 + p * 6 + q, none⟩ (.int .i64 (L (31 + p * 6 + q) + 1))) :=
    (((((Upd.refl (fun k => k = g) w).drewN _).trans (HU.out.mono (fun k _ h => h.elim))).setCell (p := ⟨g, 67, none⟩) (fun _ => rfl) _)).setCell (fun _ => rfl) _
  generalize (w2.setCell ⟨g, 67, none⟩ (.int .i64 (L 67 + 1))).setCell ⟨g, 31 + p * 6 + q, none⟩ (.int .i64 (L (31 + p * 6 + q) + 1)) = W at *
  have cs : W.cell? ⟨g, 7 + p, none⟩ = some (.int .i64 (L (7 + p))) := by
    rw [hL4.cell (7 + p) (by omega)]; unfold setL; rw [if_neg (by omega), if_neg (by omega)]
  have fs : W.frozen? ⟨g, 7 + p, none⟩ = false := Blk.frozen hL4 _
  have HL4 := Lib.hid hL4; clear hL4
  have HU4 := Lib.hid hU4; clear hU4
  go_wp2
  go_region
  go_wp2
  go_ret
  refine ⟨rfl, ?_, (HU4.out.drewN 2).setCell (fun _ => rfl) _⟩
  have := (HL4.out.drewN 2).set_ (7 + p) (L (7 + p) + 1) (by omega)
  exact this

set_option maxRecDepth 100000 in
set_option maxHeartbeats 800000 in
theorem newL (w : World) (parts : Int) (m : Nat) (hm : min (max parts 0) 6 = m) :
    Calls Try.prog 46 #[.int .i64 parts] w fun e w' => ∃ g, e = .returned (.pointer (some ⟨g, 0, none⟩)) ∧ w.heap.size ≤ g ∧ Led w' g (fun i => if i = 0 then (m : Int) else 0) ∧ Below w.heap.size w w' := by
  go_enter Try.func46, Try.ntmps46
  go_wp2
  go_ret
  refine ⟨_, rfl, Nat.le_refl _, ?_, (Below.refl _ _).alloc (Nat.le_refl _) _⟩
  have e : (Try.zeroCells91.setIfInBounds 0 (Value.int .i64 m)).setIfInBounds 68 (.bool true) = lcells (fun i => if i = 0 then (m : Int) else 0) := by kernel_rfl
  rw [e]
  exact Blk.new w _ _

set_option maxHeartbeats 400000 in
theorem num15 (w : World) (k : Int) : Calls Try.prog 48 #[.int .i64 k] w fun e w' => e = .returned (.int .i64 k) ∧ ∃ m, w' = w.drewN m := by
  go_enter Try.func48, Try.ntmps48
  go_wp2
  go_ret
  exact ⟨rfl, 0, rfl⟩

theorem setL_bd {L : Nat → Int} {i : Nat} {x B : Int} (h : ∀ j, 0 ≤ L j ∧ L j ≤ B) (hx : 0 ≤ x ∧ x ≤ B) : ∀ j, 0 ≤ setL L i x j ∧ setL L i x j ≤ B := by
  intro j
  unfold setL
  split
  · exact hx
  · exact h j

set_option maxRecDepth 100000 in
set_option maxHeartbeats 1600000 in
theorem knows15 (w : World) : Calls Try.prog 45 #[] w fun e w' => e = .returned (.bool true) ∧ Below w.heap.size w w' := by
  go_enter Try.func45, Try.ntmps45
  go_wp2_with fail
  refine (newL _ 3 3 (by decide)).mono ?_
  rintro e w1 ⟨g, rfl, hg, hL, hB⟩
  have HL := Lib.hid hL; clear hL
  have HB := Lib.hid hB; clear hB
  go_wp2_with fail
  refine (chargeL_given _ g _ HL.out 0 2 (by simp) (by simp) (by omega) (by simp) (fun i => by by_cases e : i = 0 <;> simp [e])).mono ?_
  rintro e w2 ⟨rfl, hL, hU⟩
  have hb : ∀ i, 0 ≤ setL (setL (setL (fun i => if i = 0 then ((3 : Nat) : Int) else 0) 67 1) 33 1) 7 1 i ∧ setL (setL (setL (fun i => if i = 0 then ((3 : Nat) : Int) else 0) 67 1) 33 1) 7 1 i ≤ 1000 :=
    setL_bd (setL_bd (setL_bd (fun i => by by_cases e : i = 0 <;> simp [e]) (by decide)) (by decide)) (by decide)
  have hL' : Led w2 g (setL (setL (setL (fun i => if i = 0 then ((3 : Nat) : Int) else 0) 67 1) 33 1) 7 1) := hL
  have v0 : setL (setL (setL (fun i => if i = 0 then ((3 : Nat) : Int) else 0) 67 1) 33 1) 7 1 0 = 3 := rfl
  have v1 : setL (setL (setL (fun i => if i = 0 then ((3 : Nat) : Int) else 0) 67 1) 33 1) 7 1 7 = 1 := rfl
  have v2 : setL (setL (setL (fun i => if i = 0 then ((3 : Nat) : Int) else 0) 67 1) 33 1) 7 1 33 = 1 := rfl
  have v3 : setL (setL (setL (fun i => if i = 0 then ((3 : Nat) : Int) else 0) 67 1) 33 1) 7 1 67 = 1 := rfl
  have v4 : gotOf (setL (setL (setL (fun i => if i = 0 then ((3 : Nat) : Int) else 0) 67 1) 33 1) 7 1) 2 = 1 := rfl
  generalize setL (setL (setL (fun i => if i = 0 then ((3 : Nat) : Int) else 0) 67 1) 33 1) 7 1 = M at *
  clear hL
  have HL2 := Lib.hid hL'; clear hL'
  have HB2 := Lib.hid (Below.upd HB.out hU HB.out.size (fun k hk => by omega)); clear hU
  have HM := Lib.hid hb; clear hb
  have V0 := Lib.hid v0; clear v0
  go_wp2_with fail
  refine (num15 _ _).mono ?_
  rintro e w3 ⟨rfl, k3, rfl⟩
  go_wp2_with fail
  refine (ofL_yes _ g M (HL2.out.drewN _) 1 0 (by omega) (by rw [V0.out]; decide) (by rw [V0.out]; decide)).mono ?_
  rintro e w4 ⟨rfl, hU⟩
  have HL4 := Lib.hid ((HL2.out.drewN k3).upd hU (fun h => h))
  have HB4 := Lib.hid (Below.upd (below_drewN HB2.out k3) hU HB2.out.size (fun k hk => hk.elim)); clear hU
  go_wp2_with fail
  refine (gotL_yes _ g M HL4.out 2 (by rw [V0.out]; decide) (by rw [V0.out]; decide) HM.out).mono ?_
  rintro e w5 ⟨rfl, hU⟩
  have HL5 := Lib.hid (HL4.out.upd hU (fun h => h))
  have HB5 := Lib.hid (Below.upd HB4.out hU HB4.out.size (fun k hk => hk.elim)); clear hU
  go_wp2_with fail
  refine (gaveL_yes _ g M HL5.out 0 2 (by rw [V0.out]; decide) (by rw [V0.out]; decide) (by rw [V0.out]; decide)).mono ?_
  rintro e w6 ⟨rfl, hU⟩
  have HL6 := Lib.hid (HL5.out.upd hU (fun h => h))
  have HB6 := Lib.hid (Below.upd HB5.out hU HB5.out.size (fun k hk => hk.elim)); clear hU
  go_wp2_with fail
  refine (totalL _ g M HL6.out).mono ?_
  rintro e w7 ⟨rfl, hU⟩
  have HB7 := Lib.hid (Below.upd HB6.out hU HB6.out.size (fun k hk => hk.elim)); clear hU
  go_wp2_with fail
  go_ret
  exact ⟨rfl, HB7.out⟩
end Go.Proofs.Ytfpigcjhonfcjaa
