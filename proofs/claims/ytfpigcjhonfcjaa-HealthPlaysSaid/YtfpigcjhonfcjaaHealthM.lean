/-
  The walks of a monitor of faults: New, Fault, Count, Acts.
-/
import Derived.Test.YtfpigcjhonfcjaaHealth
import Derived.OpenShut
namespace Go.Proofs.Ytfpigcjhonfcjaa
open Go.RowKit
attribute [local go_sem] max_ints min_ints

set_option maxRecDepth 100000 in
theorem eq_arr3 (w : World) (a0 a1 a2 : Int) : (Op.equalIn 10000 32 (.agg #[.int .u8 a0, .int .u8 a1, .int .u8 a2]) (.agg #[.int .u8 a0, .int .u8 a1, .int .u8 a2])).run Try.prog w = .ok true w := by
  have hs : ∀ w, (sizeOf 5).run Try.prog w = .ok 1 w := fun _ => by kernel_rfl
  have p0 : ∀ (w : World) , (part 5 #[.int .u8 a0, .int .u8 a1, .int .u8 a2] 0).run Try.prog w = .ok (.int .u8 a0) w := fun _ => by kernel_rfl
  have p1 : ∀ (w : World) , (part 5 #[.int .u8 a0, .int .u8 a1, .int .u8 a2] 1).run Try.prog w = .ok (.int .u8 a1) w := fun _ => by kernel_rfl
  have p2 : ∀ (w : World) , (part 5 #[.int .u8 a0, .int .u8 a1, .int .u8 a2] 2).run Try.prog w = .ok (.int .u8 a2) w := fun _ => by kernel_rfl
  have q : ∀ (w : World) (x : Int), (Op.equalIn (9998 + 1) 5 (.int .u8 x) (.int .u8 x)).run Try.prog w = .ok (x == x) w := fun w x => run_equalIn_int w 9998 5 .u8 .u8 x x Try.underlying5
  have key : ∀ d, (∀ (w : World) (x : Int), (Op.equalIn d 5 (.int .u8 x) (.int .u8 x)).run Try.prog w = .ok (x == x) w) → (Op.equalIn (d + 1) 32 (.agg #[.int .u8 a0, .int .u8 a1, .int .u8 a2]) (.agg #[.int .u8 a0, .int .u8 a1, .int .u8 a2])).run Try.prog w = .ok true w := by
    intro d q
    rw [Op.equalIn]
    simp only [Sem.run_bind, run_underlying Try.underlying32, Result.andThen_ok, hs]
    simp [Std.Legacy.Range.forIn_eq_forIn_range', List.range', p0, p1, p2, q]
  exact key 9999 q

/-- A monitor at block g. -/
def Mon (w : World) (g : Nat) (t : TypeId) (a0 a1 a2 s0 s1 s2 : Int) : Prop := Blk w g t #[.int .u8 a0, .int .u8 a1, .int .u8 a2, .int .i64 s0, .int .i64 s1, .int .i64 s2]

set_option maxRecDepth 100000 in
set_option maxHeartbeats 400000 in
theorem maxu8 (w : World) (b : Nat) (a0 a1 a2 : Int) (hb : Blk w b 32 #[.int .u8 a0, .int .u8 a1, .int .u8 a2]) :
    Calls Try.prog 61 #[.slice (some ⟨b, 0, none⟩) 3 3] w fun e w' => e = .returned (.int .u8 (max a0 (max a1 a2))) ∧ ∃ k, w' = w.drewN k := by
  have c0 := hb.cell 0
  have c1 := hb.cell 1
  have c2 := hb.cell 2
  simp at c0 c1 c2
  clear hb
  go_enter Try.func61, Try.ntmps61
  go_wp2
  go_rounds 3
  go_ret
  exact ⟨rfl, 0, rfl⟩

set_option maxRecDepth 100000 in
set_option maxHeartbeats 400000 in
theorem newH_no (w : World) (a0 a1 a2 : Int) (hm : 2 < max a0 (max a1 a2)) :
    Calls Try.prog 19 #[.agg #[.int .u8 a0, .int .u8 a1, .int .u8 a2]] w fun e w' => e = .returned (.pointer none) ∧ Below w.heap.size w w' := by
  have e0 : decide ((2 : Int) < max a0 (max a1 a2)) = true := decide_eq_true hm
  clear hm
  go_enter Try.func19, Try.ntmps19
  go_wp2_with fail
  refine (maxu8 _ _ a0 a1 a2 (Blk.new _ _ _)).mono ?_
  rintro e w1 ⟨rfl, k, rfl⟩
  go_wp2
  go_ret
  exact ⟨rfl, below_drewN ((Below.refl _ _).alloc (Nat.le_refl _) _) _⟩

set_option maxRecDepth 100000 in
set_option maxHeartbeats 400000 in
theorem newH_yes (w : World) (a0 a1 a2 : Int) (hm : max a0 (max a1 a2) ≤ 2) :
    Calls Try.prog 19 #[.agg #[.int .u8 a0, .int .u8 a1, .int .u8 a2]] w fun e w' => ∃ g, e = .returned (.pointer (some ⟨g, 0, none⟩)) ∧ w.heap.size ≤ g ∧ Mon w' g 102 a0 a1 a2 0 0 0 ∧ Below w.heap.size w w' := by
  have e0 : decide ((2 : Int) < max a0 (max a1 a2)) = false := decide_eq_false (by omega)
  clear hm
  go_enter Try.func19, Try.ntmps19
  go_wp2_with fail
  refine (maxu8 _ _ a0 a1 a2 (Blk.new _ _ _)).mono ?_
  rintro e w1 ⟨rfl, k, rfl⟩
  have hb := ((Blk.new w 32 #[.int .u8 a0, .int .u8 a1, .int .u8 a2]).drewN k)
  have hB := below_drewN ((Below.refl w.heap.size w).alloc (Nat.le_refl _) (.cells #[.int .u8 a0, .int .u8 a1, .int .u8 a2] 32)) k
  generalize (w.alloc (.cells #[.int .u8 a0, .int .u8 a1, .int .u8 a2] 32)).drewN k = W at *
  have c0 := hb.cell 0
  have c1 := hb.cell 1
  have c2 := hb.cell 2
  simp at c0 c1 c2
  have HB := Lib.hid hB; clear hB
  clear hb
  go_wp2
  go_ret
  exact ⟨_, rfl, HB.out.size, Blk.new _ _ _, HB.out.alloc HB.out.size _⟩

set_option maxRecDepth 100000 in
set_option maxHeartbeats 400000 in
theorem newR_no (w : World) (a0 a1 a2 : Int) (hm : 2 < max a0 (max a1 a2)) :
    Calls Try.prog 20 #[.agg #[.int .u8 a0, .int .u8 a1, .int .u8 a2]] w fun e w' => e = .returned (.pointer none) ∧ Below w.heap.size w w' := by
  by_cases h0 : 2 < a0
  · have e0 : decide ((2 : Int) < a0) = true := decide_eq_true h0
    clear hm
    go_enter Try.func20, Try.ntmps20
    go_wp2
    go_ret
    exact ⟨rfl, ((Below.refl _ _).alloc (Nat.le_refl _) _)⟩
  · have e0 : decide ((2 : Int) < a0) = false := decide_eq_false h0
    by_cases h1 : 2 < a1
    · have e1 : decide ((2 : Int) < a1) = true := decide_eq_true h1
      clear hm
      go_enter Try.func20, Try.ntmps20
      go_wp2
      go_ret
      exact ⟨rfl, ((Below.refl _ _).alloc (Nat.le_refl _) _)⟩
    · have e1 : decide ((2 : Int) < a1) = false := decide_eq_false h1
      have e2 : decide ((2 : Int) < a2) = true := decide_eq_true (by omega)
      clear hm
      go_enter Try.func20, Try.ntmps20
      go_wp2
      go_ret
      exact ⟨rfl, ((Below.refl _ _).alloc (Nat.le_refl _) _)⟩

set_option maxRecDepth 100000 in
set_option maxHeartbeats 400000 in
theorem newR_yes (w : World) (a0 a1 a2 : Int) (hm : max a0 (max a1 a2) ≤ 2) :
    Calls Try.prog 20 #[.agg #[.int .u8 a0, .int .u8 a1, .int .u8 a2]] w fun e w' => ∃ g, e = .returned (.pointer (some ⟨g, 0, none⟩)) ∧ w.heap.size ≤ g ∧ Mon w' g 48 a0 a1 a2 0 0 0 ∧ Below w.heap.size w w' := by
  have e0 : decide ((2 : Int) < a0) = false := decide_eq_false (by omega)
  have e1 : decide ((2 : Int) < a1) = false := decide_eq_false (by omega)
  have e2 : decide ((2 : Int) < a2) = false := decide_eq_false (by omega)
  clear hm
  go_enter Try.func20, Try.ntmps20
  go_wp2
  go_ret
  exact ⟨w.heap.size + 1, rfl, by omega, by simpa [Mon] using Blk.new (w.alloc (.cells #[.int .u8 a0, .int .u8 a1, .int .u8 a2] 32)) 48 #[.int .u8 a0, .int .u8 a1, .int .u8 a2, .int .i64 0, .int .i64 0, .int .i64 0], ((Below.refl _ _).alloc (Nat.le_refl _) _).alloc (by simp) _⟩

/-- One more fault of a kind. -/
def bump (k : Int) (j : Int) (s : Int) : Int := if k = j then s + 1 else s
def actOf (k a0 a1 a2 : Int) : Int := if k = 0 then a0 else if k = 1 then a1 else a2

set_option maxRecDepth 100000 in
set_option maxHeartbeats 400000 in
theorem faultH_no (w : World) (v : Value) (k : Int) (hv : v = .pointer none ∨ ∃ g, v = .pointer (some ⟨g, 0, none⟩)) (hk : v = .pointer none ∨ ¬ (0 ≤ k ∧ k < 3)) :
    Calls Try.prog 21 #[v, .int .i64 k] w fun e w' => e = .returned (.tuple #[.int .u8 0, .int .i64 1]) ∧ ∃ k, w' = w.drewN k := by
  rcases hv with rfl | ⟨g, rfl⟩
  · clear hk
    go_enter Try.func21, Try.ntmps21
    go_wp2
    go_ret2
    exact ⟨rfl, 0, rfl⟩
  · have HI : Hid (decide (0 ≤ k ∧ k < 3) = false) := Lib.hid (decide_eq_false (by rcases hk with h | h; cases h; exact h))
    clear hk
    go_enter Try.func21, Try.ntmps21
    go_wp2_with (go_at_call 62; refine (isk _ _ _ HI.out).mono ?_; rintro e w' ⟨rfl, m, rfl⟩)
    go_ret2
    exact ⟨rfl, _, rfl⟩

theorem three (k : Int) (h0 : 0 ≤ k) (h1 : k < 3) : k = 0 ∨ k = 1 ∨ k = 2 := by omega

set_option maxRecDepth 100000 in
set_option maxHeartbeats 800000 in
theorem faultH_yes (w : World) (g : Nat) (a0 a1 a2 s0 s1 s2 k : Int) (hM : Mon w g 102 a0 a1 a2 s0 s1 s2) (h0 : 0 ≤ k) (h1 : k < 3)
    (b0 : 0 ≤ s0 ∧ s0 ≤ 1000) (b1 : 0 ≤ s1 ∧ s1 ≤ 1000) (b2 : 0 ≤ s2 ∧ s2 ≤ 1000) :
    Calls Try.prog 21 #[.pointer (some ⟨g, 0, none⟩), .int .i64 k] w fun e w' => e = .returned (.tuple #[.int .u8 (actOf k a0 a1 a2), .int .i64 0]) ∧
      Mon w' g 102 a0 a1 a2 (bump k 0 s0) (bump k 1 s1) (bump k 2 s2) ∧ Upd (fun k => k = g) w w' := by
  obtain ⟨b0, b0'⟩ := b0
  obtain ⟨b1, b1'⟩ := b1
  obtain ⟨b2, b2'⟩ := b2
  have c0 := Blk.cell hM 0
  have c1 := Blk.cell hM 1
  have c2 := Blk.cell hM 2
  have c3 := Blk.cell hM 3
  have c4 := Blk.cell hM 4
  have c5 := Blk.cell hM 5
  have f3 := Blk.frozen hM 3
  have f4 := Blk.frozen hM 4
  have f5 := Blk.frozen hM 5
  simp at c0 c1 c2 c3 c4 c5
  have HM := Lib.hid hM; clear hM
  have HI : Hid (decide (0 ≤ k ∧ k < 3) = true) := Lib.hid (decide_eq_true ⟨h0, h1⟩)
  rcases three k h0 h1 with rfl | rfl | rfl
  all_goals
    clear h0 h1
    go_enter Try.func21, Try.ntmps21
    go_wp2_with (go_at_call 62; refine (isk _ _ _ HI.out).mono ?_; rintro e w' ⟨rfl, m, rfl⟩)
    go_region
    go_wp2
    go_ret2
    refine ⟨rfl, ?_, (((Upd.refl (fun k => k = g) w).drewN _)).setCell (fun _ => rfl) _⟩
  · have := (HM.out.drewN (m + 1)).set_ 3 (.int .i64 (s0 + 1)); simpa [Mon, bump] using this
  · have := (HM.out.drewN (m + 1)).set_ 4 (.int .i64 (s1 + 1)); simpa [Mon, bump] using this
  · have := (HM.out.drewN (m + 1)).set_ 5 (.int .i64 (s2 + 1)); simpa [Mon, bump] using this

set_option maxRecDepth 100000 in
set_option maxHeartbeats 400000 in
theorem faultR_no (w : World) (g : Nat) (k : Int) (hk : ¬ (0 ≤ k ∧ k < 3)) :
    Calls Try.prog 22 #[.pointer (some ⟨g, 0, none⟩), .int .i64 k] w fun e w' => e = .returned (.tuple #[.int .u8 0, .int .i64 1]) ∧ ∃ k, w' = w.drewN k := by
  by_cases h0 : k < 0
  · have e0 : decide (k < 0) = true := decide_eq_true h0
    clear hk
    go_enter Try.func22, Try.ntmps22
    go_wp2
    go_ret2
    exact ⟨rfl, 0, rfl⟩
  · have e0 : decide (k < 0) = false := decide_eq_false h0
    have e1 : decide (2 < k) = true := decide_eq_true (by omega)
    clear hk
    go_enter Try.func22, Try.ntmps22
    go_wp2
    go_ret2
    exact ⟨rfl, 0, rfl⟩

set_option maxRecDepth 100000 in
set_option maxHeartbeats 800000 in
theorem faultR_yes (w : World) (g : Nat) (a0 a1 a2 s0 s1 s2 k : Int) (hM : Mon w g 48 a0 a1 a2 s0 s1 s2) (h0 : 0 ≤ k) (h1 : k < 3)
    (b0 : 0 ≤ s0 ∧ s0 ≤ 1000) (b1 : 0 ≤ s1 ∧ s1 ≤ 1000) (b2 : 0 ≤ s2 ∧ s2 ≤ 1000) :
    Calls Try.prog 22 #[.pointer (some ⟨g, 0, none⟩), .int .i64 k] w fun e w' => e = .returned (.tuple #[.int .u8 (actOf k a0 a1 a2), .int .i64 0]) ∧
      Mon w' g 48 a0 a1 a2 (bump k 0 s0) (bump k 1 s1) (bump k 2 s2) ∧ Upd (fun k => k = g) w w' := by
  obtain ⟨b0, b0'⟩ := b0
  obtain ⟨b1, b1'⟩ := b1
  obtain ⟨b2, b2'⟩ := b2
  have c0 := Blk.cell hM 0
  have c1 := Blk.cell hM 1
  have c2 := Blk.cell hM 2
  have c3 := Blk.cell hM 3
  have c4 := Blk.cell hM 4
  have c5 := Blk.cell hM 5
  have f3 := Blk.frozen hM 3
  have f4 := Blk.frozen hM 4
  have f5 := Blk.frozen hM 5
  simp at c0 c1 c2 c3 c4 c5
  have HM := Lib.hid hM; clear hM
  rcases three k h0 h1 with rfl | rfl | rfl
  all_goals
    clear h0 h1
    go_enter Try.func22, Try.ntmps22
    go_wp2
    go_region
    go_wp2
    go_ret2
    refine ⟨rfl, ?_, (((Upd.refl (fun k => k = g) w).drewN 1)).setCell (fun _ => rfl) _⟩
  · have := Blk.drew (Blk.set_ HM.out 3 (.int .i64 (s0 + 1))); simpa [Mon, bump] using this
  · have := Blk.drew (Blk.set_ HM.out 4 (.int .i64 (s1 + 1))); simpa [Mon, bump] using this
  · have := Blk.drew (Blk.set_ HM.out 5 (.int .i64 (s2 + 1))); simpa [Mon, bump] using this

def seenOf (k s0 s1 s2 : Int) : Int := if k = 0 then s0 else if k = 1 then s1 else s2

set_option maxRecDepth 100000 in
set_option maxHeartbeats 400000 in
theorem countH_no (w : World) (v : Value) (k : Int) (hv : v = .pointer none ∨ ∃ g, v = .pointer (some ⟨g, 0, none⟩)) (hk : v = .pointer none ∨ ¬ (0 ≤ k ∧ k < 3)) :
    Calls Try.prog 25 #[v, .int .i64 k] w fun e w' => e = .returned (.int .i64 0) ∧ ∃ k, w' = w.drewN k := by
  rcases hv with rfl | ⟨g, rfl⟩
  · clear hk
    go_enter Try.func25, Try.ntmps25
    go_wp2
    go_ret
    exact ⟨rfl, 0, rfl⟩
  · have HI : Hid (decide (0 ≤ k ∧ k < 3) = false) := Lib.hid (decide_eq_false (by rcases hk with h | h; cases h; exact h))
    clear hk
    go_enter Try.func25, Try.ntmps25
    go_wp2_with (go_at_call 62; refine (isk _ _ _ HI.out).mono ?_; rintro e w' ⟨rfl, m, rfl⟩)
    go_ret
    exact ⟨rfl, _, rfl⟩

set_option maxRecDepth 100000 in
set_option maxHeartbeats 800000 in
theorem countH_yes (w : World) (g : Nat) (a0 a1 a2 s0 s1 s2 k : Int) (hM : Mon w g 102 a0 a1 a2 s0 s1 s2) (h0 : 0 ≤ k) (h1 : k < 3) :
    Calls Try.prog 25 #[.pointer (some ⟨g, 0, none⟩), .int .i64 k] w fun e w' => e = .returned (.int .i64 (seenOf k s0 s1 s2)) ∧ ∃ k, w' = w.drewN k := by
  have c3 := Blk.cell hM 3
  have c4 := Blk.cell hM 4
  have c5 := Blk.cell hM 5
  simp at c3 c4 c5
  clear hM
  have HI : Hid (decide (0 ≤ k ∧ k < 3) = true) := Lib.hid (decide_eq_true ⟨h0, h1⟩)
  rcases three k h0 h1 with rfl | rfl | rfl
  all_goals
    clear h0 h1
    go_enter Try.func25, Try.ntmps25
    go_wp2_with (go_at_call 62; refine (isk _ _ _ HI.out).mono ?_; rintro e w' ⟨rfl, m, rfl⟩)
    go_ret
    exact ⟨rfl, _, rfl⟩

set_option maxRecDepth 100000 in
set_option maxHeartbeats 400000 in
theorem actsH_nil (w : World) :
    Calls Try.prog 24 #[.pointer none] w fun e w' => e = .returned (.agg #[.int .u8 0, .int .u8 0, .int .u8 0]) ∧ Below w.heap.size w w' := by
  go_enter Try.func24, Try.ntmps24
  go_wp2
  go_returns
  exact ⟨rfl, (Below.refl _ _).alloc (Nat.le_refl _) _⟩

set_option maxRecDepth 100000 in
set_option maxHeartbeats 400000 in
theorem actsH (w : World) (g : Nat) (a0 a1 a2 s0 s1 s2 : Int) (hM : Mon w g 102 a0 a1 a2 s0 s1 s2) :
    Calls Try.prog 24 #[.pointer (some ⟨g, 0, none⟩)] w fun e w' => e = .returned (.agg #[.int .u8 a0, .int .u8 a1, .int .u8 a2]) ∧ Below w.heap.size w w' := by
  have c0 : ∀ o, (w.alloc o).cell? ⟨g, 0, none⟩ = some (.int .u8 a0) := fun o => Blk.cell (Blk.alloc hM o) 0
  have c1 : ∀ o, (w.alloc o).cell? ⟨g, 1, none⟩ = some (.int .u8 a1) := fun o => Blk.cell (Blk.alloc hM o) 1
  have c2 : ∀ o, (w.alloc o).cell? ⟨g, 2, none⟩ = some (.int .u8 a2) := fun o => Blk.cell (Blk.alloc hM o) 2
  clear hM
  go_enter Try.func24, Try.ntmps24
  go_wp2
  go_returns
  exact ⟨rfl, (Below.refl _ _).alloc (Nat.le_refl _) _⟩

set_option maxHeartbeats 400000 in
theorem num22 (w : World) (k : Int) : Calls Try.prog 23 #[.int .i64 k] w fun e w' => e = .returned (.int .i64 k) ∧ ∃ m, w' = w.drewN m := by
  go_enter Try.func23, Try.ntmps23
  go_wp2
  go_ret
  exact ⟨rfl, 0, rfl⟩

set_option maxRecDepth 100000 in
set_option maxHeartbeats 800000 in
theorem knows22 (w : World) : Calls Try.prog 18 #[] w fun e w' => e = .returned (.bool true) ∧ Below w.heap.size w w' := by
  go_enter Try.func18, Try.ntmps18
  go_wp2_with fail
  refine (newH_yes _ 0 1 2 (by decide)).mono ?_
  rintro e w1 ⟨g, rfl, hg, hM, hB⟩
  have HM1 := Lib.hid hM; clear hM
  have HB1 := Lib.hid hB; clear hB
  go_wp2_with fail
  refine (faultH_yes _ g 0 1 2 0 0 0 1 HM1.out (by decide) (by decide) (by decide) (by decide) (by decide)).mono ?_
  rintro e w2 ⟨rfl, hM, hU⟩
  have HM2 := Lib.hid hM; clear hM
  have HB2 := Lib.hid (Below.upd HB1.out hU HB1.out.size (fun k hk => by omega)); clear hU
  have ea : actOf 1 0 1 2 = 1 := by decide
  have es : seenOf 1 (bump 1 0 0) (bump 1 1 0) (bump 1 2 0) = 1 := by decide
  have en : kindWord 1 = ⟨#[111, 118, 101, 114, 114, 117, 110]⟩ := rfl
  have ed : actWord 2 = ⟨#[97, 103, 97, 105, 110]⟩ := rfl
  go_wp2_with (first
    | (go_at_call 23; refine (num22 _ _).mono ?_; rintro e w6 ⟨rfl, k6, rfl⟩)
    | (go_at_call 25; refine (countH_yes _ g 0 1 2 _ _ _ 1 (Blk.drewN HM2.out _) (by decide) (by decide)).mono ?_; rintro e w3 ⟨rfl, k3, rfl⟩)
    | (go_at_call 26; refine (name_any _ 1).mono ?_; rintro e w4 ⟨rfl, hB4⟩; have HB4 := Lib.hid hB4; clear hB4)
    | (go_at_call 28; refine (does_any _ 2 (by decide)).mono ?_; rintro e w5 ⟨rfl, hB5⟩; have HB5 := Lib.hid hB5; clear hB5))
  go_ret
  exact ⟨rfl, (HB2.out.trans ((below_drewN (Below.refl _ _) _).mono HB2.out.size)).trans ((HB4.out.mono HB2.out.size).trans (HB5.out.mono (Nat.le_trans HB2.out.size HB4.out.size)))⟩

set_option maxRecDepth 100000 in
set_option maxHeartbeats 800000 in
theorem names_any (w : World) (kind : Int) (_ : (Lit.int .i64 kind).wf = true) (act : Int) (ha : (Lit.int .u8 act).wf = true) :
    Calls Try.prog 5 #[.int .i64 kind, .int .u8 act] w fun e w' => e = .returned (.bool true) ∧ Below w.heap.size w w' := by
  have h0 : 0 ≤ act := (bounds_u8 ha).1
  have he : ∀ w, (Op.equalIn 10000 32 (.agg #[.int .u8 0, .int .u8 0, .int .u8 0]) (.agg #[.int .u8 0, .int .u8 0, .int .u8 0])).run Try.prog w = .ok true w := fun w => eq_arr3 w 0 0 0
  clear ha
  go_enter Try.func5, Try.ntmps5
  go_wp2_with (first
    | (go_at_call 23; refine (num22 _ _).mono ?_; rintro e w6 ⟨rfl, k6, rfl⟩)
    | (go_at_call 21; refine (faultH_no _ _ _ (.inl rfl) (.inl rfl)).mono ?_; rintro e w3 ⟨rfl, k3, rfl⟩)
    | (go_at_call 25; refine (countH_no _ _ _ (.inl rfl) (.inl rfl)).mono ?_; rintro e w3 ⟨rfl, k4, rfl⟩)
    | (go_at_call 24; refine (actsH_nil _).mono ?_; rintro e w3 ⟨rfl, hB3⟩; have HB3 := Lib.hid hB3; clear hB3)
    | (go_at_call 26; refine (name_any _ _).mono ?_; rintro e w4 ⟨rfl, hB4⟩; have HB4 := Lib.hid hB4; clear hB4)
    | (go_at_call 28; refine (does_any _ _ h0).mono ?_; rintro e w5 ⟨rfl, hB5⟩; have HB5 := Lib.hid hB5; clear hB5)
    | (go_at_call 27; refine (rname_any _ _).mono ?_; rintro e w7 ⟨rfl, hB7⟩; have HB7 := Lib.hid hB7; clear hB7)
    | (go_at_call 29; refine (rdoes_any _ _ h0).mono ?_; rintro e w8 ⟨rfl, hB8⟩; have HB8 := Lib.hid hB8; clear hB8)
    | (go_at_call 18; refine (knows22 _).mono ?_; rintro e w9 ⟨rfl, hB9⟩; have HB9 := Lib.hid hB9; clear hB9))
  go_ret
  exact ⟨rfl, chn (chn (below_drewN (chn (chn (chn (chn (below_drewN (Below.refl _ _) _) HB4.out) HB7.out) HB5.out) HB8.out) _) HB3.out) HB9.out⟩
end Go.Proofs.Ytfpigcjhonfcjaa
