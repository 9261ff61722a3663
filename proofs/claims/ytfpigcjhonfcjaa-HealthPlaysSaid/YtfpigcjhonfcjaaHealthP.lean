/-
  HealthPlays: faults are counted, and answered by their acts.
-/
import Derived.Test.YtfpigcjhonfcjaaHealthM
namespace Go.Proofs.Ytfpigcjhonfcjaa
open Go.RowKit
attribute [local go_sem] max_ints min_ints

theorem bump_bd {k j s : Int} {i : Nat} (h : 0 ≤ s ∧ s ≤ i) : 0 ≤ bump k j s ∧ bump k j s ≤ ((i + 1 : Nat) : Int) := by unfold bump; split <;> omega

/-- Behind i faults. -/
def PlaysH (w wr : World) (g r b : Nat) (a0 a1 a2 : Int) (i : Nat) : Prop :=
  ∃ s0 s1 s2 : Int, Mon wr g 102 a0 a1 a2 s0 s1 s2 ∧ Mon wr r 48 a0 a1 a2 s0 s1 s2 ∧ (0 ≤ s0 ∧ s0 ≤ i) ∧ (0 ≤ s1 ∧ s1 ≤ i) ∧ (0 ≤ s2 ∧ s2 ≤ i) ∧
    Blk wr b 32 #[.int .u8 a0, .int .u8 a1, .int .u8 a2] ∧ Below w.heap.size w wr

set_option maxRecDepth 100000 in
set_option maxHeartbeats 1600000 in
theorem plays22_long (w : World) (a0 a1 a2 : Int) (A : Option Addr) (len cap : Nat) (hl : 200 < len) :
    Calls Try.prog 4 #[.agg #[.int .u8 a0, .int .u8 a1, .int .u8 a2], .slice A len cap] w fun e w' => e = .returned (.bool true) ∧ Below w.heap.size w w' := by
  have e0 : decide ((200 : Int) < (len : Int)) = true := decide_eq_true (by omega)
  go_enter Try.func4, Try.ntmps4
  go_wp2_with fail
  refine (knows22 _).mono ?_
  rintro e w1 ⟨rfl, hB1⟩
  go_wp2_with fail
  go_ret
  exact ⟨rfl, chn ((Below.refl w.heap.size w).alloc (Nat.le_refl _) _) hB1⟩

set_option maxRecDepth 100000 in
set_option maxHeartbeats 1600000 in
theorem plays22_no (w : World) (a0 a1 a2 : Int) (A : Option Addr) (len cap : Nat) (xs : Nat → Int) (hl : len ≤ 200) (hm : 2 < max a0 (max a1 a2)) :
    Calls Try.prog 4 #[.agg #[.int .u8 a0, .int .u8 a1, .int .u8 a2], .slice A len cap] w fun e w' => e = .returned (.bool true) ∧ Below w.heap.size w w' := by
  have e0 : decide ((200 : Int) < (len : Int)) = false := decide_eq_false (by omega)
  have HM := Lib.hid hm; clear hm
  go_enter Try.func4, Try.ntmps4
  go_wp2_with fail
  have hb := Blk.new w 32 #[.int .u8 a0, .int .u8 a1, .int .u8 a2]
  have hB := (Below.refl w.heap.size w).alloc (Nat.le_refl _) (.cells #[.int .u8 a0, .int .u8 a1, .int .u8 a2] 32)
  have hW : w.heap.size < (w.alloc (.cells #[.int .u8 a0, .int .u8 a1, .int .u8 a2] 32)).heap.size := by simp
  generalize w.alloc (.cells #[.int .u8 a0, .int .u8 a1, .int .u8 a2] 32) = W at *
  have HBk := Lib.hid hb; clear hb
  have HB := Lib.hid hB; clear hB
  refine (knows22 _).mono ?_
  rintro e w1 ⟨rfl, hB1⟩
  have hb1 := HBk.out.below hB1 HBk.out.lt
  have c0 := hb1.cell 0
  have c1 := hb1.cell 1
  have c2 := hb1.cell 2
  simp at c0 c1 c2
  have HBk1 := Lib.hid hb1; clear hb1
  have HB1 := Lib.hid hB1; clear hB1
  go_wp2_with fail
  refine (newH_no _ a0 a1 a2 HM.out).mono ?_
  rintro e w2 ⟨rfl, hB2⟩
  clear c0 c1 c2
  have hb2 := HBk1.out.below hB2 HBk1.out.lt
  have c0 := hb2.cell 0
  have c1 := hb2.cell 1
  have c2 := hb2.cell 2
  simp at c0 c1 c2
  have HBk2 := Lib.hid hb2; clear hb2
  have HB2 := Lib.hid hB2; clear hB2
  go_wp2_with fail
  refine (newR_no _ a0 a1 a2 HM.out).mono ?_
  rintro e w3 ⟨rfl, hB3⟩
  clear c0 c1 c2
  have HB3 := Lib.hid hB3; clear hB3
  go_wp2_with fail
  refine wp_loop_rounds 1 ?_
  rw [rounds_succ]
  go_wp2_with fail
  all_goals
    refine wp_loop_rounds 1 ?_
    rw [rounds_succ]
    go_wp2_with fail
    refine (countH_no _ _ _ (.inl rfl) (.inl rfl)).mono ?_
    rintro e w4 ⟨rfl, k4, rfl⟩
    go_wp2_with fail
    refine (countH_no _ _ _ (.inl rfl) (.inl rfl)).mono ?_
    rintro e w5 ⟨rfl, k5, rfl⟩
    go_wp2_with fail
    go_ret
    refine ⟨rfl, below_drewN ?_ _⟩
    exact ((HB.out.trans (HB1.out.mono (by omega))).trans (HB2.out.mono (Nat.le_trans (by omega) HB1.out.size))).trans (HB3.out.mono (Nat.le_trans (Nat.le_trans (by omega) HB1.out.size) HB2.out.size))

set_option maxRecDepth 100000 in
set_option maxHeartbeats 3200000 in
theorem plays22_yes (w : World) (a0 a1 a2 : Int) (A : Option Addr) (len cap : Nat) (xs : Nat → Int) (hl : len ≤ 200) (hm : max a0 (max a1 a2) ≤ 2)
    (hc : ∀ k, k < len → ∃ a, A = some a ∧ a.block < w.heap.size ∧ w.cell? (a.add k) = some (.int .i64 (xs k))) :
    Calls Try.prog 4 #[.agg #[.int .u8 a0, .int .u8 a1, .int .u8 a2], .slice A len cap] w fun e w' => e = .returned (.bool true) ∧ Below w.heap.size w w' := by
  have e0 : decide ((200 : Int) < (len : Int)) = false := decide_eq_false (by omega)
  have HM := Lib.hid hm; clear hm
  have HC := Lib.hid hc; clear hc
  go_enter Try.func4, Try.ntmps4
  go_wp2_with fail
  have hb := Blk.new w 32 #[.int .u8 a0, .int .u8 a1, .int .u8 a2]
  have hB := (Below.refl w.heap.size w).alloc (Nat.le_refl _) (.cells #[.int .u8 a0, .int .u8 a1, .int .u8 a2] 32)
  have hW : w.heap.size < (w.alloc (.cells #[.int .u8 a0, .int .u8 a1, .int .u8 a2] 32)).heap.size := by simp
  generalize w.alloc (.cells #[.int .u8 a0, .int .u8 a1, .int .u8 a2] 32) = W at *
  have HBk := Lib.hid hb; clear hb
  have HB := Lib.hid hB; clear hB
  refine (knows22 _).mono ?_
  rintro e w1 ⟨rfl, hB1⟩
  have hb1 := HBk.out.below hB1 HBk.out.lt
  have c0 := hb1.cell 0
  have c1 := hb1.cell 1
  have c2 := hb1.cell 2
  simp at c0 c1 c2
  have HBk1 := Lib.hid hb1; clear hb1
  have HB1 := Lib.hid hB1; clear hB1
  go_wp2_with fail
  refine (newH_yes _ a0 a1 a2 HM.out).mono ?_
  rintro e w2 ⟨g, rfl, hg, hmon, hB2⟩
  clear c0 c1 c2
  have hb2 := HBk1.out.below hB2 HBk1.out.lt
  have c0 := hb2.cell 0
  have c1 := hb2.cell 1
  have c2 := hb2.cell 2
  simp at c0 c1 c2
  have HBk2 := Lib.hid hb2; clear hb2
  have HB2 := Lib.hid hB2; clear hB2
  have HG2 := Lib.hid hmon; clear hmon
  go_wp2_with fail
  refine (newR_yes _ a0 a1 a2 HM.out).mono ?_
  rintro e w3 ⟨r, rfl, hr, hmon, hB3⟩
  clear c0 c1 c2
  have HBk3 := Lib.hid (HBk2.out.below hB3 HBk2.out.lt)
  have HG3 := Lib.hid (Blk.below HG2.out hB3 (Blk.lt HG2.out))
  have HB3 := Lib.hid hB3; clear hB3
  have HR3 := Lib.hid hmon; clear hmon
  have hBB : Below w.heap.size w w3 := ((HB.out.trans (HB1.out.mono (by omega))).trans (HB2.out.mono (Nat.le_trans (by omega) HB1.out.size))).trans (HB3.out.mono (Nat.le_trans (Nat.le_trans (by omega) HB1.out.size) HB2.out.size))
  have HBB := Lib.hid hBB; clear hBB
  have hge : w.heap.size < g := by have := HB1.out.size; omega
  have hre : w.heap.size < r := by have := HB1.out.size; have := HB2.out.size; omega
  have HNE : Hid (g ≠ r) := Lib.hid (by have := Blk.lt HG2.out; omega)
  go_wp2_with fail
  go_loopw [7] (fun vi wr => ∃ i : Nat, i ≤ len ∧ vi = .int .i64 i ∧ PlaysH w wr g r w.heap.size a0 a1 a2 i) (fun vi _ => len - (intOf vi).toNat)
  case atStart => exact ⟨0, by omega, rfl, 0, 0, 0, HG3.out, HR3.out, by omega, by omega, by omega, HBk3.out, HBB.out⟩
  case round =>
    obtain ⟨i, hi, rfl, s0, s1, s2, hmg, hmr, b0, b1, b2, hbk, hB⟩ := hrel
    have HMG := Lib.hid hmg; clear hmg
    have HMR := Lib.hid hmr; clear hmr
    have HBK := Lib.hid hbk; clear hbk
    have HBr := Lib.hid hB; clear hB
    by_cases hlt : i < len
    · obtain ⟨a, rfl, hab, hcell⟩ := HC.out i hlt
      have hcell := (HBr.out.cell (p := a.add i) (by rw [block_add]; exact hab)).trans hcell
      generalize xs i = k at *
      by_cases hk : 0 ≤ k ∧ k < 3
      · obtain ⟨hk0, hk1⟩ := hk
        go_wp2_with fail
        refine (faultH_yes _ g a0 a1 a2 s0 s1 s2 k HMG.out hk0 hk1 (by omega) (by omega) (by omega)).mono ?_
        rintro e w4 ⟨rfl, hmg, hU4⟩
        have HMG4 := Lib.hid hmg; clear hmg
        have hcell4 : w4.cell? (a.add i) = some (.int .i64 k) := (hU4.cell (p := a.add i) (by rw [block_add]; exact Nat.lt_of_lt_of_le hab HBr.out.size) (by rw [block_add]; omega)).trans hcell
        have HMR4 := Lib.hid (Blk.upd HMR.out hU4 (fun e => HNE.out e.symm))
        have HBK4 := Lib.hid (Blk.upd HBK.out hU4 (fun e => by omega))
        have HB4 := Lib.hid (Below.upd HBr.out hU4 HBr.out.size (fun k hk => by omega))
        clear hU4 hcell
        go_wp2_with fail
        refine (faultR_yes _ r a0 a1 a2 s0 s1 s2 k HMR4.out hk0 hk1 (by omega) (by omega) (by omega)).mono ?_
        rintro e w5 ⟨rfl, hmr, hU5⟩
        have HMR5 := Lib.hid hmr; clear hmr hcell4
        have HMG5 := Lib.hid (Blk.upd HMG4.out hU5 (fun e => HNE.out e))
        have hbk5 := (Blk.upd HBK4.out hU5 (fun e => by omega))
        have c0 := hbk5.cell 0
        have c1 := hbk5.cell 1
        have c2 := hbk5.cell 2
        simp at c0 c1 c2
        have HBK5 := Lib.hid hbk5; clear hbk5
        have HB5 := Lib.hid (Below.upd HB4.out hU5 HB4.out.size (fun k hk => by omega))
        clear hU5
        have he : ∀ w, (Op.equalIn 10000 32 (.agg #[.int .u8 a0, .int .u8 a1, .int .u8 a2]) (.agg #[.int .u8 a0, .int .u8 a1, .int .u8 a2])).run Try.prog w = .ok true w := fun w => eq_arr3 w a0 a1 a2
        go_wp2_with fail
        have hba : w.heap.size ≤ w5.heap.size := HB5.out.size
        go_region_held3 (fun w' => w'.cell? ⟨w.heap.size, 0, none⟩ = some (.int .u8 a0) ∧ w'.cell? ⟨w.heap.size, 1, none⟩ = some (.int .u8 a1) ∧ w'.cell? ⟨w.heap.size, 2, none⟩ = some (.int .u8 a2))
          (first | exact ⟨c0, c1, c2⟩ | exact ⟨(HB6.out.cell (p := ⟨w.heap.size, 0, none⟩) HBK5.out.lt).trans c0, (HB6.out.cell (p := ⟨w.heap.size, 1, none⟩) HBK5.out.lt).trans c1, (HB6.out.cell (p := ⟨w.heap.size, 2, none⟩) HBK5.out.lt).trans c2⟩)
          (first
            | (go_at_call 23; refine (num22 _ _).mono ?_; rintro e w6 ⟨rfl, k6, rfl⟩)
            | (go_at_call 24; refine (actsH _ g a0 a1 a2 _ _ _ (Blk.drewN HMG5.out _)).mono ?_; rintro e w7 ⟨rfl, hB6⟩; have HB6 := Lib.hid hB6; clear hB6))
        go_wp2_with fail
        go_roundw
        case rel =>
          have hd : Below (w5.drewN (1 + k6)).heap.size (w5.drewN (1 + k6)) w7 := HB6.out
          exact ⟨i + 1, by omega, by go_num, _, _, _, Blk.below (Blk.drewN HMG5.out _) hd (Blk.lt HMG5.out), Blk.below (Blk.drewN HMR5.out _) hd (Blk.lt HMR5.out), bump_bd b0, bump_bd b1, bump_bd b2, Blk.below (HBK5.out.drewN _) hd (Blk.lt HBK5.out), chn (below_drewN HB5.out _) hd⟩
        case measure => simp [intOf]; omega
      · have HK := Lib.hid hk; clear hk
        go_wp2_with fail
        refine (faultH_no _ _ k (.inr ⟨g, rfl⟩) (.inr HK.out)).mono ?_
        rintro e w4 ⟨rfl, k4, rfl⟩
        go_wp2_with fail
        refine (faultR_no _ r k HK.out).mono ?_
        rintro e w4 ⟨rfl, k5, rfl⟩
        clear hcell
        have hbk5 := HBK.out
        have c0 := hbk5.cell 0
        have c1 := hbk5.cell 1
        have c2 := hbk5.cell 2
        simp at c0 c1 c2
        clear hbk5
        have he : ∀ w, (Op.equalIn 10000 32 (.agg #[.int .u8 a0, .int .u8 a1, .int .u8 a2]) (.agg #[.int .u8 a0, .int .u8 a1, .int .u8 a2])).run Try.prog w = .ok true w := fun w => eq_arr3 w a0 a1 a2
        go_wp2_with fail
        have hba : w.heap.size ≤ wr.heap.size := HBr.out.size
        go_region_held3 (fun w' => w'.cell? ⟨w.heap.size, 0, none⟩ = some (.int .u8 a0) ∧ w'.cell? ⟨w.heap.size, 1, none⟩ = some (.int .u8 a1) ∧ w'.cell? ⟨w.heap.size, 2, none⟩ = some (.int .u8 a2))
          (first | exact ⟨c0, c1, c2⟩ | exact ⟨(HB6.out.cell (p := ⟨w.heap.size, 0, none⟩) HBK.out.lt).trans c0, (HB6.out.cell (p := ⟨w.heap.size, 1, none⟩) HBK.out.lt).trans c1, (HB6.out.cell (p := ⟨w.heap.size, 2, none⟩) HBK.out.lt).trans c2⟩)
          (first
            | (go_at_call 23; refine (num22 _ _).mono ?_; rintro e w6 ⟨rfl, k6, rfl⟩)
            | (go_at_call 24; refine (actsH _ g a0 a1 a2 _ _ _ (Blk.drewN HMG.out _)).mono ?_; rintro e w7 ⟨rfl, hB6⟩; have HB6 := Lib.hid hB6; clear hB6))
        go_wp2_with fail
        go_roundw
        case rel =>
          have hd : Below (wr.drewN (k4 + k5 + 1 + k6)).heap.size (wr.drewN (k4 + k5 + 1 + k6)) w7 := HB6.out
          exact ⟨i + 1, by omega, by go_num, _, _, _, Blk.below (Blk.drewN HMG.out _) hd (Blk.lt HMG.out), Blk.below (Blk.drewN HMR.out _) hd (Blk.lt HMR.out), by omega, by omega, by omega, Blk.below (HBK.out.drewN _) hd (Blk.lt HBK.out), chn (below_drewN HBr.out _) hd⟩
        case measure => simp [intOf]; omega
    · go_wp2_with fail
      go_loopw [12] (fun vk wq => ∃ j : Nat, j ≤ 3 ∧ vk = .int .i64 j ∧ PlaysH w wq g r w.heap.size a0 a1 a2 200) (fun vk _ => 3 - (intOf vk).toNat)
      case atStart => exact ⟨0, by omega, rfl, s0, s1, s2, HMG.out, HMR.out, by omega, by omega, by omega, HBK.out, HBr.out⟩
      case round =>
        clear b0 b1 b2 HMG HMR HBK HBr
        obtain ⟨j, hj, rfl, s0, s1, s2, hmg, hmr, b0, b1, b2, hbk, hB⟩ := hrel
        have c3 := Blk.cell hmr 3
        have c4 := Blk.cell hmr 4
        have c5 := Blk.cell hmr 5
        simp at c3 c4 c5
        have HMG := Lib.hid hmg; clear hmg
        have HMR := Lib.hid hmr; clear hmr
        have HBK := Lib.hid hbk; clear hbk
        have HBr := Lib.hid hB; clear hB
        have hj4 : j = 0 ∨ j = 1 ∨ j = 2 ∨ j = 3 := by omega
        rcases hj4 with rfl | rfl | rfl | rfl
        · have hs : seenOf 0 s0 s1 s2 = s0 := rfl
          go_wp2_with fail
          go_quiet ((go_at_call 25; exact Calls.quiet_of (countH_yes _ g a0 a1 a2 s0 s1 s2 _ (Blk.drewN HMG.out _) (by decide) (by decide))))
          go_wp2_with fail
          go_roundw
          case rel => exact ⟨1, by omega, rfl, s0, s1, s2, Blk.drewN HMG.out _, Blk.drewN HMR.out _, b0, b1, b2, HBK.out.drewN _, below_drewN HBr.out _⟩
          case measure => simp [intOf]
        · have hs : seenOf 1 s0 s1 s2 = s1 := rfl
          go_wp2_with fail
          go_quiet ((go_at_call 25; exact Calls.quiet_of (countH_yes _ g a0 a1 a2 s0 s1 s2 _ (Blk.drewN HMG.out _) (by decide) (by decide))))
          go_wp2_with fail
          go_roundw
          case rel => exact ⟨2, by omega, rfl, s0, s1, s2, Blk.drewN HMG.out _, Blk.drewN HMR.out _, b0, b1, b2, HBK.out.drewN _, below_drewN HBr.out _⟩
          case measure => simp [intOf]
        · have hs : seenOf 2 s0 s1 s2 = s2 := rfl
          go_wp2_with fail
          go_quiet ((go_at_call 25; exact Calls.quiet_of (countH_yes _ g a0 a1 a2 s0 s1 s2 _ (Blk.drewN HMG.out _) (by decide) (by decide))))
          go_wp2_with fail
          go_roundw
          case rel => exact ⟨3, by omega, rfl, s0, s1, s2, Blk.drewN HMG.out _, Blk.drewN HMR.out _, b0, b1, b2, HBK.out.drewN _, below_drewN HBr.out _⟩
          case measure => simp [intOf]
        · go_wp2_with fail
          refine (countH_no _ _ _ (.inr ⟨g, rfl⟩) (.inr (by omega))).mono ?_
          rintro e w4 ⟨rfl, k4, rfl⟩
          go_wp2_with fail
          refine (countH_no _ _ _ (.inr ⟨g, rfl⟩) (.inr (by omega))).mono ?_
          rintro e w5 ⟨rfl, k5, rfl⟩
          go_wp2_with fail
          go_ret
          exact ⟨rfl, below_drewN HBr.out _⟩

theorem plays22_any (w : World) (x : Nat → Int) (_ : ∀ k, k < 3 → (Lit.int .u8 (x k)).wf = true) (A : Option Addr) (len cap : Nat) (xs : Nat → Int) (_ : ∀ k, k < len → (Lit.int .i64 (xs k)).wf = true)
    (hc : ∀ k, k < len → ∃ a, A = some a ∧ a.block < w.heap.size ∧ w.cell? (a.add k) = some (.int .i64 (xs k))) :
    Calls Try.prog 4 #[.agg #[.int .u8 (x 0), .int .u8 (x 1), .int .u8 (x 2)], .slice A len cap] w fun e w' => e = .returned (.bool true) ∧ Below w.heap.size w w' := by
  rcases Nat.lt_or_ge 200 len with hl | hl
  · generalize x 0 = a0, x 1 = a1, x 2 = a2
    exact plays22_long w a0 a1 a2 A len cap hl
  · rcases Int.lt_or_le 2 (max (x 0) (max (x 1) (x 2))) with hm | hm
    · exact plays22_no w _ _ _ A len cap xs hl hm
    · exact plays22_yes w _ _ _ A len cap xs hl hm hc
end Go.Proofs.Ytfpigcjhonfcjaa
