/-
  The walk of supply.Of.
-/
import Derived.Test.YtnfajehocljbnaaSupA
import Derived.Test.YtnfajehocljbnaaSeqT
namespace Go.Proofs.Ytnfajehocljbnaa
open Go.RowKit
attribute [local go_sem] max_ints min_ints

/-- The supply at s. -/
def SupS (w : World) (base g F : Nat) (M : Int) (ws : List W3) (p : Int) (s : Nat) : Prop :=
  0 ≤ p ∧ p < 6 ∧ TabS w base g F M ws ∧ ∃ b, Blk w s 39 #[.pointer (some ⟨g, 0, none⟩), .int .i64 p, .slice (some ⟨b, 0, none⟩) F F] ∧ Blk w b 3 (flc (F - 1) (fun n => leN M ws p F n))
theorem SupS.still {w w' : World} {base g F : Nat} {M : Int} {ws : List W3} {p : Int} {s : Nat} (h : SupS w base g F M ws p s) (hu : Upd (fun _ => False) w w') : SupS w' base g F M ws p s :=
  let ⟨h0, h1, h2, b, h3, h4⟩ := h
  ⟨h0, h1, h2.still hu, b, h3.upd hu (fun h => h), h4.upd hu (fun h => h)⟩
theorem SupS.drewN {w : World} {base g F : Nat} {M : Int} {ws : List W3} {p : Int} {s : Nat} (h : SupS w base g F M ws p s) (k : Nat) : SupS (w.drewN k) base g F M ws p s := h.still ((Upd.refl _ w).drewN k)

theorem size_alloc (w : World) (o : Obj) : (w.alloc o).heap.size = w.heap.size + 1 := Array.size_push _
theorem World.heap_drewN (w : World) (k : Nat) : (w.drewN k).heap = w.heap := rfl

set_option maxRecDepth 100000 in
set_option maxHeartbeats 3200000 in
theorem ofYes (w : World) (base g F : Nat) (M : Int) (ws : List W3) (h : TabS w base g F M ws) (p : Int) (hp0 : 0 ≤ p) (hp1 : p < 6) :
    Calls Try.prog 12 #[.pointer (some ⟨g, 0, none⟩), .int .i64 p] w fun e w' => ∃ s, e = .returned (.pointer (some ⟨s, 0, none⟩)) ∧ SupS w' base g F M ws p s ∧ Upd (fun _ => False) w w' := by
  have hr := h.right
  have hF1 := hr.1
  have hF2 : F ≤ 256 := hr.2.1
  have H := Lib.hid h
  clear h hr
  obtain ⟨i0, hi0, hz0, hz1, hz2⟩ := info_parts infoI
  have hmk : ∀ w : World, (Instr.makeSlice 37 (.int .i64 (F : Int)) (.int .i64 (F : Int))).run Try.prog w = .ok (.slice (some ⟨w.heap.size, 0, none⟩) F F) (w.alloc (.cells (flc (F - 1) (fun _ => 0)) 3)) := fun w => by
    have := run_makeSlice (P := Try.prog) w 37 3 i0 _ Try.underlying37 hi0 hz0 .i64 .i64 (F : Int) (F : Int) (by omega) (Int.le_refl _) (by rw [hz1]; omega) (by rw [hz2]; omega) (by omega)
    rw [this]
    have e : ((F : Int)).toNat = F := by omega
    rw [e, hz1]
    have e2 := flc_made (F - 1)
    rw [show F - 1 + 1 = F by omega] at e2
    exact congrArg (fun c => Result.ok _ (w.alloc (.cells c 3))) e2
  clear hi0 hz0 hz1 hz2
  have d1 : ((F : Int) == 0) = false := beq_eq_false_iff_ne.2 (by omega)
  have d1' : ¬ F = 0 := by omega
  have d2 : decide (p < 0) = false := decide_eq_false (by omega)
  have d3 : decide (6 ≤ p) = false := decide_eq_false (by omega)
  go_enter Try.func12, Try.ntmps12
  go_wp2_with fail
  refine (frameT _ base g F M ws H.out).mono ?_
  rintro e w1 ⟨rfl, k1, rfl⟩
  go_wp2_with fail
  refine (frameT _ base g F M ws (H.out.drewN _)).mono ?_
  rintro e w2 ⟨rfl, k2, rfl⟩
  go_wp2_with fail
  refine (leastsP _ _ p).mono ?_
  rintro e w3 ⟨rfl, hw3⟩
  obtain ⟨bL, hbL⟩ : ∃ bL, w.heap.size = bL := ⟨_, rfl⟩
  obtain ⟨k, hk⟩ : ∃ k, k1 + k2 = k := ⟨_, rfl⟩
  rw [hk] at hw3 ⊢
  simp only [size_alloc, World.heap_drewN, hbL] at hw3 ⊢
  have hB0 := Blk.new (w.drewN k) 3 (flc (F - 1) (fun _ => 0))
  obtain ⟨wa, hwa⟩ : ∃ wa, (w.drewN k).alloc (Obj.cells (flc (F - 1) fun x => 0) 3) = wa := ⟨_, rfl⟩
  have hs0 : wa.heap.size = bL + 1 := by rw [← hwa, size_alloc, World.heap_drewN, hbL]
  rw [hwa, World.heap_drewN, hbL] at hB0
  rw [hwa] at hw3
  have hB1 := Blk.new wa 39 #[.pointer (some ⟨g, 0, none⟩), .int .i64 p, .slice (some ⟨bL, 0, none⟩) F F]
  have hB0 := hB0.alloc (.cells #[.pointer (some ⟨g, 0, none⟩), .int .i64 p, .slice (some ⟨bL, 0, none⟩) F F] 39)
  obtain ⟨wb, hwb⟩ : ∃ wb, wa.alloc (.cells #[.pointer (some ⟨g, 0, none⟩), .int .i64 p, .slice (some ⟨bL, 0, none⟩) F F] 39) = wb := ⟨_, rfl⟩
  have hs1 : wb.heap.size = bL + 1 + 1 := by rw [← hwb, size_alloc, hs0]
  rw [hwb] at hB0 hB1 hw3
  rw [hs0] at hB1
  have hB2 := (Blk.new wb 25 #[.pointer (some ⟨g, 0, none⟩)]).alloc (.cells #[.int .i64 p] 3)
  have hB3 := Blk.new (wb.alloc (.cells #[.pointer (some ⟨g, 0, none⟩)] 25)) 3 #[.int .i64 p]
  have hB0 := (hB0.alloc (.cells #[.pointer (some ⟨g, 0, none⟩)] 25)).alloc (.cells #[.int .i64 p] 3)
  have hB1 := (hB1.alloc (.cells #[.pointer (some ⟨g, 0, none⟩)] 25)).alloc (.cells #[.int .i64 p] 3)
  rw [size_alloc] at hB3
  rw [← hw3, hs1] at hB2 hB3
  rw [← hw3] at hB0 hB1
  have hU : Upd (fun _ => False) w w3 := by
    rw [hw3, ← hwb, ← hwa]
    exact (((((Upd.refl _ w).drewN k).alloc _).alloc _).alloc _).alloc _
  have B0 := Lib.hid hB0; have B1 := Lib.hid hB1; have B2 := Lib.hid hB2; have B3 := Lib.hid hB3; have U3 := Lib.hid hU
  have hsz3 : bL + 4 ≤ w3.heap.size := by rw [hw3, size_alloc, size_alloc, hs1]; omega
  clear hB0 hB1 hB2 hB3 hU hw3 hwb hwa hs0 hs1 hk
  have c0 : w3.cell? ⟨bL + 1, 2, none⟩ = some (.slice (some ⟨bL, 0, none⟩) F F) := B1.out.cell 2
  go_wp2_with fail
  go_loopw [7, 34] (fun v7 vi wr => ∃ i : Nat, i ≤ F ∧ vi = .int .i64 i ∧ Blk wr bL 3 (flc (F - 1) (fun n => if n < i then leN M ws p F n else 0)) ∧ Upd (fun k => k = bL) w3 wr) (fun _ vi _ => F - (intOf vi).toNat)
  case atStart => exact ⟨0, Nat.zero_le _, rfl, B0.out, Upd.refl _ _⟩
  case round =>
    obtain ⟨i, hi, rfl, hB, hU⟩ := hrel
    have BL := Lib.hid hB; have U4 := Lib.hid hU
    have T4 : Hid (TabS wr base g F M ws) := Lib.hid (H.out.still ((U3.out.mono (S' := fun k => bL ≤ k) (fun _ _ h => h.elim)).trans (hU.mono (fun k _ hk => by omega)) |>.mono (fun k hk h => absurd h (by omega))))
    have q1 : wr.cell? ⟨bL + 1, 2, none⟩ = some (.slice (some ⟨bL, 0, none⟩) F F) := (B1.out.upd hU (by omega)).cell 2
    have q2 : wr.cell? ⟨bL + 1 + 1, 0, none⟩ = some (.pointer (some ⟨g, 0, none⟩)) := (B2.out.upd hU (by omega)).cell 0
    have q3 : wr.cell? ⟨bL + 1 + 1 + 1, 0, none⟩ = some (.int .i64 p) := (B3.out.upd hU (by omega)).cell 0
    clear hB hU
    by_cases hlt : i < F
    · have f4 := BL.out.frozen i
      have c4 : wr.cell? ⟨bL, i, none⟩ = some (.int .i64 0) := by rw [BL.out.cell, flc_at _ _ _ (by omega), if_neg (by omega)]
      go_wp2_with fail
      refine wp_region_seq (fun i => decide (i ≠ 7 ∧ i < 12)) (fun i => decide (13 ≤ i ∧ i < 13)) (fun w' => w'.cell? ⟨bL + 1, 2, none⟩ = some (.slice (some ⟨bL, 0, none⟩) F F) ∧ True)
        (by kernel_rfl) (by kernel_rfl) (fun t ht => (of_decide_eq_true ht).2) (fun _ _ _ _ _ h => h) (by kernel_rfl) ⟨q1, trivial⟩ ?_
      iterate 7
        refine' wpSeq_q (by rfl) (by rfl) (fun w' hS' => ?_) ?_
        rotate_left
        · obtain ⟨s0, _⟩ := hS'
          go_simp
          try rfl
        try simp only [Act.put, List.setIfInBounds_toArray, List.set_cons_zero, List.set_cons_succ]
      refine wpSeq_l (by rfl) (by rfl) (fun KQ hKQ => ?_)
      go_simp
      refine (leastsF _ base g F M ws (T4.out.drewN 1) p _ _ q2 q3 i i (by omega)).mono ?_
      rintro e w6 ⟨rfl, k6, rfl⟩
      obtain ⟨l, hl⟩ : ∃ l, leN M ws p F i = l := ⟨_, rfl⟩
      rw [hl]
      have HL := Lib.hid hl
      clear hl
      refine hKQ _ _ (.inr ⟨q1, trivial⟩) ?_
      clear hKQ KQ
      try simp only [Act.put, List.setIfInBounds_toArray, List.set_cons_zero, List.set_cons_succ]
      iterate 4
        refine' wpSeq_q (by rfl) (by rfl) (fun w' hS' => ?_) ?_
        rotate_left
        · obtain ⟨s0, _⟩ := hS'
          go_simp
          try rfl
        try simp only [Act.put, List.setIfInBounds_toArray, List.set_cons_zero, List.set_cons_succ]
      refine wpSeq_l (by rfl) (by rfl) (fun KQ hKQ => ?_)
      go_simp
      refine hKQ _ _ (.inr ⟨cell_far (d := bL) (by omega) q1, trivial⟩) ?_
      clear hKQ KQ
      try simp only [Act.put, List.setIfInBounds_toArray, List.set_cons_zero, List.set_cons_succ]
      refine wpSeq_nil ?_
      go_wp2_with fail
      go_roundw
      case rel =>
        refine ⟨i + 1, by omega, by go_num, ?_, (U4.out.drewN (1 + k6)).setCell (fun _ => rfl) _⟩
        have h1 := (BL.out.drewN (1 + k6)).set_ i (.int .i64 l)
        rw [flc_set] at h1
        have e : (fun x => if x = i then l else if x < i then leN M ws p F x else 0) = fun n => if n < i + 1 then leN M ws p F n else 0 := by
          funext x
          by_cases hx : x = i
          · subst hx
            rw [if_pos rfl, if_pos (by omega), HL.out]
          · rw [if_neg hx]
            by_cases h2 : x < i
            · rw [if_pos h2, if_pos (by omega)]
            · rw [if_neg h2, if_neg (by omega)]
        rw [e] at h1
        exact h1
      case measure => simp [intOf]; omega
    · have hie : i = F := by omega
      subst hie
      go_wp2_with fail
      go_returns
      refine ⟨_, rfl, ⟨hp0, hp1, T4.out, bL, B1.out.upd U4.out (by omega), ?_⟩, ((U3.out.mono (S' := fun k => bL ≤ k) (fun _ _ h => h.elim)).trans (U4.out.mono (fun k _ hk => by omega))).mono (fun k hk h => absurd h (by omega))⟩
      have e : flc (i - 1) (fun n => if n < i then leN M ws p i n else 0) = flc (i - 1) (fun n => leN M ws p i n) := flc_congr (fun q hq => by rw [if_pos (by omega)])
      rw [← e]
      exact BL.out
end Go.Proofs.Ytnfajehocljbnaa
