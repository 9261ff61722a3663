/-
  The walks of supply: Least, Worst, Rate.
-/
import Derived.Test.YtnfajehocljbnaaSupB
namespace Go.Proofs.Ytnfajehocljbnaa
open Go.RowKit
attribute [local go_sem] max_ints min_ints

section
variable {w : World} {base g F : Nat} {M : Int} {ws : List W3} {p : Int} {s : Nat}
theorem SupS.tab (h : SupS w base g F M ws p s) : TabS w base g F M ws := h.2.2.1
theorem SupS.c0 (h : SupS w base g F M ws p s) : w.cell? ⟨s, 0, none⟩ = some (.pointer (some ⟨g, 0, none⟩)) := by
  obtain ⟨_, _, _, b, h3, _⟩ := h; exact h3.cell 0
theorem SupS.c1 (h : SupS w base g F M ws p s) : w.cell? ⟨s, 1, none⟩ = some (.int .i64 p) := by
  obtain ⟨_, _, _, b, h3, _⟩ := h; exact h3.cell 1
theorem SupS.c2 (h : SupS w base g F M ws p s) : ∃ b, w.cell? ⟨s, 2, none⟩ = some (.slice (some ⟨b, 0, none⟩) F F) ∧ ∀ r, r < F → w.cell? ⟨b, r, none⟩ = some (.int .i64 (leN M ws p F r)) := by
  obtain ⟨_, _, _, b, h3, h4⟩ := h
  exact ⟨b, h3.cell 2, fun r hr => by rw [h4.cell, flc_at _ _ _ (by omega)]⟩
end
theorem wrap64_in (x : Int) (h0 : -9223372036854775808 ≤ x) (h1 : x ≤ 9223372036854775807) : wrap64 x = x := by unfold wrap64; omega

set_option maxRecDepth 100000 in
set_option maxHeartbeats 1600000 in
theorem leastS (w : World) (base g F : Nat) (M : Int) (ws : List W3) (p : Int) (s : Nat) (h : SupS w base g F M ws p s) (n : Int) (m : Nat) (hm : min (max n 0) 1125899906842624 = (m : Int)) (l : Int) (hl : leN M ws p F m = l) :
    Calls Try.prog 13 #[.pointer (some ⟨s, 0, none⟩), .int .i64 n] w fun e w' => e = .returned (.int .i64 l) ∧ ∃ k, w' = w.drewN k := by
  have hr := h.tab.right
  have hF1 : 1 ≤ F := hr.1
  have hF2 : F ≤ 256 := hr.2.1
  have c0 := h.c0
  have c1 := h.c1
  obtain ⟨b, c2, hcell⟩ := h.c2
  have H := Lib.hid h
  obtain ⟨q, hq⟩ : ∃ q : Nat, m / F = q := ⟨_, rfl⟩
  obtain ⟨r, hrr⟩ : ∃ r : Nat, m % F = r := ⟨_, rfl⟩
  have hr1 : r < F := by rw [← hrr]; exact Nat.mod_lt _ (by omega)
  have c3 := hcell r hr1
  obtain ⟨x, hx⟩ : ∃ x, leN M ws p F r = x := ⟨_, rfl⟩
  obtain ⟨o, ho⟩ : ∃ o, cntO M ws p F = o := ⟨_, rfl⟩
  have ho1 := cntO_le M ws p F
  have hx1 := leN_nn M ws p F r
  have hsum := leN_all M ws p F (by omega) m
  rw [hq, hrr, hx, ho, hl] at hsum
  rw [hx] at c3 hx1
  rw [ho] at ho1
  have hm50 : (m : Int) ≤ 1125899906842624 := by omega
  have hqm : (q : Int) * o ≤ m := by
    have h1 : q * F ≤ m := by rw [← hq]; exact Nat.div_mul_le_self m F
    have h2 : (q : Int) * o ≤ (q : Int) * (F : Int) := Int.mul_le_mul_of_nonneg_left ho1.2 (by omega)
    have h3 : (q : Int) * (F : Int) ≤ m := by exact_mod_cast h1
    omega
  have hqo : 0 ≤ (q : Int) * o := Int.mul_nonneg (by omega) ho1.1
  have hqm2 : (q : Int) ≤ m := by have := Nat.div_le_self m F; omega
  have HS := Lib.hid hsum; have HO := Lib.hid ho; have HM := Lib.hid hm
  have td : (m : Int).tdiv (F : Int) = (q : Int) := by rw [Int.tdiv_eq_ediv_of_nonneg (by omega), ← hq]; rfl
  have tm : (m : Int).tmod (F : Int) = (r : Int) := by rw [Int.tmod_eq_emod_of_nonneg (by omega), ← hrr]; rfl
  have hmul := wrap_in ((q : Int) * o) (by omega) (by omega)
  have hadd := wrap_in ((q : Int) * o + x) (by omega) (by omega)
  clear h hr hcell hq hrr hx hsum ho hm hl
  go_enter Try.func13, Try.ntmps13
  go_wp2_with fail
  refine (supNone _ s g c0).mono ?_
  rintro e w1 ⟨rfl, k1, rfl⟩
  go_wp2_with fail
  refine (supCut _ n m HM.out).mono ?_
  rintro e w2 ⟨rfl, k2, rfl⟩
  go_wp2_with fail
  refine (frameT _ base g F M ws (H.out.tab.drewN _)).mono ?_
  rintro e w3 ⟨rfl, k3, rfl⟩
  go_wp2_with fail
  have H2 := Lib.hid (H.out.drewN (k1 + k2 + k3))
  have HW : Hid (∃ k, w.drewN (k1 + k2 + k3) = w.drewN k) := Lib.hid ⟨_, rfl⟩
  have HW2 : Hid (∀ j, ∃ k, (w.drewN (k1 + k2 + k3)).drewN j = w.drewN k) := Lib.hid (fun j => ⟨k1 + k2 + k3 + j, by rw [World.drewN_drewN]⟩)
  have c0' : (w.drewN (k1 + k2 + k3)).cell? ⟨s, 0, none⟩ = some (.pointer (some ⟨g, 0, none⟩)) := c0
  have c1' : (w.drewN (k1 + k2 + k3)).cell? ⟨s, 1, none⟩ = some (.int .i64 p) := c1
  have c2' : (w.drewN (k1 + k2 + k3)).cell? ⟨s, 2, none⟩ = some (.slice (some ⟨b, 0, none⟩) F F) := c2
  have c3' : (w.drewN (k1 + k2 + k3)).cell? ⟨b, r, none⟩ = some (.int .i64 x) := c3
  clear c0 c1 c2 c3 H
  generalize w.drewN (k1 + k2 + k3) = W at *
  go_quiet ((go_at_call 16; exact Calls.quiet_of (offeredTc _ base g F M ws (H2.out.tab.drewN _) p o HO.out)))
  go_wp2_with fail
  go_returns
  refine ⟨?_, HW2.out _⟩
  refine ret_int ?_
  refine Eq.trans ?_ HS.out.symm
  first | rfl | (rw [wrap64_in q (by omega) (by omega), wrap64_in (q * o) (by omega) (by omega), wrap64_in _ (by omega) (by omega)])

set_option maxRecDepth 100000 in
set_option maxHeartbeats 1600000 in
theorem rateS (w : World) (base g F : Nat) (M : Int) (ws : List W3) (p : Int) (s : Nat) (h : SupS w base g F M ws p s) (o : Int) (ho : cntO M ws p F = o) :
    Calls Try.prog 18 #[.pointer (some ⟨s, 0, none⟩)] w fun e w' => e = .returned (.tuple #[.int .i64 o, .int .i64 F]) ∧ ∃ k, w' = w.drewN k := by
  have c0 := h.c0
  have c1 := h.c1
  have H := Lib.hid h; have HO := Lib.hid ho
  clear h ho
  go_enter Try.func18, Try.ntmps18
  go_wp2_with fail
  refine (supNone _ s g c0).mono ?_
  rintro e w1 ⟨rfl, k1, rfl⟩
  go_wp2_with fail
  have H2 := Lib.hid (H.out.drewN k1)
  have HW2 : Hid (∀ j, ∃ k, (w.drewN k1).drewN j = w.drewN k) := Lib.hid (fun j => ⟨k1 + j, by rw [World.drewN_drewN]⟩)
  have c0' : (w.drewN k1).cell? ⟨s, 0, none⟩ = some (.pointer (some ⟨g, 0, none⟩)) := c0
  have c1' : (w.drewN k1).cell? ⟨s, 1, none⟩ = some (.int .i64 p) := c1
  clear c0 c1 H
  generalize w.drewN k1 = W at *
  go_quiet (first | (go_at_call 16; exact Calls.quiet_of (offeredTc _ base g F M ws (H2.out.tab.drewN _) p o HO.out)) | (go_at_call 31; exact Calls.quiet_of (frameT _ base g F M ws (H2.out.tab.drewN _))))
  go_wp2_with fail
  go_returns
  exact ⟨rfl, HW2.out _⟩

set_option maxRecDepth 100000 in
set_option maxHeartbeats 1600000 in
theorem worstS (w : World) (base g F : Nat) (M : Int) (ws : List W3) (p : Int) (s : Nat) (h : SupS w base g F M ws p s) (n : Int) (m : Nat) (hm : min (max n 0) 1125899906842624 = (m : Int)) :
    Calls Try.prog 15 #[.pointer (some ⟨s, 0, none⟩), .int .i64 n] w fun e w' => e = .returned (.int .i64 (atN M ws p F m)) ∧ Upd (fun _ => False) w w' := by
  have c0 := h.c0
  have c1 := h.c1
  have H := Lib.hid h; have HM := Lib.hid hm
  obtain ⟨a, ha⟩ : ∃ a, atN M ws p F m = a := ⟨_, rfl⟩
  have HA := Lib.hid ha
  rw [ha]
  have hm2 : min (max (m : Int) 0) 4611686018427387904 = (m : Int) := by omega
  clear h hm ha
  go_enter Try.func15, Try.ntmps15
  go_wp2_with fail
  refine (supNone _ s g c0).mono ?_
  rintro e w1 ⟨rfl, k1, rfl⟩
  go_wp2_with fail
  have H2 := Lib.hid (H.out.drewN k1)
  have U1 : Hid (Upd (fun _ => False) w (w.drewN k1)) := Lib.hid ((Upd.refl _ w).drewN k1)
  have c0' : (w.drewN k1).cell? ⟨s, 0, none⟩ = some (.pointer (some ⟨g, 0, none⟩)) := c0
  have c1' : (w.drewN k1).cell? ⟨s, 1, none⟩ = some (.int .i64 p) := c1
  clear c0 c1 H
  generalize w.drewN k1 = W at *
  refine wp_region_tree (.q 0 (.q 1 (.q 2 (.q 3 (.q 4 (.q 5 (.q 6 (.q 7 (.q 9 (.l 8 (.l 10 (.l 11 (.q 12 (.q 13 (.q 14 (.q 15 (.q 16 .d))))))))))))))))) (fun i => decide (17 ≤ i ∧ i < 17)) (fun w' => w'.cell? ⟨s, 0, none⟩ = some (.pointer (some ⟨g, 0, none⟩)) ∧ w'.cell? ⟨s, 1, none⟩ = some (.int .i64 p))
    (by kernel_rfl) (by kernel_rfl) (fun t ht => (of_decide_eq_true ht).2) (fun _ _ _ _ _ h => h) (by kernel_rfl) rfl ⟨c0', c1'⟩ ?_
  iterate 9
    refine' wpOT_q (by rfl) (by rfl) (fun w' hS' => ?_) ?_
    rotate_left
    · obtain ⟨s0, s1⟩ := hS'
      go_simp
      try rfl
    try simp only [Act.put, List.setIfInBounds_toArray, List.set_cons_zero, List.set_cons_succ]
  refine wpOT_l (by rfl) (by rfl) (fun KQ hKQ => ?_)
  go_simp
  go_at_call 32
  refine (leastsP _ g p).mono ?_
  rintro e w3 ⟨rfl, hw3⟩
  obtain ⟨bL, hbL⟩ : ∃ bL, W.heap.size = bL := ⟨_, rfl⟩
  have hB1 := (Blk.new W.drew 25 #[.pointer (some ⟨g, 0, none⟩)]).alloc (.cells #[.int .i64 p] 3)
  have hB2 := Blk.new (W.drew.alloc (.cells #[.pointer (some ⟨g, 0, none⟩)] 25)) 3 #[.int .i64 p]
  rw [size_alloc] at hB2
  have hU3 : Upd (fun _ => False) W w3 := by rw [hw3]; exact (((Upd.refl _ W).drew).alloc _).alloc _
  have e0 : (W.drew).heap.size = bL := hbL
  rw [← hw3, e0] at hB1 hB2
  simp only [e0]
  have T3 := Lib.hid (H2.out.tab.still hU3)
  have t0 : w3.cell? ⟨s, 0, none⟩ = some (.pointer (some ⟨g, 0, none⟩)) := (H2.out.still hU3).c0
  have t1 : w3.cell? ⟨s, 1, none⟩ = some (.int .i64 p) := (H2.out.still hU3).c1
  have b1 := hB1.cell 0
  have b2 := hB2.cell 0
  have U3 := Lib.hid (U1.out.trans hU3)
  clear hw3 hB1 hB2 hU3 e0 hbL
  refine hKQ _ _ (.inr ⟨t0, t1⟩) ?_
  clear hKQ KQ
  try simp only [Act.put, List.setIfInBounds_toArray, List.set_cons_zero, List.set_cons_succ]
  refine wpOT_l (by rfl) (by rfl) (fun KQ hKQ => ?_)
  go_simp
  go_at_call 34
  refine (supCut _ n m HM.out).mono ?_
  rintro e w4 ⟨rfl, k4, rfl⟩
  refine hKQ _ _ (.inr ⟨t0, t1⟩) ?_
  clear hKQ KQ
  try simp only [Act.put, List.setIfInBounds_toArray, List.set_cons_zero, List.set_cons_succ]
  refine wpOT_l (by rfl) (by rfl) (fun KQ hKQ => ?_)
  go_simp
  refine (leastsF _ base g F M ws (T3.out.drewN k4) p bL (bL + 1) b1 b2 m m hm2).mono ?_
  rintro e w5 ⟨rfl, k5, rfl⟩
  rw [HA.out]
  refine hKQ _ _ (.inr ⟨t0, t1⟩) ?_
  clear hKQ KQ
  try simp only [Act.put, List.setIfInBounds_toArray, List.set_cons_zero, List.set_cons_succ]
  iterate 5
    refine' wpOT_q (by rfl) (by rfl) (fun w' hS' => ?_) ?_
    rotate_left
    · obtain ⟨s0, s1⟩ := hS'
      go_simp
      try rfl
    try simp only [Act.put, List.setIfInBounds_toArray, List.set_cons_zero, List.set_cons_succ]
  refine wpOT_d ?_
  go_wp2_with fail
  go_returns
  exact ⟨rfl, (U3.out.drewN _).drewN _⟩
end Go.Proofs.Ytnfajehocljbnaa
