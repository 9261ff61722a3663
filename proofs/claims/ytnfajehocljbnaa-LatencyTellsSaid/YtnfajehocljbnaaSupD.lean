/-
  The walk of supply's Wait.
-/
import Derived.Test.YtnfajehocljbnaaSupC
import Derived.Test.YtnfajehocljbnaaSearchS
namespace Go.Proofs.Ytnfajehocljbnaa
open Go.RowKit
attribute [local go_sem] max_ints min_ints

set_option maxRecDepth 100000 in
set_option maxHeartbeats 800000 in
theorem waitc (w : World) (base g F : Nat) (M : Int) (ws : List W3) (p : Int) (s : Nat) (h : SupS w base g F M ws p s) (work : Int) (b1 b2 : Nat) (h1 : w.cell? ⟨b1, 0, none⟩ = some (.pointer (some ⟨s, 0, none⟩))) (h2 : w.cell? ⟨b2, 0, none⟩ = some (.int .i64 work))
    (n : Nat) (hn : n ≤ 1000000000000000) :
    Calls Try.prog 38 #[.int .i64 n, .pointer (some ⟨b1, 0, none⟩), .pointer (some ⟨b2, 0, none⟩)] w fun e w' => e = .returned (.bool (decide (work ≤ leN M ws p F n))) ∧ Upd (fun _ => False) w w' := by
  have H := Lib.hid h
  obtain ⟨l, hl⟩ : ∃ l, leN M ws p F n = l := ⟨_, rfl⟩
  have HL := Lib.hid hl
  obtain ⟨t, ht⟩ : ∃ t, decide (work ≤ l) = t := ⟨_, rfl⟩
  rw [hl, ht]
  clear h hl
  go_enter Try.func38, Try.ntmps38
  go_wp2_with fail
  go_quiet ((go_at_call 13; exact Calls.quiet_of (leastS _ base g F M ws p s (H.out.drewN _) n n (by omega) l HL.out)))
  go_wp2_with fail
  go_returns
  exact ⟨rfl, (Upd.refl _ w).drewN _⟩

/-- The answer of Wait. -/
def WaitIs (M : Int) (ws : List W3) (p : Int) (F : Nat) (work x : Int) (b : Bool) : Prop :=
  (work ≤ 0 ∧ x = 0 ∧ b = true) ∨ (0 < work ∧ (1099511627776 < work ∨ cntO M ws p F = 0) ∧ x = 0 ∧ b = false) ∨
  (0 < work ∧ work ≤ 1099511627776 ∧ 0 < cntO M ws p F ∧ b = true ∧ ∃ k : Nat, x = k ∧ k ≤ 281474976711168 ∧ work ≤ leN M ws p F k ∧ ∀ i, i < k → leN M ws p F i < work)

set_option maxRecDepth 100000 in
set_option maxHeartbeats 3200000 in
theorem waitS (w : World) (base g F : Nat) (M : Int) (ws : List W3) (p : Int) (s : Nat) (h : SupS w base g F M ws p s) (work : Int) :
    Calls Try.prog 17 #[.pointer (some ⟨s, 0, none⟩), .int .i64 work] w fun e w' => ∃ x b, e = .returned (.tuple #[.int .i64 x, .bool b]) ∧ WaitIs M ws p F work x b ∧ Upd (fun _ => False) w w' := by
  have hmf : ∀ (fn : Fn) (first cap : Array Value) (w : World), (Instr.makeFunc fn first cap).run Try.prog w = .ok (.func fn first cap) w := fun _ _ _ _ => rfl
  have hr := h.tab.right
  have hF1 : 1 ≤ F := hr.1
  have hF2 : F ≤ 256 := hr.2.1
  have H := Lib.hid h
  obtain ⟨o, ho⟩ : ∃ o, cntO M ws p F = o := ⟨_, rfl⟩
  have ho1 := cntO_le M ws p F
  rw [ho] at ho1
  have HO := Lib.hid ho
  obtain ⟨W, hW⟩ : ∃ W, (w.alloc (.cells #[.pointer (some ⟨s, 0, none⟩)] 27)).alloc (.cells #[.int .i64 work] 3) = W := ⟨_, rfl⟩
  obtain ⟨bL, hbL⟩ : ∃ bL, w.heap.size = bL := ⟨_, rfl⟩
  have hB1 := (Blk.new w 27 #[.pointer (some ⟨s, 0, none⟩)]).alloc (.cells #[.int .i64 work] 3)
  have hB2 := Blk.new (w.alloc (.cells #[.pointer (some ⟨s, 0, none⟩)] 27)) 3 #[.int .i64 work]
  rw [size_alloc] at hB2
  rw [hW, hbL] at hB1 hB2
  have hU : Upd (fun _ => False) w W := by rw [← hW]; exact ((Upd.refl _ w).alloc _).alloc _
  have b1 := hB1.cell 0
  have b2 := hB2.cell 0
  have HS := H.out.still hU
  have c0 := HS.c0
  have c1 := HS.c1
  have H2 := Lib.hid HS
  have UW := Lib.hid hU
  have B1 := Lib.hid hB1; have B2 := Lib.hid hB2
  clear h hr ho hB1 hB2 hU HS H
  go_enter Try.func17, Try.ntmps17
  go_upto_region 1 with fail
  clear hW hbL
  go_wp2_with fail
  refine (supNone _ s g c0).mono ?_
  rintro e w1 ⟨rfl, k1, rfl⟩
  by_cases h0 : work ≤ 0
  · have d0 : decide (work ≤ 0) = true := decide_eq_true h0
    go_wp2_with fail
    go_returns
    exact ⟨_, _, rfl, .inl ⟨h0, rfl, rfl⟩, UW.out.drewN _⟩
  · have d0 : decide (work ≤ 0) = false := decide_eq_false h0
    by_cases h1 : work ≤ 1099511627776
    · have d1 : decide (1099511627776 < work) = false := decide_eq_false (by omega)
      have HW2 : Hid (∀ j, (W.drewN k1).drewN j = W.drewN (k1 + j)) := Lib.hid (fun j => by rw [World.drewN_drewN])
      have c0' : (W.drewN k1).cell? ⟨s, 0, none⟩ = some (.pointer (some ⟨g, 0, none⟩)) := c0
      have c1' : (W.drewN k1).cell? ⟨s, 1, none⟩ = some (.int .i64 p) := c1
      have b1' : (W.drewN k1).cell? ⟨bL, 0, none⟩ = some (.pointer (some ⟨s, 0, none⟩)) := b1
      have b2' : (W.drewN k1).cell? ⟨bL + 1, 0, none⟩ = some (.int .i64 work) := b2
      have H3 := Lib.hid (H2.out.drewN k1)
      have UW3 := Lib.hid (UW.out.drewN k1)
      have B13 := Lib.hid (B1.out.drewN k1); have B23 := Lib.hid (B2.out.drewN k1)
      go_wp2_with fail
      clear c0 c1 b1 b2 B1 B2 H2 UW
      generalize W.drewN k1 = V at *
      by_cases h2 : o = 0
      · have d2 : (o == 0) = true := beq_iff_eq.2 h2
        go_quiet ((go_at_call 16; exact Calls.quiet_of (offeredTc _ base g F M ws (H3.out.tab.drewN _) p o HO.out)))
        go_wp2_with fail
        go_returns
        exact ⟨_, _, rfl, .inr (.inl ⟨by omega, .inr (by rw [HO.out]; exact h2), rfl, rfl⟩), UW3.out.drewN _⟩
      · have d2 : (o == 0) = false := beq_eq_false_iff_ne.2 h2
        go_quiet ((go_at_call 16; exact Calls.quiet_of (offeredTc _ base g F M ws (H3.out.tab.drewN _) p o HO.out)))
        go_wp2_with fail
        refine (frameT _ base g F M ws (H3.out.tab.drewN _)).mono ?_
        rintro e w2 ⟨rfl, k2, rfl⟩
        go_wp2_with fail
        obtain ⟨V2, hV2⟩ : ∃ V2, V.drewN (nq + k2) = V2 := ⟨_, rfl⟩
        have H4 := Lib.hid (H3.out.drewN (nq + k2))
        have UW4 := Lib.hid (UW3.out.drewN (nq + k2))
        have B14 := Lib.hid (B13.out.drewN (nq + k2)); have B24 := Lib.hid (B23.out.drewN (nq + k2))
        rw [hV2] at H4 UW4 B14 B24 ⊢
        clear hV2 H3 UW3 B13 B23 c0' c1' b1' b2' HW2
        have e0 := H4.out.c0
        have e1 := H4.out.c1
        have e2 := B14.out.cell 0
        have e3 := B24.out.cell 0
        obtain ⟨y, hy⟩ : ∃ y : Nat, work = y := ⟨work.toNat, by omega⟩
        subst hy
        obtain ⟨on, hon⟩ : ∃ on : Nat, o = on := ⟨o.toNat, by omega⟩
        subst hon
        have hon0 : 0 < on := by omega
        obtain ⟨q, hq⟩ : ∃ q : Nat, y / on = q := ⟨_, rfl⟩
        have hqy : q ≤ y := by rw [← hq]; exact Nat.div_le_self y on
        have HQ := Lib.hid hq
        have td : (y : Int).tdiv (on : Int) = (q : Int) := by rw [Int.tdiv_eq_ediv_of_nonneg (by omega), ← hq]; rfl
        obtain ⟨far, hfar⟩ : ∃ far : Nat, F * (q + 2) = far := ⟨_, rfl⟩
        have hfar1 : far ≤ 256 * (q + 2) := by rw [← hfar]; exact Nat.mul_le_mul_right _ hF2
        have HFAR := Lib.hid hfar
        have hz : (F : Int) * ((q : Int) + 2) = (far : Int) := by rw [← hfar, Int.natCast_mul, Int.natCast_add]; rfl
        have HZ := Lib.hid hz
        clear hz
        clear hfar hq
        go_quiet ((go_at_call 16; exact Calls.quiet_of (offeredTc _ base g F M ws (H4.out.tab.drewN _) p on HO.out)))
        go_wp2_with fail
        rw [HZ.out, wrap64_in (far : Int) (by omega) (by omega)]
        have H5 := Lib.hid (H4.out.drewN nq)
        have UW5 := Lib.hid (UW4.out.drewN nq)
        have B15 := Lib.hid (B14.out.drewN nq); have B25 := Lib.hid (B24.out.drewN nq)
        clear e0 e1 e2 e3 td
        refine (searchS _ far (by omega) _ _ (fun i => decide ((y : Int) ≤ leN M ws p F i)) ?_ ?_).mono ?_
        · intro i j hij hj hi
          have h1 := of_decide_eq_true hi
          have h2 := leN_mono M ws p F (by omega) i (j - i)
          rw [show i + (j - i) = j by omega] at h2
          exact decide_eq_true (Int.le_trans h1 h2)
        · intro i wr hi hU
          exact waitc wr base g F M ws p s (H5.out.still hU) y _ _ ((B15.out.upd hU (fun h => h)).cell 0) ((B25.out.upd hU (fun h => h)).cell 0) i (by omega)
        · rintro e w5 ⟨k, hk, rfl, hk1, hk2, hU⟩
          have U5 := Lib.hid (UW5.out.trans hU)
          have hw : WaitIs M ws p F y k true := by
            have hO := HO.out
            have hX := leN_far M ws p F (by omega) (q + 1)
            rw [hO] at hX
            have hdm : y < on * (q + 1) := by rw [← HQ.out]; exact Nat.lt_mul_div_succ y hon0
            have hdm' : (y : Int) ≤ leN M ws p F ((q + 1) * F) := by
              rw [hX]
              have : y ≤ (q + 1) * on := by rw [Nat.mul_comm]; omega
              exact_mod_cast this
            have hlt : (q + 1) * F < far := by
              rw [← HFAR.out, Nat.mul_comm F]
              have : (q + 2) * F = (q + 1) * F + F := by rw [show q + 2 = q + 1 + 1 by omega, Nat.add_mul (q + 1), Nat.one_mul]
              omega
            have hkle : k ≤ (q + 1) * F := by
              rcases Nat.lt_or_ge ((q + 1) * F) k with h | h
              · exact absurd hdm' (of_decide_eq_false (hk1 _ h))
              · exact h
            refine .inr (.inr ⟨by omega, by omega, by rw [hO]; omega, rfl, k, rfl, by omega, of_decide_eq_true (hk2 k (Nat.le_refl _) (by omega)), fun i hi => by have := of_decide_eq_false (hk1 i hi); omega⟩)
          have HWI := Lib.hid hw
          clear hw hU hk1 hk2
          go_wp2_with fail
          go_returns
          exact ⟨_, _, rfl, HWI.out, U5.out⟩
    · have d1 : decide (1099511627776 < work) = true := decide_eq_true (by omega)
      go_wp2_with fail
      go_quiet (fail)
      go_wp2_with fail
      go_returns
      exact ⟨_, _, rfl, .inr (.inl ⟨by omega, .inl (by omega), rfl, rfl⟩), (UW.out.drewN _).drewN _⟩
end Go.Proofs.Ytnfajehocljbnaa
