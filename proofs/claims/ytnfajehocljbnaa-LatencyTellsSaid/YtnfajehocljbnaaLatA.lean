/-
  The walk of latency.Done.
-/
import Derived.Test.YtnfajehocljbnaaLatP
import Derived.Test.YtnfajehocljbnaaSupE
import Derived.Test.YtnfajehocljbnaaSearchL
namespace Go.Proofs.Ytnfajehocljbnaa
open Go.RowKit
attribute [local go_sem] max_ints min_ints

set_option maxHeartbeats 400000 in
theorem latCut (w : World) (n most m : Int) (hm : min (max n 0) most = m) :
    Calls Try.prog 39 #[.int .i64 n, .int .i64 most] w fun e w' => e = .returned (.int .i64 m) ∧ ∃ k, w' = w.drewN k := by
  subst hm
  go_enter Try.func39, Try.ntmps39
  go_wp2_with fail
  go_returns
  exact ⟨rfl, 0, rfl⟩

set_option maxRecDepth 100000 in
set_option maxHeartbeats 800000 in
theorem donec (w : World) (base g F : Nat) (M : Int) (ws : List W3) (h : TabS w base g F M ws) (p f : Int) (m : Nat) (b1 b2 b3 b4 : Nat) (h1 : w.cell? ⟨b1, 0, none⟩ = some (.pointer (some ⟨g, 0, none⟩))) (h2 : w.cell? ⟨b2, 0, none⟩ = some (.int .i64 p)) (h3 : w.cell? ⟨b3, 0, none⟩ = some (.int .i64 f)) (h4 : w.cell? ⟨b4, 0, none⟩ = some (.int .i64 m))
    (n : Nat) (hn : n ≤ 1000000000000) :
    Calls Try.prog 40 #[.int .i64 n, .pointer (some ⟨b1, 0, none⟩), .pointer (some ⟨b2, 0, none⟩), .pointer (some ⟨b3, 0, none⟩), .pointer (some ⟨b4, 0, none⟩)] w fun e w' => e = .returned (.bool (decide ((m : Int) ≤ cntF M ws p F f n))) ∧ Upd (fun _ => False) w w' := by
  have H := Lib.hid h
  obtain ⟨c, hc⟩ : ∃ c, cntF M ws p F f n = c := ⟨_, rfl⟩
  have HC := Lib.hid hc
  have hct : ∀ v : World, TabS v base g F M ws → Calls Try.prog 14 #[.pointer (some ⟨g, 0, none⟩), .int .i64 p, .int .i64 f, .int .i64 n] v fun e w' => e = .returned (.int .i64 c) ∧ ∃ k, w' = v.drewN k := fun v hv => by
    have := countT v base g F M ws hv p f n n (by omega)
    rw [hc] at this
    exact this
  have HCT := Lib.hid hct
  obtain ⟨t, ht⟩ : ∃ t, decide ((m : Int) ≤ c) = t := ⟨_, rfl⟩
  rw [hc, ht]
  clear h hc hct
  go_enter Try.func40, Try.ntmps40
  go_wp2_with fail
  go_quiet ((go_at_call 14; exact Calls.quiet_of (HCT.out _ (H.out.drewN _))))
  go_wp2_with fail
  go_returns
  exact ⟨rfl, (Upd.refl _ w).drewN _⟩

set_option maxRecDepth 100000 in
set_option maxHeartbeats 3200000 in
theorem doneL (w : World) (base g F : Nat) (M : Int) (ws : List W3) (h : TabS w base g F M ws) (p from_ work : Int) (o : Int) (ho : cntO M ws p F = o) (f : Int) (hf : min (max from_ 0) 1152921504606846976 = f) (m : Nat) (hm : min (max work 0) 1048576 = (m : Int)) :
    Calls Try.prog 20 #[.pointer (some ⟨g, 0, none⟩), .int .i64 p, .int .i64 from_, .int .i64 work] w fun e w' =>
      e = .returned (.tuple #[.int .i64 (if o = 0 then 0 else f + doneN M ws p F f m), .bool (decide (0 < o))]) ∧ Upd (fun _ => False) w w' := by
  have hmf : ∀ (fn : Fn) (first cap : Array Value) (w : World), (Instr.makeFunc fn first cap).run Try.prog w = .ok (.func fn first cap) w := fun _ _ _ _ => rfl
  have hr := h.right
  have hF1 : 1 ≤ F := hr.1
  have hF2 : F ≤ 256 := hr.2.1
  have H := Lib.hid h; have HO := Lib.hid ho; have HF := Lib.hid hf; have HM := Lib.hid hm
  have ho1 := cntO_le M ws p F
  rw [ho] at ho1
  have hfb : 0 ≤ f ∧ f ≤ 1152921504606846976 := by omega
  have hmb : (m : Int) ≤ 1048576 := by omega
  clear hf hm ho
  obtain ⟨bL, hbL⟩ : ∃ bL, w.heap.size = bL := ⟨_, rfl⟩
  obtain ⟨W, hW⟩ : ∃ W, (((w.alloc (.cells #[.pointer (some ⟨g, 0, none⟩)] 25)).alloc (.cells #[.int .i64 p] 3)).alloc (.cells #[.int .i64 from_] 3)).alloc (.cells #[.int .i64 work] 3) = W := ⟨_, rfl⟩
  have hB1 := (((Blk.new w 25 #[.pointer (some ⟨g, 0, none⟩)]).alloc (.cells #[.int .i64 p] 3)).alloc (.cells #[.int .i64 from_] 3)).alloc (.cells #[.int .i64 work] 3)
  have hB2 := ((Blk.new (w.alloc (.cells #[.pointer (some ⟨g, 0, none⟩)] 25)) 3 #[.int .i64 p]).alloc (.cells #[.int .i64 from_] 3)).alloc (.cells #[.int .i64 work] 3)
  have hB3 := (Blk.new ((w.alloc (.cells #[.pointer (some ⟨g, 0, none⟩)] 25)).alloc (.cells #[.int .i64 p] 3)) 3 #[.int .i64 from_]).alloc (.cells #[.int .i64 work] 3)
  have hB4 := Blk.new (((w.alloc (.cells #[.pointer (some ⟨g, 0, none⟩)] 25)).alloc (.cells #[.int .i64 p] 3)).alloc (.cells #[.int .i64 from_] 3)) 3 #[.int .i64 work]
  simp only [size_alloc] at hB2 hB3 hB4
  rw [hW, hbL] at hB1 hB2 hB3 hB4
  have hU : Upd (fun _ => False) w W := by rw [← hW]; exact ((((Upd.refl _ w).alloc _).alloc _).alloc _).alloc _
  have hsz : W.heap.size = bL + 1 + 1 + 1 + 1 := by rw [← hW]; simp only [size_alloc, hbL]
  have b1 := hB1.cell 0
  have b2 := hB2.cell 0
  have B1 := Lib.hid hB1; have B2 := Lib.hid hB2; have B3 := Lib.hid hB3; have B4 := Lib.hid hB4; have UW := Lib.hid hU
  have H1 := Lib.hid (H.out.still hU); have H0 := H
  have HSZ := Lib.hid hsz; have HBL := Lib.hid hbL
  clear hB1 hB2 hB3 hB4 hU H hsz
  go_enter Try.func20, Try.ntmps20
  go_upto_region 1 with fail
  clear hW hbL
  go_wp2_with fail
  refine (offeredTc _ base g F M ws H1.out p o HO.out).mono ?_
  rintro e w1 ⟨rfl, k1, rfl⟩
  by_cases h0 : o = 0
  · subst h0
    go_wp2_with fail
    go_returns
    exact ⟨rfl, UW.out.drewN _⟩
  · have d0 : (o == 0) = false := beq_eq_false_iff_ne.2 h0
    have d0' : decide (0 < o) = true := decide_eq_true (by omega)
    obtain ⟨V, hV⟩ : ∃ V, W.drewN k1 = V := ⟨_, rfl⟩
    have B1 := Lib.hid (B1.out.drewN k1); have B2 := Lib.hid (B2.out.drewN k1); have B3 := Lib.hid (B3.out.drewN k1); have B4 := Lib.hid (B4.out.drewN k1)
    have UV := Lib.hid (UW.out.drewN k1)
    have HV := Lib.hid (H1.out.drewN k1)
    have HSV : Hid (V.heap.size = bL + 1 + 1 + 1 + 1) := Lib.hid (by rw [← hV]; exact HSZ.out)
    go_wp2_with fail
    rw [hV] at B1 B2 B3 B4 UV HV
    clear hV b1 b2 HSZ UW H1
    have c3 := B3.out.cell 0
    have c4 := B4.out.cell 0
    refine wp_region_tree (.q 2 (.l 0 (.l 1 (.l 3 (.l 4 (.l 5 .d)))))) (fun i => decide (5 ≤ i ∧ i < 6)) (fun w' => True ∧ w'.cell? ⟨bL + 1 + 1 + 1, 0, none⟩ = some (.int .i64 work))
      (by kernel_rfl) (by kernel_rfl) (fun t ht => (of_decide_eq_true ht).2) (fun _ _ _ _ _ h => h) (by kernel_rfl) rfl ⟨trivial, c4⟩ ?_
    iterate 1
      refine' wpOT_q (by rfl) (by rfl) (fun w' hS' => ?_) ?_
      rotate_left
      · obtain ⟨s0, s1⟩ := hS'
        go_simp
        try rfl
      try simp only [Act.put, List.setIfInBounds_toArray, List.set_cons_zero, List.set_cons_succ]
    refine wpOT_l (by rfl) (by rfl) (fun KQ hKQ => ?_)
    go_simp
    refine hKQ _ _ (.inr ⟨trivial, c4⟩) ?_
    clear hKQ KQ
    try simp only [Act.put, List.setIfInBounds_toArray, List.set_cons_zero, List.set_cons_succ]
    refine wpOT_l (by rfl) (by rfl) (fun KQ hKQ => ?_)
    go_simp
    go_at_call 39
    refine (latCut _ from_ _ f HF.out).mono ?_
    rintro e w2 ⟨rfl, k2, rfl⟩
    refine hKQ _ _ (.inr ⟨trivial, c4⟩) ?_
    clear hKQ KQ
    try simp only [Act.put, List.setIfInBounds_toArray, List.set_cons_zero, List.set_cons_succ]
    refine wpOT_l (by rfl) (by rfl) (fun KQ hKQ => ?_)
    go_simp
    go_at_call 39
    refine (latCut _ work _ m HM.out).mono ?_
    rintro e w3 ⟨rfl, k3, rfl⟩
    refine hKQ _ _ (.inr ⟨trivial, c4⟩) ?_
    clear hKQ KQ
    try simp only [Act.put, List.setIfInBounds_toArray, List.set_cons_zero, List.set_cons_succ]
    have f3 := B3.out.frozen 0
    have f4 := B4.out.frozen 0
    refine wpOT_l (by rfl) (by rfl) (fun KQ hKQ => ?_)
    go_simp
    refine hKQ _ _ (.inr ⟨trivial, (World.cell?_setCell_other _ _ _ _ (by simp)).trans c4⟩) ?_
    clear hKQ KQ
    try simp only [Act.put, List.setIfInBounds_toArray, List.set_cons_zero, List.set_cons_succ]
    refine wpOT_l (by rfl) (by rfl) (fun KQ hKQ => ?_)
    go_simp
    refine hKQ _ _ (.inl (by rfl)) ?_
    clear hKQ KQ
    try simp only [Act.put, List.setIfInBounds_toArray, List.set_cons_zero, List.set_cons_succ]
    refine wpOT_d ?_
    obtain ⟨V2, hV2⟩ : ∃ V2, ((V.drewN (1 + k2 + k3)).setCell ⟨bL + 1 + 1, 0, none⟩ (.int .i64 f)).setCell ⟨bL + 1 + 1 + 1, 0, none⟩ (.int .i64 m) = V2 := ⟨_, rfl⟩
    have hB1 := (((B1.out.drewN (1 + k2 + k3)).far (p := ⟨bL + 1 + 1, 0, none⟩) (by simp only; omega) (.int .i64 f))).far (p := ⟨bL + 1 + 1 + 1, 0, none⟩) (by simp only; omega) (.int .i64 m)
    have hB2 := (((B2.out.drewN (1 + k2 + k3)).far (p := ⟨bL + 1 + 1, 0, none⟩) (by simp only; omega) (.int .i64 f))).far (p := ⟨bL + 1 + 1 + 1, 0, none⟩) (by simp only; omega) (.int .i64 m)
    have hB3 := (((B3.out.drewN (1 + k2 + k3)).set_ 0 (.int .i64 f))).far (p := ⟨bL + 1 + 1 + 1, 0, none⟩) (by simp only; omega) (.int .i64 m)
    have hB4 := (((B4.out.drewN (1 + k2 + k3)).far (p := ⟨bL + 1 + 1, 0, none⟩) (by simp only; omega) (.int .i64 f))).set_ 0 (.int .i64 m)
    have hU2 : Upd (fun _ => False) w V2 := by
      rw [← hV2]
      exact ((UV.out.drewN (1 + k2 + k3)).setCell (p := ⟨bL + 1 + 1, 0, none⟩) (fun h => by have := HBL.out; simp only at h; omega) _).setCell (p := ⟨bL + 1 + 1 + 1, 0, none⟩) (fun h => by have := HBL.out; simp only at h; omega) _
    rw [hV2] at hB1 hB2 hB3 hB4
    have HV2 := Lib.hid (HV.out.still ((Upd.refl (fun _ => False) V)))
    have T2 : Hid (TabS V2 base g F M ws) := Lib.hid (by
      have hu : Upd (fun k => bL ≤ k) V V2 := by
        rw [← hV2]
        exact (((Upd.refl _ V).drewN (1 + k2 + k3)).setCell (p := ⟨bL + 1 + 1, 0, none⟩) (fun _ => by simp only; omega) _).setCell (p := ⟨bL + 1 + 1 + 1, 0, none⟩) (fun _ => by simp only; omega) _
      exact H0.out.still (((UV.out.mono (S' := fun k => bL ≤ k) (fun _ _ h => h.elim)).trans hu).mono (fun k hk h => by have := HBL.out; omega)))
    have C1 := Lib.hid hB1; have C2 := Lib.hid hB2; have C3 := Lib.hid hB3; have C4 := Lib.hid hB4; have U2 := Lib.hid hU2
    have x1 : V2.cell? ⟨bL, 0, none⟩ = some (.pointer (some ⟨g, 0, none⟩)) := hB1.cell 0
    have x2 : V2.cell? ⟨bL + 1, 0, none⟩ = some (.int .i64 p) := hB2.cell 0
    have x3 : V2.cell? ⟨bL + 1 + 1, 0, none⟩ = some (.int .i64 f) := hB3.cell 0
    have x4 : V2.cell? ⟨bL + 1 + 1 + 1, 0, none⟩ = some (.int .i64 m) := hB4.cell 0
    rw [hV2]
    clear hV2 hB1 hB2 hB3 hB4 hU2 c3 c4 f3 f4 B1 B2 B3 B4 UV HV HV2 HSV
    obtain ⟨on, hon⟩ : ∃ on : Nat, o = on := ⟨o.toNat, by omega⟩
    subst hon
    have hon0 : 0 < on := by omega
    obtain ⟨q, hq⟩ : ∃ q : Nat, m / on = q := ⟨_, rfl⟩
    have hqm : q ≤ m := by rw [← hq]; exact Nat.div_le_self m on
    have HQ := Lib.hid hq
    have td : (m : Int).tdiv (on : Int) = (q : Int) := by rw [Int.tdiv_eq_ediv_of_nonneg (by omega), ← hq]; rfl
    obtain ⟨far, hfar⟩ : ∃ far : Nat, F * (q + 1) = far := ⟨_, rfl⟩
    have hfar1 : far ≤ 256 * (q + 1) := by rw [← hfar]; exact Nat.mul_le_mul_right _ hF2
    have HFAR := Lib.hid hfar
    have hz : (F : Int) * ((q : Int) + 1) = (far : Int) := by rw [← hfar, Int.natCast_mul, Int.natCast_add]; rfl
    have HZ := Lib.hid hz
    clear hz hfar hq
    go_wp2_with fail
    go_quiet ((go_at_call 31; exact Calls.quiet_of (frameT _ base g F M ws (T2.out.drewN _))))
    go_wp2_with fail
    rw [HZ.out, wrap64_in (far : Int) (by omega) (by omega)]
    have T3 := Lib.hid (T2.out.drewN nq)
    have U3 := Lib.hid (U2.out.drewN nq)
    have D1 := Lib.hid (C1.out.drewN nq); have D2 := Lib.hid (C2.out.drewN nq); have D3 := Lib.hid (C3.out.drewN nq); have D4 := Lib.hid (C4.out.drewN nq)
    have y3 : (V2.drewN nq).cell? ⟨bL + 1 + 1, 0, none⟩ = some (.int .i64 f) := x3
    clear x1 x2 x3 x4 td
    generalize V2.drewN nq = V3 at *
    refine wp_region_tree (.q 0 (.q 1 (.q 2 (.l 3 (.q 4 (.q 5 (.q 6 .d))))))) (fun i => decide (7 ≤ i ∧ i < 7)) (fun w' => True ∧ w'.cell? ⟨bL + 1 + 1, 0, none⟩ = some (.int .i64 f))
      (by kernel_rfl) (by kernel_rfl) (fun t ht => (of_decide_eq_true ht).2) (fun _ _ _ _ _ h => h) (by kernel_rfl) rfl ⟨trivial, y3⟩ ?_
    iterate 3
      refine' wpOT_q (by rfl) (by rfl) (fun w' hS' => ?_) ?_
      rotate_left
      · obtain ⟨s0, s1⟩ := hS'
        go_simp
        try rfl
      try simp only [Act.put, List.setIfInBounds_toArray, List.set_cons_zero, List.set_cons_succ]
    refine wpOT_l (by rfl) (by rfl) (fun KQ hKQ => ?_)
    go_simp
    go_at_call 37
    refine (searchL _ far (by omega) _ _ _ _ (fun i => decide ((m : Int) ≤ cntF M ws p F f i)) ?_ ?_).mono ?_
    · intro i j hij hj hi
      have h1 := of_decide_eq_true hi
      have h2 := cntF_mono (M := M) (ws := ws) (p := p) (F := F) f i (j - i)
      rw [show i + (j - i) = j by omega] at h2
      exact decide_eq_true (Int.le_trans h1 h2)
    · intro i wr hi hU
      exact donec wr base g F M ws ((T3.out.drewN 1).still hU) p f m _ _ _ _ (((D1.out.drewN 1).upd hU (fun h => h)).cell 0) (((D2.out.drewN 1).upd hU (fun h => h)).cell 0) (((D3.out.drewN 1).upd hU (fun h => h)).cell 0) (((D4.out.drewN 1).upd hU (fun h => h)).cell 0) i (by omega)
    · rintro e w5 ⟨k, hk, rfl, hk1, hk2, hU⟩
      have U5 := Lib.hid ((U3.out.drewN 1).trans hU)
      have y5 : w5.cell? ⟨bL + 1 + 1, 0, none⟩ = some (.int .i64 f) := ((D3.out.drewN 1).upd hU (fun h => h)).cell 0
      have hD : IsD M ws p F f m k := by
        refine ⟨?_, fun i hi => by have := of_decide_eq_false (hk1 i hi); omega⟩
        rcases Nat.lt_or_ge k far with h | h
        · exact of_decide_eq_true (hk2 k (Nat.le_refl _) h)
        · have hkf : k = (q + 1) * F := by have := HFAR.out; rw [Nat.mul_comm] at this; omega
          have hX := cntF_frames M ws p F (by omega) f (q + 1) 0
          rw [Nat.add_zero, HO.out] at hX
          rw [hkf, hX]
          have hdm : m < on * (q + 1) := by rw [← HQ.out]; exact Nat.lt_mul_div_succ m hon0
          have h0 : cntF M ws p F f 0 = 0 := rfl
          rw [h0]
          have : m ≤ (q + 1) * on := by rw [Nat.mul_comm]; omega
          have h2 : (m : Int) ≤ ((q + 1 : Nat) : Int) * (on : Int) := by exact_mod_cast this
          omega
      have HDN : Hid (doneN M ws p F f m = k) := Lib.hid ((doneN_is (by omega) (by rw [HO.out]; omega) f m).eq hD)
      have hw := wrap_in (f + k) (by omega) (by omega)
      clear hD hU hk1 hk2
      refine hKQ _ _ (.inr ⟨trivial, y5⟩) ?_
      clear hKQ KQ
      try simp only [Act.put, List.setIfInBounds_toArray, List.set_cons_zero, List.set_cons_succ]
      iterate 3
        refine' wpOT_q (by rfl) (by rfl) (fun w' hS' => ?_) ?_
        rotate_left
        · obtain ⟨s0, s1⟩ := hS'
          go_simp
          try rfl
        try simp only [Act.put, List.setIfInBounds_toArray, List.set_cons_zero, List.set_cons_succ]
      refine wpOT_d ?_
      go_wp2_with fail
      go_returns
      exact ⟨by rw [HDN.out]; rfl, U5.out⟩
end Go.Proofs.Ytnfajehocljbnaa
