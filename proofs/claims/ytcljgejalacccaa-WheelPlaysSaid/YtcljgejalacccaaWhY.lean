/-
  WheelPlays. (Written by whl.py.)
-/
import Derived.Test.YtcljgejalacccaaWhX
import Derived.Test.YtcljgejalacccaaWhK
import Derived.Test.YtcljgejalacccaaSeqU
namespace Go.Proofs.Ytcljgejalacccaa
open Go.RowKit
attribute [local go_sem] max_ints min_ints

theorem goLs_len (now : Nat) (at_ : Nat → Int) : (goLs now at_).length ≤ 100000 := by
  unfold goLs
  split
  · exact Nat.zero_le _
  · exact Nat.le_trans (List.length_filter_le _ _) (by simp)

set_option maxRecDepth 100000 in
set_option maxHeartbeats 12800000 in
theorem wheelPlays_main (w : World) (s : Int) (A : Option Addr) (len cap : Nat) (hl : len ≤ 60) (X : Nat → Nat → Int) (hc : Row3 w A len X) :
    Calls Try.prog 3 #[.int .i64 s, .slice A len cap] w fun e w' => e = .returned (.bool true) ∧ Upd (fun _ => False) w w' := by
  have d1 : decide (60 < (len : Int)) = false := decide_eq_false (by omega)
  have HC := Lib.hid hc
  clear hc
  go_enter Try.func3, Try.ntmps3
  go_wp2_with fail
  refine (knowsW w).mono ?_
  rintro e w1 ⟨rfl, hU1⟩
  have U1 := Lib.hid hU1
  clear hU1
  go_wp2_with fail
  refine (newC w1 s).mono ?_
  rintro e w2 ⟨rfl, hS2, hU2⟩
  have S2 := Lib.hid hS2
  have U2 := Lib.hid (U1.out.trans hU2)
  have hB0 : w.heap.size ≤ w1.heap.size := U1.out.size
  generalize w1.heap.size = B0 at *
  have HB := Lib.hid hB0
  clear hS2 hU2 hB0 U1
  go_wp2_with fail
  refine (rNewC w2 s).mono ?_
  rintro e w3 ⟨rfl, ⟨rb, o, cp, hR3, hrb⟩, hU3⟩
  obtain ⟨n0, hn0⟩ : ∃ n0, (min (max s 0) 4611686018427387904).toNat = n0 := ⟨_, rfl⟩
  rw [hn0] at hR3 S2
  have U3 : Hid (Upd (fun _ => False) w w3) := Lib.hid (U2.out.trans hU3)
  have S3 : Hid (WhS w3 B0 n0 (fun _ => -1) (fun k => k < B0 ∨ k = w2.heap.size ∨ k = rb)) := Lib.hid (S2.out.more hU3 (fun k h1 h2 => by omega))
  have R3 := Lib.hid hR3
  have HRB : Hid (w.heap.size ≤ rb) := Lib.hid (by have := U2.out.size; omega)
  have HR : Hid (w.heap.size ≤ w2.heap.size) := Lib.hid U2.out.size
  generalize w2.heap.size = r at *
  clear hR3 hU3 hn0 S2 U2 hrb
  go_wp2_with fail
  go_loopw [7] (fun v7 wr => ∃ (i now : Nat) (at_ : Nat → Int), i ≤ len ∧ v7 = .int .i64 i ∧ WhS wr B0 now at_ (fun k => k < B0 ∨ k = r ∨ k = rb) ∧ RWh wr r rb o cp now at_ ∧ Upd (fun _ => False) w wr) (fun v7 _ => len - (intOf v7).toNat)
  case atStart => exact ⟨0, _, _, Nat.zero_le _, rfl, S3.out, R3.out, U3.out⟩
  case round =>
    obtain ⟨i, now, at_, hi, rfl, hS, hR, hU⟩ := hrel
    have S4 := Lib.hid hS; have R4 := Lib.hid hR; have U4 := Lib.hid hU
    by_cases hlt : i < len
    · obtain ⟨b, oa, rfl, hb, g0, g1, g2⟩ := HC.out i hlt
      obtain ⟨x0, hx0⟩ : ∃ q, X i 0 = q := ⟨_, rfl⟩
      obtain ⟨x1, hx1⟩ : ∃ q, X i 1 = q := ⟨_, rfl⟩
      obtain ⟨x2, hx2⟩ : ∃ q, X i 2 = q := ⟨_, rfl⟩
      rw [hx0] at g0; rw [hx1] at g1; rw [hx2] at g2
      have c0 : wr.cell? ⟨b, oa + i * 3, none⟩ = some (.int .i64 x0) := (hU.cell (p := ⟨b, oa + i * 3, none⟩) hb (fun h => h)).trans g0
      have c1 : wr.cell? ⟨b, oa + i * 3 + 1, none⟩ = some (.int .i64 x1) := (hU.cell (p := ⟨b, oa + i * 3 + 1, none⟩) hb (fun h => h)).trans g1
      have c2 : wr.cell? ⟨b, oa + i * 3 + 2, none⟩ = some (.int .i64 x2) := (hU.cell (p := ⟨b, oa + i * 3 + 2, none⟩) hb (fun h => h)).trans g2
      obtain ⟨wa, hwa⟩ : ∃ wa, wr.alloc (.cells #[.int .i64 x0, .int .i64 x1, .int .i64 x2] 29) = wa := ⟨_, rfl⟩
      have ua : Upd (fun _ => False) wr wa := by rw [← hwa]; exact (Upd.refl _ wr).alloc _
      obtain ⟨ga, hga⟩ : ∃ ga, wr.heap.size = ga := ⟨_, rfl⟩
      have BA : Hid (Blk wa ga 29 #[.int .i64 x0, .int .i64 x1, .int .i64 x2]) := Lib.hid (by rw [← hwa, ← hga]; exact Blk.new wr _ _)
      have UA : Hid (Upd (fun _ => False) w wa) := Lib.hid (hU.trans ua)
      have SA : Hid (WhS wa B0 now at_ (fun k => (k < B0 ∨ k = r ∨ k = rb) ∨ k = ga)) := Lib.hid (hS.more ua (fun k h1 h2 => h1.resolve_right (by omega)))
      have RA : Hid (RWh wa r rb o cp now at_) := Lib.hid (hR.still ua)
      have HGA : Hid (ga ≠ r ∧ ga ≠ rb) := Lib.hid (by have := hR.b.lt; have := hR.a.lt; omega)
      have HWA := Lib.hid hwa
      have HN : Hid (∀ k, (k < B0 ∨ k = r ∨ k = rb) ∨ k = ga → k < wa.heap.size) := Lib.hid (by
        have h1 := hR.b.lt; have h2 := hR.a.lt
        have h3 : B0 < wr.heap.size := by obtain ⟨V, sl, n, h1, _⟩ := hS; exact h1.b.lt
        have h4 : ga < wa.heap.size := BA.out.lt
        intro k hk
        omega)
      clear hS hR hU hwa ua g0 g1 g2 hx0 hx1 hx2 hb
      by_cases hk : x0 = 0 ∨ x0 = 1
      · rcases hk with rfl | rfl
        all_goals
          have a0 : wa.cell? ⟨ga, 0, none⟩ = some (.int .i64 _) := BA.out.cell 0
          have a1 : wa.cell? ⟨ga, 1, none⟩ = some (.int .i64 x1) := BA.out.cell 1
          have a2 : wa.cell? ⟨ga, 2, none⟩ = some (.int .i64 x2) := BA.out.cell 2
          have r0 : wa.cell? ⟨r, 0, none⟩ = some (.int .i64 (now : Int)) := RA.out.b.cell 0
          have hnow : now ≤ 4611686018427387904 := SA.out.ok.2
          go_upto_region 12 with fail
          rw [HWA.out]
          try rw [hga]

          go_quiet (fail)
          obtain ⟨t, ht⟩ : ∃ t, (now : Int) + min (max x2 0) 2305843009213693952 = t := ⟨_, rfl⟩
          have Bb := Lib.hid (BA.out.drewN nq)
          have Sb := Lib.hid (SA.out.drewN nq)
          have Rb := Lib.hid (RA.out.drewN nq)
          have Ub := Lib.hid (UA.out.drewN nq)
          have HNb : Hid (∀ k, (k < B0 ∨ k = r ∨ k = rb) ∨ k = ga → k < ((wa.drewN nq).drewN 1).heap.size) := Lib.hid (fun k hk => HN.out k hk)
          rw [ht]
          clear ht a0 a1 a2 r0
          generalize wa.drewN nq = wb at *
          go_upto_region 13 with fail
          refine wp_region_tree (.q 0 (.q 1 (.q 2 (.q 3 (.q 6 (.q 7 (.q 8 (.q 9 (.l 4 (.l 5 (.l 10 (.q 11 .d)))))))))))) (fun i => decide (12 ≤ i ∧ i < 12)) (fun w' => w'.cell? ⟨ga, 1, none⟩ = some (.int .i64 x1) ∧ w'.cell? ⟨ga, 2, none⟩ = some (.int .i64 x2))
            (by kernel_rfl) (by kernel_rfl) (fun t ht => (of_decide_eq_true ht).2) (fun _ _ _ _ _ h => h) (by kernel_rfl) rfl ⟨(Bb.out.drew).cell 1, (Bb.out.drew).cell 2⟩ ?_
          iterate 8
            (refine' wpOT_q (by rfl) (by rfl) (fun w' hS' => ?_) ?_
             rotate_left
             · obtain ⟨s1, s2⟩ := hS'
               go_simp
               try rfl)
            try simp only [Act.put, List.setIfInBounds_toArray, List.set_cons_zero, List.set_cons_succ]
          refine wpOT_l (by rfl) (by rfl) (fun KQ hKQ => ?_)
          go_simp
          go_at_call 11
          refine (setC _ B0 now at_ _ (Sb.out.drewN 1) HNb.out x1 t).mono ?_
          rintro e w5 ⟨rfl, hS5, hU5⟩
          have B5 := Lib.hid ((Bb.out.drewN 1).upd hU5 (fun h => h (.inr rfl)))
          have S5 := Lib.hid hS5
          have R5 := Lib.hid ((Rb.out.drewN 1).upd hU5 (fun h => h (.inl (.inr (.inl rfl)))) (fun h => h (.inl (.inr (.inr rfl)))))
          have U5 : Hid (Upd (fun _ => False) w w5) := Lib.hid ((((Ub.out.drewN 1).mono (fun _ _ h => h.elim)).trans hU5).mono (fun k h1 h2 => h2 (.inl (.inl (Nat.lt_of_lt_of_le h1 HB.out)))))
          clear hS5 hU5
          refine hKQ _ _ (.inr ⟨B5.out.cell 1, B5.out.cell 2⟩) ?_
          clear hKQ KQ
          try simp only [Act.put, List.setIfInBounds_toArray, List.set_cons_zero, List.set_cons_succ]
          refine wpOT_l (by rfl) (by rfl) (fun KQ hKQ => ?_)
          go_simp
          go_at_call 10
          refine (numW _ _).mono ?_
          rintro e w6 ⟨rfl, k6, rfl⟩
          have B6 := Lib.hid (B5.out.drewN k6)
          have S6 := Lib.hid (S5.out.drewN k6)
          have R6 := Lib.hid (R5.out.drewN k6)
          have U6 := Lib.hid (U5.out.drewN k6)
          clear B5 S5 R5 U5
          generalize w5.drewN k6 = w6 at *
          refine hKQ _ _ (.inr ⟨B6.out.cell 1, B6.out.cell 2⟩) ?_
          clear hKQ KQ
          try simp only [Act.put, List.setIfInBounds_toArray, List.set_cons_zero, List.set_cons_succ]
          refine wpOT_l (by rfl) (by rfl) (fun KQ hKQ => ?_)
          go_simp
          go_at_call 12
          refine (rSetC _ r rb o cp now at_ R6.out x1 t).mono ?_
          rintro e wz ⟨rfl, hR7, hU7⟩
          have Bz := Lib.hid (B6.out.upd hU7 HGA.out.2)
          have Sz := Lib.hid (S6.out.upd hU7 (fun k e _ => .inl (.inr (.inr e))))
          have Rz := Lib.hid hR7
          have Uz : Hid (Upd (fun _ => False) w wz) := Lib.hid (((U6.out.mono (fun _ _ h => h.elim)).trans hU7).mono (fun k h1 h2 => by have := HRB.out; omega))
          clear hR7 hU7 B6 S6 R6 U6
          refine hKQ _ _ (.inr ⟨Bz.out.cell 1, Bz.out.cell 2⟩) ?_
          clear hKQ KQ
          try simp only [Act.put, List.setIfInBounds_toArray, List.set_cons_zero, List.set_cons_succ]
          iterate 1
            (refine' wpOT_q (by rfl) (by rfl) (fun w' hS' => ?_) ?_
             rotate_left
             · obtain ⟨s1, s2⟩ := hS'
               go_simp
               try rfl)
            try simp only [Act.put, List.setIfInBounds_toArray, List.set_cons_zero, List.set_cons_succ]
          refine wpOT_d ?_
          obtain ⟨nz, hnz⟩ : ∃ nz, now = nz := ⟨_, rfl⟩
          obtain ⟨az, haz⟩ : ∃ az, setA now at_ x1 t = az := ⟨_, rfl⟩
          rw [haz, hnz] at Sz Rz
          clear haz hnz
          have HOK := Lib.hid Sz.out.ok
          have k1 : wz.cell? ⟨ga, 1, none⟩ = some (.int .i64 x1) := Bz.out.cell 1
          have HW1 := Lib.hid (whenS wz B0 nz az _ Sz.out x1)
          have HW2 := Lib.hid (fun k => rWhenC (wz.drewN k) r rb o cp nz az (Rz.out.drewN k) HOK.out.1 x1)
          obtain ⟨⟨p1, p2⟩, hp⟩ : ∃ p, whenE az x1 = p := ⟨_, rfl⟩
          rw [hp] at HW1 HW2
          clear hp
          go_wp2_with fail
          refine HW1.out.mono ?_
          rintro e w8 ⟨he, k8, rfl⟩
          have he' : e = .returned (.tuple #[.int .i64 p1, .bool p2]) := he
          clear he
          subst he'
          have k1 : (wz.drewN k8).cell? ⟨ga, 1, none⟩ = some (.int .i64 x1) := Bz.out.cell 1
          go_wp2_with fail
          refine (HW2.out k8).mono ?_
          rintro e w9 ⟨he, k9, rfl⟩
          have he' : e = .returned (.tuple #[.int .i64 p1, .bool p2]) := he
          clear he
          subst he'
          have e9 : (wz.drewN k8).drewN k9 = wz.drewN (k8 + k9) := World.drewN_drewN _ _ _
          rw [e9]
          clear k1 e9
          have S9 := Lib.hid (Sz.out.drewN (k8 + k9))
          have R9 := Lib.hid (Rz.out.drewN (k8 + k9))
          have U9 := Lib.hid (Uz.out.drewN (k8 + k9))
          generalize wz.drewN (k8 + k9) = w10 at *
          have r1 : w10.cell? ⟨r, 0, none⟩ = some (.int .i64 (nz : Int)) := R9.out.b.cell 0
          go_wp2_with fail
          go_quiet (first
            | (go_at_call 20; exact Calls.quiet_of (nowS _ B0 nz az _ (S9.out.drewN _)))
            | (go_at_call 21; exact Calls.quiet_of (lenS _ B0 nz az _ (S9.out.drewN _)))
            | (go_at_call 22; exact Calls.quiet_of (rLenC _ r rb o cp nz az (R9.out.drewN _) HOK.out.1)))
          go_wp2_with fail
          go_roundw
          case rel => exact ⟨i + 1, nz, az, by omega, by go_num, (S9.out.less (fun k h => .inl h)).drewN _, R9.out.drewN _, U9.out.drewN _⟩
          case measure => simp [intOf]; omega
      · by_cases hk2 : x0 = 2
        · subst hk2
          go_upto_region 16 with fail
          rw [HWA.out]
          try rw [hga]

          have Bb := BA; have Sb := SA; have Rb := RA; have Ub := UA
          have HNb : Hid (∀ k, (k < B0 ∨ k = r ∨ k = rb) ∨ k = ga → k < (wa.drewN 1).heap.size) := Lib.hid (fun k hk => HN.out k hk)
          generalize wa = wb at *
          refine wp_region_tree (.q 0 (.q 1 (.q 2 (.q 3 (.q 4 (.q 7 (.q 8 (.q 9 (.q 10 (.q 11 (.l 5 (.l 6 (.l 12 (.q 13 .d)))))))))))))) (fun i => decide (14 ≤ i ∧ i < 14)) (fun w' => w'.cell? ⟨ga, 1, none⟩ = some (.int .i64 x1) ∧ w'.cell? ⟨ga, 2, none⟩ = some (.int .i64 x2))
            (by kernel_rfl) (by kernel_rfl) (fun t ht => (of_decide_eq_true ht).2) (fun _ _ _ _ _ h => h) (by kernel_rfl) rfl ⟨(Bb.out.drew).cell 1, (Bb.out.drew).cell 2⟩ ?_
          iterate 10
            (refine' wpOT_q (by rfl) (by rfl) (fun w' hS' => ?_) ?_
             rotate_left
             · obtain ⟨s1, s2⟩ := hS'
               go_simp
               try rfl)
            try simp only [Act.put, List.setIfInBounds_toArray, List.set_cons_zero, List.set_cons_succ]
          refine wpOT_l (by rfl) (by rfl) (fun KQ hKQ => ?_)
          go_simp
          go_at_call 11
          refine (setC _ B0 now at_ _ (Sb.out.drewN 1) HNb.out x1 x2).mono ?_
          rintro e w5 ⟨rfl, hS5, hU5⟩
          have B5 := Lib.hid ((Bb.out.drewN 1).upd hU5 (fun h => h (.inr rfl)))
          have S5 := Lib.hid hS5
          have R5 := Lib.hid ((Rb.out.drewN 1).upd hU5 (fun h => h (.inl (.inr (.inl rfl)))) (fun h => h (.inl (.inr (.inr rfl)))))
          have U5 : Hid (Upd (fun _ => False) w w5) := Lib.hid ((((Ub.out.drewN 1).mono (fun _ _ h => h.elim)).trans hU5).mono (fun k h1 h2 => h2 (.inl (.inl (Nat.lt_of_lt_of_le h1 HB.out)))))
          clear hS5 hU5
          refine hKQ _ _ (.inr ⟨B5.out.cell 1, B5.out.cell 2⟩) ?_
          clear hKQ KQ
          try simp only [Act.put, List.setIfInBounds_toArray, List.set_cons_zero, List.set_cons_succ]
          refine wpOT_l (by rfl) (by rfl) (fun KQ hKQ => ?_)
          go_simp
          go_at_call 10
          refine (numW _ _).mono ?_
          rintro e w6 ⟨rfl, k6, rfl⟩
          have B6 := Lib.hid (B5.out.drewN k6)
          have S6 := Lib.hid (S5.out.drewN k6)
          have R6 := Lib.hid (R5.out.drewN k6)
          have U6 := Lib.hid (U5.out.drewN k6)
          clear B5 S5 R5 U5
          generalize w5.drewN k6 = w6 at *
          refine hKQ _ _ (.inr ⟨B6.out.cell 1, B6.out.cell 2⟩) ?_
          clear hKQ KQ
          try simp only [Act.put, List.setIfInBounds_toArray, List.set_cons_zero, List.set_cons_succ]
          refine wpOT_l (by rfl) (by rfl) (fun KQ hKQ => ?_)
          go_simp
          go_at_call 12
          refine (rSetC _ r rb o cp now at_ R6.out x1 x2).mono ?_
          rintro e wz ⟨rfl, hR7, hU7⟩
          have Bz := Lib.hid (B6.out.upd hU7 HGA.out.2)
          have Sz := Lib.hid (S6.out.upd hU7 (fun k e _ => .inl (.inr (.inr e))))
          have Rz := Lib.hid hR7
          have Uz : Hid (Upd (fun _ => False) w wz) := Lib.hid (((U6.out.mono (fun _ _ h => h.elim)).trans hU7).mono (fun k h1 h2 => by have := HRB.out; omega))
          clear hR7 hU7 B6 S6 R6 U6
          refine hKQ _ _ (.inr ⟨Bz.out.cell 1, Bz.out.cell 2⟩) ?_
          clear hKQ KQ
          try simp only [Act.put, List.setIfInBounds_toArray, List.set_cons_zero, List.set_cons_succ]
          iterate 1
            (refine' wpOT_q (by rfl) (by rfl) (fun w' hS' => ?_) ?_
             rotate_left
             · obtain ⟨s1, s2⟩ := hS'
               go_simp
               try rfl)
            try simp only [Act.put, List.setIfInBounds_toArray, List.set_cons_zero, List.set_cons_succ]
          refine wpOT_d ?_
          obtain ⟨nz, hnz⟩ : ∃ nz, now = nz := ⟨_, rfl⟩
          obtain ⟨az, haz⟩ : ∃ az, setA now at_ x1 x2 = az := ⟨_, rfl⟩
          rw [haz, hnz] at Sz Rz
          clear haz hnz
          have HOK := Lib.hid Sz.out.ok
          have k1 : wz.cell? ⟨ga, 1, none⟩ = some (.int .i64 x1) := Bz.out.cell 1
          have HW1 := Lib.hid (whenS wz B0 nz az _ Sz.out x1)
          have HW2 := Lib.hid (fun k => rWhenC (wz.drewN k) r rb o cp nz az (Rz.out.drewN k) HOK.out.1 x1)
          obtain ⟨⟨p1, p2⟩, hp⟩ : ∃ p, whenE az x1 = p := ⟨_, rfl⟩
          rw [hp] at HW1 HW2
          clear hp
          go_wp2_with fail
          refine HW1.out.mono ?_
          rintro e w8 ⟨he, k8, rfl⟩
          have he' : e = .returned (.tuple #[.int .i64 p1, .bool p2]) := he
          clear he
          subst he'
          have k1 : (wz.drewN k8).cell? ⟨ga, 1, none⟩ = some (.int .i64 x1) := Bz.out.cell 1
          go_wp2_with fail
          refine (HW2.out k8).mono ?_
          rintro e w9 ⟨he, k9, rfl⟩
          have he' : e = .returned (.tuple #[.int .i64 p1, .bool p2]) := he
          clear he
          subst he'
          have e9 : (wz.drewN k8).drewN k9 = wz.drewN (k8 + k9) := World.drewN_drewN _ _ _
          rw [e9]
          clear k1 e9
          have S9 := Lib.hid (Sz.out.drewN (k8 + k9))
          have R9 := Lib.hid (Rz.out.drewN (k8 + k9))
          have U9 := Lib.hid (Uz.out.drewN (k8 + k9))
          generalize wz.drewN (k8 + k9) = w10 at *
          have r1 : w10.cell? ⟨r, 0, none⟩ = some (.int .i64 (nz : Int)) := R9.out.b.cell 0
          go_wp2_with fail
          go_quiet (first
            | (go_at_call 20; exact Calls.quiet_of (nowS _ B0 nz az _ (S9.out.drewN _)))
            | (go_at_call 21; exact Calls.quiet_of (lenS _ B0 nz az _ (S9.out.drewN _)))
            | (go_at_call 22; exact Calls.quiet_of (rLenC _ r rb o cp nz az (R9.out.drewN _) HOK.out.1)))
          go_wp2_with fail
          go_roundw
          case rel => exact ⟨i + 1, nz, az, by omega, by go_num, (S9.out.less (fun k h => .inl h)).drewN _, R9.out.drewN _, U9.out.drewN _⟩
          case measure => simp [intOf]; omega
        · by_cases hk3 : x0 = 3
          · subst hk3
            go_upto_region 19 with fail
            rw [HWA.out]
            try rw [hga]

            refine wp_region_tree (.q 0 (.q 1 (.q 2 (.q 4 (.q 5 (.q 6 (.l 3 (.l 7 (.q 8 .d))))))))) (fun i => decide (9 ≤ i ∧ i < 9)) (fun w' => w'.cell? ⟨ga, 1, none⟩ = some (.int .i64 x1) ∧ w'.cell? ⟨ga, 2, none⟩ = some (.int .i64 x2))
              (by kernel_rfl) (by kernel_rfl) (fun t ht => (of_decide_eq_true ht).2) (fun _ _ _ _ _ h => h) (by kernel_rfl) rfl ⟨(BA.out.drew).cell 1, (BA.out.drew).cell 2⟩ ?_
            iterate 6
              (refine' wpOT_q (by rfl) (by rfl) (fun w' hS' => ?_) ?_
               rotate_left
               · obtain ⟨s1, s2⟩ := hS'
                 go_simp
                 try rfl)
              try simp only [Act.put, List.setIfInBounds_toArray, List.set_cons_zero, List.set_cons_succ]
            refine wpOT_l (by rfl) (by rfl) (fun KQ hKQ => ?_)
            go_simp
            go_at_call 13
            refine (cancelC _ B0 now at_ _ (SA.out.drewN 1) (fun k hk => HN.out k hk) x1).mono ?_
            rintro e w5 ⟨rfl, hS5, hU5⟩
            have B5 := Lib.hid ((BA.out.drewN 1).upd hU5 (fun h => h (.inr rfl)))
            have S5 := Lib.hid hS5
            have R5 := Lib.hid ((RA.out.drewN 1).upd hU5 (fun h => h (.inl (.inr (.inl rfl)))) (fun h => h (.inl (.inr (.inr rfl)))))
            have U5 : Hid (Upd (fun _ => False) w w5) := Lib.hid ((((UA.out.drewN 1).mono (fun _ _ h => h.elim)).trans hU5).mono (fun k h1 h2 => h2 (.inl (.inl (Nat.lt_of_lt_of_le h1 HB.out)))))
            clear hS5 hU5
            refine hKQ _ _ (.inr ⟨B5.out.cell 1, B5.out.cell 2⟩) ?_
            clear hKQ KQ
            try simp only [Act.put, List.setIfInBounds_toArray, List.set_cons_zero, List.set_cons_succ]
            refine wpOT_l (by rfl) (by rfl) (fun KQ hKQ => ?_)
            go_simp
            go_at_call 14
            refine (rCancelC _ r rb o cp now at_ R5.out SA.out.ok.1 x1).mono ?_
            rintro e wz ⟨rfl, hR7, hU7⟩
            have Bz := Lib.hid (B5.out.upd hU7 HGA.out.2)
            have Sz := Lib.hid (S5.out.upd hU7 (fun k e _ => .inl (.inr (.inr e))))
            have Rz := Lib.hid hR7
            have Uz : Hid (Upd (fun _ => False) w wz) := Lib.hid (((U5.out.mono (fun _ _ h => h.elim)).trans hU7).mono (fun k h1 h2 => by have := HRB.out; omega))
            clear hR7 hU7 B5 S5 R5 U5
            refine hKQ _ _ (.inr ⟨Bz.out.cell 1, Bz.out.cell 2⟩) ?_
            clear hKQ KQ
            try simp only [Act.put, List.setIfInBounds_toArray, List.set_cons_zero, List.set_cons_succ]
            iterate 1
              (refine' wpOT_q (by rfl) (by rfl) (fun w' hS' => ?_) ?_
               rotate_left
               · obtain ⟨s1, s2⟩ := hS'
                 go_simp
                 try rfl)
              try simp only [Act.put, List.setIfInBounds_toArray, List.set_cons_zero, List.set_cons_succ]
            refine wpOT_d ?_
            obtain ⟨nz, hnz⟩ : ∃ nz, now = nz := ⟨_, rfl⟩
            obtain ⟨az, haz⟩ : ∃ az, (if (whenE at_ x1).2 = true then fput at_ x1.toNat (-1) else at_) = az := ⟨_, rfl⟩
            rw [haz, hnz] at Sz Rz
            clear haz hnz
            have HOK := Lib.hid Sz.out.ok
            have k1 : wz.cell? ⟨ga, 1, none⟩ = some (.int .i64 x1) := Bz.out.cell 1
            have HW1 := Lib.hid (whenS wz B0 nz az _ Sz.out x1)
            have HW2 := Lib.hid (fun k => rWhenC (wz.drewN k) r rb o cp nz az (Rz.out.drewN k) HOK.out.1 x1)
            obtain ⟨⟨p1, p2⟩, hp⟩ : ∃ p, whenE az x1 = p := ⟨_, rfl⟩
            rw [hp] at HW1 HW2
            clear hp
            go_wp2_with fail
            refine HW1.out.mono ?_
            rintro e w8 ⟨he, k8, rfl⟩
            have he' : e = .returned (.tuple #[.int .i64 p1, .bool p2]) := he
            clear he
            subst he'
            have k1 : (wz.drewN k8).cell? ⟨ga, 1, none⟩ = some (.int .i64 x1) := Bz.out.cell 1
            go_wp2_with fail
            refine (HW2.out k8).mono ?_
            rintro e w9 ⟨he, k9, rfl⟩
            have he' : e = .returned (.tuple #[.int .i64 p1, .bool p2]) := he
            clear he
            subst he'
            have e9 : (wz.drewN k8).drewN k9 = wz.drewN (k8 + k9) := World.drewN_drewN _ _ _
            rw [e9]
            clear k1 e9
            have S9 := Lib.hid (Sz.out.drewN (k8 + k9))
            have R9 := Lib.hid (Rz.out.drewN (k8 + k9))
            have U9 := Lib.hid (Uz.out.drewN (k8 + k9))
            generalize wz.drewN (k8 + k9) = w10 at *
            have r1 : w10.cell? ⟨r, 0, none⟩ = some (.int .i64 (nz : Int)) := R9.out.b.cell 0
            go_wp2_with fail
            go_quiet (first
              | (go_at_call 20; exact Calls.quiet_of (nowS _ B0 nz az _ (S9.out.drewN _)))
              | (go_at_call 21; exact Calls.quiet_of (lenS _ B0 nz az _ (S9.out.drewN _)))
              | (go_at_call 22; exact Calls.quiet_of (rLenC _ r rb o cp nz az (R9.out.drewN _) HOK.out.1)))
            go_wp2_with fail
            go_roundw
            case rel => exact ⟨i + 1, nz, az, by omega, by go_num, (S9.out.less (fun k h => .inl h)).drewN _, R9.out.drewN _, U9.out.drewN _⟩
            case measure => simp [intOf]; omega
          · by_cases hk4 : x0 = 4 ∨ x0 = 5
            · rcases hk4 with rfl | rfl
              all_goals
              have a0 : wa.cell? ⟨ga, 0, none⟩ = some (.int .i64 _) := BA.out.cell 0
              go_upto_region 23 with fail
              rw [HWA.out]
              try rw [hga]

              clear a0
              go_wp2_with fail
              go_loopw [10] (fun v10 wy => ∃ (k nz : Nat) (az : Nat → Int), (k : Int) ≤ max x2 0 ∧ k ≤ 600 ∧ v10 = .int .i64 k ∧ WhS wy B0 nz az (fun k => (k < B0 ∨ k = r ∨ k = rb) ∨ k = ga) ∧ RWh wy r rb o cp nz az ∧ Blk wy ga 29 #[.int .i64 _, .int .i64 x1, .int .i64 x2] ∧ Upd (fun _ => False) w wy ∧ (∀ k, (k < B0 ∨ k = r ∨ k = rb) ∨ k = ga → k < wy.heap.size)) (fun v10 _ => 600 - (intOf v10).toNat)
              case atStart => exact ⟨0, _, _, by omega, by omega, rfl, SA.out, RA.out, BA.out, UA.out, HN.out⟩
              case round =>
                obtain ⟨k, nz, az, hk1, hk2, rfl, hS, hR, hB, hU, hN⟩ := hrel
                have Sz := Lib.hid hS; have Rz := Lib.hid hR; have Bz := Lib.hid hB; have Uz := Lib.hid hU; have HNz := Lib.hid hN
                have b2 := hB.cell 2
                clear hS hR hB hU hN
                by_cases hq : (k : Int) < x2 ∧ k < 600
                · have q1 : decide ((k : Int) < x2) = true := decide_eq_true hq.1
                  have q2 : decide ((k : Int) < 600) = true := decide_eq_true (by omega)
                  have HGo := Lib.hid (goC _ B0 nz az _ Sz.out HNz.out)
                  go_wp2_with fail
                  refine HGo.out.mono ?_
                  rintro e w5 ⟨v, rfl, hv, hS5, hU5⟩
                  have V5 : Hid (SlR encN w5 0 3 1 v (goLs nz az)) := Lib.hid (hv.mono (Nat.zero_le _))
                  have HV : Hid (∀ q, slBlk v = some q → q ≠ r ∧ q ≠ rb) := Lib.hid (fun q hq' => by
                    have h1 := (Sl.blk hv q hq').1
                    have h2 := HNz.out r (.inl (.inr (.inl rfl)))
                    have h3 := HNz.out rb (.inl (.inr (.inr rfl)))
                    omega)
                  have B5 := Lib.hid (Bz.out.upd hU5 (fun h => h (.inr rfl)))
                  have S5 := Lib.hid (hS5.less (N' := (fun k => (k < B0 ∨ k = r ∨ k = rb) ∨ k = ga)) (fun q hq' => .inl hq'))
                  have R5 := Lib.hid (Rz.out.upd hU5 (fun h => h (.inl (.inr (.inl rfl)))) (fun h => h (.inl (.inr (.inr rfl)))))
                  have N5 : Hid (∀ q, (q < B0 ∨ q = r ∨ q = rb) ∨ q = ga → q < w5.heap.size) := Lib.hid (fun q hq' => Nat.lt_of_lt_of_le (HNz.out q hq') hU5.size)
                  have U5 : Hid (Upd (fun _ => False) w w5) := Lib.hid (((Uz.out.mono (fun _ _ h => h.elim)).trans hU5).mono (fun k h1 h2 => h2 (.inl (.inl (Nat.lt_of_lt_of_le h1 HB.out)))))
                  clear hv hS5 hU5 b2
                  go_wp2_with fail
                  refine (rGoC w5 r rb o cp nz az R5.out Sz.out.ok.2).mono ?_
                  rintro e w6 ⟨v2, rfl, hv2, hR6, hU6⟩
                  have V6 := Lib.hid (V5.out.upd hU6 (fun q hq' h => by have := HV.out q hq'; omega))
                  have W6 := Lib.hid hv2
                  have B6 := Lib.hid (B5.out.upd hU6 (fun h => by have := HGA.out; omega))
                  have S6 := Lib.hid (S5.out.upd hU6 (fun q e _ => .inl (.inr e)))
                  have R6 := Lib.hid hR6
                  have N6 : Hid (∀ q, (q < B0 ∨ q = r ∨ q = rb) ∨ q = ga → q < w6.heap.size) := Lib.hid (fun q hq' => Nat.lt_of_lt_of_le (N5.out q hq') hU6.size)
                  have U6 : Hid (Upd (fun _ => False) w w6) := Lib.hid (((U5.out.mono (fun _ _ h => h.elim)).trans hU6).mono (fun q h1 h2 => by have := HRB.out; have := HR.out; omega))
                  clear hv2 hR6 hU6
                  go_wp2_with fail
                  refine (intsEq w6 _ _ v v2 _ V6.out W6.out (goLs_len nz az)).mono ?_
                  rintro e w7 ⟨rfl, k7, rfl⟩
                  go_wp2_with fail
                  go_roundw
                  case rel => exact ⟨k + 1, _, _, by omega, by omega, by go_num, S6.out.drewN k7, R6.out.drewN k7, B6.out.drewN k7, U6.out.drewN k7, fun q hq' => N6.out q hq'⟩
                  case measure => simp [intOf]; omega
                · obtain ⟨q1, hq1⟩ : ∃ q1, decide ((k : Int) < x2) = q1 := ⟨_, rfl⟩
                  have q2 : q1 = true → decide ((k : Int) < 600) = false := fun h => decide_eq_false (fun h2 => hq ⟨of_decide_eq_true (hq1.trans h), by omega⟩)
                  cases q1
                  all_goals
                    try have q3 := q2 rfl
                    clear q2 hq
                    go_upto_region 28 with fail
                    clear b2 hq1 hk1 hk2
                    try clear q3
                    have HOK := Lib.hid Sz.out.ok
                    have k1 : wr.cell? ⟨ga, 1, none⟩ = some (.int .i64 x1) := Bz.out.cell 1
                    have HW1 := Lib.hid (whenS wr B0 nz az _ Sz.out x1)
                    have HW2 := Lib.hid (fun k => rWhenC (wr.drewN k) r rb o cp nz az (Rz.out.drewN k) HOK.out.1 x1)
                    obtain ⟨⟨p1, p2⟩, hp⟩ : ∃ p, whenE az x1 = p := ⟨_, rfl⟩
                    rw [hp] at HW1 HW2
                    clear hp
                    go_wp2_with fail
                    refine HW1.out.mono ?_
                    rintro e w8 ⟨he, k8, rfl⟩
                    have he' : e = .returned (.tuple #[.int .i64 p1, .bool p2]) := he
                    clear he
                    subst he'
                    have k1 : (wr.drewN k8).cell? ⟨ga, 1, none⟩ = some (.int .i64 x1) := Bz.out.cell 1
                    go_wp2_with fail
                    refine (HW2.out k8).mono ?_
                    rintro e w9 ⟨he, k9, rfl⟩
                    have he' : e = .returned (.tuple #[.int .i64 p1, .bool p2]) := he
                    clear he
                    subst he'
                    have e9 : (wr.drewN k8).drewN k9 = wr.drewN (k8 + k9) := World.drewN_drewN _ _ _
                    rw [e9]
                    clear k1 e9
                    have S9 := Lib.hid (Sz.out.drewN (k8 + k9))
                    have R9 := Lib.hid (Rz.out.drewN (k8 + k9))
                    have U9 := Lib.hid (Uz.out.drewN (k8 + k9))
                    generalize wr.drewN (k8 + k9) = w10 at *
                    have r1 : w10.cell? ⟨r, 0, none⟩ = some (.int .i64 (nz : Int)) := R9.out.b.cell 0
                    go_wp2_with fail
                    go_quiet (first
                      | (go_at_call 20; exact Calls.quiet_of (nowS _ B0 nz az _ (S9.out.drewN _)))
                      | (go_at_call 21; exact Calls.quiet_of (lenS _ B0 nz az _ (S9.out.drewN _)))
                      | (go_at_call 22; exact Calls.quiet_of (rLenC _ r rb o cp nz az (R9.out.drewN _) HOK.out.1)))
                    go_wp2_with fail
                    go_roundw
                    case rel => exact ⟨i + 1, nz, az, by omega, by go_num, (S9.out.less (fun k h => .inl h)).drewN _, R9.out.drewN _, U9.out.drewN _⟩
                    case measure => simp [intOf]; omega
            · have t0 : decide (x0 = 0) = false := decide_eq_false (by omega)
              have t1 : decide (x0 = 1) = false := decide_eq_false (by omega)
              have t2 : decide (x0 = 2) = false := decide_eq_false (by omega)
              have t3 : decide (x0 = 3) = false := decide_eq_false (by omega)
              have t4 : decide (x0 = 4) = false := decide_eq_false (by omega)
              have t5 : decide (x0 = 5) = false := decide_eq_false (by omega)
              go_upto_region 28 with fail
              rw [HWA.out]
              try rw [hga]

              obtain ⟨nz, hnz⟩ : ∃ nz, now = nz := ⟨_, rfl⟩
              obtain ⟨az, haz⟩ : ∃ az, at_ = az := ⟨_, rfl⟩
              have Bz := BA; have Sz := SA; have Rz := RA; have Uz := UA
              rw [haz, hnz] at Sz Rz
              clear haz hnz
              generalize wa = wz at *
              have HOK := Lib.hid Sz.out.ok
              have k1 : wz.cell? ⟨ga, 1, none⟩ = some (.int .i64 x1) := Bz.out.cell 1
              have HW1 := Lib.hid (whenS wz B0 nz az _ Sz.out x1)
              have HW2 := Lib.hid (fun k => rWhenC (wz.drewN k) r rb o cp nz az (Rz.out.drewN k) HOK.out.1 x1)
              obtain ⟨⟨p1, p2⟩, hp⟩ : ∃ p, whenE az x1 = p := ⟨_, rfl⟩
              rw [hp] at HW1 HW2
              clear hp
              go_wp2_with fail
              refine HW1.out.mono ?_
              rintro e w8 ⟨he, k8, rfl⟩
              have he' : e = .returned (.tuple #[.int .i64 p1, .bool p2]) := he
              clear he
              subst he'
              have k1 : (wz.drewN k8).cell? ⟨ga, 1, none⟩ = some (.int .i64 x1) := Bz.out.cell 1
              go_wp2_with fail
              refine (HW2.out k8).mono ?_
              rintro e w9 ⟨he, k9, rfl⟩
              have he' : e = .returned (.tuple #[.int .i64 p1, .bool p2]) := he
              clear he
              subst he'
              have e9 : (wz.drewN k8).drewN k9 = wz.drewN (k8 + k9) := World.drewN_drewN _ _ _
              rw [e9]
              clear k1 e9
              have S9 := Lib.hid (Sz.out.drewN (k8 + k9))
              have R9 := Lib.hid (Rz.out.drewN (k8 + k9))
              have U9 := Lib.hid (Uz.out.drewN (k8 + k9))
              generalize wz.drewN (k8 + k9) = w10 at *
              have r1 : w10.cell? ⟨r, 0, none⟩ = some (.int .i64 (nz : Int)) := R9.out.b.cell 0
              go_wp2_with fail
              go_quiet (first
                | (go_at_call 20; exact Calls.quiet_of (nowS _ B0 nz az _ (S9.out.drewN _)))
                | (go_at_call 21; exact Calls.quiet_of (lenS _ B0 nz az _ (S9.out.drewN _)))
                | (go_at_call 22; exact Calls.quiet_of (rLenC _ r rb o cp nz az (R9.out.drewN _) HOK.out.1)))
              go_wp2_with fail
              go_roundw
              case rel => exact ⟨i + 1, nz, az, by omega, by go_num, (S9.out.less (fun k h => .inl h)).drewN _, R9.out.drewN _, U9.out.drewN _⟩
              case measure => simp [intOf]; omega
    · have hie : i = len := by omega
      subst hie
      clear hS hR hU
      go_wp2_with fail
      go_returns
      exact ⟨rfl, U4.out⟩
end Go.Proofs.Ytcljgejalacccaa
