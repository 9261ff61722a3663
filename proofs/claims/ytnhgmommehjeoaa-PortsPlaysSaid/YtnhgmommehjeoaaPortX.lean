/-
  PortsPlays. (Written by portx.py.)
-/
import Derived.Test.YtnhgmommehjeoaaPortW
namespace Go.Proofs.Ytnhgmommehjeoaa
open Go.RowKit
attribute [local go_sem] max_ints min_ints

theorem wpOT_skip2 {P : Program} {l : List Oper} {Q : Exit → Act → World → Prop} {S : World → Prop} {T : Nat → Bool} {i : Nat} {t : OT} {o : Oper} {a : Act} {w : World} (ho : nthO l i = some o) (hw : Region.wanted o (yielded l.toArray a.tmps) = false)
    (h : wpOT P l Q S T t (a.put o.dst undef) w) : wpOT P l Q S T (.q i t) a w := by
  unfold wpOT
  rw [ho]
  exact ⟨undef, .inr ⟨hw, rfl⟩, h⟩
theorem PB.far {w : World} {b g : Nat} {t : TypeId} {cs : Array Value} (hB : Blk w g t cs) (ht : t ≠ 74) : ¬ PB w b g := fun h => by
  obtain ⟨_, cs', hB'⟩ := h
  exact absurd rfl (hB.ne_ hB' ht)

set_option maxRecDepth 100000 in
set_option maxHeartbeats 12800000 in
theorem portsPlays_main (w : World) (A : Option Addr) (len cap : Nat) (hl : len ≤ 20) (X : Nat → Bool × Int × Int × Int) (hc : Rowbiii w A len X) (A2 : Option Addr) (alen acap : Nat) (hal : alen ≤ 200) (Y : Nat → Int × Int × Int × Int × Int) (hc2 : Rowiiiii w A2 alen Y) :
    Calls Try.prog 5 #[.slice A len cap, .slice A2 alen acap] w fun e w' => e = .returned (.bool true) ∧ Upd (fun _ => False) w w' := by
  have HC := Lib.hid hc
  have HC2 := Lib.hid hc2
  have d1 : decide (20 < (len : Int)) = false := decide_eq_false (by omega)
  have d2 : decide (200 < (alen : Int)) = false := decide_eq_false (by omega)
  clear hc hc2
  go_enter Try.func5, Try.ntmps5
  go_wp2_with fail
  refine (knowsO _).mono ?_
  rintro e w1 ⟨rfl, hU⟩
  have U1 := Lib.hid hU
  have HC1 : Hid (Rowbiii w1 A len X) := Lib.hid (fun k hk => by
    obtain ⟨b, o, h1, h2, g0, g1, g2, g3⟩ := HC.out k hk
    exact ⟨b, o, h1, Nat.lt_of_lt_of_le h2 hU.size, (hU.cell (p := ⟨b, o + k * 4 + 0, none⟩) h2 (fun h => h)).trans g0, (hU.cell (p := ⟨b, o + k * 4 + 1, none⟩) h2 (fun h => h)).trans g1, (hU.cell (p := ⟨b, o + k * 4 + 2, none⟩) h2 (fun h => h)).trans g2, (hU.cell (p := ⟨b, o + k * 4 + 3, none⟩) h2 (fun h => h)).trans g3⟩)
  clear hU
  go_wp2_with fail
  refine (ownP _ A len cap hl X HC1.out).mono ?_
  rintro e w2 ⟨P1, rfl, hP1, hS, hU⟩
  have HC3 : Hid (Rowbiii w2 A len X) := Lib.hid (fun k hk => by
    obtain ⟨b, o, h1, h2, g0, g1, g2, g3⟩ := HC1.out k hk
    exact ⟨b, o, h1, Nat.lt_of_lt_of_le h2 hU.size, (hU.cell (p := ⟨b, o + k * 4 + 0, none⟩) h2 (fun h => h)).trans g0, (hU.cell (p := ⟨b, o + k * 4 + 1, none⟩) h2 (fun h => h)).trans g1, (hU.cell (p := ⟨b, o + k * 4 + 2, none⟩) h2 (fun h => h)).trans g2, (hU.cell (p := ⟨b, o + k * 4 + 3, none⟩) h2 (fun h => h)).trans g3⟩)
  have S1 := Lib.hid hS
  have U2 := Lib.hid (U1.out.trans hU)
  have HP1 : Hid (w.heap.size ≤ P1) := Lib.hid (Nat.le_trans U1.out.size hP1)
  clear hS hU hP1 HC1
  go_wp2_with fail
  refine (rNew _ A len cap hl X HC3.out).mono ?_
  rintro e w3 ⟨rfl, hS, hU⟩
  have S1b := S1.out.still hU
  have U3 : Hid (Upd (fun k => w.heap.size ≤ k) w w3) := Lib.hid ((U2.out.trans hU).mono (fun _ _ h => h.elim))
  have hB1 : w.heap.size ≤ w2.heap.size := U2.out.size
  have hB3 : w2.heap.size ≤ w3.heap.size := hU.size
  generalize w2.heap.size = B1 at *
  have HCL : Hid (((chL X len).map PM.new).length = len) := Lib.hid (by rw [List.length_map, chL_len])
  have Q1 := Lib.hid S1b
  have Q2 := Lib.hid hS
  have HBB := Lib.hid hB1
  have HB3 := Lib.hid hB3
  have HOK : Hid (∀ m ∈ (chL X len).map PM.new, OKm 0 m) := Lib.hid (fun m hm => by
    obtain ⟨c, _, rfl⟩ := List.mem_map.1 hm
    exact OKm.new c)
  clear S1b hS hU hB1 hB3 S1 U1 U2 HC3
  go_wp2_with fail
  go_loopw [7] (fun v7 wr => ∃ (i : Nat) (ms : List PM), i ≤ alen ∧ v7 = .int .i64 i ∧ ms.length = len ∧ (∀ m ∈ ms, OKm i m) ∧ PortsS wr P1 B1 P1 ms ∧ RPS wr B1 B1 ms ∧ Upd (fun k => w.heap.size ≤ k) w wr ∧ B1 ≤ wr.heap.size) (fun v7 _ => alen - (intOf v7).toNat)
  case atStart => exact ⟨0, _, by omega, rfl, HCL.out, HOK.out, Q1.out, Q2.out, U3.out, HB3.out⟩
  case round =>
    obtain ⟨i, ms, hi, rfl, hml, hok, hQ1, hQ2, hU, hBw⟩ := hrel
    have R1 := Lib.hid hQ1; have R2 := Lib.hid hQ2; have HU := Lib.hid hU
    have HBw := Lib.hid hBw; have HML := Lib.hid hml; have OK0 := Lib.hid hok
    clear hQ1 hQ2 hU hBw hml hok
    by_cases hlt : i < alen
    · obtain ⟨b, o, rfl, hb, g0, g1, g2, g3, g4⟩ := HC2.out i hlt
      obtain ⟨⟨x0, x1, x2, x3, x4⟩, hX⟩ : ∃ q, Y i = q := ⟨_, rfl⟩
      rw [hX] at g0 g1 g2 g3 g4
      clear hX
      dsimp only at g0 g1 g2 g3 g4
      have c0 : wr.cell? ⟨b, o + i * 5, none⟩ = some (.int .i64 x0) := (HU.out.cell (p := ⟨b, o + i * 5, none⟩) hb (by simp only; omega)).trans g0
      have c1 : wr.cell? ⟨b, o + i * 5 + 1, none⟩ = some (.int .i64 x1) := (HU.out.cell (p := ⟨b, o + i * 5 + 1, none⟩) hb (by simp only; omega)).trans g1
      have c2 : wr.cell? ⟨b, o + i * 5 + 2, none⟩ = some (.int .i64 x2) := (HU.out.cell (p := ⟨b, o + i * 5 + 2, none⟩) hb (by simp only; omega)).trans g2
      have c3 : wr.cell? ⟨b, o + i * 5 + 3, none⟩ = some (.int .i64 x3) := (HU.out.cell (p := ⟨b, o + i * 5 + 3, none⟩) hb (by simp only; omega)).trans g3
      have c4 : wr.cell? ⟨b, o + i * 5 + 4, none⟩ = some (.int .i64 x4) := (HU.out.cell (p := ⟨b, o + i * 5 + 4, none⟩) hb (by simp only; omega)).trans g4
      clear g0 g1 g2 g3 g4
      obtain ⟨wa, hwa⟩ : ∃ wa, wr.alloc (.cells #[.int .i64 x0, .int .i64 x1, .int .i64 x2, .int .i64 x3, .int .i64 x4] 30) = wa := ⟨_, rfl⟩
      have BA : Hid (Blk wa wr.heap.size 30 #[.int .i64 x0, .int .i64 x1, .int .i64 x2, .int .i64 x3, .int .i64 x4]) := Lib.hid (by rw [← hwa]; exact Blk.new wr _ _)
      have UA : Hid (Upd (fun k => w.heap.size ≤ k) w wa) := Lib.hid (by rw [← hwa]; exact HU.out.alloc _)
      have HSZ : Hid (B1 ≤ wr.heap.size ∧ B1 ≤ wa.heap.size) := Lib.hid ⟨HBw.out, by rw [← hwa]; have := HBw.out; simp; omega⟩
      have R1a : Hid (PortsS wa P1 B1 P1 ms) := Lib.hid (by rw [← hwa]; exact R1.out.upd ((Upd.refl (fun _ => False) wr).alloc _) (fun _ _ _ h => h))
      have R2a : Hid (RPS wa B1 B1 ms) := Lib.hid (by rw [← hwa]; exact R2.out.upd ((Upd.refl (fun _ => False) wr).alloc _) (fun _ _ h => h))
      have HWA := Lib.hid hwa
      clear hwa
      by_cases hk : x0 = 0 ∨ x0 = 1 ∨ x0 = 2
      · rcases hk with rfl | rfl | rfl
        all_goals
          go_upto_region 15 with fail
          rw [HWA.out]
          generalize hg : wr.heap.size = g at *
          refine wp_region_tree (.q 0 (.q 1 (.q 2 (.q 3 (.q 4 (.q 5 (.q 6 (.q 7 (.q 10 (.q 11 (.q 12 (.q 13 (.q 14 (.q 15 (.q 16 (.q 17 (.l 8 (.l 9 (.l 18 (.q 19 (.q 20 .d))))))))))))))))))))) (fun i => decide (21 ≤ i ∧ i < 21)) (fun w' => w'.cell? ⟨g, 1, none⟩ = some (.int .i64 x1) ∧ w'.cell? ⟨g, 2, none⟩ = some (.int .i64 x2) ∧ w'.cell? ⟨g, 3, none⟩ = some (.int .i64 x3))
            (by kernel_rfl) (by kernel_rfl) (fun t ht => (of_decide_eq_true ht).2) (fun _ _ _ _ _ h => h) (by kernel_rfl) rfl ⟨(BA.out.drew).cell 1, (BA.out.drew).cell 2, (BA.out.drew).cell 3⟩ ?_
          iterate 16
            first
            | refine wpOT_skip2 (by rfl) (by rfl) ?_
            | (refine' wpOT_q (by rfl) (by rfl) (fun w' hS' => ?_) ?_
               rotate_left
               · obtain ⟨s1, s2, s3⟩ := hS'
                 go_simp
                 try rfl)
            try simp only [Act.put, List.setIfInBounds_toArray, List.set_cons_zero, List.set_cons_succ]
          refine wpOT_l (by rfl) (by rfl) (fun KQ hKQ => ?_)
          go_simp
          go_at_call 10
          refine (writeA _ P1 B1 P1 ms (R1a.out.drewN 1) i OK0.out (by omega) x1 x2 x3 _).mono ?_
          rintro e w4 ⟨rfl, hS4, hU4⟩
          have hU4' := ((Upd.refl (fun k => P1 ≤ k ∧ k < B1) wa).drewN 1).trans hU4
          have BA4 := Lib.hid (BA.out.upd hU4' (fun h => by have := HSZ.out; omega))
          have U4 := Lib.hid (UA.out.trans (hU4'.mono (fun k _ h => Nat.le_trans HP1.out h.1)))
          have R1b := Lib.hid hS4
          have R2b := Lib.hid (R2a.out.upd hU4' (fun k hk1 h => by omega))
          have HSZ4 : Hid (B1 ≤ w4.heap.size) := Lib.hid (Nat.le_trans HSZ.out.2 hU4'.size)
          clear hS4 hU4 hU4' c0 c1 c2 c3 c4
          refine hKQ _ _ (.inr ⟨BA4.out.cell 1, BA4.out.cell 2, BA4.out.cell 3⟩) ?_
          clear hKQ KQ
          try simp only [Act.put, List.setIfInBounds_toArray, List.set_cons_zero, List.set_cons_succ]
          refine wpOT_l (by rfl) (by rfl) (fun KQ hKQ => ?_)
          go_simp
          go_at_call 9
          refine (numO _ _).mono ?_
          rintro e w5 ⟨rfl, k5, rfl⟩
          have BA5 := Lib.hid (BA4.out.drewN k5)
          have U5 := Lib.hid (U4.out.drewN k5)
          have R1d := Lib.hid (R1b.out.drewN k5)
          have R2d := Lib.hid (R2b.out.drewN k5)
          have HSZ5 : Hid (B1 ≤ (w4.drewN k5).heap.size) := Lib.hid (Nat.le_trans HSZ4.out ((Upd.refl (fun _ => False) w4).drewN k5).size)
          clear BA4 U4 R1b R2b HSZ4
          generalize w4.drewN k5 = w5 at *
          refine hKQ _ _ (.inr ⟨BA5.out.cell 1, BA5.out.cell 2, BA5.out.cell 3⟩) ?_
          clear hKQ KQ
          try simp only [Act.put, List.setIfInBounds_toArray, List.set_cons_zero, List.set_cons_succ]
          refine wpOT_l (by rfl) (by rfl) (fun KQ hKQ => ?_)
          go_simp
          go_at_call 16
          refine (writeD _ B1 B1 ms R2d.out i OK0.out (by omega) x1 x2 x3 _).mono ?_
          rintro e wz ⟨rfl, hS6, hU6⟩
          have BZ := Lib.hid (BA5.out.upd hU6 (PB.far BA5.out (by decide)))
          have UZ := Lib.hid (U5.out.trans (hU6.mono (fun k _ h => Nat.le_trans HBB.out h.1)))
          have R1z := Lib.hid (R1d.out.upd hU6 (fun k _ hk2 h => by have := h.1; omega))
          have R1z := Lib.hid (R1z.out.upd (Upd.refl (fun _ => False) wz) (fun _ _ _ h => h))
          have R2z := Lib.hid hS6
          have HSZz : Hid (B1 ≤ wz.heap.size) := Lib.hid (Nat.le_trans HSZ5.out hU6.size)
          clear hS6 hU6
          refine hKQ _ _ (.inr ⟨BZ.out.cell 1, BZ.out.cell 2, BZ.out.cell 3⟩) ?_
          clear hKQ KQ
          try simp only [Act.put, List.setIfInBounds_toArray, List.set_cons_zero, List.set_cons_succ]
          iterate 2
            first
            | refine wpOT_skip2 (by rfl) (by rfl) ?_
            | (refine' wpOT_q (by rfl) (by rfl) (fun w' hS' => ?_) ?_
               rotate_left
               · obtain ⟨s1, s2, s3⟩ := hS'
                 go_simp
                 try rfl)
            try simp only [Act.put, List.setIfInBounds_toArray, List.set_cons_zero, List.set_cons_succ]
          refine wpOT_d ?_
          obtain ⟨mz, hmz⟩ : ∃ mz, wrM ms x1 x2 x3 (min (max x4 0) 2305843009213693952) = mz := ⟨_, rfl⟩
          have OKz : Hid (∀ m ∈ mz, OKm (i + 1) m) := Lib.hid (by rw [← hmz]; exact okW OK0.out _ _ _ _)
          have MLz : Hid (mz.length = len) := Lib.hid (by rw [← hmz, wrM_len]; exact HML.out)
          rw [hmz] at R1z R2z
          clear hmz
          go_upto_region 25 with fail
          refine wp_region_tree (.q 0 (.q 1 (.q 2 (.q 3 (.q 4 (.q 5 (.q 7 (.q 8 (.q 9 (.l 6 (.l 10 (.q 11 (.q 12 .d))))))))))))) (fun i => decide (13 ≤ i ∧ i < 13)) (fun w' => w'.cell? ⟨g, 1, none⟩ = some (.int .i64 x1) ∧ w'.cell? ⟨g, 2, none⟩ = some (.int .i64 x2) ∧ w'.cell? ⟨g, 3, none⟩ = some (.int .i64 x3))
            (by kernel_rfl) (by kernel_rfl) (fun t ht => (of_decide_eq_true ht).2) (fun _ _ _ _ _ h => h) (by kernel_rfl) rfl ⟨(BZ.out.drew).cell 1, (BZ.out.drew).cell 2, (BZ.out.drew).cell 3⟩ ?_
          iterate 9
            first
            | refine wpOT_skip2 (by rfl) (by rfl) ?_
            | (refine' wpOT_q (by rfl) (by rfl) (fun w' hS' => ?_) ?_
               rotate_left
               · obtain ⟨s1, s2, s3⟩ := hS'
                 go_simp
                 try rfl)
            try simp only [Act.put, List.setIfInBounds_toArray, List.set_cons_zero, List.set_cons_succ]
          refine wpOT_l (by rfl) (by rfl) (fun KQ hKQ => ?_)
          go_simp
          go_at_call 12
          refine (waitA _ P1 B1 P1 mz (R1z.out.drewN 1) x2).mono ?_
          rintro e wy ⟨rfl, hU5⟩
          have UY := Lib.hid (((Upd.refl (fun _ => False) wz).drewN 1).trans hU5)
          have BY := Lib.hid (BZ.out.upd UY.out (fun h => h))
          clear hU5
          refine hKQ _ _ (.inr ⟨BY.out.cell 1, BY.out.cell 2, BY.out.cell 3⟩) ?_
          clear hKQ KQ
          try simp only [Act.put, List.setIfInBounds_toArray, List.set_cons_zero, List.set_cons_succ]
          refine wpOT_l (by rfl) (by rfl) (fun KQ hKQ => ?_)
          go_simp
          go_at_call 19
          refine (waitD _ B1 B1 mz (R2z.out.upd UY.out (fun _ _ h => h)) x2).mono ?_
          rintro e w9 ⟨rfl, k9, rfl⟩
          refine hKQ _ _ (.inr ⟨(BY.out.drewN k9).cell 1, (BY.out.drewN k9).cell 2, (BY.out.drewN k9).cell 3⟩) ?_
          clear hKQ KQ
          try simp only [Act.put, List.setIfInBounds_toArray, List.set_cons_zero, List.set_cons_succ]
          iterate 2
            first
            | refine wpOT_skip2 (by rfl) (by rfl) ?_
            | (refine' wpOT_q (by rfl) (by rfl) (fun w' hS' => ?_) ?_
               rotate_left
               · obtain ⟨s1, s2, s3⟩ := hS'
                 go_simp
                 try rfl)
            try simp only [Act.put, List.setIfInBounds_toArray, List.set_cons_zero, List.set_cons_succ]
          refine wpOT_d ?_
          have R1y := Lib.hid ((R1z.out.still UY.out).drewN k9)
          have R2y := Lib.hid ((R2z.out.upd UY.out (fun _ _ h => h)).drewN k9)
          have UYY := Lib.hid ((UZ.out.trans (UY.out.mono (fun _ _ h => h.elim))).drewN k9)
          have HSY : Hid (B1 ≤ (wy.drewN k9).heap.size) := Lib.hid (by have := HSZz.out; have := UY.out.size; have := ((Upd.refl (fun _ => False) wy).drewN k9).size; omega)
          clear R1z R2z UZ BZ BY HSZz UY
          generalize wy.drewN k9 = w10 at *
          go_wp2_with fail
          go_roundw
          case rel => exact ⟨i + 1, _, by omega, by go_num, MLz.out, OKz.out, R1y.out, R2y.out, UYY.out, HSY.out⟩
          case measure => simp [intOf]; omega
      · by_cases hk2 : x0 = 3 ∨ x0 = 4 ∨ x0 = 5
        · rcases hk2 with rfl | rfl | rfl
          all_goals
            obtain ⟨⟨q1, q2, q3⟩, hq⟩ : ∃ q, rdE ms x1 x2 (min (max x4 0) 2305843009213693952) = q := ⟨_, rfl⟩
            have HQ := Lib.hid hq
            clear hq
            go_wp2_with fail
            rw [HWA.out]
            refine (readA _ P1 B1 P1 ms R1a.out x1 x2 _).mono ?_
            have hq := HQ.out
            rintro e w4 ⟨he, hS4, hU4⟩
            rw [hq] at he
            have he' : e = .returned (.tuple #[.int .i64 q1, .int .i64 q2, .int .i64 q3]) := he
            clear he
            subst he'
            obtain ⟨g, hg⟩ : ∃ g, wr.heap.size = g := ⟨_, rfl⟩
            have BA4 : Hid (Blk w4 g 30 #[.int .i64 _, .int .i64 x1, .int .i64 x2, .int .i64 x3, .int .i64 x4]) := Lib.hid (by rw [← hg]; exact BA.out.upd hU4 (fun h => by have := HSZ.out; omega))
            have U4 := Lib.hid (UA.out.trans (hU4.mono (fun k _ h => Nat.le_trans HP1.out h.1)))
            have R1b := Lib.hid hS4
            have R2b := Lib.hid (R2a.out.upd hU4 (fun k hk1 h => by omega))
            have HSZ4 : Hid (B1 ≤ w4.heap.size) := Lib.hid (Nat.le_trans HSZ.out.2 hU4.size)
            rw [hg]
            clear hS4 hU4 c0 c1 c2 c3 c4 hg hq
            have k1 : w4.cell? ⟨g, 1, none⟩ = some (.int .i64 x1) := BA4.out.cell 1
            have k2 : w4.cell? ⟨g, 2, none⟩ = some (.int .i64 x2) := BA4.out.cell 2
            go_wp2_with fail
            refine (readD _ B1 B1 ms R2b.out i OK0.out (by omega) x1 x2 _).mono ?_
            have hq := HQ.out
            rintro e wz ⟨he, hS6, hU6⟩
            rw [hq] at he
            have he' : e = .returned (.tuple #[.int .i64 q1, .int .i64 q2, .int .i64 q3]) := he
            clear he
            subst he'
            have BZ := Lib.hid (BA4.out.upd hU6 (PB.far BA4.out (by decide)))
            have UZ := Lib.hid (U4.out.trans (hU6.mono (fun k _ h => Nat.le_trans HBB.out h.1)))
            have R1z := Lib.hid (R1b.out.upd hU6 (fun k _ hk2 h => by have := h.1; omega))
            have R2z := Lib.hid hS6
            have HSZz : Hid (B1 ≤ wz.heap.size) := Lib.hid (Nat.le_trans HSZ4.out hU6.size)
            clear hS6 hU6 k1 k2 hq
            obtain ⟨mz, hmz⟩ : ∃ mz, rdM ms x1 x2 = mz := ⟨_, rfl⟩
            have OKz : Hid (∀ m ∈ mz, OKm (i + 1) m) := Lib.hid (by rw [← hmz]; exact okR OK0.out _ _)
            have MLz : Hid (mz.length = len) := Lib.hid (by rw [← hmz, rdM_len]; exact HML.out)
            rw [hmz] at R1z R2z
            clear hmz
            go_wp2_with fail
            refine (numO _ _).mono ?_
            rintro e w5 ⟨rfl, k5, rfl⟩
            have BZ := Lib.hid (BZ.out.drewN k5)
            have UZ := Lib.hid (UZ.out.drewN k5)
            have R1z := Lib.hid (R1z.out.drewN k5)
            have R2z := Lib.hid (R2z.out.drewN k5)
            have HSZz : Hid (B1 ≤ (wz.drewN k5).heap.size) := Lib.hid (Nat.le_trans HSZz.out ((Upd.refl (fun _ => False) wz).drewN k5).size)
            generalize wz.drewN k5 = wz at *
            go_upto_region 25 with fail
            refine wp_region_tree (.q 0 (.q 1 (.q 2 (.q 3 (.q 4 (.q 5 (.q 7 (.q 8 (.q 9 (.l 6 (.l 10 (.q 11 (.q 12 .d))))))))))))) (fun i => decide (13 ≤ i ∧ i < 13)) (fun w' => w'.cell? ⟨g, 1, none⟩ = some (.int .i64 x1) ∧ w'.cell? ⟨g, 2, none⟩ = some (.int .i64 x2) ∧ w'.cell? ⟨g, 3, none⟩ = some (.int .i64 x3))
              (by kernel_rfl) (by kernel_rfl) (fun t ht => (of_decide_eq_true ht).2) (fun _ _ _ _ _ h => h) (by kernel_rfl) rfl ⟨(BZ.out.drew).cell 1, (BZ.out.drew).cell 2, (BZ.out.drew).cell 3⟩ ?_
            iterate 9
              first
              | refine wpOT_skip2 (by rfl) (by rfl) ?_
              | (refine' wpOT_q (by rfl) (by rfl) (fun w' hS' => ?_) ?_
                 rotate_left
                 · obtain ⟨s1, s2, s3⟩ := hS'
                   go_simp
                   try rfl)
              try simp only [Act.put, List.setIfInBounds_toArray, List.set_cons_zero, List.set_cons_succ]
            refine wpOT_l (by rfl) (by rfl) (fun KQ hKQ => ?_)
            go_simp
            go_at_call 12
            refine (waitA _ P1 B1 P1 mz (R1z.out.drewN 1) x2).mono ?_
            rintro e wy ⟨rfl, hU5⟩
            have UY := Lib.hid (((Upd.refl (fun _ => False) wz).drewN 1).trans hU5)
            have BY := Lib.hid (BZ.out.upd UY.out (fun h => h))
            clear hU5
            refine hKQ _ _ (.inr ⟨BY.out.cell 1, BY.out.cell 2, BY.out.cell 3⟩) ?_
            clear hKQ KQ
            try simp only [Act.put, List.setIfInBounds_toArray, List.set_cons_zero, List.set_cons_succ]
            refine wpOT_l (by rfl) (by rfl) (fun KQ hKQ => ?_)
            go_simp
            go_at_call 19
            refine (waitD _ B1 B1 mz (R2z.out.upd UY.out (fun _ _ h => h)) x2).mono ?_
            rintro e w9 ⟨rfl, k9, rfl⟩
            refine hKQ _ _ (.inr ⟨(BY.out.drewN k9).cell 1, (BY.out.drewN k9).cell 2, (BY.out.drewN k9).cell 3⟩) ?_
            clear hKQ KQ
            try simp only [Act.put, List.setIfInBounds_toArray, List.set_cons_zero, List.set_cons_succ]
            iterate 2
              first
              | refine wpOT_skip2 (by rfl) (by rfl) ?_
              | (refine' wpOT_q (by rfl) (by rfl) (fun w' hS' => ?_) ?_
                 rotate_left
                 · obtain ⟨s1, s2, s3⟩ := hS'
                   go_simp
                   try rfl)
              try simp only [Act.put, List.setIfInBounds_toArray, List.set_cons_zero, List.set_cons_succ]
            refine wpOT_d ?_
            have R1y := Lib.hid ((R1z.out.still UY.out).drewN k9)
            have R2y := Lib.hid ((R2z.out.upd UY.out (fun _ _ h => h)).drewN k9)
            have UYY := Lib.hid ((UZ.out.trans (UY.out.mono (fun _ _ h => h.elim))).drewN k9)
            have HSY : Hid (B1 ≤ (wy.drewN k9).heap.size) := Lib.hid (by have := HSZz.out; have := UY.out.size; have := ((Upd.refl (fun _ => False) wy).drewN k9).size; omega)
            clear R1z R2z UZ BZ BY HSZz UY
            generalize wy.drewN k9 = w10 at *
            go_wp2_with fail
            go_roundw
            case rel => exact ⟨i + 1, _, by omega, by go_num, MLz.out, OKz.out, R1y.out, R2y.out, UYY.out, HSY.out⟩
            case measure => simp [intOf]; omega
        · by_cases hk3 : x0 = 6
          · subst hk3
            go_wp2_with fail
            rw [HWA.out]
            refine (clearP _ P1 B1 P1 ms R1a.out (by have := HML.out; omega) x1).mono ?_
            rintro e w4 ⟨rfl, hS4, hU4⟩
            obtain ⟨g, hg⟩ : ∃ g, wr.heap.size = g := ⟨_, rfl⟩
            have BA4 : Hid (Blk w4 g 30 #[.int .i64 _, .int .i64 x1, .int .i64 x2, .int .i64 x3, .int .i64 x4]) := Lib.hid (by rw [← hg]; exact BA.out.upd hU4 (fun h => by have := HSZ.out; omega))
            have U4 := Lib.hid (UA.out.trans (hU4.mono (fun k _ h => Nat.le_trans HP1.out h.1)))
            have R1b := Lib.hid hS4
            have R2b := Lib.hid (R2a.out.upd hU4 (fun k hk1 h => by omega))
            have HSZ4 : Hid (B1 ≤ w4.heap.size) := Lib.hid (Nat.le_trans HSZ.out.2 hU4.size)
            rw [hg]
            clear hS4 hU4 c0 c1 c2 c3 c4 hg
            have k1 : w4.cell? ⟨g, 1, none⟩ = some (.int .i64 x1) := BA4.out.cell 1
            have k2 : w4.cell? ⟨g, 2, none⟩ = some (.int .i64 x2) := BA4.out.cell 2
            go_wp2_with fail
            refine (rClear _ B1 B1 ms R2b.out (by have := HML.out; omega) (fun m hm hq => (OK0.out m hm).2.2.1 hq) x1).mono ?_
            rintro e wz ⟨rfl, hS6, hU6⟩
            have BZ := Lib.hid (BA4.out.upd hU6 (PB.far BA4.out (by decide)))
            have UZ := Lib.hid (U4.out.trans (hU6.mono (fun k _ h => Nat.le_trans HBB.out h.1)))
            have R1z := Lib.hid (R1b.out.upd hU6 (fun k _ hk2 h => by have := h.1; omega))
            have R2z := Lib.hid hS6
            have HSZz : Hid (B1 ≤ wz.heap.size) := Lib.hid (Nat.le_trans HSZ4.out hU6.size)
            clear hS6 hU6 k1 k2
            obtain ⟨mz, hmz⟩ : ∃ mz, ms.map (PM.clr x1) = mz := ⟨_, rfl⟩
            have OKz : Hid (∀ m ∈ mz, OKm (i + 1) m) := Lib.hid (by rw [← hmz]; exact okC OK0.out _)
            have MLz : Hid (mz.length = len) := Lib.hid (by rw [← hmz, List.length_map]; exact HML.out)
            rw [hmz] at R1z R2z
            clear hmz
            go_upto_region 25 with fail
            refine wp_region_tree (.q 0 (.q 1 (.q 2 (.q 3 (.q 4 (.q 5 (.q 7 (.q 8 (.q 9 (.l 6 (.l 10 (.q 11 (.q 12 .d))))))))))))) (fun i => decide (13 ≤ i ∧ i < 13)) (fun w' => w'.cell? ⟨g, 1, none⟩ = some (.int .i64 x1) ∧ w'.cell? ⟨g, 2, none⟩ = some (.int .i64 x2) ∧ w'.cell? ⟨g, 3, none⟩ = some (.int .i64 x3))
              (by kernel_rfl) (by kernel_rfl) (fun t ht => (of_decide_eq_true ht).2) (fun _ _ _ _ _ h => h) (by kernel_rfl) rfl ⟨(BZ.out.drew).cell 1, (BZ.out.drew).cell 2, (BZ.out.drew).cell 3⟩ ?_
            iterate 9
              first
              | refine wpOT_skip2 (by rfl) (by rfl) ?_
              | (refine' wpOT_q (by rfl) (by rfl) (fun w' hS' => ?_) ?_
                 rotate_left
                 · obtain ⟨s1, s2, s3⟩ := hS'
                   go_simp
                   try rfl)
              try simp only [Act.put, List.setIfInBounds_toArray, List.set_cons_zero, List.set_cons_succ]
            refine wpOT_l (by rfl) (by rfl) (fun KQ hKQ => ?_)
            go_simp
            go_at_call 12
            refine (waitA _ P1 B1 P1 mz (R1z.out.drewN 1) x2).mono ?_
            rintro e wy ⟨rfl, hU5⟩
            have UY := Lib.hid (((Upd.refl (fun _ => False) wz).drewN 1).trans hU5)
            have BY := Lib.hid (BZ.out.upd UY.out (fun h => h))
            clear hU5
            refine hKQ _ _ (.inr ⟨BY.out.cell 1, BY.out.cell 2, BY.out.cell 3⟩) ?_
            clear hKQ KQ
            try simp only [Act.put, List.setIfInBounds_toArray, List.set_cons_zero, List.set_cons_succ]
            refine wpOT_l (by rfl) (by rfl) (fun KQ hKQ => ?_)
            go_simp
            go_at_call 19
            refine (waitD _ B1 B1 mz (R2z.out.upd UY.out (fun _ _ h => h)) x2).mono ?_
            rintro e w9 ⟨rfl, k9, rfl⟩
            refine hKQ _ _ (.inr ⟨(BY.out.drewN k9).cell 1, (BY.out.drewN k9).cell 2, (BY.out.drewN k9).cell 3⟩) ?_
            clear hKQ KQ
            try simp only [Act.put, List.setIfInBounds_toArray, List.set_cons_zero, List.set_cons_succ]
            iterate 2
              first
              | refine wpOT_skip2 (by rfl) (by rfl) ?_
              | (refine' wpOT_q (by rfl) (by rfl) (fun w' hS' => ?_) ?_
                 rotate_left
                 · obtain ⟨s1, s2, s3⟩ := hS'
                   go_simp
                   try rfl)
              try simp only [Act.put, List.setIfInBounds_toArray, List.set_cons_zero, List.set_cons_succ]
            refine wpOT_d ?_
            have R1y := Lib.hid ((R1z.out.still UY.out).drewN k9)
            have R2y := Lib.hid ((R2z.out.upd UY.out (fun _ _ h => h)).drewN k9)
            have UYY := Lib.hid ((UZ.out.trans (UY.out.mono (fun _ _ h => h.elim))).drewN k9)
            have HSY : Hid (B1 ≤ (wy.drewN k9).heap.size) := Lib.hid (by have := HSZz.out; have := UY.out.size; have := ((Upd.refl (fun _ => False) wy).drewN k9).size; omega)
            clear R1z R2z UZ BZ BY HSZz UY
            generalize wy.drewN k9 = w10 at *
            go_wp2_with fail
            go_roundw
            case rel => exact ⟨i + 1, _, by omega, by go_num, MLz.out, OKz.out, R1y.out, R2y.out, UYY.out, HSY.out⟩
            case measure => simp [intOf]; omega
          · have t0 : decide (x0 = 0) = false := decide_eq_false (by omega)
            have t1 : decide (x0 = 1) = false := decide_eq_false (by omega)
            have t2 : decide (x0 = 2) = false := decide_eq_false (by omega)
            have t3 : decide (x0 = 3) = false := decide_eq_false (by omega)
            have t4 : decide (x0 = 4) = false := decide_eq_false (by omega)
            have t5 : decide (x0 = 5) = false := decide_eq_false (by omega)
            have t6 : decide (x0 = 6) = false := decide_eq_false hk3
            go_upto_region 25 with fail
            rw [HWA.out]
            obtain ⟨g, hg⟩ : ∃ g, wr.heap.size = g := ⟨_, rfl⟩
            have BZ := Lib.hid BA.out
            rw [hg] at BZ ⊢
            have UZ := UA
            have R1z := R1a
            have R2z := R2a
            have HSZz := Lib.hid HSZ.out.2
            have OKz : Hid (∀ m ∈ ms, OKm (i + 1) m) := Lib.hid (fun m hm => (OK0.out m hm).mono (by omega))
            have MLz := HML
            clear c0 c1 c2 c3 c4 hg BA UA R1a R2a HSZ HWA
            generalize wa = wz at *
            refine wp_region_tree (.q 0 (.q 1 (.q 2 (.q 3 (.q 4 (.q 5 (.q 7 (.q 8 (.q 9 (.l 6 (.l 10 (.q 11 (.q 12 .d))))))))))))) (fun i => decide (13 ≤ i ∧ i < 13)) (fun w' => w'.cell? ⟨g, 1, none⟩ = some (.int .i64 x1) ∧ w'.cell? ⟨g, 2, none⟩ = some (.int .i64 x2) ∧ w'.cell? ⟨g, 3, none⟩ = some (.int .i64 x3))
              (by kernel_rfl) (by kernel_rfl) (fun t ht => (of_decide_eq_true ht).2) (fun _ _ _ _ _ h => h) (by kernel_rfl) rfl ⟨(BZ.out.drew).cell 1, (BZ.out.drew).cell 2, (BZ.out.drew).cell 3⟩ ?_
            iterate 9
              first
              | refine wpOT_skip2 (by rfl) (by rfl) ?_
              | (refine' wpOT_q (by rfl) (by rfl) (fun w' hS' => ?_) ?_
                 rotate_left
                 · obtain ⟨s1, s2, s3⟩ := hS'
                   go_simp
                   try rfl)
              try simp only [Act.put, List.setIfInBounds_toArray, List.set_cons_zero, List.set_cons_succ]
            refine wpOT_l (by rfl) (by rfl) (fun KQ hKQ => ?_)
            go_simp
            go_at_call 12
            refine (waitA _ P1 B1 P1 ms (R1z.out.drewN 1) x2).mono ?_
            rintro e wy ⟨rfl, hU5⟩
            have UY := Lib.hid (((Upd.refl (fun _ => False) wz).drewN 1).trans hU5)
            have BY := Lib.hid (BZ.out.upd UY.out (fun h => h))
            clear hU5
            refine hKQ _ _ (.inr ⟨BY.out.cell 1, BY.out.cell 2, BY.out.cell 3⟩) ?_
            clear hKQ KQ
            try simp only [Act.put, List.setIfInBounds_toArray, List.set_cons_zero, List.set_cons_succ]
            refine wpOT_l (by rfl) (by rfl) (fun KQ hKQ => ?_)
            go_simp
            go_at_call 19
            refine (waitD _ B1 B1 ms (R2z.out.upd UY.out (fun _ _ h => h)) x2).mono ?_
            rintro e w9 ⟨rfl, k9, rfl⟩
            refine hKQ _ _ (.inr ⟨(BY.out.drewN k9).cell 1, (BY.out.drewN k9).cell 2, (BY.out.drewN k9).cell 3⟩) ?_
            clear hKQ KQ
            try simp only [Act.put, List.setIfInBounds_toArray, List.set_cons_zero, List.set_cons_succ]
            iterate 2
              first
              | refine wpOT_skip2 (by rfl) (by rfl) ?_
              | (refine' wpOT_q (by rfl) (by rfl) (fun w' hS' => ?_) ?_
                 rotate_left
                 · obtain ⟨s1, s2, s3⟩ := hS'
                   go_simp
                   try rfl)
              try simp only [Act.put, List.setIfInBounds_toArray, List.set_cons_zero, List.set_cons_succ]
            refine wpOT_d ?_
            have R1y := Lib.hid ((R1z.out.still UY.out).drewN k9)
            have R2y := Lib.hid ((R2z.out.upd UY.out (fun _ _ h => h)).drewN k9)
            have UYY := Lib.hid ((UZ.out.trans (UY.out.mono (fun _ _ h => h.elim))).drewN k9)
            have HSY : Hid (B1 ≤ (wy.drewN k9).heap.size) := Lib.hid (by have := HSZz.out; have := UY.out.size; have := ((Upd.refl (fun _ => False) wy).drewN k9).size; omega)
            clear R1z R2z UZ BZ BY HSZz UY
            generalize wy.drewN k9 = w10 at *
            go_wp2_with fail
            go_roundw
            case rel => exact ⟨i + 1, _, by omega, by go_num, MLz.out, OKz.out, R1y.out, R2y.out, UYY.out, HSY.out⟩
            case measure => simp [intOf]; omega
    · have hie : i = alen := by omega
      subst hie
      go_wp2_with fail
      go_returns
      exact ⟨rfl, HU.out.mono (fun k hk h => by omega)⟩
end Go.Proofs.Ytnhgmommehjeoaa
