/-
  PortsOneWay. (Written by portw.py.)
-/
import Derived.Test.YtnhgmommehjeoaaPortK
namespace Go.Proofs.Ytnhgmommehjeoaa
open Go.RowKit
attribute [local go_sem] max_ints min_ints

theorem wpOT_skip {P : Program} {l : List Oper} {Q : Exit → Act → World → Prop} {S : World → Prop} {T : Nat → Bool} {i : Nat} {t : OT} {o : Oper} {a : Act} {w : World} (ho : nthO l i = some o) (hw : Region.wanted o (yielded l.toArray a.tmps) = false)
    (h : wpOT P l Q S T t (a.put o.dst undef) w) : wpOT P l Q S T (.q i t) a w := by
  unfold wpOT
  rw [ho]
  exact ⟨undef, .inr ⟨hw, rfl⟩, h⟩

theorem wrB_yes {cs : List Ch} {i : Nat} {c : Ch} (h : cs[i]? = some c) : wrB cs c.f i = true := by
  have hl := (List.getElem?_eq_some_iff.1 h).1
  unfold wrB
  rw [Int.toNat_natCast, h]
  simp; omega
theorem wrB_not {cs : List Ch} {i : Nat} {c : Ch} {part : Int} (h : cs[i]? = some c) (hn : ¬ c.f = part) : wrB cs part i = false := by
  unfold wrB
  rw [Int.toNat_natCast, h]
  simp [hn]
theorem wrB_out {cs : List Ch} {part ch : Int} (h : ¬ (0 ≤ ch ∧ ch < cs.length)) : wrB cs part ch = false := by
  unfold wrB
  rw [decide_eq_false h]; rfl

set_option maxRecDepth 100000 in
set_option maxHeartbeats 12800000 in
theorem portsOneWay_main (w : World) (A : Option Addr) (len cap : Nat) (hl : len ≤ 20) (X : Nat → Bool × Int × Int × Int) (hc : Rowbiii w A len X) (A2 : Option Addr) (alen acap : Nat) (hal : alen ≤ 200) (Y : Nat → Int × Int × Int × Int × Int) (hc2 : Rowiiiii w A2 alen Y) :
    Calls Try.prog 4 #[.slice A len cap, .slice A2 alen acap] w fun e w' => e = .returned (.bool true) ∧ Upd (fun _ => False) w w' := by
  have HC := Lib.hid hc
  have HC2 := Lib.hid hc2
  have d1 : decide (20 < (len : Int)) = false := decide_eq_false (by omega)
  have d2 : decide (200 < (alen : Int)) = false := decide_eq_false (by omega)
  clear hc hc2
  go_enter Try.func4, Try.ntmps4
  go_wp2_with fail
  refine (knowsO _).mono ?_
  rintro e w1 ⟨rfl, hU⟩
  have U1 := Lib.hid hU
  have HC1 : Hid (Rowbiii w1 A len X) := Lib.hid (fun k hk => by
    obtain ⟨b, o, h1, h2, g0, g1, g2, g3⟩ := HC.out k hk
    exact ⟨b, o, h1, Nat.lt_of_lt_of_le h2 hU.size, (hU.cell (p := ⟨b, o + k * 4 + 0, none⟩) h2 (fun h => h)).trans g0, (hU.cell (p := ⟨b, o + k * 4 + 1, none⟩) h2 (fun h => h)).trans g1, (hU.cell (p := ⟨b, o + k * 4 + 2, none⟩) h2 (fun h => h)).trans g2, (hU.cell (p := ⟨b, o + k * 4 + 3, none⟩) h2 (fun h => h)).trans g3⟩)
  clear hU
  go_wp2_with fail
  refine (ownP _ A len cap hl X HC1.out).mono ?_
  rintro e w2 ⟨P1, rfl, hP1, hS, hU⟩
  have HC3 : Hid (Rowbiii w2 A len X) := Lib.hid (fun k hk => by
    obtain ⟨b, o, h1, h2, g0, g1, g2, g3⟩ := HC1.out k hk
    exact ⟨b, o, h1, Nat.lt_of_lt_of_le h2 hU.size, (hU.cell (p := ⟨b, o + k * 4 + 0, none⟩) h2 (fun h => h)).trans g0, (hU.cell (p := ⟨b, o + k * 4 + 1, none⟩) h2 (fun h => h)).trans g1, (hU.cell (p := ⟨b, o + k * 4 + 2, none⟩) h2 (fun h => h)).trans g2, (hU.cell (p := ⟨b, o + k * 4 + 3, none⟩) h2 (fun h => h)).trans g3⟩)
  have S1 := Lib.hid hS
  have U2 := Lib.hid (U1.out.trans hU)
  have HP1 : Hid (w.heap.size ≤ P1) := Lib.hid (Nat.le_trans U1.out.size hP1)
  clear hS hU hP1 HC1
  go_wp2_with fail
  refine (ownP _ A len cap hl X HC3.out).mono ?_
  rintro e w3 ⟨P2, rfl, hP2, hS, hU⟩
  obtain ⟨B1, hB1⟩ : ∃ B1, w2.heap.size = B1 := ⟨_, rfl⟩
  obtain ⟨B2, hB2⟩ : ∃ B2, w3.heap.size = B2 := ⟨_, rfl⟩
  have hB12 : B1 ≤ B2 := by rw [← hB1, ← hB2]; exact hU.size
  have S1b : PortsS w3 P1 B1 P1 ((chL X len).map PM.new) := by have := S1.out.still hU; rw [hB1] at this; exact this
  rw [hB1] at hP2
  rw [hB2] at hS
  have U3 : Hid (Upd (fun k => w.heap.size ≤ k) w w3) := Lib.hid ((U2.out.trans hU).mono (fun _ _ h => h.elim))
  have HP2 : Hid (w.heap.size ≤ P2) := Lib.hid (by have := U2.out.size; omega)
  obtain ⟨cs, hcs⟩ : ∃ cs, chL X len = cs := ⟨_, rfl⟩
  have hcl : cs.length = len := by rw [← hcs]; exact chL_len X len
  have HCS := Lib.hid hcs
  rw [hcs] at S1b hS
  have KN : ∀ (wx : World) (b B P : Nat), PortsS wx b B P (cs.map PM.new) → PortsC wx b B P cs 0 := fun wx b B P h => ⟨_, h, by rw [List.map_map]; exact (List.map_congr_left (fun c _ => rfl)).trans (List.map_id _), fun m hm => by
    obtain ⟨c, _, rfl⟩ := List.mem_map.1 hm
    exact ⟨Int.le_refl _, Int.le_refl _⟩⟩
  have Q1 := Lib.hid (KN _ _ _ _ S1b)
  have Q2 := Lib.hid (KN _ _ _ _ hS)
  have HCL := Lib.hid hcl
  have HBB : Hid (B1 ≤ P2 ∧ B1 ≤ B2 ∧ w3.heap.size = B2) := Lib.hid ⟨hP2, hB12, hB2⟩
  clear S1b hS hU hB12 hB1 hB2 hP2 hcs KN S1 U1 U2 HC3 hcl
  go_wp2_with fail
  go_loopw [7] (fun v7 wr => ∃ (i : Nat), i ≤ alen ∧ v7 = .int .i64 i ∧ PortsC wr P1 B1 P1 cs i ∧ PortsC wr P2 B2 P2 cs i ∧ Upd (fun k => w.heap.size ≤ k) w wr ∧ B2 ≤ wr.heap.size) (fun v7 _ => alen - (intOf v7).toNat)
  case atStart => exact ⟨0, by omega, rfl, Q1.out, Q2.out, U3.out, by rw [HBB.out.2.2]; exact Nat.le_refl _⟩
  case round =>
    obtain ⟨i, hi, rfl, hQ1, hQ2, hU, hBw⟩ := hrel
    have R1 := Lib.hid hQ1; have R2 := Lib.hid hQ2; have HU := Lib.hid hU
    have HBw := Lib.hid hBw
    clear hQ1 hQ2 hU hBw
    by_cases hlt : i < alen
    · obtain ⟨b, o, rfl, hb, g0, g1, g2, g3, g4⟩ := HC2.out i hlt
      obtain ⟨⟨x0, x1, x2, x3, x4⟩, hX⟩ : ∃ q, Y i = q := ⟨_, rfl⟩
      rw [hX] at g0 g1 g2 g3 g4
      clear hX
      dsimp only at g0 g1 g2 g3 g4
      have c0 : wr.cell? ⟨b, o + i * 5, none⟩ = some (.int .i64 x0) := (HU.out.cell (p := ⟨b, o + i * 5, none⟩) hb (by simp only; omega)).trans g0
      have c1 : wr.cell? ⟨b, o + i * 5 + 1, none⟩ = some (.int .i64 x1) := (HU.out.cell (p := ⟨b, o + i * 5 + 1, none⟩) hb (by simp only; omega)).trans g1
      have c2 : wr.cell? ⟨b, o + i * 5 + 2, none⟩ = some (.int .i64 x2) := (HU.out.cell (p := ⟨b, o + i * 5 + 2, none⟩) hb (by simp only; omega)).trans g2
      have c3 : wr.cell? ⟨b, o + i * 5 + 3, none⟩ = some (.int .i64 x3) := (HU.out.cell (p := ⟨b, o + i * 5 + 3, none⟩) hb (by simp only; omega)).trans g3
      have c4 : wr.cell? ⟨b, o + i * 5 + 4, none⟩ = some (.int .i64 x4) := (HU.out.cell (p := ⟨b, o + i * 5 + 4, none⟩) hb (by simp only; omega)).trans g4
      clear g0 g1 g2 g3 g4
      obtain ⟨wa, hwa⟩ : ∃ wa, wr.alloc (.cells #[.int .i64 x0, .int .i64 x1, .int .i64 x2, .int .i64 x3, .int .i64 x4] 30) = wa := ⟨_, rfl⟩
      have BA : Hid (Blk wa wr.heap.size 30 #[.int .i64 x0, .int .i64 x1, .int .i64 x2, .int .i64 x3, .int .i64 x4]) := Lib.hid (by rw [← hwa]; exact Blk.new wr _ _)
      have UA : Hid (Upd (fun k => w.heap.size ≤ k) w wa) := Lib.hid (by rw [← hwa]; exact HU.out.alloc _)
      have HSZ : Hid (B2 ≤ wr.heap.size ∧ B2 ≤ wa.heap.size) := Lib.hid ⟨HBw.out, by rw [← hwa]; have := HBw.out; simp; omega⟩
      have R1a : Hid (PortsC wa P1 B1 P1 cs i) := Lib.hid (by rw [← hwa]; exact R1.out.upd ((Upd.refl (fun _ => False) wr).alloc _) (fun _ _ _ h => h))
      have R2a : Hid (PortsC wa P2 B2 P2 cs i) := Lib.hid (by rw [← hwa]; exact R2.out.upd ((Upd.refl (fun _ => False) wr).alloc _) (fun _ _ _ h => h))
      have HWA := Lib.hid hwa
      clear hwa
      by_cases hk : x0 = 0 ∨ x0 = 1 ∨ x0 = 2
      · obtain ⟨r, hr⟩ : ∃ r, wrB cs x1 x2 = r := ⟨_, rfl⟩
        have HR := Lib.hid hr
        clear hr
        rcases hk with rfl | rfl | rfl
        all_goals
          generalize hg : wr.heap.size = g at *
          by_cases hin : 0 ≤ x2 ∧ x2 < len
          · obtain ⟨j, rfl⟩ : ∃ j : Nat, x2 = j := ⟨x2.toNat, by omega⟩
            obtain ⟨b', o', rfl, hb', e0, e1, e2, e3⟩ := HC.out j (by omega)
            obtain ⟨⟨y0, y1, y2, y3⟩, hY⟩ : ∃ q, X j = q := ⟨_, rfl⟩
            have hcj : cs[j]? = some (chX (X j)) := by rw [← HCS.out]; unfold chL; rw [List.getElem?_map, List.getElem?_range (by omega)]; rfl
            rw [hY] at e0 e1 e2 e3 hcj
            dsimp only at e0 e1 e2 e3
            have KE : Hid (∀ wx, Upd (fun k => w.heap.size ≤ k) w wx → wx.cell? ⟨b', o' + j * 4 + 1, none⟩ = some (.int .i64 y1)) := Lib.hid (fun wx hu => (hu.cell (p := ⟨b', o' + j * 4 + 1, none⟩) hb' (by simp only; omega)).trans e1)
            have dlt : decide ((j : Int) < (len : Int)) = true := decide_eq_true (by omega)
            have HJ : Hid (j < len ∧ cs[j]? = some (chX (y0, y1, y2, y3))) := Lib.hid ⟨by omega, hcj⟩
            clear e0 e1 e2 e3 hY hcj
            by_cases hf : y1 = x1
            · subst hf
              obtain rfl : true = r := by rw [← HR.out]; exact (wrB_yes HJ.out.2).symm
              go_wp2_with fail
              rw [HWA.out]
              refine (writeAny _ P1 B1 P1 cs i R1a.out (by omega) y1 (j : Int) x3 x4 true HR.out).mono ?_
              rintro e w4 ⟨he, hS4, hU4⟩
              have he' : e = .returned (.int .i64 0) := he
              clear he
              subst he'
              have BA4 := Lib.hid (BA.out.upd hU4 (fun h => by have := HBB.out; have := HSZ.out; omega))
              have U4 := Lib.hid (UA.out.trans (hU4.mono (fun k _ h => Nat.le_trans HP1.out h.1)))
              have R1b := Lib.hid hS4
              have R2b := Lib.hid (R2a.out.upd hU4 (fun k hk1 hk2 h => by have := HBB.out; omega))
              have HSZ4 : Hid (B2 ≤ w4.heap.size) := Lib.hid (Nat.le_trans HSZ.out.2 hU4.size)
              clear hS4 hU4 c0 c1 c2 c3 c4
              go_upto_region 14 with fail
              refine wp_region_tree (.q 0 (.q 2 (.q 3 (.q 4 (.q 5 (.q 6 (.q 7 (.q 8 (.q 9 (.q 10 (.l 1 (.l 11 (.l 12 (.q 13 (.q 14 (.q 15 (.q 18 (.q 19 (.q 20 (.l 16 (.q 17 (.q 21 (.q 22 (.q 23 (.q 24 (.q 25 (.q 26 (.q 27 (.q 28 (.q 29 (.q 30 (.q 31 (.q 32 (.q 33 (.q 34 (.q 35 (.q 36 (.q 37 (.q 38 (.q 39 (.q 40 .d))))))))))))))))))))))))))))))))))))))))) (fun i => decide (41 ≤ i ∧ i < 41)) (fun w' => w'.cell? ⟨g, 1, none⟩ = some (.int .i64 y1) ∧ w'.cell? ⟨g, 2, none⟩ = some (.int .i64 (j : Int)) ∧ w'.cell? ⟨g, 3, none⟩ = some (.int .i64 x3) ∧ w'.cell? ⟨g, 4, none⟩ = some (.int .i64 x4) ∧ w'.cell? ⟨b', o' + j * 4 + 1, none⟩ = some (.int .i64 y1))
                (by kernel_rfl) (by kernel_rfl) (fun t ht => (of_decide_eq_true ht).2) (fun _ _ _ _ _ h => h) (by kernel_rfl) rfl ⟨(BA4.out.drew).cell 1, (BA4.out.drew).cell 2, (BA4.out.drew).cell 3, (BA4.out.drew).cell 4, KE.out _ (U4.out.drew)⟩ ?_
              iterate 10
                first
                | refine wpOT_skip (by rfl) (by rfl) ?_
                | (refine' wpOT_q (by rfl) (by rfl) (fun w' hS' => ?_) ?_
                   rotate_left
                   · obtain ⟨s1, s2, s3, s4, s5⟩ := hS'
                     go_simp
                     try rfl)
                try simp only [Act.put, List.setIfInBounds_toArray, List.set_cons_zero, List.set_cons_succ]
              refine wpOT_l (by rfl) (by rfl) (fun KQ hKQ => ?_)
              go_simp
              go_at_call 9
              refine (numO _ 0).mono ?_
              rintro e w5 ⟨rfl, k5, rfl⟩
              refine hKQ _ _ (.inr ⟨((BA4.out.drewN 1).drewN k5).cell 1, ((BA4.out.drewN 1).drewN k5).cell 2, ((BA4.out.drewN 1).drewN k5).cell 3, ((BA4.out.drewN 1).drewN k5).cell 4, KE.out _ ((U4.out.drewN 1).drewN k5)⟩) ?_
              clear hKQ KQ
              try simp only [Act.put, List.setIfInBounds_toArray, List.set_cons_zero, List.set_cons_succ]
              refine wpOT_l (by rfl) (by rfl) (fun KQ hKQ => ?_)
              go_simp
              go_at_call 10
              refine (writeAny _ P2 B2 P2 cs i (R2b.out.upd ((Upd.refl (fun _ => False) w4).drewN _) (fun _ _ _ h => h)) (by omega) y1 (j : Int) x3 x4 true HR.out).mono ?_
              rintro e w6 ⟨rfl, hS6, hU6⟩
              have BA6 := Lib.hid ((BA4.out.drewN _).upd hU6 (fun h => by have := HSZ.out; omega))
              have U6 := Lib.hid ((U4.out.drewN _).trans (hU6.mono (fun k _ h => Nat.le_trans HP2.out h.1)))
              have R1c := Lib.hid ((R1b.out.upd ((Upd.refl (fun _ => False) w4).drewN _) (fun _ _ _ h => h)).upd hU6 (fun k _ hk2 h => by have := HBB.out; omega))
              have R2c := Lib.hid hS6
              have HSZ6 : Hid (B2 ≤ w6.heap.size) := Lib.hid (Nat.le_trans HSZ4.out hU6.size)
              clear hS6 hU6
              simp only [if_pos]
              refine hKQ _ _ (.inr ⟨BA6.out.cell 1, BA6.out.cell 2, BA6.out.cell 3, BA6.out.cell 4, KE.out _ U6.out⟩) ?_
              clear hKQ KQ
              try simp only [Act.put, List.setIfInBounds_toArray, List.set_cons_zero, List.set_cons_succ]
              refine wpOT_l (by rfl) (by rfl) (fun KQ hKQ => ?_)
              go_simp
              go_at_call 9
              refine (numO _ 0).mono ?_
              rintro e w7 ⟨rfl, k7, rfl⟩
              refine hKQ _ _ (.inr ⟨(BA6.out.drewN k7).cell 1, (BA6.out.drewN k7).cell 2, (BA6.out.drewN k7).cell 3, (BA6.out.drewN k7).cell 4, KE.out _ (U6.out.drewN k7)⟩) ?_
              clear hKQ KQ
              try simp only [Act.put, List.setIfInBounds_toArray, List.set_cons_zero, List.set_cons_succ]
              iterate 6
                first
                | refine wpOT_skip (by rfl) (by rfl) ?_
                | (refine' wpOT_q (by rfl) (by rfl) (fun w' hS' => ?_) ?_
                   rotate_left
                   · obtain ⟨s1, s2, s3, s4, s5⟩ := hS'
                     go_simp
                     try rfl)
                try simp only [Act.put, List.setIfInBounds_toArray, List.set_cons_zero, List.set_cons_succ]
              refine wpOT_l (by rfl) (by rfl) (fun KQ hKQ => ?_)
              go_simp
              go_at_call 9
              refine (numO _ 0).mono ?_
              rintro e w8 ⟨rfl, k8, rfl⟩
              refine hKQ _ _ (.inr ⟨((BA6.out.drewN k7).drewN k8).cell 1, ((BA6.out.drewN k7).drewN k8).cell 2, ((BA6.out.drewN k7).drewN k8).cell 3, ((BA6.out.drewN k7).drewN k8).cell 4, KE.out _ ((U6.out.drewN k7).drewN k8)⟩) ?_
              clear hKQ KQ
              try simp only [Act.put, List.setIfInBounds_toArray, List.set_cons_zero, List.set_cons_succ]
              iterate 21
                first
                | refine wpOT_skip (by rfl) (by rfl) ?_
                | (refine' wpOT_q (by rfl) (by rfl) (fun w' hS' => ?_) ?_
                   rotate_left
                   · obtain ⟨s1, s2, s3, s4, s5⟩ := hS'
                     go_simp
                     try rfl)
                try simp only [Act.put, List.setIfInBounds_toArray, List.set_cons_zero, List.set_cons_succ]
              refine wpOT_d ?_
              go_wp2_with fail
              go_roundw
              case rel => exact ⟨i + 1, by omega, by go_num, (R1c.out.upd ((Upd.refl (fun _ => False) _).drewN _) (fun _ _ _ h => h)).mono (by simp), (R2c.out.upd ((Upd.refl (fun _ => False) _).drewN _) (fun _ _ _ h => h)).mono (by simp), U6.out.drewN _, HSZ6.out⟩
              case measure => simp [intOf]; omega
            · have df : decide (y1 = x1) = false := decide_eq_false hf
              obtain rfl : false = r := by rw [← HR.out]; exact (wrB_not HJ.out.2 hf).symm
              go_wp2_with fail
              rw [HWA.out]
              refine (writeAny _ P1 B1 P1 cs i R1a.out (by omega) x1 (j : Int) x3 x4 false HR.out).mono ?_
              rintro e w4 ⟨he, hS4, hU4⟩
              have he' : e = .returned (.int .i64 1) := he
              clear he
              subst he'
              have BA4 := Lib.hid (BA.out.upd hU4 (fun h => by have := HBB.out; have := HSZ.out; omega))
              have U4 := Lib.hid (UA.out.trans (hU4.mono (fun k _ h => Nat.le_trans HP1.out h.1)))
              have R1b := Lib.hid hS4
              have R2b := Lib.hid (R2a.out.upd hU4 (fun k hk1 hk2 h => by have := HBB.out; omega))
              have HSZ4 : Hid (B2 ≤ w4.heap.size) := Lib.hid (Nat.le_trans HSZ.out.2 hU4.size)
              clear hS4 hU4 c0 c1 c2 c3 c4
              go_upto_region 14 with fail
              refine wp_region_tree (.q 0 (.q 2 (.q 3 (.q 4 (.q 5 (.q 6 (.q 7 (.q 8 (.q 9 (.q 10 (.l 1 (.l 11 (.l 12 (.q 13 (.q 14 (.q 15 (.q 18 (.q 19 (.q 20 (.l 16 (.q 17 (.q 21 (.q 22 (.q 23 (.q 24 (.q 25 (.q 26 (.q 27 (.q 28 (.q 29 (.q 30 (.q 31 (.q 32 (.q 33 (.q 34 (.q 35 (.q 36 (.q 37 (.q 38 (.q 39 (.q 40 .d))))))))))))))))))))))))))))))))))))))))) (fun i => decide (41 ≤ i ∧ i < 41)) (fun w' => w'.cell? ⟨g, 1, none⟩ = some (.int .i64 x1) ∧ w'.cell? ⟨g, 2, none⟩ = some (.int .i64 (j : Int)) ∧ w'.cell? ⟨g, 3, none⟩ = some (.int .i64 x3) ∧ w'.cell? ⟨g, 4, none⟩ = some (.int .i64 x4) ∧ w'.cell? ⟨b', o' + j * 4 + 1, none⟩ = some (.int .i64 y1))
                (by kernel_rfl) (by kernel_rfl) (fun t ht => (of_decide_eq_true ht).2) (fun _ _ _ _ _ h => h) (by kernel_rfl) rfl ⟨(BA4.out.drew).cell 1, (BA4.out.drew).cell 2, (BA4.out.drew).cell 3, (BA4.out.drew).cell 4, KE.out _ (U4.out.drew)⟩ ?_
              iterate 10
                first
                | refine wpOT_skip (by rfl) (by rfl) ?_
                | (refine' wpOT_q (by rfl) (by rfl) (fun w' hS' => ?_) ?_
                   rotate_left
                   · obtain ⟨s1, s2, s3, s4, s5⟩ := hS'
                     go_simp
                     try rfl)
                try simp only [Act.put, List.setIfInBounds_toArray, List.set_cons_zero, List.set_cons_succ]
              refine wpOT_l (by rfl) (by rfl) (fun KQ hKQ => ?_)
              go_simp
              go_at_call 9
              refine (numO _ 1).mono ?_
              rintro e w5 ⟨rfl, k5, rfl⟩
              refine hKQ _ _ (.inr ⟨((BA4.out.drewN 1).drewN k5).cell 1, ((BA4.out.drewN 1).drewN k5).cell 2, ((BA4.out.drewN 1).drewN k5).cell 3, ((BA4.out.drewN 1).drewN k5).cell 4, KE.out _ ((U4.out.drewN 1).drewN k5)⟩) ?_
              clear hKQ KQ
              try simp only [Act.put, List.setIfInBounds_toArray, List.set_cons_zero, List.set_cons_succ]
              refine wpOT_l (by rfl) (by rfl) (fun KQ hKQ => ?_)
              go_simp
              go_at_call 10
              refine (writeAny _ P2 B2 P2 cs i (R2b.out.upd ((Upd.refl (fun _ => False) w4).drewN _) (fun _ _ _ h => h)) (by omega) x1 (j : Int) x3 x4 false HR.out).mono ?_
              rintro e w6 ⟨rfl, hS6, hU6⟩
              have BA6 := Lib.hid ((BA4.out.drewN _).upd hU6 (fun h => by have := HSZ.out; omega))
              have U6 := Lib.hid ((U4.out.drewN _).trans (hU6.mono (fun k _ h => Nat.le_trans HP2.out h.1)))
              have R1c := Lib.hid ((R1b.out.upd ((Upd.refl (fun _ => False) w4).drewN _) (fun _ _ _ h => h)).upd hU6 (fun k _ hk2 h => by have := HBB.out; omega))
              have R2c := Lib.hid hS6
              have HSZ6 : Hid (B2 ≤ w6.heap.size) := Lib.hid (Nat.le_trans HSZ4.out hU6.size)
              clear hS6 hU6
              simp only [Bool.false_eq_true, if_false]
              refine hKQ _ _ (.inr ⟨BA6.out.cell 1, BA6.out.cell 2, BA6.out.cell 3, BA6.out.cell 4, KE.out _ U6.out⟩) ?_
              clear hKQ KQ
              try simp only [Act.put, List.setIfInBounds_toArray, List.set_cons_zero, List.set_cons_succ]
              refine wpOT_l (by rfl) (by rfl) (fun KQ hKQ => ?_)
              go_simp
              go_at_call 9
              refine (numO _ 1).mono ?_
              rintro e w7 ⟨rfl, k7, rfl⟩
              refine hKQ _ _ (.inr ⟨(BA6.out.drewN k7).cell 1, (BA6.out.drewN k7).cell 2, (BA6.out.drewN k7).cell 3, (BA6.out.drewN k7).cell 4, KE.out _ (U6.out.drewN k7)⟩) ?_
              clear hKQ KQ
              try simp only [Act.put, List.setIfInBounds_toArray, List.set_cons_zero, List.set_cons_succ]
              iterate 6
                first
                | refine wpOT_skip (by rfl) (by rfl) ?_
                | (refine' wpOT_q (by rfl) (by rfl) (fun w' hS' => ?_) ?_
                   rotate_left
                   · obtain ⟨s1, s2, s3, s4, s5⟩ := hS'
                     go_simp
                     try rfl)
                try simp only [Act.put, List.setIfInBounds_toArray, List.set_cons_zero, List.set_cons_succ]
              refine wpOT_l (by rfl) (by rfl) (fun KQ hKQ => ?_)
              go_simp
              go_at_call 9
              refine (numO _ 1).mono ?_
              rintro e w8 ⟨rfl, k8, rfl⟩
              refine hKQ _ _ (.inr ⟨((BA6.out.drewN k7).drewN k8).cell 1, ((BA6.out.drewN k7).drewN k8).cell 2, ((BA6.out.drewN k7).drewN k8).cell 3, ((BA6.out.drewN k7).drewN k8).cell 4, KE.out _ ((U6.out.drewN k7).drewN k8)⟩) ?_
              clear hKQ KQ
              try simp only [Act.put, List.setIfInBounds_toArray, List.set_cons_zero, List.set_cons_succ]
              iterate 21
                first
                | refine wpOT_skip (by rfl) (by rfl) ?_
                | (refine' wpOT_q (by rfl) (by rfl) (fun w' hS' => ?_) ?_
                   rotate_left
                   · obtain ⟨s1, s2, s3, s4, s5⟩ := hS'
                     go_simp
                     try rfl)
                try simp only [Act.put, List.setIfInBounds_toArray, List.set_cons_zero, List.set_cons_succ]
              refine wpOT_d ?_
              go_wp2_with fail
              go_roundw
              case rel => exact ⟨i + 1, by omega, by go_num, (R1c.out.upd ((Upd.refl (fun _ => False) _).drewN _) (fun _ _ _ h => h)).mono (by simp), (R2c.out.upd ((Upd.refl (fun _ => False) _).drewN _) (fun _ _ _ h => h)).mono (by simp), U6.out.drewN _, HSZ6.out⟩
              case measure => simp [intOf]; omega
          · obtain rfl : false = r := by rw [← HR.out]; exact (wrB_out (by rw [HCL.out]; exact hin)).symm
            by_cases h0 : 0 ≤ x2
            · have dg : decide (0 ≤ x2) = true := decide_eq_true h0
              have dlt : decide (x2 < (len : Int)) = false := decide_eq_false (by omega)
              go_wp2_with fail
              rw [HWA.out]
              refine (writeAny _ P1 B1 P1 cs i R1a.out (by omega) x1 x2 x3 x4 false HR.out).mono ?_
              rintro e w4 ⟨he, hS4, hU4⟩
              have he' : e = .returned (.int .i64 1) := he
              clear he
              subst he'
              have BA4 := Lib.hid (BA.out.upd hU4 (fun h => by have := HBB.out; have := HSZ.out; omega))
              have U4 := Lib.hid (UA.out.trans (hU4.mono (fun k _ h => Nat.le_trans HP1.out h.1)))
              have R1b := Lib.hid hS4
              have R2b := Lib.hid (R2a.out.upd hU4 (fun k hk1 hk2 h => by have := HBB.out; omega))
              have HSZ4 : Hid (B2 ≤ w4.heap.size) := Lib.hid (Nat.le_trans HSZ.out.2 hU4.size)
              clear hS4 hU4 c0 c1 c2 c3 c4
              go_upto_region 14 with fail
              refine wp_region_tree (.q 0 (.q 2 (.q 3 (.q 4 (.q 5 (.q 6 (.q 7 (.q 8 (.q 9 (.q 10 (.l 1 (.l 11 (.l 12 (.q 13 (.q 14 (.q 15 (.q 18 (.q 19 (.q 20 (.l 16 (.q 17 (.q 21 (.q 22 (.q 23 (.q 24 (.q 25 (.q 26 (.q 27 (.q 28 (.q 29 (.q 30 (.q 31 (.q 32 (.q 33 (.q 34 (.q 35 (.q 36 (.q 37 (.q 38 (.q 39 (.q 40 .d))))))))))))))))))))))))))))))))))))))))) (fun i => decide (41 ≤ i ∧ i < 41)) (fun w' => w'.cell? ⟨g, 1, none⟩ = some (.int .i64 x1) ∧ w'.cell? ⟨g, 2, none⟩ = some (.int .i64 x2) ∧ w'.cell? ⟨g, 3, none⟩ = some (.int .i64 x3) ∧ w'.cell? ⟨g, 4, none⟩ = some (.int .i64 x4) ∧ True)
                (by kernel_rfl) (by kernel_rfl) (fun t ht => (of_decide_eq_true ht).2) (fun _ _ _ _ _ h => h) (by kernel_rfl) rfl ⟨(BA4.out.drew).cell 1, (BA4.out.drew).cell 2, (BA4.out.drew).cell 3, (BA4.out.drew).cell 4, trivial⟩ ?_
              iterate 10
                first
                | refine wpOT_skip (by rfl) (by rfl) ?_
                | (refine' wpOT_q (by rfl) (by rfl) (fun w' hS' => ?_) ?_
                   rotate_left
                   · obtain ⟨s1, s2, s3, s4, s5⟩ := hS'
                     go_simp
                     try rfl)
                try simp only [Act.put, List.setIfInBounds_toArray, List.set_cons_zero, List.set_cons_succ]
              refine wpOT_l (by rfl) (by rfl) (fun KQ hKQ => ?_)
              go_simp
              go_at_call 9
              refine (numO _ 1).mono ?_
              rintro e w5 ⟨rfl, k5, rfl⟩
              refine hKQ _ _ (.inr ⟨((BA4.out.drewN 1).drewN k5).cell 1, ((BA4.out.drewN 1).drewN k5).cell 2, ((BA4.out.drewN 1).drewN k5).cell 3, ((BA4.out.drewN 1).drewN k5).cell 4, trivial⟩) ?_
              clear hKQ KQ
              try simp only [Act.put, List.setIfInBounds_toArray, List.set_cons_zero, List.set_cons_succ]
              refine wpOT_l (by rfl) (by rfl) (fun KQ hKQ => ?_)
              go_simp
              go_at_call 10
              refine (writeAny _ P2 B2 P2 cs i (R2b.out.upd ((Upd.refl (fun _ => False) w4).drewN _) (fun _ _ _ h => h)) (by omega) x1 x2 x3 x4 false HR.out).mono ?_
              rintro e w6 ⟨rfl, hS6, hU6⟩
              have BA6 := Lib.hid ((BA4.out.drewN _).upd hU6 (fun h => by have := HSZ.out; omega))
              have U6 := Lib.hid ((U4.out.drewN _).trans (hU6.mono (fun k _ h => Nat.le_trans HP2.out h.1)))
              have R1c := Lib.hid ((R1b.out.upd ((Upd.refl (fun _ => False) w4).drewN _) (fun _ _ _ h => h)).upd hU6 (fun k _ hk2 h => by have := HBB.out; omega))
              have R2c := Lib.hid hS6
              have HSZ6 : Hid (B2 ≤ w6.heap.size) := Lib.hid (Nat.le_trans HSZ4.out hU6.size)
              clear hS6 hU6
              simp only [Bool.false_eq_true, if_false]
              refine hKQ _ _ (.inr ⟨BA6.out.cell 1, BA6.out.cell 2, BA6.out.cell 3, BA6.out.cell 4, trivial⟩) ?_
              clear hKQ KQ
              try simp only [Act.put, List.setIfInBounds_toArray, List.set_cons_zero, List.set_cons_succ]
              refine wpOT_l (by rfl) (by rfl) (fun KQ hKQ => ?_)
              go_simp
              go_at_call 9
              refine (numO _ 1).mono ?_
              rintro e w7 ⟨rfl, k7, rfl⟩
              refine hKQ _ _ (.inr ⟨(BA6.out.drewN k7).cell 1, (BA6.out.drewN k7).cell 2, (BA6.out.drewN k7).cell 3, (BA6.out.drewN k7).cell 4, trivial⟩) ?_
              clear hKQ KQ
              try simp only [Act.put, List.setIfInBounds_toArray, List.set_cons_zero, List.set_cons_succ]
              iterate 6
                first
                | refine wpOT_skip (by rfl) (by rfl) ?_
                | (refine' wpOT_q (by rfl) (by rfl) (fun w' hS' => ?_) ?_
                   rotate_left
                   · obtain ⟨s1, s2, s3, s4, s5⟩ := hS'
                     go_simp
                     try rfl)
                try simp only [Act.put, List.setIfInBounds_toArray, List.set_cons_zero, List.set_cons_succ]
              refine wpOT_l (by rfl) (by rfl) (fun KQ hKQ => ?_)
              go_simp
              go_at_call 9
              refine (numO _ 1).mono ?_
              rintro e w8 ⟨rfl, k8, rfl⟩
              refine hKQ _ _ (.inr ⟨((BA6.out.drewN k7).drewN k8).cell 1, ((BA6.out.drewN k7).drewN k8).cell 2, ((BA6.out.drewN k7).drewN k8).cell 3, ((BA6.out.drewN k7).drewN k8).cell 4, trivial⟩) ?_
              clear hKQ KQ
              try simp only [Act.put, List.setIfInBounds_toArray, List.set_cons_zero, List.set_cons_succ]
              iterate 21
                first
                | refine wpOT_skip (by rfl) (by rfl) ?_
                | (refine' wpOT_q (by rfl) (by rfl) (fun w' hS' => ?_) ?_
                   rotate_left
                   · obtain ⟨s1, s2, s3, s4, s5⟩ := hS'
                     go_simp
                     try rfl)
                try simp only [Act.put, List.setIfInBounds_toArray, List.set_cons_zero, List.set_cons_succ]
              refine wpOT_d ?_
              go_wp2_with fail
              go_roundw
              case rel => exact ⟨i + 1, by omega, by go_num, (R1c.out.upd ((Upd.refl (fun _ => False) _).drewN _) (fun _ _ _ h => h)).mono (by simp), (R2c.out.upd ((Upd.refl (fun _ => False) _).drewN _) (fun _ _ _ h => h)).mono (by simp), U6.out.drewN _, HSZ6.out⟩
              case measure => simp [intOf]; omega
            · have dg : decide (0 ≤ x2) = false := decide_eq_false h0
              go_wp2_with fail
              rw [HWA.out]
              refine (writeAny _ P1 B1 P1 cs i R1a.out (by omega) x1 x2 x3 x4 false HR.out).mono ?_
              rintro e w4 ⟨he, hS4, hU4⟩
              have he' : e = .returned (.int .i64 1) := he
              clear he
              subst he'
              have BA4 := Lib.hid (BA.out.upd hU4 (fun h => by have := HBB.out; have := HSZ.out; omega))
              have U4 := Lib.hid (UA.out.trans (hU4.mono (fun k _ h => Nat.le_trans HP1.out h.1)))
              have R1b := Lib.hid hS4
              have R2b := Lib.hid (R2a.out.upd hU4 (fun k hk1 hk2 h => by have := HBB.out; omega))
              have HSZ4 : Hid (B2 ≤ w4.heap.size) := Lib.hid (Nat.le_trans HSZ.out.2 hU4.size)
              clear hS4 hU4 c0 c1 c2 c3 c4
              go_upto_region 14 with fail
              refine wp_region_tree (.q 0 (.q 2 (.q 3 (.q 4 (.q 5 (.q 6 (.q 7 (.q 8 (.q 9 (.q 10 (.l 1 (.l 11 (.l 12 (.q 13 (.q 14 (.q 15 (.q 18 (.q 19 (.q 20 (.l 16 (.q 17 (.q 21 (.q 22 (.q 23 (.q 24 (.q 25 (.q 26 (.q 27 (.q 28 (.q 29 (.q 30 (.q 31 (.q 32 (.q 33 (.q 34 (.q 35 (.q 36 (.q 37 (.q 38 (.q 39 (.q 40 .d))))))))))))))))))))))))))))))))))))))))) (fun i => decide (41 ≤ i ∧ i < 41)) (fun w' => w'.cell? ⟨g, 1, none⟩ = some (.int .i64 x1) ∧ w'.cell? ⟨g, 2, none⟩ = some (.int .i64 x2) ∧ w'.cell? ⟨g, 3, none⟩ = some (.int .i64 x3) ∧ w'.cell? ⟨g, 4, none⟩ = some (.int .i64 x4) ∧ True)
                (by kernel_rfl) (by kernel_rfl) (fun t ht => (of_decide_eq_true ht).2) (fun _ _ _ _ _ h => h) (by kernel_rfl) rfl ⟨(BA4.out.drew).cell 1, (BA4.out.drew).cell 2, (BA4.out.drew).cell 3, (BA4.out.drew).cell 4, trivial⟩ ?_
              iterate 10
                first
                | refine wpOT_skip (by rfl) (by rfl) ?_
                | (refine' wpOT_q (by rfl) (by rfl) (fun w' hS' => ?_) ?_
                   rotate_left
                   · obtain ⟨s1, s2, s3, s4, s5⟩ := hS'
                     go_simp
                     try rfl)
                try simp only [Act.put, List.setIfInBounds_toArray, List.set_cons_zero, List.set_cons_succ]
              refine wpOT_l (by rfl) (by rfl) (fun KQ hKQ => ?_)
              go_simp
              go_at_call 9
              refine (numO _ 1).mono ?_
              rintro e w5 ⟨rfl, k5, rfl⟩
              refine hKQ _ _ (.inr ⟨((BA4.out.drewN 1).drewN k5).cell 1, ((BA4.out.drewN 1).drewN k5).cell 2, ((BA4.out.drewN 1).drewN k5).cell 3, ((BA4.out.drewN 1).drewN k5).cell 4, trivial⟩) ?_
              clear hKQ KQ
              try simp only [Act.put, List.setIfInBounds_toArray, List.set_cons_zero, List.set_cons_succ]
              refine wpOT_l (by rfl) (by rfl) (fun KQ hKQ => ?_)
              go_simp
              go_at_call 10
              refine (writeAny _ P2 B2 P2 cs i (R2b.out.upd ((Upd.refl (fun _ => False) w4).drewN _) (fun _ _ _ h => h)) (by omega) x1 x2 x3 x4 false HR.out).mono ?_
              rintro e w6 ⟨rfl, hS6, hU6⟩
              have BA6 := Lib.hid ((BA4.out.drewN _).upd hU6 (fun h => by have := HSZ.out; omega))
              have U6 := Lib.hid ((U4.out.drewN _).trans (hU6.mono (fun k _ h => Nat.le_trans HP2.out h.1)))
              have R1c := Lib.hid ((R1b.out.upd ((Upd.refl (fun _ => False) w4).drewN _) (fun _ _ _ h => h)).upd hU6 (fun k _ hk2 h => by have := HBB.out; omega))
              have R2c := Lib.hid hS6
              have HSZ6 : Hid (B2 ≤ w6.heap.size) := Lib.hid (Nat.le_trans HSZ4.out hU6.size)
              clear hS6 hU6
              simp only [Bool.false_eq_true, if_false]
              refine hKQ _ _ (.inr ⟨BA6.out.cell 1, BA6.out.cell 2, BA6.out.cell 3, BA6.out.cell 4, trivial⟩) ?_
              clear hKQ KQ
              try simp only [Act.put, List.setIfInBounds_toArray, List.set_cons_zero, List.set_cons_succ]
              refine wpOT_l (by rfl) (by rfl) (fun KQ hKQ => ?_)
              go_simp
              go_at_call 9
              refine (numO _ 1).mono ?_
              rintro e w7 ⟨rfl, k7, rfl⟩
              refine hKQ _ _ (.inr ⟨(BA6.out.drewN k7).cell 1, (BA6.out.drewN k7).cell 2, (BA6.out.drewN k7).cell 3, (BA6.out.drewN k7).cell 4, trivial⟩) ?_
              clear hKQ KQ
              try simp only [Act.put, List.setIfInBounds_toArray, List.set_cons_zero, List.set_cons_succ]
              iterate 6
                first
                | refine wpOT_skip (by rfl) (by rfl) ?_
                | (refine' wpOT_q (by rfl) (by rfl) (fun w' hS' => ?_) ?_
                   rotate_left
                   · obtain ⟨s1, s2, s3, s4, s5⟩ := hS'
                     go_simp
                     try rfl)
                try simp only [Act.put, List.setIfInBounds_toArray, List.set_cons_zero, List.set_cons_succ]
              refine wpOT_l (by rfl) (by rfl) (fun KQ hKQ => ?_)
              go_simp
              go_at_call 9
              refine (numO _ 1).mono ?_
              rintro e w8 ⟨rfl, k8, rfl⟩
              refine hKQ _ _ (.inr ⟨((BA6.out.drewN k7).drewN k8).cell 1, ((BA6.out.drewN k7).drewN k8).cell 2, ((BA6.out.drewN k7).drewN k8).cell 3, ((BA6.out.drewN k7).drewN k8).cell 4, trivial⟩) ?_
              clear hKQ KQ
              try simp only [Act.put, List.setIfInBounds_toArray, List.set_cons_zero, List.set_cons_succ]
              iterate 21
                first
                | refine wpOT_skip (by rfl) (by rfl) ?_
                | (refine' wpOT_q (by rfl) (by rfl) (fun w' hS' => ?_) ?_
                   rotate_left
                   · obtain ⟨s1, s2, s3, s4, s5⟩ := hS'
                     go_simp
                     try rfl)
                try simp only [Act.put, List.setIfInBounds_toArray, List.set_cons_zero, List.set_cons_succ]
              refine wpOT_d ?_
              go_wp2_with fail
              go_roundw
              case rel => exact ⟨i + 1, by omega, by go_num, (R1c.out.upd ((Upd.refl (fun _ => False) _).drewN _) (fun _ _ _ h => h)).mono (by simp), (R2c.out.upd ((Upd.refl (fun _ => False) _).drewN _) (fun _ _ _ h => h)).mono (by simp), U6.out.drewN _, HSZ6.out⟩
              case measure => simp [intOf]; omega
      · by_cases hk2 : x0 = 3 ∨ x0 = 4 ∨ x0 = 5
        · rcases hk2 with rfl | rfl | rfl
          all_goals
            go_wp2_with fail
            rw [HWA.out]
            refine (readAny _ P1 B1 P1 cs i R1a.out x1 x2 0).mono ?_
            rintro e w4 ⟨⟨q1, q2, q3, rfl⟩, hS4, hU4⟩
            have U4 := Lib.hid (UA.out.trans (hU4.mono (fun k _ h => Nat.le_trans HP1.out h.1)))
            have R1b := Lib.hid hS4
            have R2b := Lib.hid (R2a.out.upd hU4 (fun k hk1 hk2 h => by have := HBB.out; omega))
            have HSZ4 : Hid (B2 ≤ w4.heap.size) := Lib.hid (Nat.le_trans HSZ.out.2 hU4.size)
            clear hS4 hU4
            go_wp2_with fail
            go_roundw
            case rel => exact ⟨i + 1, by omega, by go_num, R1b.out.mono (by omega), R2b.out.mono (by omega), U4.out, HSZ4.out⟩
            case measure => simp [intOf]; omega
        · by_cases hk3 : x0 = 6
          · subst hk3
            go_wp2_with fail
            rw [HWA.out]
            refine (clearAny _ P1 B1 P1 cs i R1a.out (by rw [HCL.out]; omega) x1).mono ?_
            rintro e w4 ⟨rfl, hS4, hU4⟩
            have U4 := Lib.hid (UA.out.trans (hU4.mono (fun k _ h => Nat.le_trans HP1.out h.1)))
            have R1b := Lib.hid hS4
            have R2b := Lib.hid (R2a.out.upd hU4 (fun k hk1 hk2 h => by have := HBB.out; omega))
            have HSZ4 : Hid (B2 ≤ w4.heap.size) := Lib.hid (Nat.le_trans HSZ.out.2 hU4.size)
            clear hS4 hU4
            go_wp2_with fail
            go_roundw
            case rel => exact ⟨i + 1, by omega, by go_num, R1b.out.mono (by omega), R2b.out.mono (by omega), U4.out, HSZ4.out⟩
            case measure => simp [intOf]; omega
          · have t0 : decide (x0 = 0) = false := decide_eq_false (by omega)
            have t1 : decide (x0 = 1) = false := decide_eq_false (by omega)
            have t2 : decide (x0 = 2) = false := decide_eq_false (by omega)
            have t3 : decide (x0 = 3) = false := decide_eq_false (by omega)
            have t4 : decide (x0 = 4) = false := decide_eq_false (by omega)
            have t5 : decide (x0 = 5) = false := decide_eq_false (by omega)
            have t6 : decide (x0 = 6) = false := decide_eq_false hk3
            go_wp2_with fail
            go_roundw
            case rel => exact ⟨i + 1, by omega, by go_num, (R1.out.upd ((Upd.refl (fun _ => False) wr).alloc _) (fun _ _ _ h => h)).mono (by omega), (R2.out.upd ((Upd.refl (fun _ => False) wr).alloc _) (fun _ _ _ h => h)).mono (by omega), HU.out.alloc _, by have := HBw.out; simp; omega⟩
            case measure => simp [intOf]; omega
    · have hie : i = alen := by omega
      subst hie
      go_wp2_with fail
      go_returns
      exact ⟨rfl, HU.out.mono (fun k hk h => by omega)⟩
end Go.Proofs.Ytnhgmommehjeoaa
