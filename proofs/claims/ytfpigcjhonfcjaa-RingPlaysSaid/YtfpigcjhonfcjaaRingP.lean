/-
  RingPlays: a row does and tells what the document says, act by act.
-/
import Derived.Test.YtfpigcjhonfcjaaRingB
import Derived.Deep.CutBlock
import Derived.Deep.CutRange
namespace Go.Proofs.Ytfpigcjhonfcjaa
open Go.RowKit

/-- Behind some acts. -/
def PlaysR (w wr : World) (g d s base m : Nat) : Prop := ∃ l, RSt wr g d m l ∧ RRef wr base s m l ∧ Below w.heap.size w wr ∧ base ≤ wr.heap.size

set_option maxRecDepth 100000 in
set_option maxHeartbeats 6400000 in
theorem playsR_any (w : World) (room : Int) (_ : (Lit.int .i64 room).wf = true) (A : Option Addr) (len cap : Nat) (xs : Nat → Nat → Int) (_ : ∀ k j, k < len → j < 3 → (Lit.int .i64 (xs k j)).wf = true) (hc : Row3 w A len xs) :
    Calls Try.prog 6 #[.int .i64 room, .slice A len cap] w fun e w' => e = .returned (.bool true) ∧ Below w.heap.size w w' := by
  by_cases hl : 200 < len
  · have e0 : decide ((200 : Int) < (len : Int)) = true := decide_eq_true (by omega)
    clear hc
    go_enter Try.func6, Try.ntmps6
    go_wp2_with fail
    refine (knows14 _).mono ?_
    rintro e w1 ⟨rfl, hB1⟩
    go_wp2_with fail
    go_ret
    exact ⟨rfl, hB1⟩
  · have e0 : decide ((200 : Int) < (len : Int)) = false := decide_eq_false (by omega)
    have HC := Lib.hid hc; clear hc
    obtain ⟨m, hm⟩ : ∃ m : Nat, min (max room 0) 4096 = m := ⟨(min (max room 0) 4096).toNat, by omega⟩
    have hm6 : m ≤ 4096 := by omega
    have HM := Lib.hid hm; clear hm
    go_enter Try.func6, Try.ntmps6
    go_wp2_with fail
    refine (knows14 _).mono ?_
    rintro e w1 ⟨rfl, hB1⟩
    have HB1 := Lib.hid hB1; clear hB1
    go_wp2_with fail
    refine (newI_any _ room m HM.out).mono ?_
    rintro e w2 ⟨g, d, rfl, hg, hd, hL, hB⟩
    have hg2 : g < w2.heap.size := hL.lt.1
    have hd2 : d < w2.heap.size := hL.lt.2
    have HL := Lib.hid hL; clear hL
    have HB2 := Lib.hid (chn HB1.out hB); clear hB
    have hge : w.heap.size ≤ g := by have := HB1.out.size; omega
    have hde : w.heap.size ≤ d := by have := HB1.out.size; omega
    go_wp2_with fail
    refine (newRR _ room m HM.out).mono ?_
    rintro e w3 ⟨s, rfl, hs, hR, hB⟩
    have HL3 := Lib.hid (HL.out.upd (Upd.of_below hB) (Nat.not_le_of_lt hg2) (Nat.not_le_of_lt hd2))
    have hsl := hR.lt
    have hw2 : w.heap.size ≤ w2.heap.size := HB2.out.size
    have HB3 := Lib.hid (chn HB2.out hB); clear hB
    have HR := Lib.hid hR; clear hR
    have hwb : w.heap.size ≤ w2.heap.size + 1 := by omega
    have hgb : g < w2.heap.size + 1 := by omega
    have hdb : d < w2.heap.size + 1 := by omega
    have hsb : s < w2.heap.size + 1 := hsl.2
    have hse : w.heap.size ≤ s := by omega
    have hgs : g ≠ s := by omega
    have hds : d ≠ s := by omega
    have hbs : w2.heap.size + 1 ≤ w3.heap.size := by omega
    generalize w2.heap.size + 1 = base at *
    clear HL HB2 hg2 hd2 hs hw2 hsl hg hd
    go_wp2_with fail
    go_loopw [7] (fun vi wr => ∃ i : Nat, i ≤ len ∧ vi = .int .i64 i ∧ PlaysR w wr g d s base m) (fun vi _ => len - (intOf vi).toNat)
    case atStart => exact ⟨0, by omega, rfl, [], HL3.out, HR.out, HB3.out, hbs⟩
    case round =>
      clear HL3 HB3 HR hbs
      obtain ⟨i, hi, rfl, l, hL, hR, hB, hbs⟩ := hrel
      by_cases hlt : i < len
      · obtain ⟨b, o, rfl, hab, h0, h1, h2⟩ := HC.out i hlt
        have h0 := (hB.cell (p := ⟨b, o + i * 3, none⟩) hab).trans h0
        have h1 := (hB.cell (p := ⟨b, o + i * 3 + 1, none⟩) hab).trans h1
        have h2 := (hB.cell (p := ⟨b, o + i * 3 + 2, none⟩) hab).trans h2
        generalize xs i 0 = kind at *
        generalize xs i 1 = I at *
        generalize xs i 2 = X at *
        have HLr := Lib.hid hL; clear hL
        have HRr := Lib.hid hR; clear hR
        have HBr := Lib.hid hB; clear hB
        have LA := Lib.hid (HLr.out.upd (((Upd.refl (fun _ => False) wr)).alloc (.cells #[.int .i64 kind, .int .i64 I, .int .i64 X] 59)) (fun h => h) (fun h => h))
        have RA := Lib.hid (HRr.out.upd (((Upd.refl (fun _ => False) wr)).alloc (.cells #[.int .i64 kind, .int .i64 I, .int .i64 X] 59)) (fun h => h) (fun _ _ _ h => h))
        have BA := Lib.hid (HBr.out.alloc HBr.out.size (.cells #[.int .i64 kind, .int .i64 I, .int .i64 X] 59))
        have hx := Blk.new wr 59 #[.int .i64 kind, .int .i64 I, .int .i64 X]
        have b1 : (wr.alloc (.cells #[.int .i64 kind, .int .i64 I, .int .i64 X] 59)).cell? ⟨wr.heap.size, 1, none⟩ = some (.int .i64 I) := hx.cell 1
        have b2 : (wr.alloc (.cells #[.int .i64 kind, .int .i64 I, .int .i64 X] 59)).cell? ⟨wr.heap.size, 2, none⟩ = some (.int .i64 X) := hx.cell 2
        have hql := hx.lt
        clear hx
        have B1 := Lib.hid b1; have B2 := Lib.hid b2; clear b1 b2
        have HQL := Lib.hid hql; clear hql
        have hbq := hbs
        go_upto_block 2 with fail
        clear h0 h1 h2 HLr HRr HBr hab HC
        generalize wr.alloc (.cells #[.int .i64 kind, .int .i64 I, .int .i64 X] 59) = wa at *
        generalize wr.heap.size = q at *
        clear wr
        have b1 := B1.out; have b2 := B2.out
        have hql := HQL.out
        have hqg : ¬ (q = g ∨ q = d) := by omega
        have hqs : q ≠ s := by omega
        have HQG := Lib.hid hqg; have HQS := Lib.hid hqs; clear hqg hqs
        have HGS : Hid (¬ (s = g ∨ s = d)) := Lib.hid (by omega)
        have HBG : Hid (∀ k, base ≤ k → ¬ (k = g ∨ k = d)) := Lib.hid (fun k hk => by omega)
        have HGE : Hid (∀ k, k = g ∨ k = d → w.heap.size ≤ k) := Lib.hid (fun k hk => by omega)
        go_cut [9, 10, 11, 12, 13] from 30 to 155 (fun s9 _ _ _ _ wx => s9 = .bool true ∧ ∃ l', RSt wx g d m l' ∧ RRef wx base s m l' ∧ Below w.heap.size w wx ∧ base ≤ wx.heap.size ∧ wx.cell? ⟨q, 1, none⟩ = some (.int .i64 I))
        case first =>
          by_cases hk0 : kind = 0
          · subst hk0
            go_wp2_with fail
            obtain ⟨pb, hpb⟩ : ∃ b, pushB m l = b := ⟨_, rfl⟩
            obtain ⟨l', hl'⟩ : ∃ l', pushL m l X = l' := ⟨_, rfl⟩
            have PB := Lib.hid hpb; have PL := Lib.hid hl'; clear hpb hl'
            have HLL := LA.out.room
            go_region_held3 (fun w' => w'.cell? ⟨q, 2, none⟩ = some (.int .i64 X))
              (first
                | exact b2
                | exact K2.out
                | exact J2.out)
              (first
                | (go_at_call 32
                   refine (pushI_any _ g d m l (by first | exact LA.out.drewN _ | exact (LA.out.drewN _).drewN _) X pb PB.out l' PL.out).mono ?_
                   rintro e w3 ⟨rfl, hL3, hU3⟩
                   have K1 := Lib.hid ((hU3.cell (p := ⟨q, 1, none⟩) (block_lt_of_cell b1) HQG.out).trans b1)
                   have K2 := Lib.hid ((hU3.cell (p := ⟨q, 2, none⟩) (block_lt_of_cell b2) HQG.out).trans b2)
                   have L3 := Lib.hid hL3
                   clear hL3
                   have R3 := Lib.hid ((RA.out.drewN _).upd hU3 HGS.out (fun k hk _ => HBG.out k hk))
                   have X3 := Lib.hid (Below.upd (below_drewN BA.out _) hU3 BA.out.size HGE.out)
                   have S3 := Lib.hid (Nat.le_trans (Nat.le_trans hbq (Nat.le_of_lt hql)) hU3.size)
                   clear hU3)
                | (go_at_call 33
                   refine (pushR_any _ base s m l (by first | exact R3.out | exact R3.out.drewN _) S3.out (by omega) X pb PB.out l' PL.out).mono ?_
                   rintro e w4 ⟨rfl, hR4, hU4⟩
                   have J1 := Lib.hid ((hU4.cell (p := ⟨q, 1, none⟩) (block_lt_of_cell K1.out) HQS.out).trans K1.out)
                   have J2 := Lib.hid ((hU4.cell (p := ⟨q, 2, none⟩) (block_lt_of_cell K2.out) HQS.out).trans K2.out)
                   have R4 := Lib.hid hR4
                   clear hR4
                   have L4 := Lib.hid (RSt.upd (S := fun k => k = s) L3.out hU4 hgs hds)
                   have X4 := Lib.hid (Below.upd X3.out hU4 X3.out.size (fun k hk => by have : k = s := hk; omega))
                   have S4 := Lib.hid (Nat.le_trans S3.out hU4.size)
                   clear hU4))
            clear b1 b2
            have b1 := J1.out; have b2 := J2.out
            go_wp2_with fail
            go_meet
            exact ⟨rfl, l', L4.out, R4.out, X4.out, S4.out, b1⟩
          by_cases hk1 : kind = 1
          · subst hk1
            go_wp2_with fail
            obtain ⟨pb, hpb⟩ : ∃ b, pushB m l = b := ⟨_, rfl⟩
            obtain ⟨l', hl'⟩ : ∃ l', pushL m l X = l' := ⟨_, rfl⟩
            have PB := Lib.hid hpb; have PL := Lib.hid hl'; clear hpb hl'
            have HLL := LA.out.room
            go_region_held3 (fun w' => w'.cell? ⟨q, 2, none⟩ = some (.int .i64 X))
              (first
                | exact b2
                | exact K2.out
                | exact J2.out)
              (first
                | (go_at_call 32
                   refine (pushI_any _ g d m l (by first | exact LA.out.drewN _ | exact (LA.out.drewN _).drewN _) X pb PB.out l' PL.out).mono ?_
                   rintro e w3 ⟨rfl, hL3, hU3⟩
                   have K1 := Lib.hid ((hU3.cell (p := ⟨q, 1, none⟩) (block_lt_of_cell b1) HQG.out).trans b1)
                   have K2 := Lib.hid ((hU3.cell (p := ⟨q, 2, none⟩) (block_lt_of_cell b2) HQG.out).trans b2)
                   have L3 := Lib.hid hL3
                   clear hL3
                   have R3 := Lib.hid ((RA.out.drewN _).upd hU3 HGS.out (fun k hk _ => HBG.out k hk))
                   have X3 := Lib.hid (Below.upd (below_drewN BA.out _) hU3 BA.out.size HGE.out)
                   have S3 := Lib.hid (Nat.le_trans (Nat.le_trans hbq (Nat.le_of_lt hql)) hU3.size)
                   clear hU3)
                | (go_at_call 33
                   refine (pushR_any _ base s m l (by first | exact R3.out | exact R3.out.drewN _) S3.out (by omega) X pb PB.out l' PL.out).mono ?_
                   rintro e w4 ⟨rfl, hR4, hU4⟩
                   have J1 := Lib.hid ((hU4.cell (p := ⟨q, 1, none⟩) (block_lt_of_cell K1.out) HQS.out).trans K1.out)
                   have J2 := Lib.hid ((hU4.cell (p := ⟨q, 2, none⟩) (block_lt_of_cell K2.out) HQS.out).trans K2.out)
                   have R4 := Lib.hid hR4
                   clear hR4
                   have L4 := Lib.hid (RSt.upd (S := fun k => k = s) L3.out hU4 hgs hds)
                   have X4 := Lib.hid (Below.upd X3.out hU4 X3.out.size (fun k hk => by have : k = s := hk; omega))
                   have S4 := Lib.hid (Nat.le_trans S3.out hU4.size)
                   clear hU4))
            clear b1 b2
            have b1 := J1.out; have b2 := J2.out
            go_wp2_with fail
            go_meet
            exact ⟨rfl, l', L4.out, R4.out, X4.out, S4.out, b1⟩
          by_cases hk2 : kind = 2
          · subst hk2
            go_wp2_with fail
            obtain ⟨pb, hpb⟩ : ∃ b, pushB m l = b := ⟨_, rfl⟩
            obtain ⟨l', hl'⟩ : ∃ l', pushL m l X = l' := ⟨_, rfl⟩
            have PB := Lib.hid hpb; have PL := Lib.hid hl'; clear hpb hl'
            have HLL := LA.out.room
            go_region_held3 (fun w' => w'.cell? ⟨q, 2, none⟩ = some (.int .i64 X))
              (first
                | exact b2
                | exact K2.out
                | exact J2.out)
              (first
                | (go_at_call 32
                   refine (pushI_any _ g d m l (by first | exact LA.out.drewN _ | exact (LA.out.drewN _).drewN _) X pb PB.out l' PL.out).mono ?_
                   rintro e w3 ⟨rfl, hL3, hU3⟩
                   have K1 := Lib.hid ((hU3.cell (p := ⟨q, 1, none⟩) (block_lt_of_cell b1) HQG.out).trans b1)
                   have K2 := Lib.hid ((hU3.cell (p := ⟨q, 2, none⟩) (block_lt_of_cell b2) HQG.out).trans b2)
                   have L3 := Lib.hid hL3
                   clear hL3
                   have R3 := Lib.hid ((RA.out.drewN _).upd hU3 HGS.out (fun k hk _ => HBG.out k hk))
                   have X3 := Lib.hid (Below.upd (below_drewN BA.out _) hU3 BA.out.size HGE.out)
                   have S3 := Lib.hid (Nat.le_trans (Nat.le_trans hbq (Nat.le_of_lt hql)) hU3.size)
                   clear hU3)
                | (go_at_call 33
                   refine (pushR_any _ base s m l (by first | exact R3.out | exact R3.out.drewN _) S3.out (by omega) X pb PB.out l' PL.out).mono ?_
                   rintro e w4 ⟨rfl, hR4, hU4⟩
                   have J1 := Lib.hid ((hU4.cell (p := ⟨q, 1, none⟩) (block_lt_of_cell K1.out) HQS.out).trans K1.out)
                   have J2 := Lib.hid ((hU4.cell (p := ⟨q, 2, none⟩) (block_lt_of_cell K2.out) HQS.out).trans K2.out)
                   have R4 := Lib.hid hR4
                   clear hR4
                   have L4 := Lib.hid (RSt.upd (S := fun k => k = s) L3.out hU4 hgs hds)
                   have X4 := Lib.hid (Below.upd X3.out hU4 X3.out.size (fun k hk => by have : k = s := hk; omega))
                   have S4 := Lib.hid (Nat.le_trans S3.out hU4.size)
                   clear hU4))
            clear b1 b2
            have b1 := J1.out; have b2 := J2.out
            go_wp2_with fail
            go_meet
            exact ⟨rfl, l', L4.out, R4.out, X4.out, S4.out, b1⟩
          by_cases hk3 : kind = 3
          · subst hk3
            go_wp2_with fail
            obtain ⟨px, hpx⟩ : ∃ x, popX l = x := ⟨_, rfl⟩
            obtain ⟨pb, hpb⟩ : ∃ b, popB l = b := ⟨_, rfl⟩
            obtain ⟨l', hl'⟩ : ∃ l', l.tail = l' := ⟨_, rfl⟩
            have PX := Lib.hid hpx; have PB := Lib.hid hpb; have PL := Lib.hid hl'; clear hpx hpb hl'
            refine (popI_any _ g d m l LA.out px PX.out pb PB.out l' PL.out).mono ?_
            rintro e w3 ⟨rfl, hL3, hU3⟩
            have c1 := (hU3.cell (p := ⟨q, 1, none⟩) (block_lt_of_cell b1) HQG.out).trans b1
            clear b1 b2
            have L3 := Lib.hid hL3; clear hL3
            have R3 := Lib.hid (RA.out.upd hU3 HGS.out (fun k hk _ => HBG.out k hk))
            have X3 := Lib.hid (Below.upd BA.out hU3 BA.out.size HGE.out)
            have S3 := Lib.hid (Nat.le_trans (Nat.le_trans hbq (Nat.le_of_lt hql)) hU3.size)
            clear hU3
            go_wp2_with fail
            refine (popR_any _ base s m l R3.out px PX.out pb PB.out l' PL.out).mono ?_
            rintro e w4 ⟨rfl, hR4, hU4⟩
            have b1 := (hU4.cell (p := ⟨q, 1, none⟩) (block_lt_of_cell c1) HQS.out).trans c1
            clear c1
            have R4 := Lib.hid hR4; clear hR4
            have L4 := Lib.hid (RSt.upd (S := fun k => k = s) L3.out hU4 hgs hds)
            have X4 := Lib.hid (Below.upd X3.out hU4 X3.out.size (fun k hk => by have : k = s := hk; omega))
            have S4 := Lib.hid (Nat.le_trans S3.out hU4.size)
            clear hU4
            go_wp2_with fail
            go_meet
            exact ⟨rfl, l', L4.out, R4.out, X4.out, S4.out, b1⟩
          by_cases hk4 : kind = 4
          · subst hk4
            go_wp2_with fail
            obtain ⟨px, hpx⟩ : ∃ x, popX l = x := ⟨_, rfl⟩
            obtain ⟨pb, hpb⟩ : ∃ b, popB l = b := ⟨_, rfl⟩
            obtain ⟨l', hl'⟩ : ∃ l', l.tail = l' := ⟨_, rfl⟩
            have PX := Lib.hid hpx; have PB := Lib.hid hpb; have PL := Lib.hid hl'; clear hpx hpb hl'
            refine (popI_any _ g d m l LA.out px PX.out pb PB.out l' PL.out).mono ?_
            rintro e w3 ⟨rfl, hL3, hU3⟩
            have c1 := (hU3.cell (p := ⟨q, 1, none⟩) (block_lt_of_cell b1) HQG.out).trans b1
            clear b1 b2
            have L3 := Lib.hid hL3; clear hL3
            have R3 := Lib.hid (RA.out.upd hU3 HGS.out (fun k hk _ => HBG.out k hk))
            have X3 := Lib.hid (Below.upd BA.out hU3 BA.out.size HGE.out)
            have S3 := Lib.hid (Nat.le_trans (Nat.le_trans hbq (Nat.le_of_lt hql)) hU3.size)
            clear hU3
            go_wp2_with fail
            refine (popR_any _ base s m l R3.out px PX.out pb PB.out l' PL.out).mono ?_
            rintro e w4 ⟨rfl, hR4, hU4⟩
            have b1 := (hU4.cell (p := ⟨q, 1, none⟩) (block_lt_of_cell c1) HQS.out).trans c1
            clear c1
            have R4 := Lib.hid hR4; clear hR4
            have L4 := Lib.hid (RSt.upd (S := fun k => k = s) L3.out hU4 hgs hds)
            have X4 := Lib.hid (Below.upd X3.out hU4 X3.out.size (fun k hk => by have : k = s := hk; omega))
            have S4 := Lib.hid (Nat.le_trans S3.out hU4.size)
            clear hU4
            go_wp2_with fail
            go_meet
            exact ⟨rfl, l', L4.out, R4.out, X4.out, S4.out, b1⟩
          by_cases hk5 : kind = 5
          · subst hk5
            go_wp2_with fail
            obtain ⟨pb, hpb⟩ : ∃ b, inB l I = b := ⟨_, rfl⟩
            obtain ⟨l', hl'⟩ : ∃ l', putL l I X = l' := ⟨_, rfl⟩
            have PB := Lib.hid hpb; have PL := Lib.hid hl'; clear hpb hl'
            have HLL := LA.out.room
            go_region_held3 (fun w' => w'.cell? ⟨q, 1, none⟩ = some (.int .i64 I) ∧ w'.cell? ⟨q, 2, none⟩ = some (.int .i64 X))
              (first
                | exact ⟨b1, b2⟩
                | exact ⟨K1.out, K2.out⟩
                | exact ⟨J1.out, J2.out⟩)
              (first
                | (go_at_call 36
                   refine (setI_any _ g d m l (by first | exact LA.out.drewN _ | exact (LA.out.drewN _).drewN _) I X pb PB.out l' PL.out).mono ?_
                   rintro e w3 ⟨rfl, hL3, hU3⟩
                   have K1 := Lib.hid ((hU3.cell (p := ⟨q, 1, none⟩) (block_lt_of_cell b1) HQG.out).trans b1)
                   have K2 := Lib.hid ((hU3.cell (p := ⟨q, 2, none⟩) (block_lt_of_cell b2) HQG.out).trans b2)
                   have L3 := Lib.hid hL3
                   clear hL3
                   have R3 := Lib.hid ((RA.out.drewN _).upd hU3 HGS.out (fun k hk _ => HBG.out k hk))
                   have X3 := Lib.hid (Below.upd (below_drewN BA.out _) hU3 BA.out.size HGE.out)
                   have S3 := Lib.hid (Nat.le_trans (Nat.le_trans hbq (Nat.le_of_lt hql)) hU3.size)
                   clear hU3)
                | (go_at_call 37
                   refine (setR_any _ base s m l (by first | exact R3.out | exact R3.out.drewN _) S3.out (by omega) I X pb PB.out l' PL.out).mono ?_
                   rintro e w4 ⟨rfl, hR4, hU4⟩
                   have J1 := Lib.hid ((hU4.cell (p := ⟨q, 1, none⟩) (block_lt_of_cell K1.out) HQS.out).trans K1.out)
                   have J2 := Lib.hid ((hU4.cell (p := ⟨q, 2, none⟩) (block_lt_of_cell K2.out) HQS.out).trans K2.out)
                   have R4 := Lib.hid hR4
                   clear hR4
                   have L4 := Lib.hid (RSt.upd (S := fun k => k = s) L3.out hU4 hgs hds)
                   have X4 := Lib.hid (Below.upd X3.out hU4 X3.out.size (fun k hk => by have : k = s := hk; omega))
                   have S4 := Lib.hid (Nat.le_trans S3.out hU4.size)
                   clear hU4))
            clear b1 b2
            have b1 := J1.out; have b2 := J2.out
            go_wp2_with fail
            go_meet
            exact ⟨rfl, l', L4.out, R4.out, X4.out, S4.out, b1⟩
          by_cases hk6 : kind = 6
          · subst hk6
            by_cases hI : I = 0
            · subst hI
              go_wp2_with fail
              refine (clearI_any _ g d m l LA.out).mono ?_
              rintro e w3 ⟨rfl, hL3, hU3⟩
              have c1 := (hU3.cell (p := ⟨q, 1, none⟩) (block_lt_of_cell b1) HQG.out).trans b1
              clear b1 b2
              have L3 := Lib.hid hL3; clear hL3
              have R3 := Lib.hid (RA.out.upd hU3 HGS.out (fun k hk _ => HBG.out k hk))
              have X3 := Lib.hid (Below.upd BA.out hU3 BA.out.size HGE.out)
              have S3 := Lib.hid (Nat.le_trans (Nat.le_trans hbq (Nat.le_of_lt hql)) hU3.size)
              clear hU3
              obtain ⟨Av0, cv0, hr0, hr1, hf1⟩ := R3.out.cells
              have hU4 := (Upd.refl (fun k => k = s) w3).setCell (p := ⟨s, 1, none⟩) (fun _ => rfl) (.slice none 0 0)
              have b1 := (hU4.cell (p := ⟨q, 1, none⟩) (block_lt_of_cell c1) HQS.out).trans c1
              have B9 := Lib.hid b1; clear b1
              have R4 := Lib.hid R3.out.none_
              have L4 := Lib.hid (RSt.upd (S := fun k => k = s) L3.out hU4 hgs hds)
              have X4 := Lib.hid (Below.upd X3.out hU4 X3.out.size (fun k hk => by have : k = s := hk; omega))
              have S4 := Lib.hid (Nat.le_trans S3.out hU4.size)
              clear hU4
              obtain ⟨l', hl'⟩ : ∃ l' : List Int, [] = l' := ⟨_, rfl⟩
              rw [hl'] at R4 L4
              clear hl'
              go_wp2_with fail
              go_meet
              exact ⟨rfl, l', L4.out, R4.out, X4.out, S4.out, B9.out⟩
            · have eI : (I == 0) = false := beq_eq_false_iff_ne.2 hI
              clear hI
              go_wp2_with fail
              obtain ⟨l', hl'⟩ : ∃ l', l = l' := ⟨_, rfl⟩
              rw [hl'] at LA RA
              have L4 := LA; have R4 := RA; have X4 := BA
              have S4 := Lib.hid (Nat.le_trans hbq (Nat.le_of_lt hql))
              go_wp2_with fail
              go_meet
              exact ⟨rfl, l', L4.out, R4.out, X4.out, S4.out, b1⟩
          · have n0 : (kind == 0) = false := beq_eq_false_iff_ne.2 hk0
            have n1 : (kind == 1) = false := beq_eq_false_iff_ne.2 hk1
            have n2 : (kind == 2) = false := beq_eq_false_iff_ne.2 hk2
            have n3 : (kind == 3) = false := beq_eq_false_iff_ne.2 hk3
            have n4 : (kind == 4) = false := beq_eq_false_iff_ne.2 hk4
            have n5 : (kind == 5) = false := beq_eq_false_iff_ne.2 hk5
            have n6 : (kind == 6) = false := beq_eq_false_iff_ne.2 hk6
            clear hk0 hk1 hk2 hk3 hk4 hk5 hk6
            go_wp2_with fail
            obtain ⟨l', hl'⟩ : ∃ l', l = l' := ⟨_, rfl⟩
            rw [hl'] at LA RA
            have L4 := LA; have R4 := RA; have X4 := BA
            have S4 := Lib.hid (Nat.le_trans hbq (Nat.le_of_lt hql))
            go_wp2_with fail
            go_meet
            exact ⟨rfl, l', L4.out, R4.out, X4.out, S4.out, b1⟩
        case rest =>
          obtain ⟨rfl, l', hL4, hR4, X4, S4, b1⟩ := hcut
          have L4 := Lib.hid hL4; have R4 := Lib.hid hR4; have X4 := Lib.hid X4; have S4 := Lib.hid S4
          clear hL4 hR4
          obtain ⟨ax, hax⟩ : ∃ x, atL l' I = x := ⟨_, rfl⟩
          obtain ⟨ab, hab⟩ : ∃ b, inB l' I = b := ⟨_, rfl⟩
          have AX := Lib.hid hax; have AB := Lib.hid hab; clear hax hab
          go_wp2_with fail
          refine (atI_any _ g d m l' L4.out I ax AX.out ab AB.out).mono ?_
          rintro e w5 ⟨rfl, k5, rfl⟩
          go_wp2_with fail
          refine (atR_any _ base s m l' (R4.out.drewN _) I ax AX.out ab AB.out).mono ?_
          rintro e w6 ⟨rfl, k6, rfl⟩
          obtain ⟨Av, cv, cr0, cr1, _⟩ := R4.out.cells
          have hll := L4.out.room
          go_wp2_with fail
          go_region_held3 (fun w' => w'.cell? ⟨s, 0, none⟩ = some (.int .i64 m) ∧ w'.cell? ⟨s, 1, none⟩ = some (.slice Av l'.length cv))
            (first
              | exact ⟨cr0, cr1⟩
              | exact ⟨M0.out, M1.out⟩)
            (first
              | (go_at_call 41
                 refine (lenI_any _ g d m l' (L4.out.drewN _)).mono ?_
                 rintro e w7 ⟨rfl, k7, rfl⟩)
              | (go_at_call 42
                 refine (roomI_any _ g d m l' (L4.out.drewN _)).mono ?_
                 rintro e w8 ⟨rfl, k8, rfl⟩)
              | (go_at_call 44
                 refine (allI_any _ g d m l' (L4.out.drewN _)).mono ?_
                 rintro e w9 ⟨va, rfl, hI9, hB9⟩
                 have hU9 := Upd.of_below hB9
                 have M0 := Lib.hid ((hB9.cell (p := ⟨s, 0, none⟩) R4.out.lt.1).trans cr0)
                 have M1 := Lib.hid ((hB9.cell (p := ⟨s, 1, none⟩) R4.out.lt.1).trans cr1)
                 have I9 := Lib.hid hI9
                 clear hI9
                 have L9 := Lib.hid (RSt.upd (L4.out.drewN _) hU9 (Nat.not_le_of_lt L4.out.lt.1) (Nat.not_le_of_lt L4.out.lt.2))
                 have R9 := Lib.hid (RRef.upd (R4.out.drewN _) hU9 (Nat.not_le_of_lt R4.out.lt.1) (fun k _ hk => Nat.not_le_of_lt hk))
                 have X9 := Lib.hid (chn (below_drewN X4.out _) hB9)
                 have S9 := Lib.hid (Nat.le_trans S4.out hB9.size)
                 clear hU9 hB9)
              | (go_at_call 43
                 refine (ints14 _ _ _ l' I9.out (R9.out.ints M1.out) (by omega)).mono ?_
                 rintro e w10 ⟨rfl, k10, rfl⟩))
          go_wp2_with fail
          go_roundw
          case rel => exact ⟨i + 1, by omega, by go_num, l', L9.out.drewN _, R9.out.drewN _, below_drewN X9.out _, S9.out⟩
          case measure => simp [intOf]; omega
      · go_wp2_with fail
        go_ret
        exact ⟨rfl, hB⟩
end Go.Proofs.Ytfpigcjhonfcjaa
