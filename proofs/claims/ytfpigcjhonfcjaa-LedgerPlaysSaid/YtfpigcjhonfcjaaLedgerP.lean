/-
  LedgerPlays: a ledger does and tells what the document says, charge by charge.
-/
import Derived.Test.YtfpigcjhonfcjaaLedgerLaw2
namespace Go.Proofs.Ytfpigcjhonfcjaa
open Go.RowKit

theorem RLed.below {w w' : World} {base r m : Nat} {l : List Chg} (h : RLed w base r m l) (hb : Below w.heap.size w w') (hbase : base ≤ w.heap.size) (hr : r < w.heap.size) : RLed w' base r m l := by
  obtain ⟨v, h1, h2⟩ := h
  exact ⟨v, h1.below hb hr, own_upd h2 (Upd.of_below hb) (fun k hk hle => by have := (h2.lt k hk).2; omega)⟩

set_option maxRecDepth 100000 in
/-- The reference's charge of whatever numbers. -/
theorem chargeR_any (w : World) (base r m : Nat) (l : List Chg) (h : RLed w base r m l) (hbase : base ≤ w.heap.size) (hl : l.length ≤ 1000) (hm : m ≤ 6) (kind p q : Int) :
    Calls Try.prog 50 #[.pointer (some ⟨r, 0, none⟩), .int .i64 kind, .int .i64 p, .int .i64 q] w fun e w' => e = .returned (.int .i64 (okI m kind p q)) ∧
      RLed w' base r m (chgR m l kind p q) ∧ Upd (fun k => k = r ∨ base ≤ k) w w' := by
  unfold okI chgR
  by_cases hf : fineB m kind p q = true
  · rw [if_pos hf, if_pos hf]
    have hf2 := hf
    unfold fineB at hf2
    by_cases hk : kind = 0 ∨ kind = 2 ∨ kind = 3
    · rw [if_pos hk] at hf2
      have hp := of_decide_eq_true hf2
      have hn : norm kind p q = (kind, p, -1) := by unfold norm; rw [if_neg (by omega), if_neg (by omega)]
      rw [hn]
      exact chargeR_one w base r m l h hbase hl kind p q hk hp.1 hp.2
    · rw [if_neg hk] at hf2
      by_cases hk1 : kind = 1
      · rw [if_pos hk1, Bool.and_eq_true] at hf2
        have hp := of_decide_eq_true hf2.1
        have hpq := of_decide_eq_true hf2.2
        subst hk1
        have hn : norm 1 p q = (1, p, q) := by unfold norm; rw [if_neg (by omega), if_pos rfl]
        rw [hn]
        exact chargeR_given w base r m l h hbase hl p q hp.1.1 hp.1.2 hp.2.1 hp.2.2 hpq
      · rw [if_neg hk1] at hf2
        have hk4 := of_decide_eq_true hf2
        subst hk4
        exact chargeR_gap w base r m l h hbase hl p q
  · rw [if_neg hf, if_neg hf]
    refine (chargeR_no w base r m l h kind p q (by simpa using hf)).mono ?_
    rintro e w' ⟨h1, k, rfl⟩
    exact ⟨h1, h.drewN k, (Upd.refl _ _).drewN _⟩

theorem ofL_want (w : World) (g : Nat) (L : Nat → Int) (m : Nat) (ok gaps : Int) (l : List Chg) (h : Led w g L) (hI : Inv m L ok gaps) (hS : Same m L l) (k : Nat) (p want : Int)
    (hw : want = if 0 ≤ p ∧ k < 4 then (countF k p (-2) l : Int) else 0) :
    Calls Try.prog 52 #[.pointer (some ⟨g, 0, none⟩), .int .i64 k, .int .i64 p] w fun e w' => e = .returned (.int .i64 want) ∧ Upd (fun _ => False) w w' := by
  subst hw
  have hP := hI.parts
  have hm := hI.le
  by_cases hc : 0 ≤ p ∧ k < 4
  · rw [if_pos hc]
    obtain ⟨p', rfl⟩ := Int.eq_ofNat_of_zero_le hc.1
    by_cases hpm : p' < m
    · rw [← hS.of k p' hc.2 (by omega)]
      exact ofL_yes w g L h k p' hc.2 (by omega) (by omega)
    · rw [hS.out1 k p' (by omega) (by omega)]
      exact ofL_no w g L h k p' (.inl (by omega))
  · rw [if_neg hc]
    exact ofL_no w g L h k p (by omega)

theorem gotL_want (w : World) (g : Nat) (L : Nat → Int) (m : Nat) (ok gaps : Int) (l : List Chg) (h : Led w g L) (hI : Inv m L ok gaps) (hS : Same m L l) (hok : 0 ≤ ok ∧ ok ≤ 900) (p want : Int)
    (hw : want = if 0 ≤ p then (countF 1 (-2) p l : Int) else 0) :
    Calls Try.prog 53 #[.pointer (some ⟨g, 0, none⟩), .int .i64 p] w fun e w' => e = .returned (.int .i64 want) ∧ Upd (fun _ => False) w w' := by
  subst hw
  have hP := hI.parts
  have hm := hI.le
  by_cases hc : 0 ≤ p
  · rw [if_pos hc]
    obtain ⟨p', rfl⟩ := Int.eq_ofNat_of_zero_le hc
    by_cases hpm : p' < m
    · have e : (countF 1 (-2) p' l : Int) = gotOf L p' := by
        have h0 := hS.gave 0 p' (by omega) (by omega)
        have h1 := hS.gave 1 p' (by omega) (by omega)
        have h2 := hS.gave 2 p' (by omega) (by omega)
        have h3 := hS.gave 3 p' (by omega) (by omega)
        have h4 := hS.gave 4 p' (by omega) (by omega)
        have h5 := hS.gave 5 p' (by omega) (by omega)
        have hg := hS.got p' (by omega)
        unfold gotOf
        simp at h0 h1 h2 h3 h4 h5
        omega
      rw [e]
      exact gotL_inv w g L m ok gaps h hI hok p' (by omega)
    · rw [hS.out2 p' (by omega)]
      exact gotL_no w g L h p' (by omega)
  · rw [if_neg hc]
    exact gotL_no w g L h p (by omega)

theorem gaveL_want (w : World) (g : Nat) (L : Nat → Int) (m : Nat) (ok gaps : Int) (l : List Chg) (h : Led w g L) (hI : Inv m L ok gaps) (hS : Same m L l) (p q want : Int)
    (hw : want = if 0 ≤ p ∧ 0 ≤ q then (countF 1 p q l : Int) else 0) :
    Calls Try.prog 54 #[.pointer (some ⟨g, 0, none⟩), .int .i64 p, .int .i64 q] w fun e w' => e = .returned (.int .i64 want) ∧ Upd (fun _ => False) w w' := by
  subst hw
  have hP := hI.parts
  have hm := hI.le
  by_cases hc : 0 ≤ p ∧ 0 ≤ q
  · rw [if_pos hc]
    obtain ⟨p', rfl⟩ := Int.eq_ofNat_of_zero_le hc.1
    obtain ⟨q', rfl⟩ := Int.eq_ofNat_of_zero_le hc.2
    by_cases hpm : p' < m ∧ q' < m
    · rw [← hS.gave p' q' (by omega) (by omega)]
      exact gaveL_yes w g L h p' q' (by omega) (by omega) (by omega)
    · rw [hS.out3 p' q' (by omega) (by omega) (by omega)]
      exact gaveL_no w g L h p' q' (by omega)
  · rw [if_neg hc]
    exact gaveL_no w g L h p q (by omega)

/-- Behind i charges. -/
def PlaysL (w wr : World) (base g r m i : Nat) : Prop := ∃ L l ok gaps, Led wr g L ∧ RLed wr base r m l ∧ Inv m L ok gaps ∧ Same m L l ∧ 0 ≤ ok ∧ ok ≤ i ∧ Below w.heap.size w wr ∧ base ≤ wr.heap.size

set_option maxRecDepth 100000 in
set_option maxHeartbeats 3200000 in
theorem playsL_short (w : World) (parts : Int) (A : Option Addr) (len cap : Nat) (xs : Nat → Nat → Int) (P Q : Int) (hl : len ≤ 200) (hc : Row3 w A len xs) :
    Calls Try.prog 8 #[.int .i64 parts, .slice A len cap, .int .i64 P, .int .i64 Q] w fun e w' => e = .returned (.bool true) ∧ Below w.heap.size w w' := by
  have e0 : decide ((200 : Int) < (len : Int)) = false := decide_eq_false (by omega)
  have HC := Lib.hid hc; clear hc
  obtain ⟨m, hm⟩ : ∃ m : Nat, min (max parts 0) 6 = m := ⟨(min (max parts 0) 6).toNat, by omega⟩
  have hm6 : m ≤ 6 := by omega
  have HM := Lib.hid hm; clear hm
  go_enter Try.func8, Try.ntmps8
  go_wp2_with fail
  refine (knows15 _).mono ?_
  rintro e w1 ⟨rfl, hB1⟩
  have HB1 := Lib.hid hB1; clear hB1
  go_wp2_with fail
  refine (newL _ parts m HM.out).mono ?_
  rintro e w2 ⟨g, rfl, hg, hL, hB⟩
  have HL := Lib.hid hL; clear hL
  have HB2 := Lib.hid (chn HB1.out hB); clear hB
  have hge : w.heap.size ≤ g := by have := HB1.out.size; omega
  have hg2 : g < w2.heap.size := Blk.lt HL.out
  go_wp2_with fail
  refine (newRL _ w2.heap.size (Nat.le_refl _) parts m HM.out).mono ?_
  rintro e w3 ⟨r, rfl, hr, hR, hB⟩
  have HL3 := Lib.hid (Blk.below HL.out hB hg2)
  have HBs := Lib.hid hB.size
  have HB3 := Lib.hid (chn HB2.out hB); clear hB
  have HR := Lib.hid hR; clear hR
  have hw2 : w.heap.size ≤ w2.heap.size := HB2.out.size
  generalize w2.heap.size = base at *
  clear HL
  go_wp2_with fail
  go_loopw [11] (fun vi wr => ∃ i : Nat, i ≤ len ∧ vi = .int .i64 i ∧ PlaysL w wr base g r m i) (fun vi _ => len - (intOf vi).toNat)
  case atStart => exact ⟨0, by omega, rfl, _, [], 0, 0, HL3.out, HR.out, Inv.new m hm6, Same.new m, by omega, by omega, HB3.out, HBs.out⟩
  case round =>
    clear HL3 HB3 HBs
    obtain ⟨i, hi, rfl, L, l, ok, gaps, hL, hR, hI, hS, ho0, ho1, hB, hbs⟩ := hrel
    have HLr := Lib.hid hL; clear hL
    have HRr := Lib.hid hR; clear hR
    have HI := Lib.hid hI; clear hI
    have HS := Lib.hid hS; clear hS
    have HBr := Lib.hid hB; clear hB
    have hll : l.length ≤ 200 := by have := HS.out.total; have := HI.out.total; omega
    by_cases hlt : i < len
    · obtain ⟨b, o, rfl, hab, h0, h1, h2⟩ := HC.out i hlt
      have h0 := (HBr.out.cell (p := ⟨b, o + i * 3, none⟩) hab).trans h0
      have h1 := (HBr.out.cell (p := ⟨b, o + i * 3 + 1, none⟩) hab).trans h1
      have h2 := (HBr.out.cell (p := ⟨b, o + i * 3 + 2, none⟩) hab).trans h2
      generalize xs i 0 = kind at *
      generalize xs i 1 = p at *
      generalize xs i 2 = q at *
      have HH : Hid (b ≠ g) := Lib.hid (by omega)
      have HH2 : Hid (¬ (b = r ∨ base ≤ b)) := Lib.hid (by omega)
      have HRG : Hid (r ≠ g) := Lib.hid (by omega)
      have HKG : Hid (∀ k, k = g → ∃ cs, Blk (wr.drewN 1) k 91 cs) := Lib.hid (fun k hk => by subst hk; exact ⟨_, HLr.out.drewN 1⟩)
      go_wp2_with fail
      go_region_held3 (fun w' => w'.cell? ⟨b, o + i * 3, none⟩ = some (.int .i64 kind) ∧ w'.cell? ⟨b, o + i * 3 + 1, none⟩ = some (.int .i64 p) ∧ w'.cell? ⟨b, o + i * 3 + 2, none⟩ = some (.int .i64 q))
        (first
          | exact ⟨h0, h1, h2⟩
          | exact ⟨K0.out, K1.out, K2.out⟩
          | exact ⟨J0.out, J1.out, J2.out⟩)
        (first
          | (go_at_call 49
             refine (chargeL_any _ g L m ok gaps (HLr.out.drewN 1) HI.out (by omega) kind p q).mono ?_
             rintro e w3 ⟨rfl, hL3, hU3⟩
             have K0 := Lib.hid ((hU3.cell (p := ⟨b, o + i * 3, none⟩) (block_lt_of_cell h0) HH.out).trans h0)
             have K1 := Lib.hid ((hU3.cell (p := ⟨b, o + i * 3 + 1, none⟩) (block_lt_of_cell h1) HH.out).trans h1)
             have K2 := Lib.hid ((hU3.cell (p := ⟨b, o + i * 3 + 2, none⟩) (block_lt_of_cell h2) HH.out).trans h2)
             have HL3 := Lib.hid hL3
             clear hL3
             have HR3 := Lib.hid ((HRr.out.drewN 1).upd hU3 (fun e => HRG.out e) (fun k hk => HKG.out k hk))
             have HS3 := Lib.hid (Nat.le_trans hbs hU3.size)
             have HU3 := Lib.hid hU3
             clear hU3)
          | (go_at_call 48; refine (num15 _ _).mono ?_; rintro e w6 ⟨rfl, k6, rfl⟩)
          | (go_at_call 50
             refine (chargeR_any _ base r m l (HR3.out.drewN _) HS3.out (by omega) hm6 kind p q).mono ?_
             rintro e w4 ⟨rfl, hR4, hU4⟩
             have J0 := Lib.hid ((hU4.cell (p := ⟨b, o + i * 3, none⟩) (block_lt_of_cell K0.out) HH2.out).trans K0.out)
             have J1 := Lib.hid ((hU4.cell (p := ⟨b, o + i * 3 + 1, none⟩) (block_lt_of_cell K1.out) HH2.out).trans K1.out)
             have J2 := Lib.hid ((hU4.cell (p := ⟨b, o + i * 3 + 2, none⟩) (block_lt_of_cell K2.out) HH2.out).trans K2.out)
             have HR4 := Lib.hid hR4
             clear hR4
             have HU4 := Lib.hid hU4
             clear hU4))
      go_wp2_with fail
      go_roundw
      case rel =>
        have hb3 := Below.upd (below_drewN HBr.out 1) HU3.out HBr.out.size (fun k hk => by have : k = g := hk; omega)
        have hb4 := Below.upd (below_drewN hb3 _) HU4.out hb3.size (fun k hk => by have : k = r ∨ base ≤ k := hk; omega)
        refine ⟨i + 1, by omega, by go_num, _, _, _, _, Blk.upd (Blk.drewN HL3.out _) HU4.out (fun hk => by have : g = r ∨ base ≤ g := hk; omega), HR4.out, HI.out.step kind p q, HS.out.step HI.out.parts hm6 kind p q, ?_, ?_, hb4, Nat.le_trans HS3.out HU4.out.size⟩
        · split <;> omega
        · split <;> omega
      case measure => simp [intOf]; omega
    · clear HR
      obtain ⟨v, hbv, hov⟩ := HRr.out
      obtain ⟨Av, cv, rfl⟩ : ∃ Av cv, v = .slice Av l.length cv := by
        rcases hov.2 with ⟨rfl, h0⟩ | ⟨g', cap, cur, rfl, _⟩
        · exact ⟨none, 0, by rw [h0]⟩
        · exact ⟨_, _, rfl⟩
      clear hov
      have HV := Lib.hid hbv; clear hbv
      have hlt2 : r < wr.heap.size := Blk.lt HV.out
      go_wp2_with fail
      go_loopw [12] (fun vk wq => ∃ k : Nat, k ≤ 6 ∧ vk = .int .i64 k ∧ Below wr.heap.size wr wq) (fun vk _ => 6 - (intOf vk).toNat)
      case atStart => exact ⟨0, by omega, rfl, Below.refl _ _⟩
      case round =>
        obtain ⟨k, hk, rfl, hB⟩ := hrel
        have HB := Lib.hid hB; clear hB
        have HLq : Hid (Led _ g L) := Lib.hid (Blk.below HLr.out HB.out (Blk.lt HLr.out))
        have HRq := Lib.hid (HRr.out.below HB.out hbs hlt2)
        by_cases hk6 : k < 6
        · by_cases hw : 0 ≤ P ∧ k < 4
          · have ew : (countF k P (-2) l : Int) = if 0 ≤ P ∧ k < 4 then (countF k P (-2) l : Int) else 0 := by rw [if_pos hw]
            have EW := Lib.hid ew; clear ew
            have e1 : decide (0 ≤ P) = true := decide_eq_true hw.1
            have e2 : decide ((k : Int) < 4) = true := decide_eq_true (by omega)
            clear hw
            go_wp2_with fail
            refine (countR _ base r m l HRq.out (by omega) k P (-2)).mono ?_
            rintro e w4 ⟨rfl, hB4⟩
            have HLq4 : Hid (Led _ g L) := Lib.hid (Blk.below HLq.out hB4 (Blk.lt HLq.out))
            have HB4 := Lib.hid (chn HB.out hB4); clear hB4
            go_wp2_with fail
            refine (ofL_want _ g L m ok gaps l HLq4.out HI.out HS.out k P _ EW.out).mono ?_
            rintro e w5 ⟨rfl, hU5⟩
            have HB5 := Lib.hid (Below.upd HB4.out hU5 HB4.out.size (fun _ h => h.elim)); clear hU5
            go_wp2_with fail
            go_roundw
            case rel => exact ⟨k + 1, by omega, by go_num, HB5.out⟩
            case measure => simp [intOf]; omega
          · have ew : (0 : Int) = if 0 ≤ P ∧ k < 4 then (countF k P (-2) l : Int) else 0 := by rw [if_neg hw]
            have EW := Lib.hid ew; clear ew
            obtain ⟨b1, hb1⟩ : ∃ b, decide (0 ≤ P) = b := ⟨_, rfl⟩
            obtain ⟨b2, hb2⟩ : ∃ b, decide ((k : Int) < 4) = b := ⟨_, rfl⟩
            have hbb : b1 = false ∨ (b1 = true ∧ b2 = false) := by
              rw [← hb1, ← hb2]
              by_cases e : 0 ≤ P
              · right; exact ⟨decide_eq_true e, decide_eq_false (fun g => hw ⟨e, by omega⟩)⟩
              · left; exact decide_eq_false e
            clear hw
            rcases hbb with rfl | ⟨rfl, rfl⟩
            all_goals
              go_wp2_with fail
              refine (ofL_want _ g L m ok gaps l HLq.out HI.out HS.out k P _ EW.out).mono ?_
              rintro e w5 ⟨rfl, hU5⟩
              have HB5 := Lib.hid (Below.upd HB.out hU5 HB.out.size (fun _ h => h.elim)); clear hU5
              go_wp2_with fail
              go_roundw
              case rel => exact ⟨k + 1, by omega, by go_num, HB5.out⟩
              case measure => simp [intOf]; omega
        · have HBw : Hid (Below w.heap.size w _) := Lib.hid (chn HBr.out HB.out)
          have hcr := (HV.out.below HB.out hlt2).cell 1
          simp at hcr
          have CR := Lib.hid hcr; clear hcr
          have et : (L 67 == (l.length : Int)) = true := beq_iff_eq.2 HS.out.total
          by_cases hP : 0 ≤ P
          · have eP : decide (0 ≤ P) = true := decide_eq_true hP
            have EG : Hid ((countF 1 (-2) P l : Int) = if 0 ≤ P then (countF 1 (-2) P l : Int) else 0) := Lib.hid (by rw [if_pos hP])
            by_cases hQ : 0 ≤ Q
            · have eQ : decide (0 ≤ Q) = true := decide_eq_true hQ
              have EV : Hid ((countF 1 P Q l : Int) = if 0 ≤ P ∧ 0 ≤ Q then (countF 1 P Q l : Int) else 0) := Lib.hid (by rw [if_pos ⟨hP, hQ⟩])
              clear hP hQ
              go_wp2_with fail
              refine (countR _ base r m l HRq.out (by omega) 1 (-2) P).mono ?_
              rintro e w3 ⟨rfl, hB3⟩
              have HL3 : Hid (Led _ g L) := Lib.hid (Blk.below HLq.out hB3 (Blk.lt HLq.out))
              have HR3 := Lib.hid (HRq.out.below hB3 (Nat.le_trans hbs HB.out.size) (block_lt_of_cell CR.out))
              have CRa := Lib.hid ((hB3.cell (p := ⟨r, 1, none⟩) (block_lt_of_cell CR.out)).trans CR.out)
              have HBa := Lib.hid (chn HBw.out hB3)
              have hbs3 := Nat.le_trans (Nat.le_trans hbs HB.out.size) hB3.size
              clear hB3
              go_wp2_with fail
              refine (countR _ base r m l HR3.out (by omega) 1 P Q).mono ?_
              rintro e w4 ⟨rfl, hB4⟩
              have HLx : Hid (Led _ g L) := Lib.hid (Blk.below HL3.out hB4 (Blk.lt HL3.out))
              have hcr := (hB4.cell (p := ⟨r, 1, none⟩) (block_lt_of_cell CRa.out)).trans CRa.out
              clear CR CRa
              have CR := Lib.hid hcr
              have HBx := Lib.hid (chn HBa.out hB4)
              clear hB4
              go_wp2_with fail
              go_region_held3 (fun w' => w'.cell? ⟨r, 1, none⟩ = some (.slice Av l.length cv))
                (first | exact hcr | exact CR1.out | exact CR2.out | exact CR3.out)
                (first
                  | (go_at_call 53
                     refine (gotL_want _ g L m ok gaps l (HLx.out.drewN 1) HI.out HS.out (by omega) P _ EG.out).mono ?_
                     rintro e w5 ⟨rfl, hU5⟩
                     have HL5 := Lib.hid ((HLx.out.drewN 1).upd hU5 (fun h => h))
                     have CR1 := Lib.hid ((hU5.cell (p := ⟨r, 1, none⟩) (block_lt_of_cell CR.out) (fun h => h)).trans CR.out)
                     have HU5 := Lib.hid hU5
                     clear hU5)
                  | (go_at_call 54
                     refine (gaveL_want _ g L m ok gaps l HL5.out HI.out HS.out P Q _ EV.out).mono ?_
                     rintro e w6 ⟨rfl, hU6⟩
                     have HL6 := Lib.hid (HL5.out.upd hU6 (fun h => h))
                     have CR2 := Lib.hid ((hU6.cell (p := ⟨r, 1, none⟩) (block_lt_of_cell CR1.out) (fun h => h)).trans CR1.out)
                     have HU6 := Lib.hid hU6
                     clear hU6)
                  | (go_at_call 55
                     refine (totalL _ g L HL6.out).mono ?_
                     rintro e w7 ⟨rfl, hU7⟩
                     have CR3 := Lib.hid ((hU7.cell (p := ⟨r, 1, none⟩) (block_lt_of_cell CR2.out) (fun h => h)).trans CR2.out)
                     have HU7 := Lib.hid hU7
                     clear hU7))
              go_wp2_with fail
              go_ret
              have hb5 := Below.upd (below_drewN HBx.out 1) HU5.out HBx.out.size (fun _ h => h.elim)
              have hb6 := Below.upd hb5 HU6.out hb5.size (fun _ h => h.elim)
              exact ⟨rfl, Below.upd hb6 HU7.out hb6.size (fun _ h => h.elim)⟩
            · have eQ : decide (0 ≤ Q) = false := decide_eq_false hQ
              have EV : Hid ((0 : Int) = if 0 ≤ P ∧ 0 ≤ Q then (countF 1 P Q l : Int) else 0) := Lib.hid (by rw [if_neg (fun h => hQ h.2)])
              clear hP hQ
              go_wp2_with fail
              refine (countR _ base r m l HRq.out (by omega) 1 (-2) P).mono ?_
              rintro e w3 ⟨rfl, hB3⟩
              have HLx : Hid (Led _ g L) := Lib.hid (Blk.below HLq.out hB3 (Blk.lt HLq.out))
              have hcr := (hB3.cell (p := ⟨r, 1, none⟩) (block_lt_of_cell CR.out)).trans CR.out
              clear CR
              have CR := Lib.hid hcr
              have HBx := Lib.hid (chn HBw.out hB3)
              clear hB3
              go_wp2_with fail
              go_region_held3 (fun w' => w'.cell? ⟨r, 1, none⟩ = some (.slice Av l.length cv))
                (first | exact hcr | exact CR1.out | exact CR2.out | exact CR3.out)
                (first
                  | (go_at_call 53
                     refine (gotL_want _ g L m ok gaps l (HLx.out.drewN 1) HI.out HS.out (by omega) P _ EG.out).mono ?_
                     rintro e w5 ⟨rfl, hU5⟩
                     have HL5 := Lib.hid ((HLx.out.drewN 1).upd hU5 (fun h => h))
                     have CR1 := Lib.hid ((hU5.cell (p := ⟨r, 1, none⟩) (block_lt_of_cell CR.out) (fun h => h)).trans CR.out)
                     have HU5 := Lib.hid hU5
                     clear hU5)
                  | (go_at_call 54
                     refine (gaveL_want _ g L m ok gaps l HL5.out HI.out HS.out P Q _ EV.out).mono ?_
                     rintro e w6 ⟨rfl, hU6⟩
                     have HL6 := Lib.hid (HL5.out.upd hU6 (fun h => h))
                     have CR2 := Lib.hid ((hU6.cell (p := ⟨r, 1, none⟩) (block_lt_of_cell CR1.out) (fun h => h)).trans CR1.out)
                     have HU6 := Lib.hid hU6
                     clear hU6)
                  | (go_at_call 55
                     refine (totalL _ g L HL6.out).mono ?_
                     rintro e w7 ⟨rfl, hU7⟩
                     have CR3 := Lib.hid ((hU7.cell (p := ⟨r, 1, none⟩) (block_lt_of_cell CR2.out) (fun h => h)).trans CR2.out)
                     have HU7 := Lib.hid hU7
                     clear hU7))
              go_wp2_with fail
              go_ret
              have hb5 := Below.upd (below_drewN HBx.out 1) HU5.out HBx.out.size (fun _ h => h.elim)
              have hb6 := Below.upd hb5 HU6.out hb5.size (fun _ h => h.elim)
              exact ⟨rfl, Below.upd hb6 HU7.out hb6.size (fun _ h => h.elim)⟩
          · have eP : decide (0 ≤ P) = false := decide_eq_false hP
            have EG : Hid ((0 : Int) = if 0 ≤ P then (countF 1 (-2) P l : Int) else 0) := Lib.hid (by rw [if_neg hP])
            have EV : Hid ((0 : Int) = if 0 ≤ P ∧ 0 ≤ Q then (countF 1 P Q l : Int) else 0) := Lib.hid (by rw [if_neg (fun h => hP h.1)])
            clear hP
            have HLx := HLq
            have hcr := CR.out
            have HBx := HBw
            go_wp2_with fail
            go_region_held3 (fun w' => w'.cell? ⟨r, 1, none⟩ = some (.slice Av l.length cv))
              (first | exact hcr | exact CR1.out | exact CR2.out | exact CR3.out)
              (first
                | (go_at_call 53
                   refine (gotL_want _ g L m ok gaps l (HLx.out.drewN 1) HI.out HS.out (by omega) P _ EG.out).mono ?_
                   rintro e w5 ⟨rfl, hU5⟩
                   have HL5 := Lib.hid ((HLx.out.drewN 1).upd hU5 (fun h => h))
                   have CR1 := Lib.hid ((hU5.cell (p := ⟨r, 1, none⟩) (block_lt_of_cell CR.out) (fun h => h)).trans CR.out)
                   have HU5 := Lib.hid hU5
                   clear hU5)
                | (go_at_call 54
                   refine (gaveL_want _ g L m ok gaps l HL5.out HI.out HS.out P Q _ EV.out).mono ?_
                   rintro e w6 ⟨rfl, hU6⟩
                   have HL6 := Lib.hid (HL5.out.upd hU6 (fun h => h))
                   have CR2 := Lib.hid ((hU6.cell (p := ⟨r, 1, none⟩) (block_lt_of_cell CR1.out) (fun h => h)).trans CR1.out)
                   have HU6 := Lib.hid hU6
                   clear hU6)
                | (go_at_call 55
                   refine (totalL _ g L HL6.out).mono ?_
                   rintro e w7 ⟨rfl, hU7⟩
                   have CR3 := Lib.hid ((hU7.cell (p := ⟨r, 1, none⟩) (block_lt_of_cell CR2.out) (fun h => h)).trans CR2.out)
                   have HU7 := Lib.hid hU7
                   clear hU7))
            go_wp2_with fail
            go_ret
            have hb5 := Below.upd (below_drewN HBx.out 1) HU5.out HBx.out.size (fun _ h => h.elim)
            have hb6 := Below.upd hb5 HU6.out hb5.size (fun _ h => h.elim)
            exact ⟨rfl, Below.upd hb6 HU7.out hb6.size (fun _ h => h.elim)⟩
end Go.Proofs.Ytfpigcjhonfcjaa
