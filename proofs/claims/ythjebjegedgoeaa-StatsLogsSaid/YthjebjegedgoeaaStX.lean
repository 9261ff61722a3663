/-
  StatsMerges, the first part: two tables, merged.
-/
import Derived.Test.YthjebjegedgoeaaStW
import Derived.Test.YthjebjegedgoeaaSlN
namespace Go.Proofs.Ythjebjegedgoeaa
open Go.RowKit Go.Shelf Go.Maps Go.Sort
attribute [local go_sem] max_ints min_ints mapEq mapEqN makeMp

theorem sumL_bd (c : List Int) (n : Nat) (h : ∀ z ∈ c, 0 ≤ z ∧ z ≤ n) : 0 ≤ sumL c ∧ sumL c ≤ c.length * n := by
  induction c with
  | nil => simp [sumL]
  | cons x r ih =>
    have h1 := ih (fun z hz => h z (by simp [hz]))
    have h2 := h x (by simp)
    rw [sumL_cons, List.length_cons]
    have h3 : ((r.length + 1 : Nat) : Int) * (n : Int) = (r.length : Int) * n + n := by rw [Int.natCast_add, Int.add_mul]; simp
    rw [h3]
    omega

set_option maxRecDepth 100000 in
set_option maxHeartbeats 12800000 in
theorem statsMerges_main (w : World) (b d : Int) (A : Option Addr) (cap : Nat) (l : List J5) (hl : l.length ≤ 60) (hwf : ∀ j ∈ l, j.Wf) (hj : JRow w A l) (A2 : Option Addr) (cap2 : Nat) (l2 : List J5) (hl2 : l2.length ≤ 60) (hwf2 : ∀ j ∈ l2, j.Wf) (hj2 : JRow w A2 l2) :
    Calls Try.prog 4 #[.int .i64 b, .int .i64 d, .slice A l.length cap, .slice A2 l2.length cap2] w fun e w' => e = .returned (.bool true) ∧ Upd (fun _ => False) w w' := by
  obtain ⟨i0, hi0, hz0, hz1, hz2⟩ := info_parts infoRJ
  have d1 : decide (60 < (l.length : Int)) = false := decide_eq_false (by omega)
  have d2 : decide (60 < (l2.length : Int)) = false := decide_eq_false (by omega)
  have HWF := Lib.hid hwf; have HJ := Lib.hid hj; have HWF2 := Lib.hid hwf2; have HJ2 := Lib.hid hj2
  clear hwf hj hwf2 hj2
  go_enter Try.func4, Try.ntmps4
  go_wp2_with fail
  refine (knowsC w).mono ?_
  rintro e w0 ⟨rfl, hU0⟩
  have U0 := Lib.hid hU0
  clear hU0
  go_wp2_with fail
  refine (newS w0 b d).mono ?_
  rintro e w1 ⟨rfl, hT, hU1⟩
  obtain ⟨g, hg⟩ : ∃ g, w0.heap.size + 1 = g := ⟨_, rfl⟩
  obtain ⟨bm, hbm⟩ : ∃ bm, w0.heap.size = bm := ⟨_, rfl⟩
  rw [hg] at hT ⊢
  have hMW : (min (max d 1) 1000 = ((min (max d 1) 1000).toNat : Int)) := by omega
  obtain ⟨B, hB⟩ : ∃ B : Nat, (min (max b 1) 64).toNat = B := ⟨_, rfl⟩
  obtain ⟨W, hW⟩ : ∃ W : Nat, (min (max d 1) 1000).toNat = W := ⟨_, rfl⟩
  have hBW : 1 ≤ B ∧ B ≤ 64 ∧ 1 ≤ W := by omega
  have HBW := Lib.hid hB; have HWW := Lib.hid hW
  rw [hW] at hMW
  have HMW := Lib.hid hMW
  have T1 : Hid (TabS w1 g bm B W [] (fun _ => Ln.zero) (fun _ => []) (fun k => k < w0.heap.size)) := Lib.hid (by rw [← hB, ← hW, ← hbm]; exact hT)
  have U1 := Lib.hid (U0.out.trans hU1)
  have HW01 : Hid (w.heap.size ≤ w0.heap.size) := Lib.hid U0.out.size
  have HU01 := Lib.hid hU1
  clear hT hU1 hg hbm hB hW hMW U0
  go_wp2_with fail
  refine (newS w1 b d).mono ?_
  rintro e w2 ⟨rfl, hT, hU2⟩
  obtain ⟨g2, hg⟩ : ∃ g, w1.heap.size + 1 = g := ⟨_, rfl⟩
  obtain ⟨bm2, hbm⟩ : ∃ bm, w1.heap.size = bm := ⟨_, rfl⟩
  rw [hg, HBW.out, HWW.out] at hT
  rw [hg]
  have HG2 : Hid (w1.heap.size ≤ g2 ∧ w1.heap.size ≤ bm2) := Lib.hid (by omega)
  have Y2 : Hid (TabS w2 g2 bm2 B W [] (fun _ => Ln.zero) (fun _ => []) (fun k => k < w1.heap.size)) := Lib.hid (by rw [← hbm]; exact hT)
  have X2 := Lib.hid (T1.out.still hU2)
  have U2 := Lib.hid (U1.out.trans hU2)
  have HW12 : Hid (w1.heap.size ≤ w2.heap.size) := Lib.hid hU2.size
  have HX1 := Lib.hid X2.out
  have HU12 := Lib.hid hU2
  have HW00 : Hid (w0.heap.size ≤ w1.heap.size) := Lib.hid HU01.out.size
  clear hT hU2 hg hbm U1
  -- x.Add(jobs(a)...)
  go_wp2_with fail
  refine (jobsC w2 A cap l (by omega) (HJ.out.still U2.out)).mono ?_
  rintro e w3 ⟨v3, rfl, hv3, hU3⟩
  have V3 := Lib.hid hv3
  have HW23 : Hid (w2.heap.size ≤ w3.heap.size) := Lib.hid hU3.size
  have HGL : Hid (g2 < w3.heap.size ∧ bm2 < w3.heap.size) := Lib.hid ⟨Nat.lt_of_lt_of_le Y2.out.b.lt hU3.size, Nat.lt_of_lt_of_le Y2.out.m.lt hU3.size⟩
  obtain ⟨N1, hN1⟩ : ∃ N : Nat → Prop, (fun k => k < w0.heap.size ∨ w1.heap.size ≤ k ∧ k < w3.heap.size) = N := ⟨_, rfl⟩
  have HN1 : Hid (∀ k, N1 k ↔ k < w0.heap.size ∨ w1.heap.size ≤ k ∧ k < w3.heap.size) := Lib.hid (fun k => by rw [← hN1])
  have X3 : Hid (TabJ w3 g bm B W [] [] N1) := Lib.hid (TabJ.new (T1.out.more (HU12.out.trans hU3) (fun k hk hlt => by
    rcases (HN1.out k).1 hk with h | h
    · exact h
    · omega)))
  have U3 := Lib.hid (U2.out.trans hU3)
  have Y3 := Lib.hid (Y2.out.still hU3)
  have HN1lt : Hid (∀ k, N1 k → k < w3.heap.size) := Lib.hid (fun k hk => by
    have h1 := HW12.out
    have h2 := HW23.out
    have h3 := HW00.out
    rcases (HN1.out k).1 hk with h | h <;> omega)
  have HV3 : Hid (∀ k, slBlk v3 = some k → N1 k) := Lib.hid (fun k hk => by
    obtain ⟨h1, h2, _⟩ := Sl.blk V3.out k hk
    have := HW12.out
    exact (HN1.out k).2 (.inr ⟨by omega, h2⟩))
  clear hv3 hU3 hN1 T1 X2 HX1 U2 Y2
  go_wp2_with fail
  refine (addC w3 g bm B W [] N1 X3.out HN1lt.out hBW.1 hBW.2.1 hBW.2.2 v3 l (Sl.mono V3.out (Nat.zero_le _)) HV3.out (by omega) HWF.out).mono ?_
  rintro e w4 ⟨rfl, ⟨ks, hT⟩, hU4⟩
  have X4 := Lib.hid hT
  have HNG : Hid (N1 g2 ∧ N1 bm2) := Lib.hid ⟨(HN1.out _).2 (.inr ⟨HG2.out.1, HGL.out.1⟩), (HN1.out _).2 (.inr ⟨HG2.out.2, HGL.out.2⟩)⟩
  have Y4 := Lib.hid (Y3.out.keep hU4 (fun q hq hn => by
    rcases hq with hq | hq | ⟨e, he, _⟩
    · rw [hq] at hn; exact hn HNG.out.1
    · rw [hq] at hn; exact hn HNG.out.2
    · cases he))
  have U4 : Hid (Upd (fun _ => False) w w4) := Lib.hid (((U3.out.mono (S' := fun q => ¬ N1 q) (fun _ _ h => h.elim)).trans hU4).mono (fun k hk h => h ((HN1.out k).2 (.inl (by have := HW01.out; omega)))))
  have HW34 : Hid (w3.heap.size ≤ w4.heap.size) := Lib.hid hU4.size
  clear hT hU4 X3 Y3 U3 V3 HV3 HN1lt
  -- y.Add(jobs(b)...)
  go_wp2_with fail
  refine (jobsC w4 A2 cap2 l2 (by omega) (HJ2.out.still U4.out)).mono ?_
  rintro e w5 ⟨v5, rfl, hv5, hU5⟩
  have V5 := Lib.hid hv5
  have X5 := Lib.hid (X4.out.still hU5)
  obtain ⟨N2, hN2⟩ : ∃ N : Nat → Prop, (fun k => k < w5.heap.size ∧ k ≠ g2 ∧ k ≠ bm2) = N := ⟨_, rfl⟩
  have HN2 : Hid (∀ k, N2 k ↔ k < w5.heap.size ∧ k ≠ g2 ∧ k ≠ bm2) := Lib.hid (fun k => by rw [← hN2])
  have Y5 : Hid (TabJ w5 g2 bm2 B W [] [] N2) := Lib.hid (TabJ.new ((Y4.out.still hU5).other (fun q hq hn => by
    have h := (HN2.out q).1 hn
    rcases hq with hq | hq | ⟨e, he, _⟩
    · exact h.2.1 hq
    · exact h.2.2 hq
    · cases he)))
  have U5 := Lib.hid (U4.out.trans hU5)
  have HV5 : Hid (∀ k, slBlk v5 = some k → N2 k) := Lib.hid (fun k hk => by
    obtain ⟨h1, h2, _⟩ := Sl.blk V5.out k hk
    have h3 := HW34.out
    have h4 := HGL.out
    exact (HN2.out k).2 ⟨h2, by omega, by omega⟩)
  clear hv5 hU5 hN2 X4 Y4 U4
  go_wp2_with fail
  refine (addC w5 g2 bm2 B W [] N2 Y5.out (fun k hk => ((HN2.out k).1 hk).1) hBW.1 hBW.2.1 hBW.2.2 v5 l2 (Sl.mono V5.out (Nat.zero_le _)) HV5.out (by omega) HWF2.out).mono ?_
  rintro e w6 ⟨rfl, ⟨ks2, hT⟩, hU6⟩
  have HXN : Hid (∀ q, ownT g bm ks q → N2 q ∧ w.heap.size ≤ q) := Lib.hid (fun q hq => by
    obtain ⟨h1, h2⟩ := X5.out.1.own_lt q hq
    refine ⟨(HN2.out q).2 ⟨h1, fun e => h2 (by rw [e]; exact HNG.out.1), fun e => h2 (by rw [e]; exact HNG.out.2)⟩, ?_⟩
    by_cases hlt : w.heap.size ≤ q
    · exact hlt
    · exact absurd ((HN1.out q).2 (.inl (by have := HW01.out; omega))) h2)
  have X6 := Lib.hid (X5.out.keep hU6 (fun q hq hn => hn (HXN.out q hq).1))
  have Y6 := Lib.hid hT
  have U6 : Hid (Upd (fun _ => False) w w6) := Lib.hid (((U5.out.mono (S' := fun q => ¬ N2 q) (fun _ _ h => h.elim)).trans hU6).mono (fun k hk h => h ((HN2.out k).2 (by
    have h1 := HG2.out
    have h2 := HW01.out
    have h3 := HW00.out
    have h4 := U5.out.size
    exact ⟨by omega, by omega, by omega⟩))))
  have HXY : Hid (∀ q, ownT g bm ks q → ¬ ownT g2 bm2 ks2 q) := Lib.hid (fun q hq hy => (hT.1.own_lt q hy).2 (HXN.out q hq).1)
  have HXW : Hid (∀ q, ownT g bm ks q → w.heap.size ≤ q ∧ q < w6.heap.size) := Lib.hid (fun q hq => ⟨(HXN.out q hq).2, (X6.out.1.own_lt q hq).1⟩)
  clear hT hU6 X5 Y5 U5 V5 HV5 HXN HNG HN1 HN2 HGL HG2 HW01 HW00 HW12 HW23 HW34 HU12
  -- the document's: r.J = append(append([]Job{}, a...), b...)
  go_wp2_with fail
  refine (rNewC w6 b d).mono ?_
  rintro e w7 ⟨rfl, hB7, hU7⟩
  rw [HBW.out, HWW.out] at hB7
  obtain ⟨r, hr⟩ : ∃ r, w6.heap.size = r := ⟨_, rfl⟩
  rw [hr] at hB7 ⊢
  have HR := Lib.hid hr
  have B7 := Lib.hid hB7
  have U7 := Lib.hid hU7
  clear hB7 hU7 hr
  go_upto_region 8 with fail
  have HJ7 := Lib.hid (HJ.out.still (U6.out.trans U7.out)); have HJ72 := Lib.hid (HJ2.out.still (U6.out.trans U7.out))
  have Z0 : Hid (Sl (w7.alloc (.cells #[] 66)) w7.heap.size 66 5 (.slice (some ⟨w7.heap.size, 0, none⟩) 0 0) 0 []) := Lib.hid ⟨by simp, .inr ⟨w7.heap.size, 0, 0, #[], rfl, Nat.le_refl _, Blk.new w7 _ _, Nat.le_refl _, Nat.zero_le _, by simp, by simp⟩⟩
  have UZ := Lib.hid ((Upd.refl (fun _ => False) w7).alloc (.cells #[] 66))
  go_wp2_with (
    at_builtin
    first
      | (refine wpList_append_rows rfl (.tmp 50) (.tmp 51) 22 rfl w7.heap.size 66 i0 _ 5 40 Try.underlying22 hi0 hz0 hz1 hz2 rfl (by decide) _ 0 [] rfl Z0.out A l.length cap (rws encJ l) rfl (rws_len encJ_len l) (JRow.rows (HJ7.out.still UZ.out)) (rws_one_cell encJ_one l) (by unfold maxLen; omega) (by omega) UZ.out.size ?_
         intro v8 w8 hs1 hu1 _
         rw [Nat.zero_add, List.nil_append] at hs1
         obtain ⟨A8, c8, hv8⟩ := hs1.shape
         subst hv8
         have S8 := Lib.hid hs1
         have U8 : Hid (Upd (fun _ => False) w7 w8) := Lib.hid (((UZ.out.mono (S' := fun q => q = w7.heap.size) (fun _ _ h => h.elim)).trans (hu1.mono (fun q _ e => (slBlk_eq e).symm))).mono (fun q hq e => absurd hq (by omega)))
         clear hs1 hu1)
      | (refine wpList_append_rows rfl (.tmp 52) (.tmp 53) 22 rfl w7.heap.size 66 i0 _ 5 40 Try.underlying22 hi0 hz0 hz1 hz2 rfl (by decide) _ _ _ rfl S8.out A2 l2.length cap2 (rws encJ l2) rfl (rws_len encJ_len l2) (JRow.rows (HJ72.out.still U8.out)) (rws_one_cell encJ_one l2) (by unfold maxLen; omega) (by omega) U8.out.size ?_
         intro v9 w9 hs1 hu1 _
         obtain ⟨A9, c9, hv9⟩ := hs1.shape
         subst hv9
         have S9 := Lib.hid hs1
         have U9 : Hid (Upd (fun _ => False) w7 w9) := Lib.hid (((U8.out.mono (S' := fun q => slBlk (.slice A8 l.length c8) = some q) (fun _ _ h => h.elim)).trans hu1).mono (fun q hq e => absurd (Sl.blk S8.out q e).1 (by omega)))
         have f9 := (B7.out.upd U9.out (fun h => h)).frozen 2
         have c9' : w9.cell? ⟨r, 2, none⟩ = some (.slice none 0 0) := (B7.out.upd U9.out (fun h => h)).cell 2
         clear hs1 hu1))
  have hB9 := B7.out.upd U9.out (fun h => h)
  have hS9 : SlR encJ w9 w7.heap.size 66 5 (.slice A9 (l.length + l2.length) c9) (l ++ l2) := by
    have h := S9.out
    unfold SlR
    rw [List.length_append, rws_append]
    exact h
  have hBA := hB9.set_ 2 (.slice A9 (l.length + l2.length) c9)
  have hUs : Upd (fun q => q = r) w9 (w9.setCell ⟨r, 2, none⟩ (.slice A9 (l.length + l2.length) c9)) := (Upd.refl (fun q => q = r) w9).setCell (p := ⟨r, 2, none⟩) (fun _ => rfl) _
  have hSA := hS9.upd hUs (fun q hq e => by
    obtain ⟨_, _, cur, hcur⟩ := Sl.blk hS9 q hq
    rw [e] at hcur
    exact hcur.ne_ hB9 (by decide) rfl)
  have UA : Hid (Upd (fun _ => False) w6 (w9.setCell ⟨r, 2, none⟩ (.slice A9 (l.length + l2.length) c9))) := Lib.hid ((((U7.out.trans U9.out).mono (S' := fun q => q = r) (fun _ _ h => h.elim)).trans hUs).mono (fun q hq e => by have := HR.out; omega))
  have RA : Hid (RTab (w9.setCell ⟨r, 2, none⟩ (.slice A9 (l.length + l2.length) c9)) r B W A9 c9 (l ++ l2)) := Lib.hid ⟨by rw [List.length_append]; exact hBA, jrow_slr hSA⟩
  have HA9 : Hid (∀ a, A9 = some a → w6.heap.size ≤ a.block) := Lib.hid (fun a ha => by
    have h1 := (Sl.blk S9.out a.block (by rw [ha]; rfl)).1
    exact Nat.le_trans U7.out.size h1)
  have XA := Lib.hid (X6.out.still UA.out); have YA := Lib.hid (Y6.out.still UA.out); have UwA := Lib.hid (U6.out.trans UA.out)
  have HWA : Hid (w6.heap.size ≤ (w9.setCell ⟨r, 2, none⟩ (.slice A9 (l.length + l2.length) c9)).heap.size) := Lib.hid UA.out.size
  clear hB9 hS9 hBA hUs hSA UA f9 c9' U9 S9 U8 S8 UZ Z0 HJ7 HJ72 U7 B7 X6 Y6 U6
  generalize w9.setCell ⟨r, 2, none⟩ (.slice A9 (l.length + l2.length) c9) = wA at *
  -- s.J = b
  refine (rNewC wA b d).mono ?_
  rintro e wB ⟨rfl, hBB, hUB⟩
  rw [HBW.out, HWW.out] at hBB
  obtain ⟨rs, hrs⟩ : ∃ r, wA.heap.size = r := ⟨_, rfl⟩
  have HRS : Hid (w6.heap.size ≤ rs) := Lib.hid (by have := HWA.out; omega)
  rw [hrs] at hBB ⊢
  have c2 : wB.cell? ⟨rs, 2, none⟩ = some (.slice none 0 0) := hBB.cell 2
  have f2 := hBB.frozen 2
  have hUC : Upd (fun _ => False) wA (wB.setCell ⟨rs, 2, none⟩ (.slice A2 l2.length cap2)) := hUB.setCell (p := ⟨rs, 2, none⟩) (fun h => by simp only at h; omega) _
  have XC := Lib.hid (XA.out.still hUC); have YC := Lib.hid (YA.out.still hUC); have UwC := Lib.hid (UwA.out.trans hUC)
  have RC := Lib.hid (RA.out.still hUC)
  have SC : Hid (Blk (wB.setCell ⟨rs, 2, none⟩ (.slice A2 l2.length cap2)) rs 33 #[.int .i64 (B : Int), .int .i64 (W : Int), .slice A2 l2.length cap2]) := Lib.hid (by
    have := hBB.set_ 2 (.slice A2 l2.length cap2)
    exact this)
  have HW6 : Hid (w6.heap.size ≤ (wB.setCell ⟨rs, 2, none⟩ (.slice A2 l2.length cap2)).heap.size) := Lib.hid (Nat.le_trans HWA.out hUC.size)
  clear hBB hUB hUC hrs XA YA UwA RA HWA
  go_upto_region 11 with fail
  clear c2 f2
  generalize wB.setCell ⟨rs, 2, none⟩ (.slice A2 l2.length cap2) = wC at *
  -- x.Merge(y)
  obtain ⟨M, hM⟩ : ∃ M : Nat → Prop, (fun k => k < wC.heap.size ∧ ¬ ownT g bm ks k) = M := ⟨_, rfl⟩
  have HM : Hid (∀ k, M k ↔ k < wC.heap.size ∧ ¬ ownT g bm ks k) := Lib.hid (fun k => by rw [← hM])
  have XM : Hid (TabJ wC g bm B W ks l M) := Lib.hid ⟨XC.out.1.other (fun q hq h => ((HM.out q).1 h).2 hq), XC.out.2⟩
  have HMO : Hid (∀ q, ownT g2 bm2 ks2 q → M q) := Lib.hid (fun q hq => (HM.out q).2 ⟨(YC.out.1.own_lt q hq).1, fun h => HXY.out q h hq⟩)
  have HMW2 : Hid (∀ q, q < w.heap.size → M q) := Lib.hid (fun q hq => (HM.out q).2 ⟨Nat.lt_of_lt_of_le hq UwC.out.size, fun h => by have := (HXW.out q h).1; omega⟩)
  have HM6 : Hid (∀ q, w6.heap.size ≤ q → q < wC.heap.size → M q) := Lib.hid (fun q hq hlt => (HM.out q).2 ⟨hlt, fun h => by have := (HXW.out q h).2; omega⟩)
  clear hM XC
  go_wp2_with fail
  refine (mergeC wC g bm B W ks M l XM.out g2 bm2 ks2 N2 l2 YC.out (fun k hk => ((HM.out k).1 hk).1) HMO.out hBW.1 hBW.2.1 (by omega) (by omega) HWF2.out).mono ?_
  rintro e wD ⟨rfl, ⟨ks3, hT⟩, hUD⟩
  have XD := Lib.hid hT
  have YD := Lib.hid (YC.out.keep hUD (fun q hq h => h (HMO.out q hq)))
  have UwD : Hid (Upd (fun _ => False) w wD) := Lib.hid (((UwC.out.mono (S' := fun q => ¬ M q) (fun _ _ h => h.elim)).trans hUD).mono (fun q hq h => h (HMW2.out q hq)))
  have RD := Lib.hid (RC.out.upd hUD (fun h => h (HM6.out r (by rw [HR.out]; exact Nat.le_refl _) RC.out.b.lt)) (fun a ha hlt h => h (HM6.out _ (HA9.out a ha) hlt)))
  have SD : Hid (RTab wD rs B W A2 cap2 l2) := Lib.hid ⟨SC.out.upd hUD (fun h => h (HM6.out rs HRS.out SC.out.lt)), HJ2.out.still UwD.out⟩
  have HLW : Hid (∀ j ∈ l ++ l2, j.Wf) := Lib.hid (fun j hj => (List.mem_append.1 hj).elim (HWF.out j) (HWF2.out j))
  have hL : (l ++ l2).length ≤ 120 := by rw [List.length_append]; omega
  obtain ⟨L, hLe⟩ : ∃ L, l ++ l2 = L := ⟨_, rfl⟩
  rw [hLe] at XD RD HLW hL
  clear hT hUD XM YC UwC RC SC HMO HM6 HW6 HXY HRS HA9 hLe
  go_wp2_with fail
  refine (sameC wD g bm B W ks3 M L r c9 A9 XD.out RD.out (by omega) HLW.out hBW.1 hBW.2.1 hBW.2.2).mono ?_
  rintro e wE ⟨rfl, hUE⟩
  have XE := Lib.hid (XD.out.still hUE); have YE := Lib.hid (YD.out.still hUE); have SE := Lib.hid (SD.out.still hUE); have UwE := Lib.hid (UwD.out.trans hUE)
  clear hUE XD YD SD UwD RD
  go_wp2_with fail
  refine (sameC wE g2 bm2 B W ks2 N2 l2 rs cap2 A2 YE.out SE.out (by omega) HWF2.out hBW.1 hBW.2.1 hBW.2.2).mono ?_
  rintro e wF ⟨rfl, hUF⟩
  have XF := Lib.hid (XE.out.still hUF); have UwF := Lib.hid (UwE.out.trans hUF)
  clear hUF XE YE SE UwE
  go_wp2_with fail
  refine (linesC wF g bm B W ks3 M L XF.out (by omega) HLW.out).mono ?_
  rintro e wG ⟨vG, rfl, hvG, hUG⟩
  have VG := Lib.hid hvG
  have XG := Lib.hid (XF.out.still hUG); have UwG := Lib.hid (UwF.out.trans hUG)
  have hll : (linesJ L).length ≤ 120 := by unfold linesJ; rw [List.length_map]; have := sortT_len L; omega
  obtain ⟨n, hn⟩ : ∃ n, (linesJ L).length = n := ⟨_, rfl⟩
  obtain ⟨AG, cG, rfl⟩ := VG.out.shape
  have HN := Lib.hid hn
  rw [hn] at VG hll ⊢
  clear hvG hUG hn XF UwF
  go_wp2_with fail
  go_loopw [14, 15, 16, 17] (fun v14 v15 v16 v17 wr => ∃ (i : Nat), i ≤ n ∧ v14 = .int .i64 i ∧ Upd (fun _ => False) wG wr) (fun v14 _ _ _ _ => n - (intOf v14).toNat)
  case atStart => exact ⟨0, Nat.zero_le _, rfl, Upd.refl _ wG⟩
  case round =>
    obtain ⟨i, hi, rfl, hU⟩ := hrel
    have U4 := Lib.hid hU
    by_cases hlt : i < n
    · obtain ⟨p, hp⟩ : ∃ p, (linesJ L)[i]? = some p := ⟨_, List.getElem?_eq_getElem (by rw [HN.out]; exact hlt)⟩
      have V5 := VG.out.upd hU (fun _ _ h => h)
      obtain ⟨b1, o1, c1', e1, _, _, _, _⟩ := V5.form (by rw [HN.out]; omega)
      injection e1 with e1 e1b e1c
      subst e1; subst e1c
      clear e1b
      obtain ⟨t, hpt⟩ : ∃ t, p = lineP L t ∧ t ∈ sortT L := by
        have h := List.mem_of_getElem? hp
        unfold linesJ at h
        obtain ⟨x, hx, e⟩ := List.mem_map.1 h
        exact ⟨x, e.symm, hx⟩
      obtain ⟨rfl, htm⟩ := hpt
      have htw := task_wf HLW.out htm
      have HCS : Hid (cntsJ B W L t = cntJ B W L t) := Lib.hid (by unfold cntsJ; rw [if_pos ((sortT_mem L t).1 htm)])
      have hok := lineJ_ok L t
      have HSUM := Lib.hid (sumL_cnt B W hBW.1 L t)
      have HBD : Hid (∀ z ∈ cntJ B W L t, 0 ≤ z ∧ z ≤ 120) := Lib.hid (fun z hz => by have := cntJ_bd B W L t z hz; omega)
      have HCL := Lib.hid (cntJ_len B W L t)
      have x0 : wr.cell? ⟨b1, o1 + i * 7, none⟩ = some (.int .i64 t) := V5.cell encL_len i _ hp 0 _ rfl
      obtain ⟨⟨arr, en, lo, le, mo, su⟩, hx⟩ : ∃ x, lineJ L t = x := ⟨_, rfl⟩
      have HS : Hid (∀ w', Upd (fun _ => False) wr w' → w'.cell? ⟨b1, o1 + i * 7 + 1, none⟩ = some (.int .i64 arr) ∧ w'.cell? ⟨b1, o1 + i * 7 + 2, none⟩ = some (.int .i64 en) ∧ w'.cell? ⟨b1, o1 + i * 7 + 3, none⟩ = some (.int .i64 lo)) := Lib.hid (fun w' hu => by
        have X := V5.upd hu (fun _ _ h => h)
        have e : encL (lineP L t) = [.int .i64 t, .int .i64 arr, .int .i64 en, .int .i64 lo, .int .i64 le, .int .i64 mo, .int .i64 su] := by unfold lineP; rw [hx]; rfl
        exact ⟨X.cell encL_len i _ hp 1 _ (by rw [e]; rfl), X.cell encL_len i _ hp 2 _ (by rw [e]; rfl), X.cell encL_len i _ hp 3 _ (by rw [e]; rfl)⟩)
      rw [hx] at hok HSUM
      dsimp only at HSUM
      obtain ⟨h1, h2, h3, h4, h5, h6, _, _, _, _, _, _, h13⟩ := hok
      dsimp only at h1 h2 h3 h4 h5 h6 h13
      have hbb : 0 ≤ arr ∧ arr ≤ 120 ∧ 0 ≤ en ∧ en ≤ 120 ∧ 0 ≤ lo ∧ lo ≤ 120 := by omega
      have dgt : decide (arr < en + lo) = false := decide_eq_false (by omega)
      have T4 := Lib.hid (XG.out.still hU)
      have dl : decide ((i : Int) < (n : Int)) = true := decide_eq_true (by omega)
      have di : decide ((i : Int) < 0) = false := decide_eq_false (by omega)
      clear hU V5 hp htm hx h1 h2 h3 h4 h5 h6 h13
      go_wp2_with fail
      refine (countsC wr g bm B W ks3 M L T4.out hBW.2.1 t htw).mono ?_
      rintro e wH ⟨vH, rfl, hvH, hUH⟩
      rw [HCS.out] at hvH
      obtain ⟨AH, cH, rfl⟩ := SlR.shape hvH
      have VH := Lib.hid hvH
      have hs := HS.out wH hUH
      obtain ⟨x1, x2, x3⟩ := hs
      have U5 := Lib.hid (U4.out.trans hUH)
      rw [HCL.out] at VH ⊢
      clear hvH hUH T4 x0
      go_wp2_with fail
      go_loopw [15, 17] (fun v15 v17 wq => ∃ (k : Nat), k ≤ B ∧ v17 = .int .i64 k ∧ v15 = .int .i64 (sumL ((cntJ B W L t).take k)) ∧ wq = wH) (fun _ v17 _ => B - (intOf v17).toNat)
      case atStart => exact ⟨0, Nat.zero_le _, rfl, rfl, rfl⟩
      case round =>
        obtain ⟨k, hk, rfl, rfl, rfl⟩ := hrel
        by_cases hkB : k < B
        · obtain ⟨z, hz⟩ : ∃ z, (cntJ B W L t)[k]? = some z := ⟨_, List.getElem?_eq_getElem (by rw [HCL.out]; exact hkB)⟩
          have hzb := HBD.out z (List.mem_of_getElem? hz)
          obtain ⟨bh, oh, ch', e1, _, _, _, _⟩ := VH.out.form (by rw [HCL.out]; omega)
          injection e1 with e1 e1b e1c
          subst e1; subst e1c
          have cz := slr_int VH.out k z hz
          have HSC : Hid (sumL ((cntJ B W L t).take (k + 1)) = sumL ((cntJ B W L t).take k) + z) := Lib.hid (by rw [take_succ_get hz, sumL_snoc])
          have hsb : 0 ≤ sumL ((cntJ B W L t).take k) ∧ sumL ((cntJ B W L t).take k) ≤ 64 * 120 := by
            have h := sumL_bd ((cntJ B W L t).take k) 120 (fun z hz => HBD.out z (List.mem_of_mem_take hz))
            rw [List.length_take, HCL.out] at h
            omega
          obtain ⟨sm, hsm⟩ : ∃ sm, sumL ((cntJ B W L t).take k) = sm := ⟨_, rfl⟩
          rw [hsm] at HSC hsb ⊢
          have dk : decide ((k : Int) < (B : Int)) = true := decide_eq_true (by omega)
          have dk0 : decide ((k : Int) < 0) = false := decide_eq_false (by omega)
          clear hz hsm e1b
          go_wp2_with fail
          go_roundw
          case rel => exact ⟨k + 1, by omega, by go_num, by rw [HSC.out], trivial⟩
          case measure => simp [intOf]; omega
        · have hke : k = B := by omega
          subst hke
          have hst : sumL ((cntJ k W L t).take k) = en := by rw [List.take_of_length_le (by rw [HCL.out]; exact Nat.le_refl _)]; exact HSUM.out
          rw [hst]
          clear hst
          go_wp2_with fail
          go_quiet (fail)
          go_wp2_with fail
          go_roundw
          case rel => exact ⟨i + 1, by omega, by go_num, U5.out.drewN _⟩
          case measure => simp [intOf]; omega
    · have hie : i = n := by omega
      subst hie
      have XH := Lib.hid (XG.out.still hU)
      have UH := Lib.hid (UwG.out.trans hU)
      clear hU
      go_wp2_with fail
      refine (jobsC wr A cap l (by omega) (HJ.out.still UH.out)).mono ?_
      rintro e wI ⟨vI, rfl, _, hUI⟩
      have XI := Lib.hid (XH.out.still hUI); have UwI := Lib.hid (UH.out.trans hUI)
      clear hUI XH UH XG UwG VG U4
      go_wp2_with fail
      refine (addNil wI vI).mono ?_
      rintro e wJ ⟨rfl, hUJ⟩
      have XJ := Lib.hid (XI.out.still hUJ); have UwJ := Lib.hid (UwI.out.trans hUJ)
      clear hUJ XI UwI
      go_wp2_with fail
      refine (mergeNil1 wJ _).mono ?_
      rintro e wK ⟨rfl, hUK⟩
      have XK := Lib.hid (XJ.out.still hUK); have UwK := Lib.hid (UwJ.out.trans hUK)
      clear hUK XJ UwJ
      go_wp2_with fail
      refine (mergeNil2 wK g bm _ _ XK.out.1.b none (NoneIs.nil wK)).mono ?_
      rintro e wL ⟨rfl, hUL⟩
      have XL := Lib.hid (XK.out.still hUL); have UwL := Lib.hid (UwK.out.trans hUL)
      clear hUL XK UwK
      have ua := (Upd.refl (fun _ => False) wL).alloc (.cells #[.map none, .int .i64 0, .int .i64 0] 47)
      have XL2 := Lib.hid (XL.out.still ua); have UwL2 := Lib.hid (UwL.out.trans ua)
      have ZL := Lib.hid (Blk.new wL 47 #[.map none, .int .i64 0, .int .i64 0])
      clear ua XL UwL
      go_wp2_with fail
      refine (mergeNil2 _ g bm _ _ XL2.out.1.b _ (NoneIs.zero ZL.out)).mono ?_
      rintro e wM ⟨rfl, hUM⟩
      have XM := Lib.hid (XL2.out.still hUM); have UwM := Lib.hid (UwL2.out.trans hUM)
      clear hUM XL2 UwL2 ZL
      go_wp2_with fail
      refine (linesNil wM).mono ?_
      rintro e wN ⟨rfl, hUN⟩
      have XN := Lib.hid (XM.out.still hUN); have UwN := Lib.hid (UwM.out.trans hUN)
      clear hUN XM UwM
      go_wp2_with fail
      refine (countsNil wN 0).mono ?_
      rintro e wO ⟨rfl, hUO⟩
      have XO := Lib.hid (XN.out.still hUO); have UwO := Lib.hid (UwN.out.trans hUO)
      clear hUO XN UwN
      go_wp2_with fail
      refine (newS wO b (min (max d 1) 999 + 1)).mono ?_
      rintro e wP ⟨rfl, hT, hUP⟩
      obtain ⟨g3, hg⟩ : ∃ g, wO.heap.size + 1 = g := ⟨_, rfl⟩
      obtain ⟨bm3, hbm⟩ : ∃ bm, wO.heap.size = bm := ⟨_, rfl⟩
      rw [hg, HBW.out] at hT
      rw [hg]
      have T3 := Lib.hid (show TabS wP g3 bm3 B _ [] _ _ _ by rw [hbm] at hT; exact hT)
      have XP := Lib.hid (XO.out.still hUP); have UwP := Lib.hid (UwO.out.trans hUP)
      have HG3 : Hid (wO.heap.size ≤ g3 ∧ wO.heap.size ≤ bm3) := Lib.hid (by omega)
      clear hT hUP hg hbm
      by_cases hWW : 1000 ≤ max d 1
      · have e1 : (min (max (min (max d 1) 999 + 1) 1) 1000).toNat = W := by have := HMW.out; omega
        have dne : (min (max d 1) 1000 != min (max d 1) 999 + 1) = false := by
          rw [show min (max d 1) 1000 = min (max d 1) 999 + 1 by omega]; simp
        rw [e1] at T3
        have XP2 : Hid (TabJ wP g bm B W ks3 L (fun k => k < wP.heap.size ∧ ¬ ownT g bm ks3 k)) := Lib.hid ⟨XP.out.1.other (fun q hq h => h.2 hq), XP.out.2⟩
        have HOW : Hid (∀ q, ownT g bm ks3 q → w.heap.size ≤ q ∧ q < wO.heap.size) := Lib.hid (fun q hq => by
          obtain ⟨h1, h2⟩ := XO.out.1.own_lt q hq
          refine ⟨?_, h1⟩
          by_cases hlt : w.heap.size ≤ q
          · exact hlt
          · exact absurd (HMW2.out q (by omega)) h2)
        clear e1 hWW
        go_wp2_with fail
        refine (mergeC wP g bm B W ks3 _ L XP2.out g3 bm3 [] _ [] (TabJ.new T3.out) (fun k hk => hk.1) (fun q hq => by
          rcases hq with hq | hq | ⟨e, he, _⟩
          · rw [hq]; exact ⟨T3.out.b.lt, fun h => by have h1 := (HOW.out _ h).2; have h2 := HG3.out.1; omega⟩
          · rw [hq]; exact ⟨T3.out.m.lt, fun h => by have h1 := (HOW.out _ h).2; have h2 := HG3.out.2; omega⟩
          · cases he) hBW.1 hBW.2.1 (by omega) (by decide) (by intro j hj; cases hj)).mono ?_
        rintro e wQ ⟨rfl, _, hUQ⟩
        have UwQ : Hid (Upd (fun _ => False) w wQ) := Lib.hid (((UwP.out.mono (fun _ _ h => h.elim)).trans hUQ).mono (fun q hq h => h ⟨Nat.lt_of_lt_of_le hq UwP.out.size, fun ho => by have := (HOW.out q ho).1; omega⟩))
        clear hUQ
        go_wp2_with fail
        go_returns
        exact ⟨rfl, UwQ.out⟩
      · have e1 : (W : Int) ≠ ((min (max (min (max d 1) 999 + 1) 1) 1000).toNat : Int) := by have := HMW.out; omega
        have dne : (min (max d 1) 1000 != min (max d 1) 999 + 1) = true := bne_iff_ne.2 (by omega)
        have HB3 := Lib.hid T3.out.b
        obtain ⟨W2, hW2⟩ : ∃ W2, (min (max (min (max d 1) 999 + 1) 1) 1000).toNat = W2 := ⟨_, rfl⟩
        rw [hW2] at e1 HB3
        clear hW2 hWW
        go_wp2_with fail
        refine (mergeW wP g bm g3 bm3 B W W2 XP.out.1.b HB3.out e1).mono ?_
        rintro e wQ ⟨rfl, hUQ⟩
        have UwQ := Lib.hid (UwP.out.trans hUQ)
        clear hUQ
        go_wp2_with fail
        go_returns
        exact ⟨rfl, UwQ.out⟩
end Go.Proofs.Ythjebjegedgoeaa
