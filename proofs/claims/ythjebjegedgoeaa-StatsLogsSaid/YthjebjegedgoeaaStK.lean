/-
  Stats: the document's line. (Written by stk.py.)
-/
import Derived.Test.YthjebjegedgoeaaStJ
namespace Go.Proofs.Ythjebjegedgoeaa
open Go.RowKit Go.Shelf Go.Maps Go.Sort
attribute [local go_sem] max_ints min_ints

theorem BlkL.set_ {w : World} {bx : Nat} {p p' : Int × Ln} (h : Blk w bx 69 (encL p).toArray) (i : Nat) (u : Int) (e : (encL p).toArray.setIfInBounds i (.int .i64 u) = (encL p').toArray) : Blk (w.setCell ⟨bx, i, none⟩ (.int .i64 u)) bx 69 (encL p').toArray := by rw [← e]; exact h.set_ i _

set_option maxRecDepth 100000 in
set_option maxHeartbeats 6400000 in
theorem rLineC (w : World) (r B W cap : Nat) (A : Option Addr) (l : List J5) (h : RTab w r B W A cap l) (hl : l.length ≤ 200) (hwf : ∀ j ∈ l, j.Wf) (t : Int) :
    Calls Try.prog 28 #[.pointer (some ⟨r, 0, none⟩), .int .i64 t] w fun e w' => e = .returned (.agg (encL (lineP l t)).toArray) ∧ Upd (fun _ => False) w w' := by
  have H := Lib.hid h; have HWF := Lib.hid hwf
  have u0 := (Upd.refl (fun _ => False) w).alloc (.cells #[.int .i64 0, .int .i64 0, .int .i64 0, .int .i64 0, .int .i64 0, .int .i64 0, .int .i64 0] 69)
  have U0 := Lib.hid (u0.alloc (.cells #[.int .i64 t, .int .i64 0, .int .i64 0, .int .i64 0, .int .i64 0, .int .i64 0, .int .i64 0] 69))
  have Z0 := Lib.hid ((Blk.new w 69 #[.int .i64 0, .int .i64 0, .int .i64 0, .int .i64 0, .int .i64 0, .int .i64 0, .int .i64 0]).alloc (.cells #[.int .i64 t, .int .i64 0, .int .i64 0, .int .i64 0, .int .i64 0, .int .i64 0, .int .i64 0] 69))
  have X0 := Lib.hid (Blk.new (w.alloc (.cells #[.int .i64 0, .int .i64 0, .int .i64 0, .int .i64 0, .int .i64 0, .int .i64 0, .int .i64 0] 69)) 69 #[.int .i64 t, .int .i64 0, .int .i64 0, .int .i64 0, .int .i64 0, .int .i64 0, .int .i64 0])
  have hbs : (w.alloc (.cells #[.int .i64 0, .int .i64 0, .int .i64 0, .int .i64 0, .int .i64 0, .int .i64 0, .int .i64 0] 69)).heap.size = w.heap.size + 1 := by simp
  rw [hbs] at X0
  clear h hwf u0 hbs
  go_enter Try.func28, Try.ntmps28
  go_upto_region 2 with fail
  obtain ⟨b4, hb4⟩ : ∃ b4, w.heap.size = b4 := ⟨_, rfl⟩
  obtain ⟨bx, hbx⟩ : ∃ bx, b4 + 1 = bx := ⟨_, rfl⟩
  rw [hb4] at Z0 X0 ⊢
  rw [hbx] at X0 ⊢
  have HBX : Hid (w.heap.size ≤ bx ∧ w.heap.size ≤ b4 ∧ b4 ≠ bx) := Lib.hid (by omega)
  clear hb4 hbx
  generalize (w.alloc (.cells #[.int .i64 0, .int .i64 0, .int .i64 0, .int .i64 0, .int .i64 0, .int .i64 0, .int .i64 0] 69)).alloc (.cells #[.int .i64 t, .int .i64 0, .int .i64 0, .int .i64 0, .int .i64 0, .int .i64 0, .int .i64 0] 69) = w1 at *
  go_wp2_with fail
  go_loopw [6, 7, 8] (fun v6 v7 v8 wr => ∃ (i : Nat), i ≤ l.length ∧ v6 = .int .i64 i ∧ Blk wr b4 69 #[.int .i64 0, .int .i64 0, .int .i64 0, .int .i64 0, .int .i64 0, .int .i64 0, .int .i64 0] ∧ Blk wr bx 69 (encL (t, lineJ (l.take i) t)).toArray ∧ Upd (fun _ => False) w wr) (fun v6 _ _ _ => l.length - (intOf v6).toNat)
  case atStart => exact ⟨0, Nat.zero_le _, rfl, Z0.out, X0.out, U0.out⟩
  case round =>
    obtain ⟨i, hi, rfl, hZ, hX, hU⟩ := hrel
    have R1 := Lib.hid (H.out.still hU)
    have Z1 := Lib.hid hZ; have X1 := Lib.hid hX; have U1 := Lib.hid hU
    have r2 : wr.cell? ⟨r, 2, none⟩ = some (.slice A l.length cap) := R1.out.b.cell 2
    clear hZ hX hU
    by_cases hlt : i < l.length
    · obtain ⟨j, hj⟩ : ∃ j, l[i]? = some j := ⟨_, List.getElem?_eq_getElem hlt⟩
      obtain ⟨b, o, rfl, hb, c0, c1, c2, c3, c4⟩ := R1.out.j i j hj
      have HJW := Lib.hid (HWF.out j (List.mem_of_getElem? hj))
      have HJ := Lib.hid hj
      have HLN := Lib.hid (lineJ_ok (l.take i) t)
      have dl : decide ((i : Int) < (l.length : Int)) = true := decide_eq_true (by omega)
      have di : decide ((i : Int) < 0) = false := decide_eq_false (by omega)
      have htl : (l.take i).length ≤ 200 := by rw [List.length_take]; omega
      obtain ⟨wa, hwa⟩ : ∃ wa, wr.alloc (.cells #[.int .i64 j.t, .int .i64 j.k, .int .i64 j.f, .int .i64 j.o, .int .i64 j.e] 66) = wa := ⟨_, rfl⟩
      obtain ⟨ga, hga⟩ : ∃ ga, wr.heap.size = ga := ⟨_, rfl⟩
      have HGA := Lib.hid hga; have HWA := Lib.hid hwa
      have ua : Upd (fun _ => False) wr wa := by rw [← hwa]; exact (Upd.refl _ wr).alloc _
      have BA : Hid (Blk wa ga 66 (encJ j).toArray) := Lib.hid (by rw [← hwa, ← hga]; exact Blk.new wr _ _)
      have ZA := Lib.hid (Z1.out.upd ua (fun h => h))
      have XA := Lib.hid (X1.out.upd ua (fun h => h))
      have UA := Lib.hid (U1.out.trans ua)
      have a0 : wa.cell? ⟨ga, 0, none⟩ = some (.int .i64 j.t) := BA.out.cell 0
      have hz4 : b4 ≠ bx := HBX.out.2.2
      have HZ4 := Lib.hid hz4
      clear hwa hga ua hj hz4
      obtain ⟨jt, hjt⟩ : ∃ jt, j.t = jt := ⟨_, rfl⟩
      by_cases hT : j.t = t
      · have dn : (j.t != t) = false := by rw [hT]; exact bne_self_eq_false _
        have dn2 : decide (j.t = t) = true := decide_eq_true hT
        have HT := Lib.hid hT
        obtain ⟨⟨arr, en, lo, le, mo, su⟩, hx⟩ : ∃ x, lineJ (l.take i) t = x := ⟨_, rfl⟩
        rw [hx] at XA HLN
        have HX := Lib.hid hx
        have harr : 0 ≤ arr ∧ arr ≤ 1000000 := by have h1 := HLN.out.arr0; have h2 := HLN.out.arr1; dsimp only at h1 h2; omega
        have hlo : 0 ≤ lo ∧ lo ≤ 1000000 := by have h1 := HLN.out.lost0; have h2 := HLN.out.lost1; dsimp only at h1 h2; omega
        have hen : 0 ≤ en ∧ en ≤ 1000000 := by have h1 := HLN.out.ended0; have h2 := HLN.out.ended1; dsimp only at h1 h2; omega
        have hmo : 0 ≤ mo ∧ mo ≤ 1048576 := ⟨HLN.out.most0, HLN.out.most1⟩
        have hsu : 0 ≤ su ∧ su ≤ 1048576000000 := by have h1 := HLN.out.sum0; have h2 := HLN.out.sum1; dsimp only at h1 h2; omega
        clear hx hT hjt
        go_upto_region 7 with fail
        rw [HWA.out, HGA.out]
        clear c0 c1 c2 c3 c4 a0 r2 HWA HGA dn dn2
        have k1 : wa.cell? ⟨bx, 1, none⟩ = some (.int .i64 arr) := XA.out.cell 1
        have f1 := XA.out.frozen 1
        have X2 := Lib.hid (BlkL.set_ (p' := (t, ⟨arr + 1, en, lo, le, mo, su⟩)) XA.out 1 (arr + 1) rfl)
        have Q2 : Hid (Upd (fun q => q = bx) wa (wa.setCell ⟨bx, 1, none⟩ (.int .i64 (arr + 1)))) := Lib.hid ((Upd.refl (fun q => q = bx) wa).setCell (p := ⟨bx, 1, none⟩) (fun _ => rfl) _)
        have BA1 := Lib.hid (BA.out.upd Q2.out (BA.out.ne_ XA.out (by decide)))
        go_upto_region 8 with fail
        clear k1 f1
        generalize wa.setCell ⟨bx, 1, none⟩ (.int .i64 (arr + 1)) = wb at *
        have b0 : wb.cell? ⟨ga, 0, none⟩ = some (.int .i64 j.t) := BA1.out.cell 0
        have b1 : wb.cell? ⟨ga, 1, none⟩ = some (.int .i64 j.k) := BA1.out.cell 1
        have b2 : wb.cell? ⟨ga, 2, none⟩ = some (.int .i64 j.f) := BA1.out.cell 2
        have b3 : wb.cell? ⟨ga, 3, none⟩ = some (.int .i64 j.o) := BA1.out.cell 3
        have b4b : wb.cell? ⟨ga, 4, none⟩ = some (.int .i64 j.e) := BA1.out.cell 4
        go_wp2_with fail
        refine (rAnsC wb j HJW.out).mono ?_
        rintro e w2 ⟨rfl, hU2⟩
        have Xw2 := Lib.hid (X2.out.upd hU2 (fun h => h))
        have Qw2 := Lib.hid (Q2.out.trans (hU2.mono (fun _ _ h => h.elim)))
        have BA2 := Lib.hid (BA1.out.upd hU2 (fun h => h))
        clear hU2 b0 b1 b2 b3 b4b
        obtain ⟨a, haa⟩ : ∃ a, ansJ j = a := ⟨_, rfl⟩
        rw [haa]
        have HHA : Hid (a = ansJ j) := Lib.hid haa.symm
        have hab : 0 ≤ a ∧ a ≤ 1048576 := by rw [← haa]; exact ansJ_le j
        have hz4 := HZ4.out
        clear haa
        by_cases hap : 0 < a
        · have k2 : w2.cell? ⟨bx, 2, none⟩ = some (.int .i64 en) := Xw2.out.cell 2
          obtain ⟨le', hle'⟩ : ∃ l, (if en = 0 ∨ a < le then a else le) = l := ⟨_, rfl⟩
          have HLE := Lib.hid hle'
          have HAP : Hid (0 < ansJ j) := Lib.hid (by rw [← HHA.out]; exact hap)
          have da : decide (0 < a) = true := decide_eq_true hap
          clear hle'
          by_cases c1 : en = 0
          · subst c1
            have k4a : w2.cell? ⟨bx, 4, none⟩ = some (.int .i64 le) := Xw2.out.cell 4
            have hl : le' = a := by rw [← HLE.out, if_pos (.inl rfl)]
            subst hl
            have k4 : w2.cell? ⟨bx, 4, none⟩ = some (.int .i64 le) := Xw2.out.cell 4
            have f4 := Xw2.out.frozen 4
            have Xw4 := Lib.hid (BlkL.set_ (p' := (t, ⟨arr + 1, 0, lo, le', mo, su⟩)) Xw2.out 4 le' rfl)
            have Qw4 : Hid (Upd (fun q => q = bx) wa (w2.setCell ⟨bx, 4, none⟩ (.int .i64 le'))) := Lib.hid (Qw2.out.trans ((Upd.refl (fun q => q = bx) w2).setCell (p := ⟨bx, 4, none⟩) (fun _ => rfl) _))
            go_upto_region 12 with fail
            clear k4 f4 k2 k4a
            generalize w2.setCell ⟨bx, 4, none⟩ (.int .i64 le') = w4 at *
            have kw5 : w4.cell? ⟨bx, 5, none⟩ = some (.int .i64 mo) := Xw4.out.cell 5
            have fw5 := Xw4.out.frozen 5
            have Xw5 := Lib.hid (BlkL.set_ (p' := (t, ⟨arr + 1, 0, lo, le', max mo le', su⟩)) Xw4.out 5 (max mo le') rfl)
            have Qw5 : Hid (Upd (fun q => q = bx) wa (w4.setCell ⟨bx, 5, none⟩ (.int .i64 (max mo le')))) := Lib.hid (Qw4.out.trans ((Upd.refl (fun q => q = bx) w4).setCell (p := ⟨bx, 5, none⟩) (fun _ => rfl) _))
            go_upto_region 13 with fail
            clear kw5 fw5
            generalize w4.setCell ⟨bx, 5, none⟩ (.int .i64 (max mo le')) = w5 at *
            have kw6 : w5.cell? ⟨bx, 6, none⟩ = some (.int .i64 su) := Xw5.out.cell 6
            have fw6 := Xw5.out.frozen 6
            have Xw6 := Lib.hid (BlkL.set_ (p' := (t, ⟨arr + 1, 0, lo, le', max mo le', su + le'⟩)) Xw5.out 6 (su + le') rfl)
            have Qw6 : Hid (Upd (fun q => q = bx) wa (w5.setCell ⟨bx, 6, none⟩ (.int .i64 (su + le')))) := Lib.hid (Qw5.out.trans ((Upd.refl (fun q => q = bx) w5).setCell (p := ⟨bx, 6, none⟩) (fun _ => rfl) _))
            go_upto_region 14 with fail
            clear kw6 fw6
            generalize w5.setCell ⟨bx, 6, none⟩ (.int .i64 (su + le')) = w6 at *
            have kw7 : w6.cell? ⟨bx, 2, none⟩ = some (.int .i64 0) := Xw6.out.cell 2
            have fw7 := Xw6.out.frozen 2
            have Xw7 := Lib.hid (BlkL.set_ (p' := (t, ⟨arr + 1, 1, lo, le', max mo le', su + le'⟩)) Xw6.out 2 (1) rfl)
            have Qw7 : Hid (Upd (fun q => q = bx) wa (w6.setCell ⟨bx, 2, none⟩ (.int .i64 (1)))) := Lib.hid (Qw6.out.trans ((Upd.refl (fun q => q = bx) w6).setCell (p := ⟨bx, 2, none⟩) (fun _ => rfl) _))
            have hst : (⟨arr, 0, lo, le, mo, su⟩ : Ln).step j = ⟨arr + 1, 1, lo, le', max mo le', su + le'⟩ := by
              unfold Ln.step
              rw [if_pos HAP.out, ← HHA.out]
              have hle : (if (0 : Int) = 0 ∨ le' < le then le' else le) = le' := if_pos (.inl rfl)
              exact congrArg (fun z => (⟨arr + 1, 1, lo, z, max mo le', su + le'⟩ : Ln)) hle
            have ZE := Lib.hid (ZA.out.upd Qw7.out hz4)
            have XE : Hid (Blk (w6.setCell ⟨bx, 2, none⟩ (.int .i64 (1))) bx 69 (encL (t, lineJ (l.take (i + 1)) t)).toArray) := Lib.hid (by
              rw [take_succ_get HJ.out, lineJ_snoc, if_pos HT.out, HX.out, hst]
              exact Xw7.out)
            have UE : Hid (Upd (fun _ => False) w (w6.setCell ⟨bx, 2, none⟩ (.int .i64 (1)))) := Lib.hid ((UA.out.mono (fun _ _ h => h.elim)).trans Qw7.out |>.mono (fun q hq h => by have := HBX.out; omega))
            clear Qw7 hst
            go_wp2_with fail
            go_roundw
            case rel => exact ⟨i + 1, by omega, by go_num, ZE.out, XE.out, UE.out⟩
            case measure => simp [intOf]; omega
          · have d1 : (en == 0) = false := beq_eq_false_iff_ne.2 c1
            by_cases c2 : a < le
            · have d2 : decide (a < le) = true := decide_eq_true c2
              have k4a : w2.cell? ⟨bx, 4, none⟩ = some (.int .i64 le) := Xw2.out.cell 4
              have hl : le' = a := by rw [← HLE.out, if_pos (.inr c2)]
              subst hl
              have k4 : w2.cell? ⟨bx, 4, none⟩ = some (.int .i64 le) := Xw2.out.cell 4
              have f4 := Xw2.out.frozen 4
              have Xw4 := Lib.hid (BlkL.set_ (p' := (t, ⟨arr + 1, en, lo, le', mo, su⟩)) Xw2.out 4 le' rfl)
              have Qw4 : Hid (Upd (fun q => q = bx) wa (w2.setCell ⟨bx, 4, none⟩ (.int .i64 le'))) := Lib.hid (Qw2.out.trans ((Upd.refl (fun q => q = bx) w2).setCell (p := ⟨bx, 4, none⟩) (fun _ => rfl) _))
              go_upto_region 12 with fail
              clear k4 f4 k2 k4a
              generalize w2.setCell ⟨bx, 4, none⟩ (.int .i64 le') = w4 at *
              have kw5 : w4.cell? ⟨bx, 5, none⟩ = some (.int .i64 mo) := Xw4.out.cell 5
              have fw5 := Xw4.out.frozen 5
              have Xw5 := Lib.hid (BlkL.set_ (p' := (t, ⟨arr + 1, en, lo, le', max mo le', su⟩)) Xw4.out 5 (max mo le') rfl)
              have Qw5 : Hid (Upd (fun q => q = bx) wa (w4.setCell ⟨bx, 5, none⟩ (.int .i64 (max mo le')))) := Lib.hid (Qw4.out.trans ((Upd.refl (fun q => q = bx) w4).setCell (p := ⟨bx, 5, none⟩) (fun _ => rfl) _))
              go_upto_region 13 with fail
              clear kw5 fw5
              generalize w4.setCell ⟨bx, 5, none⟩ (.int .i64 (max mo le')) = w5 at *
              have kw6 : w5.cell? ⟨bx, 6, none⟩ = some (.int .i64 su) := Xw5.out.cell 6
              have fw6 := Xw5.out.frozen 6
              have Xw6 := Lib.hid (BlkL.set_ (p' := (t, ⟨arr + 1, en, lo, le', max mo le', su + le'⟩)) Xw5.out 6 (su + le') rfl)
              have Qw6 : Hid (Upd (fun q => q = bx) wa (w5.setCell ⟨bx, 6, none⟩ (.int .i64 (su + le')))) := Lib.hid (Qw5.out.trans ((Upd.refl (fun q => q = bx) w5).setCell (p := ⟨bx, 6, none⟩) (fun _ => rfl) _))
              go_upto_region 14 with fail
              clear kw6 fw6
              generalize w5.setCell ⟨bx, 6, none⟩ (.int .i64 (su + le')) = w6 at *
              have kw7 : w6.cell? ⟨bx, 2, none⟩ = some (.int .i64 en) := Xw6.out.cell 2
              have fw7 := Xw6.out.frozen 2
              have Xw7 := Lib.hid (BlkL.set_ (p' := (t, ⟨arr + 1, en + 1, lo, le', max mo le', su + le'⟩)) Xw6.out 2 (en + 1) rfl)
              have Qw7 : Hid (Upd (fun q => q = bx) wa (w6.setCell ⟨bx, 2, none⟩ (.int .i64 (en + 1)))) := Lib.hid (Qw6.out.trans ((Upd.refl (fun q => q = bx) w6).setCell (p := ⟨bx, 2, none⟩) (fun _ => rfl) _))
              have hst : (⟨arr, en, lo, le, mo, su⟩ : Ln).step j = ⟨arr + 1, en + 1, lo, le', max mo le', su + le'⟩ := by
                unfold Ln.step
                rw [if_pos HAP.out, ← HHA.out]
                have hle : (if en = 0 ∨ le' < le then le' else le) = le' := HLE.out
                exact congrArg (fun z => (⟨arr + 1, en + 1, lo, z, max mo le', su + le'⟩ : Ln)) hle
              have ZE := Lib.hid (ZA.out.upd Qw7.out hz4)
              have XE : Hid (Blk (w6.setCell ⟨bx, 2, none⟩ (.int .i64 (en + 1))) bx 69 (encL (t, lineJ (l.take (i + 1)) t)).toArray) := Lib.hid (by
                rw [take_succ_get HJ.out, lineJ_snoc, if_pos HT.out, HX.out, hst]
                exact Xw7.out)
              have UE : Hid (Upd (fun _ => False) w (w6.setCell ⟨bx, 2, none⟩ (.int .i64 (en + 1)))) := Lib.hid ((UA.out.mono (fun _ _ h => h.elim)).trans Qw7.out |>.mono (fun q hq h => by have := HBX.out; omega))
              clear Qw7 hst
              go_wp2_with fail
              go_roundw
              case rel => exact ⟨i + 1, by omega, by go_num, ZE.out, XE.out, UE.out⟩
              case measure => simp [intOf]; omega
            · have d2 : decide (a < le) = false := decide_eq_false c2
              have k4 : w2.cell? ⟨bx, 4, none⟩ = some (.int .i64 le) := Xw2.out.cell 4
              have hl : le' = le := by rw [← HLE.out, if_neg (fun h => h.elim c1 c2)]
              subst hl
              go_upto_region 12 with fail
              clear k4 k2
              have kw5 : w2.cell? ⟨bx, 5, none⟩ = some (.int .i64 mo) := Xw2.out.cell 5
              have fw5 := Xw2.out.frozen 5
              have Xw5 := Lib.hid (BlkL.set_ (p' := (t, ⟨arr + 1, en, lo, le', max mo a, su⟩)) Xw2.out 5 (max mo a) rfl)
              have Qw5 : Hid (Upd (fun q => q = bx) wa (w2.setCell ⟨bx, 5, none⟩ (.int .i64 (max mo a)))) := Lib.hid (Qw2.out.trans ((Upd.refl (fun q => q = bx) w2).setCell (p := ⟨bx, 5, none⟩) (fun _ => rfl) _))
              go_upto_region 13 with fail
              clear kw5 fw5
              generalize w2.setCell ⟨bx, 5, none⟩ (.int .i64 (max mo a)) = w5 at *
              have kw6 : w5.cell? ⟨bx, 6, none⟩ = some (.int .i64 su) := Xw5.out.cell 6
              have fw6 := Xw5.out.frozen 6
              have Xw6 := Lib.hid (BlkL.set_ (p' := (t, ⟨arr + 1, en, lo, le', max mo a, su + a⟩)) Xw5.out 6 (su + a) rfl)
              have Qw6 : Hid (Upd (fun q => q = bx) wa (w5.setCell ⟨bx, 6, none⟩ (.int .i64 (su + a)))) := Lib.hid (Qw5.out.trans ((Upd.refl (fun q => q = bx) w5).setCell (p := ⟨bx, 6, none⟩) (fun _ => rfl) _))
              go_upto_region 14 with fail
              clear kw6 fw6
              generalize w5.setCell ⟨bx, 6, none⟩ (.int .i64 (su + a)) = w6 at *
              have kw7 : w6.cell? ⟨bx, 2, none⟩ = some (.int .i64 en) := Xw6.out.cell 2
              have fw7 := Xw6.out.frozen 2
              have Xw7 := Lib.hid (BlkL.set_ (p' := (t, ⟨arr + 1, en + 1, lo, le', max mo a, su + a⟩)) Xw6.out 2 (en + 1) rfl)
              have Qw7 : Hid (Upd (fun q => q = bx) wa (w6.setCell ⟨bx, 2, none⟩ (.int .i64 (en + 1)))) := Lib.hid (Qw6.out.trans ((Upd.refl (fun q => q = bx) w6).setCell (p := ⟨bx, 2, none⟩) (fun _ => rfl) _))
              have hst : (⟨arr, en, lo, le', mo, su⟩ : Ln).step j = ⟨arr + 1, en + 1, lo, le', max mo a, su + a⟩ := by
                unfold Ln.step
                rw [if_pos HAP.out, ← HHA.out]
                have hle : (if en = 0 ∨ a < le' then a else le') = le' := HLE.out
                exact congrArg (fun z => (⟨arr + 1, en + 1, lo, z, max mo a, su + a⟩ : Ln)) hle
              have ZE := Lib.hid (ZA.out.upd Qw7.out hz4)
              have XE : Hid (Blk (w6.setCell ⟨bx, 2, none⟩ (.int .i64 (en + 1))) bx 69 (encL (t, lineJ (l.take (i + 1)) t)).toArray) := Lib.hid (by
                rw [take_succ_get HJ.out, lineJ_snoc, if_pos HT.out, HX.out, hst]
                exact Xw7.out)
              have UE : Hid (Upd (fun _ => False) w (w6.setCell ⟨bx, 2, none⟩ (.int .i64 (en + 1)))) := Lib.hid ((UA.out.mono (fun _ _ h => h.elim)).trans Qw7.out |>.mono (fun q hq h => by have := HBX.out; omega))
              clear Qw7 hst
              go_wp2_with fail
              go_roundw
              case rel => exact ⟨i + 1, by omega, by go_num, ZE.out, XE.out, UE.out⟩
              case measure => simp [intOf]; omega
        · have da : decide (0 < a) = false := decide_eq_false hap
          have b4' : w2.cell? ⟨ga, 4, none⟩ = some (.int .i64 j.e) := BA2.out.cell 4
          have hst : (⟨arr, en, lo, le, mo, su⟩ : Ln).step j = if j.e ≠ 0 ∧ j.e ≠ 1 then ⟨arr + 1, en, lo + 1, le, mo, su⟩ else ⟨arr + 1, en, lo, le, mo, su⟩ := by
            unfold Ln.step
            rw [if_neg (by rw [← HHA.out]; exact hap)]
            split <;> rfl
          have HSTE := Lib.hid hst
          obtain ⟨ee, hee⟩ : ∃ ee, j.e = ee := ⟨_, rfl⟩
          rw [hee] at b4' HSTE
          clear hst hee
          by_cases e0 : ee = 0
          · rw [if_neg (fun h => h.1 e0)] at HSTE
            subst e0
            have ZE := Lib.hid (ZA.out.upd Qw2.out hz4)
            have XE : Hid (Blk w2 bx 69 (encL (t, lineJ (l.take (i + 1)) t)).toArray) := Lib.hid (by
              rw [take_succ_get HJ.out, lineJ_snoc, if_pos HT.out, HX.out, HSTE.out]
              exact Xw2.out)
            have UE : Hid (Upd (fun _ => False) w w2) := Lib.hid ((UA.out.mono (fun _ _ h => h.elim)).trans Qw2.out |>.mono (fun q hq h => by have := HBX.out; omega))
            clear Qw2
            go_wp2_with fail
            go_roundw
            case rel => exact ⟨i + 1, by omega, by go_num, ZE.out, XE.out, UE.out⟩
            case measure => simp [intOf]; omega
          · by_cases e1 : ee = 1
            · rw [if_neg (fun h => h.2 e1)] at HSTE
              subst e1
              have ZE := Lib.hid (ZA.out.upd Qw2.out hz4)
              have XE : Hid (Blk w2 bx 69 (encL (t, lineJ (l.take (i + 1)) t)).toArray) := Lib.hid (by
                rw [take_succ_get HJ.out, lineJ_snoc, if_pos HT.out, HX.out, HSTE.out]
                exact Xw2.out)
              have UE : Hid (Upd (fun _ => False) w w2) := Lib.hid ((UA.out.mono (fun _ _ h => h.elim)).trans Qw2.out |>.mono (fun q hq h => by have := HBX.out; omega))
              clear Qw2
              go_wp2_with fail
              go_roundw
              case rel => exact ⟨i + 1, by omega, by go_num, ZE.out, XE.out, UE.out⟩
              case measure => simp [intOf]; omega
            · rw [if_pos ⟨e0, e1⟩] at HSTE
              have d0 : (ee != 0) = true := bne_iff_ne.2 e0
              have d1 : (ee != 1) = true := bne_iff_ne.2 e1
              have k3 : w2.cell? ⟨bx, 3, none⟩ = some (.int .i64 lo) := Xw2.out.cell 3
              have f3 := Xw2.out.frozen 3
              have Xw3 := Lib.hid (BlkL.set_ (p' := (t, ⟨arr + 1, en, lo + 1, le, mo, su⟩)) Xw2.out 3 (lo + 1) rfl)
              have Qw3 : Hid (Upd (fun q => q = bx) wa (w2.setCell ⟨bx, 3, none⟩ (.int .i64 (lo + 1)))) := Lib.hid (Qw2.out.trans ((Upd.refl (fun q => q = bx) w2).setCell (p := ⟨bx, 3, none⟩) (fun _ => rfl) _))
              have ZE := Lib.hid (ZA.out.upd Qw3.out hz4)
              have XE : Hid (Blk (w2.setCell ⟨bx, 3, none⟩ (.int .i64 (lo + 1))) bx 69 (encL (t, lineJ (l.take (i + 1)) t)).toArray) := Lib.hid (by
                rw [take_succ_get HJ.out, lineJ_snoc, if_pos HT.out, HX.out, HSTE.out]
                exact Xw3.out)
              have UE : Hid (Upd (fun _ => False) w (w2.setCell ⟨bx, 3, none⟩ (.int .i64 (lo + 1)))) := Lib.hid ((UA.out.mono (fun _ _ h => h.elim)).trans Qw3.out |>.mono (fun q hq h => by have := HBX.out; omega))
              clear Qw3
              go_wp2_with fail
              go_roundw
              case rel => exact ⟨i + 1, by omega, by go_num, ZE.out, XE.out, UE.out⟩
              case measure => simp [intOf]; omega
      · have dn : (j.t != t) = true := bne_iff_ne.2 hT
        have HTN := Lib.hid hT
        clear hT hjt
        have XE : Hid (Blk wa bx 69 (encL (t, lineJ (l.take (i + 1)) t)).toArray) := Lib.hid (by
          rw [take_succ_get HJ.out, lineJ_snoc, if_neg HTN.out]
          exact XA.out)
        go_upto_region 4 with fail
        rw [HWA.out]
        go_wp2_with fail
        go_roundw
        case rel => exact ⟨i + 1, by omega, by go_num, ZA.out, XE.out, UA.out⟩
        case measure => simp [intOf]; omega
    · have hie : i = l.length := by omega
      subst hie
      have hX := X1.out
      rw [List.take_length] at hX
      obtain ⟨x, hx⟩ : ∃ x, lineJ l t = x := ⟨_, rfl⟩
      have HX := Lib.hid hx
      rw [hx] at hX
      obtain ⟨arr, en, lo, le, mo, su⟩ := x
      have x0 : wr.cell? ⟨bx, 0, none⟩ = some (.int .i64 t) := hX.cell 0
      have x1 : wr.cell? ⟨bx, 1, none⟩ = some (.int .i64 arr) := hX.cell 1
      have x2 : wr.cell? ⟨bx, 2, none⟩ = some (.int .i64 en) := hX.cell 2
      have x3 : wr.cell? ⟨bx, 3, none⟩ = some (.int .i64 lo) := hX.cell 3
      have x4 : wr.cell? ⟨bx, 4, none⟩ = some (.int .i64 le) := hX.cell 4
      have x5 : wr.cell? ⟨bx, 5, none⟩ = some (.int .i64 mo) := hX.cell 5
      have x6 : wr.cell? ⟨bx, 6, none⟩ = some (.int .i64 su) := hX.cell 6
      have z0 : wr.cell? ⟨b4, 0, none⟩ = some (.int .i64 0) := Z1.out.cell 0
      have z1 : wr.cell? ⟨b4, 1, none⟩ = some (.int .i64 0) := Z1.out.cell 1
      have z2 : wr.cell? ⟨b4, 2, none⟩ = some (.int .i64 0) := Z1.out.cell 2
      have z3 : wr.cell? ⟨b4, 3, none⟩ = some (.int .i64 0) := Z1.out.cell 3
      have z4 : wr.cell? ⟨b4, 4, none⟩ = some (.int .i64 0) := Z1.out.cell 4
      have z5 : wr.cell? ⟨b4, 5, none⟩ = some (.int .i64 0) := Z1.out.cell 5
      have z6 : wr.cell? ⟨b4, 6, none⟩ = some (.int .i64 0) := Z1.out.cell 6
      have zf := fun i => Z1.out.frozen i
      have dl : decide ((l.length : Int) < (l.length : Int)) = false := decide_eq_false (by omega)
      clear hX hx
      have HLL := Lib.hid (show lineP l t = (t, lineJ l t) from rfl)
      go_wp2_with fail
      have hB : Blk (((((((wr.setCell ⟨b4, 0, none⟩ (.int .i64 t)).setCell ⟨b4, 1, none⟩ (.int .i64 arr)).setCell ⟨b4, 2, none⟩ (.int .i64 en)).setCell ⟨b4, 3, none⟩ (.int .i64 lo)).setCell ⟨b4, 4, none⟩ (.int .i64 le)).setCell ⟨b4, 5, none⟩ (.int .i64 mo)).setCell ⟨b4, 6, none⟩ (.int .i64 su)) b4 69 #[.int .i64 t, .int .i64 arr, .int .i64 en, .int .i64 lo, .int .i64 le, .int .i64 mo, .int .i64 su] :=
        ((((((Z1.out.set_ 0 _).set_ 1 _).set_ 2 _).set_ 3 _).set_ 4 _).set_ 5 _).set_ 6 _
      have hu : ∀ (W : World) (i : Nat) (u : Value), Upd (fun q => q = b4) W (W.setCell ⟨b4, i, none⟩ u) := fun W i u => (Upd.refl (fun q => q = b4) W).setCell (p := ⟨b4, i, none⟩) (fun _ => rfl) u
      have hU : Upd (fun q => q = b4) wr (((((((wr.setCell ⟨b4, 0, none⟩ (.int .i64 t)).setCell ⟨b4, 1, none⟩ (.int .i64 arr)).setCell ⟨b4, 2, none⟩ (.int .i64 en)).setCell ⟨b4, 3, none⟩ (.int .i64 lo)).setCell ⟨b4, 4, none⟩ (.int .i64 le)).setCell ⟨b4, 5, none⟩ (.int .i64 mo)).setCell ⟨b4, 6, none⟩ (.int .i64 su)) :=
        ((((((hu _ _ _).trans (hu _ _ _)).trans (hu _ _ _)).trans (hu _ _ _)).trans (hu _ _ _)).trans (hu _ _ _)).trans (hu _ _ _)
      clear hu x0 x1 x2 x3 x4 x5 x6 z0 z1 z2 z3 z4 z5 z6 zf
      generalize (((((((wr.setCell ⟨b4, 0, none⟩ (.int .i64 t)).setCell ⟨b4, 1, none⟩ (.int .i64 arr)).setCell ⟨b4, 2, none⟩ (.int .i64 en)).setCell ⟨b4, 3, none⟩ (.int .i64 lo)).setCell ⟨b4, 4, none⟩ (.int .i64 le)).setCell ⟨b4, 5, none⟩ (.int .i64 mo)).setCell ⟨b4, 6, none⟩ (.int .i64 su)) = wE at *
      have y0 : wE.cell? ⟨b4, 0, none⟩ = some (.int .i64 t) := hB.cell 0
      have y1 : wE.cell? ⟨b4, 1, none⟩ = some (.int .i64 arr) := hB.cell 1
      have y2 : wE.cell? ⟨b4, 2, none⟩ = some (.int .i64 en) := hB.cell 2
      have y3 : wE.cell? ⟨b4, 3, none⟩ = some (.int .i64 lo) := hB.cell 3
      have y4 : wE.cell? ⟨b4, 4, none⟩ = some (.int .i64 le) := hB.cell 4
      have y5 : wE.cell? ⟨b4, 5, none⟩ = some (.int .i64 mo) := hB.cell 5
      have y6 : wE.cell? ⟨b4, 6, none⟩ = some (.int .i64 su) := hB.cell 6
      have hres : Value.agg #[.int .i64 t, .int .i64 arr, .int .i64 en, .int .i64 lo, .int .i64 le, .int .i64 mo, .int .i64 su] = .agg (encL (lineP l t)).toArray := by rw [HLL.out, HX.out]; rfl
      exact bodyPost_ret (v := .agg #[.int .i64 t, .int .i64 arr, .int .i64 en, .int .i64 lo, .int .i64 le, .int .i64 mo, .int .i64 su]) (by simp [results, Try.results28, go_sem, y0, y1, y2, y3, y4, y5, y6]) rfl ⟨congrArg _ hres, ((U1.out.mono (fun _ _ h => h.elim)).trans hU).mono (fun q hq h => by have := HBX.out; omega)⟩
end Go.Proofs.Ythjebjegedgoeaa
