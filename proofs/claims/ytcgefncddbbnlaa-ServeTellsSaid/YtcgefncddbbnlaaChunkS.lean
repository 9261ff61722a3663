/-
  The document's budget of layer 17: Use, Done, Reset, Due, New.
-/
import Derived.Test.YtcgefncddbbnlaaChunkR
namespace Go.Proofs.Ytcgefncddbbnlaa.Ck
open Go.RowKit Go.Proofs.Ytcgefncddbbnlaa.Cf

theorem sizeCR : ∀ w, (sizeOf (Try.prog.elem 104)).run Try.prog w = .ok 3 w := fun w => by kernel_rfl

set_option maxRecDepth 100000 in
set_option maxHeartbeats 6400000 in
theorem useR (w : World) (base r : Nat) (s : St17) (h : RSt w base r s) (hbase : base ≤ w.heap.size) (hf : FineC s) (bo : Bool) (hbo : decide (0 < s.xs.length) = bo) :
    Calls Try.prog 37 #[.pointer (some ⟨r, 0, none⟩)] w fun e w' => e = .returned (.bool bo) ∧ RSt w' base r s.use ∧ Tu base tsR w w' := by
  obtain ⟨L, K, h⟩ := h
  obtain ⟨p, xs, ys⟩ := s
  obtain ⟨AL, cL, rfl⟩ := h.s.shape
  have hr := h.b.lt
  have HR := Lib.hid h
  have c4 : w.cell? ⟨r, 4, none⟩ = some (.slice AL xs.length cL) := h.b.cell 4
  clear h
  cases xs with
  | nil =>
    have hb' : bo = false := by rw [← hbo]; rfl
    subst hb'
    clear hbo hf
    go_enter Try.func37, Try.ntmps37
    go_wp2_with fail
    go_returns
    exact ⟨rfl, ⟨_, K, HR.out⟩, Tu.refl _ _ _⟩
  | cons x t =>
    have hb' : bo = true := by rw [← hbo]; simp
    subst hb'
    clear hbo
    have hx := hf.fx x (List.mem_cons_self ..)
    have hbd := hf.bound
    have hsum : x.2.1 + x.2.2 ≤ sumC (x :: t) := (sumC_pos _ hf.posC).2.2.2 x (List.mem_cons_self ..)
    have hle : x.2.1 + x.2.2 ≤ 1000 := by dsimp only at hbd; omega
    have htl : t.length ≤ 1000 := by have := hbd.2.2.2.2.1; simp at this; omega
    have hyl : ys.length ≤ 1000 := hbd.2.2.2.2.2.1
    have hT := hf.T1
    have hT1 : 1 ≤ p.T := by have := hf.C1; have := hf.CT; dsimp only at *; omega
    clear hbd hsum hf
    obtain ⟨x0, x1, x2⟩ := x
    dsimp only at *
    have hx0 := hx.1; have hx01 := hx.2.1; have hx1 := hx.2.2.1; have hx2 := hx.2.2.2
    clear hx
    rw [List.length_cons] at c4
    have e0 : (((t.length + 1 : Nat) : Int) == 0) = false := beq_eq_false_iff_ne.2 (by omega)
    obtain ⟨i0, hi0, hz0, hz1, hz2⟩ := info_parts infoCR
    have HS0 : Hid (SlR encC w base 114 3 (.slice AL (t.length + 1) cL) ((x0, x1, x2) :: t)) := Lib.hid HR.out.s
    have cA : ∀ o, (w.alloc o).cell? ⟨r, 4, none⟩ = some (.slice AL (t.length + 1) cL) := fun o => (HR.out.alloc o).b.cell 4
    have HT0 : Hid (∀ wx, Upd (fun k => w.heap.size ≤ k) w wx → Tu base tsR w wx) := Lib.hid (fun wx hu => Tu.of hu (fun k hk e => by omega))
    by_cases hx1e : x1 = 1
    · subst hx1e
      go_enter Try.func37, Try.ntmps37
      go_wp2_with (
        at_builtin
        refine wpList_append_copy rfl (.tmp 10) (.tmp 14) 104 rfl w.heap.size _ 114 i0 _ 3 24 Try.underlying104 hi0 hz0 hz1 hz2 rfl (by decide) w.heap.size rfl (Blk.new w _ _) (Nat.le_refl _) (.slice AL (t.length + 1) cL) (t.length + 1) (rws encC ((x0, 1, x2) :: t)) rfl (Sl.alloc HS0.out _) (rws_one_cell encC_one _) (by unfold maxLen; omega) (by omega) (by simp) ?_
        intro v' wB hs1 hu1
        obtain ⟨bv, ov, cv, rfl, _, hbv, hncv, hcmv⟩ := hs1.form (by omega)
        have UB := Lib.hid (((Upd.refl (fun k => w.heap.size ≤ k) w).alloc (.cells #[] 114)).trans (hu1.mono (fun k _ e => by rw [e]; exact Nat.le_refl _)))
        have SB : Hid (SlR encC wB w.heap.size 114 3 (.slice (some ⟨bv, ov, none⟩) (t.length + 1) cv) ((x0, 1, x2) :: t)) := Lib.hid hs1
        have RB := Lib.hid (HR.out.old UB.out)
        have hbr : Hid (bv ≠ r) := Lib.hid (by have := (Sl.blk hs1 bv rfl).1; omega)
        have d1 : wB.cell? ⟨bv, ov + 1, none⟩ = some (.int .i64 1) := SB.out.cell encC_len 0 _ rfl 1 _ rfl
        have d2 : wB.cell? ⟨bv, ov + 2, none⟩ = some (.int .i64 x2) := SB.out.cell encC_len 0 _ rfl 2 _ rfl
        have g1 := SB.out.frozen (ov + 1)
        have g2 := SB.out.frozen (ov + 2)
        have f4 := RB.out.b.frozen 4
        have c4B : wB.cell? ⟨r, 4, none⟩ = some (.slice AL (t.length + 1) cL) := RB.out.b.cell 4
        have S1 := SB.out.set1 (y := (x0, 0, x2)) 1 (by omega) (.int .i64 0) rfl
        have S2 := S1.set1 (y := (x0, 0, x2 + 1)) 2 (by omega) (.int .i64 (x2 + 1)) rfl
        have hu2 := ((Upd.refl (fun k => w.heap.size ≤ k) wB).setCell (p := ⟨bv, ov + 1, none⟩) (fun _ => (Sl.blk hs1 bv rfl).1) (.int .i64 0)).setCell (p := ⟨bv, ov + 2, none⟩) (fun _ => (Sl.blk hs1 bv rfl).1) (.int .i64 (x2 + 1))
        have UC := Lib.hid (UB.out.trans hu2)
        have SC := Lib.hid S2
        have RC := Lib.hid (HR.out.old UC.out)
        clear hs1 hu1 S1 S2 hu2)
      have RN : Hid (Rud (((wB.setCell ⟨bv, ov + 1, none⟩ (.int .i64 0)).setCell ⟨bv, ov + 2, none⟩ (.int .i64 (x2 + 1))).setCell ⟨r, 4, none⟩ (.slice (some ⟨bv, ov, none⟩) (t.length + 1) cv)) base r (.slice (some ⟨bv, ov, none⟩) (t.length + 1) cv) K p ((x0, 0, x2 + 1) :: t) ys) := Lib.hid (Rud.setL RC.out.b (SC.out.mono hbase) RC.out.k RC.out.hr)
      have TN : Hid (Tu base tsR w (((wB.setCell ⟨bv, ov + 1, none⟩ (.int .i64 0)).setCell ⟨bv, ov + 2, none⟩ (.int .i64 (x2 + 1))).setCell ⟨r, 4, none⟩ (.slice (some ⟨bv, ov, none⟩) (t.length + 1) cv))) := Lib.hid ((HT0.out _ UC.out).set_ RC.out.hr RC.out.b (by decide) _)
      clear SB RB UB SC RC UC d1 d2 g1 g2 f4 c4B
      generalize ((wB.setCell ⟨bv, ov + 1, none⟩ (.int .i64 0)).setCell ⟨bv, ov + 2, none⟩ (.int .i64 (x2 + 1))).setCell ⟨r, 4, none⟩ (.slice (some ⟨bv, ov, none⟩) (t.length + 1) cv) = W at *
      obtain ⟨AK, cK, rfl⟩ := RN.out.k.shape
      have hszW : base ≤ W.heap.size := Nat.le_trans hbase TN.out.size
      have HS : Hid (∀ wx, Upd (fun k => W.heap.size ≤ k) W wx → wx.cell? ⟨r, 2, none⟩ = some (.int .i64 p.T) ∧ wx.cell? ⟨r, 5, none⟩ = some (.slice AK ys.length cK) ∧ wx.cell? ⟨bv, ov, none⟩ = some (.int .i64 x0) ∧ wx.cell? ⟨bv, ov + 2, none⟩ = some (.int .i64 (x2 + 1))) := Lib.hid (fun wx hu =>
        ⟨(RN.out.old hu).b.cell 2, (RN.out.old hu).b.cell 5, (RN.out.old hu).s.cell encC_len 0 _ rfl 0 _ rfl, (RN.out.old hu).s.cell encC_len 0 _ rfl 2 _ rfl⟩)
      have HFz : Hid (∀ wx, Upd (fun k => W.heap.size ≤ k) W wx → wx.frozen? ⟨r, 5, none⟩ = false) := Lib.hid (fun wx hu => (RN.out.old hu).b.frozen 5)
      have HL := Lib.hid RN.out.k
      clear hi0 hz0 hz1 hz2
      obtain ⟨i0, hi0, hz0, hz1, hz2⟩ := info_parts infoBR
      have hq0 : (0 : Int) ≤ 0 := by omega
      refine wp_region_tree (.q 0 (.q 2 (.q 3 (.q 4 (.q 5 (.q 7 (.q 8 (.q 9 (.q 10 (.q 11 (.q 12 (.q 13 (.q 14 (.q 15 (.q 16 (.q 17 (.q 18 (.q 19 (.q 20 (.q 21 (.b 1 (.b 6 (.l 22 (.l 23 (.l 24 (.l 25 (.l 26 .d))))) 22 (.l 6 (.l 23 (.l 24 (.l 25 (.l 26 .d)))))) 22 (.l 1 (.l 6 (.l 23 (.l 24 (.l 25 (.l 26 .d))))))))))))))))))))))))))) (fun i => decide (26 ≤ i ∧ i < 27)) (fun w' => w'.cell? ⟨r, 2, none⟩ = some (.int .i64 p.T) ∧ w'.cell? ⟨r, 5, none⟩ = some (.slice AK ys.length cK) ∧ w'.cell? ⟨bv, ov, none⟩ = some (.int .i64 x0) ∧ w'.cell? ⟨bv, ov + 2, none⟩ = some (.int .i64 (x2 + 1)))
        (by kernel_rfl) (by kernel_rfl) (fun t ht => by have := of_decide_eq_true ht; exact this.2) (fun _ _ _ _ _ h => h) (by kernel_rfl) rfl (HS.out _ ((Upd.refl _ _).drew)) ?_
      iterate 20
        refine' wpOT_q (by rfl) (by rfl) (fun w' hS' => ?_) ?_
        rotate_left
        · obtain ⟨s0, s1, s2, s3⟩ := hS'
          go_simp
          try rfl
        try simp only [Act.put, List.setIfInBounds_toArray, List.set_cons_zero, List.set_cons_succ]
      have U0 : Hid (Upd (fun k => W.heap.size ≤ k) W W.drew) := Lib.hid ((Upd.refl _ W).drew)
      generalize W.drew = Wd at *
      refine wpOT_b ?_ ?_
      refine wpOT_loud (by rfl) (by rfl) (fun KQ hKQ => ?_)
      go_simp
      have UA := Lib.hid (U0.out.alloc (.cells #[] 112))
      have hA : W.heap.size ≤ Wd.heap.size := U0.out.size
      have EA : Hid (Blk (Wd.alloc (.cells #[] 112)) Wd.heap.size 112 #[]) := Lib.hid (Blk.new Wd _ _)
      refine hKQ _ _ (.inr (HS.out _ UA.out)) ?_
      clear hKQ KQ
      try simp only [Act.put, List.setIfInBounds_toArray, List.set_cons_zero, List.set_cons_succ]
      generalize Wd.alloc (.cells #[] 112) = wA at *
      generalize Wd.heap.size = bA at *
      refine wpOT_b ?_ ?_
      refine wpOT_loud (by rfl) (by rfl) (fun KQ hKQ => ?_)
      refine wp_append_copy (.tmp 40) (.tmp 44) 105 rfl W.heap.size _ 112 i0 _ 2 16 Try.underlying105 hi0 hz0 hz1 hz2 rfl (by decide) _ rfl EA.out hA (.slice AK ys.length cK) ys.length (rws encB ys) rfl (Sl.upd HL.out UA.out (fun k hk e => by have := (Sl.blk HL.out k hk).2.1; omega)) (rws_one_cell encB_one _) (by unfold maxLen; omega) (by omega) UA.out.size ?_
      intro v' wB hs1 hu1
      obtain ⟨AB, cB, rfl⟩ := Sl.shape hs1
      have SB := Lib.hid hs1
      have UB := Lib.hid (UA.out.trans (hu1.mono (fun k _ e => by rw [e]; exact hA)))
      clear hs1 hu1 EA
      refine hKQ _ _ (.inr (HS.out _ UB.out)) ?_
      clear hKQ KQ
      try simp only [Act.put, List.setIfInBounds_toArray, List.set_cons_zero, List.set_cons_succ]
      refine wpOT_l (by rfl) (by rfl) (fun KQ hKQ => ?_)
      go_simp
      have UC := Lib.hid (UB.out.alloc (.cells #[.int .i64 (IntKind.i64.wrap (x0 + p.T)), .int .i64 (x2 + 1)] 112))
      have hC : W.heap.size ≤ wB.heap.size := UB.out.size
      have SB := Lib.hid (SB.out.alloc (.cells #[.int .i64 (IntKind.i64.wrap (x0 + p.T)), .int .i64 (x2 + 1)] 112))
      have CC : Hid (Blk (wB.alloc (.cells #[.int .i64 (IntKind.i64.wrap (x0 + p.T)), .int .i64 (x2 + 1)] 112)) wB.heap.size 112 #[.int .i64 (IntKind.i64.wrap (x0 + p.T)), .int .i64 (x2 + 1)]) := Lib.hid (Blk.new wB _ _)
      refine hKQ _ _ (.inr (HS.out _ UC.out)) ?_
      clear hKQ KQ
      try simp only [Act.put, List.setIfInBounds_toArray, List.set_cons_zero, List.set_cons_succ]
      generalize wB.alloc (.cells #[.int .i64 (IntKind.i64.wrap (x0 + p.T)), .int .i64 (x2 + 1)] 112) = wC at *
      generalize wB.heap.size = bC at *
      refine wpOT_l (by rfl) (by rfl) (fun KQ hKQ => ?_)
      refine wp_append_sl (.tmp 45) (.tmp 61) 105 rfl W.heap.size 112 i0 _ 2 16 Try.underlying105 hi0 hz0 hz1 hz2 rfl (by decide) (.slice AB ys.length cB) ys.length (rws encB ys) rfl SB.out ⟨bC, 0, none⟩ 1 [.int .i64 (IntKind.i64.wrap (x0 + p.T)), .int .i64 (x2 + 1)] rfl rfl (fun j u hu => by rw [add_at, CC.out.cell j]; simpa using hu) (by simp [Value.oneCell']) (by unfold maxLen; omega) (by omega) UC.out.size ?_
      intro v9 wZ hs1 hu1 hv1
      obtain ⟨bz, oz, cz, rfl, _, _, _, _⟩ := hs1.form (by omega)
      have SZ := Lib.hid hs1
      have UZ := Lib.hid (UC.out.trans (hu1.mono (fun k _ hk => (Sl.blk SB.out k hk).1)))
      clear hs1 hu1 hv1
      refine hKQ _ _ (.inr (HS.out _ UZ.out)) ?_
      clear hKQ KQ
      try simp only [Act.put, List.setIfInBounds_toArray, List.set_cons_zero, List.set_cons_succ]
      iterate 2
        refine wpOT_l (by rfl) (by rfl) (fun KQ hKQ => ?_)
        go_simp
        refine hKQ _ _ (.inr (HS.out _ UZ.out)) ?_
        clear hKQ KQ
        try simp only [Act.put, List.setIfInBounds_toArray, List.set_cons_zero, List.set_cons_succ]
      have hfz := HFz.out _ UZ.out
      have hSz := HS.out _ UZ.out
      obtain ⟨s0, s1, s2, s3⟩ := hSz
      refine wpOT_l (by rfl) (by rfl) (fun KQ hKQ => ?_)
      go_simp
      refine hKQ _ _ (.inl (by rfl)) ?_
      clear hKQ KQ
      try simp only [Act.put, List.setIfInBounds_toArray, List.set_cons_zero, List.set_cons_succ]
      refine wpOT_d ?_
      rotate_left
      refine wpOT_loud (by rfl) (by rfl) (fun KQ hKQ => ?_)
      go_simp
      have UC := Lib.hid (UA.out.alloc (.cells #[.int .i64 (IntKind.i64.wrap (x0 + p.T)), .int .i64 (x2 + 1)] 112))
      have hC : W.heap.size ≤ wA.heap.size := UA.out.size
      have hAC : wA.heap.size ≠ bA := by have := EA.out.lt; omega
      have EA := Lib.hid (EA.out.alloc (.cells #[.int .i64 (IntKind.i64.wrap (x0 + p.T)), .int .i64 (x2 + 1)] 112))
      have CC : Hid (Blk (wA.alloc (.cells #[.int .i64 (IntKind.i64.wrap (x0 + p.T)), .int .i64 (x2 + 1)] 112)) wA.heap.size 112 #[.int .i64 (IntKind.i64.wrap (x0 + p.T)), .int .i64 (x2 + 1)]) := Lib.hid (Blk.new wA _ _)
      refine hKQ _ _ (.inr (HS.out _ UC.out)) ?_
      clear hKQ KQ
      try simp only [Act.put, List.setIfInBounds_toArray, List.set_cons_zero, List.set_cons_succ]
      generalize wA.alloc (.cells #[.int .i64 (IntKind.i64.wrap (x0 + p.T)), .int .i64 (x2 + 1)] 112) = wC at *
      generalize wA.heap.size = bC at *
      refine wpOT_l (by rfl) (by rfl) (fun KQ hKQ => ?_)
      refine wp_append_copy (.tmp 40) (.tmp 44) 105 rfl W.heap.size _ 112 i0 _ 2 16 Try.underlying105 hi0 hz0 hz1 hz2 rfl (by decide) _ rfl EA.out hA (.slice AK ys.length cK) ys.length (rws encB ys) rfl (Sl.upd HL.out UC.out (fun k hk e => by have := (Sl.blk HL.out k hk).2.1; omega)) (rws_one_cell encB_one _) (by unfold maxLen; omega) (by omega) UC.out.size ?_
      intro v' wB hs1 hu1
      obtain ⟨AB, cB, rfl⟩ := Sl.shape hs1
      have SB := Lib.hid hs1
      have UB := Lib.hid (UC.out.trans (hu1.mono (fun k _ e => by rw [e]; exact hA)))
      have CC := Lib.hid (CC.out.upd hu1 (fun e => hAC e))
      clear hs1 hu1 EA
      refine hKQ _ _ (.inr (HS.out _ UB.out)) ?_
      clear hKQ KQ
      try simp only [Act.put, List.setIfInBounds_toArray, List.set_cons_zero, List.set_cons_succ]
      refine wpOT_l (by rfl) (by rfl) (fun KQ hKQ => ?_)
      refine wp_append_sl (.tmp 45) (.tmp 61) 105 rfl W.heap.size 112 i0 _ 2 16 Try.underlying105 hi0 hz0 hz1 hz2 rfl (by decide) (.slice AB ys.length cB) ys.length (rws encB ys) rfl SB.out ⟨bC, 0, none⟩ 1 [.int .i64 (IntKind.i64.wrap (x0 + p.T)), .int .i64 (x2 + 1)] rfl rfl (fun j u hu => by rw [add_at, CC.out.cell j]; simpa using hu) (by simp [Value.oneCell']) (by unfold maxLen; omega) (by omega) UB.out.size ?_
      intro v9 wZ hs1 hu1 hv1
      obtain ⟨bz, oz, cz, rfl, _, _, _, _⟩ := hs1.form (by omega)
      have SZ := Lib.hid hs1
      have UZ := Lib.hid (UB.out.trans (hu1.mono (fun k _ hk => (Sl.blk SB.out k hk).1)))
      clear hs1 hu1 hv1
      refine hKQ _ _ (.inr (HS.out _ UZ.out)) ?_
      clear hKQ KQ
      try simp only [Act.put, List.setIfInBounds_toArray, List.set_cons_zero, List.set_cons_succ]
      iterate 2
        refine wpOT_l (by rfl) (by rfl) (fun KQ hKQ => ?_)
        go_simp
        refine hKQ _ _ (.inr (HS.out _ UZ.out)) ?_
        clear hKQ KQ
        try simp only [Act.put, List.setIfInBounds_toArray, List.set_cons_zero, List.set_cons_succ]
      have hfz := HFz.out _ UZ.out
      have hSz := HS.out _ UZ.out
      obtain ⟨s0, s1, s2, s3⟩ := hSz
      refine wpOT_l (by rfl) (by rfl) (fun KQ hKQ => ?_)
      go_simp
      refine hKQ _ _ (.inl (by rfl)) ?_
      clear hKQ KQ
      try simp only [Act.put, List.setIfInBounds_toArray, List.set_cons_zero, List.set_cons_succ]
      refine wpOT_d ?_
      rotate_left
      refine wpOT_loud (by rfl) (by rfl) (fun KQ hKQ => ?_)
      go_simp
      have UC := Lib.hid (U0.out.alloc (.cells #[.int .i64 (IntKind.i64.wrap (x0 + p.T)), .int .i64 (x2 + 1)] 112))
      have hC : W.heap.size ≤ Wd.heap.size := U0.out.size
      have CC : Hid (Blk (Wd.alloc (.cells #[.int .i64 (IntKind.i64.wrap (x0 + p.T)), .int .i64 (x2 + 1)] 112)) Wd.heap.size 112 #[.int .i64 (IntKind.i64.wrap (x0 + p.T)), .int .i64 (x2 + 1)]) := Lib.hid (Blk.new Wd _ _)
      refine hKQ _ _ (.inr (HS.out _ UC.out)) ?_
      clear hKQ KQ
      try simp only [Act.put, List.setIfInBounds_toArray, List.set_cons_zero, List.set_cons_succ]
      generalize Wd.alloc (.cells #[.int .i64 (IntKind.i64.wrap (x0 + p.T)), .int .i64 (x2 + 1)] 112) = wC at *
      generalize Wd.heap.size = bC at *
      refine wpOT_l (by rfl) (by rfl) (fun KQ hKQ => ?_)
      go_simp
      have UA := Lib.hid (UC.out.alloc (.cells #[] 112))
      have hA : W.heap.size ≤ wC.heap.size := UC.out.size
      have hAC : bC ≠ wC.heap.size := by have := CC.out.lt; omega
      have CC := Lib.hid (CC.out.alloc (.cells #[] 112))
      have EA : Hid (Blk (wC.alloc (.cells #[] 112)) wC.heap.size 112 #[]) := Lib.hid (Blk.new wC _ _)
      refine hKQ _ _ (.inr (HS.out _ UA.out)) ?_
      clear hKQ KQ
      try simp only [Act.put, List.setIfInBounds_toArray, List.set_cons_zero, List.set_cons_succ]
      generalize wC.alloc (.cells #[] 112) = wA at *
      generalize wC.heap.size = bA at *
      refine wpOT_l (by rfl) (by rfl) (fun KQ hKQ => ?_)
      refine wp_append_copy (.tmp 40) (.tmp 44) 105 rfl W.heap.size _ 112 i0 _ 2 16 Try.underlying105 hi0 hz0 hz1 hz2 rfl (by decide) _ rfl EA.out hA (.slice AK ys.length cK) ys.length (rws encB ys) rfl (Sl.upd HL.out UA.out (fun k hk e => by have := (Sl.blk HL.out k hk).2.1; omega)) (rws_one_cell encB_one _) (by unfold maxLen; omega) (by omega) UA.out.size ?_
      intro v' wB hs1 hu1
      obtain ⟨AB, cB, rfl⟩ := Sl.shape hs1
      have SB := Lib.hid hs1
      have UB := Lib.hid (UA.out.trans (hu1.mono (fun k _ e => by rw [e]; exact hA)))
      have CC := Lib.hid (CC.out.upd hu1 (fun e => hAC e))
      clear hs1 hu1 EA
      refine hKQ _ _ (.inr (HS.out _ UB.out)) ?_
      clear hKQ KQ
      try simp only [Act.put, List.setIfInBounds_toArray, List.set_cons_zero, List.set_cons_succ]
      refine wpOT_l (by rfl) (by rfl) (fun KQ hKQ => ?_)
      refine wp_append_sl (.tmp 45) (.tmp 61) 105 rfl W.heap.size 112 i0 _ 2 16 Try.underlying105 hi0 hz0 hz1 hz2 rfl (by decide) (.slice AB ys.length cB) ys.length (rws encB ys) rfl SB.out ⟨bC, 0, none⟩ 1 [.int .i64 (IntKind.i64.wrap (x0 + p.T)), .int .i64 (x2 + 1)] rfl rfl (fun j u hu => by rw [add_at, CC.out.cell j]; simpa using hu) (by simp [Value.oneCell']) (by unfold maxLen; omega) (by omega) UB.out.size ?_
      intro v9 wZ hs1 hu1 hv1
      obtain ⟨bz, oz, cz, rfl, _, _, _, _⟩ := hs1.form (by omega)
      have SZ := Lib.hid hs1
      have UZ := Lib.hid (UB.out.trans (hu1.mono (fun k _ hk => (Sl.blk SB.out k hk).1)))
      clear hs1 hu1 hv1
      refine hKQ _ _ (.inr (HS.out _ UZ.out)) ?_
      clear hKQ KQ
      try simp only [Act.put, List.setIfInBounds_toArray, List.set_cons_zero, List.set_cons_succ]
      iterate 2
        refine wpOT_l (by rfl) (by rfl) (fun KQ hKQ => ?_)
        go_simp
        refine hKQ _ _ (.inr (HS.out _ UZ.out)) ?_
        clear hKQ KQ
        try simp only [Act.put, List.setIfInBounds_toArray, List.set_cons_zero, List.set_cons_succ]
      have hfz := HFz.out _ UZ.out
      have hSz := HS.out _ UZ.out
      obtain ⟨s0, s1, s2, s3⟩ := hSz
      refine wpOT_l (by rfl) (by rfl) (fun KQ hKQ => ?_)
      go_simp
      refine hKQ _ _ (.inl (by rfl)) ?_
      clear hKQ KQ
      try simp only [Act.put, List.setIfInBounds_toArray, List.set_cons_zero, List.set_cons_succ]
      refine wpOT_d ?_
      rotate_left
      all_goals
        have hB9 := (RN.out.old UZ.out).b
        have hS9 := (RN.out.old UZ.out).s
        have hw := wrap_in (x0 + p.T) (by omega) (by omega)
        have hK9 : SlR encB wZ base 112 2 (.slice (some ⟨bz, oz, none⟩) (ys.length + 1) cz) (ys ++ [(x0 + p.T, x2 + 1)]) := by
          have := SZ.out
          rw [hw] at this
          unfold SlR
          rw [List.length_append, rws_append]
          exact Sl.mono this hszW
        have hN9 := Rud.setK hB9 hS9 hK9 RN.out.hr
        have c4' : (wZ.setCell ⟨r, 5, none⟩ (.slice (some ⟨bz, oz, none⟩) (ys.length + 1) cz)).cell? ⟨r, 4, none⟩ = some (.slice (some ⟨bv, ov, none⟩) (t.length + 1) cv) := hN9.b.cell 4
        have f4' := hN9.b.frozen 4
        have N9 := Lib.hid hN9
        have B9 := Lib.hid hB9
        obtain ⟨v, hv, hvs, hvb⟩ := Sl.tailv (P := Try.prog) (ts := 104) Try.underlying104 sizeCR hN9.s (rws_drop1 encC_len _ _)
        obtain ⟨Av, cv9, rfl⟩ := Sl.shape hvs
        have HVS := Lib.hid hvs
        clear hN9 hB9 hS9 hK9 hw hvs hvb
        go_wp2_with fail
        go_returns
        have hu : St17.use ⟨p, (x0, 1, x2) :: t, ys⟩ = ⟨p, t, ys ++ [(x0 + p.T, x2 + 1)]⟩ := by
          have : oweL p.T (x0, 0, x2 + 1) ys = ys ++ [(x0 + p.T, x2 + 1)] := if_pos (by show 0 < x2 + 1; omega)
          simp [St17.use, this]
        rw [hu]
        exact ⟨rfl, ⟨_, _, Rud.setL N9.out.b HVS.out N9.out.k N9.out.hr⟩, ((TN.out.trans (Tu.of UZ.out (fun k hk e => by omega))).set_ RN.out.hr B9.out (by decide) _).set_ RN.out.hr N9.out.b (by decide) _⟩
    · have e1 : (x1 - 1 == 0) = false := beq_eq_false_iff_ne.2 (by omega)
      have hu : St17.use ⟨p, (x0, x1, x2) :: t, ys⟩ = ⟨p, (x0, x1 - 1, x2 + 1) :: t, ys⟩ := by simp [St17.use, hx1e]
      rw [hu]
      clear hu hx1e
      go_enter Try.func37, Try.ntmps37
      go_wp2_with (
        at_builtin
        refine wpList_append_copy rfl (.tmp 10) (.tmp 14) 104 rfl w.heap.size _ 114 i0 _ 3 24 Try.underlying104 hi0 hz0 hz1 hz2 rfl (by decide) w.heap.size rfl (Blk.new w _ _) (Nat.le_refl _) (.slice AL (t.length + 1) cL) (t.length + 1) (rws encC ((x0, x1, x2) :: t)) rfl (Sl.alloc HS0.out _) (rws_one_cell encC_one _) (by unfold maxLen; omega) (by omega) (by simp) ?_
        intro v' wB hs1 hu1
        obtain ⟨bv, ov, cv, rfl, _, hbv, hncv, hcmv⟩ := hs1.form (by omega)
        have UB := Lib.hid (((Upd.refl (fun k => w.heap.size ≤ k) w).alloc (.cells #[] 114)).trans (hu1.mono (fun k _ e => by rw [e]; exact Nat.le_refl _)))
        have SB : Hid (SlR encC wB w.heap.size 114 3 (.slice (some ⟨bv, ov, none⟩) (t.length + 1) cv) ((x0, x1, x2) :: t)) := Lib.hid hs1
        have RB := Lib.hid (HR.out.old UB.out)
        have hbr : Hid (bv ≠ r) := Lib.hid (by have := (Sl.blk hs1 bv rfl).1; omega)
        have d1 : wB.cell? ⟨bv, ov + 1, none⟩ = some (.int .i64 x1) := SB.out.cell encC_len 0 _ rfl 1 _ rfl
        have d2 : wB.cell? ⟨bv, ov + 2, none⟩ = some (.int .i64 x2) := SB.out.cell encC_len 0 _ rfl 2 _ rfl
        have g1 := SB.out.frozen (ov + 1)
        have g2 := SB.out.frozen (ov + 2)
        have f4 := RB.out.b.frozen 4
        have c4B : wB.cell? ⟨r, 4, none⟩ = some (.slice AL (t.length + 1) cL) := RB.out.b.cell 4
        have S1 := SB.out.set1 (y := (x0, x1 - 1, x2)) 1 (by omega) (.int .i64 (x1 - 1)) rfl
        have S2 := S1.set1 (y := (x0, x1 - 1, x2 + 1)) 2 (by omega) (.int .i64 (x2 + 1)) rfl
        have hu2 := ((Upd.refl (fun k => w.heap.size ≤ k) wB).setCell (p := ⟨bv, ov + 1, none⟩) (fun _ => (Sl.blk hs1 bv rfl).1) (.int .i64 (x1 - 1))).setCell (p := ⟨bv, ov + 2, none⟩) (fun _ => (Sl.blk hs1 bv rfl).1) (.int .i64 (x2 + 1))
        have UC := Lib.hid (UB.out.trans hu2)
        have SC := Lib.hid S2
        have RC := Lib.hid (HR.out.old UC.out)
        clear hs1 hu1 S1 S2 hu2)
      go_wp2_with fail
      go_returns
      exact ⟨rfl, ⟨_, _, Rud.setL RC.out.b (SC.out.mono hbase) RC.out.k RC.out.hr⟩, (HT0.out _ UC.out).set_ RC.out.hr RC.out.b (by decide) _⟩
end Go.Proofs.Ytcgefncddbbnlaa.Ck
