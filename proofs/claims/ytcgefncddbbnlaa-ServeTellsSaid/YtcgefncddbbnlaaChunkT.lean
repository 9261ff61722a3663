/-
  The document's budget of layer 17: Done, Reset, Due, New.
-/
import Derived.Test.YtcgefncddbbnlaaChunkS
namespace Go.Proofs.Ytcgefncddbbnlaa.Ck
open Go.RowKit Go.Proofs.Ytcgefncddbbnlaa.Cf

set_option maxRecDepth 100000 in
set_option maxHeartbeats 6400000 in
theorem doneR (w : World) (base r : Nat) (s : St17) (h : RSt w base r s) (hbase : base ≤ w.heap.size) (hf : FineC s) :
    Calls Try.prog 39 #[.pointer (some ⟨r, 0, none⟩)] w fun e w' => e = .returned (.tuple #[]) ∧ RSt w' base r s.done ∧ Tu base tsR w w' := by
  obtain ⟨L, K, h⟩ := h
  obtain ⟨p, xs, ys⟩ := s
  dsimp only at h
  have hbd := hf.bound
  dsimp only at hbd
  have hT := hf.T1
  have hT1 : 1 ≤ p.T := by have := hf.C1; have := hf.CT; dsimp only at *; omega
  have hlx : ∀ x ∈ xs, 1 ≤ x.2.1 ∧ x.2.1 ≤ 1000 ∧ 0 ≤ x.2.2 ∧ x.2.2 ≤ 1000 := fun x hx => by
    have h1 : x.2.1 + x.2.2 ≤ sumC xs := (sumC_pos _ hf.posC).2.2.2 x hx
    have h2 := hf.posC x hx
    omega
  have hxy : xs.length + ys.length ≤ 1000 := by
    have h1 : (xs.length : Int) ≤ sumC xs := (sumC_pos _ hf.posC).1
    have h2 : (ys.length : Int) ≤ sumB ys := (sumB_pos _ hf.fy).1
    omega
  have hpf := hf.free
  have hpf1 : p.free ≤ 1000 := hbd.2.1
  have hxl : xs.length ≤ 1000 := by omega
  have HLX := Lib.hid hlx
  have HD : Hid (∀ (i : Nat) (x : Int × Int × Int), xs[i]? = some x → 0 ≤ x.1 ∧ x.1 ≤ 2305843009213693952) := Lib.hid (fun i x hx => by have := hf.fx x (List.mem_of_getElem? hx); exact ⟨this.1, this.2.1⟩)
  have HYL : Hid (∀ i, i < xs.length → (doneY p.T (xs.take i) ys).length ≤ 1000) := Lib.hid (fun i hi => by
    have h1 := doneY_len p.T (xs.take i) ys
    have h2 : (xs.take i).length ≤ i := List.length_take_le _ _
    omega)
  clear hlx hbd hf hxy
  obtain ⟨A, cap, rfl⟩ := h.s.shape
  have H := Lib.hid h; clear h
  go_enter Try.func39, Try.ntmps39
  go_wp2_with fail
  go_loopw [2] (fun vi wr => ∃ i : Nat, i ≤ xs.length ∧ vi = .int .i64 i ∧ (∃ K, Rud wr base r (.slice A xs.length cap) K { p with free := p.free + leftC (xs.take i) } xs (doneY p.T (xs.take i) ys)) ∧ Tu base tsR w wr) (fun vi _ => xs.length - (intOf vi).toNat)
  case atStart => exact ⟨0, Nat.zero_le _, rfl, ⟨K, by have := H.out; simpa [leftC, doneY] using this⟩, Tu.refl _ _ _⟩
  case round =>
    obtain ⟨i, hi, rfl, ⟨Kr, hC⟩, hT9⟩ := hrel
    have CR := Lib.hid hC; have TR := Lib.hid hT9
    clear hC hT9
    have g4 : wr.cell? ⟨r, 4, none⟩ = some (.slice A xs.length cap) := CR.out.b.cell 4
    by_cases hlt : i < xs.length
    · obtain ⟨x, hx⟩ : ∃ x, xs[i]? = some x := ⟨_, List.getElem?_eq_getElem hlt⟩
      obtain ⟨b, off, cap', e, hbb, hb, _, _⟩ := CR.out.s.form (by omega)
      injection e with e1 e2 e3
      subst e1 e3
      have c0 : wr.cell? ⟨b, off + i * 3, none⟩ = some (.int .i64 x.1) := CR.out.s.cell encC_len i x hx 0 _ rfl
      have c1 : wr.cell? ⟨b, off + i * 3 + 1, none⟩ = some (.int .i64 x.2.1) := CR.out.s.cell encC_len i x hx 1 _ rfl
      have c2 : wr.cell? ⟨b, off + i * 3 + 2, none⟩ = some (.int .i64 x.2.2) := CR.out.s.cell encC_len i x hx 2 _ rfl
      have hx1 := HLX.out x (List.mem_of_getElem? hx)
      have hx0 := HD.out i x hx
      have hlb := leftC_bound (xs.take i) (fun y hy => by have := HLX.out y (List.mem_of_mem_take hy); omega)
      have hll : (xs.take i).length ≤ i := List.length_take_le _ _
      obtain ⟨lc, hlc⟩ : ∃ lc, leftC (xs.take i) = lc := ⟨_, rfl⟩
      rw [hlc] at hlb
      have hl0 := hlb.1
      have hl1 : lc ≤ 1000000 := by omega
      have HLC := Lib.hid hlc
      have HX := Lib.hid hx
      have hyi := HYL.out i hlt
      have hrw : r < wr.heap.size := CR.out.b.lt
      have g3 : wr.cell? ⟨r, 3, none⟩ = some (.int .i64 (p.free + leftC (xs.take i))) := CR.out.b.cell 3
      rw [hlc] at g3
      have gf := CR.out.b.frozen 3
      clear hlb hll hlc hx
      obtain ⟨x0, x1, x2⟩ := x
      dsimp only at *
      have hx00 := hx0.1; have hx01 := hx0.2; have hx10 := hx1.1; have hx11 := hx1.2.1; have hx20 := hx1.2.2.1; have hx21 := hx1.2.2.2
      clear hx0 hx1
      have CN : Hid (Rud (((wr.setCell ⟨r, 3, none⟩ (.int .i64 (p.free + lc + x1))).alloc (.cells #[.int .i64 x0, .int .i64 x1, .int .i64 x2] 114)).drew) base r (.slice (some ⟨b, off, none⟩) xs.length cap) Kr { p with free := p.free + lc + x1 } xs (doneY p.T (xs.take i) ys)) := Lib.hid (((CR.out.setFree _).alloc _).drewN 1)
      have TN : Hid (Tu base tsR w (((wr.setCell ⟨r, 3, none⟩ (.int .i64 (p.free + lc + x1))).alloc (.cells #[.int .i64 x0, .int .i64 x1, .int .i64 x2] 114)).drew)) := Lib.hid (((TR.out.set_ CR.out.hr CR.out.b (by decide) _).alloc _).drew)
      have BX : Hid (Blk (((wr.setCell ⟨r, 3, none⟩ (.int .i64 (p.free + lc + x1))).alloc (.cells #[.int .i64 x0, .int .i64 x1, .int .i64 x2] 114)).drew) wr.heap.size 114 #[.int .i64 x0, .int .i64 x1, .int .i64 x2]) := Lib.hid (by
        have := Blk.new (wr.setCell ⟨r, 3, none⟩ (.int .i64 (p.free + lc + x1))) 114 #[.int .i64 x0, .int .i64 x1, .int .i64 x2]
        have e : (wr.setCell ⟨r, 3, none⟩ (.int .i64 (p.free + lc + x1))).heap.size = wr.heap.size := by simp [World.setCell]
        rw [e] at this
        exact this)
      by_cases hu : 0 < x2
      · have e0 : decide (0 < x2) = true := decide_eq_true hu
        have HU := Lib.hid hu; clear hu
        go_wp2_with fail
        go_region
        go_upto_region 6 with fail
        generalize ((wr.setCell ⟨r, 3, none⟩ (.int .i64 (p.free + lc + x1))).alloc (.cells #[.int .i64 x0, .int .i64 x1, .int .i64 x2] 114)).drew = W at *
        generalize wr.heap.size = bx at *
        clear g4 c0 c1 c2 g3 gf CR TR
        obtain ⟨AK, cK, rfl⟩ := CN.out.k.shape
        have hszW : base ≤ W.heap.size := Nat.le_trans hbase TN.out.size
        have hbxW : bx < W.heap.size := BX.out.lt
        have HS : Hid (∀ wx, Upd (fun k => W.heap.size ≤ k) W wx → wx.cell? ⟨r, 2, none⟩ = some (.int .i64 p.T) ∧ wx.cell? ⟨r, 5, none⟩ = some (.slice AK (doneY p.T (xs.take i) ys).length cK) ∧ wx.cell? ⟨bx, 0, none⟩ = some (.int .i64 x0) ∧ wx.cell? ⟨bx, 2, none⟩ = some (.int .i64 x2)) := Lib.hid (fun wx hu =>
          ⟨(CN.out.old hu).b.cell 2, (CN.out.old hu).b.cell 5, (BX.out.upd hu (Nat.not_le_of_lt hbxW)).cell 0, (BX.out.upd hu (Nat.not_le_of_lt hbxW)).cell 2⟩)
        have HFz : Hid (∀ wx, Upd (fun k => W.heap.size ≤ k) W wx → wx.frozen? ⟨r, 5, none⟩ = false) := Lib.hid (fun wx hu => (CN.out.old hu).b.frozen 5)
        obtain ⟨dy, hdy⟩ : ∃ dy, doneY p.T (xs.take i) ys = dy := ⟨_, rfl⟩
        rw [hdy] at HS CN hyi
        have HDY := Lib.hid hdy
        have HL : Hid (SlR encB W base 112 2 (.slice AK dy.length cK) dy) := Lib.hid CN.out.k
        clear hdy
        obtain ⟨i0, hi0, hz0, hz1, hz2⟩ := info_parts infoBR
        refine wp_region_tree (.q 0 (.q 2 (.q 3 (.q 4 (.q 5 (.q 7 (.q 8 (.q 9 (.q 10 (.q 11 (.q 12 (.q 13 (.q 14 (.q 15 (.q 16 (.q 17 (.b 1 (.b 6 (.l 18 (.l 19 (.l 20 (.l 21 (.l 22 .d))))) 18 (.l 6 (.l 19 (.l 20 (.l 21 (.l 22 .d)))))) 18 (.l 1 (.l 6 (.l 19 (.l 20 (.l 21 (.l 22 .d))))))))))))))))))))))) (fun i => decide (22 ≤ i ∧ i < 23)) (fun w' => w'.cell? ⟨r, 2, none⟩ = some (.int .i64 p.T) ∧ w'.cell? ⟨r, 5, none⟩ = some (.slice AK dy.length cK) ∧ w'.cell? ⟨bx, 0, none⟩ = some (.int .i64 x0) ∧ w'.cell? ⟨bx, 2, none⟩ = some (.int .i64 x2))
          (by kernel_rfl) (by kernel_rfl) (fun t ht => by have := of_decide_eq_true ht; exact this.2) (fun _ _ _ _ _ h => h) (by kernel_rfl) rfl (HS.out _ ((Upd.refl _ _).drew)) ?_
        iterate 16
          refine' wpOT_q (by rfl) (by rfl) (fun w' hS' => ?_) ?_
          rotate_left
          · obtain ⟨s0, s1, s2, s3⟩ := hS'
            go_simp
            try rfl
          try simp only [Act.put, List.setIfInBounds_toArray, List.set_cons_zero, List.set_cons_succ]
        have U0 : Hid (Upd (fun k => W.heap.size ≤ k) W W.drew) := Lib.hid ((Upd.refl _ W).drew)
        generalize W.drew = Wd at *
        refine wpOT_b ?_ ?_
        refine wpOT_loud (by rfl) (by rfl) (fun KQ hKQ => ?_)
        go_simp
        have UA := Lib.hid (U0.out.alloc (.cells #[] 112))
        have hA : W.heap.size ≤ Wd.heap.size := U0.out.size
        have EA : Hid (Blk (Wd.alloc (.cells #[] 112)) Wd.heap.size 112 #[]) := Lib.hid (Blk.new Wd _ _)
        refine hKQ _ _ (.inr (HS.out _ UA.out)) ?_
        clear hKQ KQ
        try simp only [Act.put, List.setIfInBounds_toArray, List.set_cons_zero, List.set_cons_succ]
        generalize Wd.alloc (.cells #[] 112) = wA at *
        generalize Wd.heap.size = bA at *
        refine wpOT_b ?_ ?_
        refine wpOT_loud (by rfl) (by rfl) (fun KQ hKQ => ?_)
        refine wp_append_copy (.tmp 34) (.tmp 38) 105 rfl W.heap.size _ 112 i0 _ 2 16 Try.underlying105 hi0 hz0 hz1 hz2 rfl (by decide) _ rfl EA.out hA (.slice AK dy.length cK) dy.length (rws encB dy) rfl (Sl.upd HL.out UA.out (fun k hk e => by have := (Sl.blk HL.out k hk).2.1; omega)) (rws_one_cell encB_one _) (by unfold maxLen; omega) (by omega) UA.out.size ?_
        intro v' wB hs1 hu1
        obtain ⟨AB, cB, rfl⟩ := Sl.shape hs1
        have SB := Lib.hid hs1
        have UB := Lib.hid (UA.out.trans (hu1.mono (fun k _ e => by rw [e]; exact hA)))
        clear hs1 hu1 EA
        refine hKQ _ _ (.inr (HS.out _ UB.out)) ?_
        clear hKQ KQ
        try simp only [Act.put, List.setIfInBounds_toArray, List.set_cons_zero, List.set_cons_succ]
        refine wpOT_l (by rfl) (by rfl) (fun KQ hKQ => ?_)
        go_simp
        have UC := Lib.hid (UB.out.alloc (.cells #[.int .i64 (IntKind.i64.wrap (x0 + p.T)), .int .i64 x2] 112))
        have hC : W.heap.size ≤ wB.heap.size := UB.out.size
        have SB := Lib.hid (SB.out.alloc (.cells #[.int .i64 (IntKind.i64.wrap (x0 + p.T)), .int .i64 x2] 112))
        have CC : Hid (Blk (wB.alloc (.cells #[.int .i64 (IntKind.i64.wrap (x0 + p.T)), .int .i64 x2] 112)) wB.heap.size 112 #[.int .i64 (IntKind.i64.wrap (x0 + p.T)), .int .i64 x2]) := Lib.hid (Blk.new wB _ _)
        refine hKQ _ _ (.inr (HS.out _ UC.out)) ?_
        clear hKQ KQ
        try simp only [Act.put, List.setIfInBounds_toArray, List.set_cons_zero, List.set_cons_succ]
        generalize wB.alloc (.cells #[.int .i64 (IntKind.i64.wrap (x0 + p.T)), .int .i64 x2] 112) = wC at *
        generalize wB.heap.size = bC at *
        refine wpOT_l (by rfl) (by rfl) (fun KQ hKQ => ?_)
        refine wp_append_sl (.tmp 39) (.tmp 51) 105 rfl W.heap.size 112 i0 _ 2 16 Try.underlying105 hi0 hz0 hz1 hz2 rfl (by decide) (.slice AB dy.length cB) dy.length (rws encB dy) rfl SB.out ⟨bC, 0, none⟩ 1 [.int .i64 (IntKind.i64.wrap (x0 + p.T)), .int .i64 x2] rfl rfl (fun j u hu => by rw [add_at, CC.out.cell j]; simpa using hu) (by simp [Value.oneCell']) (by unfold maxLen; omega) (by omega) UC.out.size ?_
        intro v9 wZ hs1 hu1 hv1
        obtain ⟨bz, oz, cz, rfl, _, _, _, _⟩ := hs1.form (by omega)
        have SZ := Lib.hid hs1
        have UZ := Lib.hid (UC.out.trans (hu1.mono (fun k _ hk => (Sl.blk SB.out k hk).1)))
        clear hs1 hu1 hv1
        refine hKQ _ _ (.inr (HS.out _ UZ.out)) ?_
        clear hKQ KQ
        try simp only [Act.put, List.setIfInBounds_toArray, List.set_cons_zero, List.set_cons_succ]
        iterate 2
          refine wpOT_l (by rfl) (by rfl) (fun KQ hKQ => ?_)
          go_simp
          refine hKQ _ _ (.inr (HS.out _ UZ.out)) ?_
          clear hKQ KQ
          try simp only [Act.put, List.setIfInBounds_toArray, List.set_cons_zero, List.set_cons_succ]
        have hfz := HFz.out _ UZ.out
        have hSz := HS.out _ UZ.out
        obtain ⟨s0, s1, s2, s3⟩ := hSz
        refine wpOT_l (by rfl) (by rfl) (fun KQ hKQ => ?_)
        go_simp
        refine hKQ _ _ (.inl (by rfl)) ?_
        clear hKQ KQ
        try simp only [Act.put, List.setIfInBounds_toArray, List.set_cons_zero, List.set_cons_succ]
        refine wpOT_d ?_
        rotate_left
        refine wpOT_loud (by rfl) (by rfl) (fun KQ hKQ => ?_)
        go_simp
        have UC := Lib.hid (UA.out.alloc (.cells #[.int .i64 (IntKind.i64.wrap (x0 + p.T)), .int .i64 x2] 112))
        have hC : W.heap.size ≤ wA.heap.size := UA.out.size
        have hAC : wA.heap.size ≠ bA := by have := EA.out.lt; omega
        have EA := Lib.hid (EA.out.alloc (.cells #[.int .i64 (IntKind.i64.wrap (x0 + p.T)), .int .i64 x2] 112))
        have CC : Hid (Blk (wA.alloc (.cells #[.int .i64 (IntKind.i64.wrap (x0 + p.T)), .int .i64 x2] 112)) wA.heap.size 112 #[.int .i64 (IntKind.i64.wrap (x0 + p.T)), .int .i64 x2]) := Lib.hid (Blk.new wA _ _)
        refine hKQ _ _ (.inr (HS.out _ UC.out)) ?_
        clear hKQ KQ
        try simp only [Act.put, List.setIfInBounds_toArray, List.set_cons_zero, List.set_cons_succ]
        generalize wA.alloc (.cells #[.int .i64 (IntKind.i64.wrap (x0 + p.T)), .int .i64 x2] 112) = wC at *
        generalize wA.heap.size = bC at *
        refine wpOT_l (by rfl) (by rfl) (fun KQ hKQ => ?_)
        refine wp_append_copy (.tmp 34) (.tmp 38) 105 rfl W.heap.size _ 112 i0 _ 2 16 Try.underlying105 hi0 hz0 hz1 hz2 rfl (by decide) _ rfl EA.out hA (.slice AK dy.length cK) dy.length (rws encB dy) rfl (Sl.upd HL.out UC.out (fun k hk e => by have := (Sl.blk HL.out k hk).2.1; omega)) (rws_one_cell encB_one _) (by unfold maxLen; omega) (by omega) UC.out.size ?_
        intro v' wB hs1 hu1
        obtain ⟨AB, cB, rfl⟩ := Sl.shape hs1
        have SB := Lib.hid hs1
        have UB := Lib.hid (UC.out.trans (hu1.mono (fun k _ e => by rw [e]; exact hA)))
        have CC := Lib.hid (CC.out.upd hu1 (fun e => hAC e))
        clear hs1 hu1 EA
        refine hKQ _ _ (.inr (HS.out _ UB.out)) ?_
        clear hKQ KQ
        try simp only [Act.put, List.setIfInBounds_toArray, List.set_cons_zero, List.set_cons_succ]
        refine wpOT_l (by rfl) (by rfl) (fun KQ hKQ => ?_)
        refine wp_append_sl (.tmp 39) (.tmp 51) 105 rfl W.heap.size 112 i0 _ 2 16 Try.underlying105 hi0 hz0 hz1 hz2 rfl (by decide) (.slice AB dy.length cB) dy.length (rws encB dy) rfl SB.out ⟨bC, 0, none⟩ 1 [.int .i64 (IntKind.i64.wrap (x0 + p.T)), .int .i64 x2] rfl rfl (fun j u hu => by rw [add_at, CC.out.cell j]; simpa using hu) (by simp [Value.oneCell']) (by unfold maxLen; omega) (by omega) UB.out.size ?_
        intro v9 wZ hs1 hu1 hv1
        obtain ⟨bz, oz, cz, rfl, _, _, _, _⟩ := hs1.form (by omega)
        have SZ := Lib.hid hs1
        have UZ := Lib.hid (UB.out.trans (hu1.mono (fun k _ hk => (Sl.blk SB.out k hk).1)))
        clear hs1 hu1 hv1
        refine hKQ _ _ (.inr (HS.out _ UZ.out)) ?_
        clear hKQ KQ
        try simp only [Act.put, List.setIfInBounds_toArray, List.set_cons_zero, List.set_cons_succ]
        iterate 2
          refine wpOT_l (by rfl) (by rfl) (fun KQ hKQ => ?_)
          go_simp
          refine hKQ _ _ (.inr (HS.out _ UZ.out)) ?_
          clear hKQ KQ
          try simp only [Act.put, List.setIfInBounds_toArray, List.set_cons_zero, List.set_cons_succ]
        have hfz := HFz.out _ UZ.out
        have hSz := HS.out _ UZ.out
        obtain ⟨s0, s1, s2, s3⟩ := hSz
        refine wpOT_l (by rfl) (by rfl) (fun KQ hKQ => ?_)
        go_simp
        refine hKQ _ _ (.inl (by rfl)) ?_
        clear hKQ KQ
        try simp only [Act.put, List.setIfInBounds_toArray, List.set_cons_zero, List.set_cons_succ]
        refine wpOT_d ?_
        rotate_left
        refine wpOT_loud (by rfl) (by rfl) (fun KQ hKQ => ?_)
        go_simp
        have UC := Lib.hid (U0.out.alloc (.cells #[.int .i64 (IntKind.i64.wrap (x0 + p.T)), .int .i64 x2] 112))
        have hC : W.heap.size ≤ Wd.heap.size := U0.out.size
        have CC : Hid (Blk (Wd.alloc (.cells #[.int .i64 (IntKind.i64.wrap (x0 + p.T)), .int .i64 x2] 112)) Wd.heap.size 112 #[.int .i64 (IntKind.i64.wrap (x0 + p.T)), .int .i64 x2]) := Lib.hid (Blk.new Wd _ _)
        refine hKQ _ _ (.inr (HS.out _ UC.out)) ?_
        clear hKQ KQ
        try simp only [Act.put, List.setIfInBounds_toArray, List.set_cons_zero, List.set_cons_succ]
        generalize Wd.alloc (.cells #[.int .i64 (IntKind.i64.wrap (x0 + p.T)), .int .i64 x2] 112) = wC at *
        generalize Wd.heap.size = bC at *
        refine wpOT_l (by rfl) (by rfl) (fun KQ hKQ => ?_)
        go_simp
        have UA := Lib.hid (UC.out.alloc (.cells #[] 112))
        have hA : W.heap.size ≤ wC.heap.size := UC.out.size
        have hAC : bC ≠ wC.heap.size := by have := CC.out.lt; omega
        have CC := Lib.hid (CC.out.alloc (.cells #[] 112))
        have EA : Hid (Blk (wC.alloc (.cells #[] 112)) wC.heap.size 112 #[]) := Lib.hid (Blk.new wC _ _)
        refine hKQ _ _ (.inr (HS.out _ UA.out)) ?_
        clear hKQ KQ
        try simp only [Act.put, List.setIfInBounds_toArray, List.set_cons_zero, List.set_cons_succ]
        generalize wC.alloc (.cells #[] 112) = wA at *
        generalize wC.heap.size = bA at *
        refine wpOT_l (by rfl) (by rfl) (fun KQ hKQ => ?_)
        refine wp_append_copy (.tmp 34) (.tmp 38) 105 rfl W.heap.size _ 112 i0 _ 2 16 Try.underlying105 hi0 hz0 hz1 hz2 rfl (by decide) _ rfl EA.out hA (.slice AK dy.length cK) dy.length (rws encB dy) rfl (Sl.upd HL.out UA.out (fun k hk e => by have := (Sl.blk HL.out k hk).2.1; omega)) (rws_one_cell encB_one _) (by unfold maxLen; omega) (by omega) UA.out.size ?_
        intro v' wB hs1 hu1
        obtain ⟨AB, cB, rfl⟩ := Sl.shape hs1
        have SB := Lib.hid hs1
        have UB := Lib.hid (UA.out.trans (hu1.mono (fun k _ e => by rw [e]; exact hA)))
        have CC := Lib.hid (CC.out.upd hu1 (fun e => hAC e))
        clear hs1 hu1 EA
        refine hKQ _ _ (.inr (HS.out _ UB.out)) ?_
        clear hKQ KQ
        try simp only [Act.put, List.setIfInBounds_toArray, List.set_cons_zero, List.set_cons_succ]
        refine wpOT_l (by rfl) (by rfl) (fun KQ hKQ => ?_)
        refine wp_append_sl (.tmp 39) (.tmp 51) 105 rfl W.heap.size 112 i0 _ 2 16 Try.underlying105 hi0 hz0 hz1 hz2 rfl (by decide) (.slice AB dy.length cB) dy.length (rws encB dy) rfl SB.out ⟨bC, 0, none⟩ 1 [.int .i64 (IntKind.i64.wrap (x0 + p.T)), .int .i64 x2] rfl rfl (fun j u hu => by rw [add_at, CC.out.cell j]; simpa using hu) (by simp [Value.oneCell']) (by unfold maxLen; omega) (by omega) UB.out.size ?_
        intro v9 wZ hs1 hu1 hv1
        obtain ⟨bz, oz, cz, rfl, _, _, _, _⟩ := hs1.form (by omega)
        have SZ := Lib.hid hs1
        have UZ := Lib.hid (UB.out.trans (hu1.mono (fun k _ hk => (Sl.blk SB.out k hk).1)))
        clear hs1 hu1 hv1
        refine hKQ _ _ (.inr (HS.out _ UZ.out)) ?_
        clear hKQ KQ
        try simp only [Act.put, List.setIfInBounds_toArray, List.set_cons_zero, List.set_cons_succ]
        iterate 2
          refine wpOT_l (by rfl) (by rfl) (fun KQ hKQ => ?_)
          go_simp
          refine hKQ _ _ (.inr (HS.out _ UZ.out)) ?_
          clear hKQ KQ
          try simp only [Act.put, List.setIfInBounds_toArray, List.set_cons_zero, List.set_cons_succ]
        have hfz := HFz.out _ UZ.out
        have hSz := HS.out _ UZ.out
        obtain ⟨s0, s1, s2, s3⟩ := hSz
        refine wpOT_l (by rfl) (by rfl) (fun KQ hKQ => ?_)
        go_simp
        refine hKQ _ _ (.inl (by rfl)) ?_
        clear hKQ KQ
        try simp only [Act.put, List.setIfInBounds_toArray, List.set_cons_zero, List.set_cons_succ]
        refine wpOT_d ?_
        rotate_left
        all_goals
          have hB9 := (CN.out.old UZ.out).b
          have hS9 := (CN.out.old UZ.out).s
          have hw := wrap_in (x0 + p.T) (by omega) (by omega)
          have hK9 : SlR encB wZ base 112 2 (.slice (some ⟨bz, oz, none⟩) (dy.length + 1) cz) (dy ++ [(x0 + p.T, x2)]) := by
            have := SZ.out
            rw [hw] at this
            unfold SlR
            rw [List.length_append, rws_append]
            exact Sl.mono this hszW
          have N9 := Lib.hid (Rud.setK hB9 hS9 hK9 CN.out.hr)
          have B9 := Lib.hid hB9
          clear hB9 hS9 hK9 hw
          go_wp2_with fail
          go_roundw
          case rel =>
            refine ⟨i + 1, by omega, by go_num, ⟨.slice (some ⟨bz, oz, none⟩) (dy.length + 1) cz, ?_⟩, (TN.out.trans (Tu.of UZ.out (fun k hk e => by omega))).set_ CN.out.hr B9.out (by decide) _⟩
            rw [leftC_take xs i _ HX.out, doneY_take p.T xs ys i _ HX.out, HLC.out, HDY.out, ← Int.add_assoc]
            have e : oweL p.T (x0, x1, x2) dy = dy ++ [(x0 + p.T, x2)] := if_pos HU.out
            rw [e]
            exact N9.out
          case measure => simp [intOf]; omega
      · have e0 : decide (0 < x2) = false := decide_eq_false hu
        have HU := Lib.hid (Int.not_lt.1 hu); clear hu
        go_wp2_with fail
        go_region
        all_goals
          go_wp2_with fail
          go_roundw
          case rel =>
            refine ⟨i + 1, by omega, by go_num, ⟨Kr, ?_⟩, TN.out⟩
            rw [leftC_take xs i _ HX.out, doneY_take p.T xs ys i _ HX.out, HLC.out, ← Int.add_assoc]
            have e : oweL p.T (x0, x1, x2) (doneY p.T (xs.take i) ys) = doneY p.T (xs.take i) ys := if_neg (Int.not_lt.2 HU.out)
            rw [e]
            exact CN.out
          case measure => simp [intOf]; omega
    · have hii : i = xs.length := by omega
      subst hii
      have hc9 := CR.out
      rw [List.take_length] at hc9
      have C9 := Lib.hid hc9
      have f4 := hc9.b.frozen 4
      clear hc9 CR
      go_wp2_with fail
      go_returns
      exact ⟨rfl, ⟨_, Kr, Rud.setL C9.out.b SlR.nil C9.out.k C9.out.hr⟩, TR.out.set_ C9.out.hr C9.out.b (by decide) _⟩

set_option maxHeartbeats 800000 in
theorem dueR0 (w : World) (base r : Nat) (s : St17) (h : RSt w base r s) (hx : s.xs = []) :
    Calls Try.prog 34 #[.pointer (some ⟨r, 0, none⟩)] w fun e w' => e = .returned (.tuple #[.int .i64 0, .bool false]) ∧ ∃ k, w' = w.drewN k := by
  obtain ⟨L, K, h⟩ := h
  rw [hx] at h
  obtain ⟨AL, cL, rfl⟩ := h.s.shape
  have c4 : w.cell? ⟨r, 4, none⟩ = some (.slice AL 0 cL) := h.b.cell 4
  clear h hx
  go_enter Try.func34, Try.ntmps34
  go_wp2_with fail
  go_returns
  exact ⟨rfl, 0, rfl⟩

set_option maxRecDepth 100000 in
set_option maxHeartbeats 800000 in
theorem dueR1 (w : World) (base r : Nat) (s : St17) (h : RSt w base r s) (hf : FineC s) (x : Int × Int × Int) (t : List (Int × Int × Int)) (hx : s.xs = x :: t) :
    Calls Try.prog 34 #[.pointer (some ⟨r, 0, none⟩)] w fun e w' => e = .returned (.tuple #[.int .i64 (x.1 + s.p.T), .bool true]) ∧ ∃ k, w' = w.drewN k := by
  obtain ⟨L, K, h⟩ := h
  have hxx := hf.fx x (by rw [hx]; exact List.mem_cons_self ..)
  have hT1 := hf.T1
  have hT0 : 1 ≤ s.p.T := by have := hf.C1; have := hf.CT; omega
  have htl : t.length ≤ 1000 := by have := hf.bound.2.2.2.2.1; rw [hx] at this; simp at this; omega
  rw [hx] at h
  clear hx hf
  obtain ⟨b, off, cap, rfl, hbb, hbw, hnc, hcm⟩ := h.s.form (by simp)
  rw [List.length_cons] at h hnc
  have c4 : w.cell? ⟨r, 4, none⟩ = some (.slice (some ⟨b, off, none⟩) (t.length + 1) cap) := h.b.cell 4
  have c2 : w.cell? ⟨r, 2, none⟩ = some (.int .i64 s.p.T) := h.b.cell 2
  have d0 : w.cell? ⟨b, off, none⟩ = some (.int .i64 x.1) := h.s.cell encC_len 0 _ rfl 0 _ rfl
  have e0 : (((t.length + 1 : Nat) : Int) == 0) = false := beq_eq_false_iff_ne.2 (by omega)
  clear h
  go_enter Try.func34, Try.ntmps34
  go_wp2_with fail
  go_quiet (fail)
  go_wp2_with fail
  go_returns
  exact ⟨rfl, _, rfl⟩

set_option maxRecDepth 100000 in
set_option maxHeartbeats 800000 in
theorem rightR (w : World) (rf : Bool) (C T : Int) (t : Bool) (ht : okS C T = t) :
    Calls Try.prog 27 #[.agg #[.bool rf, .int .i64 C, .int .i64 T]] w fun e w' => e = .returned (.bool t) ∧ Upd (fun _ => False) w w' := by
  by_cases h1 : 1 ≤ C
  · have e1 : decide (1 ≤ C) = true := decide_eq_true h1
    by_cases h2 : C ≤ T
    · have e2 : decide (C ≤ T) = true := decide_eq_true h2
      obtain ⟨t3, h3⟩ : ∃ t3, decide (T ≤ 1000) = t3 := ⟨_, rfl⟩
      have ht' : t3 = t := by rw [← ht, ← h3]; unfold okS; simp [h1, h2]
      subst ht'
      clear ht
      go_enter Try.func27, Try.ntmps27
      go_wp2
      go_ret
      exact ⟨rfl, (Upd.refl _ w).alloc _⟩
    · have e2 : decide (C ≤ T) = false := decide_eq_false h2
      have ht' : t = false := by rw [← ht]; unfold okS; simp [h2]
      subst ht'
      clear ht
      go_enter Try.func27, Try.ntmps27
      go_wp2
      go_ret
      exact ⟨rfl, (Upd.refl _ w).alloc _⟩
  · have e1 : decide (1 ≤ C) = false := decide_eq_false h1
    have ht' : t = false := by rw [← ht]; unfold okS; simp [h1]
    subst ht'
    clear ht
    go_enter Try.func27, Try.ntmps27
    go_wp2
    go_ret
    exact ⟨rfl, (Upd.refl _ w).alloc _⟩

set_option maxRecDepth 100000 in
set_option maxHeartbeats 800000 in
theorem newR_no (w : World) (rf : Bool) (C T : Int) (h : okS C T = false) :
    Calls Try.prog 30 #[.agg #[.bool rf, .int .i64 C, .int .i64 T]] w fun e w' => e = .returned (.pointer none) ∧ Upd (fun _ => False) w w' := by
  have HT := Lib.hid h; clear h
  go_enter Try.func30, Try.ntmps30
  go_wp2_with fail
  refine (rightR _ rf C T false HT.out).mono ?_
  rintro e w1 ⟨rfl, hU⟩
  have HU := Lib.hid hU; clear hU
  go_wp2_with fail
  go_returns
  exact ⟨rfl, ((Upd.refl _ w).alloc _).trans HU.out⟩

set_option maxRecDepth 100000 in
set_option maxHeartbeats 800000 in
theorem newR_yes (w : World) (base : Nat) (hbase : base ≤ w.heap.size) (rf : Bool) (C T : Int) (h : okS C T = true) :
    Calls Try.prog 30 #[.agg #[.bool rf, .int .i64 C, .int .i64 T]] w fun e w' => ∃ g, e = .returned (.pointer (some ⟨g, 0, none⟩)) ∧ w.heap.size ≤ g ∧ RSt w' base g (St17.new rf C T) ∧ Upd (fun _ => False) w w' := by
  have HT := Lib.hid h; clear h
  have hx := Blk.new w 23 #[.bool rf, .int .i64 C, .int .i64 T]
  have HX := Lib.hid hx; clear hx
  go_enter Try.func30, Try.ntmps30
  go_wp2_with fail
  refine (rightR _ rf C T true HT.out).mono ?_
  rintro e w1 ⟨rfl, hU⟩
  have hb := HX.out.upd hU (fun h => h)
  have c0 : w1.cell? ⟨w.heap.size, 0, none⟩ = some (.bool rf) := hb.cell 0
  have c1 : w1.cell? ⟨w.heap.size, 1, none⟩ = some (.int .i64 C) := hb.cell 1
  have c2 : w1.cell? ⟨w.heap.size, 2, none⟩ = some (.int .i64 T) := hb.cell 2
  clear hb
  have hsz := hU.size
  simp at hsz
  have HU := Lib.hid hU; clear hU
  go_wp2_with fail
  go_returns
  refine ⟨_, rfl, by omega, ⟨_, _, Blk.new _ _ _, SlR.nil, SlR.nil, by omega⟩, (((Upd.refl _ w).alloc _).trans HU.out).alloc _⟩
end Go.Proofs.Ytcgefncddbbnlaa.Ck
