/-
  Stats: join. (Written by stu.py.)
-/
import Derived.Test.YthjebjegedgoeaaStR
import Derived.Test.YthjebjegedgoeaaStT
import Derived.Test.YthjebjegedgoeaaSeqF
namespace Go.Proofs.Ythjebjegedgoeaa
open Go.RowKit Go.Shelf Go.Maps Go.Sort
attribute [local go_sem] max_ints min_ints mapEq mapEqN makeMp

/-- A copy of what is known of a task, with buckets of its own. -/
structure CpS (w : World) (k c o cap B : Nat) (t : Int) (x : Ln) (cs : List Int) : Prop where
  kn : Blk w k 62 #[.int .i64 t, .int .i64 x.arr, .int .i64 x.ended, .int .i64 x.lost, .int .i64 x.least, .int .i64 x.most, .int .i64 x.sum, .slice (some ⟨c, o, none⟩) B cap]
  cn : SlR encI w 0 3 1 (.slice (some ⟨c, o, none⟩) B cap) cs
section
variable {w w' : World} {k c o cap B : Nat} {t : Int} {x : Ln} {cs : List Int} {S : Nat → Prop}
theorem CpS.upd (h : CpS w k c o cap B t x cs) (hu : Upd S w w') (h1 : ¬ S k) (h2 : ¬ S c) : CpS w' k c o cap B t x cs :=
  ⟨h.kn.upd hu h1, h.cn.upd hu (fun q hq => by rw [← slBlk_eq hq]; exact h2)⟩
theorem CpS.still (h : CpS w k c o cap B t x cs) (hu : Upd (fun _ => False) w w') : CpS w' k c o cap B t x cs := h.upd hu (fun h => h) (fun h => h)
theorem CpS.len (h : CpS w k c o cap B t x cs) : cs.length = B := by
  obtain ⟨A, cp, he⟩ := h.cn.shape
  injection he with _ e _
  exact e.symm
theorem CpS.cell (h : CpS w k c o cap B t x cs) (i : Nat) (y : Int) (e : cs[i]? = some y) : w.cell? ⟨c, o + i, none⟩ = some (.int .i64 y) := slr_int h.cn i y e
end

set_option maxRecDepth 100000 in
set_option maxHeartbeats 12800000 in
theorem joinC (w : World) (k c B n : Nat) (t : Int) (x : Ln) (cs : List Int) (h : KnS w k c B t x cs) (k2 c2 o2 cap2 : Nat) (t2 : Int) (y : Ln) (ds : List Int) (h2 : CpS w k2 c2 o2 cap2 B t2 y ds) (hkk : k ≠ k2) (hcc : c ≠ c2)
    (hx : LnOk n x) (hy : LnOk n y) (hn : n ≤ 1000000) (hcs : ∀ z ∈ cs, 0 ≤ z ∧ z ≤ n) (hds : ∀ z ∈ ds, 0 ≤ z ∧ z ≤ n) (hB : B ≤ 64) :
    Calls Try.prog 32 #[.pointer (some ⟨k, 0, none⟩), .pointer (some ⟨k2, 0, none⟩)] w fun e w' => e = .returned (.tuple #[]) ∧ KnS w' k c B t (x.join y) (addL cs ds) ∧ Upd (fun q => q = k ∨ q = c) w w' := by
  obtain ⟨arr, en, lo, le, mo, su⟩ := x
  obtain ⟨arr2, en2, lo2, le2, mo2, su2⟩ := y
  obtain ⟨h1, h2', h3, h4, h5, h6, h7, h8, h9, h10, h11, h12, h13⟩ := hx
  obtain ⟨i1, i2, i3, i4, i5, i6, i7, i8, i9, i10, i11, i12, i13⟩ := hy
  dsimp only at h1 h2' h3 h4 h5 h6 h7 h8 h9 h10 h11 h12 h13 i1 i2 i3 i4 i5 i6 i7 i8 i9 i10 i11 i12 i13
  have HLC : Hid (cs.length = B) := Lib.hid h.len
  have HLD : Hid (ds.length = B) := Lib.hid h2.len
  have HCK : Hid (¬ c2 = k) := Lib.hid (fun e => by
    obtain ⟨_, _, cur, hcur⟩ := Sl.blk h2.cn _ rfl
    exact hcur.ne_ h.kn (by decide) e)
  have HKC : Hid (¬ k2 = c) := Lib.hid (fun e => by
    obtain ⟨_, _, cur, hcur⟩ := Sl.blk h.cn _ rfl
    exact h2.kn.ne_ hcur (by decide) e)
  have HBC := Lib.hid hcs; have HBD := Lib.hid hds
  have hb1 : 0 ≤ arr ∧ arr ≤ 1000000 := by omega
  have hb2 : 0 ≤ en ∧ en ≤ 1000000 := by omega
  have hb3 : 0 ≤ lo ∧ lo ≤ 1000000 := by omega
  have hb6 : 0 ≤ su ∧ su ≤ 1048576000000 := by omega
  have hd1 : 0 ≤ arr2 ∧ arr2 ≤ 1000000 := by omega
  have hd2 : 0 ≤ en2 ∧ en2 ≤ 1000000 := by omega
  have hd3 : 0 ≤ lo2 ∧ lo2 ≤ 1000000 := by omega
  have hd6 : 0 ≤ su2 ∧ su2 ≤ 1048576000000 := by omega
  have wA : IntKind.i64.wrap (arr + arr2) = arr + arr2 := wrap_in _ (by omega) (by omega)
  have wE : IntKind.i64.wrap (en + en2) = en + en2 := wrap_in _ (by omega) (by omega)
  have wL : IntKind.i64.wrap (lo + lo2) = lo + lo2 := wrap_in _ (by omega) (by omega)
  have wS : IntKind.i64.wrap (su + su2) = su + su2 := wrap_in _ (by omega) (by omega)
  have q2 : w.cell? ⟨k2, 2, none⟩ = some (.int .i64 en2) := h2.kn.cell 2
  have q4 : w.cell? ⟨k2, 4, none⟩ = some (.int .i64 le2) := h2.kn.cell 4
  have p2 : w.cell? ⟨k, 2, none⟩ = some (.int .i64 en) := h.kn.cell 2
  have p4 : w.cell? ⟨k, 4, none⟩ = some (.int .i64 le) := h.kn.cell 4
  have K0 := Lib.hid h; have Y0 := Lib.hid h2
  have hjoin : (⟨arr, en, lo, le, mo, su⟩ : Ln).join ⟨arr2, en2, lo2, le2, mo2, su2⟩ = ⟨arr + arr2, en + en2, lo + lo2, if 0 < en2 ∧ (en = 0 ∨ le2 < le) then le2 else le, max mo mo2, su + su2⟩ := rfl
  rw [hjoin]
  clear hjoin h h2 hcs hds h1 h2' h3 h4 h5 h6 h7 h8 h9 h10 h11 h12 h13 i1 i2 i3 i4 i5 i6 i7 i8 i9 i10 i11 i12 i13
  go_enter Try.func32, Try.ntmps32
  by_cases z1 : 0 < en2
  · have dz : decide (0 < en2) = true := decide_eq_true z1
    by_cases z2 : en = 0
    · rw [if_pos ⟨z1, .inl z2⟩]
      have d1 : (en == 0) = true := beq_iff_eq.2 z2
      clear z2
      clear z1
      go_wp2_with fail
      go_quiet (fail)
      have K1 : Hid (KnS (w.drewN nq) k c B t ⟨arr, en, lo, le, mo, su⟩ cs) := Lib.hid (K0.out.still ((Upd.refl _ w).drewN nq))
      have Y1 : Hid (CpS (w.drewN nq) k2 c2 o2 cap2 B t2 ⟨arr2, en2, lo2, le2, mo2, su2⟩ ds) := Lib.hid (Y0.out.still ((Upd.refl _ w).drewN nq))
      have U1 : Hid (Upd (fun q => q = k ∨ q = c) w (w.drewN nq)) := Lib.hid ((Upd.refl _ w).drewN nq)
      clear K0 Y0 q2 q4 p2 p4
      generalize w.drewN nq = w1 at *
      have q4 : w1.cell? ⟨k2, 4, none⟩ = some (.int .i64 le2) := Y1.out.kn.cell 4
      have p4 : w1.cell? ⟨k, 4, none⟩ = some (.int .i64 le) := K1.out.kn.cell 4
      have f4 : w1.frozen? ⟨k, 4, none⟩ = false := K1.out.kn.frozen 4
      have hK := K1.out.set_ 4 le2 ⟨arr, en, lo, le2, mo, su⟩ rfl
      have K2 := Lib.hid hK.1
      have U2 := Lib.hid (U1.out.trans (hK.2.mono (S' := fun q => q = k ∨ q = c) (fun _ _ e => .inl e)))
      have Y2 := Lib.hid (Y1.out.upd hK.2 (fun e => hkk e.symm) HCK.out)
      clear hK
      go_upto_region 2 with fail
      clear q4 p4 f4 K1 Y1 U1
      generalize w1.setCell ⟨k, 4, none⟩ (.int .i64 le2) = w2 at *
      have c5 : w2.cell? ⟨k, 5, none⟩ = some (.int .i64 mo) := K2.out.kn.cell 5
      have d5 : w2.cell? ⟨k2, 5, none⟩ = some (.int .i64 mo2) := Y2.out.kn.cell 5
      have f5 : w2.frozen? ⟨k, 5, none⟩ = false := K2.out.kn.frozen 5
      have hK := K2.out.set_ 5 (max mo mo2) ⟨arr, en, lo, le2, max mo mo2, su⟩ rfl
      have K3 := Lib.hid hK.1
      have U3 := Lib.hid (U2.out.trans (hK.2.mono (S' := fun q => q = k ∨ q = c) (fun _ _ e => .inl e)))
      have Y3 := Lib.hid (Y2.out.upd hK.2 (fun e => hkk e.symm) HCK.out)
      clear hK
      go_upto_region 2 with fail
      refine wp_region_treeF (.q 0 (.q 1 (.q 2 (.q 3 (.q 4 (.q 5 (.q 6 (.q 7 (.q 8 (.q 9 (.q 10 (.q 11 (.q 12 (.q 13 (.q 14 (.l 15 .d)))))))))))))))) (fun i => decide (i = 15)) (fun _ => false) (fun w' => w'.cell? ⟨k, 5, none⟩ = some (.int .i64 mo) ∧ w'.cell? ⟨k2, 5, none⟩ = some (.int .i64 mo2))
        (by kernel_rfl) (by kernel_rfl) (by kernel_rfl) (fun t ht => by have := of_decide_eq_true ht; subst this; decide) (fun _ _ _ _ _ h => h) (by kernel_rfl) rfl ⟨c5, d5⟩ ?_
      iterate 15
        (refine' wpOF_q (by rfl) (by rfl) (by rfl) (fun w' hS' => ?_) ?_
         rotate_left
         · obtain ⟨s5, r5⟩ := hS'
           go_simp
           try rfl)
        try simp only [Act.put, List.setIfInBounds_toArray, List.set_cons_zero, List.set_cons_succ]
      refine wpOF_l (by rfl) (by rfl) (fun KQ hKQ => ?_)
      go_simp
      refine hKQ _ _ (.inl (by rfl)) ?_
      clear hKQ KQ
      try simp only [Act.put, List.setIfInBounds_toArray, List.set_cons_zero, List.set_cons_succ]
      refine wpOF_d ?_
      clear c5 d5 f5
      have K4 : Hid (KnS (w2.setCell ⟨k, 5, none⟩ (.int .i64 (max mo mo2))).drew k c B t ⟨arr, en, lo, le2, max mo mo2, su⟩ cs) := Lib.hid (K3.out.still (Upd.refl _ _).drew)
      have Y4 : Hid (CpS (w2.setCell ⟨k, 5, none⟩ (.int .i64 (max mo mo2))).drew k2 c2 o2 cap2 B t2 ⟨arr2, en2, lo2, le2, mo2, su2⟩ ds) := Lib.hid (Y3.out.still (Upd.refl _ _).drew)
      have U4 : Hid (Upd (fun q => q = k ∨ q = c) w (w2.setCell ⟨k, 5, none⟩ (.int .i64 (max mo mo2))).drew) := Lib.hid U3.out.drew
      clear K3 Y3 U3 K2 Y2 U2
      go_upto_region 3 with fail
      generalize hw4 : (w2.setCell ⟨k, 5, none⟩ (.int .i64 (max mo mo2))).drew = w4 at *
      clear hw4
      have a1 : w4.cell? ⟨k, 1, none⟩ = some (.int .i64 arr) := K4.out.kn.cell 1
      have a2 : w4.cell? ⟨k, 2, none⟩ = some (.int .i64 en) := K4.out.kn.cell 2
      have a3 : w4.cell? ⟨k, 3, none⟩ = some (.int .i64 lo) := K4.out.kn.cell 3
      have a6 : w4.cell? ⟨k, 6, none⟩ = some (.int .i64 su) := K4.out.kn.cell 6
      have e1 : w4.cell? ⟨k2, 1, none⟩ = some (.int .i64 arr2) := Y4.out.kn.cell 1
      have e2 : w4.cell? ⟨k2, 2, none⟩ = some (.int .i64 en2) := Y4.out.kn.cell 2
      have e3 : w4.cell? ⟨k2, 3, none⟩ = some (.int .i64 lo2) := Y4.out.kn.cell 3
      have e6 : w4.cell? ⟨k2, 6, none⟩ = some (.int .i64 su2) := Y4.out.kn.cell 6
      refine wp_region_treeF (.q 0 (.q 1 (.q 2 (.q 3 (.q 4 (.q 5 (.q 6 (.q 7 (.q 8 (.q 9 (.q 10 (.q 11 (.q 12 (.q 13 (.q 14 (.q 15 (.q 16 (.q 17 (.q 18 (.q 19 (.q 20 (.q 21 (.q 22 (.q 23 (.q 24 (.q 25 (.q 26 (.q 27 (.q 28 (.q 29 (.q 30 (.q 31 (.q 32 (.q 33 (.q 34 (.q 35 (.q 36 (.q 37 (.q 38 (.q 39 (.q 40 (.q 41 (.q 42 (.q 43 (.q 44 (.q 45 (.q 46 (.q 47 (.q 48 (.q 49 (.q 50 (.l 51 (.q 52 (.q 53 (.q 54 (.l 55 (.q 56 (.q 57 (.q 58 (.l 59 (.q 60 (.q 61 (.q 62 (.l 63 .d)))))))))))))))))))))))))))))))))))))))))))))))))))))))))))))))) (fun i => decide (i = 51 ∨ i = 55 ∨ i = 59 ∨ i = 63)) (fun q => decide (q = 1 ∨ q = 2 ∨ q = 3 ∨ q = 25 ∨ q = 36 ∨ q = 47 ∨ 48 ≤ q)) (fun w' => w'.cell? ⟨k, 1, none⟩ = some (.int .i64 arr) ∧ w'.cell? ⟨k, 2, none⟩ = some (.int .i64 en) ∧ w'.cell? ⟨k, 3, none⟩ = some (.int .i64 lo) ∧ w'.cell? ⟨k, 6, none⟩ = some (.int .i64 su) ∧ w'.cell? ⟨k2, 1, none⟩ = some (.int .i64 arr2) ∧ w'.cell? ⟨k2, 2, none⟩ = some (.int .i64 en2) ∧ w'.cell? ⟨k2, 3, none⟩ = some (.int .i64 lo2) ∧ w'.cell? ⟨k2, 6, none⟩ = some (.int .i64 su2))
        (by kernel_rfl) (by kernel_rfl) (by kernel_rfl) (fun t ht => by rcases of_decide_eq_true ht with h | h | h | h <;> subst h <;> decide) (fun _ _ _ _ _ h => h) (by kernel_rfl) rfl ⟨a1, a2, a3, a6, e1, e2, e3, e6⟩ ?_
      clear a1 a2 a3 a6 e1 e2 e3 e6
      have K5 : Hid (KnS w4.drew k c B t ⟨arr, en, lo, le2, max mo mo2, su⟩ cs) := Lib.hid (K4.out.still (Upd.refl _ _).drew)
      have Y5 : Hid (CpS w4.drew k2 c2 o2 cap2 B t2 ⟨arr2, en2, lo2, le2, mo2, su2⟩ ds) := Lib.hid (Y4.out.still (Upd.refl _ _).drew)
      have U5 : Hid (Upd (fun q => q = k ∨ q = c) w w4.drew) := Lib.hid U4.out.drew
      clear K4 Y4 U4
      generalize w4.drew = w5 at *
      iterate 1
        (refine' wpOF_q (by rfl) (by rfl) (by rfl) (fun w' hS' => ?_) ?_
         rotate_left
         · obtain ⟨s1, s2, s3, s6, r1, r2, r3, r6⟩ := hS'
           go_simp
           try rfl)
        try simp only [Act.put, List.setIfInBounds_toArray, List.set_cons_zero, List.set_cons_succ]
      iterate 3
        (refine' wpOF_f (by rfl) (by rfl) (fun w' => ?_) ?_
         rotate_left
         · go_simp
           try rfl)
        try simp only [Act.put, List.setIfInBounds_toArray, List.set_cons_zero, List.set_cons_succ]
      iterate 21
        (refine' wpOF_q (by rfl) (by rfl) (by rfl) (fun w' hS' => ?_) ?_
         rotate_left
         · obtain ⟨s1, s2, s3, s6, r1, r2, r3, r6⟩ := hS'
           go_simp
           try rfl)
        try simp only [Act.put, List.setIfInBounds_toArray, List.set_cons_zero, List.set_cons_succ]
      iterate 1
        (refine' wpOF_f (by rfl) (by rfl) (fun w' => ?_) ?_
         rotate_left
         · go_simp
           try rfl)
        try simp only [Act.put, List.setIfInBounds_toArray, List.set_cons_zero, List.set_cons_succ]
      iterate 10
        (refine' wpOF_q (by rfl) (by rfl) (by rfl) (fun w' hS' => ?_) ?_
         rotate_left
         · obtain ⟨s1, s2, s3, s6, r1, r2, r3, r6⟩ := hS'
           go_simp
           try rfl)
        try simp only [Act.put, List.setIfInBounds_toArray, List.set_cons_zero, List.set_cons_succ]
      iterate 1
        (refine' wpOF_f (by rfl) (by rfl) (fun w' => ?_) ?_
         rotate_left
         · go_simp
           try rfl)
        try simp only [Act.put, List.setIfInBounds_toArray, List.set_cons_zero, List.set_cons_succ]
      iterate 10
        (refine' wpOF_q (by rfl) (by rfl) (by rfl) (fun w' hS' => ?_) ?_
         rotate_left
         · obtain ⟨s1, s2, s3, s6, r1, r2, r3, r6⟩ := hS'
           go_simp
           try rfl)
        try simp only [Act.put, List.setIfInBounds_toArray, List.set_cons_zero, List.set_cons_succ]
      iterate 4
        (refine' wpOF_f (by rfl) (by rfl) (fun w' => ?_) ?_
         rotate_left
         · go_simp
           try rfl)
        try simp only [Act.put, List.setIfInBounds_toArray, List.set_cons_zero, List.set_cons_succ]
      have b1 : w5.cell? ⟨k, 1, none⟩ = some (.int .i64 arr) := K5.out.kn.cell 1
      have g1 : w5.frozen? ⟨k, 1, none⟩ = false := K5.out.kn.frozen 1
      have hK := K5.out.set_ 1 (arr + arr2) ⟨arr + arr2, en, lo, le2, max mo mo2, su⟩ rfl
      have K6 := Lib.hid hK.1
      have U6 := Lib.hid (U5.out.trans (hK.2.mono (S' := fun q => q = k ∨ q = c) (fun _ _ e => .inl e)))
      have Y6 := Lib.hid (Y5.out.upd hK.2 (fun e => hkk e.symm) HCK.out)
      clear hK
      refine wpOF_l (by rfl) (by rfl) (fun KQ hKQ => ?_)
      go_simp
      refine hKQ _ _ (.inl (by rfl)) ?_
      clear hKQ KQ
      try simp only [Act.put, List.setIfInBounds_toArray, List.set_cons_zero, List.set_cons_succ]
      clear b1 g1 K5 U5 Y5
      generalize w5.setCell ⟨k, 1, none⟩ (.int .i64 (arr + arr2)) = w6 at *
      iterate 3
        (refine' wpOF_f (by rfl) (by rfl) (fun w' => ?_) ?_
         rotate_left
         · go_simp
           try rfl)
        try simp only [Act.put, List.setIfInBounds_toArray, List.set_cons_zero, List.set_cons_succ]
      have b2 : w6.cell? ⟨k, 2, none⟩ = some (.int .i64 en) := K6.out.kn.cell 2
      have g2 : w6.frozen? ⟨k, 2, none⟩ = false := K6.out.kn.frozen 2
      have hK := K6.out.set_ 2 (en + en2) ⟨arr + arr2, en + en2, lo, le2, max mo mo2, su⟩ rfl
      have K7 := Lib.hid hK.1
      have U7 := Lib.hid (U6.out.trans (hK.2.mono (S' := fun q => q = k ∨ q = c) (fun _ _ e => .inl e)))
      have Y7 := Lib.hid (Y6.out.upd hK.2 (fun e => hkk e.symm) HCK.out)
      clear hK
      refine wpOF_l (by rfl) (by rfl) (fun KQ hKQ => ?_)
      go_simp
      refine hKQ _ _ (.inl (by rfl)) ?_
      clear hKQ KQ
      try simp only [Act.put, List.setIfInBounds_toArray, List.set_cons_zero, List.set_cons_succ]
      clear b2 g2 K6 U6 Y6
      generalize w6.setCell ⟨k, 2, none⟩ (.int .i64 (en + en2)) = w7 at *
      iterate 3
        (refine' wpOF_f (by rfl) (by rfl) (fun w' => ?_) ?_
         rotate_left
         · go_simp
           try rfl)
        try simp only [Act.put, List.setIfInBounds_toArray, List.set_cons_zero, List.set_cons_succ]
      have b3 : w7.cell? ⟨k, 3, none⟩ = some (.int .i64 lo) := K7.out.kn.cell 3
      have g3 : w7.frozen? ⟨k, 3, none⟩ = false := K7.out.kn.frozen 3
      have hK := K7.out.set_ 3 (lo + lo2) ⟨arr + arr2, en + en2, lo + lo2, le2, max mo mo2, su⟩ rfl
      have K8 := Lib.hid hK.1
      have U8 := Lib.hid (U7.out.trans (hK.2.mono (S' := fun q => q = k ∨ q = c) (fun _ _ e => .inl e)))
      have Y8 := Lib.hid (Y7.out.upd hK.2 (fun e => hkk e.symm) HCK.out)
      clear hK
      refine wpOF_l (by rfl) (by rfl) (fun KQ hKQ => ?_)
      go_simp
      refine hKQ _ _ (.inl (by rfl)) ?_
      clear hKQ KQ
      try simp only [Act.put, List.setIfInBounds_toArray, List.set_cons_zero, List.set_cons_succ]
      clear b3 g3 K7 U7 Y7
      generalize w7.setCell ⟨k, 3, none⟩ (.int .i64 (lo + lo2)) = w8 at *
      iterate 3
        (refine' wpOF_f (by rfl) (by rfl) (fun w' => ?_) ?_
         rotate_left
         · go_simp
           try rfl)
        try simp only [Act.put, List.setIfInBounds_toArray, List.set_cons_zero, List.set_cons_succ]
      have b6 : w8.cell? ⟨k, 6, none⟩ = some (.int .i64 su) := K8.out.kn.cell 6
      have g6 : w8.frozen? ⟨k, 6, none⟩ = false := K8.out.kn.frozen 6
      have hK := K8.out.set_ 6 (su + su2) ⟨arr + arr2, en + en2, lo + lo2, le2, max mo mo2, su + su2⟩ rfl
      have K9 := Lib.hid hK.1
      have U9 := Lib.hid (U8.out.trans (hK.2.mono (S' := fun q => q = k ∨ q = c) (fun _ _ e => .inl e)))
      have Y9 := Lib.hid (Y8.out.upd hK.2 (fun e => hkk e.symm) HCK.out)
      clear hK
      refine wpOF_l (by rfl) (by rfl) (fun KQ hKQ => ?_)
      go_simp
      refine hKQ _ _ (.inl (by rfl)) ?_
      clear hKQ KQ
      try simp only [Act.put, List.setIfInBounds_toArray, List.set_cons_zero, List.set_cons_succ]
      clear b6 g6 K8 U8 Y8
      generalize w8.setCell ⟨k, 6, none⟩ (.int .i64 (su + su2)) = w9 at *
      refine wpOF_d ?_
      have y7 : w9.cell? ⟨k2, 7, none⟩ = some (.slice (some ⟨c2, o2, none⟩) B cap2) := Y9.out.kn.cell 7
      go_wp2_with fail
      go_loopw [4, 5, 122] (fun v4 v5 v122 wr => ∃ (i : Nat) (cur : List Int), i ≤ B ∧ v122 = .int .i64 i ∧ KnS wr k c B t ⟨arr + arr2, en + en2, lo + lo2, le2, max mo mo2, su + su2⟩ cur ∧ (∀ j, cur[j]? = if j < i then (addL cs ds)[j]? else cs[j]?) ∧ CpS wr k2 c2 o2 cap2 B t2 ⟨arr2, en2, lo2, le2, mo2, su2⟩ ds ∧ Upd (fun q => q = k ∨ q = c) w wr) (fun _ _ v122 _ => B - (intOf v122).toNat)
      case atStart => exact ⟨0, cs, Nat.zero_le _, rfl, K9.out, fun j => by rw [if_neg (by omega)], Y9.out, U9.out⟩
      case round =>
        obtain ⟨i, cur, hi, rfl, hK, hcur, hY, hU⟩ := hrel
        have KA := Lib.hid hK; have YA := Lib.hid hY; have UA := Lib.hid hU; have CA := Lib.hid hcur
        clear hK hY hU
        by_cases hlt : i < B
        · obtain ⟨z, hz⟩ : ∃ z, cs[i]? = some z := ⟨_, List.getElem?_eq_getElem (by rw [HLC.out]; exact hlt)⟩
          obtain ⟨u, hu⟩ : ∃ u, ds[i]? = some u := ⟨_, List.getElem?_eq_getElem (by rw [HLD.out]; exact hlt)⟩
          have hzb := HBC.out z (List.mem_of_getElem? hz)
          have hub := HBD.out u (List.mem_of_getElem? hu)
          have hcz : cur[i]? = some z := by rw [hcur i, if_neg (by omega)]; exact hz
          have p7 : wr.cell? ⟨k, 7, none⟩ = some (.slice (some ⟨c, 0, none⟩) B B) := KA.out.kn.cell 7
          have pz : wr.cell? ⟨c, i, none⟩ = some (.int .i64 z) := KA.out.cell i z hcz
          have fz := KA.out.frozen i
          have pu : wr.cell? ⟨c2, o2 + i, none⟩ = some (.int .i64 u) := YA.out.cell i u hu
          have hS := KA.out.setC i hlt (z + u)
          have KB := Lib.hid hS.1
          have UB := Lib.hid (UA.out.trans (hS.2.mono (S' := fun q => q = k ∨ q = c) (fun _ _ e => .inr e)))
          have YB := Lib.hid (YA.out.upd hS.2 HKC.out (fun e => hcc e.symm))
          have HADD := Lib.hid (addL_at hz hu)
          have HCL : Hid (cur.length = B) := Lib.hid KA.out.len
          have dl : decide ((i : Int) < (B : Int)) = true := decide_eq_true (by omega)
          have di : decide ((i : Int) < 0) = false := decide_eq_false (by omega)
          have hzb2 : 0 ≤ z ∧ z ≤ 1000000 := by omega
          have hub2 : 0 ≤ u ∧ u ≤ 1000000 := by omega
          clear hcur hS hz hu hcz hzb hub
          go_wp2_with fail
          go_roundw
          case rel =>
            refine ⟨i + 1, cur.set i (z + u), by omega, by go_num, KB.out, fun j => ?_, YB.out, UB.out⟩
            have h1 := CA.out j
            by_cases hji : j = i
            · subst hji
              rw [List.getElem?_set_self (by rw [HCL.out]; exact hlt), if_pos (by omega), HADD.out]
            · rw [List.getElem?_set_ne (fun e => hji e.symm), h1]
              by_cases hj : j < i
              · rw [if_pos hj, if_pos (by omega)]
              · rw [if_neg hj, if_neg (by omega)]
          case measure => simp [intOf]; omega
        · have hie : i = B := by omega
          subst hie
          clear hcur
          go_wp2_with fail
          go_returns
          refine ⟨rfl, ?_, UA.out⟩
          have e : cur = addL cs ds := by
            apply List.ext_getElem?
            intro j
            rw [CA.out j]
            by_cases hj : j < i
            · rw [if_pos hj]
            · rw [if_neg hj, List.getElem?_eq_none (by rw [HLC.out]; omega), List.getElem?_eq_none (by rw [addL_len (by rw [HLC.out, HLD.out]), HLC.out]; omega)]
          rw [← e]
          exact KA.out
    · have d1 : (en == 0) = false := beq_eq_false_iff_ne.2 z2
      by_cases z3 : le2 < le
      · rw [if_pos ⟨z1, .inr z3⟩]
        have d3 : decide (le2 < le) = true := decide_eq_true z3
        clear z1
        go_wp2_with fail
        go_quiet (fail)
        have K1 : Hid (KnS (w.drewN nq) k c B t ⟨arr, en, lo, le, mo, su⟩ cs) := Lib.hid (K0.out.still ((Upd.refl _ w).drewN nq))
        have Y1 : Hid (CpS (w.drewN nq) k2 c2 o2 cap2 B t2 ⟨arr2, en2, lo2, le2, mo2, su2⟩ ds) := Lib.hid (Y0.out.still ((Upd.refl _ w).drewN nq))
        have U1 : Hid (Upd (fun q => q = k ∨ q = c) w (w.drewN nq)) := Lib.hid ((Upd.refl _ w).drewN nq)
        clear K0 Y0 q2 q4 p2 p4
        generalize w.drewN nq = w1 at *
        have q4 : w1.cell? ⟨k2, 4, none⟩ = some (.int .i64 le2) := Y1.out.kn.cell 4
        have p4 : w1.cell? ⟨k, 4, none⟩ = some (.int .i64 le) := K1.out.kn.cell 4
        have f4 : w1.frozen? ⟨k, 4, none⟩ = false := K1.out.kn.frozen 4
        have hK := K1.out.set_ 4 le2 ⟨arr, en, lo, le2, mo, su⟩ rfl
        have K2 := Lib.hid hK.1
        have U2 := Lib.hid (U1.out.trans (hK.2.mono (S' := fun q => q = k ∨ q = c) (fun _ _ e => .inl e)))
        have Y2 := Lib.hid (Y1.out.upd hK.2 (fun e => hkk e.symm) HCK.out)
        clear hK
        go_upto_region 2 with fail
        clear q4 p4 f4 K1 Y1 U1
        generalize w1.setCell ⟨k, 4, none⟩ (.int .i64 le2) = w2 at *
        have c5 : w2.cell? ⟨k, 5, none⟩ = some (.int .i64 mo) := K2.out.kn.cell 5
        have d5 : w2.cell? ⟨k2, 5, none⟩ = some (.int .i64 mo2) := Y2.out.kn.cell 5
        have f5 : w2.frozen? ⟨k, 5, none⟩ = false := K2.out.kn.frozen 5
        have hK := K2.out.set_ 5 (max mo mo2) ⟨arr, en, lo, le2, max mo mo2, su⟩ rfl
        have K3 := Lib.hid hK.1
        have U3 := Lib.hid (U2.out.trans (hK.2.mono (S' := fun q => q = k ∨ q = c) (fun _ _ e => .inl e)))
        have Y3 := Lib.hid (Y2.out.upd hK.2 (fun e => hkk e.symm) HCK.out)
        clear hK
        go_upto_region 2 with fail
        refine wp_region_treeF (.q 0 (.q 1 (.q 2 (.q 3 (.q 4 (.q 5 (.q 6 (.q 7 (.q 8 (.q 9 (.q 10 (.q 11 (.q 12 (.q 13 (.q 14 (.l 15 .d)))))))))))))))) (fun i => decide (i = 15)) (fun _ => false) (fun w' => w'.cell? ⟨k, 5, none⟩ = some (.int .i64 mo) ∧ w'.cell? ⟨k2, 5, none⟩ = some (.int .i64 mo2))
          (by kernel_rfl) (by kernel_rfl) (by kernel_rfl) (fun t ht => by have := of_decide_eq_true ht; subst this; decide) (fun _ _ _ _ _ h => h) (by kernel_rfl) rfl ⟨c5, d5⟩ ?_
        iterate 15
          (refine' wpOF_q (by rfl) (by rfl) (by rfl) (fun w' hS' => ?_) ?_
           rotate_left
           · obtain ⟨s5, r5⟩ := hS'
             go_simp
             try rfl)
          try simp only [Act.put, List.setIfInBounds_toArray, List.set_cons_zero, List.set_cons_succ]
        refine wpOF_l (by rfl) (by rfl) (fun KQ hKQ => ?_)
        go_simp
        refine hKQ _ _ (.inl (by rfl)) ?_
        clear hKQ KQ
        try simp only [Act.put, List.setIfInBounds_toArray, List.set_cons_zero, List.set_cons_succ]
        refine wpOF_d ?_
        clear c5 d5 f5
        have K4 : Hid (KnS (w2.setCell ⟨k, 5, none⟩ (.int .i64 (max mo mo2))).drew k c B t ⟨arr, en, lo, le2, max mo mo2, su⟩ cs) := Lib.hid (K3.out.still (Upd.refl _ _).drew)
        have Y4 : Hid (CpS (w2.setCell ⟨k, 5, none⟩ (.int .i64 (max mo mo2))).drew k2 c2 o2 cap2 B t2 ⟨arr2, en2, lo2, le2, mo2, su2⟩ ds) := Lib.hid (Y3.out.still (Upd.refl _ _).drew)
        have U4 : Hid (Upd (fun q => q = k ∨ q = c) w (w2.setCell ⟨k, 5, none⟩ (.int .i64 (max mo mo2))).drew) := Lib.hid U3.out.drew
        clear K3 Y3 U3 K2 Y2 U2
        go_upto_region 3 with fail
        generalize hw4 : (w2.setCell ⟨k, 5, none⟩ (.int .i64 (max mo mo2))).drew = w4 at *
        clear hw4
        have a1 : w4.cell? ⟨k, 1, none⟩ = some (.int .i64 arr) := K4.out.kn.cell 1
        have a2 : w4.cell? ⟨k, 2, none⟩ = some (.int .i64 en) := K4.out.kn.cell 2
        have a3 : w4.cell? ⟨k, 3, none⟩ = some (.int .i64 lo) := K4.out.kn.cell 3
        have a6 : w4.cell? ⟨k, 6, none⟩ = some (.int .i64 su) := K4.out.kn.cell 6
        have e1 : w4.cell? ⟨k2, 1, none⟩ = some (.int .i64 arr2) := Y4.out.kn.cell 1
        have e2 : w4.cell? ⟨k2, 2, none⟩ = some (.int .i64 en2) := Y4.out.kn.cell 2
        have e3 : w4.cell? ⟨k2, 3, none⟩ = some (.int .i64 lo2) := Y4.out.kn.cell 3
        have e6 : w4.cell? ⟨k2, 6, none⟩ = some (.int .i64 su2) := Y4.out.kn.cell 6
        refine wp_region_treeF (.q 0 (.q 1 (.q 2 (.q 3 (.q 4 (.q 5 (.q 6 (.q 7 (.q 8 (.q 9 (.q 10 (.q 11 (.q 12 (.q 13 (.q 14 (.q 15 (.q 16 (.q 17 (.q 18 (.q 19 (.q 20 (.q 21 (.q 22 (.q 23 (.q 24 (.q 25 (.q 26 (.q 27 (.q 28 (.q 29 (.q 30 (.q 31 (.q 32 (.q 33 (.q 34 (.q 35 (.q 36 (.q 37 (.q 38 (.q 39 (.q 40 (.q 41 (.q 42 (.q 43 (.q 44 (.q 45 (.q 46 (.q 47 (.q 48 (.q 49 (.q 50 (.l 51 (.q 52 (.q 53 (.q 54 (.l 55 (.q 56 (.q 57 (.q 58 (.l 59 (.q 60 (.q 61 (.q 62 (.l 63 .d)))))))))))))))))))))))))))))))))))))))))))))))))))))))))))))))) (fun i => decide (i = 51 ∨ i = 55 ∨ i = 59 ∨ i = 63)) (fun q => decide (q = 1 ∨ q = 2 ∨ q = 3 ∨ q = 25 ∨ q = 36 ∨ q = 47 ∨ 48 ≤ q)) (fun w' => w'.cell? ⟨k, 1, none⟩ = some (.int .i64 arr) ∧ w'.cell? ⟨k, 2, none⟩ = some (.int .i64 en) ∧ w'.cell? ⟨k, 3, none⟩ = some (.int .i64 lo) ∧ w'.cell? ⟨k, 6, none⟩ = some (.int .i64 su) ∧ w'.cell? ⟨k2, 1, none⟩ = some (.int .i64 arr2) ∧ w'.cell? ⟨k2, 2, none⟩ = some (.int .i64 en2) ∧ w'.cell? ⟨k2, 3, none⟩ = some (.int .i64 lo2) ∧ w'.cell? ⟨k2, 6, none⟩ = some (.int .i64 su2))
          (by kernel_rfl) (by kernel_rfl) (by kernel_rfl) (fun t ht => by rcases of_decide_eq_true ht with h | h | h | h <;> subst h <;> decide) (fun _ _ _ _ _ h => h) (by kernel_rfl) rfl ⟨a1, a2, a3, a6, e1, e2, e3, e6⟩ ?_
        clear a1 a2 a3 a6 e1 e2 e3 e6
        have K5 : Hid (KnS w4.drew k c B t ⟨arr, en, lo, le2, max mo mo2, su⟩ cs) := Lib.hid (K4.out.still (Upd.refl _ _).drew)
        have Y5 : Hid (CpS w4.drew k2 c2 o2 cap2 B t2 ⟨arr2, en2, lo2, le2, mo2, su2⟩ ds) := Lib.hid (Y4.out.still (Upd.refl _ _).drew)
        have U5 : Hid (Upd (fun q => q = k ∨ q = c) w w4.drew) := Lib.hid U4.out.drew
        clear K4 Y4 U4
        generalize w4.drew = w5 at *
        iterate 1
          (refine' wpOF_q (by rfl) (by rfl) (by rfl) (fun w' hS' => ?_) ?_
           rotate_left
           · obtain ⟨s1, s2, s3, s6, r1, r2, r3, r6⟩ := hS'
             go_simp
             try rfl)
          try simp only [Act.put, List.setIfInBounds_toArray, List.set_cons_zero, List.set_cons_succ]
        iterate 3
          (refine' wpOF_f (by rfl) (by rfl) (fun w' => ?_) ?_
           rotate_left
           · go_simp
             try rfl)
          try simp only [Act.put, List.setIfInBounds_toArray, List.set_cons_zero, List.set_cons_succ]
        iterate 21
          (refine' wpOF_q (by rfl) (by rfl) (by rfl) (fun w' hS' => ?_) ?_
           rotate_left
           · obtain ⟨s1, s2, s3, s6, r1, r2, r3, r6⟩ := hS'
             go_simp
             try rfl)
          try simp only [Act.put, List.setIfInBounds_toArray, List.set_cons_zero, List.set_cons_succ]
        iterate 1
          (refine' wpOF_f (by rfl) (by rfl) (fun w' => ?_) ?_
           rotate_left
           · go_simp
             try rfl)
          try simp only [Act.put, List.setIfInBounds_toArray, List.set_cons_zero, List.set_cons_succ]
        iterate 10
          (refine' wpOF_q (by rfl) (by rfl) (by rfl) (fun w' hS' => ?_) ?_
           rotate_left
           · obtain ⟨s1, s2, s3, s6, r1, r2, r3, r6⟩ := hS'
             go_simp
             try rfl)
          try simp only [Act.put, List.setIfInBounds_toArray, List.set_cons_zero, List.set_cons_succ]
        iterate 1
          (refine' wpOF_f (by rfl) (by rfl) (fun w' => ?_) ?_
           rotate_left
           · go_simp
             try rfl)
          try simp only [Act.put, List.setIfInBounds_toArray, List.set_cons_zero, List.set_cons_succ]
        iterate 10
          (refine' wpOF_q (by rfl) (by rfl) (by rfl) (fun w' hS' => ?_) ?_
           rotate_left
           · obtain ⟨s1, s2, s3, s6, r1, r2, r3, r6⟩ := hS'
             go_simp
             try rfl)
          try simp only [Act.put, List.setIfInBounds_toArray, List.set_cons_zero, List.set_cons_succ]
        iterate 4
          (refine' wpOF_f (by rfl) (by rfl) (fun w' => ?_) ?_
           rotate_left
           · go_simp
             try rfl)
          try simp only [Act.put, List.setIfInBounds_toArray, List.set_cons_zero, List.set_cons_succ]
        have b1 : w5.cell? ⟨k, 1, none⟩ = some (.int .i64 arr) := K5.out.kn.cell 1
        have g1 : w5.frozen? ⟨k, 1, none⟩ = false := K5.out.kn.frozen 1
        have hK := K5.out.set_ 1 (arr + arr2) ⟨arr + arr2, en, lo, le2, max mo mo2, su⟩ rfl
        have K6 := Lib.hid hK.1
        have U6 := Lib.hid (U5.out.trans (hK.2.mono (S' := fun q => q = k ∨ q = c) (fun _ _ e => .inl e)))
        have Y6 := Lib.hid (Y5.out.upd hK.2 (fun e => hkk e.symm) HCK.out)
        clear hK
        refine wpOF_l (by rfl) (by rfl) (fun KQ hKQ => ?_)
        go_simp
        refine hKQ _ _ (.inl (by rfl)) ?_
        clear hKQ KQ
        try simp only [Act.put, List.setIfInBounds_toArray, List.set_cons_zero, List.set_cons_succ]
        clear b1 g1 K5 U5 Y5
        generalize w5.setCell ⟨k, 1, none⟩ (.int .i64 (arr + arr2)) = w6 at *
        iterate 3
          (refine' wpOF_f (by rfl) (by rfl) (fun w' => ?_) ?_
           rotate_left
           · go_simp
             try rfl)
          try simp only [Act.put, List.setIfInBounds_toArray, List.set_cons_zero, List.set_cons_succ]
        have b2 : w6.cell? ⟨k, 2, none⟩ = some (.int .i64 en) := K6.out.kn.cell 2
        have g2 : w6.frozen? ⟨k, 2, none⟩ = false := K6.out.kn.frozen 2
        have hK := K6.out.set_ 2 (en + en2) ⟨arr + arr2, en + en2, lo, le2, max mo mo2, su⟩ rfl
        have K7 := Lib.hid hK.1
        have U7 := Lib.hid (U6.out.trans (hK.2.mono (S' := fun q => q = k ∨ q = c) (fun _ _ e => .inl e)))
        have Y7 := Lib.hid (Y6.out.upd hK.2 (fun e => hkk e.symm) HCK.out)
        clear hK
        refine wpOF_l (by rfl) (by rfl) (fun KQ hKQ => ?_)
        go_simp
        refine hKQ _ _ (.inl (by rfl)) ?_
        clear hKQ KQ
        try simp only [Act.put, List.setIfInBounds_toArray, List.set_cons_zero, List.set_cons_succ]
        clear b2 g2 K6 U6 Y6
        generalize w6.setCell ⟨k, 2, none⟩ (.int .i64 (en + en2)) = w7 at *
        iterate 3
          (refine' wpOF_f (by rfl) (by rfl) (fun w' => ?_) ?_
           rotate_left
           · go_simp
             try rfl)
          try simp only [Act.put, List.setIfInBounds_toArray, List.set_cons_zero, List.set_cons_succ]
        have b3 : w7.cell? ⟨k, 3, none⟩ = some (.int .i64 lo) := K7.out.kn.cell 3
        have g3 : w7.frozen? ⟨k, 3, none⟩ = false := K7.out.kn.frozen 3
        have hK := K7.out.set_ 3 (lo + lo2) ⟨arr + arr2, en + en2, lo + lo2, le2, max mo mo2, su⟩ rfl
        have K8 := Lib.hid hK.1
        have U8 := Lib.hid (U7.out.trans (hK.2.mono (S' := fun q => q = k ∨ q = c) (fun _ _ e => .inl e)))
        have Y8 := Lib.hid (Y7.out.upd hK.2 (fun e => hkk e.symm) HCK.out)
        clear hK
        refine wpOF_l (by rfl) (by rfl) (fun KQ hKQ => ?_)
        go_simp
        refine hKQ _ _ (.inl (by rfl)) ?_
        clear hKQ KQ
        try simp only [Act.put, List.setIfInBounds_toArray, List.set_cons_zero, List.set_cons_succ]
        clear b3 g3 K7 U7 Y7
        generalize w7.setCell ⟨k, 3, none⟩ (.int .i64 (lo + lo2)) = w8 at *
        iterate 3
          (refine' wpOF_f (by rfl) (by rfl) (fun w' => ?_) ?_
           rotate_left
           · go_simp
             try rfl)
          try simp only [Act.put, List.setIfInBounds_toArray, List.set_cons_zero, List.set_cons_succ]
        have b6 : w8.cell? ⟨k, 6, none⟩ = some (.int .i64 su) := K8.out.kn.cell 6
        have g6 : w8.frozen? ⟨k, 6, none⟩ = false := K8.out.kn.frozen 6
        have hK := K8.out.set_ 6 (su + su2) ⟨arr + arr2, en + en2, lo + lo2, le2, max mo mo2, su + su2⟩ rfl
        have K9 := Lib.hid hK.1
        have U9 := Lib.hid (U8.out.trans (hK.2.mono (S' := fun q => q = k ∨ q = c) (fun _ _ e => .inl e)))
        have Y9 := Lib.hid (Y8.out.upd hK.2 (fun e => hkk e.symm) HCK.out)
        clear hK
        refine wpOF_l (by rfl) (by rfl) (fun KQ hKQ => ?_)
        go_simp
        refine hKQ _ _ (.inl (by rfl)) ?_
        clear hKQ KQ
        try simp only [Act.put, List.setIfInBounds_toArray, List.set_cons_zero, List.set_cons_succ]
        clear b6 g6 K8 U8 Y8
        generalize w8.setCell ⟨k, 6, none⟩ (.int .i64 (su + su2)) = w9 at *
        refine wpOF_d ?_
        have y7 : w9.cell? ⟨k2, 7, none⟩ = some (.slice (some ⟨c2, o2, none⟩) B cap2) := Y9.out.kn.cell 7
        go_wp2_with fail
        go_loopw [4, 5, 122] (fun v4 v5 v122 wr => ∃ (i : Nat) (cur : List Int), i ≤ B ∧ v122 = .int .i64 i ∧ KnS wr k c B t ⟨arr + arr2, en + en2, lo + lo2, le2, max mo mo2, su + su2⟩ cur ∧ (∀ j, cur[j]? = if j < i then (addL cs ds)[j]? else cs[j]?) ∧ CpS wr k2 c2 o2 cap2 B t2 ⟨arr2, en2, lo2, le2, mo2, su2⟩ ds ∧ Upd (fun q => q = k ∨ q = c) w wr) (fun _ _ v122 _ => B - (intOf v122).toNat)
        case atStart => exact ⟨0, cs, Nat.zero_le _, rfl, K9.out, fun j => by rw [if_neg (by omega)], Y9.out, U9.out⟩
        case round =>
          obtain ⟨i, cur, hi, rfl, hK, hcur, hY, hU⟩ := hrel
          have KA := Lib.hid hK; have YA := Lib.hid hY; have UA := Lib.hid hU; have CA := Lib.hid hcur
          clear hK hY hU
          by_cases hlt : i < B
          · obtain ⟨z, hz⟩ : ∃ z, cs[i]? = some z := ⟨_, List.getElem?_eq_getElem (by rw [HLC.out]; exact hlt)⟩
            obtain ⟨u, hu⟩ : ∃ u, ds[i]? = some u := ⟨_, List.getElem?_eq_getElem (by rw [HLD.out]; exact hlt)⟩
            have hzb := HBC.out z (List.mem_of_getElem? hz)
            have hub := HBD.out u (List.mem_of_getElem? hu)
            have hcz : cur[i]? = some z := by rw [hcur i, if_neg (by omega)]; exact hz
            have p7 : wr.cell? ⟨k, 7, none⟩ = some (.slice (some ⟨c, 0, none⟩) B B) := KA.out.kn.cell 7
            have pz : wr.cell? ⟨c, i, none⟩ = some (.int .i64 z) := KA.out.cell i z hcz
            have fz := KA.out.frozen i
            have pu : wr.cell? ⟨c2, o2 + i, none⟩ = some (.int .i64 u) := YA.out.cell i u hu
            have hS := KA.out.setC i hlt (z + u)
            have KB := Lib.hid hS.1
            have UB := Lib.hid (UA.out.trans (hS.2.mono (S' := fun q => q = k ∨ q = c) (fun _ _ e => .inr e)))
            have YB := Lib.hid (YA.out.upd hS.2 HKC.out (fun e => hcc e.symm))
            have HADD := Lib.hid (addL_at hz hu)
            have HCL : Hid (cur.length = B) := Lib.hid KA.out.len
            have dl : decide ((i : Int) < (B : Int)) = true := decide_eq_true (by omega)
            have di : decide ((i : Int) < 0) = false := decide_eq_false (by omega)
            have hzb2 : 0 ≤ z ∧ z ≤ 1000000 := by omega
            have hub2 : 0 ≤ u ∧ u ≤ 1000000 := by omega
            clear hcur hS hz hu hcz hzb hub
            go_wp2_with fail
            go_roundw
            case rel =>
              refine ⟨i + 1, cur.set i (z + u), by omega, by go_num, KB.out, fun j => ?_, YB.out, UB.out⟩
              have h1 := CA.out j
              by_cases hji : j = i
              · subst hji
                rw [List.getElem?_set_self (by rw [HCL.out]; exact hlt), if_pos (by omega), HADD.out]
              · rw [List.getElem?_set_ne (fun e => hji e.symm), h1]
                by_cases hj : j < i
                · rw [if_pos hj, if_pos (by omega)]
                · rw [if_neg hj, if_neg (by omega)]
            case measure => simp [intOf]; omega
          · have hie : i = B := by omega
            subst hie
            clear hcur
            go_wp2_with fail
            go_returns
            refine ⟨rfl, ?_, UA.out⟩
            have e : cur = addL cs ds := by
              apply List.ext_getElem?
              intro j
              rw [CA.out j]
              by_cases hj : j < i
              · rw [if_pos hj]
              · rw [if_neg hj, List.getElem?_eq_none (by rw [HLC.out]; omega), List.getElem?_eq_none (by rw [addL_len (by rw [HLC.out, HLD.out]), HLC.out]; omega)]
            rw [← e]
            exact KA.out
      · rw [if_neg (fun h => h.2.elim z2 z3)]
        have d3 : decide (le2 < le) = false := decide_eq_false z3
        clear z1
        go_wp2_with fail
        go_quiet (fail)
        have K2 : Hid (KnS (w.drewN nq) k c B t ⟨arr, en, lo, le, mo, su⟩ cs) := Lib.hid (K0.out.still ((Upd.refl _ w).drewN nq))
        have Y2 : Hid (CpS (w.drewN nq) k2 c2 o2 cap2 B t2 ⟨arr2, en2, lo2, le2, mo2, su2⟩ ds) := Lib.hid (Y0.out.still ((Upd.refl _ w).drewN nq))
        have U2 : Hid (Upd (fun q => q = k ∨ q = c) w (w.drewN nq)) := Lib.hid ((Upd.refl _ w).drewN nq)
        clear K0 Y0 q2 q4 p2 p4
        generalize w.drewN nq = w2 at *
        have c5 : w2.cell? ⟨k, 5, none⟩ = some (.int .i64 mo) := K2.out.kn.cell 5
        have d5 : w2.cell? ⟨k2, 5, none⟩ = some (.int .i64 mo2) := Y2.out.kn.cell 5
        have f5 : w2.frozen? ⟨k, 5, none⟩ = false := K2.out.kn.frozen 5
        have hK := K2.out.set_ 5 (max mo mo2) ⟨arr, en, lo, le, max mo mo2, su⟩ rfl
        have K3 := Lib.hid hK.1
        have U3 := Lib.hid (U2.out.trans (hK.2.mono (S' := fun q => q = k ∨ q = c) (fun _ _ e => .inl e)))
        have Y3 := Lib.hid (Y2.out.upd hK.2 (fun e => hkk e.symm) HCK.out)
        clear hK
        go_upto_region 2 with fail
        refine wp_region_treeF (.q 0 (.q 1 (.q 2 (.q 3 (.q 4 (.q 5 (.q 6 (.q 7 (.q 8 (.q 9 (.q 10 (.q 11 (.q 12 (.q 13 (.q 14 (.l 15 .d)))))))))))))))) (fun i => decide (i = 15)) (fun _ => false) (fun w' => w'.cell? ⟨k, 5, none⟩ = some (.int .i64 mo) ∧ w'.cell? ⟨k2, 5, none⟩ = some (.int .i64 mo2))
          (by kernel_rfl) (by kernel_rfl) (by kernel_rfl) (fun t ht => by have := of_decide_eq_true ht; subst this; decide) (fun _ _ _ _ _ h => h) (by kernel_rfl) rfl ⟨c5, d5⟩ ?_
        iterate 15
          (refine' wpOF_q (by rfl) (by rfl) (by rfl) (fun w' hS' => ?_) ?_
           rotate_left
           · obtain ⟨s5, r5⟩ := hS'
             go_simp
             try rfl)
          try simp only [Act.put, List.setIfInBounds_toArray, List.set_cons_zero, List.set_cons_succ]
        refine wpOF_l (by rfl) (by rfl) (fun KQ hKQ => ?_)
        go_simp
        refine hKQ _ _ (.inl (by rfl)) ?_
        clear hKQ KQ
        try simp only [Act.put, List.setIfInBounds_toArray, List.set_cons_zero, List.set_cons_succ]
        refine wpOF_d ?_
        clear c5 d5 f5
        have K4 : Hid (KnS (w2.setCell ⟨k, 5, none⟩ (.int .i64 (max mo mo2))).drew k c B t ⟨arr, en, lo, le, max mo mo2, su⟩ cs) := Lib.hid (K3.out.still (Upd.refl _ _).drew)
        have Y4 : Hid (CpS (w2.setCell ⟨k, 5, none⟩ (.int .i64 (max mo mo2))).drew k2 c2 o2 cap2 B t2 ⟨arr2, en2, lo2, le2, mo2, su2⟩ ds) := Lib.hid (Y3.out.still (Upd.refl _ _).drew)
        have U4 : Hid (Upd (fun q => q = k ∨ q = c) w (w2.setCell ⟨k, 5, none⟩ (.int .i64 (max mo mo2))).drew) := Lib.hid U3.out.drew
        clear K3 Y3 U3 K2 Y2 U2
        go_upto_region 3 with fail
        generalize hw4 : (w2.setCell ⟨k, 5, none⟩ (.int .i64 (max mo mo2))).drew = w4 at *
        clear hw4
        have a1 : w4.cell? ⟨k, 1, none⟩ = some (.int .i64 arr) := K4.out.kn.cell 1
        have a2 : w4.cell? ⟨k, 2, none⟩ = some (.int .i64 en) := K4.out.kn.cell 2
        have a3 : w4.cell? ⟨k, 3, none⟩ = some (.int .i64 lo) := K4.out.kn.cell 3
        have a6 : w4.cell? ⟨k, 6, none⟩ = some (.int .i64 su) := K4.out.kn.cell 6
        have e1 : w4.cell? ⟨k2, 1, none⟩ = some (.int .i64 arr2) := Y4.out.kn.cell 1
        have e2 : w4.cell? ⟨k2, 2, none⟩ = some (.int .i64 en2) := Y4.out.kn.cell 2
        have e3 : w4.cell? ⟨k2, 3, none⟩ = some (.int .i64 lo2) := Y4.out.kn.cell 3
        have e6 : w4.cell? ⟨k2, 6, none⟩ = some (.int .i64 su2) := Y4.out.kn.cell 6
        refine wp_region_treeF (.q 0 (.q 1 (.q 2 (.q 3 (.q 4 (.q 5 (.q 6 (.q 7 (.q 8 (.q 9 (.q 10 (.q 11 (.q 12 (.q 13 (.q 14 (.q 15 (.q 16 (.q 17 (.q 18 (.q 19 (.q 20 (.q 21 (.q 22 (.q 23 (.q 24 (.q 25 (.q 26 (.q 27 (.q 28 (.q 29 (.q 30 (.q 31 (.q 32 (.q 33 (.q 34 (.q 35 (.q 36 (.q 37 (.q 38 (.q 39 (.q 40 (.q 41 (.q 42 (.q 43 (.q 44 (.q 45 (.q 46 (.q 47 (.q 48 (.q 49 (.q 50 (.l 51 (.q 52 (.q 53 (.q 54 (.l 55 (.q 56 (.q 57 (.q 58 (.l 59 (.q 60 (.q 61 (.q 62 (.l 63 .d)))))))))))))))))))))))))))))))))))))))))))))))))))))))))))))))) (fun i => decide (i = 51 ∨ i = 55 ∨ i = 59 ∨ i = 63)) (fun q => decide (q = 1 ∨ q = 2 ∨ q = 3 ∨ q = 25 ∨ q = 36 ∨ q = 47 ∨ 48 ≤ q)) (fun w' => w'.cell? ⟨k, 1, none⟩ = some (.int .i64 arr) ∧ w'.cell? ⟨k, 2, none⟩ = some (.int .i64 en) ∧ w'.cell? ⟨k, 3, none⟩ = some (.int .i64 lo) ∧ w'.cell? ⟨k, 6, none⟩ = some (.int .i64 su) ∧ w'.cell? ⟨k2, 1, none⟩ = some (.int .i64 arr2) ∧ w'.cell? ⟨k2, 2, none⟩ = some (.int .i64 en2) ∧ w'.cell? ⟨k2, 3, none⟩ = some (.int .i64 lo2) ∧ w'.cell? ⟨k2, 6, none⟩ = some (.int .i64 su2))
          (by kernel_rfl) (by kernel_rfl) (by kernel_rfl) (fun t ht => by rcases of_decide_eq_true ht with h | h | h | h <;> subst h <;> decide) (fun _ _ _ _ _ h => h) (by kernel_rfl) rfl ⟨a1, a2, a3, a6, e1, e2, e3, e6⟩ ?_
        clear a1 a2 a3 a6 e1 e2 e3 e6
        have K5 : Hid (KnS w4.drew k c B t ⟨arr, en, lo, le, max mo mo2, su⟩ cs) := Lib.hid (K4.out.still (Upd.refl _ _).drew)
        have Y5 : Hid (CpS w4.drew k2 c2 o2 cap2 B t2 ⟨arr2, en2, lo2, le2, mo2, su2⟩ ds) := Lib.hid (Y4.out.still (Upd.refl _ _).drew)
        have U5 : Hid (Upd (fun q => q = k ∨ q = c) w w4.drew) := Lib.hid U4.out.drew
        clear K4 Y4 U4
        generalize w4.drew = w5 at *
        iterate 1
          (refine' wpOF_q (by rfl) (by rfl) (by rfl) (fun w' hS' => ?_) ?_
           rotate_left
           · obtain ⟨s1, s2, s3, s6, r1, r2, r3, r6⟩ := hS'
             go_simp
             try rfl)
          try simp only [Act.put, List.setIfInBounds_toArray, List.set_cons_zero, List.set_cons_succ]
        iterate 3
          (refine' wpOF_f (by rfl) (by rfl) (fun w' => ?_) ?_
           rotate_left
           · go_simp
             try rfl)
          try simp only [Act.put, List.setIfInBounds_toArray, List.set_cons_zero, List.set_cons_succ]
        iterate 21
          (refine' wpOF_q (by rfl) (by rfl) (by rfl) (fun w' hS' => ?_) ?_
           rotate_left
           · obtain ⟨s1, s2, s3, s6, r1, r2, r3, r6⟩ := hS'
             go_simp
             try rfl)
          try simp only [Act.put, List.setIfInBounds_toArray, List.set_cons_zero, List.set_cons_succ]
        iterate 1
          (refine' wpOF_f (by rfl) (by rfl) (fun w' => ?_) ?_
           rotate_left
           · go_simp
             try rfl)
          try simp only [Act.put, List.setIfInBounds_toArray, List.set_cons_zero, List.set_cons_succ]
        iterate 10
          (refine' wpOF_q (by rfl) (by rfl) (by rfl) (fun w' hS' => ?_) ?_
           rotate_left
           · obtain ⟨s1, s2, s3, s6, r1, r2, r3, r6⟩ := hS'
             go_simp
             try rfl)
          try simp only [Act.put, List.setIfInBounds_toArray, List.set_cons_zero, List.set_cons_succ]
        iterate 1
          (refine' wpOF_f (by rfl) (by rfl) (fun w' => ?_) ?_
           rotate_left
           · go_simp
             try rfl)
          try simp only [Act.put, List.setIfInBounds_toArray, List.set_cons_zero, List.set_cons_succ]
        iterate 10
          (refine' wpOF_q (by rfl) (by rfl) (by rfl) (fun w' hS' => ?_) ?_
           rotate_left
           · obtain ⟨s1, s2, s3, s6, r1, r2, r3, r6⟩ := hS'
             go_simp
             try rfl)
          try simp only [Act.put, List.setIfInBounds_toArray, List.set_cons_zero, List.set_cons_succ]
        iterate 4
          (refine' wpOF_f (by rfl) (by rfl) (fun w' => ?_) ?_
           rotate_left
           · go_simp
             try rfl)
          try simp only [Act.put, List.setIfInBounds_toArray, List.set_cons_zero, List.set_cons_succ]
        have b1 : w5.cell? ⟨k, 1, none⟩ = some (.int .i64 arr) := K5.out.kn.cell 1
        have g1 : w5.frozen? ⟨k, 1, none⟩ = false := K5.out.kn.frozen 1
        have hK := K5.out.set_ 1 (arr + arr2) ⟨arr + arr2, en, lo, le, max mo mo2, su⟩ rfl
        have K6 := Lib.hid hK.1
        have U6 := Lib.hid (U5.out.trans (hK.2.mono (S' := fun q => q = k ∨ q = c) (fun _ _ e => .inl e)))
        have Y6 := Lib.hid (Y5.out.upd hK.2 (fun e => hkk e.symm) HCK.out)
        clear hK
        refine wpOF_l (by rfl) (by rfl) (fun KQ hKQ => ?_)
        go_simp
        refine hKQ _ _ (.inl (by rfl)) ?_
        clear hKQ KQ
        try simp only [Act.put, List.setIfInBounds_toArray, List.set_cons_zero, List.set_cons_succ]
        clear b1 g1 K5 U5 Y5
        generalize w5.setCell ⟨k, 1, none⟩ (.int .i64 (arr + arr2)) = w6 at *
        iterate 3
          (refine' wpOF_f (by rfl) (by rfl) (fun w' => ?_) ?_
           rotate_left
           · go_simp
             try rfl)
          try simp only [Act.put, List.setIfInBounds_toArray, List.set_cons_zero, List.set_cons_succ]
        have b2 : w6.cell? ⟨k, 2, none⟩ = some (.int .i64 en) := K6.out.kn.cell 2
        have g2 : w6.frozen? ⟨k, 2, none⟩ = false := K6.out.kn.frozen 2
        have hK := K6.out.set_ 2 (en + en2) ⟨arr + arr2, en + en2, lo, le, max mo mo2, su⟩ rfl
        have K7 := Lib.hid hK.1
        have U7 := Lib.hid (U6.out.trans (hK.2.mono (S' := fun q => q = k ∨ q = c) (fun _ _ e => .inl e)))
        have Y7 := Lib.hid (Y6.out.upd hK.2 (fun e => hkk e.symm) HCK.out)
        clear hK
        refine wpOF_l (by rfl) (by rfl) (fun KQ hKQ => ?_)
        go_simp
        refine hKQ _ _ (.inl (by rfl)) ?_
        clear hKQ KQ
        try simp only [Act.put, List.setIfInBounds_toArray, List.set_cons_zero, List.set_cons_succ]
        clear b2 g2 K6 U6 Y6
        generalize w6.setCell ⟨k, 2, none⟩ (.int .i64 (en + en2)) = w7 at *
        iterate 3
          (refine' wpOF_f (by rfl) (by rfl) (fun w' => ?_) ?_
           rotate_left
           · go_simp
             try rfl)
          try simp only [Act.put, List.setIfInBounds_toArray, List.set_cons_zero, List.set_cons_succ]
        have b3 : w7.cell? ⟨k, 3, none⟩ = some (.int .i64 lo) := K7.out.kn.cell 3
        have g3 : w7.frozen? ⟨k, 3, none⟩ = false := K7.out.kn.frozen 3
        have hK := K7.out.set_ 3 (lo + lo2) ⟨arr + arr2, en + en2, lo + lo2, le, max mo mo2, su⟩ rfl
        have K8 := Lib.hid hK.1
        have U8 := Lib.hid (U7.out.trans (hK.2.mono (S' := fun q => q = k ∨ q = c) (fun _ _ e => .inl e)))
        have Y8 := Lib.hid (Y7.out.upd hK.2 (fun e => hkk e.symm) HCK.out)
        clear hK
        refine wpOF_l (by rfl) (by rfl) (fun KQ hKQ => ?_)
        go_simp
        refine hKQ _ _ (.inl (by rfl)) ?_
        clear hKQ KQ
        try simp only [Act.put, List.setIfInBounds_toArray, List.set_cons_zero, List.set_cons_succ]
        clear b3 g3 K7 U7 Y7
        generalize w7.setCell ⟨k, 3, none⟩ (.int .i64 (lo + lo2)) = w8 at *
        iterate 3
          (refine' wpOF_f (by rfl) (by rfl) (fun w' => ?_) ?_
           rotate_left
           · go_simp
             try rfl)
          try simp only [Act.put, List.setIfInBounds_toArray, List.set_cons_zero, List.set_cons_succ]
        have b6 : w8.cell? ⟨k, 6, none⟩ = some (.int .i64 su) := K8.out.kn.cell 6
        have g6 : w8.frozen? ⟨k, 6, none⟩ = false := K8.out.kn.frozen 6
        have hK := K8.out.set_ 6 (su + su2) ⟨arr + arr2, en + en2, lo + lo2, le, max mo mo2, su + su2⟩ rfl
        have K9 := Lib.hid hK.1
        have U9 := Lib.hid (U8.out.trans (hK.2.mono (S' := fun q => q = k ∨ q = c) (fun _ _ e => .inl e)))
        have Y9 := Lib.hid (Y8.out.upd hK.2 (fun e => hkk e.symm) HCK.out)
        clear hK
        refine wpOF_l (by rfl) (by rfl) (fun KQ hKQ => ?_)
        go_simp
        refine hKQ _ _ (.inl (by rfl)) ?_
        clear hKQ KQ
        try simp only [Act.put, List.setIfInBounds_toArray, List.set_cons_zero, List.set_cons_succ]
        clear b6 g6 K8 U8 Y8
        generalize w8.setCell ⟨k, 6, none⟩ (.int .i64 (su + su2)) = w9 at *
        refine wpOF_d ?_
        have y7 : w9.cell? ⟨k2, 7, none⟩ = some (.slice (some ⟨c2, o2, none⟩) B cap2) := Y9.out.kn.cell 7
        go_wp2_with fail
        go_loopw [4, 5, 122] (fun v4 v5 v122 wr => ∃ (i : Nat) (cur : List Int), i ≤ B ∧ v122 = .int .i64 i ∧ KnS wr k c B t ⟨arr + arr2, en + en2, lo + lo2, le, max mo mo2, su + su2⟩ cur ∧ (∀ j, cur[j]? = if j < i then (addL cs ds)[j]? else cs[j]?) ∧ CpS wr k2 c2 o2 cap2 B t2 ⟨arr2, en2, lo2, le2, mo2, su2⟩ ds ∧ Upd (fun q => q = k ∨ q = c) w wr) (fun _ _ v122 _ => B - (intOf v122).toNat)
        case atStart => exact ⟨0, cs, Nat.zero_le _, rfl, K9.out, fun j => by rw [if_neg (by omega)], Y9.out, U9.out⟩
        case round =>
          obtain ⟨i, cur, hi, rfl, hK, hcur, hY, hU⟩ := hrel
          have KA := Lib.hid hK; have YA := Lib.hid hY; have UA := Lib.hid hU; have CA := Lib.hid hcur
          clear hK hY hU
          by_cases hlt : i < B
          · obtain ⟨z, hz⟩ : ∃ z, cs[i]? = some z := ⟨_, List.getElem?_eq_getElem (by rw [HLC.out]; exact hlt)⟩
            obtain ⟨u, hu⟩ : ∃ u, ds[i]? = some u := ⟨_, List.getElem?_eq_getElem (by rw [HLD.out]; exact hlt)⟩
            have hzb := HBC.out z (List.mem_of_getElem? hz)
            have hub := HBD.out u (List.mem_of_getElem? hu)
            have hcz : cur[i]? = some z := by rw [hcur i, if_neg (by omega)]; exact hz
            have p7 : wr.cell? ⟨k, 7, none⟩ = some (.slice (some ⟨c, 0, none⟩) B B) := KA.out.kn.cell 7
            have pz : wr.cell? ⟨c, i, none⟩ = some (.int .i64 z) := KA.out.cell i z hcz
            have fz := KA.out.frozen i
            have pu : wr.cell? ⟨c2, o2 + i, none⟩ = some (.int .i64 u) := YA.out.cell i u hu
            have hS := KA.out.setC i hlt (z + u)
            have KB := Lib.hid hS.1
            have UB := Lib.hid (UA.out.trans (hS.2.mono (S' := fun q => q = k ∨ q = c) (fun _ _ e => .inr e)))
            have YB := Lib.hid (YA.out.upd hS.2 HKC.out (fun e => hcc e.symm))
            have HADD := Lib.hid (addL_at hz hu)
            have HCL : Hid (cur.length = B) := Lib.hid KA.out.len
            have dl : decide ((i : Int) < (B : Int)) = true := decide_eq_true (by omega)
            have di : decide ((i : Int) < 0) = false := decide_eq_false (by omega)
            have hzb2 : 0 ≤ z ∧ z ≤ 1000000 := by omega
            have hub2 : 0 ≤ u ∧ u ≤ 1000000 := by omega
            clear hcur hS hz hu hcz hzb hub
            go_wp2_with fail
            go_roundw
            case rel =>
              refine ⟨i + 1, cur.set i (z + u), by omega, by go_num, KB.out, fun j => ?_, YB.out, UB.out⟩
              have h1 := CA.out j
              by_cases hji : j = i
              · subst hji
                rw [List.getElem?_set_self (by rw [HCL.out]; exact hlt), if_pos (by omega), HADD.out]
              · rw [List.getElem?_set_ne (fun e => hji e.symm), h1]
                by_cases hj : j < i
                · rw [if_pos hj, if_pos (by omega)]
                · rw [if_neg hj, if_neg (by omega)]
            case measure => simp [intOf]; omega
          · have hie : i = B := by omega
            subst hie
            clear hcur
            go_wp2_with fail
            go_returns
            refine ⟨rfl, ?_, UA.out⟩
            have e : cur = addL cs ds := by
              apply List.ext_getElem?
              intro j
              rw [CA.out j]
              by_cases hj : j < i
              · rw [if_pos hj]
              · rw [if_neg hj, List.getElem?_eq_none (by rw [HLC.out]; omega), List.getElem?_eq_none (by rw [addL_len (by rw [HLC.out, HLD.out]), HLC.out]; omega)]
            rw [← e]
            exact KA.out
  · have dz : decide (0 < en2) = false := decide_eq_false z1
    rw [if_neg (fun h => z1 h.1)]
    clear z1
    go_wp2_with fail
    go_quiet (fail)
    have K2 : Hid (KnS (w.drewN nq) k c B t ⟨arr, en, lo, le, mo, su⟩ cs) := Lib.hid (K0.out.still ((Upd.refl _ w).drewN nq))
    have Y2 : Hid (CpS (w.drewN nq) k2 c2 o2 cap2 B t2 ⟨arr2, en2, lo2, le2, mo2, su2⟩ ds) := Lib.hid (Y0.out.still ((Upd.refl _ w).drewN nq))
    have U2 : Hid (Upd (fun q => q = k ∨ q = c) w (w.drewN nq)) := Lib.hid ((Upd.refl _ w).drewN nq)
    clear K0 Y0 q2 q4 p2 p4
    generalize w.drewN nq = w2 at *
    have c5 : w2.cell? ⟨k, 5, none⟩ = some (.int .i64 mo) := K2.out.kn.cell 5
    have d5 : w2.cell? ⟨k2, 5, none⟩ = some (.int .i64 mo2) := Y2.out.kn.cell 5
    have f5 : w2.frozen? ⟨k, 5, none⟩ = false := K2.out.kn.frozen 5
    have hK := K2.out.set_ 5 (max mo mo2) ⟨arr, en, lo, le, max mo mo2, su⟩ rfl
    have K3 := Lib.hid hK.1
    have U3 := Lib.hid (U2.out.trans (hK.2.mono (S' := fun q => q = k ∨ q = c) (fun _ _ e => .inl e)))
    have Y3 := Lib.hid (Y2.out.upd hK.2 (fun e => hkk e.symm) HCK.out)
    clear hK
    go_upto_region 2 with fail
    refine wp_region_treeF (.q 0 (.q 1 (.q 2 (.q 3 (.q 4 (.q 5 (.q 6 (.q 7 (.q 8 (.q 9 (.q 10 (.q 11 (.q 12 (.q 13 (.q 14 (.l 15 .d)))))))))))))))) (fun i => decide (i = 15)) (fun _ => false) (fun w' => w'.cell? ⟨k, 5, none⟩ = some (.int .i64 mo) ∧ w'.cell? ⟨k2, 5, none⟩ = some (.int .i64 mo2))
      (by kernel_rfl) (by kernel_rfl) (by kernel_rfl) (fun t ht => by have := of_decide_eq_true ht; subst this; decide) (fun _ _ _ _ _ h => h) (by kernel_rfl) rfl ⟨c5, d5⟩ ?_
    iterate 15
      (refine' wpOF_q (by rfl) (by rfl) (by rfl) (fun w' hS' => ?_) ?_
       rotate_left
       · obtain ⟨s5, r5⟩ := hS'
         go_simp
         try rfl)
      try simp only [Act.put, List.setIfInBounds_toArray, List.set_cons_zero, List.set_cons_succ]
    refine wpOF_l (by rfl) (by rfl) (fun KQ hKQ => ?_)
    go_simp
    refine hKQ _ _ (.inl (by rfl)) ?_
    clear hKQ KQ
    try simp only [Act.put, List.setIfInBounds_toArray, List.set_cons_zero, List.set_cons_succ]
    refine wpOF_d ?_
    clear c5 d5 f5
    have K4 : Hid (KnS (w2.setCell ⟨k, 5, none⟩ (.int .i64 (max mo mo2))).drew k c B t ⟨arr, en, lo, le, max mo mo2, su⟩ cs) := Lib.hid (K3.out.still (Upd.refl _ _).drew)
    have Y4 : Hid (CpS (w2.setCell ⟨k, 5, none⟩ (.int .i64 (max mo mo2))).drew k2 c2 o2 cap2 B t2 ⟨arr2, en2, lo2, le2, mo2, su2⟩ ds) := Lib.hid (Y3.out.still (Upd.refl _ _).drew)
    have U4 : Hid (Upd (fun q => q = k ∨ q = c) w (w2.setCell ⟨k, 5, none⟩ (.int .i64 (max mo mo2))).drew) := Lib.hid U3.out.drew
    clear K3 Y3 U3 K2 Y2 U2
    go_upto_region 3 with fail
    generalize hw4 : (w2.setCell ⟨k, 5, none⟩ (.int .i64 (max mo mo2))).drew = w4 at *
    clear hw4
    have a1 : w4.cell? ⟨k, 1, none⟩ = some (.int .i64 arr) := K4.out.kn.cell 1
    have a2 : w4.cell? ⟨k, 2, none⟩ = some (.int .i64 en) := K4.out.kn.cell 2
    have a3 : w4.cell? ⟨k, 3, none⟩ = some (.int .i64 lo) := K4.out.kn.cell 3
    have a6 : w4.cell? ⟨k, 6, none⟩ = some (.int .i64 su) := K4.out.kn.cell 6
    have e1 : w4.cell? ⟨k2, 1, none⟩ = some (.int .i64 arr2) := Y4.out.kn.cell 1
    have e2 : w4.cell? ⟨k2, 2, none⟩ = some (.int .i64 en2) := Y4.out.kn.cell 2
    have e3 : w4.cell? ⟨k2, 3, none⟩ = some (.int .i64 lo2) := Y4.out.kn.cell 3
    have e6 : w4.cell? ⟨k2, 6, none⟩ = some (.int .i64 su2) := Y4.out.kn.cell 6
    refine wp_region_treeF (.q 0 (.q 1 (.q 2 (.q 3 (.q 4 (.q 5 (.q 6 (.q 7 (.q 8 (.q 9 (.q 10 (.q 11 (.q 12 (.q 13 (.q 14 (.q 15 (.q 16 (.q 17 (.q 18 (.q 19 (.q 20 (.q 21 (.q 22 (.q 23 (.q 24 (.q 25 (.q 26 (.q 27 (.q 28 (.q 29 (.q 30 (.q 31 (.q 32 (.q 33 (.q 34 (.q 35 (.q 36 (.q 37 (.q 38 (.q 39 (.q 40 (.q 41 (.q 42 (.q 43 (.q 44 (.q 45 (.q 46 (.q 47 (.q 48 (.q 49 (.q 50 (.l 51 (.q 52 (.q 53 (.q 54 (.l 55 (.q 56 (.q 57 (.q 58 (.l 59 (.q 60 (.q 61 (.q 62 (.l 63 .d)))))))))))))))))))))))))))))))))))))))))))))))))))))))))))))))) (fun i => decide (i = 51 ∨ i = 55 ∨ i = 59 ∨ i = 63)) (fun q => decide (q = 1 ∨ q = 2 ∨ q = 3 ∨ q = 25 ∨ q = 36 ∨ q = 47 ∨ 48 ≤ q)) (fun w' => w'.cell? ⟨k, 1, none⟩ = some (.int .i64 arr) ∧ w'.cell? ⟨k, 2, none⟩ = some (.int .i64 en) ∧ w'.cell? ⟨k, 3, none⟩ = some (.int .i64 lo) ∧ w'.cell? ⟨k, 6, none⟩ = some (.int .i64 su) ∧ w'.cell? ⟨k2, 1, none⟩ = some (.int .i64 arr2) ∧ w'.cell? ⟨k2, 2, none⟩ = some (.int .i64 en2) ∧ w'.cell? ⟨k2, 3, none⟩ = some (.int .i64 lo2) ∧ w'.cell? ⟨k2, 6, none⟩ = some (.int .i64 su2))
      (by kernel_rfl) (by kernel_rfl) (by kernel_rfl) (fun t ht => by rcases of_decide_eq_true ht with h | h | h | h <;> subst h <;> decide) (fun _ _ _ _ _ h => h) (by kernel_rfl) rfl ⟨a1, a2, a3, a6, e1, e2, e3, e6⟩ ?_
    clear a1 a2 a3 a6 e1 e2 e3 e6
    have K5 : Hid (KnS w4.drew k c B t ⟨arr, en, lo, le, max mo mo2, su⟩ cs) := Lib.hid (K4.out.still (Upd.refl _ _).drew)
    have Y5 : Hid (CpS w4.drew k2 c2 o2 cap2 B t2 ⟨arr2, en2, lo2, le2, mo2, su2⟩ ds) := Lib.hid (Y4.out.still (Upd.refl _ _).drew)
    have U5 : Hid (Upd (fun q => q = k ∨ q = c) w w4.drew) := Lib.hid U4.out.drew
    clear K4 Y4 U4
    generalize w4.drew = w5 at *
    iterate 1
      (refine' wpOF_q (by rfl) (by rfl) (by rfl) (fun w' hS' => ?_) ?_
       rotate_left
       · obtain ⟨s1, s2, s3, s6, r1, r2, r3, r6⟩ := hS'
         go_simp
         try rfl)
      try simp only [Act.put, List.setIfInBounds_toArray, List.set_cons_zero, List.set_cons_succ]
    iterate 3
      (refine' wpOF_f (by rfl) (by rfl) (fun w' => ?_) ?_
       rotate_left
       · go_simp
         try rfl)
      try simp only [Act.put, List.setIfInBounds_toArray, List.set_cons_zero, List.set_cons_succ]
    iterate 21
      (refine' wpOF_q (by rfl) (by rfl) (by rfl) (fun w' hS' => ?_) ?_
       rotate_left
       · obtain ⟨s1, s2, s3, s6, r1, r2, r3, r6⟩ := hS'
         go_simp
         try rfl)
      try simp only [Act.put, List.setIfInBounds_toArray, List.set_cons_zero, List.set_cons_succ]
    iterate 1
      (refine' wpOF_f (by rfl) (by rfl) (fun w' => ?_) ?_
       rotate_left
       · go_simp
         try rfl)
      try simp only [Act.put, List.setIfInBounds_toArray, List.set_cons_zero, List.set_cons_succ]
    iterate 10
      (refine' wpOF_q (by rfl) (by rfl) (by rfl) (fun w' hS' => ?_) ?_
       rotate_left
       · obtain ⟨s1, s2, s3, s6, r1, r2, r3, r6⟩ := hS'
         go_simp
         try rfl)
      try simp only [Act.put, List.setIfInBounds_toArray, List.set_cons_zero, List.set_cons_succ]
    iterate 1
      (refine' wpOF_f (by rfl) (by rfl) (fun w' => ?_) ?_
       rotate_left
       · go_simp
         try rfl)
      try simp only [Act.put, List.setIfInBounds_toArray, List.set_cons_zero, List.set_cons_succ]
    iterate 10
      (refine' wpOF_q (by rfl) (by rfl) (by rfl) (fun w' hS' => ?_) ?_
       rotate_left
       · obtain ⟨s1, s2, s3, s6, r1, r2, r3, r6⟩ := hS'
         go_simp
         try rfl)
      try simp only [Act.put, List.setIfInBounds_toArray, List.set_cons_zero, List.set_cons_succ]
    iterate 4
      (refine' wpOF_f (by rfl) (by rfl) (fun w' => ?_) ?_
       rotate_left
       · go_simp
         try rfl)
      try simp only [Act.put, List.setIfInBounds_toArray, List.set_cons_zero, List.set_cons_succ]
    have b1 : w5.cell? ⟨k, 1, none⟩ = some (.int .i64 arr) := K5.out.kn.cell 1
    have g1 : w5.frozen? ⟨k, 1, none⟩ = false := K5.out.kn.frozen 1
    have hK := K5.out.set_ 1 (arr + arr2) ⟨arr + arr2, en, lo, le, max mo mo2, su⟩ rfl
    have K6 := Lib.hid hK.1
    have U6 := Lib.hid (U5.out.trans (hK.2.mono (S' := fun q => q = k ∨ q = c) (fun _ _ e => .inl e)))
    have Y6 := Lib.hid (Y5.out.upd hK.2 (fun e => hkk e.symm) HCK.out)
    clear hK
    refine wpOF_l (by rfl) (by rfl) (fun KQ hKQ => ?_)
    go_simp
    refine hKQ _ _ (.inl (by rfl)) ?_
    clear hKQ KQ
    try simp only [Act.put, List.setIfInBounds_toArray, List.set_cons_zero, List.set_cons_succ]
    clear b1 g1 K5 U5 Y5
    generalize w5.setCell ⟨k, 1, none⟩ (.int .i64 (arr + arr2)) = w6 at *
    iterate 3
      (refine' wpOF_f (by rfl) (by rfl) (fun w' => ?_) ?_
       rotate_left
       · go_simp
         try rfl)
      try simp only [Act.put, List.setIfInBounds_toArray, List.set_cons_zero, List.set_cons_succ]
    have b2 : w6.cell? ⟨k, 2, none⟩ = some (.int .i64 en) := K6.out.kn.cell 2
    have g2 : w6.frozen? ⟨k, 2, none⟩ = false := K6.out.kn.frozen 2
    have hK := K6.out.set_ 2 (en + en2) ⟨arr + arr2, en + en2, lo, le, max mo mo2, su⟩ rfl
    have K7 := Lib.hid hK.1
    have U7 := Lib.hid (U6.out.trans (hK.2.mono (S' := fun q => q = k ∨ q = c) (fun _ _ e => .inl e)))
    have Y7 := Lib.hid (Y6.out.upd hK.2 (fun e => hkk e.symm) HCK.out)
    clear hK
    refine wpOF_l (by rfl) (by rfl) (fun KQ hKQ => ?_)
    go_simp
    refine hKQ _ _ (.inl (by rfl)) ?_
    clear hKQ KQ
    try simp only [Act.put, List.setIfInBounds_toArray, List.set_cons_zero, List.set_cons_succ]
    clear b2 g2 K6 U6 Y6
    generalize w6.setCell ⟨k, 2, none⟩ (.int .i64 (en + en2)) = w7 at *
    iterate 3
      (refine' wpOF_f (by rfl) (by rfl) (fun w' => ?_) ?_
       rotate_left
       · go_simp
         try rfl)
      try simp only [Act.put, List.setIfInBounds_toArray, List.set_cons_zero, List.set_cons_succ]
    have b3 : w7.cell? ⟨k, 3, none⟩ = some (.int .i64 lo) := K7.out.kn.cell 3
    have g3 : w7.frozen? ⟨k, 3, none⟩ = false := K7.out.kn.frozen 3
    have hK := K7.out.set_ 3 (lo + lo2) ⟨arr + arr2, en + en2, lo + lo2, le, max mo mo2, su⟩ rfl
    have K8 := Lib.hid hK.1
    have U8 := Lib.hid (U7.out.trans (hK.2.mono (S' := fun q => q = k ∨ q = c) (fun _ _ e => .inl e)))
    have Y8 := Lib.hid (Y7.out.upd hK.2 (fun e => hkk e.symm) HCK.out)
    clear hK
    refine wpOF_l (by rfl) (by rfl) (fun KQ hKQ => ?_)
    go_simp
    refine hKQ _ _ (.inl (by rfl)) ?_
    clear hKQ KQ
    try simp only [Act.put, List.setIfInBounds_toArray, List.set_cons_zero, List.set_cons_succ]
    clear b3 g3 K7 U7 Y7
    generalize w7.setCell ⟨k, 3, none⟩ (.int .i64 (lo + lo2)) = w8 at *
    iterate 3
      (refine' wpOF_f (by rfl) (by rfl) (fun w' => ?_) ?_
       rotate_left
       · go_simp
         try rfl)
      try simp only [Act.put, List.setIfInBounds_toArray, List.set_cons_zero, List.set_cons_succ]
    have b6 : w8.cell? ⟨k, 6, none⟩ = some (.int .i64 su) := K8.out.kn.cell 6
    have g6 : w8.frozen? ⟨k, 6, none⟩ = false := K8.out.kn.frozen 6
    have hK := K8.out.set_ 6 (su + su2) ⟨arr + arr2, en + en2, lo + lo2, le, max mo mo2, su + su2⟩ rfl
    have K9 := Lib.hid hK.1
    have U9 := Lib.hid (U8.out.trans (hK.2.mono (S' := fun q => q = k ∨ q = c) (fun _ _ e => .inl e)))
    have Y9 := Lib.hid (Y8.out.upd hK.2 (fun e => hkk e.symm) HCK.out)
    clear hK
    refine wpOF_l (by rfl) (by rfl) (fun KQ hKQ => ?_)
    go_simp
    refine hKQ _ _ (.inl (by rfl)) ?_
    clear hKQ KQ
    try simp only [Act.put, List.setIfInBounds_toArray, List.set_cons_zero, List.set_cons_succ]
    clear b6 g6 K8 U8 Y8
    generalize w8.setCell ⟨k, 6, none⟩ (.int .i64 (su + su2)) = w9 at *
    refine wpOF_d ?_
    have y7 : w9.cell? ⟨k2, 7, none⟩ = some (.slice (some ⟨c2, o2, none⟩) B cap2) := Y9.out.kn.cell 7
    go_wp2_with fail
    go_loopw [4, 5, 122] (fun v4 v5 v122 wr => ∃ (i : Nat) (cur : List Int), i ≤ B ∧ v122 = .int .i64 i ∧ KnS wr k c B t ⟨arr + arr2, en + en2, lo + lo2, le, max mo mo2, su + su2⟩ cur ∧ (∀ j, cur[j]? = if j < i then (addL cs ds)[j]? else cs[j]?) ∧ CpS wr k2 c2 o2 cap2 B t2 ⟨arr2, en2, lo2, le2, mo2, su2⟩ ds ∧ Upd (fun q => q = k ∨ q = c) w wr) (fun _ _ v122 _ => B - (intOf v122).toNat)
    case atStart => exact ⟨0, cs, Nat.zero_le _, rfl, K9.out, fun j => by rw [if_neg (by omega)], Y9.out, U9.out⟩
    case round =>
      obtain ⟨i, cur, hi, rfl, hK, hcur, hY, hU⟩ := hrel
      have KA := Lib.hid hK; have YA := Lib.hid hY; have UA := Lib.hid hU; have CA := Lib.hid hcur
      clear hK hY hU
      by_cases hlt : i < B
      · obtain ⟨z, hz⟩ : ∃ z, cs[i]? = some z := ⟨_, List.getElem?_eq_getElem (by rw [HLC.out]; exact hlt)⟩
        obtain ⟨u, hu⟩ : ∃ u, ds[i]? = some u := ⟨_, List.getElem?_eq_getElem (by rw [HLD.out]; exact hlt)⟩
        have hzb := HBC.out z (List.mem_of_getElem? hz)
        have hub := HBD.out u (List.mem_of_getElem? hu)
        have hcz : cur[i]? = some z := by rw [hcur i, if_neg (by omega)]; exact hz
        have p7 : wr.cell? ⟨k, 7, none⟩ = some (.slice (some ⟨c, 0, none⟩) B B) := KA.out.kn.cell 7
        have pz : wr.cell? ⟨c, i, none⟩ = some (.int .i64 z) := KA.out.cell i z hcz
        have fz := KA.out.frozen i
        have pu : wr.cell? ⟨c2, o2 + i, none⟩ = some (.int .i64 u) := YA.out.cell i u hu
        have hS := KA.out.setC i hlt (z + u)
        have KB := Lib.hid hS.1
        have UB := Lib.hid (UA.out.trans (hS.2.mono (S' := fun q => q = k ∨ q = c) (fun _ _ e => .inr e)))
        have YB := Lib.hid (YA.out.upd hS.2 HKC.out (fun e => hcc e.symm))
        have HADD := Lib.hid (addL_at hz hu)
        have HCL : Hid (cur.length = B) := Lib.hid KA.out.len
        have dl : decide ((i : Int) < (B : Int)) = true := decide_eq_true (by omega)
        have di : decide ((i : Int) < 0) = false := decide_eq_false (by omega)
        have hzb2 : 0 ≤ z ∧ z ≤ 1000000 := by omega
        have hub2 : 0 ≤ u ∧ u ≤ 1000000 := by omega
        clear hcur hS hz hu hcz hzb hub
        go_wp2_with fail
        go_roundw
        case rel =>
          refine ⟨i + 1, cur.set i (z + u), by omega, by go_num, KB.out, fun j => ?_, YB.out, UB.out⟩
          have h1 := CA.out j
          by_cases hji : j = i
          · subst hji
            rw [List.getElem?_set_self (by rw [HCL.out]; exact hlt), if_pos (by omega), HADD.out]
          · rw [List.getElem?_set_ne (fun e => hji e.symm), h1]
            by_cases hj : j < i
            · rw [if_pos hj, if_pos (by omega)]
            · rw [if_neg hj, if_neg (by omega)]
        case measure => simp [intOf]; omega
      · have hie : i = B := by omega
        subst hie
        clear hcur
        go_wp2_with fail
        go_returns
        refine ⟨rfl, ?_, UA.out⟩
        have e : cur = addL cs ds := by
          apply List.ext_getElem?
          intro j
          rw [CA.out j]
          by_cases hj : j < i
          · rw [if_pos hj]
          · rw [if_neg hj, List.getElem?_eq_none (by rw [HLC.out]; omega), List.getElem?_eq_none (by rw [addL_len (by rw [HLC.out, HLD.out]), HLC.out]; omega)]
        rw [← e]
        exact KA.out
end Go.Proofs.Ythjebjegedgoeaa
