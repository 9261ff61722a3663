/-
  The walk of frame.Table: Owner.
-/
import Derived.Test.YtldbjoegfcmfkaaFrameE
import Derived.Test.YtldbjoegfcmfkaaSeqR
namespace Go.Proofs.Ytldbjoegfcmfkaa
open Go.RowKit
attribute [local go_sem] max_ints min_ints

theorem ret2 {a b c d : Int} (h1 : a = c) (h2 : b = d) : Ending.returned (.tuple #[.int .i64 a, .int .i64 b]) = .returned (.tuple #[.int .i64 c, .int .i64 d]) := by rw [h1, h2]

set_option maxRecDepth 100000 in
set_option maxHeartbeats 1600000 in
theorem ownerT (w : World) (base g F : Nat) (M : Int) (ws : List W3) (h : TabS w base g F M ws) (d : Int) :
    Calls Try.prog 24 #[.pointer (some ⟨g, 0, none⟩), .int .i64 d] w fun e w' => e = .returned (.tuple #[.int .i64 (ownR M (d % F) ws).1, .int .i64 (ownR M (d % F) ws).2]) ∧ Upd (fun _ => False) w w' := by
  have hr := h.right
  have hF1 := hr.1
  have hF2 : F ≤ 256 := hr.2.1
  have hM := hr.2.2.1
  have hM8 := hr.2.2.2.1
  have hl := hr.2.2.2.2.1
  have HFIT := Lib.hid hr.2.2.2.2.2
  obtain ⟨L, A, h1⟩ := h
  have HT := Lib.hid h1
  have c0 : w.cell? ⟨g, 0, none⟩ = some L := h1.b.cell 0
  have c1 : w.cell? ⟨g, 1, none⟩ = some (.int .i64 M) := h1.b.cell 1
  have c2 : w.cell? ⟨g, 2, none⟩ = some (.int .i64 F) := h1.b.cell 2
  have hgw : g < w.heap.size := h1.b.lt
  have HL := Lib.hid (RdW.of h1.s)
  obtain ⟨a0, cap0, hsh⟩ := h1.s.shape
  subst hsh
  clear h1 hr
  obtain ⟨pl, hpl⟩ : ∃ pl : Int, d % (F : Int) = pl := ⟨_, rfl⟩
  have hp0 : 0 ≤ pl := by have := Int.emod_nonneg d (show (F : Int) ≠ 0 by omega); omega
  have hp1 : pl < F := by have := Int.emod_lt_of_pos d (show (0 : Int) < (F : Int) by omega); omega
  have HPL := Lib.hid hpl
  rw [hpl]
  clear hpl
  obtain ⟨o1, ho1⟩ : ∃ o1, (ownR M pl ws).1 = o1 := ⟨_, rfl⟩
  obtain ⟨o2, ho2⟩ : ∃ o2, (ownR M pl ws).2 = o2 := ⟨_, rfl⟩
  rw [ho1, ho2]
  have HO1 := Lib.hid ho1; have HO2 := Lib.hid ho2
  clear ho1 ho2
  go_enter Try.func24, Try.ntmps24
  go_wp2_with fail
  refine (noneT _ base g F M ws ⟨_, _, HT.out⟩).mono ?_
  rintro e w1 ⟨rfl, k1, rfl⟩
  go_wp2_with fail
  refine (modN _ d F (by omega) (by omega)).mono ?_
  rintro e w1 ⟨rfl, k2, rfl⟩
  rw [HPL.out]
  go_wp2_with fail
  refine (atT _ F hF2 M _ ws (HL.out.still ((Upd.refl _ w).drewN _)) hl HFIT.out pl hp0 hp1).mono ?_
  rintro e w2 ⟨⟨x0, x1, x2⟩, ok, rfl, hx, hU⟩
  dsimp only at *
  have hb : 0 ≤ x0 ∧ x0 ≤ 256 ∧ 0 ≤ x1 ∧ x1 ≤ 256 := by
    rcases hx with ⟨_, hm, _⟩ | ⟨_, e, _⟩
    · have := fitsB_mem HFIT.out _ hm
      dsimp only at this
      omega
    · injection e with e1 e2
      injection e2 with e2 e3
      omega
  have HX := Lib.hid hx
  have U1 := Lib.hid ((((Upd.refl _ w).drewN (k1 + k2)).trans hU).alloc (.cells #[.int .i64 x0, .int .i64 x1, .int .i64 x2] 39))
  have BX := Lib.hid (Blk.new w2 39 #[.int .i64 x0, .int .i64 x1, .int .i64 x2])
  clear hx hU c0 c1 c2
  go_upto_region 5 with fail
  generalize hW : w2.alloc (.cells #[.int .i64 x0, .int .i64 x1, .int .i64 x2] 39) = W at *
  generalize hsz : w2.heap.size = G at *
  clear hW hsz
  have T1 := Lib.hid (HT.out.still U1.out)
  have c0 : W.cell? ⟨g, 0, none⟩ = some (.slice a0 ws.length cap0) := T1.out.b.cell 0
  have c1 : W.cell? ⟨g, 1, none⟩ = some (.int .i64 M) := T1.out.b.cell 1
  have x0c : W.cell? ⟨G, 0, none⟩ = some (.int .i64 x0) := BX.out.cell 0
  have x1c : W.cell? ⟨G, 1, none⟩ = some (.int .i64 x1) := BX.out.cell 1
  have x2c : W.cell? ⟨G, 2, none⟩ = some (.int .i64 x2) := BX.out.cell 2
  refine wp_region_seq (fun i => decide (i ≠ 5)) (fun i => decide (11 ≤ i ∧ i < 11)) (fun w' => w'.cell? ⟨g, 0, none⟩ = some (.slice a0 ws.length cap0) ∧ w'.cell? ⟨g, 1, none⟩ = some (.int .i64 M) ∧ w'.cell? ⟨G, 0, none⟩ = some (.int .i64 x0) ∧ w'.cell? ⟨G, 1, none⟩ = some (.int .i64 x1) ∧ w'.cell? ⟨G, 2, none⟩ = some (.int .i64 x2))
    (by kernel_rfl) (by kernel_rfl) (fun t ht => (of_decide_eq_true ht).2) (fun _ _ _ _ _ h => h) (by kernel_rfl) ⟨c0, c1, x0c, x1c, x2c⟩ ?_
  iterate 5
    refine' wpSeq_q (by rfl) (by rfl) (fun w' hS' => ?_) ?_
    rotate_left
    · obtain ⟨s0, s1, s2, s3, s4⟩ := hS'
      go_simp
      try rfl
    try simp only [Act.put, List.setIfInBounds_toArray, List.set_cons_zero, List.set_cons_succ]
  refine wpSeq_l (by rfl) (by rfl) (fun KQ hKQ => ?_)
  go_simp
  go_at_call 47
  refine (openW _ _ ⟨_, _, _, rfl⟩ M hM hM8 x0 x1 x2 hb.1 hb.2.1 hb.2.2.1 hb.2.2.2).mono ?_
  rintro e w9 ⟨rfl, hU9⟩
  have T2 := Lib.hid ((T1.out.still ((Upd.refl _ W).drewN 1)).still hU9)
  have BX2 := Lib.hid ((BX.out.drewN 1).upd hU9 (fun h => h))
  have U2 := Lib.hid ((U1.out.drewN 1).trans hU9)
  clear hU9 c0 c1 x0c x1c x2c
  refine hKQ _ _ (.inr ⟨T2.out.b.cell 0, T2.out.b.cell 1, BX2.out.cell 0, BX2.out.cell 1, BX2.out.cell 2⟩) ?_
  clear hKQ KQ
  try simp only [Act.put, List.setIfInBounds_toArray, List.set_cons_zero, List.set_cons_succ]
  iterate 5
    refine' wpSeq_q (by rfl) (by rfl) (fun w' hS' => ?_) ?_
    rotate_left
    · obtain ⟨s0, s1, s2, s3, s4⟩ := hS'
      go_simp
      try rfl
    try simp only [Act.put, List.setIfInBounds_toArray, List.set_cons_zero, List.set_cons_succ]
  refine wpSeq_nil ?_
  have x2c : w9.cell? ⟨G, 2, none⟩ = some (.int .i64 x2) := BX2.out.cell 2
  cases ok
  · have HR : Hid ((-1 : Int) = o1 ∧ (0 : Int) = o2) := Lib.hid (by
      rcases HX.out with ⟨h, _⟩ | ⟨_, _, h⟩
      · cases h
      · rw [← HO1.out, ← HO2.out, ownR_none h]
        exact ⟨rfl, rfl⟩)
    go_wp2_with fail
    go_returns
    exact ⟨ret2 HR.out.1 HR.out.2, U2.out⟩
  · have HR : Hid (x2 = o1 ∧ (if pl - x0 < M then (1 : Int) else 2) = o2 ∧ pl - x0 < x1) := Lib.hid (by
      rcases HX.out with ⟨_, h1, h2, h3⟩ | ⟨h, _⟩
      · rw [← HO1.out, ← HO2.out, ownR_of_mem HFIT.out _ h1 h2 h3]
        exact ⟨rfl, rfl, h3⟩
      · cases h)
    by_cases hlt : pl - x0 < M
    · have d1 : decide (pl < x0 + min M x1) = true := decide_eq_true (by have := HR.out.2.2; omega)
      have HR2 : Hid (x2 = o1 ∧ (1 : Int) = o2) := Lib.hid (by have := HR.out; rw [if_pos hlt] at this; exact ⟨this.1, this.2.1⟩)
      go_wp2_with fail
      go_returns
      exact ⟨ret2 HR2.out.1 HR2.out.2, U2.out⟩
    · have d1 : decide (pl < x0 + min M x1) = false := decide_eq_false (by omega)
      have HR2 : Hid (x2 = o1 ∧ (2 : Int) = o2) := Lib.hid (by have := HR.out; rw [if_neg hlt] at this; exact ⟨this.1, this.2.1⟩)
      go_wp2_with fail
      go_returns
      exact ⟨ret2 HR2.out.1 HR2.out.2, U2.out⟩
end Go.Proofs.Ytldbjoegfcmfkaa
