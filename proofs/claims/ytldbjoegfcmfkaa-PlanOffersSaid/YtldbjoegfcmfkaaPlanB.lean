/-
  The walks of plan.layer, and of the function that it gives.
-/
import Derived.Test.YtldbjoegfcmfkaaPlanA
import Derived.Test.YtldbjoegfcmfkaaSeqR
namespace Go.Proofs.Ytldbjoegfcmfkaa
open Go.RowKit
attribute [local go_sem] max_ints min_ints

theorem infoWp : (Try.prog.info? 39).map (fun i => (i.zero, i.size, i.bytes)) = some (some (.agg #[.int .i64 0, .int .i64 0, .int .i64 0]), 3, 24) := by kernel_rfl
/-- What layer's function holds. -/
structure Ly (w : World) (base cF cM cA cL lb : Nat) (F M : Int) (v : Value) (st : Int × List W3) : Prop where
  f : Blk w cF 3 #[.int .i64 F]
  m : Blk w cM 3 #[.int .i64 M]
  a : Blk w cA 3 #[.int .i64 st.1]
  l : Blk w cL 63 #[.pointer (some ⟨lb, 0, none⟩)]
  b : Blk w lb 24 #[v]
  s : SlR encW w base 39 3 v st.2
  ne1 : cA ≠ cF
  ne2 : cA ≠ cM
  ha : base ≤ cA
  hl : base ≤ lb
theorem Ly.still {w w' : World} {base cF cM cA cL lb : Nat} {F M : Int} {v : Value} {st : Int × List W3} (h : Ly w base cF cM cA cL lb F M v st) (hu : Upd (fun _ => False) w w') : Ly w' base cF cM cA cL lb F M v st :=
  ⟨h.f.upd hu (fun h => h), h.m.upd hu (fun h => h), h.a.upd hu (fun h => h), h.l.upd hu (fun h => h), h.b.upd hu (fun h => h), h.s.still hu, h.ne1, h.ne2, h.ha, h.hl⟩

set_option maxRecDepth 100000 in
set_option maxHeartbeats 1600000 in
theorem layP (w : World) (base cF cM cA cL lb : Nat) (F M : Int) (v : Value) (st : Int × List W3) (h : Ly w base cF cM cA cL lb F M v st) (hb : base ≤ w.heap.size) (p n : Int) (hF1 : 0 ≤ F) (hF2 : F ≤ 256) (hM1 : 0 ≤ M) (hM2 : M ≤ 8) (h0 : 0 ≤ st.1) (h1 : st.1 ≤ F) (hl : st.2.length ≤ 32) (hn : 0 ≤ n) :
    Calls Try.prog 55 #[.int .i64 p, .int .i64 n, .pointer (some ⟨cF, 0, none⟩), .pointer (some ⟨cM, 0, none⟩), .pointer (some ⟨cA, 0, none⟩), .pointer (some ⟨cL, 0, none⟩)] w fun e w' =>
      (match layS F M st p n with
        | none => e = .returned (.bool false)
        | some st' => e = .returned (.bool true) ∧ ∃ v', Ly w' base cF cM cA cL lb F M v' st') ∧ Upd (fun k => base ≤ k) w w' := by
  obtain ⟨i0, hi0, hz0, hz1, hz2⟩ := info_parts infoWp
  obtain ⟨at_, xs⟩ := st
  dsimp only at *
  have H := Lib.hid h
  obtain ⟨A, cap, hsh⟩ := h.s.shape
  subst hsh
  dsimp only at *
  have f0 : w.cell? ⟨cF, 0, none⟩ = some (.int .i64 F) := h.f.cell 0
  have m0 : w.cell? ⟨cM, 0, none⟩ = some (.int .i64 M) := h.m.cell 0
  have a0 : w.cell? ⟨cA, 0, none⟩ = some (.int .i64 at_) := h.a.cell 0
  have l0 : w.cell? ⟨cL, 0, none⟩ = some (.pointer (some ⟨lb, 0, none⟩)) := h.l.cell 0
  have b0 : w.cell? ⟨lb, 0, none⟩ = some (.slice A xs.length cap) := h.b.cell 0
  clear h
  by_cases hn0 : n = 0
  · subst hn0
    have HL : Hid (layS F M (at_, xs) p 0 = some (at_, xs)) := Lib.hid (by unfold layS; rw [if_pos rfl])
    rw [HL.out]
    dsimp only
    go_enter Try.func55, Try.ntmps55
    go_wp2_with fail
    go_returns
    exact ⟨⟨rfl, _, H.out⟩, Upd.refl _ _⟩
  · have en : (n == 0) = false := beq_eq_false_iff_ne.2 hn0
    have w1 := wrap_in (F - M) (by omega) (by omega)
    have w2 := wrap_in (F - M - at_) (by omega) (by omega)
    by_cases g1 : F - M - at_ < n
    · have d1 : decide (F - M - at_ < n) = true := decide_eq_true g1
      have HL : Hid (layS F M (at_, xs) p n = none) := Lib.hid (by unfold layS; rw [if_neg hn0, if_pos (.inl g1)])
      rw [HL.out]
      dsimp only
      go_enter Try.func55, Try.ntmps55
      go_wp2_with fail
      go_returns
      exact ⟨rfl, Upd.refl _ _⟩
    · have d1 : decide (F - M - at_ < n) = false := decide_eq_false g1
      by_cases g2 : 32 ≤ xs.length
      · have d2 : decide (32 ≤ (xs.length : Int)) = true := decide_eq_true (by omega)
        have HL : Hid (layS F M (at_, xs) p n = none) := Lib.hid (by unfold layS; rw [if_neg hn0, if_pos (.inr g2)])
        rw [HL.out]
        dsimp only
        go_enter Try.func55, Try.ntmps55
        go_wp2_with fail
        go_returns
        exact ⟨rfl, Upd.refl _ _⟩
      · have d2 : decide (32 ≤ (xs.length : Int)) = false := decide_eq_false (by omega)
        have HL : Hid (layS F M (at_, xs) p n = some (at_ + (M + n), xs ++ [(at_, M + n, p)])) := Lib.hid (by unfold layS; rw [if_neg hn0, if_neg (by simp; omega)])
        rw [HL.out]
        dsimp only
        have w3 := wrap_in (M + n) (by omega) (by omega)
        have w4 := wrap_in (at_ + (M + n)) (by omega) (by omega)
        go_enter Try.func55, Try.ntmps55
        go_wp2_with fail
        have HN : Hid (∀ j u, [Value.int .i64 at_, .int .i64 (M + n), .int .i64 p][j]? = some u → (w.drew.alloc (.cells [Value.int .i64 at_, .int .i64 (M + n), .int .i64 p].toArray 39)).cell? ((⟨w.drew.heap.size, 0, none⟩ : Addr).add j) = some u) := Lib.hid (fun j u hu => by
          rw [add_at, (Blk.new _ _ _).cell j]
          simpa using hu)
        refine wp_region_seq (fun i => decide (i < 10)) (fun i => decide (12 ≤ i ∧ i < 14))
          (fun w' => w'.cell? ⟨cM, 0, none⟩ = some (.int .i64 M) ∧ w'.cell? ⟨cA, 0, none⟩ = some (.int .i64 at_) ∧ w'.cell? ⟨cL, 0, none⟩ = some (.pointer (some ⟨lb, 0, none⟩)) ∧ w'.cell? ⟨lb, 0, none⟩ = some (.slice A xs.length cap))
          (by kernel_rfl) (by kernel_rfl) (fun t ht => (of_decide_eq_true ht).2) (fun _ _ _ _ _ h => h) (by kernel_rfl) ⟨m0, a0, l0, b0⟩ ?_
        iterate 10
          refine' wpSeq_q (by rfl) (by rfl) (fun w' hS' => ?_) ?_
          rotate_left
          · obtain ⟨s0, s1, s2, s3⟩ := hS'
            go_simp
            try rfl
          try simp only [Act.put, List.setIfInBounds_toArray, List.set_cons_zero, List.set_cons_succ]
        refine wpSeq_l (by rfl) (by rfl) (fun KQ hKQ => ?_)
        go_simp
        have Y := Lib.hid ((H.out.still ((Upd.refl _ w).drewN 1)).still ((Upd.refl _ (w.drewN 1)).alloc (.cells [Value.int .i64 at_, .int .i64 (M + n), .int .i64 p].toArray 39)))
        refine hKQ _ _ (.inr ⟨Y.out.m.cell 0, Y.out.a.cell 0, Y.out.l.cell 0, Y.out.b.cell 0⟩) ?_
        clear hKQ KQ
        try simp only [Act.put, List.setIfInBounds_toArray, List.set_cons_zero, List.set_cons_succ]
        refine wpSeq_l (by rfl) (by rfl) (fun KQ hKQ => ?_)
        refine wp_append_sl (.tmp 28) (.tmp 35) 24 rfl base 39 i0 _ 3 24 Try.underlying24 hi0 hz0 hz1 hz2 rfl (by decide) (.slice A xs.length cap) xs.length (rws encW xs) rfl Y.out.s ⟨_, 0, none⟩ 1 [.int .i64 at_, .int .i64 (M + n), .int .i64 p] rfl rfl HN.out (by simp [Value.oneCell']) (by unfold maxLen; omega) (by omega) (by simp; omega) ?_
        intro v' w5 hs1 hu1 hv1
        obtain ⟨bq, oq, cq, rfl, _, _, _, _⟩ := hs1.form (by omega)
        have S1 := Lib.hid hs1
        have U1 := Lib.hid (((Upd.refl (fun k => base ≤ k) w).drewN 1).alloc (.cells [Value.int .i64 at_, .int .i64 (M + n), .int .i64 p].toArray 39) |>.trans (hu1.mono (fun k _ hk => (Sl.blk Y.out.s k hk).1)))
        have Z : Hid (Blk w5 cF 3 #[.int .i64 F] ∧ Blk w5 cM 3 #[.int .i64 M] ∧ Blk w5 cA 3 #[.int .i64 at_] ∧ Blk w5 cL 63 #[.pointer (some ⟨lb, 0, none⟩)] ∧ Blk w5 lb 24 #[.slice A xs.length cap]) := Lib.hid
          ⟨Y.out.f.upd hu1 (fun hk => Sl.ne_ Y.out.s Y.out.f (by decide) _ hk rfl), Y.out.m.upd hu1 (fun hk => Sl.ne_ Y.out.s Y.out.m (by decide) _ hk rfl), Y.out.a.upd hu1 (fun hk => Sl.ne_ Y.out.s Y.out.a (by decide) _ hk rfl),
            Y.out.l.upd hu1 (fun hk => Sl.ne_ Y.out.s Y.out.l (by decide) _ hk rfl), Y.out.b.upd hu1 (fun hk => Sl.ne_ Y.out.s Y.out.b (by decide) _ hk rfl)⟩
        have fb := Z.out.2.2.2.2.frozen 0
        have cb : w5.cell? ⟨lb, 0, none⟩ = some (.slice A xs.length cap) := Z.out.2.2.2.2.cell 0
        clear hs1 hu1 hv1
        refine hKQ _ _ (.inr ⟨Z.out.2.1.cell 0, Z.out.2.2.1.cell 0, Z.out.2.2.2.1.cell 0, Z.out.2.2.2.2.cell 0⟩) ?_
        clear hKQ KQ
        try simp only [Act.put, List.setIfInBounds_toArray, List.set_cons_zero, List.set_cons_succ]
        iterate 2
          refine wpSeq_l (by rfl) (by rfl) (fun KQ hKQ => ?_)
          go_simp
          refine hKQ _ _ (.inl (by rfl)) ?_
          clear hKQ KQ
          try simp only [Act.put, List.setIfInBounds_toArray, List.set_cons_zero, List.set_cons_succ]
        refine wpSeq_nil ?_
        have hne : cA ≠ lb := Z.out.2.2.1.ne_ Z.out.2.2.2.2 (by decide)
        have Z6 : Hid (Ly (w5.setCell ⟨lb, 0, none⟩ (.slice (some ⟨bq, oq, none⟩) (xs.length + 1) cq)) base cF cM cA cL lb F M (.slice (some ⟨bq, oq, none⟩) (xs.length + 1) cq) (at_, xs ++ [(at_, M + n, p)])) := Lib.hid
          ⟨Z.out.1.far (Z.out.1.ne_ Z.out.2.2.2.2 (by decide)) _, Z.out.2.1.far (Z.out.2.1.ne_ Z.out.2.2.2.2 (by decide)) _, Z.out.2.2.1.far hne _, Z.out.2.2.2.1.far (Z.out.2.2.2.1.ne_ Z.out.2.2.2.2 (by decide)) _, Z.out.2.2.2.2.set_ 0 _, by
            have hS : SlR encW w5 base 39 3 (.slice (some ⟨bq, oq, none⟩) (xs.length + 1) cq) (xs ++ [(at_, M + n, p)]) := by
              unfold SlR
              rw [List.length_append, rws_append]
              exact S1.out
            exact hS.upd ((Upd.refl (fun k => k = lb) w5).setCell (p := ⟨lb, 0, none⟩) (fun _ => rfl) _) (fun k hk => Sl.ne_ hS Z.out.2.2.2.2 (by decide) k hk), H.out.ne1, H.out.ne2, H.out.ha, H.out.hl⟩
        have U6 := Lib.hid (U1.out.setCell (p := ⟨lb, 0, none⟩) (fun _ => H.out.hl) (.slice (some ⟨bq, oq, none⟩) (xs.length + 1) cq))
        have a6 := Z6.out.a.cell 0
        have m6 := Z6.out.m.cell 0
        have fa := Z6.out.a.frozen 0
        simp only [List.getElem?_toArray, List.getElem?_cons_zero] at a6 m6
        clear fb cb f0 m0 a0 l0 b0
        generalize w5.setCell ⟨lb, 0, none⟩ (.slice (some ⟨bq, oq, none⟩) (xs.length + 1) cq) = W6 at *
        go_wp2_with fail
        go_returns
        refine ⟨⟨rfl, .slice (some ⟨bq, oq, none⟩) (xs.length + 1) cq, ?_⟩, U6.out.setCell (p := ⟨cA, 0, none⟩) (fun _ => H.out.ha) _⟩
        have h6 := Z6.out
        exact ⟨h6.f.far (fun e => h6.ne1 e.symm) _, h6.m.far (fun e => h6.ne2 e.symm) _, h6.a.set_ 0 _, h6.l.far (h6.l.ne_ h6.a (by decide)) _, h6.b.far (h6.b.ne_ h6.a (by decide)) _, h6.s.upd ((Upd.refl (fun k => k = cA) W6).setCell (p := ⟨cA, 0, none⟩) (fun _ => rfl) _) (fun k hk => Sl.ne_ h6.s h6.a (by decide) k hk), h6.ne1, h6.ne2, h6.ha, h6.hl⟩
end Go.Proofs.Ytldbjoegfcmfkaa
