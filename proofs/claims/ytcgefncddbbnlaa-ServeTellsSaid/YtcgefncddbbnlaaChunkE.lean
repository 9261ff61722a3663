/-
  The walks of chunk.Budget: Go.
-/
import Derived.Test.YtcgefncddbbnlaaChunkD
import Derived.Deep.Cut
import Derived.Deep.CutRange
namespace Go.Proofs.Ytcgefncddbbnlaa.Ck
open Go.RowKit Go.Proofs.Ytcgefncddbbnlaa.Cf
attribute [local go_sem ↓] Go.wp_at_zero Go.wp_at_succ

set_option maxRecDepth 100000 in
set_option maxHeartbeats 3200000 in
theorem goC (w : World) (base g : Nat) (s : St17) (h : CSt w base g s) (hbase : base ≤ w.heap.size) (hf : FineC s) (now : Int) (busy : Bool) :
    Calls Try.prog 114 #[.pointer (some ⟨g, 0, none⟩), .int .i64 now, .bool busy] w fun e w' => e = .returned (.tuple #[]) ∧ CSt w' base g (s.go now busy) ∧ Tu base tsC w w' := by
  obtain ⟨i0, hi0, hz0, hz1, hz2⟩ := info_parts infoChunkC
  obtain ⟨L, K, h⟩ := h
  have hb := hf.bound
  have hrN := ripeN_bound now _ hf.fineB
  have hf2 := (hf.ripe now).bound
  have hfr := (hf.ripe now).free
  have hxl : s.xs.length ≤ 1000 := hb.2.2.2.2.1
  have e1 : (s.ripe now).p.free = s.p.free + ripeN now s.ys := rfl
  rw [e1] at hfr hf2
  have hr0 := hrN.1
  have hr1 : ripeN now s.ys ≤ 1000000 := by omega
  have hp0 := hf.free
  have hp1 : s.p.free ≤ 1000 := hb.2.1
  clear hb hrN hf2 e1
  have H := Lib.hid h; clear h
  have HF := Lib.hid hf; clear hf
  go_enter Try.func114, Try.ntmps114
  go_wp2_with fail
  refine (noneC _ base g L K s.p s.xs s.ys H.out HF.out.C1).mono ?_
  rintro e w1 ⟨rfl, k1, rfl⟩
  have hbase' : base ≤ (w.drewN k1).heap.size := hbase
  have U1 := Lib.hid ((Tu.refl base tsC w).drewN k1)
  have H1 := Lib.hid (H.out.drewN k1)
  clear H
  generalize w.drewN k1 = W at *
  have c4 : W.cell? ⟨g, 4, none⟩ = some (.int .i64 s.p.free) := H1.out.b.cell 4
  go_wp2_with fail
  go_cut [] from 8 to 17 (fun wx => CSt wx base g (s.ripe now) ∧ Tu base tsC w wx)
  case first =>
    go_region_law (go_simp
                   go_at_call 119
                   refine (ripeC _ base g L K s.p s.xs s.ys (H1.out.drewN 1) HF.out.fineB (by have := HF.out.bound; omega) now).mono ?_
                   rintro e w3 ⟨rfl, K', hC3, hU3⟩
                   have C3 := Lib.hid hC3
                   have c4' : w3.cell? ⟨g, 4, none⟩ = some (.int .i64 s.p.free) := C3.out.b.cell 4
                   have f4' := C3.out.b.frozen 4
                   have U3 := Lib.hid hU3
                   clear hC3 hU3)
    all_goals
      go_wp2_with fail
      go_meet
      rw [wrap_in (s.p.free + ripeN now s.ys) (by omega) (by omega)]
      exact ⟨⟨L, K', C3.out.setFree _⟩, ((U1.out.drewN 1).trans U3.out).set_ C3.out.hg C3.out.b (by decide) _⟩
  case rest =>
    obtain ⟨⟨L2, K2, h2⟩, U2⟩ := hcut
    obtain ⟨f1, hf1⟩ : ∃ f, (s.ripe now).p.free = f := ⟨_, rfl⟩
    have hpf : (s.ripe now).p = { s.p with free := f1 } := by rw [← hf1]; rfl
    have h2' : Cud wc base g L2 K2 { s.p with free := f1 } s.xs (keepB now s.ys) := by
      have := h2
      rw [hpf] at this
      exact this
    have hU2 := Lib.hid U2
    have HF1 := Lib.hid hf1
    have H2 := Lib.hid h2'
    clear h2 h2' hpf U2 hfr c4
    have hff : f1 = s.p.free + ripeN now s.ys := hf1.symm
    have hf0 : f1 ≤ 1001000 := by omega
    have hff0 : 0 ≤ f1 := by have := (HF.out.ripe now).free; omega
    clear hff hf1
    have c0 : wc.cell? ⟨g, 0, none⟩ = some L2 := H2.out.b.cell 0
    have c4 : wc.cell? ⟨g, 4, none⟩ = some (.int .i64 f1) := H2.out.b.cell 4
    have c6 : wc.cell? ⟨g, 6, none⟩ = some (.bool s.p.still) := H2.out.b.cell 6
    have FIN : Hid (∀ b, busy = b → ¬ (b = true ∧ s.p.still = false ∧ 0 < f1) → ∀ W, Cud W base g L2 K2 { s.p with free := f1 } s.xs (keepB now s.ys) → CSt W base g (s.go now busy)) := Lib.hid (fun b hb hn W hC => by
      unfold St17.go
      rw [HF1.out, hb, if_neg hn]
      refine ⟨L2, K2, ?_⟩
      have e : (s.ripe now).p = { s.p with free := f1 } := by rw [← HF1.out]; rfl
      rw [e]
      exact hC)
    have hszc : base ≤ wc.heap.size := Nat.le_trans hbase hU2.out.size
    cases busy
    · go_wp2_with fail
      go_returns
      exact ⟨rfl, FIN.out false rfl (fun h => by cases h.1) _ H2.out, hU2.out⟩
    · obtain ⟨sb, hsb⟩ : ∃ sb, s.p.still = sb := ⟨_, rfl⟩
      rw [hsb] at c6
      have HSB := Lib.hid hsb; clear hsb
      cases sb
      · by_cases hpos : 0 < f1
        · have e0 : decide (0 < f1) = true := decide_eq_true hpos
          go_wp2_with fail
          have HS : Hid (∀ o, SlR encC (wc.drew.alloc o) base 164 3 L2 s.xs) := Lib.hid (fun o => (H2.out.s.drewN 1).alloc o)
          have HN : Hid (∀ j u, [Value.int .i64 now, .int .i64 f1, .int .i64 0][j]? = some u → (wc.drew.alloc (.cells [Value.int .i64 now, .int .i64 f1, .int .i64 0].toArray 164)).cell? ((⟨wc.drew.heap.size, 0, none⟩ : Addr).add j) = some u) := Lib.hid (fun j u hu => by
            rw [add_at, (Blk.new _ _ _).cell j]
            simpa using hu)
          have KA : Hid (∀ o, (wc.drew.alloc o).cell? ⟨g, 4, none⟩ = some (.int .i64 f1)) := Lib.hid (fun o => ((H2.out.drewN 1).alloc o).b.cell 4)
          have cA : ∀ o, (wc.drew.alloc o).cell? ⟨g, 0, none⟩ = some L2 := fun o => ((H2.out.b.drewN 1).alloc o).cell 0
          refine wp_region_seq (fun i => decide (i < 12)) (fun i => decide (14 ≤ i ∧ i < 18)) (fun w' => w'.cell? ⟨g, 4, none⟩ = some (.int .i64 f1) ∧ w'.cell? ⟨g, 0, none⟩ = some L2)
            (by kernel_rfl) (by kernel_rfl) (fun t ht => (of_decide_eq_true ht).2) (fun _ _ _ _ _ h => h) (by kernel_rfl) ⟨c4, c0⟩ ?_
          iterate 12
            refine' wpSeq_q (by rfl) (by rfl) (fun w' hS' => ?_) ?_
            rotate_left
            · obtain ⟨s0, s1⟩ := hS'
              go_simp
              try rfl
            try simp only [Act.put, List.setIfInBounds_toArray, List.set_cons_zero, List.set_cons_succ]
          refine wpSeq_l (by rfl) (by rfl) (fun KQ hKQ => ?_)
          go_simp
          refine hKQ _ _ (.inr ⟨KA.out _, cA _⟩) ?_
          clear hKQ KQ
          try simp only [Act.put, List.setIfInBounds_toArray, List.set_cons_zero, List.set_cons_succ]
          refine wpSeq_l (by rfl) (by rfl) (fun KQ hKQ => ?_)
          refine wp_append_sl (.tmp 38) (.tmp 45) 139 rfl base 164 i0 _ 3 24 Try.underlying139 hi0 hz0 hz1 hz2 rfl (by decide) L2 s.xs.length (rws encC s.xs) rfl (HS.out _) ⟨_, 0, none⟩ 1 [.int .i64 now, .int .i64 f1, .int .i64 0] rfl rfl HN.out (by simp [Value.oneCell']) (by unfold maxLen; omega) (by omega) (by simp; omega) ?_
          intro v' w1 hs1 hu1 hv1
          have B1 := Lib.hid (((H2.out.b.drewN 1).alloc _).upd hu1 (fun hk => H2.out.neL g hk rfl))
          have K1 := Lib.hid (SlR.upd ((H2.out.k.drewN 1).alloc _) hu1 (fun k hk e => H2.out.neLK k k e hk rfl))
          have c0w : w1.cell? ⟨g, 0, none⟩ = some L2 := B1.out.cell 0
          have f0w := B1.out.frozen 0
          obtain ⟨bq, oq, cq, rfl, _, _, _, _⟩ := hs1.form (by omega)
          have S1 := Lib.hid hs1
          have X1 := Lib.hid hu1
          clear hs1 hu1 hv1
          refine hKQ _ _ (.inr ⟨B1.out.cell 4, B1.out.cell 0⟩) ?_
          clear hKQ KQ
          try simp only [Act.put, List.setIfInBounds_toArray, List.set_cons_zero, List.set_cons_succ]
          iterate 4
            refine wpSeq_l (by rfl) (by rfl) (fun KQ hKQ => ?_)
            go_simp
            refine hKQ _ _ (.inl (by rfl)) ?_
            clear hKQ KQ
            try simp only [Act.put, List.setIfInBounds_toArray, List.set_cons_zero, List.set_cons_succ]
          refine wpSeq_nil ?_
          all_goals
            have f4w := B1.out.frozen 4
            have c4w : w1.cell? ⟨g, 4, none⟩ = some (.int .i64 f1) := B1.out.cell 4
            go_wp2_with fail
            go_returns
            have hL : SlR encC w1 base 164 3 (.slice (some ⟨bq, oq, none⟩) (s.xs.length + 1) cq) (s.xs ++ [(now, f1, 0)]) := by
              unfold SlR
              rw [List.length_append, rws_append]
              exact S1.out
            have hC4 := Cud.setL B1.out hL K1.out H2.out.hg
            have hgo : s.go now true = { p := { s.p with free := 0 }, xs := s.xs ++ [(now, f1, 0)], ys := keepB now s.ys } := by
              unfold St17.go
              rw [HF1.out, if_pos ⟨rfl, HSB.out, hpos⟩]
            rw [hgo]
            refine ⟨rfl, ⟨_, K2, hC4.setFree 0⟩, ?_⟩
            exact (Tu.set_ (Tu.trans hU2.out ((((Tu.refl base tsC wc).drew).alloc _).trans (Tu.of X1.out (fun k hk e => ((H2.out.drewN 1).alloc _).tyL k e)))) H2.out.hg B1.out (by decide) _).set_ H2.out.hg hC4.b (by decide) _
        · have e0 : decide (0 < f1) = false := decide_eq_false hpos
          have HP := Lib.hid hpos; clear hpos
          go_wp2_with fail
          go_returns
          exact ⟨rfl, FIN.out true rfl (fun h => by have := HP.out; have := h.2.2; omega) _ H2.out, hU2.out⟩
      · go_wp2_with fail
        go_returns
        exact ⟨rfl, FIN.out true rfl (fun h => by rw [HSB.out] at h; cases h.2.1) _ H2.out, hU2.out⟩
end Go.Proofs.Ytcgefncddbbnlaa.Ck
