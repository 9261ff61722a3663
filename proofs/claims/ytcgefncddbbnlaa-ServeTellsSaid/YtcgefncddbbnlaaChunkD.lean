/-
  The walks of chunk.Budget: first, shut, owe, Go.
-/
import Derived.Test.YtcgefncddbbnlaaChunkC
import Derived.Deep.DrawnRows
import Derived.Test.YtcgefncddbbnlaaSeqR
namespace Go.Proofs.Ytcgefncddbbnlaa.Ck
open Go.RowKit Go.Proofs.Ytcgefncddbbnlaa.Cf
attribute [local go_sem ↓] Go.wp_at_zero Go.wp_at_succ

theorem infoChunkC : (Try.prog.info? 164).map (fun i => (i.zero, i.size, i.bytes)) = some (some (.agg #[.int .i64 0, .int .i64 0, .int .i64 0]), 3, 24) := by kernel_rfl
theorem infoBackC : (Try.prog.info? 169).map (fun i => (i.zero, i.size, i.bytes)) = some (some (.agg #[.int .i64 0, .int .i64 0]), 2, 16) := by kernel_rfl
theorem add_at (B j : Nat) : (⟨B, 0, none⟩ : Addr).add j = ⟨B, j, none⟩ := by unfold Addr.add; split <;> simp_all

def CudK (w : World) (base g : Nat) (L : Value) (p : Cp) (xs : List (Int × Int × Int)) (ys : List (Int × Int)) : Prop := ∃ K, Cud w base g L K p xs ys
def CSt (w : World) (base g : Nat) (s : St17) : Prop := ∃ L K, Cud w base g L K s.p s.xs s.ys
theorem wrap_in (x : Int) (h0 : -9223372036854775808 ≤ x) (h1 : x ≤ 9223372036854775807) : IntKind.i64.wrap x = x := by rw [IntKind.wrap_i64]; omega

set_option maxRecDepth 100000 in
set_option maxHeartbeats 1600000 in
theorem oweU (w : World) (base g : Nat) (L K : Value) (p : Cp) (xs : List (Int × Int × Int)) (ys : List (Int × Int)) (h : Cud w base g L K p xs ys) (hl : ys.length ≤ 1000) (hbase : base ≤ w.heap.size) (hT : 1 ≤ p.T) (hT2 : p.T ≤ 1000) (x : Int × Int × Int) (hx0 : 0 ≤ x.1) (hx1 : x.1 ≤ 2305843009213693952) :
    Calls Try.prog 118 #[.pointer (some ⟨g, 0, none⟩), .agg #[.int .i64 x.1, .int .i64 x.2.1, .int .i64 x.2.2]] w fun e w' => e = .returned (.tuple #[]) ∧ CudK w' base g L p xs (oweL p.T x ys) ∧ Upd (fun k => k = g ∨ slBlk K = some k) w w' := by
  obtain ⟨i0, hi0, hz0, hz1, hz2⟩ := info_parts infoBackC
  obtain ⟨x0, x1, x2⟩ := x
  dsimp only at *
  have hgw : g < w.heap.size := h.b.lt
  have H := Lib.hid h; clear h
  by_cases hx : 0 < x2
  · have e0 : decide (0 < x2) = true := decide_eq_true hx
    have ho : oweL p.T (x0, x1, x2) ys = ys ++ [(x0 + p.T, x2)] := if_pos hx
    rw [ho]
    clear ho
    have HA := Lib.hid (H.out.alloc (.cells #[.int .i64 x0, .int .i64 x1, .int .i64 x2] 164))
    have BX := Lib.hid (Blk.new w 164 #[.int .i64 x0, .int .i64 x1, .int .i64 x2])
    have U0 := Lib.hid ((Upd.refl (fun k => k = g ∨ slBlk K = some k) w).alloc (.cells #[.int .i64 x0, .int .i64 x1, .int .i64 x2] 164))
    have hsz : base ≤ (w.alloc (.cells #[.int .i64 x0, .int .i64 x1, .int .i64 x2] 164)).heap.size := Nat.le_trans hbase U0.out.size
    go_enter Try.func118, Try.ntmps118
    go_wp2_with fail
    generalize hW : w.alloc (.cells #[.int .i64 x0, .int .i64 x1, .int .i64 x2] 164) = W at *
    have HW := Lib.hid hW; clear hW
    have b0 : W.cell? ⟨w.heap.size, 0, none⟩ = some (.int .i64 x0) := BX.out.cell 0
    have b2 : W.cell? ⟨w.heap.size, 2, none⟩ = some (.int .i64 x2) := BX.out.cell 2
    have c3 : W.cell? ⟨g, 3, none⟩ = some (.int .i64 p.T) := HA.out.b.cell 3
    have c5 : W.cell? ⟨g, 5, none⟩ = some K := HA.out.b.cell 5
    have HS : Hid (∀ o, SlR encB (W.drew.alloc o) base 169 2 K ys) := Lib.hid (fun o => (HA.out.k.drewN 1).alloc o)
    have HN : Hid (∀ j u, [Value.int .i64 (IntKind.i64.wrap (x0 + p.T)), .int .i64 x2][j]? = some u → (W.drew.alloc (.cells [Value.int .i64 (IntKind.i64.wrap (x0 + p.T)), .int .i64 x2].toArray 169)).cell? ((⟨W.drew.heap.size, 0, none⟩ : Addr).add j) = some u) := Lib.hid (fun j u hu => by
      rw [add_at, (Blk.new _ _ _).cell j]
      simpa using hu)
    have KA : Hid (∀ o, (W.drew.alloc o).cell? ⟨w.heap.size, 0, none⟩ = some (.int .i64 x0) ∧ (W.drew.alloc o).cell? ⟨w.heap.size, 2, none⟩ = some (.int .i64 x2) ∧ (W.drew.alloc o).cell? ⟨g, 3, none⟩ = some (.int .i64 p.T) ∧ (W.drew.alloc o).cell? ⟨g, 5, none⟩ = some K) := Lib.hid (fun o =>
      ⟨((BX.out.drewN 1).alloc o).cell 0, ((BX.out.drewN 1).alloc o).cell 2, ((HA.out.drewN 1).alloc o).b.cell 3, ((HA.out.drewN 1).alloc o).b.cell 5⟩)
    refine wp_region_seq (fun i => decide (i < 16)) (fun i => decide (18 ≤ i ∧ i < 21))
      (fun w' => w'.cell? ⟨w.heap.size, 0, none⟩ = some (.int .i64 x0) ∧ w'.cell? ⟨w.heap.size, 2, none⟩ = some (.int .i64 x2) ∧ w'.cell? ⟨g, 3, none⟩ = some (.int .i64 p.T) ∧ w'.cell? ⟨g, 5, none⟩ = some K)
      (by kernel_rfl) (by kernel_rfl) (fun t ht => (of_decide_eq_true ht).2) (fun _ _ _ _ _ h => h) (by kernel_rfl) ⟨b0, b2, c3, c5⟩ ?_
    iterate 16
      refine' wpSeq_q (by rfl) (by rfl) (fun w' hS' => ?_) ?_
      rotate_left
      · obtain ⟨s0, s1, s2, s3⟩ := hS'
        go_simp
        try rfl
      try simp only [Act.put, List.setIfInBounds_toArray, List.set_cons_zero, List.set_cons_succ]
    refine wpSeq_l (by rfl) (by rfl) (fun KQ hKQ => ?_)
    go_simp
    refine hKQ _ _ (.inr (KA.out _)) ?_
    clear hKQ KQ
    try simp only [Act.put, List.setIfInBounds_toArray, List.set_cons_zero, List.set_cons_succ]
    refine wpSeq_l (by rfl) (by rfl) (fun KQ hKQ => ?_)
    refine wp_append_sl (.tmp 11) (.tmp 23) 142 rfl base 169 i0 _ 2 16 Try.underlying142 hi0 hz0 hz1 hz2 rfl (by decide) K ys.length (rws encB ys) rfl (HS.out _) ⟨_, 0, none⟩ 1 [.int .i64 (IntKind.i64.wrap (x0 + p.T)), .int .i64 x2] rfl rfl HN.out (by simp [Value.oneCell']) (by unfold maxLen; omega) (by omega) (by simp; omega) ?_
    intro v' w1 hs1 hu1 hv1
    have B1 := Lib.hid (((HA.out.b.drewN 1).alloc _).upd hu1 (fun hk => HA.out.neK g hk rfl))
    have Y1 := Lib.hid (((BX.out.drewN 1).alloc _).upd hu1 (fun hk => by
      obtain ⟨_, _, cur, hc⟩ := Sl.blk HA.out.k _ hk
      exact hc.ne_ BX.out (by decide) rfl))
    have f5w := B1.out.frozen 5
    have c5w : w1.cell? ⟨g, 5, none⟩ = some K := B1.out.cell 5
    obtain ⟨bq, oq, cq, rfl, _, _, _, _⟩ := hs1.form (by omega)
    have S1 := Lib.hid hs1
    have X1 := Lib.hid hu1
    clear hs1 hu1 hv1
    refine hKQ _ _ (.inr ⟨Y1.out.cell 0, Y1.out.cell 2, B1.out.cell 3, B1.out.cell 5⟩) ?_
    clear hKQ KQ
    try simp only [Act.put, List.setIfInBounds_toArray, List.set_cons_zero, List.set_cons_succ]
    iterate 3
      refine wpSeq_l (by rfl) (by rfl) (fun KQ hKQ => ?_)
      go_simp
      refine hKQ _ _ (.inl (by rfl)) ?_
      clear hKQ KQ
      try simp only [Act.put, List.setIfInBounds_toArray, List.set_cons_zero, List.set_cons_succ]
    refine wpSeq_nil ?_
    go_wp2_with fail
    all_goals
      go_returns
      have hw := wrap_in (x0 + p.T) (by omega) (by omega)
      have hk : SlR encB w1 base 169 2 (.slice (some ⟨bq, oq, none⟩) (ys.length + 1) cq) (ys ++ [(x0 + p.T, x2)]) := by
        have := S1.out
        rw [hw] at this
        unfold SlR
        rw [List.length_append, rws_append]
        exact this
      have hL : SlR encC w1 base 164 3 L xs := ((HA.out.s.drewN 1).alloc _).upd X1.out (fun k hk e => HA.out.neLK k k hk e rfl)
      exact ⟨rfl, ⟨_, Cud.setK B1.out hL hk H.out.hg⟩, (U0.out.trans ((((Upd.refl (fun k => k = g ∨ slBlk K = some k) W).drew).alloc _).trans (X1.out.mono (fun k _ e => .inr e)))).setCell (p := ⟨g, 5, none⟩) (fun _ => .inl rfl) _⟩
  · have e0 : decide (0 < x2) = false := decide_eq_false hx
    have ho : oweL p.T (x0, x1, x2) ys = ys := if_neg hx
    rw [ho]
    clear ho
    go_enter Try.func118, Try.ntmps118
    go_wp2_with fail
    go_returns
    exact ⟨rfl, ⟨K, H.out.alloc _⟩, (Upd.refl _ w).alloc _⟩

theorem oweC (w : World) (base g : Nat) (L K : Value) (p : Cp) (xs : List (Int × Int × Int)) (ys : List (Int × Int)) (h : Cud w base g L K p xs ys) (hl : ys.length ≤ 1000) (hbase : base ≤ w.heap.size) (hT : 1 ≤ p.T) (hT2 : p.T ≤ 1000) (x : Int × Int × Int) (hx0 : 0 ≤ x.1) (hx1 : x.1 ≤ 2305843009213693952) :
    Calls Try.prog 118 #[.pointer (some ⟨g, 0, none⟩), .agg #[.int .i64 x.1, .int .i64 x.2.1, .int .i64 x.2.2]] w fun e w' => e = .returned (.tuple #[]) ∧ CudK w' base g L p xs (oweL p.T x ys) ∧ Tu base tsO w w' :=
  (oweU w base g L K p xs ys h hl hbase hT hT2 x hx0 hx1).mono fun _ _ ⟨h1, h2, h3⟩ => ⟨h1, h2, Tu.of h3 (fun k _ e => e.elim (fun e => by subst e; exact ⟨h.hg, _, _, h.b, by decide⟩) (fun e => h.tyKo k e))⟩
end Go.Proofs.Ytcgefncddbbnlaa.Ck
