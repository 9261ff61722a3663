/-
  A slice cut in two at a place, and a slice appended to another: whatever their shapes. No program in sight.
-/
import Derived.Test.YthjebjegedgoeaaRws
namespace Go.Proofs.Ythjebjegedgoeaa
open Go.RowKit
variable {P : Program} {w w' : World} {base size n k : Nat} {t ts : TypeId} {v : Value} {xs : List Value}

/-- 's[:k]' and 's[k:]': values, and what they hold. -/
theorem Sl.cut (hts : P.underlying ts = some (.slice (P.elem ts))) (hsz : ∀ w, (sizeOf (P.elem ts)).run P w = .ok size w) (h : Sl w base t size v n xs) (hk : k ≤ n) :
    ∃ v1 v2, (∀ w', (Instr.sliceAt ts v none (some (.int .i64 k)) none).run P w' = .ok v1 w') ∧ (∀ w', (Instr.sliceAt ts v (some (.int .i64 k)) none none).run P w' = .ok v2 w') ∧
      Sl w base t size v1 k (xs.take (k * size)) ∧ Sl w base t size v2 (n - k) (xs.drop (k * size)) ∧ (∀ q, slBlk v1 = some q → slBlk v = some q) ∧ ∀ q, slBlk v2 = some q → slBlk v = some q := by
  rcases h.2 with ⟨rfl, rfl⟩ | ⟨b, off, cap, cur, rfl, hb, hB, hn, hc, hsz', hx⟩
  · obtain rfl : k = 0 := by omega
    have hx0 : xs = [] := List.eq_nil_of_length_eq_zero (by simpa using h.1)
    subst hx0
    refine ⟨.slice none 0 0, .slice none 0 0, fun w' => ?_, fun w' => ?_, by simpa using Sl.nil w base t size, by simpa using Sl.nil w base t size, fun q hq => hq, fun q hq => hq⟩
    · rw [run_sliceAt_slice (h := hts), run_slice_h (ht := hts) (h0 := by omega) (h2 := by omega), hsz]
      simp [Result.andThen, sliced]
    · rw [run_sliceAt_slice (h := hts), run_slice_l (ht := hts) (h0 := by omega) (h1 := by omega), hsz]
      simp [Result.andThen, sliced]
  · have h0 := h.1
    have hle : k * size ≤ n * size := Nat.mul_le_mul_right _ hk
    have hcle : k * size ≤ cap * size := Nat.mul_le_mul_right _ (by omega)
    obtain ⟨g1, g2⟩ := Sl.headv (ys := xs.take (k * size)) hts hsz h hk rfl
    have g3 : ∀ w', (Instr.sliceAt ts (.slice (some ⟨b, off, none⟩) n cap) (some (.int .i64 (k : Int))) none none).run P w' = .ok (sliced (some ⟨b, off, none⟩) k n cap size) w' := fun w' => by
      rw [run_sliceAt_slice (h := hts), run_slice_l (ht := hts) (h0 := by omega) (h1 := by omega), hsz, Int.toNat_natCast]
      rfl
    refine ⟨_, _, g1, g3, g2, ?_, fun q hq => hq, fun q hq => ?_⟩
    · unfold sliced
      have hdl : (xs.drop (k * size)).length = (n - k) * size := by rw [List.length_drop, h0, Nat.sub_mul]
      by_cases e : cap = k
      · have hnk : n = k := by omega
        subst e
        rw [if_pos rfl]
        refine ⟨hdl, .inr ⟨b, off, cap - cap, cur, rfl, hb, hB, by omega, by omega, by rw [Nat.sub_self, Nat.zero_mul]; omega, fun j u hu => ?_⟩⟩
        rw [List.drop_eq_nil_of_le (by rw [h0, hnk]; exact Nat.le_refl _)] at hu
        simp at hu
      · rw [if_neg e]
        refine ⟨hdl, .inr ⟨b, off + k * size, cap - k, cur, by simp [Addr.add_lit], hb, hB, by omega, by omega, ?_, fun j u hu => ?_⟩⟩
        · rw [Nat.sub_mul]; omega
        · rw [List.getElem?_drop] at hu
          have := hx _ u hu
          rwa [show off + k * size + j = off + (k * size + j) by omega]
    · unfold sliced at hq
      split at hq
      · exact hq
      · simpa [slBlk, Addr.add_lit] using hq

/-- Any number of things more. -/
theorem run_append_sls (w : World) (base base' : Nat) (ts ty e : TypeId) (i : TypeInfo) (z : Value) (size bytes : Nat) (ht : P.underlying ts = some (.slice e)) (hi : P.info? e = some i) (hz : i.zero = some z)
    (hsize : i.size = size) (hby : i.bytes = bytes) (hzs : z.cells.size = size) (hsz : 0 < size) (v : Value) (n : Nat) (xs : List Value) (h : Sl w base e size v n xs)
    (x : Value) (m : Nat) (news : List Value) (hx : Sl w base' e size x m news) (h1 : ∀ u ∈ news, u.oneCell' = true)
    (h63 : n + m ≤ maxLen) (hbytes : (n + m) * bytes ≤ 140737488355328) (hbase : base ≤ w.heap.size) :
    ∃ v' w', (Builtin.append_ #[ts, ts] ty #[v, x]).run P w = .ok v' w' ∧ Sl w' base e size v' (n + m) (xs ++ news) ∧ Upd (fun k => slBlk v = some k) w w' ∧ ∀ k, slBlk v' = some k → slBlk v = some k ∨ w.heap.size ≤ k := by
  rcases hx.2 with ⟨rfl, rfl⟩ | ⟨ad, offx, c, curx, rfl, _, hBx, _, _, _, hxx⟩
  · have hn0 : news = [] := List.eq_nil_of_length_eq_zero (by simpa using hx.1)
    subst hn0
    obtain ⟨A, cp, rfl⟩ := h.shape
    refine ⟨.slice A n cp, w, ?_, by simpa using h, Upd.refl _ w, fun k hk => .inl hk⟩
    subst hsize
    rcases h.2 with ⟨he, h0⟩ | ⟨b, off, cap, cur, he, hb, hB, hnc, _⟩
    · injection he with h2 h3 h4
      subst h2 h3 h4
      simp [Builtin.append_, run_underlying ht, sizeOf, typeInfo, hi, Builtin.lenOf, Builtin.firstCells, storeCells]
    · injection he with h2 h3 h4
      subst h2 h4
      simp [Builtin.append_, run_underlying ht, sizeOf, typeInfo, hi, Builtin.lenOf, Builtin.firstCells, storeCells, hnc]
  · have hl : news.length = m * size := hx.1
    have hnews : ∀ j u, news[j]? = some u → w.cell? ((⟨ad, offx, none⟩ : Addr).add j) = some u := fun j u hu => by rw [Addr.add_lit, hBx.cell]; exact hxx j u hu
    subst hsize
    rcases h.2 with ⟨rfl, rfl⟩ | ⟨b, off, cap, cur, rfl, hb, hB, hn, hc, hsz', hx⟩
    · have hx0 : xs = [] := List.eq_nil_of_length_eq_zero (by simpa using h.1)
      subst hx0
      obtain ⟨v', w', hr, ho, hg, _⟩ := run_append_own (P := P) w w.heap.size ts ty e i z i.size bytes ht hi hz rfl hby hzs hsz (.slice none 0 0) 0 [] (World.ownsRow_nil w _ e i.size) ⟨ad, offx, none⟩ m c news hl hnews h1 h63 hbytes (Nat.le_refl _)
      refine ⟨v', w', hr, ?_, (Upd.refl _ w).grown hg (fun k hk _ => by cases hk), fun k hk => .inr ?_⟩
      · exact (Sl.own ho).mono hbase
      · exact ((Sl.own ho).blk k hk).1
    · by_cases hr : n + m ≤ cap
      · have hle : (n + m) * i.size ≤ cap * i.size := Nat.mul_le_mul_right _ hr
        rw [Nat.add_mul] at hle
        have hrun := run_append_room_cells (P := P) w ts ty e i ht hi b off n cap ⟨ad, offx, none⟩ m c news hl hnews h1 hr
          (fun j hj => by rw [hB.cell, Array.getElem?_eq_getElem (by omega)]; rfl) (fun j hj => hB.frozen _)
        obtain ⟨cs', g1, g2, g3, g4⟩ := blk_putCells b e news (off + n * i.size) w cur hB (by omega)
        refine ⟨_, _, hrun, ⟨by rw [List.length_append, h.1, hl, Nat.add_mul], .inr ⟨b, off, cap, cs', rfl, hb, g1, hr, hc, by omega, fun j u hu => ?_⟩⟩, upd_putCells b news _ w, fun k hk => .inl hk⟩
        rw [List.getElem?_append] at hu
        split at hu
        next hlt =>
          rw [g4 _ (by rw [h.1] at hlt; omega)]
          exact hx j u hu
        next hge =>
          have hj : j - xs.length < news.length := (List.getElem?_eq_some_iff.1 hu).1
          have := g3 (j - xs.length) hj
          rw [h.1] at this hge
          rw [show off + n * i.size + (j - n * i.size) = off + j by omega] at this
          rw [this, ← h.1]
          exact hu
      · obtain ⟨v', w', hrun, ho, hg⟩ := run_append_arg_grows (P := P) w ts ty e i z i.size bytes ht hi hz rfl hby hzs hsz ⟨b, off, none⟩ n cap xs h.1
          (fun j u hu => by rw [Addr.add_lit, hB.cell]; exact hx j u hu) ⟨ad, offx, none⟩ m c news hl hnews (by omega) h63 hbytes
        exact ⟨v', w', hrun, (Sl.own ho).mono hbase, (Upd.refl _ w).grown hg (fun k hk _ => by cases hk), fun k hk => .inr ((Sl.own ho).blk k hk).1⟩

theorem wp_append_sls {o : Oper} {a : Act} {K : Act → World → Prop} {Q : Exit → Act → World → Prop} (s xo : Operand) (ts : TypeId)
    (ho : o.op = .call { callee := .builtin .append, args := #[s, xo], argTypes := #[ts, ts] })
    (base base' : Nat) (e : TypeId) (i : TypeInfo) (z : Value) (size bytes : Nat) (ht : P.underlying ts = some (.slice e)) (hi : P.info? e = some i) (hz : i.zero = some z)
    (hsize : i.size = size) (hby : i.bytes = bytes) (hzs : z.cells.size = size) (hsz : 0 < size)
    (v : Value) (n : Nat) (xs : List Value) (hs : a.eval s = v) (hown : Sl w base e size v n xs)
    (x : Value) (m : Nat) (news : List Value) (hxe : a.eval xo = x) (hx : Sl w base' e size x m news) (h1 : ∀ u ∈ news, u.oneCell' = true)
    (h63 : n + m ≤ maxLen) (hbytes : (n + m) * bytes ≤ 140737488355328) (hbase : base ≤ w.heap.size)
    (h : ∀ v' w', Sl w' base e size v' (n + m) (xs ++ news) → Upd (fun k => slBlk v = some k) w w' → (∀ k, slBlk v' = some k → slBlk v = some k ∨ w.heap.size ≤ k) → K (a.put o.dst v') w') : o.wp P a w K Q := by
  obtain ⟨v', w', hrun, r1, r2, r3⟩ := run_append_sls (P := P) w base base' ts o.type e i z size bytes ht hi hz hsize hby hzs hsz v n xs hown x m news hx h1 h63 hbytes hbase
  unfold Oper.wp execOp
  simp only [ho, resolve, invoke, builtin, Sem.run_bind, Sem.run_pure, Result.andThen_ok, List.map_toArray, List.map_cons, List.map_nil, hs, hxe, hrun]
  exact h v' w' r1 r2 r3
theorem wpList_append_sls {ops : Array Oper} {rest : List Oper} {o : Oper} {a : Act} {Q : Exit → Act → World → Prop} (hgd : o.guard = none) (s xo : Operand) (ts : TypeId)
    (ho : o.op = .call { callee := .builtin .append, args := #[s, xo], argTypes := #[ts, ts] })
    (base base' : Nat) (e : TypeId) (i : TypeInfo) (z : Value) (size bytes : Nat) (ht : P.underlying ts = some (.slice e)) (hi : P.info? e = some i) (hz : i.zero = some z)
    (hsize : i.size = size) (hby : i.bytes = bytes) (hzs : z.cells.size = size) (hsz : 0 < size)
    (v : Value) (n : Nat) (xs : List Value) (hs : a.eval s = v) (hown : Sl w base e size v n xs)
    (x : Value) (m : Nat) (news : List Value) (hxe : a.eval xo = x) (hx : Sl w base' e size x m news) (h1 : ∀ u ∈ news, u.oneCell' = true)
    (h63 : n + m ≤ maxLen) (hbytes : (n + m) * bytes ≤ 140737488355328) (hbase : base ≤ w.heap.size)
    (h : ∀ v' w', Sl w' base e size v' (n + m) (xs ++ news) → Upd (fun k => slBlk v = some k) w w' → (∀ k, slBlk v' = some k → slBlk v = some k ∨ w.heap.size ≤ k) → wpList P ops Q rest (a.put o.dst v') w') : wpList P ops Q (o :: rest) a w := by
  refine wpList_plain hgd fun K hK => ?_
  obtain ⟨v', w', hrun, r1, r2, r3⟩ := run_append_sls (P := P) w base base' ts o.type e i z size bytes ht hi hz hsize hby hzs hsz v n xs hown x m news hx h1 h63 hbytes hbase
  unfold Oper.wp
  simp [execOp, ho, resolve, invoke, builtin, hs, hxe, hrun, Result.andThen]
  exact hK _ _ (h v' w' r1 r2 r3)
end Go.Proofs.Ythjebjegedgoeaa
