/-
  Appended: what lies in a slice that came in. No program in sight.
-/
import Derived.Test.YthjebjegedgoeaaSlM
namespace Go.Proofs.Ythjebjegedgoeaa
open Go.RowKit
variable {P : Program} {w w' : World}

/-- Any number of things more, out of a slice that came in, nil or not. -/
theorem run_append_rows (w : World) (base : Nat) (ts ty e : TypeId) (i : TypeInfo) (z : Value) (size bytes : Nat) (ht : P.underlying ts = some (.slice e)) (hi : P.info? e = some i) (hz : i.zero = some z)
    (hsize : i.size = size) (hby : i.bytes = bytes) (hzs : z.cells.size = size) (hsz : 0 < size) (v : Value) (n : Nat) (xs : List Value) (h : Sl w base e size v n xs)
    (A0 : Option Addr) (m c : Nat) (news : List Value) (hl : news.length = m * size) (hrw : ∀ j u, news[j]? = some u → ∃ b o, A0 = some ⟨b, o, none⟩ ∧ w.cell? ⟨b, o + j, none⟩ = some u) (h1 : ∀ u ∈ news, u.oneCell' = true)
    (h63 : n + m ≤ maxLen) (hbytes : (n + m) * bytes ≤ 140737488355328) (hbase : base ≤ w.heap.size) :
    ∃ v' w', (Builtin.append_ #[ts, ts] ty #[v, .slice A0 m c]).run P w = .ok v' w' ∧ Sl w' base e size v' (n + m) (xs ++ news) ∧ Upd (fun k => slBlk v = some k) w w' ∧ ∀ k, slBlk v' = some k → slBlk v = some k ∨ w.heap.size ≤ k := by
  by_cases hm : m = 0
  · subst hm
    have hn0 : news = [] := List.eq_nil_of_length_eq_zero (by simpa using hl)
    subst hn0
    obtain ⟨A, cp, rfl⟩ := h.shape
    refine ⟨.slice A n cp, w, ?_, by simpa using h, Upd.refl _ w, fun k hk => .inl hk⟩
    subst hsize
    have hu := run_underlying (P := P) ht
    rcases h.2 with ⟨he, h0⟩ | ⟨b, off, cap, cur, he, hb, hB, hnc, _⟩
    · injection he with h2 h3 h4
      subst h2 h3 h4
      cases A0 with
      | none => simp [Builtin.append_, hu, sizeOf, typeInfo, hi, Builtin.lenOf, Builtin.firstCells, storeCells]
      | some a =>
        have hz := run_loadCells_list (P := P) (w := w) a [] (by simp)
        simp only [List.length_nil] at hz
        simp [Builtin.append_, hu, sizeOf, typeInfo, hi, Builtin.lenOf, Builtin.firstCells, storeCells, hz]
    · injection he with h2 h3 h4
      subst h2 h4
      cases A0 with
      | none => simp [Builtin.append_, hu, sizeOf, typeInfo, hi, Builtin.lenOf, Builtin.firstCells, storeCells, hnc]
      | some a =>
        have hz := run_loadCells_list (P := P) (w := w) a [] (by simp)
        simp only [List.length_nil] at hz
        simp [Builtin.append_, hu, sizeOf, typeInfo, hi, Builtin.lenOf, Builtin.firstCells, storeCells, hnc, hz]
  · have hpos : 0 < news.length := by rw [hl]; exact Nat.mul_pos (by omega) hsz
    obtain ⟨u0, hu0⟩ : ∃ u, news[0]? = some u := ⟨_, List.getElem?_eq_getElem hpos⟩
    obtain ⟨ad, offx, rfl, _⟩ := hrw 0 u0 hu0
    have hnews : ∀ j u, news[j]? = some u → w.cell? ((⟨ad, offx, none⟩ : Addr).add j) = some u := fun j u hu => by
      obtain ⟨b, o, e, hc⟩ := hrw j u hu
      injection e with e
      injection e with e1 e2
      subst e1 e2
      rw [Addr.add_lit]
      exact hc
    subst hsize
    rcases h.2 with ⟨rfl, rfl⟩ | ⟨b, off, cap, cur, rfl, hb, hB, hn, hc, hsz', hx⟩
    · have hx0 : xs = [] := List.eq_nil_of_length_eq_zero (by simpa using h.1)
      subst hx0
      obtain ⟨v', w', hr, ho, hg, _⟩ := run_append_own (P := P) w w.heap.size ts ty e i z i.size bytes ht hi hz rfl hby hzs hsz (.slice none 0 0) 0 [] (World.ownsRow_nil w _ e i.size) ⟨ad, offx, none⟩ m c news hl hnews h1 h63 hbytes (Nat.le_refl _)
      refine ⟨v', w', hr, ?_, (Upd.refl _ w).grown hg (fun k hk _ => by cases hk), fun k hk => .inr ?_⟩
      · exact (Sl.own ho).mono hbase
      · exact ((Sl.own ho).blk k hk).1
    · by_cases hr : n + m ≤ cap
      · have hle : (n + m) * i.size ≤ cap * i.size := Nat.mul_le_mul_right _ hr
        rw [Nat.add_mul] at hle
        have hrun := run_append_room_cells (P := P) w ts ty e i ht hi b off n cap ⟨ad, offx, none⟩ m c news hl hnews h1 hr
          (fun j hj => by rw [hB.cell, Array.getElem?_eq_getElem (by omega)]; rfl) (fun j hj => hB.frozen _)
        obtain ⟨cs', g1, g2, g3, g4⟩ := blk_putCells b e news (off + n * i.size) w cur hB (by omega)
        refine ⟨_, _, hrun, ⟨by rw [List.length_append, h.1, hl, Nat.add_mul], .inr ⟨b, off, cap, cs', rfl, hb, g1, hr, hc, by omega, fun j u hu => ?_⟩⟩, upd_putCells b news _ w, fun k hk => .inl hk⟩
        rw [List.getElem?_append] at hu
        split at hu
        next hlt =>
          rw [g4 _ (by rw [h.1] at hlt; omega)]
          exact hx j u hu
        next hge =>
          have hj : j - xs.length < news.length := (List.getElem?_eq_some_iff.1 hu).1
          have := g3 (j - xs.length) hj
          rw [h.1] at this hge
          rw [show off + n * i.size + (j - n * i.size) = off + j by omega] at this
          rw [this, ← h.1]
          exact hu
      · obtain ⟨v', w', hrun, ho, hg⟩ := run_append_arg_grows (P := P) w ts ty e i z i.size bytes ht hi hz rfl hby hzs hsz ⟨b, off, none⟩ n cap xs h.1
          (fun j u hu => by rw [Addr.add_lit, hB.cell]; exact hx j u hu) ⟨ad, offx, none⟩ m c news hl hnews (by omega) h63 hbytes
        exact ⟨v', w', hrun, (Sl.own ho).mono hbase, (Upd.refl _ w).grown hg (fun k hk _ => by cases hk), fun k hk => .inr ((Sl.own ho).blk k hk).1⟩

theorem wp_append_rows {o : Oper} {a : Act} {K : Act → World → Prop} {Q : Exit → Act → World → Prop} (s xo : Operand) (ts : TypeId)
    (ho : o.op = .call { callee := .builtin .append, args := #[s, xo], argTypes := #[ts, ts] })
    (base : Nat) (e : TypeId) (i : TypeInfo) (z : Value) (size bytes : Nat) (ht : P.underlying ts = some (.slice e)) (hi : P.info? e = some i) (hz : i.zero = some z)
    (hsize : i.size = size) (hby : i.bytes = bytes) (hzs : z.cells.size = size) (hsz : 0 < size)
    (v : Value) (n : Nat) (xs : List Value) (hs : a.eval s = v) (hown : Sl w base e size v n xs)
    (A0 : Option Addr) (m c : Nat) (news : List Value) (hxe : a.eval xo = .slice A0 m c) (hl : news.length = m * size) (hrw : ∀ j u, news[j]? = some u → ∃ b o, A0 = some ⟨b, o, none⟩ ∧ w.cell? ⟨b, o + j, none⟩ = some u) (h1 : ∀ u ∈ news, u.oneCell' = true)
    (h63 : n + m ≤ maxLen) (hbytes : (n + m) * bytes ≤ 140737488355328) (hbase : base ≤ w.heap.size)
    (h : ∀ v' w', Sl w' base e size v' (n + m) (xs ++ news) → Upd (fun k => slBlk v = some k) w w' → (∀ k, slBlk v' = some k → slBlk v = some k ∨ w.heap.size ≤ k) → K (a.put o.dst v') w') : o.wp P a w K Q := by
  obtain ⟨v', w', hrun, r1, r2, r3⟩ := run_append_rows (P := P) w base ts o.type e i z size bytes ht hi hz hsize hby hzs hsz v n xs hown A0 m c news hl hrw h1 h63 hbytes hbase
  unfold Oper.wp execOp
  simp only [ho, resolve, invoke, builtin, Sem.run_bind, Sem.run_pure, Result.andThen_ok, List.map_toArray, List.map_cons, List.map_nil, hs, hxe, hrun]
  exact h v' w' r1 r2 r3
theorem wpList_append_rows {ops : Array Oper} {rest : List Oper} {o : Oper} {a : Act} {Q : Exit → Act → World → Prop} (hgd : o.guard = none) (s xo : Operand) (ts : TypeId)
    (ho : o.op = .call { callee := .builtin .append, args := #[s, xo], argTypes := #[ts, ts] })
    (base : Nat) (e : TypeId) (i : TypeInfo) (z : Value) (size bytes : Nat) (ht : P.underlying ts = some (.slice e)) (hi : P.info? e = some i) (hz : i.zero = some z)
    (hsize : i.size = size) (hby : i.bytes = bytes) (hzs : z.cells.size = size) (hsz : 0 < size)
    (v : Value) (n : Nat) (xs : List Value) (hs : a.eval s = v) (hown : Sl w base e size v n xs)
    (A0 : Option Addr) (m c : Nat) (news : List Value) (hxe : a.eval xo = .slice A0 m c) (hl : news.length = m * size) (hrw : ∀ j u, news[j]? = some u → ∃ b o, A0 = some ⟨b, o, none⟩ ∧ w.cell? ⟨b, o + j, none⟩ = some u) (h1 : ∀ u ∈ news, u.oneCell' = true)
    (h63 : n + m ≤ maxLen) (hbytes : (n + m) * bytes ≤ 140737488355328) (hbase : base ≤ w.heap.size)
    (h : ∀ v' w', Sl w' base e size v' (n + m) (xs ++ news) → Upd (fun k => slBlk v = some k) w w' → (∀ k, slBlk v' = some k → slBlk v = some k ∨ w.heap.size ≤ k) → wpList P ops Q rest (a.put o.dst v') w') : wpList P ops Q (o :: rest) a w := by
  refine wpList_plain hgd fun K hK => ?_
  obtain ⟨v', w', hrun, r1, r2, r3⟩ := run_append_rows (P := P) w base ts o.type e i z size bytes ht hi hz hsize hby hzs hsz v n xs hown A0 m c news hl hrw h1 h63 hbytes hbase
  unfold Oper.wp
  simp [execOp, ho, resolve, invoke, builtin, hs, hxe, hrun, Result.andThen]
  exact hK _ _ (h v' w' r1 r2 r3)
end Go.Proofs.Ythjebjegedgoeaa
