/-
  A slice that lies in a block of the call's own, from wherever in it: read, written in place, cut short at its head, appended to. No program in sight.
-/
import Derived.Test.YtcgefncddbbnlaaLib
import Derived.ArgAppend
namespace Go.Proofs.Ytcgefncddbbnlaa
open Go.RowKit
variable {P : Program} {w w' : World} {base size n : Nat} {t : TypeId} {v : Value} {xs : List Value}

/-- The block in which a slice lies. -/
def slBlk : Value → Option Nat
  | .slice (some a) _ _ => some a.block
  | _ => none

/-- The slice v holds the n things whose cells are xs; it lies in a block of whole cells of type t, from base on. -/
def Sl (w : World) (base : Nat) (t : TypeId) (size : Nat) (v : Value) (n : Nat) (xs : List Value) : Prop :=
  xs.length = n * size ∧ ((v = .slice none 0 0 ∧ n = 0) ∨ ∃ b off cap cur, v = .slice (some ⟨b, off, none⟩) n cap ∧ base ≤ b ∧ Blk w b t cur ∧ n ≤ cap ∧ cap ≤ maxLen ∧ off + cap * size ≤ cur.size ∧ ∀ j u, xs[j]? = some u → cur[off + j]? = some u)

theorem Sl.nil (w : World) (base : Nat) (t : TypeId) (size : Nat) : Sl w base t size (.slice none 0 0) 0 [] := ⟨by simp, .inl ⟨rfl, rfl⟩⟩

theorem Sl.upd {S : Nat → Prop} (h : Sl w base t size v n xs) (hu : Upd S w w') (hs : ∀ k, slBlk v = some k → ¬ S k) : Sl w' base t size v n xs := by
  refine ⟨h.1, h.2.imp id ?_⟩
  rintro ⟨b, off, cap, cur, rfl, h1, h2, h3⟩
  exact ⟨b, off, cap, cur, rfl, h1, h2.upd hu (hs b rfl), h3⟩
theorem Sl.drewN (h : Sl w base t size v n xs) (k : Nat) : Sl (w.drewN k) base t size v n xs := h.upd ((Upd.refl (fun _ => False) w).drewN k) (fun _ _ h => h)
theorem Sl.alloc (h : Sl w base t size v n xs) (o : Obj) : Sl (w.alloc o) base t size v n xs := h.upd ((Upd.refl (fun _ => False) w).alloc o) (fun _ _ h => h)

theorem Sl.blk (h : Sl w base t size v n xs) (k : Nat) (hk : slBlk v = some k) : base ≤ k ∧ k < w.heap.size ∧ ∃ cur, Blk w k t cur := by
  rcases h.2 with ⟨rfl, _⟩ | ⟨b, off, cap, cur, rfl, h1, h2, _⟩
  · cases hk
  · have : b = k := by simpa [slBlk] using hk
    subst this
    exact ⟨h1, h2.lt, cur, h2⟩
theorem Sl.ne_ {g : Nat} {t' : TypeId} {cs : Array Value} (h : Sl w base t size v n xs) (hg : Blk w g t' cs) (hne : t ≠ t') : ∀ k, slBlk v = some k → k ≠ g := fun k hk => by
  obtain ⟨_, _, cur, hc⟩ := h.blk k hk
  exact hc.ne_ hg hne
theorem Sl.mono {base' : Nat} (h : Sl w base t size v n xs) (hb : base' ≤ base) : Sl w base' t size v n xs := by
  refine ⟨h.1, h.2.imp id ?_⟩
  rintro ⟨b, off, cap, cur, rfl, h1, h2⟩
  exact ⟨b, off, cap, cur, rfl, Nat.le_trans hb h1, h2⟩
theorem Sl.own (h : w.ownsRow base t size v n xs) : Sl w base t size v n xs := by
  refine ⟨h.1, h.2.imp id ?_⟩
  rintro ⟨g, cap, cur, rfl, h1, h2, h3, h4, h5, h6⟩
  refine ⟨g, 0, cap, cur, rfl, h1, h2, h3, h4, by omega, fun j u hu => ?_⟩
  rw [Nat.zero_add, ← Array.getElem?_toList]
  rw [← h6, List.getElem?_take] at hu
  split at hu
  · exact hu
  · cases hu

/-- What it looks like when it holds something. -/
theorem Sl.form (h : Sl w base t size v n xs) (hn : 0 < n) : ∃ b off cap, v = .slice (some ⟨b, off, none⟩) n cap ∧ base ≤ b ∧ b < w.heap.size ∧ n ≤ cap ∧ cap ≤ maxLen := by
  rcases h.2 with ⟨_, h0⟩ | ⟨b, off, cap, cur, rfl, h1, h2, h3, h4, _⟩
  · omega
  · exact ⟨b, off, cap, rfl, h1, h2.lt, h3, h4⟩
theorem Sl.shape (h : Sl w base t size v n xs) : ∃ A cap, v = .slice A n cap := by
  rcases h.2 with ⟨rfl, rfl⟩ | ⟨b, off, cap, cur, rfl, _⟩
  · exact ⟨none, 0, rfl⟩
  · exact ⟨_, cap, rfl⟩

section
variable {b off cap : Nat}
theorem Sl.parts (h : Sl w base t size (.slice (some ⟨b, off, none⟩) n cap) n xs) : xs.length = n * size ∧ base ≤ b ∧ n ≤ cap ∧ cap ≤ maxLen ∧ ∃ cur, Blk w b t cur ∧ off + cap * size ≤ cur.size ∧ ∀ j u, xs[j]? = some u → cur[off + j]? = some u := by
  refine ⟨h.1, ?_⟩
  rcases h.2 with ⟨h1, _⟩ | ⟨b', off', cap', cur, h0, h1, h2, h3, h4, h5, h6⟩
  · cases h1
  · injection h0 with e1 _ e3
    injection e1 with e1
    injection e1 with e1 e2
    subst e1 e2 e3
    exact ⟨h1, h3, h4, cur, h2, h5, h6⟩
theorem Sl.cell (h : Sl w base t size (.slice (some ⟨b, off, none⟩) n cap) n xs) (j : Nat) (u : Value) (hu : xs[j]? = some u) : w.cell? ⟨b, off + j, none⟩ = some u := by
  obtain ⟨_, _, _, _, cur, h1, _, h2⟩ := h.parts
  rw [h1.cell]
  exact h2 j u hu
theorem Sl.frozen (h : Sl w base t size (.slice (some ⟨b, off, none⟩) n cap) n xs) (j : Nat) : w.frozen? ⟨b, j, none⟩ = false := by
  obtain ⟨_, _, _, _, cur, h1, _⟩ := h.parts
  exact h1.frozen j
theorem Sl.set_ (h : Sl w base t size (.slice (some ⟨b, off, none⟩) n cap) n xs) (j : Nat) (hj : j < n * size) (u : Value) : Sl (w.setCell ⟨b, off + j, none⟩ u) base t size (.slice (some ⟨b, off, none⟩) n cap) n (xs.set j u) := by
  obtain ⟨h0, hb, hn, hc, cur, h1, h2, h3⟩ := h.parts
  have hle : n * size ≤ cap * size := Nat.mul_le_mul_right _ hn
  refine ⟨by rw [List.length_set]; exact h0, .inr ⟨b, off, cap, _, rfl, hb, h1.set_ (off + j) u, hn, hc, by simpa using h2, fun i x hx => ?_⟩⟩
  by_cases e : i = j
  · subst e
    rw [List.getElem?_set_self (by omega)] at hx
    rw [Array.getElem?_setIfInBounds_self_of_lt (by omega)]
    exact hx
  · rw [List.getElem?_set_ne (fun g => e g.symm)] at hx
    rw [Array.getElem?_setIfInBounds_ne (by omega)]
    exact h3 i x hx
/-- Its tail, where it has room for more than one. -/
theorem Sl.tail {m : Nat} {ys : List Value} (h : Sl w base t size (.slice (some ⟨b, off, none⟩) (m + 1) cap) (m + 1) xs) (hy : xs.drop size = ys) (hc1 : cap ≠ 1) : Sl w base t size (.slice (some ⟨b, off + size, none⟩) m (cap - 1)) m ys := by
  subst hy
  obtain ⟨h0, hb, hn, hc, cur, h1, h2, h3⟩ := h.parts
  rw [Nat.add_mul, Nat.one_mul] at h0
  have hcc : cap * size = (cap - 1) * size + size := by
    obtain ⟨c, rfl⟩ : ∃ c, cap = c + 1 := ⟨cap - 1, by omega⟩
    rw [Nat.add_mul, Nat.one_mul, Nat.add_sub_cancel]
  refine ⟨by rw [List.length_drop]; omega, .inr ⟨b, off + size, cap - 1, cur, rfl, hb, h1, by omega, by omega, by omega, fun j u hu => ?_⟩⟩
  rw [List.getElem?_drop] at hu
  have := h3 _ u hu
  rwa [show off + size + j = off + (size + j) by omega]
/-- Its tail, where it has room for one alone. -/
theorem Sl.tail1 {m : Nat} (h : Sl w base t size (.slice (some ⟨b, off, none⟩) (m + 1) 1) (m + 1) xs) : m = 0 ∧ xs.drop size = [] ∧ Sl w base t size (.slice (some ⟨b, off, none⟩) 0 0) 0 [] := by
  obtain ⟨h0, hb, hn, hc, cur, h1, h2, h3⟩ := h.parts
  obtain rfl : m = 0 := by omega
  refine ⟨rfl, List.drop_eq_nil_of_le (by omega), by simp, .inr ⟨b, off, 0, cur, rfl, hb, h1, Nat.le_refl _, Nat.zero_le _, by omega, fun j u hu => by simp at hu⟩⟩
end

theorem blk_putCells (d : Nat) (t : TypeId) : ∀ (vs : List Value) (o : Nat) (w : World) (cs : Array Value), Blk w d t cs → o + vs.length ≤ cs.size →
    ∃ cs', Blk (w.setCells d o vs) d t cs' ∧ cs'.size = cs.size ∧ (∀ j, j < vs.length → cs'[o + j]? = vs[j]?) ∧ ∀ j, j < o → cs'[j]? = cs[j]?
  | [], o, w, cs, h, _ => ⟨cs, h, rfl, fun j hj => by simp at hj, fun _ _ => rfl⟩
  | z :: vs, o, w, cs, h, hle => by
    have hle' : o + 1 + vs.length ≤ cs.size := by simpa [Nat.add_assoc, Nat.add_comm 1] using hle
    obtain ⟨cs', h1, h2, h3, h4⟩ := blk_putCells d t vs (o + 1) _ _ (h.set_ o z) (by simpa using hle')
    refine ⟨cs', h1, by simpa using h2, fun j hj => ?_, fun j hj => ?_⟩
    · cases j with
      | zero =>
        have := h4 o (by omega)
        rw [Nat.add_zero, this, Array.getElem?_setIfInBounds_self_of_lt (by omega)]
        rfl
      | succ j =>
        rw [show o + (j + 1) = o + 1 + j by omega, h3 j (by simpa using hj)]
        rfl
    · rw [h4 j (by omega), Array.getElem?_setIfInBounds_ne (by omega)]

theorem upd_putCells (d : Nat) : ∀ (vs : List Value) (o : Nat) (w : World), Upd (fun k => some d = some k) w (w.setCells d o vs)
  | [], _, w => Upd.refl _ w
  | v :: vs, o, w => ((Upd.refl (fun k => some d = some k) w).setCell (p := ⟨d, o, none⟩) (fun _ => rfl) v).trans (upd_putCells d vs (o + 1) _)

/-- One thing more. -/
theorem run_append_sl (w : World) (base : Nat) (ts ty e : TypeId) (i : TypeInfo) (z : Value) (size bytes : Nat) (ht : P.underlying ts = some (.slice e)) (hi : P.info? e = some i) (hz : i.zero = some z)
    (hsize : i.size = size) (hby : i.bytes = bytes) (hzs : z.cells.size = size) (hsz : 0 < size) (v : Value) (n : Nat) (xs : List Value) (h : Sl w base e size v n xs)
    (ad : Addr) (c : Nat) (news : List Value) (hl : news.length = 1 * size) (hnews : ∀ j u, news[j]? = some u → w.cell? (ad.add j) = some u) (h1 : ∀ u ∈ news, u.oneCell' = true)
    (h63 : n + 1 ≤ maxLen) (hbytes : (n + 1) * bytes ≤ 140737488355328) (hbase : base ≤ w.heap.size) :
    ∃ v' w', (Builtin.append_ #[ts, ts] ty #[v, .slice (some ad) 1 c]).run P w = .ok v' w' ∧ Sl w' base e size v' (n + 1) (xs ++ news) ∧ Upd (fun k => slBlk v = some k) w w' ∧ ∀ k, slBlk v' = some k → slBlk v = some k ∨ w.heap.size ≤ k := by
  subst hsize
  rcases h.2 with ⟨rfl, rfl⟩ | ⟨b, off, cap, cur, rfl, hb, hB, hn, hc, hsz', hx⟩
  · have hx0 : xs = [] := List.eq_nil_of_length_eq_zero (by simpa using h.1)
    subst hx0
    obtain ⟨v', w', hr, ho, hg, _⟩ := run_append_own (P := P) w w.heap.size ts ty e i z i.size bytes ht hi hz rfl hby hzs hsz (.slice none 0 0) 0 [] (World.ownsRow_nil w _ e i.size) ad 1 c news hl hnews h1 (by simpa using h63) (by simpa using hbytes) (Nat.le_refl _)
    refine ⟨v', w', hr, ?_, (Upd.refl _ w).grown hg (fun k hk _ => by cases hk), fun k hk => .inr ?_⟩
    · have := (Sl.own ho).mono hbase
      simpa using this
    · exact ((Sl.own ho).blk k hk).1
  · by_cases hr : n + 1 ≤ cap
    · have hle : (n + 1) * i.size ≤ cap * i.size := Nat.mul_le_mul_right _ hr
      rw [Nat.add_mul, Nat.one_mul] at hle
      have hnl : news.length = i.size := by rw [hl, Nat.one_mul]
      have hrun := run_append_room_cells (P := P) w ts ty e i ht hi b off n cap ad 1 c news hl hnews h1 hr
        (fun j hj => by rw [hB.cell, Array.getElem?_eq_getElem (by omega)]; rfl) (fun j hj => hB.frozen _)
      obtain ⟨cs', g1, g2, g3, g4⟩ := blk_putCells b e news (off + n * i.size) w cur hB (by omega)
      refine ⟨_, _, hrun, ⟨by rw [List.length_append, h.1, hnl, Nat.add_mul, Nat.one_mul], .inr ⟨b, off, cap, cs', rfl, hb, g1, hr, hc, by omega, fun j u hu => ?_⟩⟩, upd_putCells b news _ w, fun k hk => .inl hk⟩
      rw [List.getElem?_append] at hu
      split at hu
      next hlt =>
        rw [g4 _ (by rw [h.1] at hlt; omega)]
        exact hx j u hu
      next hge =>
        have hj : j - xs.length < news.length := (List.getElem?_eq_some_iff.1 hu).1
        have := g3 (j - xs.length) hj
        rw [h.1] at this hge
        rw [show off + n * i.size + (j - n * i.size) = off + j by omega] at this
        rw [this, ← h.1]
        exact hu
    · obtain ⟨v', w', hrun, ho, hg⟩ := run_append_arg_grows (P := P) w ts ty e i z i.size bytes ht hi hz rfl hby hzs hsz ⟨b, off, none⟩ n cap xs h.1
        (fun j u hu => by rw [Addr.add_lit, hB.cell]; exact hx j u hu) ad 1 c news hl hnews (by omega) h63 hbytes
      exact ⟨v', w', hrun, (Sl.own ho).mono hbase, (Upd.refl _ w).grown hg (fun k hk _ => by cases hk), fun k hk => .inr ((Sl.own ho).blk k hk).1⟩

/-- .. for the walk. -/
theorem wpList_append_sl {ops : Array Oper} {rest : List Oper} {o : Oper} {a : Act} {Q : Exit → Act → World → Prop} (hgd : o.guard = none) (s x : Operand) (ts : TypeId)
    (ho : o.op = .call { callee := .builtin .append, args := #[s, x], argTypes := #[ts, ts] })
    (base : Nat) (e : TypeId) (i : TypeInfo) (z : Value) (size bytes : Nat) (ht : P.underlying ts = some (.slice e)) (hi : P.info? e = some i) (hz : i.zero = some z)
    (hsize : i.size = size) (hby : i.bytes = bytes) (hzs : z.cells.size = size) (hsz : 0 < size)
    (v : Value) (n : Nat) (xs : List Value) (hs : a.eval s = v) (hown : Sl w base e size v n xs)
    (ad : Addr) (c : Nat) (news : List Value) (hx : a.eval x = .slice (some ad) 1 c) (hl : news.length = 1 * size) (hnews : ∀ j u, news[j]? = some u → w.cell? (ad.add j) = some u) (h1 : ∀ u ∈ news, u.oneCell' = true)
    (h63 : n + 1 ≤ maxLen) (hbytes : (n + 1) * bytes ≤ 140737488355328) (hbase : base ≤ w.heap.size)
    (h : ∀ v' w', Sl w' base e size v' (n + 1) (xs ++ news) → Upd (fun k => slBlk v = some k) w w' → (∀ k, slBlk v' = some k → slBlk v = some k ∨ w.heap.size ≤ k) → wpList P ops Q rest (a.put o.dst v') w') : wpList P ops Q (o :: rest) a w := by
  refine wpList_plain hgd fun K hK => ?_
  obtain ⟨v', w', hrun, r1, r2, r3⟩ := run_append_sl (P := P) w base ts o.type e i z size bytes ht hi hz hsize hby hzs hsz v n xs hown ad c news hl hnews h1 h63 hbytes hbase
  unfold Oper.wp
  simp [execOp, ho, resolve, invoke, builtin, hs, hx, hrun, Result.andThen]
  exact hK _ _ (h v' w' r1 r2 r3)

theorem wp_append_sl {o : Oper} {a : Act} {K : Act → World → Prop} {Q : Exit → Act → World → Prop} (s x : Operand) (ts : TypeId)
    (ho : o.op = .call { callee := .builtin .append, args := #[s, x], argTypes := #[ts, ts] })
    (base : Nat) (e : TypeId) (i : TypeInfo) (z : Value) (size bytes : Nat) (ht : P.underlying ts = some (.slice e)) (hi : P.info? e = some i) (hz : i.zero = some z)
    (hsize : i.size = size) (hby : i.bytes = bytes) (hzs : z.cells.size = size) (hsz : 0 < size)
    (v : Value) (n : Nat) (xs : List Value) (hs : a.eval s = v) (hown : Sl w base e size v n xs)
    (ad : Addr) (c : Nat) (news : List Value) (hx : a.eval x = .slice (some ad) 1 c) (hl : news.length = 1 * size) (hnews : ∀ j u, news[j]? = some u → w.cell? (ad.add j) = some u) (h1 : ∀ u ∈ news, u.oneCell' = true)
    (h63 : n + 1 ≤ maxLen) (hbytes : (n + 1) * bytes ≤ 140737488355328) (hbase : base ≤ w.heap.size)
    (h : ∀ v' w', Sl w' base e size v' (n + 1) (xs ++ news) → Upd (fun k => slBlk v = some k) w w' → (∀ k, slBlk v' = some k → slBlk v = some k ∨ w.heap.size ≤ k) → K (a.put o.dst v') w') : o.wp P a w K Q := by
  obtain ⟨v', w', hrun, r1, r2, r3⟩ := run_append_sl (P := P) w base ts o.type e i z size bytes ht hi hz hsize hby hzs hsz v n xs hown ad c news hl hnews h1 h63 hbytes hbase
  unfold Oper.wp execOp
  simp only [ho, resolve, invoke, builtin, Sem.run_bind, Sem.run_pure, Result.andThen_ok, List.map_toArray, List.map_cons, List.map_nil, hs, hx, hrun]
  exact h v' w' r1 r2 r3

/-- .. at a step of a region that draws. -/
theorem step_append_sl {ops : Array Oper} {o : Oper} {a : Act} {K : Act → World → Prop} {Q : Exit → Act → World → Prop} {E : Prop} (hgd : o.guard = none) (s x : Operand) (ts : TypeId)
    (ho : o.op = .call { callee := .builtin .append, args := #[s, x], argTypes := #[ts, ts] })
    (base : Nat) (e : TypeId) (i : TypeInfo) (z : Value) (size bytes : Nat) (ht : P.underlying ts = some (.slice e)) (hi : P.info? e = some i) (hz : i.zero = some z)
    (hsize : i.size = size) (hby : i.bytes = bytes) (hzs : z.cells.size = size) (hsz : 0 < size)
    (v : Value) (n : Nat) (xs : List Value) (hs : a.eval s = v) (hown : Sl w base e size v n xs)
    (ad : Addr) (c : Nat) (news : List Value) (hx : a.eval x = .slice (some ad) 1 c) (hl : news.length = 1 * size) (hnews : ∀ j u, news[j]? = some u → w.cell? (ad.add j) = some u) (h1 : ∀ u ∈ news, u.oneCell' = true)
    (h63 : n + 1 ≤ maxLen) (hbytes : (n + 1) * bytes ≤ 140737488355328) (hbase : base ≤ w.heap.size)
    (h : ∀ v' w', Sl w' base e size v' (n + 1) (xs ++ news) → Upd (fun k => slBlk v = some k) w w' → (∀ k, slBlk v' = some k → slBlk v = some k ∨ w.heap.size ≤ k) → K (a.put o.dst v') w') :
    if Region.wanted o (yielded ops a.tmps) = true then Oper.wp P o a w K Q else E := by
  have hw : Region.wanted o (yielded ops a.tmps) = true := by simp [Region.wanted, hgd]
  rw [if_pos hw]
  exact wp_append_sl s x ts ho base e i z size bytes ht hi hz hsize hby hzs hsz v n xs hs hown ad c news hx hl hnews h1 h63 hbytes hbase h
end Go.Proofs.Ytcgefncddbbnlaa
