/-
  A region that draws its order, walked along a tree of orders: what only reads under a condition S comes first; where two operations that write may come up, both orders are walked. No program in sight.
-/
import Derived.Test.YtcgefncddbbnlaaSeqR
import Derived.Test.YtcgefncddbbnlaaRws
namespace Go.Proofs.Ytcgefncddbbnlaa

/-- The orders that are walked. -/
inductive OT where
  | d
  | q (i : Nat) (t : OT)
  | l (i : Nat) (t : OT)
  | b (i : Nat) (t : OT) (j : Nat) (u : OT)

def nthO : List Oper → Nat → Option Oper
  | [], _ => none
  | o :: _, 0 => some o
  | _ :: t, n + 1 => nthO t n
theorem nthO_eq : ∀ (l : List Oper) (i : Nat), nthO l i = l.toArray[i]?
  | [], i => by simp [nthO]
  | o :: t, 0 => by simp [nthO]
  | o :: t, n + 1 => by have := nthO_eq t n; simp [nthO] at *; exact this

section
variable {P : Program} {l : List Oper} {Q : Exit → Act → World → Prop} {md : Region.Mode} {S : World → Prop} {T : Nat → Bool}

def OT.size : OT → Nat
  | .d => 0
  | .q _ t => t.size + 1
  | .l _ t => t.size + 1
  | .b _ t _ u => max t.size u.size + 1
def OT.noQ : OT → Bool
  | .d => true
  | .q _ _ => false
  | .l _ t => t.noQ
  | .b _ t _ u => t.noQ && u.noQ

/-- One operation that writes or calls. -/
def wpLoud (P : Program) (l : List Oper) (Q : Exit → Act → World → Prop) (S : World → Prop) (T : Nat → Bool) (i : Nat) (a : Act) (w : World) (R : Act → World → Prop) : Prop :=
  wpOp P l.toArray Q i (fun a' w' => (T i = true ∨ S w') ∧ R a' w') a w

def wpOT (P : Program) (l : List Oper) (Q : Exit → Act → World → Prop) (S : World → Prop) (T : Nat → Bool) : OT → Act → World → Prop
  | .d, a, w => Q .normal a w
  | .q i t, a, w => match nthO l i with
    | none => False
    | some o => ∃ v, YieldsIf P l.toArray S o v a ∧ wpOT P l Q S T t (a.put o.dst v) w
  | .l i t, a, w => wpLoud P l Q S T i a w (wpOT P l Q S T t)
  | .b i t j u, a, w => wpLoud P l Q S T i a w (wpOT P l Q S T t) ∧ wpLoud P l Q S T j a w (wpOT P l Q S T u)

def okOT (md : Region.Mode) (ops : Array Oper) (T : Nat → Bool) : OT → Array Bool → Bool
  | .d, listed => (Region.ready md ops listed).isEmpty
  | .q i t, listed => (Region.ready md ops listed).contains i && Region.free md ops listed i && (List.range ops.size).all (fun t => !T t || waits md ops t i) && okOT md ops T t (listed.setIfInBounds i true)
  | .l i t, listed => (Region.ready md ops listed) == [i] && (!T i || t.noQ) && okOT md ops T t (listed.setIfInBounds i true)
  | .b i t j u, listed => (Region.ready md ops listed).all (fun x => x == i || x == j) && !(Region.ready md ops listed).isEmpty && (!T i || t.noQ) && (!T j || u.noQ) && okOT md ops T t (listed.setIfInBounds i true) && okOT md ops T u (listed.setIfInBounds j true)

theorem wpAnyT_mono : ∀ (n m : Nat) (listed : Array Bool) (a : Act) (w : World), n ≤ m → wpAnyT P md l.toArray Q S T n listed a w → wpAnyT P md l.toArray Q S T m listed a w
  | 0, 0, _, _, _, _, h => h
  | 0, m + 1, listed, a, w, _, h => ⟨fun _ => h.2, by rw [h.1]; simp⟩
  | n + 1, m + 1, listed, a, w, hnm, h => ⟨h.1, fun i hi => wpOp_mono (fun a' w' h' => ⟨h'.1, wpAnyT_mono n m _ a' w' (by omega) h'.2⟩) (h.2 i hi)⟩

theorem wpOT_sound (hs : Region.noSelect l.toArray = true) (hTr : ∀ t, T t = true → t < l.toArray.size) (hQ : ∀ d v c a w, Q (.panic c) (a.put (some d) v) w → Q (.panic c) a w) : ∀ (t : OT) (listed : Array Bool) (a : Act) (w : World),
    okOT md l.toArray T t listed = true → (S w ∨ t.noQ = true) → wpOT P l Q S T t a w → wpAnyT P md l.toArray Q S T t.size listed a w
  | .d, listed, a, w, hok, _, h => ⟨List.isEmpty_iff.1 hok, h⟩
  | .q i t, listed, a, w, hok, hS, h => by
    unfold okOT at hok
    simp only [Bool.and_eq_true, List.all_eq_true] at hok
    obtain ⟨⟨⟨hr, hf⟩, hw⟩, h2⟩ := hok
    unfold wpOT at h
    have hn := nthO_eq l i
    cases ho : nthO l i with
    | none => rw [ho] at h; exact h.elim
    | some o =>
      rw [ho] at h hn
      dsimp only at h
      obtain ⟨v, hy, h⟩ := h
      have hS' : S w := hS.resolve_right (by simp [OT.noQ])
      refine wpAnyT_first (i := i) (v := v) hn.symm (Region.noSelect_spec hs) (fun c a w => putQ hQ o.dst v c a w) (fun t ht => ?_) t.size listed a w (Region.free_spec hn.symm hf) (by simpa using hr) hy hS' (wpOT_sound hs hTr hQ t _ _ _ h2 (.inl hS') h)
      have := hw t (List.mem_range.2 (hTr t ht))
      simpa [ht] using this
  | .l i t, listed, a, w, hok, hS, h => by
    unfold okOT at hok
    simp only [Bool.and_eq_true, beq_iff_eq, Bool.or_eq_true, Bool.not_eq_true'] at hok
    obtain ⟨⟨hr, hn⟩, h2⟩ := hok
    refine ⟨fun h0 => absurd (hr.symm.trans h0) (by simp), fun j hj => ?_⟩
    rw [hr] at hj
    obtain rfl : j = i := by simpa using hj
    unfold wpOT wpLoud at h
    refine wpOp_mono (fun a' w' h3 => ⟨h3.1, wpOT_sound hs hTr hQ t _ a' w' h2 ?_ h3.2⟩) h
    rcases h3.1 with ht | hS'
    · rcases hn with hn | hn
      · rw [ht] at hn; cases hn
      · exact .inr hn
    · exact .inl hS'
  | .b i t j u, listed, a, w, hok, hS, h => by
    unfold okOT at hok
    simp only [Bool.and_eq_true, List.all_eq_true, Bool.or_eq_true, Bool.not_eq_true', beq_iff_eq] at hok
    obtain ⟨⟨⟨⟨⟨hr, hne⟩, hni⟩, hnj⟩, h2⟩, h3⟩ := hok
    unfold wpOT wpLoud at h
    have key : ∀ k t', (T k = false ∨ t'.noQ = true) → okOT md l.toArray T t' (listed.setIfInBounds k true) = true → t'.size ≤ max t.size u.size →
        wpOp P l.toArray Q k (fun a' w' => (T k = true ∨ S w') ∧ wpOT P l Q S T t' a' w') a w → (∀ a w, (S w ∨ t'.noQ = true) → wpOT P l Q S T t' a w → wpAnyT P md l.toArray Q S T t'.size (listed.setIfInBounds k true) a w) →
        wpOp P l.toArray Q k (fun a' w' => (T k = true ∨ S w') ∧ wpAnyT P md l.toArray Q S T (max t.size u.size) (listed.setIfInBounds k true) a' w') a w := fun k t' hn hok hle hh ih => by
      refine wpOp_mono (fun a' w' h3 => ⟨h3.1, wpAnyT_mono _ _ _ _ _ hle (ih a' w' ?_ h3.2)⟩) hh
      rcases h3.1 with ht | hS'
      · rcases hn with hn | hn
        · rw [ht] at hn; cases hn
        · exact .inr hn
      · exact .inl hS'
    refine ⟨fun h0 => by rw [h0] at hne; simp at hne, fun k hk => ?_⟩
    rcases hr k hk with e | e
    · subst e
      exact key k t hni h2 (Nat.le_max_left _ _) h.1 (fun a w => wpOT_sound hs hTr hQ t _ a w h2)
    · subst e
      exact key k u hnj h3 (Nat.le_max_right _ _) h.2 (fun a w => wpOT_sound hs hTr hQ u _ a w h3)

theorem wp_region_tree {id : Nat} {a : Act} {w : World} (t : OT) (T : Nat → Bool) (S : World → Prop) (hm : P.follows .mixedOrders = true) (hs : Region.noSelect l.toArray = true) (hT : ∀ t, T t = true → t < l.length)
    (hQ : ∀ d v c a w, Q (.panic c) (a.put (some d) v) w → Q (.panic c) a w) (hok : okOT .any l.toArray T t (Array.replicate l.length false) = true) (hlen : t.size = l.length) (hS : S w.drew)
    (h : wpOT P l Q S T t a w.drew) : (Code.region id l.toArray true).wp P Q a w := by
  refine wp_region_any hm (wpAny_of_T (S := S) (T := T) _ _ _ _ ?_)
  have := wpOT_sound (md := .any) hs (fun t ht => by simpa using hT t ht) hQ t _ a w.drew hok (.inl hS) h
  rw [hlen] at this
  simp only [List.size_toArray]
  exact this

/-! ### The moves -/
theorem wpOT_d {a : Act} {w : World} (h : Q .normal a w) : wpOT P l Q S T .d a w := h
theorem wpOT_q {i : Nat} {t : OT} {o : Oper} {v : Value} {a : Act} {w : World} (ho : nthO l i = some o) (hw : Region.wanted o (yielded l.toArray a.tmps) = true)
    (hy : ∀ w, S w → (execOp a.eval o).run P w = .ok (.value v) w) (h : wpOT P l Q S T t (a.put o.dst v) w) : wpOT P l Q S T (.q i t) a w := by
  unfold wpOT
  rw [ho]
  exact ⟨v, .inl ⟨hw, hy⟩, h⟩
theorem wpOT_loud {i : Nat} {t : OT} {o : Oper} {a : Act} {w : World} (ho : nthO l i = some o) (hw : Region.wanted o (yielded l.toArray a.tmps) = true)
    (h : ∀ K : Act → World → Prop, (∀ a' w', (T i = true ∨ S w') → wpOT P l Q S T t a' w' → K a' w') → o.wp P a w K Q) : wpLoud P l Q S T i a w (wpOT P l Q S T t) := by
  unfold wpLoud wpOp
  rw [nthO_eq] at ho
  rw [ho]
  dsimp only
  rw [if_pos hw]
  exact .inl (h _ (fun a' w' h1 h2 => ⟨h1, h2⟩))
theorem wpOT_l {i : Nat} {t : OT} {o : Oper} {a : Act} {w : World} (ho : nthO l i = some o) (hw : Region.wanted o (yielded l.toArray a.tmps) = true)
    (h : ∀ K : Act → World → Prop, (∀ a' w', (T i = true ∨ S w') → wpOT P l Q S T t a' w' → K a' w') → o.wp P a w K Q) : wpOT P l Q S T (.l i t) a w := wpOT_loud ho hw h
theorem wpOT_b {i j : Nat} {t u : OT} {a : Act} {w : World} (h1 : wpLoud P l Q S T i a w (wpOT P l Q S T t)) (h2 : wpLoud P l Q S T j a w (wpOT P l Q S T u)) : wpOT P l Q S T (.b i t j u) a w := ⟨h1, h2⟩
end
open Go.RowKit in
/-- 'append([]T{}, l...)': a list of its own. -/
theorem run_append_copy {P : Program} (w : World) (ts ty : TypeId)
    (base base' : Nat) (e : TypeId) (i : TypeInfo) (z : Value) (size bytes : Nat) (ht : P.underlying ts = some (.slice e)) (hi : P.info? e = some i) (hz : i.zero = some z)
    (hsize : i.size = size) (hby : i.bytes = bytes) (hzs : z.cells.size = size) (hsz : 0 < size)
    (b0 : Nat) (hb0 : Blk w b0 e #[]) (hb : base ≤ b0)
    (L : Value) (n : Nat) (xs : List Value) (hL : Sl w base' e size L n xs) (h1 : ∀ u ∈ xs, u.oneCell' = true)
    (h63 : n ≤ maxLen) (hbytes : n * bytes ≤ 140737488355328) (hbase : base ≤ w.heap.size) :
    ∃ v' w', (Builtin.append_ #[ts, ts] ty #[.slice (some ⟨b0, 0, none⟩) 0 0, L]).run P w = .ok v' w' ∧ Sl w' base e size v' n xs ∧ Upd (fun k => k = b0) w w' := by
  have hown : w.ownsRow base e size (.slice (some ⟨b0, 0, none⟩) 0 0) 0 [] := ⟨by simp, .inr ⟨b0, 0, #[], rfl, hb, hb0, Nat.le_refl _, Nat.zero_le _, by simp, by simp⟩⟩
  rcases hL.2 with ⟨rfl, rfl⟩ | ⟨b, off, cap, cur, rfl, hbb, hB, hn, hc, hsz', hxx⟩
  · have hx0 : xs = [] := List.eq_nil_of_length_eq_zero (by simpa using hL.1)
    subst hx0
    refine ⟨_, w, ?_, Sl.own hown, Upd.refl _ w⟩
    subst hsize
    simp [Builtin.append_, run_underlying ht, sizeOf, typeInfo, hi, Builtin.lenOf, Builtin.firstCells, storeCells]
  · obtain ⟨v', w', hrun, ho', hg, _⟩ := run_append_own (P := P) w base ts ty e i z size bytes ht hi hz hsize hby hzs hsz _ 0 [] hown ⟨b, off, none⟩ n cap xs hL.1
      (fun j u hu => by rw [Addr.add_lit]; exact Sl.cell hL j u hu) h1 (by simpa using h63) (by simpa using hbytes) hbase
    refine ⟨v', w', hrun, ?_, (Upd.refl (fun k => k = b0) w).grown hg (fun k hk _ => ?_)⟩
    · have := Sl.own ho'
      simpa using this
    · have : b0 = k := by simpa [Value.ownBlock] using hk
      exact this.symm

open Go.RowKit in
theorem wp_append_copy {P : Program} {o : Oper} {a : Act} {w : World} {K : Act → World → Prop} {Q : Exit → Act → World → Prop} (s x : Operand) (ts : TypeId)
    (ho : o.op = .call { callee := .builtin .append, args := #[s, x], argTypes := #[ts, ts] })
    (base base' : Nat) (e : TypeId) (i : TypeInfo) (z : Value) (size bytes : Nat) (ht : P.underlying ts = some (.slice e)) (hi : P.info? e = some i) (hz : i.zero = some z)
    (hsize : i.size = size) (hby : i.bytes = bytes) (hzs : z.cells.size = size) (hsz : 0 < size)
    (b0 : Nat) (hs : a.eval s = .slice (some ⟨b0, 0, none⟩) 0 0) (hb0 : Blk w b0 e #[]) (hb : base ≤ b0)
    (L : Value) (n : Nat) (xs : List Value) (hx : a.eval x = L) (hL : Sl w base' e size L n xs) (h1 : ∀ u ∈ xs, u.oneCell' = true)
    (h63 : n ≤ maxLen) (hbytes : n * bytes ≤ 140737488355328) (hbase : base ≤ w.heap.size)
    (h : ∀ v' w', Sl w' base e size v' n xs → Upd (fun k => k = b0) w w' → K (a.put o.dst v') w') : o.wp P a w K Q := by
  obtain ⟨v', w', hrun, r1, r2⟩ := run_append_copy (P := P) w ts o.type base base' e i z size bytes ht hi hz hsize hby hzs hsz b0 hb0 hb L n xs hL h1 h63 hbytes hbase
  unfold Oper.wp execOp
  simp only [ho, resolve, invoke, builtin, Sem.run_bind, Sem.run_pure, Result.andThen_ok, List.map_toArray, List.map_cons, List.map_nil, hs, hx, hrun]
  exact h v' w' r1 r2

open Go.RowKit in
theorem wpList_append_copy {P : Program} {ops : Array Oper} {rest : List Oper} {o : Oper} {a : Act} {w : World} {Q : Exit → Act → World → Prop} (hgd : o.guard = none) (s x : Operand) (ts : TypeId)
    (ho : o.op = .call { callee := .builtin .append, args := #[s, x], argTypes := #[ts, ts] })
    (base base' : Nat) (e : TypeId) (i : TypeInfo) (z : Value) (size bytes : Nat) (ht : P.underlying ts = some (.slice e)) (hi : P.info? e = some i) (hz : i.zero = some z)
    (hsize : i.size = size) (hby : i.bytes = bytes) (hzs : z.cells.size = size) (hsz : 0 < size)
    (b0 : Nat) (hs : a.eval s = .slice (some ⟨b0, 0, none⟩) 0 0) (hb0 : Blk w b0 e #[]) (hb : base ≤ b0)
    (L : Value) (n : Nat) (xs : List Value) (hx : a.eval x = L) (hL : Sl w base' e size L n xs) (h1 : ∀ u ∈ xs, u.oneCell' = true)
    (h63 : n ≤ maxLen) (hbytes : n * bytes ≤ 140737488355328) (hbase : base ≤ w.heap.size)
    (h : ∀ v' w', Sl w' base e size v' n xs → Upd (fun k => k = b0) w w' → wpList P ops Q rest (a.put o.dst v') w') : wpList P ops Q (o :: rest) a w := by
  refine wpList_plain hgd fun K hK => ?_
  obtain ⟨v', w', hrun, r1, r2⟩ := run_append_copy (P := P) w ts o.type base base' e i z size bytes ht hi hz hsize hby hzs hsz b0 hb0 hb L n xs hL h1 h63 hbytes hbase
  unfold Oper.wp
  simp [execOp, ho, resolve, invoke, builtin, hs, hx, hrun, Result.andThen]
  exact hK _ _ (h v' w' r1 r2)
end Go.Proofs.Ytcgefncddbbnlaa
