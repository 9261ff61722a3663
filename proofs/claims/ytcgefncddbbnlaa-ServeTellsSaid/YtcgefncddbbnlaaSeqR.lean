/-
  A region that draws its order, walked in one given order: what only reads under a condition S on the world may come whenever; what writes comes in one forced order, and shows S anew, but for what waits for all that reads. No program in sight.
-/
import Derived.Test.YtcgefncddbbnlaaLib
import Derived.OrdersHeld
namespace Go.Proofs.Ytcgefncddbbnlaa
section
variable {P : Program} {ops : Array Oper} {Q : Exit → Act → World → Prop} {md : Region.Mode} {S : World → Prop} {T quiet : Nat → Bool}

def waits (md : Region.Mode) (ops : Array Oper) (j i : Nat) : Bool :=
  match ops[j]? with
  | some oj => oj.after.any fun e => Region.binds md e && e.on == i
  | none => true

/-- Whatever order is picked from here on, and S holds behind every operation but those of T. -/
def wpAnyT (P : Program) (md : Region.Mode) (ops : Array Oper) (Q : Exit → Act → World → Prop) (S : World → Prop) (T : Nat → Bool) : Nat → Array Bool → Act → World → Prop
  | 0, listed, a, w => Region.ready md ops listed = [] ∧ Q .normal a w
  | fuel + 1, listed, a, w =>
    (Region.ready md ops listed = [] → Q .normal a w) ∧
    ∀ i ∈ Region.ready md ops listed, wpOp P ops Q i (fun a' w' => (T i = true ∨ S w') ∧ wpAnyT P md ops Q S T fuel (listed.setIfInBounds i true) a' w') a w

theorem wpAny_of_T : ∀ (fuel : Nat) (listed : Array Bool) (a : Act) (w : World), wpAnyT P md ops Q S T fuel listed a w → wpAny P md ops Q fuel listed a w
  | 0, _, _, _, h => h
  | fuel + 1, _, _, _, h => ⟨h.1, fun i hi => wpOp_mono (fun a' w' h' => wpAny_of_T fuel _ a' w' h'.2) (h.2 i hi)⟩

theorem wpAnyT_first {i : Nat} {oi : Oper} {v : Value} (hi : ops[i]? = some oi) (hsel : ∀ (j : Nat) (o : Oper) cs b, ops[j]? = some o → o.op ≠ .select cs b)
    (hQ : ∀ c a w, Q (.panic c) (a.put oi.dst v) w → Q (.panic c) a w) (hT : ∀ t, T t = true → waits md ops t i = true) :
    ∀ (fuel : Nat) (listed : Array Bool) (a : Act) (w : World),
      (∀ j oj, ops[j]? = some oj → j ≠ i → listed.getD j true = false → (∀ e ∈ oj.after, Region.binds md e = true → e.on ≠ i) → oi.apart ops oj = true) →
      i ∈ Region.ready md ops listed → YieldsIf P ops S oi v a → S w →
      wpAnyT P md ops Q S T fuel (listed.setIfInBounds i true) (a.put oi.dst v) w → wpAnyT P md ops Q S T (fuel + 1) listed a w := by
  intro fuel
  induction fuel with
  | zero =>
    intro listed a w _ hr hy hS H
    refine ⟨fun h => (by rw [h] at hr; cases hr), fun j hj => ?_⟩
    by_cases hji : j = i
    · subst hji; exact hy.wpOp hi hS ⟨.inr hS, H⟩
    · have := ready_mono hj hji
      rw [H.1] at this
      cases this
  | succ fuel ih =>
    intro listed a w hfree hr hy hS H
    refine ⟨fun h => (by rw [h] at hr; cases hr), fun j hj => ?_⟩
    by_cases hji : j = i
    · subst hji; exact hy.wpOp hi hS ⟨.inr hS, H⟩
    · have h1 := H.2 j (ready_mono hj hji)
      obtain ⟨hjun, oj, hoj, hall⟩ := mem_ready.1 hj
      have hnot : ∀ e ∈ oj.after, Region.binds md e = true → e.on ≠ i := fun e he hb heq => by
        have h1 := hall e he hb
        have h0 := (mem_ready.1 hr).1
        rw [heq] at h1
        rcases Nat.lt_or_ge i listed.size with h' | h'
        · simp [h'] at h0 h1; rw [h0] at h1; cases h1
        · simp [Array.getElem?_eq_none h'] at h1
      have hTj : ¬ (T j = true) := fun ht => by
        have := hT j ht
        unfold waits at this
        rw [hoj] at this
        obtain ⟨e, he, hb⟩ := Array.any_eq_true'.1 this
        simp only [Bool.and_eq_true, beq_iff_eq] at hb
        exact hnot e he hb.1 hb.2
      have h2 := wpOp_putIf hoj (hfree j oj hoj hji hjun hnot) (fun cs b => hsel i oi cs b hi) (fun cs b => hsel j oj cs b hoj) hQ hy h1
      have hfree' : ∀ k ok, ops[k]? = some ok → k ≠ i → (listed.setIfInBounds j true).getD k true = false →
          (∀ e ∈ ok.after, Region.binds md e = true → e.on ≠ i) → oi.apart ops ok = true := fun k ok hk hki hun hno => by
        refine hfree k ok hk hki ?_ hno
        by_cases hjk : j = k
        · subst hjk; exact hjun
        · rw [getD_set_ne true hjk] at hun; exact hun
      refine wpOp_mono (fun a' w' h3 => ?_) h2
      have hS' : S w' := h3.2.1.resolve_left hTj
      refine ⟨.inr hS', ih (listed.setIfInBounds j true) a' w' hfree' (ready_mono hr (Ne.symm hji)) h3.1 hS' ?_⟩
      rw [Array.setIfInBounds_comm _ _ hji]
      exact h3.2.2

/-- The region, in the given order. -/
def wpSeq (P : Program) (ops : Array Oper) (Q : Exit → Act → World → Prop) (S : World → Prop) (T quiet : Nat → Bool) : List Nat → Act → World → Prop
  | [], a, w => Q .normal a w
  | i :: rest, a, w =>
    match ops[i]? with
    | none => False
    | some o => if quiet i = true then ∃ v, YieldsIf P ops S o v a ∧ wpSeq P ops Q S T quiet rest (a.put o.dst v) w
      else wpOp P ops Q i (fun a' w' => (T i = true ∨ S w') ∧ wpSeq P ops Q S T quiet rest a' w') a w

/-- May it be walked so? -/
def okSeq (md : Region.Mode) (ops : Array Oper) (T quiet : Nat → Bool) : List Nat → Array Bool → Bool
  | [], listed => (Region.ready md ops listed).isEmpty
  | i :: rest, listed =>
    (if quiet i then (Region.ready md ops listed).contains i && Region.free md ops listed i && (List.range ops.size).all (fun t => !T t || waits md ops t i)
     else (Region.ready md ops listed) == [i] && (!T i || rest.all fun j => !quiet j)) && okSeq md ops T quiet rest (listed.setIfInBounds i true)

theorem putQ (hQ : ∀ d v c a w, Q (.panic c) (a.put (some d) v) w → Q (.panic c) a w) (d : Option Tmp) (v : Value) (c : List PanicEntry) (a : Act) (w : World) (h : Q (.panic c) (a.put d v) w) : Q (.panic c) a w := by
  cases d with
  | none => exact h
  | some d => exact hQ d v c a w h

theorem wpSeq_sound (hs : Region.noSelect ops = true) (hTr : ∀ t, T t = true → t < ops.size) (hQ : ∀ d v c a w, Q (.panic c) (a.put (some d) v) w → Q (.panic c) a w) : ∀ (order : List Nat) (listed : Array Bool) (a : Act) (w : World),
    okSeq md ops T quiet order listed = true → (S w ∨ order.all (fun j => !quiet j) = true) → wpSeq P ops Q S T quiet order a w → wpAnyT P md ops Q S T order.length listed a w
  | [], listed, a, w, hok, _, h => ⟨List.isEmpty_iff.1 hok, h⟩
  | i :: rest, listed, a, w, hok, hS, h => by
    unfold okSeq at hok
    simp only [Bool.and_eq_true] at hok
    obtain ⟨h1, h2⟩ := hok
    unfold wpSeq at h
    cases ho : ops[i]? with
    | none => rw [ho] at h; exact h.elim
    | some o =>
      rw [ho] at h
      dsimp only at h
      by_cases hq : quiet i = true
      · rw [if_pos hq] at h h1
        simp only [Bool.and_eq_true, List.all_eq_true] at h1
        obtain ⟨⟨hr, hf⟩, hw⟩ := h1
        obtain ⟨v, hy, h⟩ := h
        have hS' : S w := hS.resolve_right (fun hn => by simp [hq] at hn)
        refine wpAnyT_first (i := i) (v := v) ho (Region.noSelect_spec hs) (fun c a w => putQ hQ o.dst v c a w) (fun t ht => ?_) rest.length listed a w (Region.free_spec ho hf) (by simpa using hr) hy hS' (wpSeq_sound hs hTr hQ rest _ _ _ h2 (.inl hS') h)
        have := hw t (List.mem_range.2 (hTr t ht))
        simpa [ht] using this
      · rw [if_neg hq] at h
        simp only [hq, Bool.false_eq_true, if_false, Bool.and_eq_true, beq_iff_eq, Bool.or_eq_true, Bool.not_eq_true'] at h1
        obtain ⟨hr, hn⟩ := h1
        refine ⟨fun h0 => absurd (hr.symm.trans h0) (by simp), fun j hj => ?_⟩
        rw [hr] at hj
        obtain rfl : j = i := by simpa using hj
        refine wpOp_mono (fun a' w' h3 => ⟨h3.1, wpSeq_sound hs hTr hQ rest _ a' w' h2 ?_ h3.2⟩) h
        rcases h3.1 with ht | hS'
        · rcases hn with hn | hn
          · rw [ht] at hn; cases hn
          · exact .inr hn
        · exact .inl hS'

/-- The same, the operations themselves in a list. -/
def wpSeqP (P : Program) (ops : Array Oper) (Q : Exit → Act → World → Prop) (S : World → Prop) (T quiet : Nat → Bool) : Nat → List Oper → Act → World → Prop
  | _, [], a, w => Q .normal a w
  | i, o :: rest, a, w => if quiet i = true then ∃ v, YieldsIf P ops S o v a ∧ wpSeqP P ops Q S T quiet (i + 1) rest (a.put o.dst v) w
      else if Region.wanted o (yielded ops a.tmps) = true then o.wp P a w (fun a' w' => (T i = true ∨ S w') ∧ wpSeqP P ops Q S T quiet (i + 1) rest a' w') Q
      else (T i = true ∨ S w) ∧ wpSeqP P ops Q S T quiet (i + 1) rest (a.put o.dst undef) w

theorem wpSeqP_to : ∀ (l : List Oper) (i : Nat) (a : Act) (w : World), (∀ (j : Nat) (o : Oper), l[j]? = some o → ops[i + j]? = some o) → wpSeqP P ops Q S T quiet i l a w → wpSeq P ops Q S T quiet (List.range' i l.length) a w
  | [], _, _, _, _, h => h
  | o :: rest, i, a, w, hl, h => by
    have ho : ops[i]? = some o := hl 0 o rfl
    have hr : ∀ (j : Nat) (x : Oper), rest[j]? = some x → ops[i + 1 + j]? = some x := fun j x hx => by
      have := hl (j + 1) x (by simpa using hx)
      rwa [show i + (j + 1) = i + 1 + j by omega] at this
    rw [List.length_cons, List.range'_succ]
    unfold wpSeq
    unfold wpSeqP at h
    rw [ho]
    dsimp only
    split at h
    next hq =>
      rw [if_pos hq]
      obtain ⟨v, hy, h⟩ := h
      exact ⟨v, hy, wpSeqP_to rest (i + 1) _ _ hr h⟩
    next hq =>
      rw [if_neg hq]
      unfold wpOp
      rw [ho]
      dsimp only
      split at h
      next hw =>
        rw [if_pos hw]
        have := wpOp_mono (P := P) (ops := ops) (Q := Q) (i := i) (a := a) (w := w) (K := fun a' w' => (T i = true ∨ S w') ∧ wpSeqP P ops Q S T quiet (i + 1) rest a' w')
          (K' := fun a' w' => (T i = true ∨ S w') ∧ wpSeq P ops Q S T quiet (List.range' (i + 1) rest.length) a' w') (fun a' w' h' => ⟨h'.1, wpSeqP_to rest (i + 1) _ _ hr h'.2⟩) (by
            unfold wpOp
            rw [ho]
            dsimp only
            rw [if_pos hw]
            exact .inl h)
        unfold wpOp at this
        rw [ho] at this
        dsimp only at this
        rw [if_pos hw] at this
        exact this
      next hw =>
        rw [if_neg hw]
        exact ⟨h.1, wpSeqP_to rest (i + 1) _ _ hr h.2⟩

theorem wp_region_seq {id : Nat} {a : Act} {w : World} {l : List Oper} (quiet T : Nat → Bool) (S : World → Prop) (hm : P.follows .mixedOrders = true) (hs : Region.noSelect l.toArray = true) (hT : ∀ t, T t = true → t < l.length)
    (hQ : ∀ d v c a w, Q (.panic c) (a.put (some d) v) w → Q (.panic c) a w) (hok : okSeq .any l.toArray T quiet (List.range' 0 l.length) (Array.replicate l.length false) = true) (hS : S w.drew)
    (h : wpSeqP P l.toArray Q S T quiet 0 l a w.drew) : (Code.region id l.toArray true).wp P Q a w := by
  refine wp_region_any hm (wpAny_of_T (S := S) (T := T) _ _ _ _ ?_)
  have h0 := wpSeqP_to (P := P) (ops := l.toArray) l 0 a w.drew (fun j o ho => by simpa using ho) h
  have := wpSeq_sound (md := .any) hs (fun t ht => by simpa using hT t ht) hQ (List.range' 0 l.length) _ a w.drew hok (.inl hS) h0
  rw [List.length_range'] at this
  simp only [List.size_toArray]
  exact this

/-! ### The moves -/
theorem wpSeq_nil {i : Nat} {a : Act} {w : World} (h : Q .normal a w) : wpSeqP P ops Q S T quiet i [] a w := h
/-- What reads. -/
theorem wpSeq_q {i : Nat} {rest : List Oper} {o : Oper} {v : Value} {a : Act} {w : World} (hq : quiet i = true) (hw : Region.wanted o (yielded ops a.tmps) = true)
    (hy : ∀ w, S w → (execOp a.eval o).run P w = .ok (.value v) w) (h : wpSeqP P ops Q S T quiet (i + 1) rest (a.put o.dst v) w) : wpSeqP P ops Q S T quiet i (o :: rest) a w := by
  unfold wpSeqP
  rw [if_pos hq]
  exact ⟨v, .inl ⟨hw, hy⟩, h⟩
/-- What is not wanted. -/
theorem wpSeq_n {i : Nat} {rest : List Oper} {o : Oper} {a : Act} {w : World} (hq : quiet i = true) (hw : Region.wanted o (yielded ops a.tmps) = false)
    (h : wpSeqP P ops Q S T quiet (i + 1) rest (a.put o.dst undef) w) : wpSeqP P ops Q S T quiet i (o :: rest) a w := by
  unfold wpSeqP
  rw [if_pos hq]
  exact ⟨undef, .inr ⟨hw, rfl⟩, h⟩
/-- What writes, or calls. -/
theorem wpSeq_l {i : Nat} {rest : List Oper} {o : Oper} {a : Act} {w : World} (hq : quiet i = false) (hw : Region.wanted o (yielded ops a.tmps) = true)
    (h : ∀ K : Act → World → Prop, (∀ a' w', (T i = true ∨ S w') → wpSeqP P ops Q S T quiet (i + 1) rest a' w' → K a' w') → o.wp P a w K Q) : wpSeqP P ops Q S T quiet i (o :: rest) a w := by
  unfold wpSeqP
  rw [if_neg (by rw [hq]; decide), if_pos hw]
  exact h _ (fun a' w' h1 h2 => ⟨h1, h2⟩)
end
end Go.Proofs.Ytcgefncddbbnlaa
