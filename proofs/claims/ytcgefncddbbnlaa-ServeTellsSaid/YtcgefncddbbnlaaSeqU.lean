/-
  A region that draws its order, walked along a tree of orders: what an operation of T waits for, be it through others, may read under S. No program in sight.
-/
import Derived.Test.YtcgefncddbbnlaaSeqT
namespace Go.Proofs.Ytcgefncddbbnlaa
section
variable {P : Program} {ops : Array Oper} {Q : Exit → Act → World → Prop} {md : Region.Mode} {S : World → Prop} {T : Nat → Bool}

/-- j waits for i, be it through others. -/
def reach (md : Region.Mode) (ops : Array Oper) : Nat → Nat → Nat → Bool
  | 0, _, _ => false
  | n + 1, j, i => match ops[j]? with
    | some oj => oj.after.any fun e => Region.binds md e && (e.on == i || reach md ops n e.on i)
    | none => true
/-- What a listed operation waits for is listed. -/
def Closed (md : Region.Mode) (ops : Array Oper) (listed : Array Bool) : Prop := ∀ k ok, ops[k]? = some ok → listed.getD k false = true → ∀ e ∈ ok.after, Region.binds md e = true → listed.getD e.on false = true

/-- All edges lie within. -/
def inside (md : Region.Mode) (ops : Array Oper) : Bool := ops.all fun o => o.after.all fun e => !Region.binds md e || decide (e.on < ops.size)
theorem reach_in {listed : Array Bool} (hin : inside md ops = true) (hc : Closed md ops listed) {i : Nat} : ∀ (n j : Nat) (oj : Oper), ops[j]? = some oj → (∀ e ∈ oj.after, Region.binds md e = true → listed.getD e.on false = true) → reach md ops n j i = true → listed.getD i false = true
  | 0, _, _, _, _, h => by cases h
  | n + 1, j, oj, hj, hall, h => by
    unfold reach at h
    rw [hj] at h
    obtain ⟨e, he, hb⟩ := Array.any_eq_true'.1 h
    simp only [Bool.and_eq_true, Bool.or_eq_true, beq_iff_eq] at hb
    have hl := hall e he hb.1
    rcases hb.2 with rfl | hr
    · exact hl
    · have hlt : e.on < ops.size := by
        unfold inside at hin
        have h1 := Array.all_eq_true'.1 hin oj (Array.mem_of_getElem? hj)
        have h2 := Array.all_eq_true'.1 h1 e he
        simp only [Bool.or_eq_true, Bool.not_eq_true', decide_eq_true_eq] at h2
        rcases h2 with h2 | h2
        · rw [hb.1] at h2; cases h2
        · exact h2
      exact reach_in hin hc n e.on _ (Array.getElem?_eq_getElem hlt) (fun e' he' hb' => hc _ _ (Array.getElem?_eq_getElem hlt) hl e' he' hb') hr
theorem Closed.step {listed : Array Bool} (hc : Closed md ops listed) {j : Nat} (hj : j ∈ Region.ready md ops listed) : Closed md ops (listed.setIfInBounds j true) := by
  have up : ∀ k, listed.getD k false = true → (listed.setIfInBounds j true).getD k false = true := fun k hk => by
    by_cases e : j = k
    · subst e
      by_cases hl : j < listed.size
      · simp [hl]
      · simp [Array.getElem?_eq_none (Nat.le_of_not_lt hl)] at hk
    · rw [getD_set_ne false e]; exact hk
  intro k ok hk hl e he hb
  by_cases ejk : j = k
  · subst ejk
    obtain ⟨_, oj, hoj, hall⟩ := mem_ready.1 hj
    rw [hoj] at hk
    injection hk with hk
    subst hk
    exact up _ (hall e he hb)
  · rw [getD_set_ne false ejk] at hl
    exact up _ (hc k ok hk hl e he hb)

theorem wpAnyT_firstC (hin : inside md ops = true) (n : Nat) {i : Nat} {oi : Oper} {v : Value} (hi : ops[i]? = some oi) (hsel : ∀ (j : Nat) (o : Oper) cs b, ops[j]? = some o → o.op ≠ .select cs b)
    (hQ : ∀ c a w, Q (.panic c) (a.put oi.dst v) w → Q (.panic c) a w) (hT : ∀ t, T t = true → reach md ops n t i = true) :
    ∀ (fuel : Nat) (listed : Array Bool) (a : Act) (w : World), Closed md ops listed →
      (∀ j oj, ops[j]? = some oj → j ≠ i → listed.getD j true = false → (∀ e ∈ oj.after, Region.binds md e = true → e.on ≠ i) → oi.apart ops oj = true) →
      i ∈ Region.ready md ops listed → YieldsIf P ops S oi v a → S w →
      wpAnyT P md ops Q S T fuel (listed.setIfInBounds i true) (a.put oi.dst v) w → wpAnyT P md ops Q S T (fuel + 1) listed a w := by
  intro fuel
  induction fuel with
  | zero =>
    intro listed a w _ _ hr hy hS H
    refine ⟨fun h => (by rw [h] at hr; cases hr), fun j hj => ?_⟩
    by_cases hji : j = i
    · subst hji; exact hy.wpOp hi hS ⟨.inr hS, H⟩
    · have := ready_mono hj hji
      rw [H.1] at this
      cases this
  | succ fuel ih =>
    intro listed a w hcl hfree hr hy hS H
    refine ⟨fun h => (by rw [h] at hr; cases hr), fun j hj => ?_⟩
    by_cases hji : j = i
    · subst hji; exact hy.wpOp hi hS ⟨.inr hS, H⟩
    · have h1 := H.2 j (ready_mono hj hji)
      obtain ⟨hjun, oj, hoj, hall⟩ := mem_ready.1 hj
      have hiun := (mem_ready.1 hr).1
      have hnot : ∀ e ∈ oj.after, Region.binds md e = true → e.on ≠ i := fun e he hb heq => by
        have h1 := hall e he hb
        have h0 := (mem_ready.1 hr).1
        rw [heq] at h1
        rcases Nat.lt_or_ge i listed.size with h' | h'
        · simp [h'] at h0 h1; rw [h0] at h1; cases h1
        · simp [Array.getElem?_eq_none h'] at h1
      have hTj : ¬ (T j = true) := fun ht => by
        have h5 := reach_in hin hcl n j oj hoj hall (hT j ht)
        rcases Nat.lt_or_ge i listed.size with h' | h'
        · simp [h'] at h5 hiun; rw [hiun] at h5; cases h5
        · simp [Array.getElem?_eq_none h'] at h5
      have h2 := wpOp_putIf hoj (hfree j oj hoj hji hjun hnot) (fun cs b => hsel i oi cs b hi) (fun cs b => hsel j oj cs b hoj) hQ hy h1
      have hfree' : ∀ k ok, ops[k]? = some ok → k ≠ i → (listed.setIfInBounds j true).getD k true = false →
          (∀ e ∈ ok.after, Region.binds md e = true → e.on ≠ i) → oi.apart ops ok = true := fun k ok hk hki hun hno => by
        refine hfree k ok hk hki ?_ hno
        by_cases hjk : j = k
        · subst hjk; exact hjun
        · rw [getD_set_ne true hjk] at hun; exact hun
      refine wpOp_mono (fun a' w' h3 => ?_) h2
      have hS' : S w' := h3.2.1.resolve_left hTj
      refine ⟨.inr hS', ih (listed.setIfInBounds j true) a' w' (hcl.step hj) hfree' (ready_mono hr (Ne.symm hji)) h3.1 hS' ?_⟩
      rw [Array.setIfInBounds_comm _ _ hji]
      exact h3.2.2
end
section
variable {P : Program} {l : List Oper} {Q : Exit → Act → World → Prop} {md : Region.Mode} {S : World → Prop} {T : Nat → Bool}
def okOU (md : Region.Mode) (ops : Array Oper) (T : Nat → Bool) : OT → Array Bool → Bool
  | .d, listed => (Region.ready md ops listed).isEmpty
  | .q i t, listed => (Region.ready md ops listed).contains i && Region.free md ops listed i && (List.range ops.size).all (fun t => !T t || reach md ops ops.size t i) && okOU md ops T t (listed.setIfInBounds i true)
  | .l i t, listed => (Region.ready md ops listed) == [i] && (!T i || t.noQ) && okOU md ops T t (listed.setIfInBounds i true)
  | .b i t j u, listed => (Region.ready md ops listed).all (fun x => x == i || x == j) && !(Region.ready md ops listed).isEmpty && (!T i || t.noQ) && (!T j || u.noQ) && okOU md ops T t (listed.setIfInBounds i true) && okOU md ops T u (listed.setIfInBounds j true)

theorem wpOU_sound (hin : inside md l.toArray = true) (hs : Region.noSelect l.toArray = true) (hTr : ∀ t, T t = true → t < l.toArray.size) (hQ : ∀ d v c a w, Q (.panic c) (a.put (some d) v) w → Q (.panic c) a w) : ∀ (t : OT) (listed : Array Bool) (a : Act) (w : World), Closed md l.toArray listed →
    okOU md l.toArray T t listed = true → (S w ∨ t.noQ = true) → wpOT P l Q S T t a w → wpAnyT P md l.toArray Q S T t.size listed a w
  | .d, listed, a, w, _, hok, _, h => ⟨List.isEmpty_iff.1 hok, h⟩
  | .q i t, listed, a, w, hcl, hok, hS, h => by
    unfold okOU at hok
    simp only [Bool.and_eq_true, List.all_eq_true] at hok
    obtain ⟨⟨⟨hr, hf⟩, hw⟩, h2⟩ := hok
    unfold wpOT at h
    have hn := nthO_eq l i
    cases ho : nthO l i with
    | none => rw [ho] at h; exact h.elim
    | some o =>
      rw [ho] at h hn
      dsimp only at h
      obtain ⟨v, hy, h⟩ := h
      have hS' : S w := hS.resolve_right (by simp [OT.noQ])
      have hr' : i ∈ Region.ready md l.toArray listed := by simpa using hr
      refine wpAnyT_firstC hin l.toArray.size (i := i) (v := v) hn.symm (Region.noSelect_spec hs) (fun c a w => putQ hQ o.dst v c a w) (fun t ht => ?_) t.size listed a w hcl (Region.free_spec hn.symm hf) hr' hy hS' (wpOU_sound hin hs hTr hQ t _ _ _ (hcl.step hr') h2 (.inl hS') h)
      have := hw t (List.mem_range.2 (hTr t ht))
      simpa [ht] using this
  | .l i t, listed, a, w, hcl, hok, hS, h => by
    unfold okOU at hok
    simp only [Bool.and_eq_true, beq_iff_eq, Bool.or_eq_true, Bool.not_eq_true'] at hok
    obtain ⟨⟨hr, hn⟩, h2⟩ := hok
    refine ⟨fun h0 => absurd (hr.symm.trans h0) (by simp), fun j hj => ?_⟩
    have hj' := hj
    rw [hr] at hj
    obtain rfl : j = i := by simpa using hj
    unfold wpOT wpLoud at h
    refine wpOp_mono (fun a' w' h3 => ⟨h3.1, wpOU_sound hin hs hTr hQ t _ a' w' (hcl.step hj') h2 ?_ h3.2⟩) h
    rcases h3.1 with ht | hS'
    · rcases hn with hn | hn
      · rw [ht] at hn; cases hn
      · exact .inr hn
    · exact .inl hS'
  | .b i t j u, listed, a, w, hcl, hok, hS, h => by
    unfold okOU at hok
    simp only [Bool.and_eq_true, List.all_eq_true, Bool.or_eq_true, Bool.not_eq_true', beq_iff_eq] at hok
    obtain ⟨⟨⟨⟨⟨hr, hne⟩, hni⟩, hnj⟩, h2⟩, h3⟩ := hok
    unfold wpOT wpLoud at h
    have key : ∀ k t', k ∈ Region.ready md l.toArray listed → (T k = false ∨ t'.noQ = true) → okOU md l.toArray T t' (listed.setIfInBounds k true) = true → t'.size ≤ max t.size u.size →
        wpOp P l.toArray Q k (fun a' w' => (T k = true ∨ S w') ∧ wpOT P l Q S T t' a' w') a w → (∀ a w, Closed md l.toArray (listed.setIfInBounds k true) → (S w ∨ t'.noQ = true) → wpOT P l Q S T t' a w → wpAnyT P md l.toArray Q S T t'.size (listed.setIfInBounds k true) a w) →
        wpOp P l.toArray Q k (fun a' w' => (T k = true ∨ S w') ∧ wpAnyT P md l.toArray Q S T (max t.size u.size) (listed.setIfInBounds k true) a' w') a w := fun k t' hk hn hok hle hh ih => by
      refine wpOp_mono (fun a' w' h3 => ⟨h3.1, wpAnyT_mono _ _ _ _ _ hle (ih a' w' (hcl.step hk) ?_ h3.2)⟩) hh
      rcases h3.1 with ht | hS'
      · rcases hn with hn | hn
        · rw [ht] at hn; cases hn
        · exact .inr hn
      · exact .inl hS'
    refine ⟨fun h0 => by rw [h0] at hne; simp at hne, fun k hk => ?_⟩
    rcases hr k hk with e | e
    · subst e
      exact key k t hk hni h2 (Nat.le_max_left _ _) h.1 (fun a w hc => wpOU_sound hin hs hTr hQ t _ a w hc h2)
    · subst e
      exact key k u hk hnj h3 (Nat.le_max_right _ _) h.2 (fun a w hc => wpOU_sound hin hs hTr hQ u _ a w hc h3)

theorem wp_region_treeC {id : Nat} {a : Act} {w : World} (t : OT) (T : Nat → Bool) (S : World → Prop) (hm : P.follows .mixedOrders = true) (hin : inside .any l.toArray = true) (hs : Region.noSelect l.toArray = true) (hT : ∀ t, T t = true → t < l.length)
    (hQ : ∀ d v c a w, Q (.panic c) (a.put (some d) v) w → Q (.panic c) a w) (hok : okOU .any l.toArray T t (Array.replicate l.length false) = true) (hlen : t.size = l.length) (hS : S w.drew)
    (h : wpOT P l Q S T t a w.drew) : (Code.region id l.toArray true).wp P Q a w := by
  refine wp_region_any hm (wpAny_of_T (S := S) (T := T) _ _ _ _ ?_)
  have hcl : Closed .any l.toArray (Array.replicate l.length false) := fun k ok hk hl => by
    have hlt := (Array.getElem?_eq_some_iff.1 hk).1
    simp at hlt
    simp [hlt] at hl
  have := wpOU_sound (md := .any) hin hs (fun t ht => by simpa using hT t ht) hQ t _ a w.drew hcl hok (.inl hS) h
  rw [hlen] at this
  simp only [List.size_toArray]
  exact this
end
end Go.Proofs.Ytcgefncddbbnlaa
