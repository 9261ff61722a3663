/-
  A region that draws its order, walked along a tree of orders, where some of what only yields does not look at the world at all: it may come behind a last store too. No program in sight.
-/
import Derived.Test.YtcgefncddbbnlaaSeqU
namespace Go.Proofs.Ytcgefncddbbnlaa
section
variable {P : Program} {ops : Array Oper} {Q : Exit → Act → World → Prop} {md : Region.Mode} {S : World → Prop} {T fr : Nat → Bool}

/-- Whatever order is picked from here on, and S goes on behind every operation but those of T. -/
def wpAnyP (P : Program) (md : Region.Mode) (ops : Array Oper) (Q : Exit → Act → World → Prop) (S : World → Prop) (T : Nat → Bool) : Nat → Array Bool → Act → World → Prop
  | 0, listed, a, w => Region.ready md ops listed = [] ∧ Q .normal a w
  | fuel + 1, listed, a, w =>
    (Region.ready md ops listed = [] → Q .normal a w) ∧
    ∀ i ∈ Region.ready md ops listed, wpOp P ops Q i (fun a' w' => (S w → T i = true ∨ S w') ∧ wpAnyP P md ops Q S T fuel (listed.setIfInBounds i true) a' w') a w
theorem wpAny_of_P : ∀ (fuel : Nat) (listed : Array Bool) (a : Act) (w : World), wpAnyP P md ops Q S T fuel listed a w → wpAny P md ops Q fuel listed a w
  | 0, _, _, _, h => h
  | fuel + 1, _, _, _, h => ⟨h.1, fun i hi => wpOp_mono (fun a' w' h' => wpAny_of_P fuel _ a' w' h'.2) (h.2 i hi)⟩

theorem wpAnyP_first (hin : inside md ops = true) (n : Nat) {i : Nat} {oi : Oper} {v : Value} (hi : ops[i]? = some oi) (hsel : ∀ (j : Nat) (o : Oper) cs b, ops[j]? = some o → o.op ≠ .select cs b)
    (hQ : ∀ c a w, Q (.panic c) (a.put oi.dst v) w → Q (.panic c) a w) (hT : ∀ t, T t = true → fr i = true ∨ reach md ops n t i = true) :
    ∀ (fuel : Nat) (listed : Array Bool) (a : Act) (w : World), Closed md ops listed →
      (∀ j oj, ops[j]? = some oj → j ≠ i → listed.getD j true = false → (∀ e ∈ oj.after, Region.binds md e = true → e.on ≠ i) → oi.apart ops oj = true) →
      i ∈ Region.ready md ops listed → YieldsIf P ops (fun w => fr i = true ∨ S w) oi v a → (fr i = true ∨ S w) →
      wpAnyP P md ops Q S T fuel (listed.setIfInBounds i true) (a.put oi.dst v) w → wpAnyP P md ops Q S T (fuel + 1) listed a w := by
  intro fuel
  induction fuel with
  | zero =>
    intro listed a w _ _ hr hy hS H
    refine ⟨fun h => (by rw [h] at hr; cases hr), fun j hj => ?_⟩
    by_cases hji : j = i
    · subst hji; exact hy.wpOp hi hS ⟨.inr, H⟩
    · have := ready_mono hj hji
      rw [H.1] at this
      cases this
  | succ fuel ih =>
    intro listed a w hcl hfree hr hy hS H
    refine ⟨fun h => (by rw [h] at hr; cases hr), fun j hj => ?_⟩
    by_cases hji : j = i
    · subst hji; exact hy.wpOp hi hS ⟨.inr, H⟩
    · have h1 := H.2 j (ready_mono hj hji)
      obtain ⟨hjun, oj, hoj, hall⟩ := mem_ready.1 hj
      have hiun := (mem_ready.1 hr).1
      have hnot : ∀ e ∈ oj.after, Region.binds md e = true → e.on ≠ i := fun e he hb heq => by
        have h1 := hall e he hb
        have h0 := (mem_ready.1 hr).1
        rw [heq] at h1
        rcases Nat.lt_or_ge i listed.size with h' | h'
        · simp [h'] at h0 h1; rw [h0] at h1; cases h1
        · simp [Array.getElem?_eq_none h'] at h1
      have hTj : T j = true → fr i = true := fun ht => (hT j ht).resolve_right (fun hre => by
        have h5 := reach_in hin hcl n j oj hoj hall hre
        rcases Nat.lt_or_ge i listed.size with h' | h'
        · simp [h'] at h5 hiun; rw [hiun] at h5; cases h5
        · simp [Array.getElem?_eq_none h'] at h5)
      have h2 := wpOp_putIf hoj (hfree j oj hoj hji hjun hnot) (fun cs b => hsel i oi cs b hi) (fun cs b => hsel j oj cs b hoj) hQ hy h1
      have hfree' : ∀ k ok, ops[k]? = some ok → k ≠ i → (listed.setIfInBounds j true).getD k true = false →
          (∀ e ∈ ok.after, Region.binds md e = true → e.on ≠ i) → oi.apart ops ok = true := fun k ok hk hki hun hno => by
        refine hfree k ok hk hki ?_ hno
        by_cases hjk : j = k
        · subst hjk; exact hjun
        · rw [getD_set_ne true hjk] at hun; exact hun
      refine wpOp_mono (fun a' w' h3 => ?_) h2
      have hS' : fr i = true ∨ S w' := by
        rcases hS with hS | hS
        · exact .inl hS
        · rcases h3.2.1 hS with ht | h
          · exact .inl (hTj ht)
          · exact .inr h
      refine ⟨h3.2.1, ih (listed.setIfInBounds j true) a' w' (hcl.step hj) hfree' (ready_mono hr (Ne.symm hji)) h3.1 hS' ?_⟩
      rw [Array.setIfInBounds_comm _ _ hji]
      exact h3.2.2
end
section
variable {P : Program} {l : List Oper} {Q : Exit → Act → World → Prop} {md : Region.Mode} {S : World → Prop} {T fr : Nat → Bool}
def OT.noR (fr : Nat → Bool) : OT → Bool
  | .d => true
  | .q i t => fr i && t.noR fr
  | .l _ t => t.noR fr
  | .b _ t _ u => t.noR fr && u.noR fr
def wpOF (P : Program) (l : List Oper) (Q : Exit → Act → World → Prop) (S : World → Prop) (T fr : Nat → Bool) : OT → Act → World → Prop
  | .d, a, w => Q .normal a w
  | .q i t, a, w => match nthO l i with
    | none => False
    | some o => ∃ v, YieldsIf P l.toArray (fun w => fr i = true ∨ S w) o v a ∧ wpOF P l Q S T fr t (a.put o.dst v) w
  | .l i t, a, w => wpLoud P l Q S T i a w (wpOF P l Q S T fr t)
  | .b i t j u, a, w => wpLoud P l Q S T i a w (wpOF P l Q S T fr t) ∧ wpLoud P l Q S T j a w (wpOF P l Q S T fr u)
def okOF (md : Region.Mode) (ops : Array Oper) (T fr : Nat → Bool) : OT → Array Bool → Bool
  | .d, listed => (Region.ready md ops listed).isEmpty
  | .q i t, listed => (Region.ready md ops listed).contains i && Region.free md ops listed i && (fr i || (List.range ops.size).all (fun t => !T t || reach md ops ops.size t i)) && okOF md ops T fr t (listed.setIfInBounds i true)
  | .l i t, listed => (Region.ready md ops listed) == [i] && (!T i || t.noR fr) && okOF md ops T fr t (listed.setIfInBounds i true)
  | .b i t j u, listed => (Region.ready md ops listed).all (fun x => x == i || x == j) && !(Region.ready md ops listed).isEmpty && (!T i || t.noR fr) && (!T j || u.noR fr) && okOF md ops T fr t (listed.setIfInBounds i true) && okOF md ops T fr u (listed.setIfInBounds j true)
theorem wpAnyP_mono : ∀ (n m : Nat) (listed : Array Bool) (a : Act) (w : World), n ≤ m → wpAnyP P md l.toArray Q S T n listed a w → wpAnyP P md l.toArray Q S T m listed a w
  | 0, 0, _, _, _, _, h => h
  | 0, m + 1, listed, a, w, _, h => ⟨fun _ => h.2, by rw [h.1]; simp⟩
  | n + 1, m + 1, listed, a, w, hnm, h => ⟨h.1, fun i hi => wpOp_mono (fun a' w' h' => ⟨h'.1, wpAnyP_mono n m _ a' w' (by omega) h'.2⟩) (h.2 i hi)⟩
theorem wpOF_sound (hin : inside md l.toArray = true) (hs : Region.noSelect l.toArray = true) (hTr : ∀ t, T t = true → t < l.toArray.size) (hQ : ∀ d v c a w, Q (.panic c) (a.put (some d) v) w → Q (.panic c) a w) : ∀ (t : OT) (listed : Array Bool) (a : Act) (w : World), Closed md l.toArray listed →
    okOF md l.toArray T fr t listed = true → (S w ∨ t.noR fr = true) → wpOF P l Q S T fr t a w → wpAnyP P md l.toArray Q S T t.size listed a w
  | .d, listed, a, w, _, hok, _, h => ⟨List.isEmpty_iff.1 hok, h⟩
  | .q i t, listed, a, w, hcl, hok, hS, h => by
    unfold okOF at hok
    simp only [Bool.and_eq_true, List.all_eq_true, Bool.or_eq_true] at hok
    obtain ⟨⟨⟨hr, hf⟩, hw⟩, h2⟩ := hok
    unfold wpOF at h
    have hn := nthO_eq l i
    cases ho : nthO l i with
    | none => rw [ho] at h; exact h.elim
    | some o =>
      rw [ho] at h hn
      dsimp only at h
      obtain ⟨v, hy, h⟩ := h
      have hS' : fr i = true ∨ S w := by
        rcases hS with h | h
        · exact .inr h
        · simp only [OT.noR, Bool.and_eq_true] at h
          exact .inl h.1
      have hS2 : S w ∨ t.noR fr = true := hS.imp id (fun h => by simp only [OT.noR, Bool.and_eq_true] at h; exact h.2)
      have hr' : i ∈ Region.ready md l.toArray listed := by simpa using hr
      refine wpAnyP_first hin l.toArray.size (i := i) (v := v) hn.symm (Region.noSelect_spec hs) (fun c a w => putQ hQ o.dst v c a w) (fun t ht => ?_) t.size listed a w hcl (Region.free_spec hn.symm hf) hr' hy hS' (wpOF_sound hin hs hTr hQ t _ _ _ (hcl.step hr') h2 hS2 h)
      refine hw.imp id (fun hw => ?_)
      have := hw t (List.mem_range.2 (hTr t ht))
      simpa [ht] using this
  | .l i t, listed, a, w, hcl, hok, hS, h => by
    unfold okOF at hok
    simp only [Bool.and_eq_true, beq_iff_eq, Bool.or_eq_true, Bool.not_eq_true'] at hok
    obtain ⟨⟨hr, hn⟩, h2⟩ := hok
    refine ⟨fun h0 => absurd (hr.symm.trans h0) (by simp), fun j hj => ?_⟩
    have hj' := hj
    rw [hr] at hj
    obtain rfl : j = i := by simpa using hj
    unfold wpOF wpLoud at h
    refine wpOp_mono (fun a' w' h3 => ⟨fun _ => h3.1, wpOF_sound hin hs hTr hQ t _ a' w' (hcl.step hj') h2 ?_ h3.2⟩) h
    rcases h3.1 with ht | hS'
    · rcases hn with hn | hn
      · rw [ht] at hn; cases hn
      · exact .inr hn
    · exact .inl hS'
  | .b i t j u, listed, a, w, hcl, hok, hS, h => by
    unfold okOF at hok
    simp only [Bool.and_eq_true, List.all_eq_true, Bool.or_eq_true, Bool.not_eq_true', beq_iff_eq] at hok
    obtain ⟨⟨⟨⟨⟨hr, hne⟩, hni⟩, hnj⟩, h2⟩, h3⟩ := hok
    unfold wpOF wpLoud at h
    have key : ∀ k t', k ∈ Region.ready md l.toArray listed → (T k = false ∨ t'.noR fr = true) → okOF md l.toArray T fr t' (listed.setIfInBounds k true) = true → t'.size ≤ max t.size u.size →
        wpOp P l.toArray Q k (fun a' w' => (T k = true ∨ S w') ∧ wpOF P l Q S T fr t' a' w') a w → (∀ a w, Closed md l.toArray (listed.setIfInBounds k true) → (S w ∨ t'.noR fr = true) → wpOF P l Q S T fr t' a w → wpAnyP P md l.toArray Q S T t'.size (listed.setIfInBounds k true) a w) →
        wpOp P l.toArray Q k (fun a' w' => (S w → T k = true ∨ S w') ∧ wpAnyP P md l.toArray Q S T (max t.size u.size) (listed.setIfInBounds k true) a' w') a w := fun k t' hk hn hok hle hh ih => by
      refine wpOp_mono (fun a' w' h3 => ⟨fun _ => h3.1, wpAnyP_mono _ _ _ _ _ hle (ih a' w' (hcl.step hk) ?_ h3.2)⟩) hh
      rcases h3.1 with ht | hS'
      · rcases hn with hn | hn
        · rw [ht] at hn; cases hn
        · exact .inr hn
      · exact .inl hS'
    refine ⟨fun h0 => by rw [h0] at hne; simp at hne, fun k hk => ?_⟩
    rcases hr k hk with e | e
    · subst e
      exact key k t hk hni h2 (Nat.le_max_left _ _) h.1 (fun a w hc => wpOF_sound hin hs hTr hQ t _ a w hc h2)
    · subst e
      exact key k u hk hnj h3 (Nat.le_max_right _ _) h.2 (fun a w hc => wpOF_sound hin hs hTr hQ u _ a w hc h3)

theorem wp_region_treeF {id : Nat} {a : Act} {w : World} (t : OT) (T fr : Nat → Bool) (S : World → Prop) (hm : P.follows .mixedOrders = true) (hin : inside .any l.toArray = true) (hs : Region.noSelect l.toArray = true) (hT : ∀ t, T t = true → t < l.length)
    (hQ : ∀ d v c a w, Q (.panic c) (a.put (some d) v) w → Q (.panic c) a w) (hok : okOF .any l.toArray T fr t (Array.replicate l.length false) = true) (hlen : t.size = l.length) (hS : S w.drew)
    (h : wpOF P l Q S T fr t a w.drew) : (Code.region id l.toArray true).wp P Q a w := by
  refine wp_region_any hm (wpAny_of_P (S := S) (T := T) _ _ _ _ ?_)
  have hcl : Closed .any l.toArray (Array.replicate l.length false) := fun k ok hk hl => by
    have hlt := (Array.getElem?_eq_some_iff.1 hk).1
    simp at hlt
    simp [hlt] at hl
  have := wpOF_sound (md := .any) hin hs (fun t ht => by simpa using hT t ht) hQ t _ a w.drew hcl hok (.inl hS) h
  rw [hlen] at this
  simp only [List.size_toArray]
  exact this

/-! ### The moves -/
theorem wpOF_d {a : Act} {w : World} (h : Q .normal a w) : wpOF P l Q S T fr .d a w := h
theorem wpOF_q {i : Nat} {t : OT} {o : Oper} {v : Value} {a : Act} {w : World} (hf : fr i = false) (ho : nthO l i = some o) (hw : Region.wanted o (yielded l.toArray a.tmps) = true)
    (hy : ∀ w, S w → (execOp a.eval o).run P w = .ok (.value v) w) (h : wpOF P l Q S T fr t (a.put o.dst v) w) : wpOF P l Q S T fr (.q i t) a w := by
  unfold wpOF
  rw [ho]
  exact ⟨v, .inl ⟨hw, fun w h => hy w (h.resolve_left (by rw [hf]; simp))⟩, h⟩
theorem wpOF_f {i : Nat} {t : OT} {o : Oper} {v : Value} {a : Act} {w : World} (ho : nthO l i = some o) (hw : Region.wanted o (yielded l.toArray a.tmps) = true)
    (hy : ∀ w, (execOp a.eval o).run P w = .ok (.value v) w) (h : wpOF P l Q S T fr t (a.put o.dst v) w) : wpOF P l Q S T fr (.q i t) a w := by
  unfold wpOF
  rw [ho]
  exact ⟨v, .inl ⟨hw, fun w _ => hy w⟩, h⟩
theorem wpOF_skip {i : Nat} {t : OT} {o : Oper} {a : Act} {w : World} (ho : nthO l i = some o) (hw : Region.wanted o (yielded l.toArray a.tmps) = false)
    (h : wpOF P l Q S T fr t (a.put o.dst undef) w) : wpOF P l Q S T fr (.q i t) a w := by
  unfold wpOF
  rw [ho]
  exact ⟨undef, .inr ⟨hw, rfl⟩, h⟩
theorem wpOF_loud {i : Nat} {t : OT} {o : Oper} {a : Act} {w : World} (ho : nthO l i = some o) (hw : Region.wanted o (yielded l.toArray a.tmps) = true)
    (h : ∀ K : Act → World → Prop, (∀ a' w', (T i = true ∨ S w') → wpOF P l Q S T fr t a' w' → K a' w') → o.wp P a w K Q) : wpLoud P l Q S T i a w (wpOF P l Q S T fr t) := by
  unfold wpLoud wpOp
  rw [nthO_eq] at ho
  rw [ho]
  dsimp only
  rw [if_pos hw]
  exact .inl (h _ (fun a' w' h1 h2 => ⟨h1, h2⟩))
theorem wpOF_l {i : Nat} {t : OT} {o : Oper} {a : Act} {w : World} (ho : nthO l i = some o) (hw : Region.wanted o (yielded l.toArray a.tmps) = true)
    (h : ∀ K : Act → World → Prop, (∀ a' w', (T i = true ∨ S w') → wpOF P l Q S T fr t a' w' → K a' w') → o.wp P a w K Q) : wpOF P l Q S T fr (.l i t) a w := wpOF_loud ho hw h
/-- One that writes or calls, and is left out. -/
theorem wpOF_lskip {i : Nat} {t : OT} {o : Oper} {a : Act} {w : World} (ho : nthO l i = some o) (hw : Region.wanted o (yielded l.toArray a.tmps) = false) (hS : S w)
    (h : wpOF P l Q S T fr t (a.put o.dst undef) w) : wpOF P l Q S T fr (.l i t) a w := by
  show wpLoud P l Q S T i a w (wpOF P l Q S T fr t)
  unfold wpLoud wpOp
  rw [nthO_eq] at ho
  rw [ho]
  dsimp only
  rw [if_neg (by rw [hw]; simp)]
  exact ⟨.inr hS, h⟩
theorem wpOF_b {i j : Nat} {t u : OT} {a : Act} {w : World} (h1 : wpLoud P l Q S T i a w (wpOF P l Q S T fr t)) (h2 : wpLoud P l Q S T j a w (wpOF P l Q S T fr u)) : wpOF P l Q S T fr (.b i t j u) a w := ⟨h1, h2⟩
end
end Go.Proofs.Ytcgefncddbbnlaa
