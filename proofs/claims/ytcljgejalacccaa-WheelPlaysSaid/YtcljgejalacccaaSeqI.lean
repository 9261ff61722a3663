/-
  A region that draws its order, inside a round of a range over a function: what only reads, writes, allocates is walked as everywhere. No program in sight.
-/
import Derived.Test.YtcljgejalacccaaSeqU
import Derived.OrdersIn
import Derived.RangeFuncCalls
namespace Go.Proofs.Ytcljgejalacccaa

/-- Operations that only read. -/
def tame : Op → Bool
  | .move _ | .assign _ | .pick .. | .load .. | .nilCheck _ | .fieldAddr .. | .indexAddr .. | .binOp .. | .unOp .. => true
  | _ => false
def IsVal (P : Program) (s : Sem Next) : Prop := ∀ w nx w', s.run P w = .ok nx w' → ∃ v, nx = .value v
theorem IsVal.pure_ {P : Program} (v : Value) : IsVal P (pure (.value v)) := fun w nx w' h => by
  rw [Sem.run_pure] at h
  injection h with h
  exact ⟨v, h.symm⟩
theorem IsVal.bind_ {P : Program} {α : Type} (s : Sem α) (f : α → Sem Next) (h : ∀ x, IsVal P (f x)) : IsVal P (s >>= f) := fun w nx w' hr => by
  rw [Sem.run_bind] at hr
  cases hs : s.run P w with
  | ok x w1 => rw [hs, Result.andThen_ok] at hr; exact h x _ _ _ hr
  | halt c w1 => rw [hs] at hr; cases hr
theorem IsVal.map_ {P : Program} (s : Sem Value) : IsVal P (do pure (.value (← s))) := IsVal.bind_ s _ (fun v => IsVal.pure_ v)
theorem tame_val {P : Program} {o : Oper} (ρ : Operand → Value) (h : tame o.op = true) (hn : ∀ x, o.op ≠ .nilCheck x) : IsVal P (execOp ρ o) := by
  unfold execOp
  cases ho : o.op <;> simp only [ho, tame] at h <;> first | (exact absurd ho (hn _)) | (cases h; done) | exact IsVal.pure_ _ | exact IsVal.map_ _ | exact IsVal.bind_ _ _ (fun _ => IsVal.pure_ _)
theorem nil_val {P : Program} {o : Oper} (ρ : Operand → Value) (x : Operand) (ho : o.op = .nilCheck x) : IsVal P (execOp ρ o) := by
  unfold execOp
  rw [ho]
  dsimp only
  split
  · intro w nx w' h; simp [go_sem, runtimePanic] at h
  · intro w nx w' h; simp [go_sem, runtimePanic] at h
  · intro w nx w' h; simp [go_sem, runtimePanic] at h
  · split
    · intro w nx w' h; simp [go_sem, runtimePanic] at h
    · refine IsVal.bind_ _ _ (fun _ => IsVal.bind_ _ _ (fun _ => ?_))
      split
      · exact IsVal.bind_ _ _ (fun _ => IsVal.pure_ _)
      · exact IsVal.pure_ _
    · exact IsVal.pure_ _
  · exact IsVal.pure_ _

section
variable {P : Program} {ops : Array Oper} {md : Region.Mode} {F : Fence} {n : Nat} {Q : Exit → Act → World → Prop}
def Qn (R : Act → World → Prop) : Exit → Act → World → Prop := fun e a w => e = .normal ∧ R a w
theorem tame_next {o : Oper} (ρ : Operand → Value) (h : tame o.op = true) : IsVal P (execOp ρ o) := by
  by_cases hn : ∃ x, o.op = .nilCheck x
  · obtain ⟨x, hx⟩ := hn; exact nil_val ρ x hx
  · exact tame_val ρ h (fun x hx => hn ⟨x, hx⟩)
theorem tame_about {o : Oper} (h : tame o.op = true) (w : World) (ρ : Operand → Value) : o.about P w ρ = none := by
  unfold Oper.about
  cases ho : o.op <;> simp only [ho, tame] at h <;> first | rfl | (cases h; done)
theorem tame_defer {o : Oper} (h : tame o.op = true) : ∀ c, o.op ≠ .defer c := fun c e => by rw [e] at h; cases h
theorem wpOpIn_of_wpOp {R K K' : Act → World → Prop} {i : Nat} (ht : ∀ o, ops[i]? = some o → tame o.op = true) (hK : ∀ a w, K a w → K' a w) {a : Act} {w : World} (h : wpOp P ops (Qn R) i K a w) : wpOpIn F n P ops Q i K' a w := by
  unfold wpOp at h
  unfold wpOpIn
  cases ho : ops[i]? with
  | none => rw [ho] at h; exact hK _ _ h
  | some o =>
    rw [ho] at h
    dsimp only at h ⊢
    have hto := ht o ho
    split
    · rename_i hw
      rw [if_pos hw] at h
      rcases h with h | ⟨_, _, _, h, _⟩
      · unfold Oper.wp at h
        unfold Oper.wpIn
        refine ⟨fun f hf => (by rw [tame_about hto] at hf; cases hf), ?_⟩
        rw [Oper.semAt_eq _ _ _ (tame_defer hto)]
        cases hr : (execOp a.eval o).run P w with
        | ok nx w' =>
          obtain ⟨v, rfl⟩ := tame_next a.eval hto w nx w' hr
          rw [hr, Oper.upon_value] at h
          rw [Oper.uponIn_value]
          exact hK _ _ h
        | halt c w' =>
          rw [hr] at h
          cases c <;> simp only [Oper.upon] at h
          exact absurd h.1 (by simp)
      · cases h
    · rename_i hw
      rw [if_neg hw] at h
      exact ⟨fun f hf => (by rw [tame_about hto] at hf; cases hf), hK _ _ h⟩
theorem wpAnyIn_of_wpAny {R : Act → World → Prop} (ht : ∀ (i : Nat) (o : Oper), ops[i]? = some o → tame o.op = true) (hR : ∀ a w, R a w → Q .normal a w) : ∀ (fuel : Nat) (listed : Array Bool) (a : Act) (w : World), wpAny P md ops (Qn R) fuel listed a w → wpAnyIn F n P md ops Q fuel listed a w
  | 0, _, _, _, h => ⟨h.1, hR _ _ h.2.2⟩
  | fuel + 1, _, _, _, h => ⟨fun h0 => hR _ _ (h.1 h0).2, fun i hi => wpOpIn_of_wpOp (ht i) (fun a w h' => wpAnyIn_of_wpAny ht hR fuel _ a w h') (h.2 i hi)⟩
end
theorem wpIn_region_treeT {P : Program} {F : Fence} {n : Nat} {l : List Oper} {Q : Exit → Act → World → Prop} {id : Nat} {a : Act} {w : World} (t : OT) (T : Nat → Bool) (S : World → Prop) (hm : P.follows .mixedOrders = true) (hin : inside .any l.toArray = true) (hs : Region.noSelect l.toArray = true) (htm : l.all (fun o => tame o.op) = true) (hT : ∀ t, T t = true → t < l.length)
    (hok : okOU .any l.toArray T t (Array.replicate l.length false) = true) (hlen : t.size = l.length) (hS : S w.drew)
    (h : wpOT P l (Qn (Q .normal)) S T t a w.drew) : (Code.region id l.toArray true).wpIn F n P Q a w := by
  have hQ : ∀ d v c a w, Qn (Q .normal) (.panic c) (a.put (some d) v) w → Qn (Q .normal) (.panic c) a w := fun _ _ _ _ _ h => absurd h.1 (by simp)
  refine wpIn_region_any hm (wpAnyIn_of_wpAny (R := Q .normal) (fun i o ho => ?_) (fun _ _ h => h) _ _ _ _ (wpAny_of_T (S := S) (T := T) _ _ _ _ ?_))
  · have h1 := List.all_eq_true.1 htm
    exact h1 o (by simpa using List.mem_of_getElem? (by simpa using ho))
  · have hcl : Closed .any l.toArray (Array.replicate l.length false) := fun k ok hk hl => by
      have hlt := (Array.getElem?_eq_some_iff.1 hk).1
      simp at hlt
      simp [hlt] at hl
    have := wpOU_sound (md := .any) hin hs (fun t ht => by simpa using hT t ht) hQ t _ a w.drew hcl hok (.inl hS) h
    rw [hlen] at this
    simp only [List.size_toArray]
    exact this
end Go.Proofs.Ytcljgejalacccaa
