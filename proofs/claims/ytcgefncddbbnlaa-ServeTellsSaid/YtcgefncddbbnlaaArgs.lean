/-
  How the arguments of a law read, said of cells.
-/
import Derived.Test.YtcgefncddbbnlaaRows
import Derived.Test.YtcgefncddbbnlaaLib
import Derived.ProofKit
import Derived.Deep.Slices
import Derived.Deep.Fields
import Derived.ChangeSame
import Derived.Carry
import Derived.OpenShut
import Derived.Lib.SmallJoins
namespace Go.Proofs.Ytcgefncddbbnlaa
open Go.ChangeShapes Go.WideShapes Go.ChangeAt Go.RowKit Go.Deep

theorem Args.own : ownKnob Try.prog.godebug = none := by kernel_rfl
theorem Args.laidOut : laidOutB Try.prog = true := by kernel_rfl

/-- A slice of len elements of size cells each: what each cell holds; nothing is known of an empty one. -/
def Row (w : World) (A : Option Addr) (n : Nat) (f : Nat → Value) : Prop := ∀ k, k < n → ∃ a, A = some a ∧ a.block < w.heap.size ∧ w.cell? (a.add k) = some (f k)

theorem add_plain (b o i : Nat) : (⟨b, o, none⟩ : Addr).add i = ⟨b, o + i, none⟩ := by unfold Addr.add; split <;> simp_all

section
variable {P : Program} {H : Type} {enc : TypeId × Value → H} {W : World} {d : DataW H} {p : List MemPlace}
theorem Args.lt {t : TypeId} {v : Value} (h : DataW.Trod enc P W 0 (fun _ => true) true t v d p) : ∀ x ∈ p, x.block < W.heap.size := by
  obtain ⟨m, hm⟩ := h
  exact DataW.trod_lt m _ _ _ hm

theorem arg_bools {t e : TypeId} {a0 : Option Addr} {len cap : Nat} (ht : P.underlying t = some (.slice e)) (he : P.underlying e = some .bool) (hc : P.cellsOf e = 1)
    (h : DataW.Trod enc P W 0 (fun _ => true) true t (.slice a0 len cap) d p) : ∃ B : Nat → Bool, len ≤ cap ∧ Row W a0 len fun k => .bool (B k) := by
  obtain ⟨fuel, hf⟩ := h
  rcases open_slice1 ht hc hf with ⟨h0, _⟩ | ⟨a, l, c, m, n, V, D, Pl, hcs, _, hl, hm, hmm, _, hx⟩
  · simp [Value.cells] at h0
    obtain ⟨rfl, rfl, rfl⟩ := h0
    exact ⟨fun _ => false, by omega, fun k hk => absurd hk (by omega)⟩
  · simp [Value.cells] at hcs
    obtain ⟨rfl, rfl, rfl⟩ := hcs
    simp at hmm
    subst hmm
    refine ⟨fun k => match V k with | .bool b => b | _ => false, hl, fun k hk => ?_⟩
    obtain ⟨h1, h2⟩ := hx k (by omega)
    obtain ⟨b, hb, _⟩ := DataW.trod_bool he h2
    simp at hb
    refine ⟨a, rfl, ?_, ?_⟩
    · have := block_lt_of_cell h1
      rwa [show (a.add k).block = a.block from by unfold Addr.add; split <;> rfl] at this
    · simp only [hb] at h1 ⊢; exact h1

theorem arg_ints {t e : TypeId} {kd : IntKind} {a0 : Option Addr} {len cap : Nat} (ht : P.underlying t = some (.slice e)) (he : P.underlying e = some (.int kd)) (hc : P.cellsOf e = 1)
    (h : DataW.Trod enc P W 0 (fun _ => true) true t (.slice a0 len cap) d p) : ∃ X : Nat → Int, len ≤ cap ∧ (∀ k, k < len → (Lit.int kd (X k)).wf = true) ∧ Row W a0 len fun k => .int kd (X k) := by
  obtain ⟨fuel, hf⟩ := h
  rcases open_slice1 ht hc hf with ⟨h0, _⟩ | ⟨a, l, c, m, n, V, D, Pl, hcs, _, hl, hm, hmm, _, hx⟩
  · simp [Value.cells] at h0
    obtain ⟨rfl, rfl, rfl⟩ := h0
    exact ⟨fun _ => 0, by omega, fun k hk => absurd hk (by omega), fun k hk => absurd hk (by omega)⟩
  · simp [Value.cells] at hcs
    obtain ⟨rfl, rfl, rfl⟩ := hcs
    simp at hmm
    subst hmm
    have key : ∀ k, k < len → ∃ x, V k = .int kd x ∧ (Lit.int kd x).wf = true ∧ W.cell? (a.add k) = some (.int kd x) := by
      intro k hk
      obtain ⟨h1, h2⟩ := hx k (by omega)
      obtain ⟨b, hb, _, hw⟩ := DataW.trod_int he h2
      simp at hb
      exact ⟨b, hb, hw, by rw [h1, hb]⟩
    refine ⟨fun k => match V k with | .int _ b => b | _ => 0, hl, fun k hk => ?_, fun k hk => ?_⟩
    · obtain ⟨x, hv, hw, _⟩ := key k hk
      simp only [hv]; exact hw
    · obtain ⟨x, hv, _, hcell⟩ := key k hk
      refine ⟨a, rfl, ?_, ?_⟩
      · have := block_lt_of_cell hcell
        rwa [show (a.add k).block = a.block from by unfold Addr.add; split <;> rfl] at this
      · simp only [hv]; exact hcell

/-- A struct of three whole numbers, by value. -/
theorem arg_agiii {r : Reach} {b0 : Nat} {t : TypeId} {f0 f1 f2 : Field} {v : Value} (hs : P.underlying t = some (.struct #[f0, f1, f2])) (hone : oneCellFields P #[f0, f1, f2] = true) (hC : P.cellsOf t = 3)
    (hv : Value.okWide P W r b0 t v) (h : DataW.Trod enc P W 0 (fun _ => true) true t v d p)
    (h0 : P.underlying f0.type = some (.int .i64)) (h1 : P.underlying f1.type = some (.int .i64)) (h2 : P.underlying f2.type = some (.int .i64)) :
    ∃ X : Nat → Int, (∀ k, k < 3 → (Lit.int .i64 (X k)).wf = true) ∧ v = .agg #[.int .i64 (X 0), .int .i64 (X 1), .int .i64 (X 2)] := by
  obtain ⟨v0, v1, v2, y0, y1, y2, n, rfl, _, _, e0, e1, e2⟩ := Go.Joins.open_agg3 hs hone hC hv h
  obtain ⟨a, ha, _, wa⟩ := DataW.trod_int h0 e0
  obtain ⟨b, hb, _, wb⟩ := DataW.trod_int h1 e1
  obtain ⟨c, hc, _, wc⟩ := DataW.trod_int h2 e2
  simp at ha hb hc
  refine ⟨fun k => match k with | 0 => a | 1 => b | _ => c, fun k hk => ?_, by subst ha hb hc; rfl⟩
  match k, hk with
  | 0, _ => exact wa
  | 1, _ => exact wb
  | 2, _ => exact wc

/-- An array of three bytes, by value. -/
theorem arg_ar3u {r : Reach} {b0 : Nat} {t e : TypeId} {v : Value} (hs : P.underlying t = some (.array 3 e)) (he : P.underlying e = some (.int .u8)) (hC : P.cellsOf t = 3) (hE : P.cellsOf e = 1)
    (hv : Value.okWide P W r b0 t v) (h : DataW.Trod enc P W 0 (fun _ => true) true t v d p) :
    ∃ X : Nat → Int, (∀ k, k < 3 → (Lit.int .u8 (X k)).wf = true) ∧ v = .agg #[.int .u8 (X 0), .int .u8 (X 1), .int .u8 (X 2)] := by
  have hv' : ∃ cs, v = .agg cs ∧ cs.size = P.cellsOf t := by
    simp only [Value.okWide, hs] at hv
    obtain ⟨cs, h1, h2, _⟩ := hv
    exact ⟨cs, h1, h2⟩
  obtain ⟨cs, rfl, hsz⟩ := hv'
  obtain ⟨c0, c1, c2, rfl⟩ := Go.Joins.array3 (hsz.trans hC)
  obtain ⟨fuel, hf⟩ := h
  obtain ⟨xs, m, _, _, _, hlen, hx⟩ := DataW.trod_array hs hf
  have key : ∀ i, i < 3 → ∃ y, xs[i]? = some y := fun i hi => ⟨_, List.getElem?_eq_getElem (by omega)⟩
  obtain ⟨y0, e0⟩ := key 0 (by omega)
  obtain ⟨y1, e1⟩ := key 1 (by omega)
  obtain ⟨y2, e2⟩ := key 2 (by omega)
  have h0 := hx 0 (by omega)
  have h1 := hx 1 (by omega)
  have h2 := hx 2 (by omega)
  rw [e0] at h0
  rw [e1] at h1
  rw [e2] at h2
  simp only [hE, Value.cells] at h0 h1 h2
  obtain ⟨a, ha, _, wa⟩ := DataW.trod_int he h0
  obtain ⟨b, hb, _, wb⟩ := DataW.trod_int he h1
  obtain ⟨c, hc, _, wc⟩ := DataW.trod_int he h2
  simp at ha hb hc
  refine ⟨fun k => match k with | 0 => a | 1 => b | _ => c, fun k hk => ?_, by subst ha hb hc; rfl⟩
  match k, hk with
  | 0, _ => exact wa
  | 1, _ => exact wb
  | 2, _ => exact wc

/-- A slice of structs of three whole numbers. -/
theorem arg_sliii {t e : TypeId} {a0 : Option Addr} {len cap : Nat} {f0 f1 f2 : Field} (ht : P.underlying t = some (.slice e)) (he : P.underlying e = some (.struct #[f0, f1, f2])) (hone : oneCellFields P #[f0, f1, f2] = true) (hc : P.cellsOf e = 3)
    (h : DataW.Trod enc P W 0 (fun _ => true) true t (.slice a0 len cap) d p)
    (h0 : P.underlying f0.type = some (.int .i64)) (h1 : P.underlying f1.type = some (.int .i64)) (h2 : P.underlying f2.type = some (.int .i64)) :
    ∃ X : Nat → Nat → Int, len ≤ cap ∧ (∀ k j, k < len → j < 3 → (Lit.int .i64 (X k j)).wf = true) ∧ Row3 W a0 len X := by
  obtain ⟨fuel, hf⟩ := h
  rcases open_slice ht hf with ⟨hcs, _⟩ | ⟨a, l, c, m, n, D, Pl, hcs, _, hl, hm, hmm, _, hx⟩
  · simp [Value.cells] at hcs
    obtain ⟨rfl, rfl, rfl⟩ := hcs
    exact ⟨fun _ _ => 0, by omega, fun k j hk _ => absurd hk (by omega), fun k hk => absurd hk (by omega)⟩
  · simp [Value.cells] at hcs
    obtain ⟨rfl, rfl, rfl⟩ := hcs
    simp at hmm
    subst hmm
    have hspot0 : 0 < len → a.spot = none := by
      intro h0
      obtain ⟨cs', hcl, _⟩ := hx 0 (by omega)
      rw [hc] at hcl
      obtain ⟨_, hlen, hat⟩ := World.cells?_some hcl
      have g0 := hat 0 (by omega)
      have e0 : (a.add (0 * 3)).add 0 = a := by simp [Addr.add]
      rw [e0] at g0
      match cs', hlen with
      | c0 :: _, _ => exact World.cell?_spot g0
    have key : ∀ k, k < len → ∃ x0 x1 x2 : Int, (Lit.int .i64 x0).wf = true ∧ (Lit.int .i64 x1).wf = true ∧ (Lit.int .i64 x2).wf = true ∧ a.spot = none ∧ a.block < W.heap.size ∧
        W.cell? ⟨a.block, a.off + k * 3, none⟩ = some (.int .i64 x0) ∧ W.cell? ⟨a.block, a.off + k * 3 + 1, none⟩ = some (.int .i64 x1) ∧ W.cell? ⟨a.block, a.off + k * 3 + 2, none⟩ = some (.int .i64 x2) := by
      intro k hk
      obtain ⟨cs', hcl, htr⟩ := hx k (by omega)
      rw [hc] at hcl
      obtain ⟨_, hlen, hat⟩ := World.cells?_some hcl
      obtain ⟨y0, y1, y2, n', _, _, e0, e1, e2⟩ := trod_struct3 he htr
      obtain ⟨o0, k0⟩ := hone_of hone 0 f0 rfl
      obtain ⟨o1, k1⟩ := hone_of hone 1 f1 rfl
      obtain ⟨o2, k2⟩ := hone_of hone 2 f2 rfl
      match cs', hlen with
      | [c0, c1, c2], _ =>
        rw [o0, k0] at e0
        rw [o1, k1] at e1
        rw [o2, k2] at e2
        obtain ⟨x0, hv0, _, w0⟩ := DataW.trod_int h0 e0
        obtain ⟨x1, hv1, _, w1⟩ := DataW.trod_int h1 e1
        obtain ⟨x2, hv2, _, w2⟩ := DataW.trod_int h2 e2
        simp at hv0 hv1 hv2
        have g0 := hat 0 (by omega)
        have g1 := hat 1 (by omega)
        have g2 := hat 2 (by omega)
        simp only [List.getElem?_cons_zero, List.getElem?_cons_succ, hv0, hv1, hv2] at g0 g1 g2
        have hspot := hspot0 (by omega)
        obtain ⟨b, o, sp⟩ := a
        simp at hspot
        subst hspot
        have hadd : ∀ i j, ((⟨b, o, none⟩ : Addr).add i).add j = ⟨b, o + i + j, none⟩ := by
          intro i j
          rw [add_plain, add_plain]
        rw [hadd] at g0 g1 g2
        exact ⟨x0, x1, x2, w0, w1, w2, rfl, block_lt_of_cell (a := ⟨b, o + k * 3 + 0, none⟩) g0, g0, g1, g2⟩
    refine ⟨fun k j => if h : k < len then (match j with | 0 => (key k h).choose | 1 => (key k h).choose_spec.choose | _ => (key k h).choose_spec.choose_spec.choose) else 0, hl, fun k j hk hj => ?_, fun k hk => ?_⟩
    · have s := (key k hk).choose_spec.choose_spec.choose_spec
      simp only [hk, dif_pos]
      match j, hj with
      | 0, _ => exact s.1
      | 1, _ => exact s.2.1
      | 2, _ => exact s.2.2.1
    · have s := (key k hk).choose_spec.choose_spec.choose_spec
      simp only [hk, dif_pos]
      refine ⟨a.block, a.off, ?_, s.2.2.2.2.1, s.2.2.2.2.2.1, s.2.2.2.2.2.2.1, s.2.2.2.2.2.2.2⟩
      obtain ⟨b, o, sp⟩ := a
      have := s.2.2.2.1
      simp at this
      rw [this]
end
end Go.Proofs.Ytcgefncddbbnlaa
