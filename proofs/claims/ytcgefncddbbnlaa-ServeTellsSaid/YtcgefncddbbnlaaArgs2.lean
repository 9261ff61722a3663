/-
  More arguments, said of cells: a slice of structs of two whole numbers; a struct of a truth value and two whole numbers.
-/
import Derived.Test.YtcgefncddbbnlaaArgs
namespace Go.Proofs.Ytcgefncddbbnlaa
open Go.ChangeShapes Go.WideShapes Go.ChangeAt Go.RowKit Go.Deep

def Row2 (w : World) (A : Option Addr) (len : Nat) (xs : Nat → Nat → Int) : Prop :=
  ∀ k, k < len → ∃ b o, A = some ⟨b, o, none⟩ ∧ b < w.heap.size ∧ w.cell? ⟨b, o + k * 2, none⟩ = some (.int .i64 (xs k 0)) ∧ w.cell? ⟨b, o + k * 2 + 1, none⟩ = some (.int .i64 (xs k 1))

section
variable {P : Program} {H : Type} {enc : TypeId × Value → H} {W : World} {d : DataW H} {p : List MemPlace}
theorem arg_slii {t e : TypeId} {a0 : Option Addr} {len cap : Nat} {f0 f1 : Field} (ht : P.underlying t = some (.slice e)) (he : P.underlying e = some (.struct #[f0, f1])) (hone : oneCellFields P #[f0, f1] = true) (hc : P.cellsOf e = 2)
    (h : DataW.Trod enc P W 0 (fun _ => true) true t (.slice a0 len cap) d p)
    (h0 : P.underlying f0.type = some (.int .i64)) (h1 : P.underlying f1.type = some (.int .i64)) :
    ∃ X : Nat → Nat → Int, len ≤ cap ∧ (∀ k j, k < len → j < 2 → (Lit.int .i64 (X k j)).wf = true) ∧ Row2 W a0 len X := by
  obtain ⟨fuel, hf⟩ := h
  rcases open_slice ht hf with ⟨hcs, _⟩ | ⟨a, l, c, m, n, D, Pl, hcs, _, hl, hm, hmm, _, hx⟩
  · simp [Value.cells] at hcs
    obtain ⟨rfl, rfl, rfl⟩ := hcs
    exact ⟨fun _ _ => 0, by omega, fun k j hk _ => absurd hk (by omega), fun k hk => absurd hk (by omega)⟩
  · simp [Value.cells] at hcs
    obtain ⟨rfl, rfl, rfl⟩ := hcs
    simp at hmm
    subst hmm
    have hspot0 : 0 < len → a.spot = none := by
      intro h0
      obtain ⟨cs', hcl, _⟩ := hx 0 (by omega)
      rw [hc] at hcl
      obtain ⟨_, hlen, hat⟩ := World.cells?_some hcl
      have g0 := hat 0 (by omega)
      have e0 : (a.add (0 * 2)).add 0 = a := by simp [Addr.add]
      rw [e0] at g0
      match cs', hlen with
      | c0 :: _, _ => exact World.cell?_spot g0
    have key : ∀ k, k < len → ∃ x0 x1 : Int, (Lit.int .i64 x0).wf = true ∧ (Lit.int .i64 x1).wf = true ∧ a.spot = none ∧ a.block < W.heap.size ∧
        W.cell? ⟨a.block, a.off + k * 2, none⟩ = some (.int .i64 x0) ∧ W.cell? ⟨a.block, a.off + k * 2 + 1, none⟩ = some (.int .i64 x1) := by
      intro k hk
      obtain ⟨cs', hcl, htr⟩ := hx k (by omega)
      rw [hc] at hcl
      obtain ⟨_, hlen, hat⟩ := World.cells?_some hcl
      obtain ⟨y0, y1, n', _, _, e0, e1⟩ := trod_struct2 he htr
      obtain ⟨o0, k0⟩ := hone_of hone 0 f0 rfl
      obtain ⟨o1, k1⟩ := hone_of hone 1 f1 rfl
      match cs', hlen with
      | [c0, c1], _ =>
        rw [o0, k0] at e0
        rw [o1, k1] at e1
        obtain ⟨x0, hv0, _, w0⟩ := DataW.trod_int h0 e0
        obtain ⟨x1, hv1, _, w1⟩ := DataW.trod_int h1 e1
        simp at hv0 hv1
        have g0 := hat 0 (by omega)
        have g1 := hat 1 (by omega)
        simp only [List.getElem?_cons_zero, List.getElem?_cons_succ, hv0, hv1] at g0 g1
        have hspot := hspot0 (by omega)
        obtain ⟨b, o, sp⟩ := a
        simp at hspot
        subst hspot
        have hadd : ∀ i j, ((⟨b, o, none⟩ : Addr).add i).add j = ⟨b, o + i + j, none⟩ := by
          intro i j
          rw [add_plain, add_plain]
        rw [hadd] at g0 g1
        exact ⟨x0, x1, w0, w1, rfl, block_lt_of_cell (a := ⟨b, o + k * 2 + 0, none⟩) g0, g0, g1⟩
    refine ⟨fun k j => if h : k < len then (match j with | 0 => (key k h).choose | _ => (key k h).choose_spec.choose) else 0, hl, fun k j hk hj => ?_, fun k hk => ?_⟩
    · have s := (key k hk).choose_spec.choose_spec
      simp only [hk, dif_pos]
      match j, hj with
      | 0, _ => exact s.1
      | 1, _ => exact s.2.1
    · have s := (key k hk).choose_spec.choose_spec
      simp only [hk, dif_pos]
      refine ⟨a.block, a.off, ?_, s.2.2.2.1, s.2.2.2.2.1, s.2.2.2.2.2⟩
      obtain ⟨b, o, sp⟩ := a
      have := s.2.2.1
      simp at this
      rw [this]

/-- A struct of a truth value and two whole numbers, by value. -/
theorem arg_agbii {r : Reach} {b0 : Nat} {t : TypeId} {f0 f1 f2 : Field} {v : Value} (hs : P.underlying t = some (.struct #[f0, f1, f2])) (hone : oneCellFields P #[f0, f1, f2] = true) (hC : P.cellsOf t = 3)
    (hv : Value.okWide P W r b0 t v) (h : DataW.Trod enc P W 0 (fun _ => true) true t v d p)
    (h0 : P.underlying f0.type = some .bool) (h1 : P.underlying f1.type = some (.int .i64)) (h2 : P.underlying f2.type = some (.int .i64)) :
    ∃ X : Bool × Int × Int, ((Lit.int .i64 X.2.1).wf = true ∧ (Lit.int .i64 X.2.2).wf = true) ∧ v = .agg #[.bool X.1, .int .i64 X.2.1, .int .i64 X.2.2] := by
  obtain ⟨v0, v1, v2, y0, y1, y2, n, rfl, _, _, e0, e1, e2⟩ := Go.Joins.open_agg3 hs hone hC hv h
  obtain ⟨a, ha, _⟩ := DataW.trod_bool h0 e0
  obtain ⟨b, hb, _, wb⟩ := DataW.trod_int h1 e1
  obtain ⟨c, hc, _, wc⟩ := DataW.trod_int h2 e2
  simp at ha hb hc
  exact ⟨(a, b, c), ⟨wb, wc⟩, by subst ha hb hc; rfl⟩
end
end Go.Proofs.Ytcgefncddbbnlaa
