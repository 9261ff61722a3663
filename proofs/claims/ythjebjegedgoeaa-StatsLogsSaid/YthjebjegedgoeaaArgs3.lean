/-
  More arguments, said of cells. (Written by argn.py.)
-/
import Derived.Test.YthjebjegedgoeaaArgs
namespace Go.Proofs.Ythjebjegedgoeaa
open Go.ChangeShapes Go.WideShapes Go.ChangeAt Go.RowKit Go.Deep
section
variable {P : Program} {H : Type} {enc : TypeId × Value → H} {W : World} {d : DataW H} {p : List MemPlace}

theorem trod_st5 {t : TypeId} {f0 f1 f2 f3 f4 : Field} {fuel : Nat} {cs : List Value} {x : DataW H × List MemPlace} (ht : P.underlying t = some (.struct #[f0, f1, f2, f3, f4])) (h : DataW.trod enc P W 0 (fun _ => true) true fuel t cs = some x) :
    ∃ y0 y1 y2 y3 y4 n, cs.length = P.cellsOf t ∧ DataW.trod enc P W 0 (fun _ => true) true n f0.type ((cs.drop f0.offset).take (P.cellsOf f0.type)) = some y0 ∧ DataW.trod enc P W 0 (fun _ => true) true n f1.type ((cs.drop f1.offset).take (P.cellsOf f1.type)) = some y1 ∧ DataW.trod enc P W 0 (fun _ => true) true n f2.type ((cs.drop f2.offset).take (P.cellsOf f2.type)) = some y2 ∧ DataW.trod enc P W 0 (fun _ => true) true n f3.type ((cs.drop f3.offset).take (P.cellsOf f3.type)) = some y3 ∧ DataW.trod enc P W 0 (fun _ => true) true n f4.type ((cs.drop f4.offset).take (P.cellsOf f4.type)) = some y4 := by
  obtain ⟨xs, n, _, rfl, hl, hlen, hf⟩ := DataW.trod_struct ht h
  match xs, hlen with
  | [y0, y1, y2, y3, y4], _ => exact ⟨y0, y1, y2, y3, y4, n, hl, by simpa using hf 0 f0 rfl, by simpa using hf 1 f1 rfl, by simpa using hf 2 f2 rfl, by simpa using hf 3 f3 rfl, by simpa using hf 4 f4 rfl⟩
theorem arr5 {α : Type} {cs : Array α} (h : cs.size = 5) : ∃ c0 c1 c2 c3 c4, cs = #[c0, c1, c2, c3, c4] := by
  obtain ⟨l⟩ := cs
  match l, h with
  | [c0, c1, c2, c3, c4], _ => exact ⟨c0, c1, c2, c3, c4, rfl⟩

/-- A struct of such fields, by value. -/
theorem arg_agiiiii {r : Reach} {b0 : Nat} {t : TypeId} {f0 f1 f2 f3 f4 : Field} {v : Value} (hs : P.underlying t = some (.struct #[f0, f1, f2, f3, f4])) (hone : oneCellFields P #[f0, f1, f2, f3, f4] = true) (hC : P.cellsOf t = 5)
    (hv : Value.okWide P W r b0 t v) (h : DataW.Trod enc P W 0 (fun _ => true) true t v d p)
    (h0 : P.underlying f0.type = some (.int .i64)) (h1 : P.underlying f1.type = some (.int .i64)) (h2 : P.underlying f2.type = some (.int .i64)) (h3 : P.underlying f3.type = some (.int .i64)) (h4 : P.underlying f4.type = some (.int .i64)) :
    ∃ X : Int × Int × Int × Int × Int, ((Lit.int .i64 (X.1)).wf = true ∧ (Lit.int .i64 (X.2.1)).wf = true ∧ (Lit.int .i64 (X.2.2.1)).wf = true ∧ (Lit.int .i64 (X.2.2.2.1)).wf = true ∧ (Lit.int .i64 (X.2.2.2.2)).wf = true) ∧ v = .agg #[.int .i64 (X.1), .int .i64 (X.2.1), .int .i64 (X.2.2.1), .int .i64 (X.2.2.2.1), .int .i64 (X.2.2.2.2)] := by
  obtain ⟨cs, rfl, hsz⟩ := okWide_struct hs hv
  obtain ⟨c0, c1, c2, c3, c4, rfl⟩ := arr5 (hsz.trans hC)
  obtain ⟨fuel, hf⟩ := h
  obtain ⟨y0, y1, y2, y3, y4, n, _, e0, e1, e2, e3, e4⟩ := trod_st5 hs hf
  obtain ⟨o0, k0⟩ := hone_of hone 0 f0 rfl
  obtain ⟨o1, k1⟩ := hone_of hone 1 f1 rfl
  obtain ⟨o2, k2⟩ := hone_of hone 2 f2 rfl
  obtain ⟨o3, k3⟩ := hone_of hone 3 f3 rfl
  obtain ⟨o4, k4⟩ := hone_of hone 4 f4 rfl
  simp only [Value.cells, o0, k0] at e0
  simp only [Value.cells, o1, k1] at e1
  simp only [Value.cells, o2, k2] at e2
  simp only [Value.cells, o3, k3] at e3
  simp only [Value.cells, o4, k4] at e4
  obtain ⟨x0, hv0, _, w0⟩ := DataW.trod_int h0 e0
  obtain ⟨x1, hv1, _, w1⟩ := DataW.trod_int h1 e1
  obtain ⟨x2, hv2, _, w2⟩ := DataW.trod_int h2 e2
  obtain ⟨x3, hv3, _, w3⟩ := DataW.trod_int h3 e3
  obtain ⟨x4, hv4, _, w4⟩ := DataW.trod_int h4 e4
  simp at hv0 hv1 hv2 hv3 hv4
  refine ⟨(x0, x1, x2, x3, x4), ⟨w0, w1, w2, w3, w4⟩, ?_⟩
  subst hv0 hv1 hv2 hv3 hv4
  rfl

/-- A slice of such structs. -/
def Rowiiiii (w : World) (A : Option Addr) (len : Nat) (X : Nat → Int × Int × Int × Int × Int) : Prop :=
  ∀ k, k < len → ∃ b o, A = some ⟨b, o, none⟩ ∧ b < w.heap.size ∧ w.cell? ⟨b, o + k * 5 + 0, none⟩ = some (.int .i64 ((X k).1)) ∧ w.cell? ⟨b, o + k * 5 + 1, none⟩ = some (.int .i64 ((X k).2.1)) ∧ w.cell? ⟨b, o + k * 5 + 2, none⟩ = some (.int .i64 ((X k).2.2.1)) ∧ w.cell? ⟨b, o + k * 5 + 3, none⟩ = some (.int .i64 ((X k).2.2.2.1)) ∧ w.cell? ⟨b, o + k * 5 + 4, none⟩ = some (.int .i64 ((X k).2.2.2.2))
theorem arg_sliiiii {t e : TypeId} {a0 : Option Addr} {len cap : Nat} {f0 f1 f2 f3 f4 : Field} (ht : P.underlying t = some (.slice e)) (he : P.underlying e = some (.struct #[f0, f1, f2, f3, f4])) (hone : oneCellFields P #[f0, f1, f2, f3, f4] = true) (hc : P.cellsOf e = 5)
    (h : DataW.Trod enc P W 0 (fun _ => true) true t (.slice a0 len cap) d p)
    (h0 : P.underlying f0.type = some (.int .i64)) (h1 : P.underlying f1.type = some (.int .i64)) (h2 : P.underlying f2.type = some (.int .i64)) (h3 : P.underlying f3.type = some (.int .i64)) (h4 : P.underlying f4.type = some (.int .i64)) :
    ∃ X : Nat → Int × Int × Int × Int × Int, len ≤ cap ∧ (∀ k, k < len → (Lit.int .i64 ((X k).1)).wf = true ∧ (Lit.int .i64 ((X k).2.1)).wf = true ∧ (Lit.int .i64 ((X k).2.2.1)).wf = true ∧ (Lit.int .i64 ((X k).2.2.2.1)).wf = true ∧ (Lit.int .i64 ((X k).2.2.2.2)).wf = true) ∧ Rowiiiii W a0 len X := by
  obtain ⟨fuel, hf⟩ := h
  rcases open_slice ht hf with ⟨hcs, _⟩ | ⟨a, l, c, m, n, D, Pl, hcs, _, hl, hm, hmm, _, hx⟩
  · simp [Value.cells] at hcs
    obtain ⟨rfl, rfl, rfl⟩ := hcs
    exact ⟨fun _ => default, by omega, fun k hk => absurd hk (by omega), fun k hk => absurd hk (by omega)⟩
  · simp [Value.cells] at hcs
    obtain ⟨rfl, rfl, rfl⟩ := hcs
    simp at hmm
    subst hmm
    have hspot0 : 0 < len → a.spot = none := by
      intro h0
      obtain ⟨cs', hcl, _⟩ := hx 0 (by omega)
      rw [hc] at hcl
      obtain ⟨_, hlen, hat⟩ := World.cells?_some hcl
      have g0 := hat 0 (by omega)
      have e0 : (a.add (0 * 5)).add 0 = a := by simp [Addr.add]
      rw [e0] at g0
      match cs', hlen with
      | c0 :: _, _ => exact World.cell?_spot g0
    have key : ∀ k, k < len → ∃ x : Int × Int × Int × Int × Int, ((Lit.int .i64 (x.1)).wf = true ∧ (Lit.int .i64 (x.2.1)).wf = true ∧ (Lit.int .i64 (x.2.2.1)).wf = true ∧ (Lit.int .i64 (x.2.2.2.1)).wf = true ∧ (Lit.int .i64 (x.2.2.2.2)).wf = true) ∧ ∃ b o, a = ⟨b, o, none⟩ ∧ b < W.heap.size ∧ W.cell? ⟨b, o + k * 5 + 0, none⟩ = some (.int .i64 (x.1)) ∧ W.cell? ⟨b, o + k * 5 + 1, none⟩ = some (.int .i64 (x.2.1)) ∧ W.cell? ⟨b, o + k * 5 + 2, none⟩ = some (.int .i64 (x.2.2.1)) ∧ W.cell? ⟨b, o + k * 5 + 3, none⟩ = some (.int .i64 (x.2.2.2.1)) ∧ W.cell? ⟨b, o + k * 5 + 4, none⟩ = some (.int .i64 (x.2.2.2.2)) := by
      intro k hk
      obtain ⟨cs', hcl, htr⟩ := hx k (by omega)
      rw [hc] at hcl
      obtain ⟨_, hlen, hat⟩ := World.cells?_some hcl
      obtain ⟨y0, y1, y2, y3, y4, n', _, e0, e1, e2, e3, e4⟩ := trod_st5 he htr
      obtain ⟨o0, k0⟩ := hone_of hone 0 f0 rfl
      obtain ⟨o1, k1⟩ := hone_of hone 1 f1 rfl
      obtain ⟨o2, k2⟩ := hone_of hone 2 f2 rfl
      obtain ⟨o3, k3⟩ := hone_of hone 3 f3 rfl
      obtain ⟨o4, k4⟩ := hone_of hone 4 f4 rfl
      match cs', hlen with
      | [c0, c1, c2, c3, c4], _ =>
        rw [o0, k0] at e0
        rw [o1, k1] at e1
        rw [o2, k2] at e2
        rw [o3, k3] at e3
        rw [o4, k4] at e4
        obtain ⟨x0, hv0, _, w0⟩ := DataW.trod_int h0 e0
        obtain ⟨x1, hv1, _, w1⟩ := DataW.trod_int h1 e1
        obtain ⟨x2, hv2, _, w2⟩ := DataW.trod_int h2 e2
        obtain ⟨x3, hv3, _, w3⟩ := DataW.trod_int h3 e3
        obtain ⟨x4, hv4, _, w4⟩ := DataW.trod_int h4 e4
        simp at hv0 hv1 hv2 hv3 hv4
        have g0 := hat 0 (by omega)
        have g1 := hat 1 (by omega)
        have g2 := hat 2 (by omega)
        have g3 := hat 3 (by omega)
        have g4 := hat 4 (by omega)
        simp only [List.getElem?_cons_zero, List.getElem?_cons_succ, hv0, hv1, hv2, hv3, hv4] at g0 g1 g2 g3 g4
        have hspot := hspot0 (by omega)
        obtain ⟨b, o, sp⟩ := a
        simp at hspot
        subst hspot
        have hadd : ∀ i j, ((⟨b, o, none⟩ : Addr).add i).add j = ⟨b, o + i + j, none⟩ := by
          intro i j
          rw [add_plain, add_plain]
        rw [hadd] at g0 g1 g2 g3 g4
        exact ⟨(x0, x1, x2, x3, x4), ⟨w0, w1, w2, w3, w4⟩, b, o, rfl, block_lt_of_cell (a := ⟨b, o + k * 5 + 0, none⟩) g0, g0, g1, g2, g3, g4⟩
    refine ⟨fun k => if h : k < len then (key k h).choose else default, hl, fun k hk => ?_, fun k hk => ?_⟩
    · have s := (key k hk).choose_spec
      simp only [hk, dif_pos]
      exact s.1
    · obtain ⟨b, o, h1, h2⟩ := (key k hk).choose_spec.2
      simp only [hk, dif_pos]
      exact ⟨b, o, by rw [h1], h2⟩

theorem trod_st4 {t : TypeId} {f0 f1 f2 f3 : Field} {fuel : Nat} {cs : List Value} {x : DataW H × List MemPlace} (ht : P.underlying t = some (.struct #[f0, f1, f2, f3])) (h : DataW.trod enc P W 0 (fun _ => true) true fuel t cs = some x) :
    ∃ y0 y1 y2 y3 n, cs.length = P.cellsOf t ∧ DataW.trod enc P W 0 (fun _ => true) true n f0.type ((cs.drop f0.offset).take (P.cellsOf f0.type)) = some y0 ∧ DataW.trod enc P W 0 (fun _ => true) true n f1.type ((cs.drop f1.offset).take (P.cellsOf f1.type)) = some y1 ∧ DataW.trod enc P W 0 (fun _ => true) true n f2.type ((cs.drop f2.offset).take (P.cellsOf f2.type)) = some y2 ∧ DataW.trod enc P W 0 (fun _ => true) true n f3.type ((cs.drop f3.offset).take (P.cellsOf f3.type)) = some y3 := by
  obtain ⟨xs, n, _, rfl, hl, hlen, hf⟩ := DataW.trod_struct ht h
  match xs, hlen with
  | [y0, y1, y2, y3], _ => exact ⟨y0, y1, y2, y3, n, hl, by simpa using hf 0 f0 rfl, by simpa using hf 1 f1 rfl, by simpa using hf 2 f2 rfl, by simpa using hf 3 f3 rfl⟩
theorem arr4 {α : Type} {cs : Array α} (h : cs.size = 4) : ∃ c0 c1 c2 c3, cs = #[c0, c1, c2, c3] := by
  obtain ⟨l⟩ := cs
  match l, h with
  | [c0, c1, c2, c3], _ => exact ⟨c0, c1, c2, c3, rfl⟩

/-- A struct of such fields, by value. -/
theorem arg_agbiii {r : Reach} {b0 : Nat} {t : TypeId} {f0 f1 f2 f3 : Field} {v : Value} (hs : P.underlying t = some (.struct #[f0, f1, f2, f3])) (hone : oneCellFields P #[f0, f1, f2, f3] = true) (hC : P.cellsOf t = 4)
    (hv : Value.okWide P W r b0 t v) (h : DataW.Trod enc P W 0 (fun _ => true) true t v d p)
    (h0 : P.underlying f0.type = some .bool) (h1 : P.underlying f1.type = some (.int .i64)) (h2 : P.underlying f2.type = some (.int .i64)) (h3 : P.underlying f3.type = some (.int .i64)) :
    ∃ X : Bool × Int × Int × Int, ((Lit.int .i64 (X.2.1)).wf = true ∧ (Lit.int .i64 (X.2.2.1)).wf = true ∧ (Lit.int .i64 (X.2.2.2)).wf = true) ∧ v = .agg #[.bool (X.1), .int .i64 (X.2.1), .int .i64 (X.2.2.1), .int .i64 (X.2.2.2)] := by
  obtain ⟨cs, rfl, hsz⟩ := okWide_struct hs hv
  obtain ⟨c0, c1, c2, c3, rfl⟩ := arr4 (hsz.trans hC)
  obtain ⟨fuel, hf⟩ := h
  obtain ⟨y0, y1, y2, y3, n, _, e0, e1, e2, e3⟩ := trod_st4 hs hf
  obtain ⟨o0, k0⟩ := hone_of hone 0 f0 rfl
  obtain ⟨o1, k1⟩ := hone_of hone 1 f1 rfl
  obtain ⟨o2, k2⟩ := hone_of hone 2 f2 rfl
  obtain ⟨o3, k3⟩ := hone_of hone 3 f3 rfl
  simp only [Value.cells, o0, k0] at e0
  simp only [Value.cells, o1, k1] at e1
  simp only [Value.cells, o2, k2] at e2
  simp only [Value.cells, o3, k3] at e3
  obtain ⟨x0, hv0, _⟩ := DataW.trod_bool h0 e0
  obtain ⟨x1, hv1, _, w1⟩ := DataW.trod_int h1 e1
  obtain ⟨x2, hv2, _, w2⟩ := DataW.trod_int h2 e2
  obtain ⟨x3, hv3, _, w3⟩ := DataW.trod_int h3 e3
  simp at hv0 hv1 hv2 hv3
  refine ⟨(x0, x1, x2, x3), ⟨w1, w2, w3⟩, ?_⟩
  subst hv0 hv1 hv2 hv3
  rfl

/-- A slice of such structs. -/
def Rowbiii (w : World) (A : Option Addr) (len : Nat) (X : Nat → Bool × Int × Int × Int) : Prop :=
  ∀ k, k < len → ∃ b o, A = some ⟨b, o, none⟩ ∧ b < w.heap.size ∧ w.cell? ⟨b, o + k * 4 + 0, none⟩ = some (.bool ((X k).1)) ∧ w.cell? ⟨b, o + k * 4 + 1, none⟩ = some (.int .i64 ((X k).2.1)) ∧ w.cell? ⟨b, o + k * 4 + 2, none⟩ = some (.int .i64 ((X k).2.2.1)) ∧ w.cell? ⟨b, o + k * 4 + 3, none⟩ = some (.int .i64 ((X k).2.2.2))
theorem arg_slbiii {t e : TypeId} {a0 : Option Addr} {len cap : Nat} {f0 f1 f2 f3 : Field} (ht : P.underlying t = some (.slice e)) (he : P.underlying e = some (.struct #[f0, f1, f2, f3])) (hone : oneCellFields P #[f0, f1, f2, f3] = true) (hc : P.cellsOf e = 4)
    (h : DataW.Trod enc P W 0 (fun _ => true) true t (.slice a0 len cap) d p)
    (h0 : P.underlying f0.type = some .bool) (h1 : P.underlying f1.type = some (.int .i64)) (h2 : P.underlying f2.type = some (.int .i64)) (h3 : P.underlying f3.type = some (.int .i64)) :
    ∃ X : Nat → Bool × Int × Int × Int, len ≤ cap ∧ (∀ k, k < len → (Lit.int .i64 ((X k).2.1)).wf = true ∧ (Lit.int .i64 ((X k).2.2.1)).wf = true ∧ (Lit.int .i64 ((X k).2.2.2)).wf = true) ∧ Rowbiii W a0 len X := by
  obtain ⟨fuel, hf⟩ := h
  rcases open_slice ht hf with ⟨hcs, _⟩ | ⟨a, l, c, m, n, D, Pl, hcs, _, hl, hm, hmm, _, hx⟩
  · simp [Value.cells] at hcs
    obtain ⟨rfl, rfl, rfl⟩ := hcs
    exact ⟨fun _ => default, by omega, fun k hk => absurd hk (by omega), fun k hk => absurd hk (by omega)⟩
  · simp [Value.cells] at hcs
    obtain ⟨rfl, rfl, rfl⟩ := hcs
    simp at hmm
    subst hmm
    have hspot0 : 0 < len → a.spot = none := by
      intro h0
      obtain ⟨cs', hcl, _⟩ := hx 0 (by omega)
      rw [hc] at hcl
      obtain ⟨_, hlen, hat⟩ := World.cells?_some hcl
      have g0 := hat 0 (by omega)
      have e0 : (a.add (0 * 4)).add 0 = a := by simp [Addr.add]
      rw [e0] at g0
      match cs', hlen with
      | c0 :: _, _ => exact World.cell?_spot g0
    have key : ∀ k, k < len → ∃ x : Bool × Int × Int × Int, ((Lit.int .i64 (x.2.1)).wf = true ∧ (Lit.int .i64 (x.2.2.1)).wf = true ∧ (Lit.int .i64 (x.2.2.2)).wf = true) ∧ ∃ b o, a = ⟨b, o, none⟩ ∧ b < W.heap.size ∧ W.cell? ⟨b, o + k * 4 + 0, none⟩ = some (.bool (x.1)) ∧ W.cell? ⟨b, o + k * 4 + 1, none⟩ = some (.int .i64 (x.2.1)) ∧ W.cell? ⟨b, o + k * 4 + 2, none⟩ = some (.int .i64 (x.2.2.1)) ∧ W.cell? ⟨b, o + k * 4 + 3, none⟩ = some (.int .i64 (x.2.2.2)) := by
      intro k hk
      obtain ⟨cs', hcl, htr⟩ := hx k (by omega)
      rw [hc] at hcl
      obtain ⟨_, hlen, hat⟩ := World.cells?_some hcl
      obtain ⟨y0, y1, y2, y3, n', _, e0, e1, e2, e3⟩ := trod_st4 he htr
      obtain ⟨o0, k0⟩ := hone_of hone 0 f0 rfl
      obtain ⟨o1, k1⟩ := hone_of hone 1 f1 rfl
      obtain ⟨o2, k2⟩ := hone_of hone 2 f2 rfl
      obtain ⟨o3, k3⟩ := hone_of hone 3 f3 rfl
      match cs', hlen with
      | [c0, c1, c2, c3], _ =>
        rw [o0, k0] at e0
        rw [o1, k1] at e1
        rw [o2, k2] at e2
        rw [o3, k3] at e3
        obtain ⟨x0, hv0, _⟩ := DataW.trod_bool h0 e0
        obtain ⟨x1, hv1, _, w1⟩ := DataW.trod_int h1 e1
        obtain ⟨x2, hv2, _, w2⟩ := DataW.trod_int h2 e2
        obtain ⟨x3, hv3, _, w3⟩ := DataW.trod_int h3 e3
        simp at hv0 hv1 hv2 hv3
        have g0 := hat 0 (by omega)
        have g1 := hat 1 (by omega)
        have g2 := hat 2 (by omega)
        have g3 := hat 3 (by omega)
        simp only [List.getElem?_cons_zero, List.getElem?_cons_succ, hv0, hv1, hv2, hv3] at g0 g1 g2 g3
        have hspot := hspot0 (by omega)
        obtain ⟨b, o, sp⟩ := a
        simp at hspot
        subst hspot
        have hadd : ∀ i j, ((⟨b, o, none⟩ : Addr).add i).add j = ⟨b, o + i + j, none⟩ := by
          intro i j
          rw [add_plain, add_plain]
        rw [hadd] at g0 g1 g2 g3
        exact ⟨(x0, x1, x2, x3), ⟨w1, w2, w3⟩, b, o, rfl, block_lt_of_cell (a := ⟨b, o + k * 4 + 0, none⟩) g0, g0, g1, g2, g3⟩
    refine ⟨fun k => if h : k < len then (key k h).choose else default, hl, fun k hk => ?_, fun k hk => ?_⟩
    · have s := (key k hk).choose_spec
      simp only [hk, dif_pos]
      exact s.1
    · obtain ⟨b, o, h1, h2⟩ := (key k hk).choose_spec.2
      simp only [hk, dif_pos]
      exact ⟨b, o, by rw [h1], h2⟩

end
end Go.Proofs.Ythjebjegedgoeaa
