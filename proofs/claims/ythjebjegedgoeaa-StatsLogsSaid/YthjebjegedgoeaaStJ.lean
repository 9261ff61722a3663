/-
  Stats: the document's table; New, answer.
-/
import Derived.Test.YthjebjegedgoeaaStI
namespace Go.Proofs.Ythjebjegedgoeaa
open Go.RowKit Go.Shelf Go.Maps Go.Sort
attribute [local go_sem] max_ints min_ints

/-- The jobs that a slice holds, as they are read. -/
def JRow (w : World) (A : Option Addr) (l : List J5) : Prop := ∀ i j, l[i]? = some j → ∃ b o, A = some ⟨b, o, none⟩ ∧ b < w.heap.size ∧ w.cell? ⟨b, o + i * 5, none⟩ = some (.int .i64 j.t) ∧ w.cell? ⟨b, o + i * 5 + 1, none⟩ = some (.int .i64 j.k) ∧ w.cell? ⟨b, o + i * 5 + 2, none⟩ = some (.int .i64 j.f) ∧ w.cell? ⟨b, o + i * 5 + 3, none⟩ = some (.int .i64 j.o) ∧ w.cell? ⟨b, o + i * 5 + 4, none⟩ = some (.int .i64 j.e)
theorem JRow.upd {w w' : World} {A : Option Addr} {l : List J5} {S : Nat → Prop} (h : JRow w A l) (hu : Upd S w w') (hS : ∀ a, A = some a → a.block < w.heap.size → ¬ S a.block) : JRow w' A l := fun i j hj => by
  obtain ⟨b, o, rfl, hb, h0, h1, h2, h3, h4⟩ := h i j hj
  have hn := hS _ rfl hb
  have hc : ∀ p v, w.cell? ⟨b, p, none⟩ = some v → w'.cell? ⟨b, p, none⟩ = some v := fun p v h => (hu.cell (p := ⟨b, p, none⟩) hb hn).trans h
  exact ⟨b, o, rfl, Nat.lt_of_lt_of_le hb hu.size, hc _ _ h0, hc _ _ h1, hc _ _ h2, hc _ _ h3, hc _ _ h4⟩
theorem JRow.still {w w' : World} {A : Option Addr} {l : List J5} (h : JRow w A l) (hu : Upd (fun _ => False) w w') : JRow w' A l := h.upd hu (fun _ _ _ h => h)
/-- The document's table at r: it holds the jobs l. -/
structure RTab (w : World) (r B W : Nat) (A : Option Addr) (cap : Nat) (l : List J5) : Prop where
  b : Blk w r 33 #[.int .i64 (B : Int), .int .i64 (W : Int), .slice A l.length cap]
  j : JRow w A l
theorem RTab.upd {w w' : World} {r B W cap : Nat} {A : Option Addr} {l : List J5} {S : Nat → Prop} (h : RTab w r B W A cap l) (hu : Upd S w w') (h1 : ¬ S r) (hS : ∀ a, A = some a → a.block < w.heap.size → ¬ S a.block) : RTab w' r B W A cap l := ⟨h.b.upd hu h1, h.j.upd hu hS⟩
theorem RTab.still {w w' : World} {r B W cap : Nat} {A : Option Addr} {l : List J5} (h : RTab w r B W A cap l) (hu : Upd (fun _ => False) w w') : RTab w' r B W A cap l := ⟨h.b.upd hu (fun h => h), h.j.still hu⟩

set_option maxRecDepth 100000 in
set_option maxHeartbeats 1600000 in
theorem rNewC (w : World) (b d : Int) :
    Calls Try.prog 10 #[.int .i64 b, .int .i64 d] w fun e w' => e = .returned (.pointer (some ⟨w.heap.size, 0, none⟩)) ∧ Blk w' w.heap.size 33 #[.int .i64 ((min (max b 1) 64).toNat : Int), .int .i64 ((min (max d 1) 1000).toNat : Int), .slice none 0 0] ∧ Upd (fun _ => False) w w' := by
  obtain ⟨B, hB⟩ : ∃ B : Nat, min (max b 1) 64 = (B : Int) := ⟨(min (max b 1) 64).toNat, by omega⟩
  obtain ⟨W, hW⟩ : ∃ W : Nat, min (max d 1) 1000 = (W : Int) := ⟨(min (max d 1) 1000).toNat, by omega⟩
  have HBW : Hid ((min (max b 1) 64).toNat = B ∧ (min (max d 1) 1000).toNat = W) := Lib.hid (by omega)
  rw [HBW.out.1, HBW.out.2]
  go_enter Try.func10, Try.ntmps10
  go_wp2_with fail
  go_returns
  exact ⟨rfl, Blk.new w _ _, (Upd.refl _ w).alloc _⟩

set_option maxRecDepth 100000 in
set_option maxHeartbeats 1600000 in
theorem rAnsC (w : World) (j : J5) (hj : j.Wf) :
    Calls Try.prog 29 #[.agg (encJ j).toArray] w fun e w' => e = .returned (.int .i64 (ansJ j)) ∧ Upd (fun _ => False) w w' := by
  obtain ⟨t, k, f, o, e⟩ := j
  obtain ⟨_, f0, f1, o0, o1⟩ := hj
  dsimp only at f0 f1 o0 o1
  have hU : Hid (Upd (fun _ => False) w (w.alloc (.cells #[.int .i64 t, .int .i64 k, .int .i64 f, .int .i64 o, .int .i64 e] 66))) := Lib.hid ((Upd.refl _ w).alloc _)
  have hans : ansJ ⟨t, k, f, o, e⟩ = if e = 1 ∧ f ≤ o ∧ o - f < 1048576 then o - f + 1 else 0 := rfl
  have HE : (encJ ⟨t, k, f, o, e⟩).toArray = #[.int .i64 t, .int .i64 k, .int .i64 f, .int .i64 o, .int .i64 e] := rfl
  rw [HE, hans]
  clear HE hans
  by_cases h1 : e = 1
  · by_cases h2 : f ≤ o
    · have g3 : decide (o < f) = false := decide_eq_false (by omega)
      by_cases h3 : o - f < 1048576
      · have hd : IntKind.i64.wrap (o - f) = o - f := wrap_in _ (by omega) (by omega)
        have hd1 : IntKind.i64.wrap (o - f + 1) = o - f + 1 := wrap_in _ (by omega) (by omega)
        have g1 : decide (o - f < 0) = false := decide_eq_false (by omega)
        have g2 : decide (1048576 ≤ o - f) = false := decide_eq_false (by omega)
        rw [if_pos ⟨h1, h2, h3⟩]
        subst h1
        go_enter Try.func29, Try.ntmps29
        go_wp2_with fail
        go_returns
        exact ⟨rfl, hU.out⟩
      · rw [if_neg (fun h => h3 h.2.2)]
        obtain ⟨d, hd⟩ : ∃ d, IntKind.i64.wrap (o - f) = d := ⟨_, rfl⟩
        have hfar := wrap_far (o - f) (by omega) (by omega)
        rw [hd] at hfar
        clear h3
        subst h1
        rcases hfar with hneg | hpos
        · have g1 : decide (d < 0) = true := decide_eq_true (by omega)
          have g2 : decide (1048576 ≤ d) = false := decide_eq_false (by omega)
          go_enter Try.func29, Try.ntmps29
          go_wp2_with fail
          go_returns
          exact ⟨rfl, hU.out⟩
        · have g2 : decide (1048576 ≤ d) = true := decide_eq_true (by omega)
          go_enter Try.func29, Try.ntmps29
          go_wp2_with fail
          go_returns
          exact ⟨rfl, hU.out⟩
    · have g3 : decide (o < f) = true := decide_eq_true (by omega)
      rw [if_neg (fun h => h2 h.2.1)]
      subst h1
      go_enter Try.func29, Try.ntmps29
      go_wp2_with fail
      go_returns
      exact ⟨rfl, hU.out⟩
  · have b1 : (e != 1) = true := bne_iff_ne.2 h1
    rw [if_neg (fun h => h1 h.1)]
    go_enter Try.func29, Try.ntmps29
    go_wp2_with fail
    go_returns
    exact ⟨rfl, hU.out⟩
end Go.Proofs.Ythjebjegedgoeaa
