/-
  The walks of a ledger (ledger.Ledger).
-/
import Derived.Test.YtfpigcjhonfcjaaLib
namespace Go.Proofs.Ytfpigcjhonfcjaa
open Go.RowKit
attribute [local go_sem] max_ints min_ints

/-- The cells of a ledger: 0: partitions; 1 ..: of; 31 ..: gave; 67: total; 68: made. -/
def lcells (L : Nat → Int) : Array Value := ((List.range 68).map fun i => Value.int .i64 (L i)).toArray.push (.bool true)
theorem lcells_size (L : Nat → Int) : (lcells L).size = 69 := by simp [lcells]
theorem lcells_at (L : Nat → Int) (i : Nat) (h : i < 68) : (lcells L)[i]? = some (.int .i64 (L i)) := by
  unfold lcells
  rw [Array.getElem?_push_lt (by simpa using h)]
  simp
theorem lcells_made (L : Nat → Int) : (lcells L)[68]? = some (.bool true) := by
  unfold lcells
  rw [Array.getElem?_push, if_pos (by simp)]
def setL (L : Nat → Int) (i : Nat) (x : Int) : Nat → Int := fun j => if j = i then x else L j
theorem lcells_set (L : Nat → Int) (i : Nat) (x : Int) (h : i < 68) : (lcells L).setIfInBounds i (.int .i64 x) = lcells (setL L i x) := by
  apply Array.ext
  · simp [lcells]
  · intro j h1 h2
    have hj : j < 69 := by rw [lcells_size] at h2; exact h2
    apply Option.some.inj
    rw [← Array.getElem?_eq_getElem h1, ← Array.getElem?_eq_getElem h2, Array.getElem?_setIfInBounds]
    by_cases e : i = j
    · subst e
      rw [if_pos rfl, if_pos (by rw [lcells_size]; omega), lcells_at _ _ h]
      simp [setL]
    · rw [if_neg e]
      by_cases e2 : j = 68
      · subst e2; rw [lcells_made, lcells_made]
      · rw [lcells_at _ _ (by omega), lcells_at _ _ (by omega)]
        simp [setL, Ne.symm e]

def Led (w : World) (g : Nat) (L : Nat → Int) : Prop := Blk w g 91 (lcells L)
section
variable {w w' : World} {g : Nat} {L : Nat → Int} {S : Nat → Prop}
theorem Led.cell (h : Led w g L) (i : Nat) (hi : i < 68) : w.cell? ⟨g, i, none⟩ = some (.int .i64 (L i)) := (Blk.cell h i).trans (lcells_at L i hi)
theorem Led.made (h : Led w g L) : w.cell? ⟨g, 68, none⟩ = some (.bool true) := (Blk.cell h 68).trans (lcells_made L)
theorem Led.drewN (h : Led w g L) (k : Nat) : Led (w.drewN k) g L := h
theorem Led.drew (h : Led w g L) : Led w.drew g L := h
theorem Led.alloc (h : Led w g L) (o : Obj) : Led (w.alloc o) g L := Blk.alloc h o
theorem Led.upd (h : Led w g L) (hu : Upd S w w') (hg : ¬ S g) : Led w' g L := Blk.upd h hu hg
theorem Led.set_ (h : Led w g L) (i : Nat) (x : Int) (hi : i < 68) : Led (w.setCell ⟨g, i, none⟩ (.int .i64 x)) g (setL L i x) := by
  have := Blk.set_ h i (.int .i64 x)
  rwa [lcells_set L i x hi] at this
end

set_option maxRecDepth 100000 in
set_option maxHeartbeats 400000 in
theorem noneL (w : World) (g : Nat) (L : Nat → Int) (h : Led w g L) :
    Calls Try.prog 66 #[.pointer (some ⟨g, 0, none⟩)] w fun e w' => e = .returned (.bool false) ∧ ∃ k, w' = w.drewN k := by
  have c := h.made
  clear h
  go_enter Try.func66, Try.ntmps66
  go_wp2
  go_ret
  exact ⟨rfl, 0, rfl⟩

set_option maxRecDepth 100000 in
set_option maxHeartbeats 400000 in
theorem is1L (w : World) (g : Nat) (L : Nat → Int) (h : Led w g L) (b : Nat) (p : Int) (hb : w.cell? ⟨b, 0, none⟩ = some (.int .i64 p)) (r : Bool) (hr : decide (0 ≤ p ∧ p < L 0) = r) :
    Calls Try.prog 68 #[.pointer (some ⟨g, 0, none⟩), .slice (some ⟨b, 0, none⟩) 1 1] w fun e w' => e = .returned (.bool r) ∧ ∃ k, w' = w.drewN k := by
  have c := h.cell 0 (by omega)
  clear h
  by_cases h0 : p < 0
  · have e0 : decide (p < 0) = true := decide_eq_true h0
    have : r = false := by rw [← hr]; exact decide_eq_false (by omega)
    subst this
    clear hr
    go_enter Try.func68, Try.ntmps68
    go_wp2
    go_rounds 2
    go_ret
    exact ⟨rfl, 0, rfl⟩
  · have e0 : decide (p < 0) = false := decide_eq_false h0
    by_cases h1 : L 0 ≤ p
    · have e1 : decide (L 0 ≤ p) = true := decide_eq_true h1
      have : r = false := by rw [← hr]; exact decide_eq_false (by omega)
      subst this
      clear hr
      go_enter Try.func68, Try.ntmps68
      go_wp2
      go_rounds 2
      go_ret
      exact ⟨rfl, 0, rfl⟩
    · have e1 : decide (L 0 ≤ p) = false := decide_eq_false h1
      have : r = true := by rw [← hr]; exact decide_eq_true (by omega)
      subst this
      clear hr
      go_enter Try.func68, Try.ntmps68
      go_wp2
      go_rounds 2
      go_ret
      exact ⟨rfl, 0, rfl⟩

set_option maxRecDepth 100000 in
set_option maxHeartbeats 800000 in
theorem is2L (w : World) (g : Nat) (L : Nat → Int) (h : Led w g L) (b : Nat) (p q : Int) (hb : w.cell? ⟨b, 0, none⟩ = some (.int .i64 p)) (hb1 : w.cell? ⟨b, 1, none⟩ = some (.int .i64 q)) (r : Bool) (hr : decide ((0 ≤ p ∧ p < L 0) ∧ (0 ≤ q ∧ q < L 0)) = r) :
    Calls Try.prog 68 #[.pointer (some ⟨g, 0, none⟩), .slice (some ⟨b, 0, none⟩) 2 2] w fun e w' => e = .returned (.bool r) ∧ ∃ k, w' = w.drewN k := by
  have c := h.cell 0 (by omega)
  clear h
  by_cases h0 : p < 0
  · have e0 : decide (p < 0) = true := decide_eq_true h0
    have : r = false := by rw [← hr]; exact decide_eq_false (by omega)
    subst this
    clear hr
    go_enter Try.func68, Try.ntmps68
    go_wp2
    go_rounds 3
    go_ret
    exact ⟨rfl, 0, rfl⟩
  · have e0 : decide (p < 0) = false := decide_eq_false h0
    by_cases h1 : L 0 ≤ p
    · have e1 : decide (L 0 ≤ p) = true := decide_eq_true h1
      have : r = false := by rw [← hr]; exact decide_eq_false (by omega)
      subst this
      clear hr
      go_enter Try.func68, Try.ntmps68
      go_wp2
      go_rounds 3
      go_ret
      exact ⟨rfl, 0, rfl⟩
    · have e1 : decide (L 0 ≤ p) = false := decide_eq_false h1
      by_cases h2 : q < 0
      · have e2 : decide (q < 0) = true := decide_eq_true h2
        have : r = false := by rw [← hr]; exact decide_eq_false (by omega)
        subst this
        clear hr
        go_enter Try.func68, Try.ntmps68
        go_wp2
        go_rounds 3
        go_ret
        exact ⟨rfl, 0, rfl⟩
      · have e2 : decide (q < 0) = false := decide_eq_false h2
        obtain ⟨z, hz⟩ : ∃ z, decide (L 0 ≤ q) = z := ⟨_, rfl⟩
        cases z
        · have : r = true := by rw [← hr]; have := of_decide_eq_false hz; exact decide_eq_true (by omega)
          subst this
          clear hr
          go_enter Try.func68, Try.ntmps68
          go_wp2
          go_rounds 3
          go_ret
          exact ⟨rfl, 0, rfl⟩
        · have : r = false := by rw [← hr]; have := of_decide_eq_true hz; exact decide_eq_false (by omega)
          subst this
          clear hr
          go_enter Try.func68, Try.ntmps68
          go_wp2
          go_rounds 3
          go_ret
          exact ⟨rfl, 0, rfl⟩

set_option maxRecDepth 100000 in
set_option maxHeartbeats 400000 in
theorem ofL_yes (w : World) (g : Nat) (L : Nat → Int) (h : Led w g L) (k p : Nat) (hk : k < 4) (hp : (p : Int) < L 0) (hL : L 0 ≤ 6) :
    Calls Try.prog 52 #[.pointer (some ⟨g, 0, none⟩), .int .i64 k, .int .i64 p] w fun e w' => e = .returned (.int .i64 (L (1 + k * 6 + p))) ∧ Upd (fun _ => False) w w' := by
  have hcell : ∀ n o, ((w.drewN n).alloc o).cell? ⟨g, 1 + k * 6 + p, none⟩ = some (.int .i64 (L (1 + k * 6 + p))) := fun n o => ((h.drewN n).alloc o).cell _ (by omega)
  have HR : Hid (decide (0 ≤ (p : Int) ∧ (p : Int) < L 0) = true) := Lib.hid (decide_eq_true (by omega))
  have H := Lib.hid h; clear h
  have e0 : decide ((k : Int) < 0) = false := decide_eq_false (by omega)
  have e1 : decide (4 ≤ (k : Int)) = false := decide_eq_false (by omega)
  have hp6 : p < 6 := by omega
  go_enter Try.func52, Try.ntmps52
  go_wp2_with (first
    | (go_at_call 66; refine (noneL _ g L H.out).mono ?_; rintro e w1 ⟨rfl, k1, rfl⟩)
    | (go_at_call 68; refine (is1L _ g L (Led.alloc (H.out.drewN _) _) w.heap.size p (by simpa using (Blk.new (w.drewN k1) 3 #[.int .i64 (p : Int)]).cell 0) _ HR.out).mono ?_; rintro e w2 ⟨rfl, k2, rfl⟩))
  go_ret
  exact ⟨rfl, (((Upd.refl _ _).drewN _).alloc _).drewN _⟩

set_option maxRecDepth 100000 in
set_option maxHeartbeats 400000 in
theorem ofL_no (w : World) (g : Nat) (L : Nat → Int) (h : Led w g L) (k p : Int) (hk : ¬ (0 ≤ p ∧ p < L 0) ∨ k < 0 ∨ 4 ≤ k) :
    Calls Try.prog 52 #[.pointer (some ⟨g, 0, none⟩), .int .i64 k, .int .i64 p] w fun e w' => e = .returned (.int .i64 0) ∧ Upd (fun _ => False) w w' := by
  have H := Lib.hid h; clear h
  by_cases hp : 0 ≤ p ∧ p < L 0
  · have HR : Hid (decide (0 ≤ p ∧ p < L 0) = true) := Lib.hid (decide_eq_true hp)
    by_cases e0 : k < 0
    · have e0' : decide (k < 0) = true := decide_eq_true e0
      clear hk hp
      go_enter Try.func52, Try.ntmps52
      go_wp2_with (first
        | (go_at_call 66; refine (noneL _ g L H.out).mono ?_; rintro e w1 ⟨rfl, k1, rfl⟩)
        | (go_at_call 68; refine (is1L _ g L (Led.alloc (H.out.drewN _) _) w.heap.size p (by simpa using (Blk.new (w.drewN k1) 3 #[.int .i64 p]).cell 0) _ HR.out).mono ?_; rintro e w2 ⟨rfl, k2, rfl⟩))
      go_ret
      exact ⟨rfl, (((Upd.refl _ _).drewN _).alloc _).drewN _⟩
    · have e0' : decide (k < 0) = false := decide_eq_false e0
      have e1' : decide (4 ≤ k) = true := decide_eq_true (by rcases hk with h | h | h; exact absurd hp h; exact absurd h e0; exact h)
      clear hk hp
      go_enter Try.func52, Try.ntmps52
      go_wp2_with (first
        | (go_at_call 66; refine (noneL _ g L H.out).mono ?_; rintro e w1 ⟨rfl, k1, rfl⟩)
        | (go_at_call 68; refine (is1L _ g L (Led.alloc (H.out.drewN _) _) w.heap.size p (by simpa using (Blk.new (w.drewN k1) 3 #[.int .i64 p]).cell 0) _ HR.out).mono ?_; rintro e w2 ⟨rfl, k2, rfl⟩))
      go_ret
      exact ⟨rfl, (((Upd.refl _ _).drewN _).alloc _).drewN _⟩
  · have HR : Hid (decide (0 ≤ p ∧ p < L 0) = false) := Lib.hid (decide_eq_false hp)
    clear hk hp
    go_enter Try.func52, Try.ntmps52
    go_wp2_with (first
      | (go_at_call 66; refine (noneL _ g L H.out).mono ?_; rintro e w1 ⟨rfl, k1, rfl⟩)
      | (go_at_call 68; refine (is1L _ g L (Led.alloc (H.out.drewN _) _) w.heap.size p (by simpa using (Blk.new (w.drewN k1) 3 #[.int .i64 p]).cell 0) _ HR.out).mono ?_; rintro e w2 ⟨rfl, k2, rfl⟩))
    go_ret
    exact ⟨rfl, (((Upd.refl _ _).drewN _).alloc _).drewN _⟩

set_option maxRecDepth 100000 in
set_option maxHeartbeats 400000 in
theorem gaveL_yes (w : World) (g : Nat) (L : Nat → Int) (h : Led w g L) (p q : Nat) (hp : (p : Int) < L 0) (hq : (q : Int) < L 0) (hL : L 0 ≤ 6) :
    Calls Try.prog 54 #[.pointer (some ⟨g, 0, none⟩), .int .i64 p, .int .i64 q] w fun e w' => e = .returned (.int .i64 (L (31 + p * 6 + q))) ∧ Upd (fun _ => False) w w' := by
  have hcell : ∀ n o, ((w.drewN n).alloc o).cell? ⟨g, 31 + p * 6 + q, none⟩ = some (.int .i64 (L (31 + p * 6 + q))) := fun n o => ((h.drewN n).alloc o).cell _ (by omega)
  have HR : Hid (decide ((0 ≤ (p : Int) ∧ (p : Int) < L 0) ∧ (0 ≤ (q : Int) ∧ (q : Int) < L 0)) = true) := Lib.hid (decide_eq_true (by omega))
  have H := Lib.hid h; clear h
  have hp6 : p < 6 := by omega
  have hq6 : q < 6 := by omega
  go_enter Try.func54, Try.ntmps54
  go_wp2_with (first
    | (go_at_call 66; refine (noneL _ g L H.out).mono ?_; rintro e w1 ⟨rfl, k1, rfl⟩)
    | (go_at_call 68; refine (is2L _ g L (Led.alloc (H.out.drewN _) _) w.heap.size p q (by simpa using (Blk.new (w.drewN k1) 3 #[.int .i64 (p : Int), .int .i64 (q : Int)]).cell 0) (by simpa using (Blk.new (w.drewN k1) 3 #[.int .i64 (p : Int), .int .i64 (q : Int)]).cell 1) _ HR.out).mono ?_; rintro e w2 ⟨rfl, k2, rfl⟩))
  go_ret
  exact ⟨rfl, (((Upd.refl _ _).drewN _).alloc _).drewN _⟩

set_option maxRecDepth 100000 in
set_option maxHeartbeats 400000 in
theorem gaveL_no (w : World) (g : Nat) (L : Nat → Int) (h : Led w g L) (p q : Int) (hp : ¬ ((0 ≤ p ∧ p < L 0) ∧ (0 ≤ q ∧ q < L 0))) :
    Calls Try.prog 54 #[.pointer (some ⟨g, 0, none⟩), .int .i64 p, .int .i64 q] w fun e w' => e = .returned (.int .i64 0) ∧ Upd (fun _ => False) w w' := by
  have HR : Hid (decide ((0 ≤ p ∧ p < L 0) ∧ (0 ≤ q ∧ q < L 0)) = false) := Lib.hid (decide_eq_false hp)
  have H := Lib.hid h; clear h hp
  go_enter Try.func54, Try.ntmps54
  go_wp2_with (first
    | (go_at_call 66; refine (noneL _ g L H.out).mono ?_; rintro e w1 ⟨rfl, k1, rfl⟩)
    | (go_at_call 68; refine (is2L _ g L (Led.alloc (H.out.drewN _) _) w.heap.size p q (by simpa using (Blk.new (w.drewN k1) 3 #[.int .i64 p, .int .i64 q]).cell 0) (by simpa using (Blk.new (w.drewN k1) 3 #[.int .i64 p, .int .i64 q]).cell 1) _ HR.out).mono ?_; rintro e w2 ⟨rfl, k2, rfl⟩))
  go_ret
  exact ⟨rfl, (((Upd.refl _ _).drewN _).alloc _).drewN _⟩

set_option maxRecDepth 100000 in
set_option maxHeartbeats 400000 in
theorem totalL (w : World) (g : Nat) (L : Nat → Int) (h : Led w g L) :
    Calls Try.prog 55 #[.pointer (some ⟨g, 0, none⟩)] w fun e w' => e = .returned (.int .i64 (L 67)) ∧ Upd (fun _ => False) w w' := by
  have c := h.cell 67 (by omega)
  have H := Lib.hid h; clear h
  go_enter Try.func55, Try.ntmps55
  go_wp2_with (first
    | (go_at_call 66; refine (noneL _ g L H.out).mono ?_; rintro e w1 ⟨rfl, k1, rfl⟩))
  go_ret
  exact ⟨rfl, (Upd.refl _ _).drewN _⟩
end Go.Proofs.Ytfpigcjhonfcjaa
