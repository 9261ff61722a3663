/-
  Rows of numbers of a fixed length.
-/
import Derived.Test.YtcljgejalacccaaWhK
import Derived.Laws.MakeOwn
namespace Go.Proofs.Ytcljgejalacccaa
open Go.RowKit

/-- The block b begins with the numbers c 0, .. c (n - 1). -/
def ArrI (w : World) (b n : Nat) (c : Nat → Int) : Prop := ∃ cs, Blk w b 3 cs ∧ n ≤ cs.size ∧ ∀ i, i < n → cs[i]? = some (.int .i64 (c i))
section
variable {w w' : World} {b n : Nat} {c c' : Nat → Int} {S : Nat → Prop}
theorem ArrI.lt (h : ArrI w b n c) : b < w.heap.size := by obtain ⟨cs, h, _⟩ := h; exact h.lt
theorem ArrI.cell (h : ArrI w b n c) (i : Nat) (hi : i < n) : w.cell? ⟨b, i, none⟩ = some (.int .i64 (c i)) := by obtain ⟨cs, h, _, h1⟩ := h; rw [h.cell]; exact h1 i hi
theorem ArrI.frozen (h : ArrI w b n c) (i : Nat) : w.frozen? ⟨b, i, none⟩ = false := by obtain ⟨cs, h, _⟩ := h; exact h.frozen i
theorem ArrI.upd (h : ArrI w b n c) (hu : Upd S w w') (hb : ¬ S b) : ArrI w' b n c := by obtain ⟨cs, h, h'⟩ := h; exact ⟨cs, h.upd hu hb, h'⟩
theorem ArrI.congr (h : ArrI w b n c) (e : ∀ i, i < n → c' i = c i) : ArrI w b n c' := by obtain ⟨cs, h, h1, h2⟩ := h; exact ⟨cs, h, h1, fun i hi => by rw [e i hi]; exact h2 i hi⟩
theorem ArrI.set_ (h : ArrI w b n c) (i : Nat) (hi : i < n) (v : Int) : ArrI (w.setCell ⟨b, i, none⟩ (.int .i64 v)) b n (fput c i v) := by
  obtain ⟨cs, h, h1, h2⟩ := h
  refine ⟨_, h.set_ i _, by simpa using h1, fun j hj => ?_⟩
  by_cases e : j = i
  · subst e; rw [fput_eq, Array.getElem?_setIfInBounds_self_of_lt (by omega)]
  · rw [fput_ne _ _ e, Array.getElem?_setIfInBounds_ne (fun e' => e e'.symm)]; exact h2 j hj
theorem ArrI.new (w : World) (n : Nat) : ArrI (w.alloc (.cells (madeCells #[.int .i64 0] n) 3)) w.heap.size n (fun _ => 0) := by
  refine ⟨_, Blk.new w _ _, by rw [size_madeCells]; omega, fun i hi => ?_⟩
  rw [Array.getElem?_eq_getElem (by rw [size_madeCells]; omega)]
  simp [madeCells, Nat.mod_one]
theorem ArrI.ne_ (h : ArrI w b n c) {k : Nat} {t : TypeId} {cs : Array Value} (hB : Blk w k t cs) (ht : t ≠ 3) : k ≠ b := by obtain ⟨cs', h, _⟩ := h; exact hB.ne_ h ht
end
theorem makeI (n : Nat) (hn : n ≤ 1000) (w : World) : (Instr.makeSlice 30 (.int .i64 (n : Int)) (.int .i64 (n : Int))).run Try.prog w = .ok (.slice (some ⟨w.heap.size, 0, none⟩) n n) (w.alloc (.cells (madeCells #[.int .i64 0] n) 3)) := by
  obtain ⟨i0, hi0, hz0, hz1, hz2⟩ := info_parts infoIn
  have := run_makeSlice (P := Try.prog) w 30 3 i0 _ Try.underlying30 hi0 hz0 .i64 .i64 (n : Int) (n : Int) (by omega) (Int.le_refl _) (by rw [hz1]; omega) (by rw [hz2]; omega) (by omega)
  rw [this, Int.toNat_natCast, hz1, Nat.mul_one]
  rfl
end Go.Proofs.Ytcljgejalacccaa
