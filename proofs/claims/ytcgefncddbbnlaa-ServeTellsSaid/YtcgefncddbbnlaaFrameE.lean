/-
  The walks of frame.Table: at, Owner.
-/
import Derived.Test.YtcgefncddbbnlaaFrameD
import Derived.Test.YtcgefncddbbnlaaFrameD
namespace Go.Proofs.Ytcgefncddbbnlaa.Fr
open Go.RowKit
attribute [local go_sem] max_ints min_ints

def atW (ws : List W3) (i : Nat) : W3 := ws[i]?.getD (0, 0, 0)
theorem atW_of {ws : List W3} {i : Nat} {x : W3} (h : ws[i]? = some x) : atW ws i = x := by simp [atW, h]

theorem set3 {w : World} {g : Nat} {t : TypeId} {a b c : Value} (h : Blk w g t #[a, b, c]) (x y z : Value) : Blk (((w.setCell ⟨g, 0, none⟩ x).setCell ⟨g, 1, none⟩ y).setCell ⟨g, 2, none⟩ z) g t #[x, y, z] :=
  ((h.set_ 0 x).set_ 1 y).set_ 2 z
theorem _root_.Go.Proofs.Ytcgefncddbbnlaa.Upd.set3 {S : Nat → Prop} {w w' : World} (h : Upd S w w') {g : Nat} (hg : w.heap.size ≤ g) (x y z : Value) : Upd S w (((w'.setCell ⟨g, 0, none⟩ x).setCell ⟨g, 1, none⟩ y).setCell ⟨g, 2, none⟩ z) :=
  ((h.setCell (p := ⟨g, 0, none⟩) (fun e => by simp only at e; omega) x).setCell (p := ⟨g, 1, none⟩) (fun e => by simp only at e; omega) y).setCell (p := ⟨g, 2, none⟩) (fun e => by simp only at e; omega) z

end Go.Proofs.Ytcgefncddbbnlaa.Fr
