/-
  What a call may have turned, by the types of the blocks: of the blocks from base on those of some types alone, and new ones.
-/
import Derived.Test.YtcgefncddbbnlaaLib
import Derived.Test.YtcgefncddbbnlaaSl
namespace Go.Proofs.Ytcgefncddbbnlaa
open Go.RowKit

/-- The block k is one of a type of ts, from base on. -/
def Tys (base : Nat) (ts : List TypeId) (w : World) (k : Nat) : Prop := base ≤ k ∧ ∃ t cs, Blk w k t cs ∧ t ∈ ts
def Tu (base : Nat) (ts : List TypeId) (w w' : World) : Prop := Upd (Tys base ts w) w w'

section
variable {base base' : Nat} {ts ts' : List TypeId} {w w' w'' : World} {g : Nat} {t : TypeId} {cs : Array Value} {S : Nat → Prop}
theorem Tu.refl (base : Nat) (ts : List TypeId) (w : World) : Tu base ts w w := Upd.refl _ w
theorem Tu.trans (h : Tu base ts w w') (k : Tu base ts w' w'') : Tu base ts w w'' :=
  ⟨k.os.trans h.os, k.tape.trans h.tape, k.output.trans h.output, Nat.le_trans h.size k.size, fun i hi hn => by
    have h1 := h.block i hi hn
    refine (k.block i (Nat.lt_of_lt_of_le hi h.size) (fun e => hn ?_)).trans h1
    obtain ⟨hb, t, cs, hB, ht⟩ := e
    exact ⟨hb, t, cs, h1.symm.trans hB, ht⟩⟩
theorem Tu.of (h : Upd S w w') (hs : ∀ k, k < w.heap.size → S k → Tys base ts w k) : Tu base ts w w' := h.mono hs
theorem Tu.same (h : Upd (fun _ => False) w w') : Tu base ts w w' := h.mono (fun _ _ h => h.elim)
theorem Tu.drew (h : Tu base ts w w') : Tu base ts w w'.drew := Upd.drew h
theorem Tu.drewN (h : Tu base ts w w') (n : Nat) : Tu base ts w (w'.drewN n) := Upd.drewN h n
theorem Tu.alloc (h : Tu base ts w w') (o : Obj) : Tu base ts w (w'.alloc o) := Upd.alloc h o
theorem Tu.mono (h : Tu base ts w w') (hb : base' ≤ base) (hs : ∀ t, t ∈ ts → t ∈ ts') : Tu base' ts' w w' :=
  Upd.mono h (fun _ _ ⟨h1, t, cs, h2, h3⟩ => ⟨Nat.le_trans hb h1, t, cs, h2, hs t h3⟩)
theorem Tu.set_ (h : Tu base ts w w') {b o : Nat} (hb : base ≤ b) (hB : Blk w' b t cs) (ht : t ∈ ts) (u : Value) : Tu base ts w (w'.setCell ⟨b, o, none⟩ u) :=
  h.trans ((Tu.refl base ts w').setCell (p := ⟨b, o, none⟩) (fun _ => ⟨hb, t, cs, hB, ht⟩) u)
theorem Tu.upd1 (h : Tu base ts w w') (hu : Upd S w' w'') (hs : ∀ k, k < w'.heap.size → S k → Tys base ts w' k) : Tu base ts w w'' := h.trans (Tu.of hu hs)
theorem Tu.still (h : Tu base ts w w') (hu : Upd (fun _ => False) w' w'') : Tu base ts w w'' := h.trans (Tu.same hu)
theorem Tu.below (h : Tu base ts w w') {a : World} (hB : Below base a w) (hb : base ≤ w.heap.size) : Below base a w' := Below.upd hB h hb (fun _ hk => hk.1)
theorem Blk.tu (h : Blk w g t cs) (hu : Tu base ts w w') (ht : t ∉ ts) : Blk w' g t cs :=
  h.upd hu (fun ⟨_, t', cs', hB, ht'⟩ => by
    unfold Blk at h hB
    rw [h] at hB
    injection hB with hB
    injection hB with _ e
    exact ht (e ▸ ht'))
theorem Blk.tub (h : Blk w g t cs) (hu : Tu base ts w w') (hg : g < base) : Blk w' g t cs := h.upd hu (fun e => by have := e.1; omega)
theorem Sl.tu {v : Value} {n size b : Nat} {xs : List Value} (h : Sl w b t size v n xs) (hu : Tu base ts w w') (ht : t ∉ ts) : Sl w' b t size v n xs :=
  h.upd hu (fun k hk ⟨_, t', cs', hB, ht'⟩ => by
    obtain ⟨_, _, cur, hc⟩ := h.blk k hk
    unfold Blk at hc hB
    rw [hc] at hB
    injection hB with hB
    injection hB with _ e
    exact ht (e ▸ ht'))
theorem Tu.cell (h : Tu base ts w w') {p : Addr} (hp : p.block < w.heap.size) (hb : p.block < base) : w'.cell? p = w.cell? p := Upd.cell h hp (fun e => by have := e.1; omega)
end
end Go.Proofs.Ytcgefncddbbnlaa
