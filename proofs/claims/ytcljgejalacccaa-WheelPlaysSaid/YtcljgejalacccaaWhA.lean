/-
  The wheel in memory; none, place.
-/
import Derived.Test.YtcljgejalacccaaWhM
import Derived.Test.YtcljgejalacccaaSl
import Derived.Test.YtcljgejalacccaaRws
namespace Go.Proofs.Ytcljgejalacccaa
open Go.RowKit
attribute [local go_sem] max_ints min_ints

theorem i64_and15 (n : Int) : bits .and .i64 n 15 = n % 16 := by
  have hb : bits .and .i64 n 15 = IntKind.i64.wrap ((BitVec.ofInt 64 n &&& BitVec.ofInt 64 15).toNat : Nat) := rfl
  have hm : (BitVec.ofInt 64 15).toNat = 2 ^ 4 - 1 := by decide
  rw [hb, BitVec.toNat_and, hm, Nat.and_two_pow_sub_one_eq_mod, BitVec.toNat_ofInt, IntKind.wrap_i64]
  omega

def encN (i : Nat) : List Value := [.int .i64 (i : Int)]
theorem encN_len (i : Nat) : (encN i).length = 1 := rfl
theorem encN_one (i : Nat) : ∀ u ∈ encN i, u.oneCell' = true := by intro u hu; simp [encN] at hu; subst hu; rfl
theorem infoIn : (Try.prog.info? 3).map (fun i => (i.zero, i.size, i.bytes)) = some (some (.int .i64 0), 1, 8) := by kernel_rfl

/-- The wheel's own block. -/
def WB (w : World) (g : Nat) (now : Nat) (V : Nat → Value) (at_ : Nat → Int) (n : Nat) : Prop :=
  ∃ cs, Blk w g 50 cs ∧ cs[0]? = some (.int .i64 (now : Int)) ∧ (∀ j, j < 256 → cs[1 + j]? = some (V j)) ∧ (∀ i, i < 256 → cs[257 + i]? = some (.int .i64 (at_ i))) ∧ cs[513]? = some (.int .i64 (n : Int)) ∧ cs[514]? = some (.bool true) ∧ cs.size = 515

section
variable {w w' : World} {g now n : Nat} {V : Nat → Value} {at_ : Nat → Int} {S : Nat → Prop}
theorem WB.lt (h : WB w g now V at_ n) : g < w.heap.size := by obtain ⟨cs, h, _⟩ := h; exact h.lt
theorem WB.upd (h : WB w g now V at_ n) (hu : Upd S w w') (hg : ¬ S g) : WB w' g now V at_ n := by obtain ⟨cs, h, h'⟩ := h; exact ⟨cs, h.upd hu hg, h'⟩
theorem WB.cnow (h : WB w g now V at_ n) : w.cell? ⟨g, 0, none⟩ = some (.int .i64 (now : Int)) := by obtain ⟨cs, h, h0, _⟩ := h; rw [h.cell]; exact h0
theorem WB.cslot (h : WB w g now V at_ n) (j : Nat) (hj : j < 256) : w.cell? ⟨g, 1 + j, none⟩ = some (V j) := by obtain ⟨cs, h, _, h1, _⟩ := h; rw [h.cell]; exact h1 j hj
theorem WB.cat (h : WB w g now V at_ n) (i : Nat) (hi : i < 256) : w.cell? ⟨g, 257 + i, none⟩ = some (.int .i64 (at_ i)) := by obtain ⟨cs, h, _, _, h1, _⟩ := h; rw [h.cell]; exact h1 i hi
theorem WB.cset (h : WB w g now V at_ n) : w.cell? ⟨g, 513, none⟩ = some (.int .i64 (n : Int)) := by obtain ⟨cs, h, _, _, _, h1, _⟩ := h; rw [h.cell]; exact h1
theorem WB.cmade (h : WB w g now V at_ n) : w.cell? ⟨g, 514, none⟩ = some (.bool true) := by obtain ⟨cs, h, _, _, _, _, h1, _⟩ := h; rw [h.cell]; exact h1
theorem WB.frozen (h : WB w g now V at_ n) (i : Nat) : w.frozen? ⟨g, i, none⟩ = false := by obtain ⟨cs, h, _⟩ := h; exact h.frozen i
theorem WB.ne_ (h : WB w g now V at_ n) {k : Nat} {t : TypeId} {cs : Array Value} (hB : Blk w k t cs) (ht : t ≠ 50) : k ≠ g := by obtain ⟨cs', h, _⟩ := h; exact hB.ne_ h ht

theorem WB.setNow (h : WB w g now V at_ n) (b : Nat) : WB (w.setCell ⟨g, 0, none⟩ (.int .i64 (b : Int))) g b V at_ n := by
  obtain ⟨cs, h, h0, h1, h2, h3, h4, h5⟩ := h
  refine ⟨_, h.set_ 0 _, by simp [h5], fun j hj => ?_, fun i hi => ?_, ?_, ?_, by simp [h5]⟩
  · rw [Array.getElem?_setIfInBounds_ne (by omega)]; exact h1 j hj
  · rw [Array.getElem?_setIfInBounds_ne (by omega)]; exact h2 i hi
  · rw [Array.getElem?_setIfInBounds_ne (by omega)]; exact h3
  · rw [Array.getElem?_setIfInBounds_ne (by omega)]; exact h4
theorem WB.setSlot (h : WB w g now V at_ n) (j : Nat) (hj : j < 256) (v : Value) : WB (w.setCell ⟨g, 1 + j, none⟩ v) g now (fput V j v) at_ n := by
  obtain ⟨cs, h, h0, h1, h2, h3, h4, h5⟩ := h
  refine ⟨_, h.set_ (1 + j) _, ?_, fun x hx => ?_, fun i hi => ?_, ?_, ?_, by simp [h5]⟩
  · rw [Array.getElem?_setIfInBounds_ne (by omega)]; exact h0
  · by_cases e : x = j
    · subst e; rw [fput_eq]; simp [Array.getElem?_setIfInBounds, h5]; omega
    · rw [fput_ne _ _ e, Array.getElem?_setIfInBounds_ne (by omega)]; exact h1 x hx
  · rw [Array.getElem?_setIfInBounds_ne (by omega)]; exact h2 i hi
  · rw [Array.getElem?_setIfInBounds_ne (by omega)]; exact h3
  · rw [Array.getElem?_setIfInBounds_ne (by omega)]; exact h4
theorem WB.setAt (h : WB w g now V at_ n) (i : Nat) (hi : i < 256) (t : Int) : WB (w.setCell ⟨g, 257 + i, none⟩ (.int .i64 t)) g now V (fput at_ i t) n := by
  obtain ⟨cs, h, h0, h1, h2, h3, h4, h5⟩ := h
  refine ⟨_, h.set_ (257 + i) _, ?_, fun x hx => ?_, fun x hx => ?_, ?_, ?_, by simp [h5]⟩
  · rw [Array.getElem?_setIfInBounds_ne (by omega)]; exact h0
  · rw [Array.getElem?_setIfInBounds_ne (by omega)]; exact h1 x hx
  · by_cases e : x = i
    · subst e; rw [fput_eq]; simp [Array.getElem?_setIfInBounds, h5]; omega
    · rw [fput_ne _ _ e, Array.getElem?_setIfInBounds_ne (by omega)]; exact h2 x hx
  · rw [Array.getElem?_setIfInBounds_ne (by omega)]; exact h3
  · rw [Array.getElem?_setIfInBounds_ne (by omega)]; exact h4
theorem WB.setN (h : WB w g now V at_ n) (m : Nat) : WB (w.setCell ⟨g, 513, none⟩ (.int .i64 (m : Int))) g now V at_ m := by
  obtain ⟨cs, h, h0, h1, h2, h3, h4, h5⟩ := h
  refine ⟨_, h.set_ 513 _, ?_, fun x hx => ?_, fun x hx => ?_, ?_, ?_, by simp [h5]⟩
  · rw [Array.getElem?_setIfInBounds_ne (by omega)]; exact h0
  · rw [Array.getElem?_setIfInBounds_ne (by omega)]; exact h1 x hx
  · rw [Array.getElem?_setIfInBounds_ne (by omega)]; exact h2 x hx
  · simp [h5]
  · rw [Array.getElem?_setIfInBounds_ne (by omega)]; exact h4
end

theorem sh4 (x L : Nat) : ((x : Int) / 2 ^ (4 * L)) = ((x / 16 ^ L : Nat) : Int) := by
  have h2 : (16 : Nat) ^ L = 2 ^ (4 * L) := by rw [Nat.pow_mul]
  rw [h2]
  norm_cast
theorem and_dig (t L : Nat) : bits .and .i64 ((t : Int) / 2 ^ (4 * L)) 15 = ((dig t L : Nat) : Int) := by
  rw [i64_and15, sh4]
  unfold dig
  norm_cast
theorem drew3 (w : World) (a b c : Nat) : ((w.drewN a).drewN b).drewN c = w.drewN (a + b + c) := by rw [World.drewN_drewN, World.drewN_drewN, Nat.add_assoc]
set_option maxHeartbeats 1600000 in
theorem noneC (w : World) (g : Nat) (hm : w.cell? ⟨g, 514, none⟩ = some (.bool true)) :
    Calls Try.prog 23 #[.pointer (some ⟨g, 0, none⟩)] w fun e w' => e = .returned (.bool false) ∧ ∃ k, w' = w.drewN k := by
  go_enter Try.func23, Try.ntmps23
  go_wp2_with fail
  go_returns
  exact ⟨rfl, 0, rfl⟩
set_option maxHeartbeats 3200000 in
theorem placeC (w : World) (g now : Nat) (hc : w.cell? ⟨g, 0, none⟩ = some (.int .i64 (now : Int))) (t : Nat) (_ : t ≤ 4611686018427387904) (_ : now ≤ 4611686018427387904) :
    Calls Try.prog 25 #[.pointer (some ⟨g, 0, none⟩), .int .i64 (t : Int)] w fun e w' => e = .returned (.tuple #[.int .i64 (lev now t : Int), .int .i64 (dig t (lev now t) : Int)]) ∧ ∃ k, w' = w.drewN k := by
  go_enter Try.func25, Try.ntmps25
  go_wp2_with fail
  go_loopw [6] (fun vi wr => ∃ (L k : Nat), vi = .int .i64 L ∧ L ≤ lev now t ∧ wr = w.drewN k) (fun vi _ => 15 - (intOf vi).toNat)
  case atStart => exact ⟨0, 0, rfl, Nat.zero_le _, rfl⟩
  case round =>
    obtain ⟨L, k, rfl, hL, rfl⟩ := hrel
    have h15 := lev_le now t
    have hcr : (w.drewN k).cell? ⟨g, 0, none⟩ = some (.int .i64 (now : Int)) := hc
    by_cases hl : L < 15
    · have d0 : decide ((L : Int) < 15) = true := decide_eq_true (by omega)
      by_cases hq : L = lev now t
      · have dq : ((t : Int) / 2 ^ (4 * (L + 1)) != (now : Int) / 2 ^ (4 * (L + 1))) = false := by
          rw [sh4, sh4, hq, lev_at now t (by omega)]
          simp
        have HQ := Lib.hid hq
        clear hq hL h15
        go_wp2_with fail
        go_quiet (fail)
        go_wp2_with fail
        go_quiet (fail)
        go_wp2_with fail
        go_returns
        rw [and_dig, HQ.out]
        exact ⟨rfl, _, drew3 _ _ _ _⟩
      · have hlt : L < lev now t := by omega
        have dq : ((t : Int) / 2 ^ (4 * (L + 1)) != (now : Int) / 2 ^ (4 * (L + 1))) = true := by
          rw [sh4, sh4]
          have := lev_below now t L hlt
          exact bne_iff_ne.2 (fun e => this (by exact_mod_cast e))
        have HQ := Lib.hid hlt
        clear hq hL h15 hlt
        go_wp2_with fail
        go_quiet (fail)
        go_wp2_with fail
        go_roundw
        case rel => exact ⟨L + 1, _, by go_num, HQ.out, rfl⟩
        case measure => simp [intOf]; omega
    · have hq : L = lev now t := by omega
      have hl15 : L ≤ 15 := by omega
      have d0 : decide ((L : Int) < 15) = false := decide_eq_false (by omega)
      have HQ := Lib.hid hq
      clear hq hL h15 hl
      go_wp2_with fail
      go_quiet (fail)
      go_wp2_with fail
      go_quiet (fail)
      go_wp2_with fail
      go_returns
      rw [and_dig, HQ.out]
      exact ⟨rfl, _, drew3 _ _ _ _⟩
end Go.Proofs.Ytcljgejalacccaa
