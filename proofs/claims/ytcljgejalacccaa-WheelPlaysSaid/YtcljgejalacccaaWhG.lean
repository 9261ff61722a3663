/-
  The wheel: New.
-/
import Derived.Test.YtcljgejalacccaaWhF
namespace Go.Proofs.Ytcljgejalacccaa
open Go.RowKit
attribute [local go_sem] max_ints min_ints

def newL (n m : Nat) (x : Value) : List Value := x :: (List.replicate n (Value.slice none 0 0) ++ (List.replicate m (Value.int .i64 0) ++ [.int .i64 0, .bool true]))
theorem newL_at (n m : Nat) (x : Value) : (newL n m x)[0]? = some x ∧ (∀ j, j < n → (newL n m x)[1 + j]? = some (.slice none 0 0)) ∧ (∀ i, i < m → (newL n m x)[1 + n + i]? = some (.int .i64 0)) ∧ (newL n m x)[1 + n + m]? = some (.int .i64 0) ∧ (newL n m x)[2 + n + m]? = some (.bool true) ∧ (newL n m x).length = 3 + n + m := by
  unfold newL
  refine ⟨rfl, fun j hj => ?_, fun i hi => ?_, ?_, ?_, ?_⟩
  · rw [Nat.add_comm 1 j, List.getElem?_cons_succ, List.getElem?_append_left (by simpa using hj), List.getElem?_replicate, if_pos hj]
  · rw [show 1 + n + i = (n + i) + 1 by omega, List.getElem?_cons_succ, List.getElem?_append_right (by simp), List.length_replicate, Nat.add_sub_cancel_left, List.getElem?_append_left (by simpa using hi), List.getElem?_replicate, if_pos hi]
  · rw [show 1 + n + m = (n + m) + 1 by omega, List.getElem?_cons_succ, List.getElem?_append_right (by simp), List.length_replicate, Nat.add_sub_cancel_left, List.getElem?_append_right (by simp), List.length_replicate, Nat.sub_self]
    rfl
  · rw [show 2 + n + m = (n + (m + 1)) + 1 by omega, List.getElem?_cons_succ, List.getElem?_append_right (by simp), List.length_replicate, Nat.add_sub_cancel_left, List.getElem?_append_right (by simp), List.length_replicate, Nat.add_sub_cancel_left]
    rfl
  · simp; omega
/-- The cells of a new wheel. -/
def newW (x : Int) : Array Value := (newL 256 256 (.int .i64 x)).toArray
theorem builtW (x : Int) : Try.prog.built 50 [(0, .int .i64 x), (4, .bool true)] = some (newW x) := by kernel_rfl
theorem newW_WB (w : World) (x : Nat) : WB (w.alloc (.cells (newW x) 50)) w.heap.size x (fun _ => .slice none 0 0) (fun _ => 0) 0 := by
  obtain ⟨h0, h1, h2, h3, h4, h5⟩ := newL_at 256 256 (.int .i64 (x : Int))
  exact ⟨newW x, Blk.new w _ _, by unfold newW; rw [List.getElem?_toArray]; exact h0, fun j hj => by unfold newW; rw [List.getElem?_toArray]; exact h1 j hj, fun i hi => by unfold newW; rw [List.getElem?_toArray]; exact h2 i hi,
    by unfold newW; rw [List.getElem?_toArray]; exact h3, by unfold newW; rw [List.getElem?_toArray]; exact h4, by unfold newW; rw [List.size_toArray]; exact h5⟩

set_option maxRecDepth 100000 in
set_option maxHeartbeats 1600000 in
theorem newC (w : World) (s : Int) :
    Calls Try.prog 8 #[.int .i64 s] w fun e w' => e = .returned (.pointer (some ⟨w.heap.size, 0, none⟩)) ∧ WhS w' w.heap.size (min (max s 0) 4611686018427387904).toNat (fun _ => -1) (fun k => k < w.heap.size) ∧ Upd (fun _ => False) w w' := by
  obtain ⟨x, hx⟩ : ∃ x : Nat, min (max s 0) 4611686018427387904 = (x : Int) := ⟨(min (max s 0) 4611686018427387904).toNat, by omega⟩
  have HX := Lib.hid hx
  have HXT : Hid ((min (max s 0) 4611686018427387904).toNat = x) := Lib.hid (by omega)
  have HXB : Hid (x ≤ 4611686018427387904) := Lib.hid (by omega)
  clear hx
  go_enter Try.func8, Try.ntmps8
  go_wp2_with (
    refine wpList_build rfl 50 _ rfl (by kernel_rfl) ?_
    have hb := builtW (min (max s 0) 4611686018427387904)
    simp only [Act.put, List.map_toArray, List.map_cons, List.map_nil, Act.eval, List.toList_toArray, Array.getD_eq_getD_getElem?, List.getElem?_toArray, List.getElem?_cons_succ, List.getElem?_cons_zero, Option.getD_some]
    rw [hb, Option.getD_some, HX.out]
    clear hb)
  have B0 := Lib.hid (newW_WB w x)
  have U0 := Lib.hid ((Upd.refl (fun _ => False) w).alloc (.cells (newW x) 50))
  obtain ⟨g, hg⟩ : ∃ g, w.heap.size = g := ⟨_, rfl⟩
  have HG := Lib.hid hg
  rw [hg] at B0 ⊢
  clear hg
  go_loopw [10] (fun vi wr => ∃ k : Nat, k ≤ 256 ∧ vi = .int .i64 k ∧ WB wr g x (fun _ => .slice none 0 0) (fun i => if i < k then -1 else 0) 0 ∧ Upd (fun _ => False) w wr) (fun vi _ => 256 - (intOf vi).toNat)
  case atStart => exact ⟨0, Nat.zero_le _, rfl, by simpa using B0.out, U0.out⟩
  case round =>
    obtain ⟨k, hk, rfl, hB, hU⟩ := hrel
    have HB := Lib.hid hB; have HU := Lib.hid hU
    clear hB hU
    by_cases hlt : k < 256
    · have d0 : decide ((k : Int) < 256) = true := decide_eq_true (by omega)
      have dk0 : decide ((k : Int) < 0) = false := decide_eq_false (by omega)
      have hkz : (k : Int) < 256 := by omega
      have ca := HB.out.cat k hlt
      have fa := HB.out.frozen (257 + k)
      rw [if_neg (by omega)] at ca
      go_wp2_with fail
      go_roundw
      case rel =>
        refine ⟨k + 1, by omega, by go_num, ?_, HU.out.setCell (p := ⟨g, 257 + k, none⟩) (fun h => by simp only at h; rw [HG.out] at h; omega) _⟩
        have h := HB.out.setAt k hlt (-1)
        have e : fput (fun i => if i < k then (-1 : Int) else 0) k (-1) = fun i => if i < k + 1 then (-1 : Int) else 0 := by
          funext i
          unfold fput
          by_cases h1 : i = k
          · subst h1; simp
          · rw [if_neg h1]
            show (if i < k then (-1 : Int) else 0) = _
            by_cases h2 : i < k
            · rw [if_pos h2, if_pos (by omega)]
            · rw [if_neg h2, if_neg (by omega)]
        rwa [e] at h
      case measure => simp [intOf]; omega
    · have hie : k = 256 := by omega
      subst hie
      go_wp2_with fail
      go_returns
      rw [HG.out, HXT.out]
      refine ⟨rfl, ⟨_, fun _ => [], 0, ⟨HB.out.congr (fun i hi => by rw [if_pos hi]), fun j _ => SlR.nil, fun i j _ _ _ k hk => (by cases hk), by omega, fun j _ k hk => (by cases hk)⟩, Inv.new x, ?_, HXB.out⟩, HU.out⟩
      symm
      unfold cntA
      simp
end Go.Proofs.Ytcljgejalacccaa
