/-
  The walks of a row of whole numbers: Set, Clear, All.
-/
import Derived.Test.YtfpigcjhonfcjaaOrders
namespace Go.Proofs.Ytfpigcjhonfcjaa
open Go.RowKit

set_option maxHeartbeats 400000 in
theorem setI_no (w : World) (g d : Nat) (arr : Array Value) (first n : Nat) (h : RingI w g d arr first n) (i x : Int) (hi : ¬ (0 ≤ i ∧ i < n)) :
    Calls Try.prog 36 #[.pointer (some ⟨g, 0, none⟩), .int .i64 i, .int .i64 x] w fun e w' => e = .returned (.bool false) ∧ ∃ k, w' = w.drewN k := by
  have HI : Hid (decide (0 ≤ i ∧ i < n) = false) := Lib.hid (decide_eq_false hi)
  clear hi
  have H := Lib.hid h; clear h
  go_enter Try.func36, Try.ntmps36
  go_wp2_with (go_at_call 65; refine (isI _ g d arr first n H.out _ _ HI.out).mono ?_; rintro e w' ⟨rfl, k, rfl⟩)
  go_ret
  exact ⟨rfl, _, rfl⟩

set_option maxHeartbeats 800000 in
theorem setI_yes (w : World) (g d : Nat) (arr : Array Value) (first n : Nat) (h : RingI w g d arr first n) (i x : Int) (m : Nat) (h0 : 0 ≤ i) (h1 : i < n) (hm : ((first : Int) + i) % arr.size = m) :
    Calls Try.prog 36 #[.pointer (some ⟨g, 0, none⟩), .int .i64 i, .int .i64 x] w fun e w' => e = .returned (.bool true) ∧ RingI w' g d (arr.setIfInBounds m (.int .i64 x)) first n ∧ Upd (fun k => k = g ∨ k = d) w w' := by
  have HI : Hid (decide (0 ≤ i ∧ i < n) = true) := Lib.hid (decide_eq_true ⟨h0, h1⟩)
  have hn := h.hn
  have hs := h.hs
  have hne := h.ne_
  have hlt : m < arr.size := by
    have : ((first : Int) + i) % arr.size < arr.size := Int.emod_lt_of_pos _ (by omega)
    omega
  have c0 := h.st.cell 0
  have cd := h.ar.cell m
  have fd := h.ar.frozen m
  rw [Array.getElem?_eq_getElem hlt] at cd
  simp at c0
  have H := Lib.hid h; clear h
  have HM := Lib.hid hm; clear hm
  have b0 : (0 : Int) ≤ m := by omega
  have b1 : (m : Int) < arr.size := by omega
  go_enter Try.func36, Try.ntmps36
  go_wp2_with (go_at_call 65; refine (isI _ g d arr first n H.out _ _ HI.out).mono ?_; rintro e w' ⟨rfl, k0, rfl⟩)
  go_region_held3 (fun w' => w'.cell? ⟨g, 0, none⟩ = some (.slice (some ⟨d, 0, none⟩) arr.size arr.size)) (first | exact c0 | exact cell_far hne c0)
    (first | (go_at_call 64; refine (placeI _ g d arr first n (H.out.drewN _) _ m (by omega) (by omega) (by omega) HM.out).mono ?_; rintro e w' ⟨rfl, k, rfl⟩))
  go_wp2
  go_ret
  exact ⟨rfl, H.out.stored _ m _, ((Upd.refl _ _).drewN _).setCell (fun _ => .inr rfl) _⟩

theorem upd_setCells (d : Nat) : ∀ (vs : List Value) (o : Nat) (w : World), Upd (fun k => k = d) w (w.setCells d o vs)
  | [], _, w => Upd.refl _ w
  | v :: vs, o, w => ((Upd.refl (fun k => k = d) w).setCell (p := ⟨d, o, none⟩) (fun _ => rfl) v).trans (upd_setCells d vs (o + 1) _)
theorem blk_setCells (d : Nat) (t : TypeId) (z : Value) : ∀ (m o : Nat) (w : World) (cs : Array Value), Blk w d t cs →
    ∃ cs', Blk (w.setCells d o (List.replicate m z)) d t cs' ∧ cs'.size = cs.size ∧ ∀ j, j < cs.size → cs'[j]? = if o ≤ j ∧ j < o + m then some z else cs[j]?
  | 0, o, w, cs, h => ⟨cs, h, rfl, fun j _ => by rw [if_neg (by omega)]⟩
  | m + 1, o, w, cs, h => by
    obtain ⟨cs', h1, h2, h3⟩ := blk_setCells d t z m (o + 1) _ _ (h.set_ o z)
    refine ⟨cs', h1, by rw [h2, Array.size_setIfInBounds], fun j hj => ?_⟩
    rw [h3 j (by rw [Array.size_setIfInBounds]; exact hj)]
    by_cases e : j = o
    · subst e
      rw [if_neg (by omega), if_pos (by omega), Array.getElem?_setIfInBounds_self_of_lt hj]
    · rw [Array.getElem?_setIfInBounds_ne (fun e2 => e e2.symm)]
      by_cases c : o + 1 ≤ j ∧ j < o + 1 + m
      · rw [if_pos c, if_pos (by omega)]
      · rw [if_neg c, if_neg (by omega)]
theorem blk_cleared (w : World) (d : Nat) (t : TypeId) (z : Value) (cs : Array Value) (h : Blk w d t cs) : Blk (w.setCells d 0 (List.replicate cs.size z)) d t (Array.replicate cs.size z) := by
  obtain ⟨cs', h1, h2, h3⟩ := blk_setCells d t z cs.size 0 w cs h
  have e : cs' = Array.replicate cs.size z := by
    apply Array.ext
    · simp [h2]
    · intro j a b
      have := h3 j (by omega)
      rw [if_pos (by omega), Array.getElem?_eq_getElem a] at this
      simp at this
      simp [this]
  rw [e] at h1
  exact h1

theorem zeroInt (w : World) : (zeroValue 3).run Try.prog w = .ok (.int .i64 0) w := by kernel_rfl
theorem clear_none (w : World) (d : Nat) : (Builtin.clear_ #[33] 0 #[.slice (some ⟨d, 0, none⟩) 0 0]).run Try.prog w = .ok (.tuple #[]) w := by
  simp [Builtin.clear_, run_underlying Try.underlying33]

set_option maxRecDepth 100000 in
set_option maxHeartbeats 800000 in
theorem clearI (w : World) (g d : Nat) (arr : Array Value) (first n : Nat) (h : RingI w g d arr first n) :
    Calls Try.prog 38 #[.pointer (some ⟨g, 0, none⟩)] w fun e w' => e = .returned (.tuple #[]) ∧ RingI w' g d (Array.replicate arr.size (.int .i64 0)) 0 0 ∧ Upd (fun k => k = g ∨ k = d) w w' := by
  have c0 := h.st.cell 0
  simp at c0
  obtain ⟨W, hW, hgW, hdW, hU⟩ : ∃ W, (Builtin.clear_ #[33] 0 #[.slice (some ⟨d, 0, none⟩) arr.size arr.size]).run Try.prog w = .ok (.tuple #[]) W ∧
      Blk W g 71 #[.slice (some ⟨d, 0, none⟩) arr.size arr.size, .int .i64 first, .int .i64 n] ∧ Blk W d 3 (Array.replicate arr.size (.int .i64 0)) ∧ Upd (fun k => k = d) w W := by
    rcases Nat.eq_zero_or_pos arr.size with hz | hz
    · have e : arr = Array.replicate arr.size (.int .i64 0) := by rw [hz]; exact Array.eq_empty_of_size_eq_zero hz
      refine ⟨w, by rw [hz]; exact clear_none w d, h.st, by rw [← e]; exact h.ar, Upd.refl _ _⟩
    · exact ⟨_, Lib.run_clear_slice (P := Try.prog) w 33 3 0 (.int .i64 0) Try.underlying33 zeroInt rfl rfl d 0 arr.size arr.size hz (fun j hj => by rw [Nat.zero_add, h.ar.cell j, Array.getElem?_eq_getElem hj]; rfl) (fun j hj => h.ar.frozen _),
        h.st.upd (upd_setCells d _ 0 w) h.ne_, blk_cleared w d _ _ arr h.ar, upd_setCells d _ 0 w⟩
  have hs := h.hs
  have hle := h.hn
  clear h
  have c1 := hgW.cell 1
  have c2 := hgW.cell 2
  have f1 := hgW.frozen 1
  have f2 := hgW.frozen 2
  simp at c1 c2
  have hne := hgW.ne_ hdW (by decide)
  have HG := Lib.hid hgW; clear hgW
  have HD := Lib.hid hdW; clear hdW
  have HU := Lib.hid hU; clear hU
  go_enter Try.func38, Try.ntmps38
  go_wp2
  go_returns
  refine ⟨rfl, ⟨?_, (HD.out.far (p := ⟨g, 1, none⟩) (Ne.symm hne) _).far (p := ⟨g, 2, none⟩) (Ne.symm hne) _, Nat.zero_le _, Nat.zero_le _, fun h => h, by simpa using hs⟩, (((HU.out.mono (fun k _ hk => .inr hk)).setCell (p := ⟨g, 1, none⟩) (fun _ => .inl rfl) _)).setCell (fun _ => .inl rfl) _⟩
  have := (HG.out.set_ 1 (.int .i64 0)).set_ 2 (.int .i64 0)
  simpa using this
end Go.Proofs.Ytfpigcjhonfcjaa
