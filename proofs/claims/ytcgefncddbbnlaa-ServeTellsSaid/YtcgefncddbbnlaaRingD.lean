/-
  The walks of a row of int (ring.Ring[int]).
-/
import Derived.Test.YtcgefncddbbnlaaLib
namespace Go.Proofs.Ytcgefncddbbnlaa.Rg
open Go.RowKit
attribute [local go_sem] max_ints min_ints

/-- A row of int at block g, its cells at block d. -/
structure RingI (w : World) (g d : Nat) (arr : Array Value) (first n : Nat) : Prop where
  st : Blk w g 130 #[.slice (some ⟨d, 0, none⟩) arr.size arr.size, .int .i64 first, .int .i64 n]
  ar : Blk w d 3 arr
  hn : n ≤ arr.size
  hf : first ≤ arr.size
  hl : 0 < arr.size → first < arr.size
  hs : arr.size ≤ 4096

section
variable {w w' : World} {g d : Nat} {arr : Array Value} {first n : Nat}
theorem RingI.drewN (h : RingI w g d arr first n) (k : Nat) : RingI (w.drewN k) g d arr first n :=
  ⟨h.st, h.ar, h.hn, h.hf, h.hl, h.hs⟩
theorem RingI.ne_ (h : RingI w g d arr first n) : g ≠ d := h.st.ne_ h.ar (by decide)
theorem RingI.upd {S : Nat → Prop} (h : RingI w g d arr first n) (hu : Upd S w w') (hg : ¬ S g) (hd : ¬ S d) : RingI w' g d arr first n :=
  ⟨h.st.upd hu hg, h.ar.upd hu hd, h.hn, h.hf, h.hl, h.hs⟩
theorem RingI.setN (h : RingI w g d arr first n) (k m : Nat) (hn : m ≤ arr.size) :
    RingI ((w.drewN k).setCell ⟨g, 2, none⟩ (.int .i64 m)) g d arr first m := by
  refine ⟨?_, (h.ar.drewN k).far (p := ⟨g, 2, none⟩) (Ne.symm h.ne_) _, hn, h.hf, h.hl, h.hs⟩
  have := (h.st.drewN k).set_ 2 (.int .i64 m)
  simpa using this
theorem RingI.setF (h : RingI w g d arr first n) (k m : Nat) (hm : m < arr.size) :
    RingI ((w.drewN k).setCell ⟨g, 1, none⟩ (.int .i64 m)) g d arr m n := by
  refine ⟨?_, (h.ar.drewN k).far (p := ⟨g, 1, none⟩) (Ne.symm h.ne_) _, h.hn, by omega, fun _ => hm, h.hs⟩
  have := (h.st.drewN k).set_ 1 (.int .i64 m)
  simpa using this
theorem RingI.stored (h : RingI w g d arr first n) (k : Nat) (i : Nat) (u : Value) :
    RingI ((w.drewN k).setCell ⟨d, i, none⟩ u) g d (arr.setIfInBounds i u) first n := by
  refine ⟨?_, (h.ar.drewN k).set_ i u, by simpa using h.hn, by simpa using h.hf, by simpa using h.hl, by simpa using h.hs⟩
  have := (h.st.drewN k).far (p := ⟨d, i, none⟩) h.ne_ u
  simpa using this
end

set_option maxHeartbeats 400000 in
theorem noneI (w : World) (g d : Nat) (arr : Array Value) (first n : Nat) (h : RingI w g d arr first n) (b : Bool) (hb : ((arr.size : Int) == 0) = b) :
    Calls Try.prog 82 #[.pointer (some ⟨g, 0, none⟩)] w fun e w' => e = .returned (.bool b) ∧ ∃ k, w' = w.drewN k := by
  have c0 := h.st.cell 0
  simp at c0
  have H := Lib.hid h; clear h
  cases b
  all_goals
    go_enter Try.func82, Try.ntmps82
    go_wp2
    go_ret
    exact ⟨rfl, 0, rfl⟩

set_option maxHeartbeats 400000 in
theorem placeI (w : World) (g d : Nat) (arr : Array Value) (first n : Nat) (h : RingI w g d arr first n) (i : Int) (m : Nat) (hi0 : 0 ≤ i) (hi : i ≤ 4096) (hz : 0 < arr.size) (hm : ((first : Int) + i) % arr.size = m) :
    Calls Try.prog 83 #[.pointer (some ⟨g, 0, none⟩), .int .i64 i] w fun e w' => e = .returned (.int .i64 m) ∧ ∃ k, w' = w.drewN k := by
  have c0 := h.st.cell 0
  have c1 := h.st.cell 1
  simp at c0 c1
  have hf := h.hf
  have hs := h.hs
  have H := Lib.hid h; clear h
  have HM := Lib.hid hm; clear hm
  have e0 : ((arr.size : Int) == 0) = false := beq_eq_false_iff_ne.2 (by omega)
  go_enter Try.func83, Try.ntmps83
  go_wp2
  go_quiet (fail)
  go_wp2
  go_ret
  exact ⟨ret_int HM.out, _, rfl⟩

set_option maxHeartbeats 400000 in
theorem isI (w : World) (g d : Nat) (arr : Array Value) (first n : Nat) (h : RingI w g d arr first n) (i : Int) (b : Bool) (hb : decide (0 ≤ i ∧ i < n) = b) :
    Calls Try.prog 84 #[.pointer (some ⟨g, 0, none⟩), .int .i64 i] w fun e w' => e = .returned (.bool b) ∧ ∃ k, w' = w.drewN k := by
  have c2 := h.st.cell 2
  simp at c2
  have hn := h.hn
  have H := Lib.hid h; clear h
  have HB := Lib.hid hb; clear hb
  obtain ⟨b0, hb0⟩ : ∃ b, ((arr.size : Int) == 0) = b := ⟨_, rfl⟩
  by_cases h0 : 0 ≤ i
  · have e0 : decide (0 ≤ i) = true := decide_eq_true h0
    by_cases h1 : i < n
    · have e1 : decide (i < (n : Int)) = true := decide_eq_true h1
      have hz : ((arr.size : Int) == 0) = false := beq_eq_false_iff_ne.2 (by omega)
      rw [hb0] at hz
      subst hz
      have HB0 := Lib.hid hb0; clear hb0
      have hb := HB.out
      simp only [h0, h1, and_self, decide_true] at hb
      subst hb
      go_enter Try.func84, Try.ntmps84
      go_wp2_with (go_at_call 82; refine (noneI _ g d arr first n H.out _ HB0.out).mono ?_; rintro e w' ⟨rfl, k, rfl⟩)
      go_ret
      exact ⟨rfl, _, rfl⟩
    · have e1 : decide (i < (n : Int)) = false := decide_eq_false h1
      have HB0 := Lib.hid hb0; clear hb0
      have hb := HB.out
      simp only [h1, and_false, decide_false] at hb
      subst hb
      cases b0
      all_goals
        go_enter Try.func84, Try.ntmps84
        go_wp2_with (go_at_call 82; refine (noneI _ g d arr first n H.out _ HB0.out).mono ?_; rintro e w' ⟨rfl, k, rfl⟩)
        go_ret
        exact ⟨rfl, _, rfl⟩
  · have e0 : decide (0 ≤ i) = false := decide_eq_false h0
    have HB0 := Lib.hid hb0; clear hb0
    have hb := HB.out
    simp only [h0, false_and, decide_false] at hb
    subst hb
    cases b0
    all_goals
      go_enter Try.func84, Try.ntmps84
      go_wp2_with (go_at_call 82; refine (noneI _ g d arr first n H.out _ HB0.out).mono ?_; rintro e w' ⟨rfl, k, rfl⟩)
      go_ret
      exact ⟨rfl, _, rfl⟩

set_option maxHeartbeats 400000 in
theorem pushI_no (w : World) (g d : Nat) (arr : Array Value) (first n : Nat) (h : RingI w g d arr first n) (s : Int) (hz : arr.size = n) :
    Calls Try.prog 74 #[.pointer (some ⟨g, 0, none⟩), .int .i64 s] w fun e w' => e = .returned (.bool false) ∧ ∃ k, w' = w.drewN k := by
  have c0 := h.st.cell 0
  have c2 := h.st.cell 2
  simp at c0 c2
  have H := Lib.hid h; clear h
  have e0 : ((n : Int) == (arr.size : Int)) = true := beq_iff_eq.2 (by omega)
  have HZ := Lib.hid hz; clear hz
  obtain ⟨b, hb⟩ : ∃ b, ((arr.size : Int) == 0) = b := ⟨_, rfl⟩
  have HB := Lib.hid hb; clear hb
  cases b
  all_goals
    go_enter Try.func74, Try.ntmps74
    go_wp2
    go_quiet ((go_at_call 82; exact Calls.quiet_of (noneI _ g d arr first n (H.out.drewN _) _ HB.out)))
    go_wp2
    go_ret
    exact ⟨rfl, _, rfl⟩

set_option maxHeartbeats 400000 in
theorem pushI_yes (w : World) (g d : Nat) (arr : Array Value) (first n : Nat) (h : RingI w g d arr first n) (s : Int) (m : Nat) (hz : n < arr.size) (hm : (first + n) % arr.size = m) :
    Calls Try.prog 74 #[.pointer (some ⟨g, 0, none⟩), .int .i64 s] w fun e w' => e = .returned (.bool true) ∧
      RingI w' g d (arr.setIfInBounds m (.int .i64 s)) first (n + 1) ∧ Upd (fun k => k = g ∨ k = d) w w' := by
  have c0 := h.st.cell 0
  have c2 := h.st.cell 2
  have f2 := h.st.frozen 2
  have hne := h.ne_
  have hs := h.hs
  simp at c0 c2
  have H := Lib.hid h; clear h
  have e0 : ((n : Int) == (arr.size : Int)) = false := beq_eq_false_iff_ne.2 (by omega)
  have HB : Hid (((arr.size : Int) == 0) = false) := Lib.hid (beq_eq_false_iff_ne.2 (by omega))
  have hmod : ((first : Int) + n) % arr.size = m := by rw [← hm]; simp
  have hlt : m < arr.size := by rw [← hm]; exact Nat.mod_lt _ (by omega)
  have HM := Lib.hid hmod; clear hmod hm
  go_enter Try.func74, Try.ntmps74
  go_wp2
  go_quiet ((go_at_call 82; exact Calls.quiet_of (noneI _ g d arr first n (H.out.drewN _) _ HB.out)))
  go_wp2
  have hW := H.out.setN nq (n + 1) (by omega)
  have hU : Upd (fun k => k = g ∨ k = d) w ((w.drewN nq).setCell ⟨g, 2, none⟩ (.int .i64 ((n + 1 : Nat) : Int))) := ((Upd.refl _ _).drewN _).setCell (fun _ => .inl rfl) _
  rw [show ((n : Int) + 1) = ((n + 1 : Nat) : Int) from rfl]
  generalize (w.drewN nq).setCell ⟨g, 2, none⟩ (.int .i64 ((n + 1 : Nat) : Int)) = W at *
  clear c0 c2 f2
  have c0 := hW.st.cell 0
  have c2 := hW.st.cell 2
  simp at c0 c2
  have cd := hW.ar.cell m
  have fd := hW.ar.frozen m
  rw [Array.getElem?_eq_getElem hlt] at cd
  have HW := Lib.hid hW; clear hW
  have HU := Lib.hid hU; clear hU
  have wn : IntKind.i64.wrap (n : Int) = n := IntWalk.i64_in _ (by omega)
  have b0 : (0 : Int) ≤ m := by omega
  have b1 : (m : Int) < arr.size := by omega
  go_region_held3 (fun w' => w'.cell? ⟨g, 0, none⟩ = some (.slice (some ⟨d, 0, none⟩) arr.size arr.size) ∧ w'.cell? ⟨g, 2, none⟩ = some (.int .i64 (n + 1))) (first | exact ⟨c0, c2⟩ | exact ⟨cell_far hne c0, cell_far hne c2⟩)
    (first | (go_at_call 83; refine (placeI _ g d arr first (n + 1) ((HW.out).drewN 1) _ m (by omega) (by omega) (by omega) HM.out).mono ?_; rintro e w' ⟨rfl, k, rfl⟩))
  go_wp2
  go_ret
  refine ⟨rfl, ?_, ?_⟩
  · exact HW.out.stored _ m _
  · exact (HU.out.drewN _).setCell (fun _ => .inr rfl) _

set_option maxHeartbeats 400000 in
theorem atI_no (w : World) (g d : Nat) (arr : Array Value) (first n : Nat) (h : RingI w g d arr first n) (i : Int) (hi : ¬ (0 ≤ i ∧ i < n)) :
    Calls Try.prog 75 #[.pointer (some ⟨g, 0, none⟩), .int .i64 i] w fun e w' => e = .returned (.tuple #[(.int .i64 0), .bool false]) ∧ ∃ k, w' = w.drewN k := by
  have HI : Hid (decide (0 ≤ i ∧ i < n) = false) := Lib.hid (decide_eq_false hi)
  clear hi
  have H := Lib.hid h; clear h
  go_enter Try.func75, Try.ntmps75
  go_wp2_with (go_at_call 84; refine (isI _ g d arr first n H.out _ _ HI.out).mono ?_; rintro e w' ⟨rfl, k, rfl⟩)
  go_ret2
  exact ⟨rfl, _, rfl⟩

set_option maxHeartbeats 400000 in
theorem atI_yes (w : World) (g d : Nat) (arr : Array Value) (first n : Nat) (h : RingI w g d arr first n) (i : Int) (m : Nat) (x : Int) (h0 : 0 ≤ i) (h1 : i < n) (hm : ((first : Int) + i) % arr.size = m) (hx : arr[m]? = some (.int .i64 x)) :
    Calls Try.prog 75 #[.pointer (some ⟨g, 0, none⟩), .int .i64 i] w fun e w' => e = .returned (.tuple #[.int .i64 x, .bool true]) ∧ ∃ k, w' = w.drewN k := by
  have HI : Hid (decide (0 ≤ i ∧ i < n) = true) := Lib.hid (decide_eq_true ⟨h0, h1⟩)
  have c0 := h.st.cell 0
  have cd := h.ar.cell m
  rw [hx] at cd
  simp at c0
  have hlt : m < arr.size := by
    rcases Nat.lt_or_ge m arr.size with hlt | hge
    · exact hlt
    · rw [Array.getElem?_eq_none hge] at hx; cases hx
  have hn := h.hn
  have hs := h.hs
  have H := Lib.hid h; clear h hx
  have HM := Lib.hid hm; clear hm
  have b0 : (0 : Int) ≤ m := by omega
  have b1 : (m : Int) < arr.size := by omega
  go_enter Try.func75, Try.ntmps75
  go_wp2_with (go_at_call 84; refine (isI _ g d arr first n H.out _ _ HI.out).mono ?_; rintro e w' ⟨rfl, k, rfl⟩)
  go_quiet ((go_at_call 83; exact quiet_of1 (placeI _ g d arr first n (H.out.drewN _) _ m (by omega) (by omega) (by omega) HM.out)))
  go_wp2
  go_ret2
  exact ⟨rfl, _, World.drewN_drewN ..⟩

set_option maxHeartbeats 400000 in
theorem popI_no (w : World) (g d : Nat) (arr : Array Value) (first n : Nat) (h : RingI w g d arr first n) (hn : n = 0) :
    Calls Try.prog 76 #[.pointer (some ⟨g, 0, none⟩)] w fun e w' => e = .returned (.tuple #[(.int .i64 0), .bool false]) ∧ ∃ k, w' = w.drewN k := by
  have HI : Hid (¬ ((0 : Int) ≤ 0 ∧ (0 : Int) < n)) := Lib.hid (by omega)
  have H := Lib.hid h; clear h hn
  go_enter Try.func76, Try.ntmps76
  go_wp2_with (go_at_call 75; refine (atI_no _ g d arr first n H.out _ HI.out).mono ?_; rintro e w' ⟨rfl, k, rfl⟩)
  go_ret2
  exact ⟨rfl, _, rfl⟩

set_option maxHeartbeats 400000 in
theorem popI_yes (w : World) (g d : Nat) (arr : Array Value) (first n : Nat) (h : RingI w g d arr first n) (x : Int) (m : Nat) (hn : 0 < n) (hx : arr[first]? = some (.int .i64 x)) (hm : (first + 1) % arr.size = m) :
    Calls Try.prog 76 #[.pointer (some ⟨g, 0, none⟩)] w fun e w' => e = .returned (.tuple #[.int .i64 x, .bool true]) ∧
      RingI w' g d (arr.setIfInBounds first (.int .i64 0)) m (n - 1) ∧ Upd (fun k => k = g ∨ k = d) w w' := by
  have hle := h.hn
  have hs := h.hs
  have hl := h.hl (by omega)
  have HF : Hid (((first : Int) + 0) % arr.size = first) := Lib.hid (by rw [Int.add_zero]; exact Int.emod_eq_of_lt (by omega) (by omega))
  have HM : Hid (((first : Int) + 1) % arr.size = m) := Lib.hid (by rw [← hm]; simp)
  have hlt : m < arr.size := by rw [← hm]; exact Nat.mod_lt _ (by omega)
  clear hm
  have HX := Lib.hid hx; clear hx
  have hne := h.ne_
  have c0 := h.st.cell 0
  have c1 := h.st.cell 1
  simp at c0 c1
  have cd := h.ar.cell first
  rw [HX.out] at cd
  have fd := h.ar.frozen first
  have H := Lib.hid h; clear h
  have b0 : (0 : Int) ≤ first := by omega
  have b1 : (first : Int) < arr.size := by omega
  go_enter Try.func76, Try.ntmps76
  go_wp2_with (go_at_call 75; refine (atI_yes _ g d arr first n H.out _ first x (by omega) (by omega) HF.out HX.out).mono ?_; rintro e w' ⟨rfl, k, rfl⟩)
  go_region
  go_wp2_with fail
  have hW := H.out.stored (k + 1) first (.int .i64 0)
  have hU : Upd (fun k => k = g ∨ k = d) w ((w.drewN (k + 1)).setCell ⟨d, first, none⟩ (.int .i64 0)) := ((Upd.refl _ _).drewN _).setCell (fun _ => .inr rfl) _
  generalize (w.drewN (k + 1)).setCell ⟨d, first, none⟩ (.int .i64 0) = W at *
  clear c0 c1 cd fd
  have c1 := hW.st.cell 1
  have c2 := hW.st.cell 2
  have f1 := hW.st.frozen 1
  have f2 := hW.st.frozen 2
  simp at c1 c2
  have HW := Lib.hid hW; clear hW
  have HU := Lib.hid hU; clear hU
  refine (placeI _ g d _ first n HW.out _ m (by omega) (by omega) (by simp; omega) (by simpa using HM.out)).mono ?_
  rintro e w' ⟨rfl, k1, rfl⟩
  go_wp2
  go_ret2
  refine ⟨rfl, ?_, ?_⟩
  · have h2 := (HW.out.setF k1 m (by simpa using hlt)).setN 0 (n - 1) (by simp; omega)
    rw [show (((n - 1 : Nat)) : Int) = (n : Int) - 1 from by omega] at h2
    exact h2
  · exact ((HU.out.drewN _).setCell (fun _ => .inl rfl) _).setCell (fun _ => .inl rfl) _

set_option maxHeartbeats 400000 in
theorem lenI (w : World) (g d : Nat) (arr : Array Value) (first n : Nat) (h : RingI w g d arr first n) :
    Calls Try.prog 53 #[.pointer (some ⟨g, 0, none⟩)] w fun e w' => e = .returned (.int .i64 n) ∧ ∃ k, w' = w.drewN k := by
  have c2 := h.st.cell 2
  simp at c2
  clear h
  go_enter Try.func53, Try.ntmps53
  go_wp2
  go_ret
  exact ⟨rfl, 0, rfl⟩

theorem infoint : (Try.prog.info? 3).map (fun i => (i.zero, i.size, i.bytes)) = some (some (.int .i64 0), 1, 8) := by kernel_rfl

set_option maxHeartbeats 400000 in
theorem newI (w : World) (room : Int) (m : Nat) (hm : min (max room 0) 4096 = m) :
    Calls Try.prog 51 #[.int .i64 room] w fun e w' => ∃ g d, e = .returned (.pointer (some ⟨g, 0, none⟩)) ∧ w.heap.size ≤ g ∧ w.heap.size ≤ d ∧
      RingI w' g d (Array.replicate m (.int .i64 0)) 0 0 ∧ Below w.heap.size w w' := by
  obtain ⟨i0, hi, hz0, hz1, hz2⟩ := info_parts infoint
  have hle : m ≤ 4096 := by omega
  have HM := Lib.hid hm; clear hm
  go_enter Try.func51, Try.ntmps51
  go_wp2_with (at_make; refine wpList_make_full _ rfl _ _ _ rfl w.heap.size 3 i0 (.int .i64 0) 1 Try.underlying38 hi hz0 hz1 _ _ _ _ m rfl rfl HM.out HM.out (by rw [hz2]; omega) (by unfold maxLen; omega) (Nat.le_refl _) ?_; intro w1 hown hgrow)
  go_ret
  have hd := blk_of_own hown
  have hrep : (madeCells ((.int .i64 0) : Value).cells (m * 1)).toList.toArray = Array.replicate m (.int .i64 0) := by
    rw [show ((.int .i64 0) : Value).cells = #[(.int .i64 0)] from rfl, Nat.mul_one, toList_madeCells_one]
    simp
  rw [hrep] at hd
  have hB : Below w.heap.size w w1 := (Below.refl _ _).grown hgrow (Nat.le_refl _) (by simp)
  refine ⟨_, w.heap.size, rfl, hB.size, Nat.le_refl _, ⟨?_, hd.alloc _, Nat.zero_le _, Nat.zero_le _, fun h => h, by simpa using hle⟩, hB.alloc hB.size _⟩
  have := Blk.new w1 130 #[.slice (some ⟨w.heap.size, 0, none⟩) m m, .int .i64 0, .int .i64 0]
  simpa using this
end Go.Proofs.Ytcgefncddbbnlaa.Rg
