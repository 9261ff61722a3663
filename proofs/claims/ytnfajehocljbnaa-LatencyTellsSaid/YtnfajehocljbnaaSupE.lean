/-
  Nobody's supply; the statements' knows (layer 8).
-/
import Derived.Test.YtnfajehocljbnaaSupD
namespace Go.Proofs.Ytnfajehocljbnaa
open Go.RowKit
attribute [local go_sem] max_ints min_ints

theorem slW1 (w : World) (x : W3) : SlR encW (w.alloc (.cells #[.int .i64 x.1, .int .i64 x.2.1, .int .i64 x.2.2] 65)) w.heap.size 65 3 (.slice (some ⟨w.heap.size, 0, none⟩) 1 1) [x] := by
  unfold SlR Sl
  refine ⟨by simp [rws, encW], .inr ⟨_, 0, 1, _, rfl, Nat.le_refl _, Blk.new w _ _, Nat.le_refl _, by unfold maxLen; omega, by simp, fun j u hu => ?_⟩⟩
  rw [Nat.zero_add]
  simpa [rws, encW] using hu
theorem ks1 : rightB (10 : Nat) 1 [((2, 4, 0) : W3)] = true := by decide
theorem ks2 : WaitIs 1 [((2, 4, 0) : W3)] 0 10 1 8 true := .inr (.inr ⟨by decide, by decide, by decide, rfl, 8, rfl, by decide, by decide, by decide⟩)
theorem ks3 : leN 1 [((2, 4, 0) : W3)] 0 10 7 = 0 := by decide
theorem ks4 : leN 1 [((2, 4, 0) : W3)] 0 10 10 = 3 := by decide
theorem ks5 : atN 1 [((2, 4, 0) : W3)] 0 10 7 = 6 := by decide
theorem ks6 : cntO 1 [((2, 4, 0) : W3)] 0 10 = 3 := by decide
theorem WaitIs.eq {M : Int} {ws : List W3} {p : Int} {F : Nat} {work x y : Int} {b c : Bool} (h : WaitIs M ws p F work x b) (h' : WaitIs M ws p F work y c) : x = y ∧ b = c := by
  rcases h with ⟨h1, rfl, rfl⟩ | ⟨h1, h2, rfl, rfl⟩ | ⟨h1, h2, h3, rfl, k, rfl, h4, h5, h6⟩
  · rcases h' with ⟨_, rfl, rfl⟩ | ⟨g1, _, _, _⟩ | ⟨g1, _⟩
    · exact ⟨rfl, rfl⟩
    · omega
    · omega
  · rcases h' with ⟨g1, _, _⟩ | ⟨_, _, rfl, rfl⟩ | ⟨_, g2, g3, _⟩
    · omega
    · exact ⟨rfl, rfl⟩
    · rcases h2 with h2 | h2 <;> omega
  · rcases h' with ⟨g1, _, _⟩ | ⟨_, g2, _, _⟩ | ⟨_, _, _, rfl, k', rfl, _, g5, g6⟩
    · omega
    · rcases g2 with g2 | g2 <;> omega
    · refine ⟨?_, rfl⟩
      rcases Nat.lt_trichotomy k k' with h | h | h
      · have := g6 k h; omega
      · rw [h]
      · have := h6 k' h; omega

set_option maxRecDepth 100000 in
set_option maxHeartbeats 1600000 in
theorem knowsS (w : World) : Calls Try.prog 10 #[] w fun e w' => e = .returned (.bool true) ∧ Upd (fun _ => False) w w' := by
  go_enter Try.func10, Try.ntmps10
  go_wp2_with fail
  refine (newYes _ w.heap.size 10 1 _ [(2, 4, 0)] (slW1 w (2, 4, 0)) ks1).mono ?_
  rintro e w1 ⟨g, rfl, hg, hT, hU⟩
  obtain ⟨base, hbase⟩ : ∃ base, TabS w1 base g 10 1 [(2, 4, 0)] := ⟨_, hT⟩
  have T1 := Lib.hid hbase
  have U1 := Lib.hid (((Upd.refl (fun _ => False) w).alloc _).trans hU)
  clear hg hT hU hbase
  go_wp2_with fail
  refine (ofYes _ base g 10 1 _ T1.out 0 (by decide) (by decide)).mono ?_
  rintro e w2 ⟨s, rfl, hS, hU⟩
  have S2 := Lib.hid hS
  have U2 := Lib.hid (U1.out.trans hU)
  clear hU hS
  go_wp2_with fail
  refine (waitS _ base g 10 1 _ 0 s S2.out 1).mono ?_
  rintro e w3 ⟨x, b, rfl, hW, hU⟩
  obtain ⟨hx, hb⟩ := hW.eq ks2
  subst hx hb
  have S3 := Lib.hid (S2.out.still hU)
  have U3 := Lib.hid (U2.out.trans hU)
  clear hU hW
  go_wp2_with fail
  refine (rateS _ base g 10 1 _ 0 s S3.out 3 ks6).mono ?_
  rintro e w4 ⟨rfl, k4, rfl⟩
  go_wp2_with fail
  refine (leastS _ base g 10 1 _ 0 s (S3.out.drewN _) 7 7 (by decide) 0 ks3).mono ?_
  rintro e w5 ⟨rfl, k5, rfl⟩
  go_wp2_with fail
  refine (leastS _ base g 10 1 _ 0 s (S3.out.drewN _) 10 10 (by decide) 3 ks4).mono ?_
  rintro e w6 ⟨rfl, k6, rfl⟩
  go_wp2_with fail
  refine (worstS _ base g 10 1 _ 0 s (S3.out.drewN _) 7 7 (by decide)).mono ?_
  rw [ks5]
  rintro e w7 ⟨rfl, hU⟩
  have U7 := Lib.hid ((U3.out.drewN _).trans hU)
  clear hU
  go_wp2_with fail
  go_returns
  exact ⟨rfl, U7.out⟩

/-- Nobody's: nil, or empty. -/
def NoS (w : World) (v : Value) : Prop := v = .pointer none ∨ ∃ s, v = .pointer (some ⟨s, 0, none⟩) ∧ w.cell? ⟨s, 0, none⟩ = some (.pointer none)

set_option maxHeartbeats 400000 in
theorem noneNo (w : World) (v : Value) (h : NoS w v) : Calls Try.prog 33 #[v] w fun e w' => e = .returned (.bool true) ∧ w' = w := by
  rcases h with rfl | ⟨s, rfl, h⟩
  · go_enter Try.func33, Try.ntmps33
    go_wp2_with fail
    go_returns
    exact ⟨rfl, by first | rfl | trivial⟩
  · go_enter Try.func33, Try.ntmps33
    go_wp2_with fail
    go_returns
    exact ⟨rfl, by first | rfl | trivial⟩

set_option maxHeartbeats 400000 in
theorem leastNo (w : World) (v : Value) (h : NoS w v) (n : Int) : Calls Try.prog 13 #[v, .int .i64 n] w fun e w' => e = .returned (.int .i64 0) ∧ w' = w := by
  have H := Lib.hid h
  have hv : ∃ a, v = .pointer a := by rcases h with rfl | ⟨s, rfl, _⟩ <;> exact ⟨_, rfl⟩
  obtain ⟨a, rfl⟩ := hv
  clear h
  go_enter Try.func13, Try.ntmps13
  go_wp2_with fail
  refine (noneNo _ _ H.out).mono ?_
  rintro e w1 ⟨rfl, rfl⟩
  go_wp2_with fail
  go_returns
  exact ⟨rfl, by first | rfl | trivial⟩

set_option maxHeartbeats 400000 in
theorem worstNo (w : World) (v : Value) (h : NoS w v) (n : Int) : Calls Try.prog 15 #[v, .int .i64 n] w fun e w' => e = .returned (.int .i64 0) ∧ w' = w := by
  have H := Lib.hid h
  have hv : ∃ a, v = .pointer a := by rcases h with rfl | ⟨s, rfl, _⟩ <;> exact ⟨_, rfl⟩
  obtain ⟨a, rfl⟩ := hv
  clear h
  go_enter Try.func15, Try.ntmps15
  go_wp2_with fail
  refine (noneNo _ _ H.out).mono ?_
  rintro e w1 ⟨rfl, rfl⟩
  go_wp2_with fail
  go_returns
  exact ⟨rfl, by first | rfl | trivial⟩

set_option maxHeartbeats 400000 in
theorem rateNo (w : World) (v : Value) (h : NoS w v) : Calls Try.prog 18 #[v] w fun e w' => e = .returned (.tuple #[.int .i64 0, .int .i64 0]) ∧ w' = w := by
  have H := Lib.hid h
  have hv : ∃ a, v = .pointer a := by rcases h with rfl | ⟨s, rfl, _⟩ <;> exact ⟨_, rfl⟩
  obtain ⟨a, rfl⟩ := hv
  clear h
  go_enter Try.func18, Try.ntmps18
  go_wp2_with fail
  refine (noneNo _ _ H.out).mono ?_
  rintro e w1 ⟨rfl, rfl⟩
  go_wp2_with fail
  go_returns
  exact ⟨rfl, by first | rfl | trivial⟩

set_option maxHeartbeats 400000 in
theorem waitNo (w : World) (v : Value) (h : NoS w v) (n : Int) : Calls Try.prog 17 #[v, .int .i64 n] w fun e w' => e = .returned (.tuple #[.int .i64 0, .bool false]) ∧ Upd (fun _ => False) w w' := by
  have hv : ∃ a, v = .pointer a := by rcases h with rfl | ⟨s, rfl, _⟩ <;> exact ⟨_, rfl⟩
  obtain ⟨a, rfl⟩ := hv
  have hU : Upd (fun _ => False) w ((w.alloc (.cells #[.pointer a] 27)).alloc (.cells #[.int .i64 n] 3)) := ((Upd.refl _ w).alloc _).alloc _
  have H : Hid (NoS ((w.alloc (.cells #[.pointer a] 27)).alloc (.cells #[.int .i64 n] 3)) (.pointer a)) := Lib.hid (by
    rcases h with h | ⟨s, h, h1⟩
    · exact .inl h
    · refine .inr ⟨s, h, ?_⟩
      have hs : s < w.heap.size := block_lt_of_cell h1
      exact (hU.cell (p := ⟨s, 0, none⟩) hs (fun h => h)).trans h1)
  have HU := Lib.hid hU
  clear h hU
  have b1 : ((w.alloc (.cells #[.pointer a] 27)).alloc (.cells #[.int .i64 n] 3)).cell? ⟨w.heap.size, 0, none⟩ = some (.pointer a) := ((Blk.new w 27 #[.pointer a]).alloc _).cell 0
  go_enter Try.func17, Try.ntmps17
  go_wp2_with fail
  refine (noneNo _ _ H.out).mono ?_
  rintro e w1 ⟨rfl, rfl⟩
  go_wp2_with fail
  go_returns
  exact ⟨rfl, HU.out⟩

/-- No table: nil, or empty. -/
def NoT (w : World) (v : Value) : Prop := v = .pointer none ∨ ∃ g, v = .pointer (some ⟨g, 0, none⟩) ∧ w.cell? ⟨g, 2, none⟩ = some (.int .i64 0)

set_option maxHeartbeats 400000 in
theorem noneTNo (w : World) (v : Value) (h : NoT w v) : Calls Try.prog 49 #[v] w fun e w' => e = .returned (.bool true) ∧ w' = w := by
  rcases h with rfl | ⟨s, rfl, h⟩
  · go_enter Try.func49, Try.ntmps49
    go_wp2_with fail
    go_returns
    exact ⟨rfl, by first | rfl | trivial⟩
  · go_enter Try.func49, Try.ntmps49
    go_wp2_with fail
    go_returns
    exact ⟨rfl, by first | rfl | trivial⟩

set_option maxHeartbeats 400000 in
theorem frameNo (w : World) (v : Value) (h : NoT w v) : Calls Try.prog 31 #[v] w fun e w' => e = .returned (.int .i64 0) ∧ w' = w := by
  have H := Lib.hid h
  have hv : ∃ a, v = .pointer a := by rcases h with rfl | ⟨s, rfl, _⟩ <;> exact ⟨_, rfl⟩
  obtain ⟨a, rfl⟩ := hv
  clear h
  go_enter Try.func31, Try.ntmps31
  go_wp2_with fail
  refine (noneTNo _ _ H.out).mono ?_
  rintro e w1 ⟨rfl, rfl⟩
  go_wp2_with fail
  go_returns
  exact ⟨rfl, by first | rfl | trivial⟩

set_option maxHeartbeats 400000 in
theorem ofNo (w : World) (v : Value) (h : NoT w v) (p : Int) : Calls Try.prog 12 #[v, .int .i64 p] w fun e w' => e = .returned (.pointer none) ∧ ∃ k, w' = w.drewN k := by
  have H := Lib.hid h
  have hv : ∃ a, v = .pointer a := by rcases h with rfl | ⟨s, rfl, _⟩ <;> exact ⟨_, rfl⟩
  obtain ⟨a, rfl⟩ := hv
  clear h
  go_enter Try.func12, Try.ntmps12
  go_wp2_with fail
  refine (frameNo _ _ H.out).mono ?_
  rintro e w1 ⟨rfl, rfl⟩
  go_wp2_with fail
  go_returns
  exact ⟨rfl, 0, rfl⟩

set_option maxHeartbeats 800000 in
theorem ofOut (w : World) (base g F : Nat) (M : Int) (ws : List W3) (h : TabS w base g F M ws) (p : Int) (hp : ¬ (0 ≤ p ∧ p < 6)) : Calls Try.prog 12 #[.pointer (some ⟨g, 0, none⟩), .int .i64 p] w fun e w' => e = .returned (.pointer none) ∧ ∃ k, w' = w.drewN k := by
  have hF := h.right.1
  have H := Lib.hid h
  have d1 : ((F : Int) == 0) = false := beq_eq_false_iff_ne.2 (by omega)
  have d1' : ¬ F = 0 := by omega
  clear h
  by_cases h0 : 0 ≤ p
  · have d2 : decide (p < 0) = false := decide_eq_false (by omega)
    have d3 : decide (6 ≤ p) = true := decide_eq_true (by omega)
    go_enter Try.func12, Try.ntmps12
    go_wp2_with fail
    refine (frameT _ base g F M ws H.out).mono ?_
    rintro e w1 ⟨rfl, k1, rfl⟩
    go_wp2_with fail
    go_returns
    exact ⟨rfl, k1, rfl⟩
  · have d2 : decide (p < 0) = true := decide_eq_true (by omega)
    go_enter Try.func12, Try.ntmps12
    go_wp2_with fail
    refine (frameT _ base g F M ws H.out).mono ?_
    rintro e w1 ⟨rfl, k1, rfl⟩
    go_wp2_with fail
    go_returns
    exact ⟨rfl, k1, rfl⟩
end Go.Proofs.Ytnfajehocljbnaa
