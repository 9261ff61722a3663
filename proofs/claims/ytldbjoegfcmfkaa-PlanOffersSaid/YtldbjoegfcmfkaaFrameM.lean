/-
  The walk of the statements' knows (layer 4).
-/
import Derived.Test.YtldbjoegfcmfkaaFrameL
namespace Go.Proofs.Ytldbjoegfcmfkaa
open Go.RowKit
attribute [local go_sem] max_ints min_ints

theorem kw1 : rightB (10 : Nat) 1 [((2, 4, 0) : W3)] = true := by decide
theorem kw2 : ownR 1 (13 % (10 : Nat)) [((2, 4, 0) : W3)] = (0, 2) := by decide
theorem kw3 : ownR 1 (2 % (10 : Nat)) [((2, 4, 0) : W3)] = (0, 1) := by decide
theorem kw4 : NextIs 1 [((2, 4, 0) : W3)] 0 10 6 13 true := .inl ⟨7, by decide, by decide, by decide, by decide, rfl⟩
theorem kw5 : cntO 1 [((2, 4, 0) : W3)] 0 10 = 3 := by decide
theorem kw6 : cntF 1 [((2, 4, 0) : W3)] 0 (10 : Nat) 0 20 = 6 := by decide
theorem slW1 (w : World) (x : W3) : SlR encW (w.alloc (.cells #[.int .i64 x.1, .int .i64 x.2.1, .int .i64 x.2.2] 39)) w.heap.size 39 3 (.slice (some ⟨w.heap.size, 0, none⟩) 1 1) [x] := by
  unfold SlR Sl
  refine ⟨by simp [rws, encW], .inr ⟨_, 0, 1, _, rfl, Nat.le_refl _, Blk.new w _ _, Nat.le_refl _, by unfold maxLen; omega, by simp, fun j u hu => ?_⟩⟩
  rw [Nat.zero_add]
  simpa [rws, encW] using hu

set_option maxRecDepth 100000 in
set_option maxHeartbeats 1600000 in
theorem knowsF (w : World) : Calls Try.prog 22 #[] w fun e w' => e = .returned (.bool true) ∧ Upd (fun _ => False) w w' := by
  go_enter Try.func22, Try.ntmps22
  go_wp2_with fail
  refine (newYes _ w.heap.size 10 1 _ [(2, 4, 0)] (slW1 w (2, 4, 0)) kw1).mono ?_
  rintro e w1 ⟨g, rfl, hg, hT, hU⟩
  obtain ⟨base, hbase⟩ : ∃ base, TabS w1 base g 10 1 [(2, 4, 0)] := ⟨_, hT⟩
  have T1 := Lib.hid hbase
  have U1 := Lib.hid (((Upd.refl (fun _ => False) w).alloc _).trans hU)
  clear hg hT hU hbase
  go_wp2_with fail
  refine (ownerT _ base g 10 1 _ T1.out 13).mono ?_
  rintro e w2 ⟨rfl, hU⟩
  rw [kw2]
  have T2 := Lib.hid (T1.out.still hU)
  have U2 := Lib.hid (U1.out.trans hU)
  clear hU
  go_wp2_with fail
  refine (ownerT _ base g 10 1 _ T2.out 2).mono ?_
  rintro e w3 ⟨rfl, hU⟩
  rw [kw3]
  have T3 := Lib.hid (T2.out.still hU)
  have U3 := Lib.hid (U2.out.trans hU)
  clear hU
  go_wp2_with fail
  refine (nextT _ base g 10 1 _ T3.out 0 6 6 (by decide) (by decide)).mono ?_
  rintro e w4 ⟨x, b, rfl, hN, hU⟩
  obtain ⟨hx, hb⟩ := hN.eq kw4
  subst hx hb
  have T4 := Lib.hid (T3.out.still hU)
  have U4 := Lib.hid (U3.out.trans hU)
  clear hU hN
  go_wp2_with fail
  refine (offeredTc _ base g 10 1 _ T4.out 0 3 kw5).mono ?_
  rintro e w5 ⟨rfl, k5, rfl⟩
  have T5 := Lib.hid (T4.out.drewN k5)
  go_wp2_with fail
  refine (countT _ base g 10 1 _ T5.out 0 0 20 20 (by decide)).mono ?_
  rintro e w6 ⟨rfl, k6, rfl⟩
  rw [kw6]
  have T6 := Lib.hid (T5.out.drewN k6)
  go_wp2_with fail
  refine (frameT _ base g 10 1 _ (by simpa using T6.out)).mono ?_
  rintro e w7 ⟨rfl, k7, rfl⟩
  go_wp2_with fail
  go_returns
  exact ⟨rfl, U4.out.drewN _⟩
end Go.Proofs.Ytldbjoegfcmfkaa
