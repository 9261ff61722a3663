/-
  Ports: what is known; a nil receiver.
-/
import Derived.Test.YtnhgmommehjeoaaPortE
namespace Go.Proofs.Ytnhgmommehjeoaa
open Go.RowKit
attribute [local go_sem] max_ints min_ints

theorem numO (w : World) (k : Int) : Calls Try.prog 9 #[.int .i64 k] w fun e w' => e = .returned (.int .i64 k) ∧ ∃ m, w' = w.drewN m := by
  go_enter Try.func9, Try.ntmps9
  go_wp2_with fail
  go_returns
  exact ⟨rfl, 0, rfl⟩

theorem portNil (w : World) (ch : Int) : Calls Try.prog 21 #[.pointer none, .int .i64 ch] w fun e w' => e = .returned .nilIface ∧ ∃ k, w' = w.drewN k := by
  go_enter Try.func21, Try.ntmps21
  go_wp2_with fail
  go_returns
  exact ⟨rfl, 0, rfl⟩
theorem writeNil (w : World) (part ch v now : Int) : Calls Try.prog 10 #[.pointer none, .int .i64 part, .int .i64 ch, .int .i64 v, .int .i64 now] w fun e w' => e = .returned (.int .i64 1) ∧ ∃ k, w' = w.drewN k := by
  go_enter Try.func10, Try.ntmps10
  go_wp2_with fail
  refine (portNil _ ch).mono ?_
  rintro e w1 ⟨rfl, k1, rfl⟩
  go_wp2_with fail
  go_returns
  exact ⟨rfl, _, rfl⟩
theorem readNil (w : World) (part ch now : Int) : Calls Try.prog 11 #[.pointer none, .int .i64 part, .int .i64 ch, .int .i64 now] w fun e w' => e = .returned (.tuple #[.int .i64 0, .int .i64 0, .int .i64 1]) ∧ ∃ k, w' = w.drewN k := by
  go_enter Try.func11, Try.ntmps11
  go_wp2_with fail
  refine (portNil _ ch).mono ?_
  rintro e w1 ⟨rfl, k1, rfl⟩
  go_wp2_with fail
  go_returns
  exact ⟨rfl, _, rfl⟩
theorem waitNil (w : World) (ch : Int) : Calls Try.prog 12 #[.pointer none, .int .i64 ch] w fun e w' => e = .returned (.int .i64 0) ∧ ∃ k, w' = w.drewN k := by
  go_enter Try.func12, Try.ntmps12
  go_wp2_with fail
  refine (portNil _ ch).mono ?_
  rintro e w1 ⟨rfl, k1, rfl⟩
  go_wp2_with fail
  go_returns
  exact ⟨rfl, _, rfl⟩
theorem clearNil (w : World) (part : Int) : Calls Try.prog 14 #[.pointer none, .int .i64 part] w fun e w' => e = .returned (.tuple #[]) ∧ ∃ k, w' = w.drewN k := by
  go_enter Try.func14, Try.ntmps14
  go_wp2_with fail
  go_returns
  exact ⟨rfl, 0, rfl⟩

/-- The ports of one channel. -/
theorem SlR.one (w : World) (c : Ch) : SlR encC (w.alloc (.cells #[.bool c.q, .int .i64 c.f, .int .i64 c.t, .int .i64 c.sz] 27)) w.heap.size 27 4 (.slice (some ⟨w.heap.size, 0, none⟩) 1 1) [c] := by
  refine ⟨rfl, .inr ⟨w.heap.size, 0, 1, _, rfl, Nat.le_refl _, Blk.new w _ _, Nat.le_refl _, by unfold maxLen; omega, by simp, fun j u hu => ?_⟩⟩
  rw [Nat.zero_add]
  simpa [rws, encC] using hu

def kc : Ch := { q := true, f := 0, t := 1, sz := 1 }
def oneA (w : World) : World := w.alloc (.cells #[.bool kc.q, .int .i64 kc.f, .int .i64 kc.t, .int .i64 kc.sz] 27)

set_option maxRecDepth 100000 in
set_option maxHeartbeats 1600000 in
theorem knowsO (w : World) : Calls Try.prog 7 #[] w fun e w' => e = .returned (.bool true) ∧ Upd (fun _ => False) w w' := by
  have HN : Hid (∀ W, Calls Try.prog 8 #[.slice (some ⟨W.heap.size, 0, none⟩) 1 1] (oneA W) fun e w' => e = .returned (.pointer (some ⟨(oneA W).heap.size, 0, none⟩)) ∧ PortsS w' (oneA W).heap.size w'.heap.size (oneA W).heap.size [PM.new kc] ∧ Upd (fun _ => False) (oneA W) w') :=
    Lib.hid (fun W => portsNew (oneA W) W.heap.size _ [kc] (SlR.one W kc) (by decide))
  go_enter Try.func7, Try.ntmps7
  go_wp2_with fail
  refine (HN.out w).mono ?_
  rintro e w1 ⟨rfl, hS, hU⟩
  have U1 : Hid (Upd (fun k => w.heap.size ≤ k) w w1) := Lib.hid ((((Upd.refl (fun _ => False) w).alloc _).trans hU).mono (fun _ _ h => h.elim))
  have hb : w.heap.size ≤ (oneA w).heap.size := by unfold oneA; simp
  have HB := Lib.hid hb
  have S1 := Lib.hid hS
  clear hS hU hb
  generalize (oneA w).heap.size = P at *
  generalize w1.heap.size = B at *
  go_wp2_with fail
  refine (writeYes _ P B P _ S1.out 0 (PM.new kc) rfl (by decide) 5 0).mono ?_
  rintro e w2 ⟨rfl, hS, hU⟩
  have S2 : Hid (PortsS w2 P B P [{ c := kc, xs := [5], lost := 0, at_ := 0 }]) := Lib.hid hS
  have U2 := Lib.hid (U1.out.trans (hU.mono (fun k _ h => Nat.le_trans HB.out h.1)))
  clear hS hU
  go_wp2_with fail
  refine (writeYes _ P B P _ S2.out 0 _ rfl (by decide) 6 0).mono ?_
  rintro e w3 ⟨rfl, hS, hU⟩
  have S3 : Hid (PortsS w3 P B P [{ c := kc, xs := [5], lost := 1, at_ := 0 }]) := Lib.hid hS
  have U3 := Lib.hid (U2.out.trans (hU.mono (fun k _ h => Nat.le_trans HB.out h.1)))
  clear hS hU
  go_wp2_with fail
  refine (readYes _ P B P _ S3.out 0 _ rfl 0).mono ?_
  rintro e w4 ⟨he, hS, hU⟩
  have he' : e = .returned (.tuple #[.int .i64 5, .int .i64 1, .int .i64 0]) := he
  clear he
  subst he'
  have S4 : Hid (PortsS w4 P B P [{ c := kc, xs := [], lost := 0, at_ := 0 }]) := Lib.hid hS
  have U4 := Lib.hid (U3.out.trans (hU.mono (fun k _ h => Nat.le_trans HB.out h.1)))
  clear hS hU
  go_wp2_with fail
  refine (readYes _ P B P _ S4.out 0 _ rfl 0).mono ?_
  rintro e w5 ⟨he, hS, hU⟩
  have he' : e = .returned (.tuple #[.int .i64 0, .int .i64 0, .int .i64 6]) := he
  clear he
  subst he'
  have U5 := Lib.hid (U4.out.trans (hU.mono (fun k _ h => Nat.le_trans HB.out h.1)))
  clear hS hU
  go_wp2_with fail
  refine (numO _ 0).mono ?_
  rintro e w6 ⟨rfl, k6, rfl⟩
  go_wp2_with fail
  refine (numO _ 0).mono ?_
  rintro e w7 ⟨rfl, k7, rfl⟩
  go_wp2_with fail
  refine (numO _ 0).mono ?_
  rintro e w8 ⟨rfl, k8, rfl⟩
  go_wp2_with fail
  refine (numO _ 6).mono ?_
  rintro e w9 ⟨rfl, k9, rfl⟩
  go_wp2_with fail
  go_returns
  exact ⟨rfl, (U5.out.drewN _).mono (fun k hk h => by omega)⟩
end Go.Proofs.Ytnhgmommehjeoaa
