/-
  WheelNil.
-/
import Derived.Test.YtcljgejalacccaaWhK
namespace Go.Proofs.Ytcljgejalacccaa
open Go.RowKit
attribute [local go_sem] max_ints min_ints

def zeroW : Array Value := ((newL 256 256 (.int .i64 0)).set 514 (.bool false)).toArray
theorem builtZ : Try.prog.built 50 [] = some zeroW := by kernel_rfl
theorem zeroW_bad (w : World) : ∀ w', Upd (fun _ => False) (w.alloc (.cells zeroW 50)) w' → Bad w' (some ⟨w.heap.size, 0, none⟩) := fun w' hu => by
  have hB : Blk (w.alloc (.cells zeroW 50)) w.heap.size 50 zeroW := Blk.new w _ _
  refine .inr ⟨_, rfl, ?_⟩
  rw [(hB.upd hu (fun h => h)).cell 514]
  unfold zeroW
  rw [List.getElem?_toArray, List.getElem?_set_self (by rw [(newL_at 256 256 _).2.2.2.2.2]; decide)]

set_option maxRecDepth 100000 in
set_option maxHeartbeats 3200000 in
theorem wheelNil_main (w : World) (x : Int × Int × Int) : Calls Try.prog 6 #[.agg #[.int .i64 x.1, .int .i64 x.2.1, .int .i64 x.2.2]] w fun e w' => e = .returned (.bool true) ∧ Upd (fun _ => False) w w' := by
  obtain ⟨x0, x1, x2⟩ := x
  dsimp only
  have hzz := builtZ
  go_enter Try.func6, Try.ntmps6
  go_wp2_with fail
  have BA := Lib.hid (Blk.new w 29 #[.int .i64 x0, .int .i64 x1, .int .i64 x2])
  have U0 := Lib.hid ((Upd.refl (fun _ => False) w).alloc (.cells #[.int .i64 x0, .int .i64 x1, .int .i64 x2] 29))
  generalize hB : w.heap.size = B at *
  clear hB
  have HZ := Lib.hid hzz
  clear hzz
  go_loopw [3, 4] (fun v3 v4 wr => ∃ (i : Nat) (p : Option Addr), i ≤ 2 ∧ v4 = .int .i64 i ∧ v3 = .pointer p ∧ (∀ w', Upd (fun _ => False) wr w' → Bad w' p) ∧ Blk wr B 29 #[.int .i64 x0, .int .i64 x1, .int .i64 x2] ∧ Upd (fun _ => False) w wr) (fun _ v4 _ => 2 - (intOf v4).toNat)
  case atStart => exact ⟨0, none, by omega, rfl, rfl, fun _ _ => .inl rfl, BA.out, U0.out⟩
  case round =>
    obtain ⟨i, p, hi, rfl, rfl, hb, hBk, hU⟩ := hrel
    have HBad := Lib.hid hb; have HBk := Lib.hid hBk; have HU := Lib.hid hU
    clear hb hBk hU
    have cells : ∀ w', Upd (fun _ => False) wr w' → w'.cell? ⟨B, 1, none⟩ = some (.int .i64 x1) ∧ w'.cell? ⟨B, 2, none⟩ = some (.int .i64 x2) := fun w' hu => ⟨(HBk.out.upd hu (fun h => h)).cell 1, (HBk.out.upd hu (fun h => h)).cell 2⟩
    have HCells := Lib.hid cells
    obtain ⟨c1, c2⟩ := cells wr (Upd.refl _ _)
    clear cells
    by_cases hlt : i < 2
    · have d0 : decide ((i : Int) < 2) = true := decide_eq_true (by omega)
      go_wp2_with fail
      refine (whenBad _ p (HBad.out _ (Upd.refl _ _)) x1).mono ?_
      rintro e w1 ⟨he, k1, rfl⟩
      have he' : e = .returned (.tuple #[.int .i64 0, .bool false]) := he
      clear he
      subst he'
      go_wp2_with fail
      refine (setBad _ p (HBad.out _ ((Upd.refl _ wr).drewN _)) x1 x2).mono ?_
      rintro e w2 ⟨rfl, k2, rfl⟩
      go_wp2_with fail
      refine (numW _ 1).mono ?_
      rintro e w3 ⟨rfl, k3, rfl⟩
      go_wp2_with fail
      refine (cancelBad _ p (fun w' hu => HBad.out w' (((Upd.refl _ wr).drewN _).trans hu)) x1).mono ?_
      rintro e w4 ⟨rfl, hu4⟩
      have U4 : Hid (Upd (fun _ => False) wr w4) := Lib.hid (((Upd.refl _ wr).drewN _).trans hu4)
      clear hu4
      go_wp2_with fail
      refine (goBad _ p (fun w' hu => HBad.out w' (U4.out.trans hu))).mono ?_
      rintro e w5 ⟨rfl, hu5⟩
      have U5 : Hid (Upd (fun _ => False) wr w5) := Lib.hid (U4.out.trans hu5)
      clear hu5
      go_wp2_with fail
      refine (nowBad _ p (HBad.out _ U5.out)).mono ?_
      rintro e w6 ⟨rfl, k6, rfl⟩
      go_wp2_with fail
      refine (lenBad _ p (HBad.out _ (U5.out.drewN _))).mono ?_
      rintro e w7 ⟨rfl, k7, rfl⟩
      have U7 : Hid (Upd (fun _ => False) wr (w5.drewN (k6 + k7))) := Lib.hid (U5.out.drewN _)
      go_wp2_with (
        refine wpList_build rfl 50 _ rfl (by kernel_rfl) ?_
        have hb := HZ.out
        simp only [Act.put, List.map_toArray, List.map_nil]
        rw [hb, Option.getD_some]
        clear hb)
      go_roundw
      case rel => exact ⟨i + 1, _, by omega, by go_num, rfl, zeroW_bad _, (HBk.out.upd U7.out (fun h => h)).alloc _, (HU.out.trans U7.out).alloc _⟩
      case measure => simp [intOf]; omega
    · have hie : i = 2 := by omega
      subst hie
      go_wp2_with fail
      refine (knowsW _).mono ?_
      rintro e w1 ⟨rfl, hu⟩
      go_wp2_with fail
      go_returns
      exact ⟨rfl, HU.out.trans hu⟩
theorem wheelNil_any (w : World) (x : Nat → Int) (_ : ∀ k, k < 3 → (Lit.int .i64 (x k)).wf = true) : Calls Try.prog 6 #[.agg #[.int .i64 (x 0), .int .i64 (x 1), .int .i64 (x 2)]] w fun e w' => e = .returned (.bool true) ∧ Below w.heap.size w w' :=
  (wheelNil_main w (x 0, x 1, x 2)).mono (fun _ _ ⟨h1, h2⟩ => ⟨h1, h2.below (Nat.le_refl _) (fun _ h => h.elim)⟩)
end Go.Proofs.Ytcljgejalacccaa
