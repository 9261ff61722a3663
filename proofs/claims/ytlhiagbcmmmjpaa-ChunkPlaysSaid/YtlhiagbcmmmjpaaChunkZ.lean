/-
  chunk: what must come, and the law of no budget.
-/
import Derived.Test.YtlhiagbcmmmjpaaChunkK
import Derived.Test.YtlhiagbcmmmjpaaChunkN
import Derived.Test.YtlhiagbcmmmjpaaRefillK
namespace Go.Proofs.Ytlhiagbcmmmjpaa
open Go.RowKit

set_option maxRecDepth 100000 in
set_option maxHeartbeats 3200000 in
theorem knows17 (w : World) : Calls Try.prog 22 #[] w fun e w' => e = .returned (.bool true) ∧ Below w.heap.size w w' := by
  have F0 := Lib.hid (FineC.new false 3 10 (by omega) (by omega) (by omega))
  have F1 := Lib.hid (F0.out.go 5 (by omega) (by omega) true)
  have F2 := Lib.hid F1.out.use
  go_enter Try.func22, Try.ntmps22
  go_wp2_with fail
  refine (newC_yes _ w.heap.size (Nat.le_refl _) false 3 10 (by decide)).mono ?_
  rintro e w1 ⟨g, rfl, hg, hb, hU⟩
  have B1 := Lib.hid hb; have V1 := Lib.hid (Tu.refl w.heap.size tsC w |>.still hU)
  clear hb hU
  go_wp2_with fail
  refine (goC _ w.heap.size g _ B1.out V1.out.size F0.out 5 true).mono ?_
  rintro e w2 ⟨rfl, hb, hT⟩
  have B2 := Lib.hid hb; have V2 := Lib.hid (V1.out.trans hT)
  clear hb hT
  go_wp2_with fail
  refine (useC _ w.heap.size g _ B2.out V2.out.size F1.out true (by decide)).mono ?_
  rintro e w3 ⟨rfl, hb, hT⟩
  have B3 := Lib.hid hb; have V3 := Lib.hid (V2.out.trans hT)
  clear hb hT
  go_wp2_with fail
  refine (dueC1 _ w.heap.size g _ B3.out F2.out (5, 2, 1) [] (by decide)).mono ?_
  rintro e w4 ⟨rfl, k4, rfl⟩
  go_wp2_with fail
  refine (doneC _ w.heap.size g _ (B3.out.drewN _) V3.out.size F2.out).mono ?_
  rintro e w5 ⟨rfl, hb, hT⟩
  have B5 := Lib.hid hb; have V5 := Lib.hid ((V3.out.drewN k4).trans (hT.mono (Nat.le_refl _) tsO_sub))
  clear hb hT
  go_wp2_with fail
  refine (backsC _ w.heap.size g _ B5.out (by decide) (by decide)).mono ?_
  rintro e w6 ⟨v, rfl, hv, hU⟩
  have B6 := Lib.hid (B5.out.still hU); have V6 := Lib.hid (V5.out.still hU)
  have hv' : SlR encB w6 w5.heap.size 65 2 v [(15, 1)] := hv
  obtain ⟨b, off, cap, rfl, hbb, hbw, _, _⟩ := hv'.form (by simp)
  have d0 : w6.cell? ⟨b, off, none⟩ = some (.int .i64 15) := hv'.cell encB_len 0 _ rfl 0 _ rfl
  have d1 : w6.cell? ⟨b, off + 1, none⟩ = some (.int .i64 1) := hv'.cell encB_len 0 _ rfl 1 _ rfl
  clear hv hv' hU
  have D0 := Lib.hid d0; have D1 := Lib.hid d1
  clear d0 d1
  go_wp2_with fail
  refine (freeC _ w.heap.size g _ B6.out (by decide)).mono ?_
  rintro e w7 ⟨rfl, k7, rfl⟩
  have d0 : (w6.drewN k7).cell? ⟨b, off, none⟩ = some (.int .i64 15) := D0.out
  have d1 : (w6.drewN k7).cell? ⟨b, off + 1, none⟩ = some (.int .i64 1) := D1.out
  have hfree : (St17.done (St17.use (St17.go (St17.new false 3 10) 5 true))).p.free = 2 := by decide
  rw [hfree]
  have V7 := Lib.hid (V6.out.drewN k7)
  clear hfree D0 D1
  generalize w6.drewN k7 = W at *
  go_wp2_with fail
  go_returns
  exact ⟨by simp, V7.out.below (Below.refl _ _) (Nat.le_refl _)⟩

set_option maxRecDepth 100000 in
set_option maxHeartbeats 3200000 in
theorem chunkNil_any (w : World) (now : Int) (_ : (Lit.int .i64 now).wf = true) :
    Calls Try.prog 8 #[.int .i64 now] w fun e w' => e = .returned (.bool true) ∧ Below w.heap.size w w' := by
  go_enter Try.func8, Try.ntmps8
  go_wp2_with fail
  go_loopw [3, 4] (fun vb vi wr => ∃ i : Nat, i ≤ 2 ∧ vi = .int .i64 i ∧ Nought17 wr vb ∧ Below w.heap.size w wr) (fun _ vi _ => 2 - (intOf vi).toNat)
  case atStart => exact ⟨0, by omega, rfl, .inl rfl, Below.refl _ _⟩
  case round =>
    obtain ⟨i, hi, rfl, hN, hB⟩ := hrel
    by_cases hlt : i < 2
    · have HB := Lib.hid hB; clear hB
      have HN := Lib.hid hN; clear hN
      have e0 : decide ((i : Int) < 2) = true := decide_eq_true (by omega)
      go_wp2_with fail
      refine (go17 _ _ HN.out now true).mono ?_
      rintro e w1 ⟨rfl, k1, rfl⟩
      go_wp2_with fail
      refine (done17 _ _ (HN.out.drewN _)).mono ?_
      rintro e w2 ⟨rfl, k2, rfl⟩
      go_wp2_with fail
      refine (stop17 _ _ (HN.out.drewN _)).mono ?_
      rintro e w3 ⟨rfl, k3, rfl⟩
      go_wp2_with fail
      refine (resume17 _ _ (HN.out.drewN _)).mono ?_
      rintro e w4 ⟨rfl, k4, rfl⟩
      go_wp2_with fail
      refine (reset17 _ _ (HN.out.drewN _)).mono ?_
      rintro e w5 ⟨rfl, k5, rfl⟩
      go_wp2_with fail
      refine (due17 _ _ (HN.out.drewN _)).mono ?_
      rintro e w6 ⟨rfl, k6, rfl⟩
      go_wp2_with fail
      refine (use17 _ _ (HN.out.drewN _)).mono ?_
      rintro e w7 ⟨rfl, k7, rfl⟩
      go_wp2_with fail
      refine (free17 _ _ (HN.out.drewN _)).mono ?_
      rintro e w8 ⟨rfl, k8, rfl⟩
      go_wp2_with fail
      refine (live17 _ _ (HN.out.drewN _)).mono ?_
      rintro e w9 ⟨rfl, k9, rfl⟩
      go_wp2_with fail
      refine (backs17 _ _ (HN.out.drewN _)).mono ?_
      rintro e w9 ⟨rfl, k10, rfl⟩
      go_wp2_with fail
      go_roundw
      case rel => exact ⟨i + 1, by omega, by go_num, .inr ⟨_, rfl, Blk.new _ _ _⟩, (below_drewN HB.out _).alloc HB.out.size _⟩
      case measure => simp [intOf]; omega
    · have HB := Lib.hid hB; clear hB
      have e0 : decide ((i : Int) < 2) = false := decide_eq_false (by omega)
      clear hN
      go_wp2_with fail
      refine (knows17 _).mono ?_
      rintro e w1 ⟨rfl, hB1⟩
      have HB1 := Lib.hid (chn HB.out hB1); clear hB1
      go_wp2_with fail
      refine (newC_no _ false 0 0 (by decide)).mono ?_
      rintro e w2 ⟨rfl, hU2⟩
      have HB2 := Lib.hid (Below.upd HB1.out hU2 HB1.out.size (fun _ h => h.elim)); clear hU2
      go_wp2_with fail
      go_returns
      exact ⟨rfl, HB2.out⟩
end Go.Proofs.Ytlhiagbcmmmjpaa
