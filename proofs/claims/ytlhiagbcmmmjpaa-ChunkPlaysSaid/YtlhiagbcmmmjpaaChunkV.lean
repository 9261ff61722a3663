/-
  ChunkPlays: the walk.
-/
import Derived.Test.YtlhiagbcmmmjpaaChunkU
import Derived.Deep.CutBlock
namespace Go.Proofs.Ytlhiagbcmmmjpaa
open Go.RowKit
attribute [local go_sem] max_ints min_ints

def tsP : List TypeId := tsC ++ tsR
theorem tsP_C : ∀ t, t ∈ tsC → t ∈ tsP := by decide
theorem tsP_R : ∀ t, t ∈ tsR → t ∈ tsP := by decide
theorem CSt.tu {w w' : World} {base g : Nat} {s : St17} {ts : List TypeId} (h : CSt w base g s) (hu : Tu base ts w w') (h1 : 69 ∉ ts) (h2 : 61 ∉ ts) (h3 : 65 ∉ ts) : CSt w' base g s :=
  let ⟨L, K, h⟩ := h; ⟨L, K, h.b.tu hu h1, Sl.tu h.s hu h2, Sl.tu h.k hu h3, h.hg⟩
/-- Both budgets. -/
structure Both (w wx : World) (g r : Nat) (s : St17) : Prop where
  c : CSt wx w.heap.size g s
  r : RSt wx w.heap.size r s
  f : FineC s
  t : Tu w.heap.size tsP w wx

set_option maxRecDepth 100000 in
set_option maxHeartbeats 12800000 in
theorem chunkPlays_any (w : World) (s : Bool × Int × Int) (_ : (Lit.int .i64 s.2.1).wf = true ∧ (Lit.int .i64 s.2.2).wf = true) (A : Option Addr) (len cap : Nat) (ks : Nat → Nat → Int) (hw : ∀ k j, k < len → j < 2 → (Lit.int .i64 (ks k j)).wf = true) (hc : Row2 w A len ks) :
    Calls Try.prog 6 #[.agg #[.bool s.1, .int .i64 s.2.1, .int .i64 s.2.2], .slice A len cap] w fun e w' => e = .returned (.bool true) ∧ Below w.heap.size w w' := by
  have HC := Lib.hid hc; clear hc
  have HWF := Lib.hid hw; clear hw
  generalize s.1 = rf
  generalize s.2.1 = C at *
  generalize s.2.2 = T at *
  have HX := Lib.hid (Blk.new w 23 #[.bool rf, .int .i64 C, .int .i64 T])
  by_cases hl : 150 < len
  · have e0 : decide ((150 : Int) < (len : Int)) = true := decide_eq_true (by omega)
    go_enter Try.func6, Try.ntmps6
    go_wp2_with fail
    refine (knows17 _).mono ?_
    rintro e w2 ⟨rfl, hB2⟩
    have V2 := Lib.hid (((Below.refl w.heap.size w).alloc (Nat.le_refl _) (.cells #[.bool rf, .int .i64 C, .int .i64 T] 23)).trans (hB2.mono (by simp))); clear hB2
    go_wp2_with fail
    go_returns
    exact ⟨rfl, V2.out⟩
  · have e0 : decide ((150 : Int) < (len : Int)) = false := decide_eq_false (by omega)
    have hlen : len ≤ 150 := by omega
    clear hl
    obtain ⟨t, ht⟩ : ∃ t, okS C T = t := ⟨_, rfl⟩
    have HT := Lib.hid ht; clear ht
    cases t
    · go_enter Try.func6, Try.ntmps6
      go_wp2_with fail
      refine (knows17 _).mono ?_
      rintro e w1 ⟨rfl, hB1⟩
      have V1 := Lib.hid (((Below.refl w.heap.size w).alloc (Nat.le_refl _) (.cells #[.bool rf, .int .i64 C, .int .i64 T] 23)).trans (hB1.mono (by simp)))
      have X1 := Lib.hid (HX.out.below hB1 HX.out.lt)
      have x0 : w1.cell? ⟨w.heap.size, 0, none⟩ = some (.bool rf) := X1.out.cell 0
      have x1 : w1.cell? ⟨w.heap.size, 1, none⟩ = some (.int .i64 C) := X1.out.cell 1
      have x2 : w1.cell? ⟨w.heap.size, 2, none⟩ = some (.int .i64 T) := X1.out.cell 2
      clear hB1
      go_wp2_with fail
      refine (newC_no _ rf C T HT.out).mono ?_
      rintro e w2 ⟨rfl, hU2⟩
      have V2 := Lib.hid (Below.upd V1.out hU2 V1.out.size (fun _ h => h.elim))
      have X2 := Lib.hid (X1.out.upd hU2 (fun h => h))
      have x0 : w2.cell? ⟨w.heap.size, 0, none⟩ = some (.bool rf) := X2.out.cell 0
      have x1 : w2.cell? ⟨w.heap.size, 1, none⟩ = some (.int .i64 C) := X2.out.cell 1
      have x2 : w2.cell? ⟨w.heap.size, 2, none⟩ = some (.int .i64 T) := X2.out.cell 2
      clear hU2
      go_wp2_with fail
      refine (newR_no _ rf C T HT.out).mono ?_
      rintro e w3 ⟨rfl, hU3⟩
      have V3 := Lib.hid (Below.upd V2.out hU3 V2.out.size (fun _ h => h.elim))
      clear hU3
      go_wp2_with fail
      go_loopw [8] (fun vi wr => vi = .int .i64 0 ∧ wr = w3) (fun _ _ => 0)
      case atStart => exact ⟨rfl, rfl⟩
      case round =>
        obtain ⟨rfl, rfl⟩ := hrel
        by_cases h0 : 0 < len
        · have d0 : decide ((0 : Int) < (len : Int)) = true := decide_eq_true (by omega)
          go_wp2_with fail
          go_returns
          exact ⟨rfl, V3.out⟩
        · have d0 : decide ((0 : Int) < (len : Int)) = false := decide_eq_false (by omega)
          go_wp2_with fail
          go_returns
          exact ⟨rfl, V3.out⟩
    · have hok := of_decide_eq_true HT.out
      have F0 := Lib.hid (FineC.new rf C T hok.1 hok.2.1 hok.2.2)
      clear hok
      go_enter Try.func6, Try.ntmps6
      go_wp2_with fail
      refine (knows17 _).mono ?_
      rintro e w1 ⟨rfl, hB1⟩
      have hU1 := Upd.mono (S' := fun _ => False) (Upd.of_below hB1) (fun k hk hle => by omega)
      have V1 := Lib.hid (((Tu.refl w.heap.size tsP w).alloc (.cells #[.bool rf, .int .i64 C, .int .i64 T] 23)).still hU1)
      have X1 := Lib.hid (HX.out.upd hU1 (fun h => h))
      have x0 : w1.cell? ⟨w.heap.size, 0, none⟩ = some (.bool rf) := X1.out.cell 0
      have x1 : w1.cell? ⟨w.heap.size, 1, none⟩ = some (.int .i64 C) := X1.out.cell 1
      have x2 : w1.cell? ⟨w.heap.size, 2, none⟩ = some (.int .i64 T) := X1.out.cell 2
      clear hB1 hU1
      go_wp2_with fail
      refine (newC_yes _ w.heap.size V1.out.size rf C T HT.out).mono ?_
      rintro e w2 ⟨g, rfl, hg, hb2, hU2⟩
      have B2 := Lib.hid hb2
      have V2 := Lib.hid (V1.out.still hU2)
      have X2 := Lib.hid (X1.out.upd hU2 (fun h => h))
      have x0 : w2.cell? ⟨w.heap.size, 0, none⟩ = some (.bool rf) := X2.out.cell 0
      have x1 : w2.cell? ⟨w.heap.size, 1, none⟩ = some (.int .i64 C) := X2.out.cell 1
      have x2 : w2.cell? ⟨w.heap.size, 2, none⟩ = some (.int .i64 T) := X2.out.cell 2
      clear hb2 hU2
      go_wp2_with fail
      refine (newR_yes _ w.heap.size V2.out.size rf C T HT.out).mono ?_
      rintro e w3 ⟨r, rfl, hr, hb3, hU3⟩
      have H3 : Hid (Both w w3 g r (St17.new rf C T)) := Lib.hid ⟨B2.out.still hU3, hb3, F0.out, V2.out.still hU3⟩
      clear hb3 hU3 B2 V2 X2 V1 X1 x0 x1 x2
      go_wp2_with fail
      go_loopw [7, 8] (fun vn vi wr => ∃ (i : Nat) (nw : Int), i ≤ len ∧ vi = .int .i64 i ∧ vn = .int .i64 nw ∧ 0 ≤ nw ∧ nw ≤ i * 1000 ∧ ∃ s, Both w wr g r s) (fun _ vi _ => len - (intOf vi).toNat)
      case atStart => exact ⟨0, 0, by omega, rfl, rfl, by omega, by omega, _, H3.out⟩
      case round =>
        clear H3 F0
        obtain ⟨i, nw, hi, rfl, rfl, hn0, hn1, s, hB⟩ := hrel
        have HB := Lib.hid hB; clear hB
        by_cases hlt : i < len
        · obtain ⟨b, o, rfl, hab, h0, h1⟩ := HC.out i hlt
          have HH0 : Hid (∀ wx, Tu w.heap.size tsP w wx → wx.cell? ⟨b, o + i * 2, none⟩ = some (.int .i64 (ks i 0))) := Lib.hid (fun wx hu => (hu.cell (p := ⟨b, o + i * 2, none⟩) hab hab).trans h0)
          have h0 := HH0.out _ HB.out.t
          have h1 := (HB.out.t.cell (p := ⟨b, o + i * 2 + 1, none⟩) hab hab).trans h1
          generalize ks i 0 = kind at *
          generalize ks i 1 = N at *
          have hm0 : 0 ≤ min (max N 0) 1000 := by omega
          have hm1 : min (max N 0) 1000 ≤ 1000 := by omega
          go_upto_block 2 with fail
          go_cut [7, 9] from 42 to 108 (fun s7 s9 wx => s9 = .bool true ∧ ∃ nw', s7 = .int .i64 nw' ∧ 0 ≤ nw' ∧ nw' ≤ (i + 1 : Nat) * 1000 ∧ ∃ s, Both w wx g r s)
          case first =>
            by_cases hk0 : kind = 0
            · subst hk0
              go_wp2_with fail
              refine (goC _ w.heap.size g s HB.out.c HB.out.t.size HB.out.f (nw + min (max N 0) 1000) true).mono ?_
              rintro e w5 ⟨rfl, h5, hT5⟩
              have C5 := Lib.hid h5
              have T5 := Lib.hid (HB.out.t.trans (hT5.mono (Nat.le_refl _) tsP_C))
              have R5 := Lib.hid (HB.out.r.tu hT5 (by decide) (by decide) (by decide))
              have h0 := HH0.out _ T5.out
              clear h5 hT5
              go_wp2_with fail
              refine (goR _ w.heap.size r s R5.out T5.out.size HB.out.f (nw + min (max N 0) 1000) true).mono ?_
              rintro e w6 ⟨rfl, h6, hT6⟩
              have R6 := Lib.hid h6
              have C6 := Lib.hid (C5.out.tu hT6 (by decide) (by decide) (by decide))
              have T6 := Lib.hid (T5.out.trans (hT6.mono (Nat.le_refl _) tsP_R))
              clear h6 hT6
              go_wp2_with fail
              go_meet
              exact ⟨rfl, nw + min (max N 0) 1000, rfl, by omega, by omega, s.go (nw + min (max N 0) 1000) true, C6.out, R6.out, HB.out.f.go (nw + min (max N 0) 1000) (by omega) (by omega) true, T6.out⟩
            by_cases hk1 : kind = 1
            · subst hk1
              go_wp2_with fail
              refine (goC _ w.heap.size g s HB.out.c HB.out.t.size HB.out.f (nw + min (max N 0) 1000) true).mono ?_
              rintro e w5 ⟨rfl, h5, hT5⟩
              have C5 := Lib.hid h5
              have T5 := Lib.hid (HB.out.t.trans (hT5.mono (Nat.le_refl _) tsP_C))
              have R5 := Lib.hid (HB.out.r.tu hT5 (by decide) (by decide) (by decide))
              have h0 := HH0.out _ T5.out
              clear h5 hT5
              go_wp2_with fail
              refine (goR _ w.heap.size r s R5.out T5.out.size HB.out.f (nw + min (max N 0) 1000) true).mono ?_
              rintro e w6 ⟨rfl, h6, hT6⟩
              have R6 := Lib.hid h6
              have C6 := Lib.hid (C5.out.tu hT6 (by decide) (by decide) (by decide))
              have T6 := Lib.hid (T5.out.trans (hT6.mono (Nat.le_refl _) tsP_R))
              clear h6 hT6
              go_wp2_with fail
              go_meet
              exact ⟨rfl, nw + min (max N 0) 1000, rfl, by omega, by omega, s.go (nw + min (max N 0) 1000) true, C6.out, R6.out, HB.out.f.go (nw + min (max N 0) 1000) (by omega) (by omega) true, T6.out⟩
            by_cases hk2 : kind = 2
            · subst hk2
              go_wp2_with fail
              refine (goC _ w.heap.size g s HB.out.c HB.out.t.size HB.out.f (nw + min (max N 0) 1000) false).mono ?_
              rintro e w5 ⟨rfl, h5, hT5⟩
              have C5 := Lib.hid h5
              have T5 := Lib.hid (HB.out.t.trans (hT5.mono (Nat.le_refl _) tsP_C))
              have R5 := Lib.hid (HB.out.r.tu hT5 (by decide) (by decide) (by decide))
              have h0 := HH0.out _ T5.out
              clear h5 hT5
              go_wp2_with fail
              refine (goR _ w.heap.size r s R5.out T5.out.size HB.out.f (nw + min (max N 0) 1000) false).mono ?_
              rintro e w6 ⟨rfl, h6, hT6⟩
              have R6 := Lib.hid h6
              have C6 := Lib.hid (C5.out.tu hT6 (by decide) (by decide) (by decide))
              have T6 := Lib.hid (T5.out.trans (hT6.mono (Nat.le_refl _) tsP_R))
              clear h6 hT6
              go_wp2_with fail
              go_meet
              exact ⟨rfl, nw + min (max N 0) 1000, rfl, by omega, by omega, s.go (nw + min (max N 0) 1000) false, C6.out, R6.out, HB.out.f.go (nw + min (max N 0) 1000) (by omega) (by omega) false, T6.out⟩
            by_cases hk3 : kind = 3
            · subst hk3
              obtain ⟨bo, hbo⟩ : ∃ bo, decide (0 < s.xs.length) = bo := ⟨_, rfl⟩
              have HBO := Lib.hid hbo; clear hbo
              go_wp2_with fail
              refine (useC _ w.heap.size g s HB.out.c HB.out.t.size HB.out.f bo HBO.out).mono ?_
              rintro e w5 ⟨rfl, h5, hT5⟩
              have C5 := Lib.hid h5
              have T5 := Lib.hid (HB.out.t.trans (hT5.mono (Nat.le_refl _) tsP_C))
              have R5 := Lib.hid (HB.out.r.tu hT5 (by decide) (by decide) (by decide))
              clear h5 hT5
              go_wp2_with fail
              refine (useR _ w.heap.size r s R5.out T5.out.size HB.out.f bo HBO.out).mono ?_
              rintro e w6 ⟨rfl, h6, hT6⟩
              have R6 := Lib.hid h6
              have C6 := Lib.hid (C5.out.tu hT6 (by decide) (by decide) (by decide))
              have T6 := Lib.hid (T5.out.trans (hT6.mono (Nat.le_refl _) tsP_R))
              clear h6 hT6
              go_wp2_with fail
              go_meet
              exact ⟨rfl, nw, rfl, by omega, by omega, s.use, C6.out, R6.out, HB.out.f.use, T6.out⟩
            by_cases hk4 : kind = 4
            · subst hk4
              obtain ⟨bo, hbo⟩ : ∃ bo, decide (0 < s.xs.length) = bo := ⟨_, rfl⟩
              have HBO := Lib.hid hbo; clear hbo
              go_wp2_with fail
              refine (useC _ w.heap.size g s HB.out.c HB.out.t.size HB.out.f bo HBO.out).mono ?_
              rintro e w5 ⟨rfl, h5, hT5⟩
              have C5 := Lib.hid h5
              have T5 := Lib.hid (HB.out.t.trans (hT5.mono (Nat.le_refl _) tsP_C))
              have R5 := Lib.hid (HB.out.r.tu hT5 (by decide) (by decide) (by decide))
              clear h5 hT5
              go_wp2_with fail
              refine (useR _ w.heap.size r s R5.out T5.out.size HB.out.f bo HBO.out).mono ?_
              rintro e w6 ⟨rfl, h6, hT6⟩
              have R6 := Lib.hid h6
              have C6 := Lib.hid (C5.out.tu hT6 (by decide) (by decide) (by decide))
              have T6 := Lib.hid (T5.out.trans (hT6.mono (Nat.le_refl _) tsP_R))
              clear h6 hT6
              go_wp2_with fail
              go_meet
              exact ⟨rfl, nw, rfl, by omega, by omega, s.use, C6.out, R6.out, HB.out.f.use, T6.out⟩
            by_cases hk5 : kind = 5
            · subst hk5
              go_wp2_with fail
              refine (doneC _ w.heap.size g s HB.out.c HB.out.t.size HB.out.f).mono ?_
              rintro e w5 ⟨rfl, h5, hT5⟩
              have C5 := Lib.hid h5
              have T5 := Lib.hid (HB.out.t.trans ((hT5.mono (Nat.le_refl _) tsO_sub).mono (Nat.le_refl _) tsP_C))
              have R5 := Lib.hid (HB.out.r.tu (hT5.mono (Nat.le_refl _) tsO_sub) (by decide) (by decide) (by decide))
              clear h5 hT5
              go_wp2_with fail
              refine (doneR _ w.heap.size r s R5.out T5.out.size HB.out.f).mono ?_
              rintro e w6 ⟨rfl, h6, hT6⟩
              have R6 := Lib.hid h6
              have C6 := Lib.hid (C5.out.tu hT6 (by decide) (by decide) (by decide))
              have T6 := Lib.hid (T5.out.trans (hT6.mono (Nat.le_refl _) tsP_R))
              clear h6 hT6
              go_wp2_with fail
              go_meet
              exact ⟨rfl, nw, rfl, by omega, by omega, s.done, C6.out, R6.out, HB.out.f.done, T6.out⟩
            by_cases hk6 : kind = 6
            · subst hk6
              go_wp2_with fail
              refine (stopC _ w.heap.size g s HB.out.c HB.out.t.size HB.out.f).mono ?_
              rintro e w5 ⟨rfl, h5, hT5⟩
              have C5 := Lib.hid h5
              have T5 := Lib.hid (HB.out.t.trans (hT5.mono (Nat.le_refl _) tsP_C))
              have R5 := Lib.hid (HB.out.r.tu hT5 (by decide) (by decide) (by decide))
              clear h5 hT5
              go_wp2_with fail
              refine (doneR _ w.heap.size r s R5.out T5.out.size HB.out.f).mono ?_
              rintro e w6 ⟨rfl, h6, hT6⟩
              have R6 := Lib.hid h6
              have C6 := Lib.hid (C5.out.tu hT6 (by decide) (by decide) (by decide))
              have T6 := Lib.hid (T5.out.trans (hT6.mono (Nat.le_refl _) tsP_R))
              clear h6 hT6
              obtain ⟨Lr, Kr, hrud⟩ := R6.out
              have c6 : w6.cell? ⟨r, 6, none⟩ = some (.bool s.done.p.still) := hrud.b.cell 6
              have f6 := hrud.b.frozen 6
              have RU := Lib.hid hrud
              clear hrud
              go_wp2_with fail
              go_meet
              exact ⟨rfl, nw, rfl, by omega, by omega, s.stop, (C6.out.tu ((Tu.refl w.heap.size tsR w6).set_ RU.out.hr RU.out.b (by decide) _) (by decide) (by decide) (by decide)), ⟨Lr, Kr, RU.out.setStill true⟩, HB.out.f.stop, T6.out.trans (((Tu.refl w.heap.size tsR w6).set_ RU.out.hr RU.out.b (by decide) _).mono (Nat.le_refl _) tsP_R)⟩
            by_cases hk7 : kind = 7
            · subst hk7
              go_wp2_with fail
              refine (resumeC _ w.heap.size g s HB.out.c HB.out.f.C1).mono ?_
              rintro e w5 ⟨rfl, h5, hT5⟩
              have C5 := Lib.hid h5
              have T5 := Lib.hid (HB.out.t.trans (hT5.mono (Nat.le_refl _) tsP_C))
              have R5 := Lib.hid (HB.out.r.tu hT5 (by decide) (by decide) (by decide))
              obtain ⟨Lr, Kr, hrud⟩ := R5.out
              have c6 : w5.cell? ⟨r, 6, none⟩ = some (.bool s.p.still) := hrud.b.cell 6
              have f6 := hrud.b.frozen 6
              have RU := Lib.hid hrud
              clear hrud h5 hT5
              go_wp2_with fail
              go_meet
              exact ⟨rfl, nw, rfl, by omega, by omega, s.resume, (C5.out.tu ((Tu.refl w.heap.size tsR w5).set_ RU.out.hr RU.out.b (by decide) _) (by decide) (by decide) (by decide)), ⟨Lr, Kr, RU.out.setStill false⟩, HB.out.f.resume, T5.out.trans (((Tu.refl w.heap.size tsR w5).set_ RU.out.hr RU.out.b (by decide) _).mono (Nat.le_refl _) tsP_R)⟩
            by_cases hk8 : kind = 8
            · subst hk8
              go_wp2_with fail
              refine (resetC _ w.heap.size g s HB.out.c HB.out.f.C1).mono ?_
              rintro e w5 ⟨rfl, h5, hT5⟩
              have C5 := Lib.hid h5
              have T5 := Lib.hid (HB.out.t.trans (hT5.mono (Nat.le_refl _) tsP_C))
              have R5 := Lib.hid (HB.out.r.tu hT5 (by decide) (by decide) (by decide))
              clear h5 hT5
              go_wp2_with fail
              refine (resetR _ w.heap.size r s R5.out).mono ?_
              rintro e w6 ⟨rfl, h6, hT6⟩
              have R6 := Lib.hid h6
              have C6 := Lib.hid (C5.out.tu hT6 (by decide) (by decide) (by decide))
              have T6 := Lib.hid (T5.out.trans (hT6.mono (Nat.le_refl _) tsP_R))
              clear h6 hT6
              go_wp2_with fail
              go_meet
              exact ⟨rfl, nw, rfl, by omega, by omega, s.reset, C6.out, R6.out, HB.out.f.reset, T6.out⟩
            have n0 : (kind == 0) = false := beq_eq_false_iff_ne.2 hk0
            have n1 : (kind == 1) = false := beq_eq_false_iff_ne.2 hk1
            have n2 : (kind == 2) = false := beq_eq_false_iff_ne.2 hk2
            have n3 : (kind == 3) = false := beq_eq_false_iff_ne.2 hk3
            have n4 : (kind == 4) = false := beq_eq_false_iff_ne.2 hk4
            have n5 : (kind == 5) = false := beq_eq_false_iff_ne.2 hk5
            have n6 : (kind == 6) = false := beq_eq_false_iff_ne.2 hk6
            have n7 : (kind == 7) = false := beq_eq_false_iff_ne.2 hk7
            have n8 : (kind == 8) = false := beq_eq_false_iff_ne.2 hk8
            clear hk0 hk1 hk2 hk3 hk4 hk5 hk6 hk7 hk8
            go_wp2_with fail
            go_meet
            exact ⟨rfl, nw, rfl, by omega, by omega, s, HB.out⟩
          case rest =>
            obtain ⟨rfl, nw', rfl, hn0', hn1', s', hB'⟩ := hcut
            have HB' := Lib.hid hB'
            clear hB' h0 h1 hm0 hm1 HB
            go_wp2_with fail
            refine (same17 _ w.heap.size w.heap.size g r s' HB'.out.c HB'.out.r HB'.out.f).mono ?_
            rintro e w9 ⟨rfl, hU9⟩
            have B9 : Hid (Both w w9 g r s') := Lib.hid ⟨HB'.out.c.still hU9, HB'.out.r.still hU9, HB'.out.f, HB'.out.t.still hU9⟩
            clear hU9
            go_wp2_with fail
            go_roundw
            case rel => exact ⟨i + 1, nw', by omega, by go_num, rfl, hn0', hn1', s', B9.out⟩
            case measure => simp [intOf]; omega
        · go_wp2_with fail
          go_returns
          exact ⟨rfl, HB.out.t.below (Below.refl _ _) (Nat.le_refl _)⟩
end Go.Proofs.Ytlhiagbcmmmjpaa
