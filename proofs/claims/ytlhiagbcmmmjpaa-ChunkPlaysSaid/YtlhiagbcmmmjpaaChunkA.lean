/-
  ChunkAll: the walk.
-/
import Derived.Test.YtlhiagbcmmmjpaaChunkZ
import Derived.Test.YtlhiagbcmmmjpaaArgs2
import Derived.Deep.CutBlock
namespace Go.Proofs.Ytlhiagbcmmmjpaa
open Go.RowKit
attribute [local go_sem] max_ints min_ints

def nowOf (kind n now : Int) : Int := if kind = 0 ∨ kind = 1 ∨ kind = 2 then now + min (max n 0) 1000 else now
def St17.act (s : St17) (kind n now : Int) : St17 :=
  if kind = 0 then s.go (nowOf kind n now) true else if kind = 1 then s.go (nowOf kind n now) true else if kind = 2 then s.go (nowOf kind n now) false
  else if kind = 5 then s.done else if kind = 6 then s.stop else if kind = 7 then s.resume else s
theorem nowOf_bd (kind n now : Int) : now ≤ nowOf kind n now ∧ nowOf kind n now ≤ now + 1000 := by
  unfold nowOf
  split <;> omega
theorem FineC.act {s : St17} (h : FineC s) (kind n now : Int) (h0 : 0 ≤ now) (h1 : now ≤ 1000000) : FineC (s.act kind n now) := by
  have hb := nowOf_bd kind n now
  unfold St17.act
  split
  · exact h.go _ (by omega) (by omega) _
  split
  · exact h.go _ (by omega) (by omega) _
  split
  · exact h.go _ (by omega) (by omega) _
  split
  · exact h.done
  split
  · exact h.stop
  split
  · exact h.resume
  exact h

set_option maxRecDepth 100000 in
set_option maxHeartbeats 3200000 in
theorem do17 (w : World) (base g : Nat) (s : St17) (h : CSt w base g s) (hbase : base ≤ w.heap.size) (hf : FineC s) (kind n now : Int) (hn : (Lit.int .i64 n).wf = true) (h0 : 0 ≤ now) (h1 : now ≤ 1000000) :
    Calls Try.prog 36 #[.pointer (some ⟨g, 0, none⟩), .agg #[.int .i64 kind, .int .i64 n], .int .i64 now] w fun e w' => e = .returned (.int .i64 (nowOf kind n now)) ∧ CSt w' base g (s.act kind n now) ∧ Tu base tsC w w' := by
  have H := Lib.hid h; clear h
  have HF := Lib.hid hf; clear hf
  have HA := Lib.hid (CSt.still H.out ((Upd.refl _ w).alloc (.cells #[.int .i64 kind, .int .i64 n] 30)))
  have HZ : Hid (base ≤ (w.alloc (.cells #[.int .i64 kind, .int .i64 n] 30)).heap.size) := Lib.hid (by simp; omega)
  have HT := Lib.hid ((Tu.refl base tsC w).alloc (.cells #[.int .i64 kind, .int .i64 n] 30))
  have hb0 : 0 ≤ min (max n 0) 1000 := by omega
  have hb1 : min (max n 0) 1000 ≤ 1000 := by omega
  by_cases hk0 : kind = 0
  · subst hk0
    have he : s.act 0 n now = s.go (now + min (max n 0) 1000) true := by simp [St17.act, nowOf]
    have hn' : nowOf 0 n now = now + min (max n 0) 1000 := by simp [nowOf]
    rw [he, hn']
    clear he hn'
    go_enter Try.func36, Try.ntmps36
    go_wp2_with fail
    refine (goC _ base g s HA.out HZ.out HF.out _ true).mono ?_
    rintro e w2 ⟨rfl, h2, hT2⟩
    have H2 := Lib.hid h2; have T2 := Lib.hid (HT.out.trans hT2)
    clear h2 hT2
    go_wp2_with fail
    go_returns
    exact ⟨rfl, H2.out, T2.out⟩
  by_cases hk1 : kind = 1
  · subst hk1
    have he : s.act 1 n now = s.go (now + min (max n 0) 1000) true := by simp [St17.act, nowOf]
    have hn' : nowOf 1 n now = now + min (max n 0) 1000 := by simp [nowOf]
    rw [he, hn']
    clear he hn'
    go_enter Try.func36, Try.ntmps36
    go_wp2_with fail
    refine (goC _ base g s HA.out HZ.out HF.out _ true).mono ?_
    rintro e w2 ⟨rfl, h2, hT2⟩
    have H2 := Lib.hid h2; have T2 := Lib.hid (HT.out.trans hT2)
    clear h2 hT2
    go_wp2_with fail
    go_returns
    exact ⟨rfl, H2.out, T2.out⟩
  by_cases hk2 : kind = 2
  · subst hk2
    have he : s.act 2 n now = s.go (now + min (max n 0) 1000) false := by simp [St17.act, nowOf]
    have hn' : nowOf 2 n now = now + min (max n 0) 1000 := by simp [nowOf]
    rw [he, hn']
    clear he hn'
    go_enter Try.func36, Try.ntmps36
    go_wp2_with fail
    refine (goC _ base g s HA.out HZ.out HF.out _ false).mono ?_
    rintro e w2 ⟨rfl, h2, hT2⟩
    have H2 := Lib.hid h2; have T2 := Lib.hid (HT.out.trans hT2)
    clear h2 hT2
    go_wp2_with fail
    go_returns
    exact ⟨rfl, H2.out, T2.out⟩
  by_cases hk5 : kind = 5
  · subst hk5
    have he : s.act 5 n now = s.done := by simp [St17.act]
    have hn' : nowOf 5 n now = now := by simp [nowOf]
    rw [he, hn']
    clear he hn'
    go_enter Try.func36, Try.ntmps36
    go_wp2_with fail
    refine (doneC _ base g s HA.out HZ.out HF.out).mono ?_
    rintro e w2 ⟨rfl, h2, hT2⟩
    have H2 := Lib.hid h2; have T2 := Lib.hid (HT.out.trans (hT2.mono (Nat.le_refl _) tsO_sub))
    clear h2 hT2
    go_wp2_with fail
    go_returns
    exact ⟨rfl, H2.out, T2.out⟩
  by_cases hk6 : kind = 6
  · subst hk6
    have he : s.act 6 n now = s.stop := by simp [St17.act]
    have hn' : nowOf 6 n now = now := by simp [nowOf]
    rw [he, hn']
    clear he hn'
    go_enter Try.func36, Try.ntmps36
    go_wp2_with fail
    refine (stopC _ base g s HA.out HZ.out HF.out).mono ?_
    rintro e w2 ⟨rfl, h2, hT2⟩
    have H2 := Lib.hid h2; have T2 := Lib.hid (HT.out.trans hT2)
    clear h2 hT2
    go_wp2_with fail
    go_returns
    exact ⟨rfl, H2.out, T2.out⟩
  by_cases hk7 : kind = 7
  · subst hk7
    have he : s.act 7 n now = s.resume := by simp [St17.act]
    have hn' : nowOf 7 n now = now := by simp [nowOf]
    rw [he, hn']
    clear he hn'
    go_enter Try.func36, Try.ntmps36
    go_wp2_with fail
    refine (resumeC _ base g s HA.out HF.out.C1).mono ?_
    rintro e w2 ⟨rfl, h2, hT2⟩
    have H2 := Lib.hid h2; have T2 := Lib.hid (HT.out.trans hT2)
    clear h2 hT2
    go_wp2_with fail
    go_returns
    exact ⟨rfl, H2.out, T2.out⟩
  have he : s.act kind n now = s := by simp [St17.act, *]
  have hn' : nowOf kind n now = now := by simp [nowOf, *]
  rw [he, hn']
  clear he hn'
  have n0 : (kind == 0) = false := beq_eq_false_iff_ne.2 hk0
  have n1 : (kind == 1) = false := beq_eq_false_iff_ne.2 hk1
  have n2 : (kind == 2) = false := beq_eq_false_iff_ne.2 hk2
  have n5 : (kind == 5) = false := beq_eq_false_iff_ne.2 hk5
  have n6 : (kind == 6) = false := beq_eq_false_iff_ne.2 hk6
  have n7 : (kind == 7) = false := beq_eq_false_iff_ne.2 hk7
  clear hk0 hk1 hk2 hk5 hk6 hk7
  go_enter Try.func36, Try.ntmps36
  go_wp2_with fail
  go_returns
  exact ⟨rfl, HA.out, HT.out⟩


theorem sumC_take (xs : List (Int × Int × Int)) (i : Nat) (x : Int × Int × Int) (h : xs[i]? = some x) : sumC (xs.take (i + 1)) = sumC (xs.take i) + x.2.1 + x.2.2 := by
  rw [List.take_add_one, h, sumC_append]
  simp [sumC]
  omega
theorem sumB_take (xs : List (Int × Int)) (i : Nat) (x : Int × Int) (h : xs[i]? = some x) : sumB (xs.take (i + 1)) = sumB (xs.take i) + x.2 := by
  rw [List.take_add_one, h, sumB_append]
  simp [sumB]
theorem sumC_le : ∀ (xs : List (Int × Int × Int)) (i : Nat), (∀ x ∈ xs, 1 ≤ x.2.1 ∧ 0 ≤ x.2.2) → 0 ≤ sumC (xs.take i) ∧ sumC (xs.take i) ≤ sumC xs
  | [], i, _ => by simp [sumC]
  | x :: t, 0, h => by have := sumC_pos (x :: t) h; simp [sumC] at *; omega
  | x :: t, i + 1, h => by
    have h1 := sumC_le t i (fun y hy => h y (List.mem_cons_of_mem _ hy))
    have h2 := h x (List.mem_cons_self ..)
    rw [List.take_succ_cons]
    simp only [sumC]
    omega
theorem sumB_le : ∀ (xs : List (Int × Int)) (i : Nat), (∀ x ∈ xs, 1 ≤ x.2) → 0 ≤ sumB (xs.take i) ∧ sumB (xs.take i) ≤ sumB xs
  | [], i, _ => by simp [sumB]
  | x :: t, 0, h => by have := sumB_pos (x :: t) h; simp [sumB] at *; omega
  | x :: t, i + 1, h => by
    have h1 := sumB_le t i (fun y hy => h y (List.mem_cons_of_mem _ hy))
    have h2 := h x (List.mem_cons_self ..)
    rw [List.take_succ_cons]
    simp only [sumB]
    omega

/-- Behind i acts. -/
def AllR (w wr : World) (g i : Nat) (C T : Int) (rf : Bool) (now : Int) : Prop :=
  ∃ s, CSt wr w.heap.size g s ∧ FineC s ∧ s.p.C = C ∧ 0 ≤ now ∧ now ≤ i * 1000 ∧ Tu w.heap.size tsC w wr ∧ Blk wr w.heap.size 23 #[.bool rf, .int .i64 C, .int .i64 T]
def AllS (w wx : World) (g : Nat) (C T : Int) (rf : Bool) : Prop :=
  ∃ s, CSt wx w.heap.size g s ∧ FineC s ∧ s.p.C = C ∧ Tu w.heap.size tsC w wx ∧ Blk wx w.heap.size 23 #[.bool rf, .int .i64 C, .int .i64 T]

theorem act_C (s : St17) (kind n now : Int) : (s.act kind n now).p.C = s.p.C := by
  have hg : ∀ t b, (s.go t b).p.C = s.p.C := fun t b => by unfold St17.go; split <;> rfl
  unfold St17.act
  (repeat' split) <;> first | exact hg _ _ | rfl
theorem use_C (s : St17) : s.use.p.C = s.p.C := by
  unfold St17.use
  split
  · rfl
  · split <;> rfl

set_option maxRecDepth 100000 in
set_option maxHeartbeats 6400000 in
theorem chunkAll_any (w : World) (s : Bool × Int × Int) (_ : (Lit.int .i64 s.2.1).wf = true ∧ (Lit.int .i64 s.2.2).wf = true) (A : Option Addr) (len cap : Nat) (ks : Nat → Nat → Int) (hw : ∀ k j, k < len → j < 2 → (Lit.int .i64 (ks k j)).wf = true) (hc : Row2 w A len ks) :
    Calls Try.prog 7 #[.agg #[.bool s.1, .int .i64 s.2.1, .int .i64 s.2.2], .slice A len cap] w fun e w' => e = .returned (.bool true) ∧ Below w.heap.size w w' := by
  have HC := Lib.hid hc; clear hc
  have HWF := Lib.hid hw; clear hw
  generalize s.1 = rf
  generalize s.2.1 = C at *
  generalize s.2.2 = T at *
  have HX := Lib.hid (Blk.new w 23 #[.bool rf, .int .i64 C, .int .i64 T])
  obtain ⟨lb, hlb⟩ : ∃ lb, decide ((150 : Int) < (len : Int)) = lb := ⟨_, rfl⟩
  obtain ⟨t, ht⟩ : ∃ t, okS C T = t := ⟨_, rfl⟩
  have HT := Lib.hid ht; clear ht
  have HLB := Lib.hid hlb
  cases t
  · cases lb
    all_goals
      go_enter Try.func7, Try.ntmps7
      go_wp2_with fail
      refine (newC_no _ rf C T HT.out).mono ?_
      rintro e w1 ⟨rfl, hU⟩
      have V1 := Lib.hid (Below.upd ((Below.refl w.heap.size w).alloc (Nat.le_refl _) _) hU (by simp) (fun _ h => h.elim))
      clear hU
      go_wp2_with fail
      refine (knows17 _).mono ?_
      rintro e w2 ⟨rfl, hB2⟩
      have V2 := Lib.hid (chn V1.out hB2); clear hB2
      go_wp2_with fail
      go_returns
      exact ⟨rfl, V2.out⟩
  · cases lb
    rotate_left
    · go_enter Try.func7, Try.ntmps7
      go_wp2_with fail
      refine (newC_yes _ w.heap.size (by simp) rf C T HT.out).mono ?_
      rintro e w1 ⟨g, rfl, hg, hb, hU⟩
      have V1 := Lib.hid (Below.upd ((Below.refl w.heap.size w).alloc (Nat.le_refl _) _) hU (by simp) (fun _ h => h.elim))
      clear hb hU
      go_wp2_with fail
      refine (knows17 _).mono ?_
      rintro e w2 ⟨rfl, hB2⟩
      have V2 := Lib.hid (chn V1.out hB2); clear hB2
      go_wp2_with fail
      go_returns
      exact ⟨rfl, V2.out⟩
    · have hlen : len ≤ 150 := by have := of_decide_eq_false HLB.out; omega
      have hok := of_decide_eq_true HT.out
      have F0 := Lib.hid (FineC.new rf C T hok.1 hok.2.1 hok.2.2)
      clear hok
      go_enter Try.func7, Try.ntmps7
      go_wp2_with fail
      refine (newC_yes _ w.heap.size (by simp) rf C T HT.out).mono ?_
      rintro e w1 ⟨g, rfl, hg, hb, hU⟩
      have V1 := Lib.hid (((Tu.refl w.heap.size tsC w).alloc _).still hU)
      have X1 := Lib.hid (HX.out.upd hU (fun h => h))
      have B1 := Lib.hid hb
      clear hb hU
      go_wp2_with fail
      refine (knows17 _).mono ?_
      rintro e w2 ⟨rfl, hB2⟩
      have hU2 := Upd.mono (S' := fun _ => False) (Upd.of_below hB2) (fun k hk hle => by omega)
      have V2 := Lib.hid (V1.out.still hU2)
      have X2 := Lib.hid (X1.out.upd hU2 (fun h => h))
      have B2 := Lib.hid (B1.out.still hU2)
      clear hB2 hU2
      go_wp2_with fail
      go_loopw [6, 7] (fun vn vi wr => ∃ (i : Nat) (nw : Int), i ≤ len ∧ vi = .int .i64 i ∧ vn = .int .i64 nw ∧ AllR w wr g i C T rf nw) (fun _ vi _ => len - (intOf vi).toNat)
      case atStart => exact ⟨0, 0, by omega, rfl, rfl, _, B2.out, F0.out, rfl, by omega, by omega, V2.out, X2.out⟩
      case round =>
        clear X2 B2 V2 X1 B1 V1 F0
        obtain ⟨i, nw, hi, rfl, rfl, ⟨s, hS, hF, hsC, hn0, hn1, hT, hX⟩⟩ := hrel
        have HS := Lib.hid hS; have HF := Lib.hid hF; have HTu := Lib.hid hT; have HXr := Lib.hid hX; have HsC := Lib.hid hsC
        clear hS hF hT hX hsC
        by_cases hlt : i < len
        · obtain ⟨b, o, rfl, hab, h0, h1⟩ := HC.out i hlt
          have HH00 := Lib.hid h0
          have h0 := (HTu.out.cell (p := ⟨b, o + i * 2, none⟩) hab hab).trans h0
          have h1 := (HTu.out.cell (p := ⟨b, o + i * 2 + 1, none⟩) hab hab).trans h1
          have hwn := HWF.out i 1 hlt (by omega)
          generalize ks i 0 = kind at *
          generalize ks i 1 = N at *
          have HH0 := Lib.hid h0
          go_wp2_with fail
          refine (do17 _ w.heap.size g s HS.out HTu.out.size HF.out kind N nw hwn hn0 (by omega)).mono ?_
          rintro e w3 ⟨rfl, h3, hT3⟩
          have S3 := Lib.hid h3
          have F3 := Lib.hid (HF.out.act kind N nw hn0 (by omega))
          have T3 := Lib.hid (HTu.out.trans hT3)
          have X3 := Lib.hid (HXr.out.tu hT3 (by decide))
          have C3 := Lib.hid ((act_C s kind N nw).trans HsC.out)
          have hnb := nowOf_bd kind N nw
          generalize s.act kind N nw = s3 at *
          generalize nowOf kind N nw = nw3 at *
          have h0 := (hT3.cell (p := ⟨b, o + i * 2, none⟩) (Nat.lt_of_lt_of_le hab HTu.out.size) hab).trans HH0.out
          have H0 := Lib.hid h0
          clear h1 h3 hT3
          obtain ⟨b34, hb34⟩ : ∃ b, (kind == 3 || kind == 4) = b := ⟨_, rfl⟩
          have HB34 := Lib.hid hb34; clear hb34
          go_upto_region 9 with fail
          go_cut [53] from 40 to 52 (fun s53 wx => s53 = .bool b34 ∧ wx = w3)
          case first =>
            by_cases hk3 : kind = 3
            · subst hk3
              go_wp2_with fail
              go_meet
              exact ⟨by rw [← HB34.out]; rfl, rfl⟩
            have n3 : (kind == 3) = false := beq_eq_false_iff_ne.2 hk3
            clear hk3
            go_wp2_with fail
            go_meet
            exact ⟨by rw [← HB34.out, n3]; rfl, rfl⟩
          obtain ⟨rfl, rfl⟩ := hcut
          go_upto_if 53 with fail
          go_cut [] from 54 to 55 (fun wx => AllS w wx g C T rf)
          case first =>
            cases b34
            · go_wp2_with fail
              go_meet
              exact ⟨_, S3.out, F3.out, C3.out, T3.out, X3.out⟩
            · go_wp2_with fail
              obtain ⟨bo, hbo⟩ : ∃ bo, decide (0 < s3.xs.length) = bo := ⟨_, rfl⟩
              refine (useC _ w.heap.size g s3 S3.out T3.out.size F3.out bo hbo).mono ?_
              rintro e w4 ⟨rfl, h4, hT4⟩
              have H4 := Lib.hid h4; have T4 := Lib.hid (T3.out.trans hT4); have X4 := Lib.hid (X3.out.tu hT4 (by decide))
              clear h4 hT4 hbo
              go_wp2_with fail
              go_meet
              exact ⟨_, H4.out, F3.out.use, (use_C s3).trans C3.out, T4.out, X4.out⟩
          obtain ⟨s5, h5, hF5, hC5, hT5, hX5⟩ := hcut
          have S5 := Lib.hid h5; have F5 := Lib.hid hF5; have C5 := Lib.hid hC5; have T5 := Lib.hid hT5; have X5 := Lib.hid hX5
          have h0 := (hT5.cell (p := ⟨b, o + i * 2, none⟩) hab hab).trans HH00.out
          clear h5 hF5 hC5 hT5 hX5 S3 F3 T3 X3 C3 H0
          obtain ⟨b8, hb8⟩ : ∃ b, (kind == 8) = b := ⟨_, rfl⟩
          have HB8 := Lib.hid hb8
          go_upto_if 61 with fail
          go_cut [] from 62 to 63 (fun wx => AllS w wx g C T rf)
          case first =>
            cases b8
            · go_wp2_with fail
              go_meet
              exact ⟨_, S5.out, F5.out, C5.out, T5.out, X5.out⟩
            · go_wp2_with fail
              refine (resetC _ w.heap.size g s5 S5.out F5.out.C1).mono ?_
              rintro e w4 ⟨rfl, h4, hT4⟩
              have H4 := Lib.hid h4; have T4 := Lib.hid (T5.out.trans hT4); have X4 := Lib.hid (X5.out.tu hT4 (by decide))
              clear h4 hT4
              go_wp2_with fail
              go_meet
              exact ⟨_, H4.out, F5.out.reset, C5.out, T4.out, X4.out⟩
          clear hb8 h0 S5 F5 C5 T5 X5
          obtain ⟨s4, h4, hF4, hC4, hT4, hX4⟩ := hcut
          have S4 := Lib.hid h4; have F4 := Lib.hid hF4; have C4 := Lib.hid hC4; have T4 := Lib.hid hT4; have X4 := Lib.hid hX4
          clear h4 hF4 hC4 hT4 hX4
          go_wp2_with fail
          refine (freeC _ w.heap.size g s4 S4.out F4.out.C1).mono ?_
          rintro e w5 ⟨rfl, k5, rfl⟩
          go_wp2_with fail
          refine (liveC _ w.heap.size g s4 (S4.out.drewN _) F4.out.C1 (by have := F4.out.bound; omega)).mono ?_
          rintro e w6 ⟨v, rfl, hv, hU6⟩
          obtain ⟨Av, cv, rfl⟩ := hv.shape
          have S6 := Lib.hid ((S4.out.drewN _).still hU6)
          have T6 := Lib.hid ((T4.out.drewN k5).still hU6)
          have X6 := Lib.hid ((X4.out.drewN k5).upd hU6 (fun h => h))
          have L6 := Lib.hid hv
          clear hv hU6
          have hbd := F4.out.bound
          have hfr := F4.out.free
          have hfr1 : s4.p.free ≤ 1000 := hbd.2.1
          have hxl : s4.xs.length ≤ 1000 := hbd.2.2.2.2.1
          have hyl : s4.ys.length ≤ 1000 := hbd.2.2.2.2.2.1
          have hsc : sumC s4.xs ≤ 1000 := by omega
          have hsb : sumB s4.ys ≤ 1000 := by omega
          have hsc0 : 0 ≤ sumC s4.xs := by omega
          clear hbd
          have hall := F4.out.all
          have HALL := Lib.hid (hall.trans C4.out)
          clear hall
          go_wp2_with fail
          go_loopw [8, 10] (fun vn vk wq => ∃ k : Nat, k ≤ s4.xs.length ∧ vk = .int .i64 k ∧ vn = .int .i64 (s4.p.free + sumC (s4.xs.take k)) ∧ Upd (fun _ => False) w6 wq) (fun _ vk _ => s4.xs.length - (intOf vk).toNat)
          case atStart => exact ⟨0, Nat.zero_le _, rfl, by simp [sumC], Upd.refl _ _⟩
          case round =>
            obtain ⟨k, hk, rfl, rfl, hUq⟩ := hrel
            by_cases hky : k < s4.xs.length
            · obtain ⟨x, hx⟩ : ∃ x, s4.xs[k]? = some x := ⟨_, List.getElem?_eq_getElem hky⟩
              have hS := L6.out.still hUq
              obtain ⟨bq, off, cq, e, _, _, _⟩ := hS.form (by omega)
              injection e with e1 e2 e3
              subst e1 e3
              have h1 := hS.cell encC_len k x hx 1 _ rfl
              have h2 := hS.cell encC_len k x hx 2 _ rfl
              have hb := sumC_le s4.xs k F4.out.posC
              have hp := F4.out.posC x (List.mem_of_getElem? hx)
              have hx3 : x.2.1 + x.2.2 ≤ 1000 := by have := (sumC_pos _ F4.out.posC).2.2.2 x (List.mem_of_getElem? hx); omega
              have HX9 := Lib.hid hx
              have HUq := Lib.hid hUq
              clear hx hS hUq
              obtain ⟨sm, hsum⟩ : ∃ sm, sumC (s4.xs.take k) = sm := ⟨_, rfl⟩
              rw [hsum] at hb ⊢
              have hb1 := hb.1
              have hb2 : sm ≤ 1000 := by omega
              have HSM := Lib.hid hsum
              clear hsum hb
              go_wp2_with fail
              go_quiet (fail)
              go_wp2_with fail
              go_roundw
              case rel =>
                refine ⟨k + 1, by omega, by go_num, ?_, HUq.out.drewN _⟩
                rw [sumC_take s4.xs k x HX9.out, HSM.out]
                go_num
              case measure => simp [intOf]; omega
            · have hk' : k = s4.xs.length := by omega
              subst hk'
              rw [List.take_length]
              have S7 := Lib.hid (S6.out.still hUq)
              have T7 := Lib.hid (T6.out.still hUq)
              have X7 := Lib.hid (X6.out.upd hUq (fun h => h))
              clear hUq S6 T6 X6
              go_wp2_with fail
              refine (backsC _ w.heap.size g s4 S7.out F4.out.C1 hyl).mono ?_
              rintro e w8 ⟨v8, rfl, hv, hU8⟩
              obtain ⟨Av8, cv8, rfl⟩ := hv.shape
              have S8 := Lib.hid (S7.out.still hU8)
              have T8 := Lib.hid (T7.out.still hU8)
              have X8 := Lib.hid (X7.out.upd hU8 (fun h => h))
              have L8 := Lib.hid hv
              clear hv hU8 S7 T7 X7
              obtain ⟨n0, hn0'⟩ : ∃ n0, s4.p.free + sumC s4.xs = n0 := ⟨_, rfl⟩
              have hn00 : 0 ≤ n0 := by omega
              have hn01 : n0 ≤ 2000 := by omega
              have HN0 := Lib.hid hn0'
              rw [hn0']
              clear hn0'
              go_wp2_with fail
              go_loopw [8, 12] (fun vn vk wq => ∃ k : Nat, k ≤ s4.ys.length ∧ vk = .int .i64 k ∧ vn = .int .i64 (n0 + sumB (s4.ys.take k)) ∧ Upd (fun _ => False) w8 wq) (fun _ vk _ => s4.ys.length - (intOf vk).toNat)
              case atStart => exact ⟨0, Nat.zero_le _, rfl, by simp [sumB], Upd.refl _ _⟩
              case round =>
                obtain ⟨m, hm, rfl, rfl, hUm⟩ := hrel
                by_cases hmy : m < s4.ys.length
                · obtain ⟨y, hy⟩ : ∃ y, s4.ys[m]? = some y := ⟨_, List.getElem?_eq_getElem hmy⟩
                  have hS := L8.out.still hUm
                  obtain ⟨bq, off, cq, e, _, _, _⟩ := hS.form (by omega)
                  injection e with e1 e2 e3
                  subst e1 e3
                  have h1 := hS.cell encB_len m y hy 1 _ rfl
                  have hb := sumB_le s4.ys m F4.out.fy
                  have hp := F4.out.fineB y (List.mem_of_getElem? hy)
                  have HX9 := Lib.hid hy
                  have HUm := Lib.hid hUm
                  clear hy hS hUm
                  obtain ⟨sm, hsum⟩ : ∃ sm, sumB (s4.ys.take m) = sm := ⟨_, rfl⟩
                  rw [hsum] at hb ⊢
                  have hb1 := hb.1
                  have hb2 : sm ≤ 1000 := by omega
                  have hp0 := hp.1
                  have hp1 := hp.2
                  have HSM := Lib.hid hsum
                  clear hsum hb hp
                  go_wp2_with fail
                  go_roundw
                  case rel =>
                    refine ⟨m + 1, by omega, by go_num, ?_, HUm.out⟩
                    rw [sumB_take s4.ys m y HX9.out, HSM.out]
                    go_num
                  case measure => simp [intOf]; omega
                · have hm' : m = s4.ys.length := by omega
                  subst hm'
                  rw [List.take_length, ← HN0.out, HALL.out]
                  have S9 := Lib.hid (S8.out.still hUm)
                  have T9 := Lib.hid (T8.out.still hUm)
                  have X9 := Lib.hid (X8.out.upd hUm (fun h => h))
                  have x1 := X9.out.cell 1
                  simp at x1
                  clear hUm
                  go_wp2_with fail
                  go_roundw
                  case rel => exact ⟨i + 1, nw3, by omega, by go_num, rfl, s4, S9.out, F4.out, C4.out, by omega, by omega, T9.out, X9.out⟩
                  case measure => simp [intOf]; omega
        · go_wp2_with fail
          go_returns
          exact ⟨rfl, HTu.out.below (Below.refl _ _) (Nat.le_refl _)⟩
end Go.Proofs.Ytlhiagbcmmmjpaa
