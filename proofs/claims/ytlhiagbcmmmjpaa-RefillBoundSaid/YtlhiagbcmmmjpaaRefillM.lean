/-
  RefillBound: the walk.
-/
import Derived.Test.YtlhiagbcmmmjpaaRefillS
import Derived.Test.YtlhiagbcmmmjpaaServe
import Derived.Test.YtlhiagbcmmmjpaaSeqR
import Derived.Test.YtlhiagbcmmmjpaaInts
import Derived.Test.YtlhiagbcmmmjpaaArgs2
import Derived.Deep.CutBlock
namespace Go.Proofs.Ytlhiagbcmmmjpaa
open Go.RowKit

theorem wrap_in (x : Int) (h0 : -9223372036854775808 ≤ x) (h1 : x ≤ 9223372036854775807) : IntKind.i64.wrap x = x := by rw [IntKind.wrap_i64]; omega
theorem add_at (B j : Nat) : (⟨B, 0, none⟩ : Addr).add j = ⟨B, j, none⟩ := by unfold Addr.add; split <;> simp_all
theorem new_cells (w : World) (e : TypeId) (x : Value) : ∀ (j : Nat) (u : Value), [x][j]? = some u → (w.alloc (.cells [x].toArray e)).cell? ((⟨w.heap.size, 0, none⟩ : Addr).add j) = some u := fun j u hu => by
  rw [add_at, (Blk.new _ _ _).cell j]
  simpa using hu

/-- How it stands behind some acts. -/
def RAll (w wr : World) (g : Nat) (C T : Int) (rf : Bool) (st now : Int) (vf : Value) (m : Nat) : Prop :=
  ∃ (fr : List Int) (L : Value) (p : Bp) (xs : List (Int × Int)), RB wr w.heap.size g L p xs C T st now fr ∧ fr.length ≤ m ∧ SlR encI wr w.heap.size 3 1 vf fr ∧ Tu w.heap.size ts18 w wr ∧ Blk wr w.heap.size 23 #[.bool rf, .int .i64 C, .int .i64 T]

set_option maxRecDepth 100000 in
set_option maxHeartbeats 12800000 in
theorem refillBound_any (w : World) (s : Bool × Int × Int) (_ : (Lit.int .i64 s.2.1).wf = true ∧ (Lit.int .i64 s.2.2).wf = true) (st : Int) (hwst : (Lit.int .i64 st).wf = true) (A : Option Addr) (len cap : Nat) (ks : Nat → Nat → Int) (hw : ∀ k j, k < len → j < 2 → (Lit.int .i64 (ks k j)).wf = true) (hc : Row2 w A len ks) :
    Calls Try.prog 5 #[.agg #[.bool s.1, .int .i64 s.2.1, .int .i64 s.2.2], .int .i64 st, .slice A len cap] w fun e w' => e = .returned (.bool true) ∧ Below w.heap.size w w' := by
  have HC := Lib.hid hc; clear hc hw hwst
  generalize s.1 = rf
  generalize s.2.1 = C at *
  generalize s.2.2 = T at *
  have HX := Lib.hid (Blk.new w 23 #[.bool rf, .int .i64 C, .int .i64 T])
  obtain ⟨lb, hlb⟩ : ∃ lb, decide ((150 : Int) < (len : Int)) = lb := ⟨_, rfl⟩
  obtain ⟨t, ht⟩ : ∃ t, okS C T = t := ⟨_, rfl⟩
  have HT := Lib.hid ht; clear ht
  have HLB := Lib.hid hlb
  by_cases hno : t = false ∨ st < 0 ∨ 4611686018427387904 < st
  · have HNO : Hid (okS C T = false ∨ st < 0 ∨ 4611686018427387904 < st) := Lib.hid (hno.imp (fun e => HT.out.trans e) id)
    clear hno
    cases lb
    all_goals
      go_enter Try.func5, Try.ntmps5
      go_wp2_with fail
      refine (newB_no _ rf C T st HNO.out).mono ?_
      rintro e w1 ⟨rfl, hU⟩
      have V1 := Lib.hid (Below.upd ((Below.refl w.heap.size w).alloc (Nat.le_refl _) _) hU (by simp) (fun _ h => h.elim))
      clear hU
      go_wp2_with fail
      refine (knows18 _).mono ?_
      rintro e w2 ⟨rfl, hB2⟩
      have V2 := Lib.hid (chn V1.out hB2); clear hB2
      go_wp2_with fail
      go_returns
      exact ⟨rfl, V2.out⟩
  · have htt : t = true := by cases t with | true => rfl | false => exact absurd (.inl rfl) hno
    subst htt
    have hs0 : 0 ≤ st := by omega
    have hs1 : st ≤ 4611686018427387904 := by omega
    clear hno
    by_cases hearly : lb = true ∨ 2305843009213693952 < st
    · have HE : Hid (lb = true ∨ 2305843009213693952 < st) := Lib.hid hearly
      clear hearly
      obtain ⟨sb, hsb⟩ : ∃ b, decide (2305843009213693952 < st) = b := ⟨_, rfl⟩
      have HSB := Lib.hid hsb
      cases lb
      · have hsb' : sb = true := by rw [← HSB.out]; exact decide_eq_true (HE.out.resolve_left (by simp))
        subst hsb'
        go_enter Try.func5, Try.ntmps5
        go_wp2_with fail
        refine (newB_yes _ w.heap.size rf C T st HT.out hs0 hs1).mono ?_
        rintro e w1 ⟨g, rfl, hg, hb, hU⟩
        have V1 := Lib.hid (Below.upd ((Below.refl w.heap.size w).alloc (Nat.le_refl _) _) hU (by simp) (fun _ h => h.elim))
        clear hb hU
        go_wp2_with fail
        refine (knows18 _).mono ?_
        rintro e w2 ⟨rfl, hB2⟩
        have V2 := Lib.hid (chn V1.out hB2); clear hB2
        go_wp2_with fail
        go_returns
        exact ⟨rfl, V2.out⟩
      · go_enter Try.func5, Try.ntmps5
        go_wp2_with fail
        refine (newB_yes _ w.heap.size rf C T st HT.out hs0 hs1).mono ?_
        rintro e w1 ⟨g, rfl, hg, hb, hU⟩
        have V1 := Lib.hid (Below.upd ((Below.refl w.heap.size w).alloc (Nat.le_refl _) _) hU (by simp) (fun _ h => h.elim))
        clear hb hU
        go_wp2_with fail
        refine (knows18 _).mono ?_
        rintro e w2 ⟨rfl, hB2⟩
        have V2 := Lib.hid (chn V1.out hB2); clear hB2
        go_wp2_with fail
        go_returns
        exact ⟨rfl, V2.out⟩
    · have hlen : len ≤ 150 := by
        cases lb with
        | true => exact absurd (.inl rfl) hearly
        | false => have := of_decide_eq_false HLB.out; omega
      have hs2 : st ≤ 2305843009213693952 := by omega
      have hlb' : lb = false := by cases lb with | false => rfl | true => exact absurd (.inl rfl) hearly
      subst hlb'
      have e2 : decide (2305843009213693952 < st) = false := decide_eq_false (by omega)
      have hok := of_decide_eq_true HT.out
      have HOK := Lib.hid hok
      clear hok hearly
      go_enter Try.func5, Try.ntmps5
      go_wp2_with fail
      refine (newB_yes _ w.heap.size rf C T st HT.out hs0 hs1).mono ?_
      rintro e w1 ⟨g, rfl, hg, hb, hU⟩
      have hgb : w.heap.size ≤ g := by simp at hg; omega
      have V1 := Lib.hid (((Tu.refl w.heap.size ts18 w).alloc _).still hU)
      have X1 := Lib.hid (HX.out.upd hU (fun h => h))
      have B1 := Lib.hid hb
      clear hb hU
      go_wp2_with fail
      refine (knows18 _).mono ?_
      rintro e w2 ⟨rfl, hB2⟩
      have hU2 := Upd.mono (S' := fun _ => False) (Upd.of_below hB2) (fun k hk hle => by omega)
      have V2 := Lib.hid (V1.out.still hU2)
      have X2 := Lib.hid (X1.out.upd hU2 (fun h => h))
      have B2 := Lib.hid (B1.out.still' hU2)
      clear hB2 hU2
      have HR0 : Hid (RB w2 w.heap.size g (.slice none 0 0) (Bp.new rf C T st) [] C T st st []) := Lib.hid ⟨B2.out, hgb, ⟨rfl, rfl, HOK.out.1, HOK.out.2.1, HOK.out.2.2, hs0, Int.le_refl _, by show 0 ≤ C; have := HOK.out.1; omega, (fun _ h => by cases h), by simp, by show C + 0 ≤ C; omega⟩, rfl, rfl, RWin.new rf C T st (by have := HOK.out.1; omega) hs0, hs0⟩
      go_wp2_with fail
      go_loopw [8, 9, 10] (fun vn vf vi wr => ∃ (i : Nat) (nw : Int), i ≤ len ∧ vi = .int .i64 i ∧ vn = .int .i64 nw ∧ st ≤ nw ∧ nw ≤ st + i * 20 ∧ RAll w wr g C T rf st nw vf i) (fun _ _ vi _ => len - (intOf vi).toNat)
      case atStart => exact ⟨0, st, by omega, rfl, rfl, by omega, by omega, [], _, _, [], HR0.out, Nat.le_refl _, SlR.nil, V2.out, X2.out⟩
      case round =>
        clear X2 B2 V2 X1 B1 V1 HR0
        obtain ⟨i, nw, hi, rfl, rfl, hn0, hn1, ⟨fr, L, p, xs, hR, hfl, hfs, hT, hX⟩⟩ := hrel
        have HR := Lib.hid hR; have HTu := Lib.hid hT; have HXr := Lib.hid hX
        obtain ⟨Af, cf, rfl⟩ := hfs.shape
        have HFS := Lib.hid hfs
        clear hR hT hX hfs
        by_cases hlt : i < len
        · obtain ⟨b, o, rfl, hab, h0, h1⟩ := HC.out i hlt
          have HH0 : Hid (∀ wx, Tu w.heap.size ts18 w wx → wx.cell? ⟨b, o + i * 2, none⟩ = some (.int .i64 (ks i 0))) := Lib.hid (fun wx hu => (hu.cell (p := ⟨b, o + i * 2, none⟩) hab hab).trans h0)
          have HH1 : Hid (∀ wx, Tu w.heap.size ts18 w wx → wx.cell? ⟨b, o + i * 2 + 1, none⟩ = some (.int .i64 (ks i 1))) := Lib.hid (fun wx hu => (hu.cell (p := ⟨b, o + i * 2 + 1, none⟩) hab hab).trans h1)
          generalize ks i 0 = kind at *
          generalize ks i 1 = N at *
          clear h0 h1
          go_wp2_with fail
          refine (liveB _ w.heap.size g L p xs HR.out.b HR.out.f.few.2.2.2.2.2.1 HR.out.f.few.1).mono ?_
          rintro e w4 ⟨v, rfl, hv, hU4⟩
          obtain ⟨Av, cv, rfl⟩ := hv.shape
          have HLB4 : Hid (∀ k, k = g ∨ slBlk L = some k → k < wr.heap.size) := Lib.hid (fun k e => e.elim (fun e => by rw [e]; exact HR.out.b.b.lt) (fun e => (Sl.blk HR.out.b.s k e).2.1))
          have R4 := Lib.hid (HR.out.still hU4)
          have T4 := Lib.hid (HTu.out.still hU4)
          have X4 := Lib.hid (HXr.out.upd hU4 (fun h => h))
          have FS4 := Lib.hid (HFS.out.still hU4)
          have L4 := Lib.hid hv
          have h0 := HH0.out _ T4.out
          clear hv hU4
          go_upto_block 2 with fail
          go_cut [8, 9, 12] from 53 to 107 (fun s8 s9 _ wx => ∃ nw' : Int, s8 = .int .i64 nw' ∧ st ≤ nw' ∧ nw' ≤ st + (i + 1 : Nat) * 20 ∧ RAll w wx g C T rf st nw' s9 (i + 1))
          case first =>
            by_cases hk0 : kind = 0
            · subst hk0
              go_wp2_with fail
              go_loopw [8, 12] (fun vn vk wq => ∃ k : Nat, k ≤ 20 ∧ vk = .int .i64 k ∧ vn = .int .i64 (nw + k) ∧ (∃ L p xs, RB wq w.heap.size g L p xs C T st (nw + k) fr) ∧ SlR encI wq w.heap.size 3 1 (.slice Af fr.length cf) fr ∧ Tu w.heap.size ts18 w wq ∧ Blk wq w.heap.size 23 #[.bool rf, .int .i64 C, .int .i64 T]) (fun _ vk _ => 20 - (intOf vk).toNat)
              case atStart => exact ⟨0, Nat.zero_le _, rfl, by simp, ⟨L, p, xs, by simpa using R4.out⟩, FS4.out, T4.out, X4.out⟩
              case round =>
                obtain ⟨k, hk, rfl, rfl, ⟨Lk, pk, xk, hRk⟩, hFSk, hTk, hXk⟩ := hrel
                have Rk := Lib.hid hRk; have FSk := Lib.hid hFSk; have Tk := Lib.hid hTk; have Xk := Lib.hid hXk
                have h0 := HH0.out _ hTk
                have h1 := HH1.out _ hTk
                clear hRk hFSk hTk hXk
                by_cases hN : (k : Int) < N
                · have dN : decide ((k : Int) < N) = true := decide_eq_true hN
                  by_cases h20 : k < 20
                  · go_wp2_with fail
                    refine (goRB _ w.heap.size g Lk pk xk C T st (nw + k) fr Rk.out Tk.out.size (by omega) true).mono ?_
                    rintro e w5 ⟨rfl, ⟨L5, p5, x5, hR5⟩, hT5⟩
                    have R5 := Lib.hid hR5
                    have FS5 : Hid (SlR encI w5 w.heap.size 3 1 (.slice Af fr.length cf) fr) := Lib.hid (Sl.tu FSk.out hT5 (by decide))
                    have T5 := Lib.hid (Tk.out.trans (hT5.mono (Nat.le_refl _) ts18_sub))
                    have X5 := Lib.hid (Xk.out.tu hT5 (by decide))
                    clear hR5 hT5
                    go_wp2_with fail
                    go_roundw
                    case rel => exact ⟨k + 1, by omega, by go_num, by go_num, ⟨L5, p5, x5, by have := R5.out; rw [show nw + ((k + 1 : Nat) : Int) = nw + k + 1 by omega]; exact this⟩, FS5.out, T5.out, X5.out⟩
                    case measure => simp [intOf]; omega
                  · go_wp2_with fail
                    go_meet
                    exact ⟨nw + k, rfl, by omega, by omega, fr, Lk, pk, xk, Rk.out, by omega, FSk.out, Tk.out, Xk.out⟩
                · have dN : decide ((k : Int) < N) = false := decide_eq_false hN
                  go_wp2_with fail
                  go_meet
                  exact ⟨nw + k, rfl, by omega, by omega, fr, Lk, pk, xk, Rk.out, by omega, FSk.out, Tk.out, Xk.out⟩
            by_cases hk1 : kind = 1
            · subst hk1
              go_wp2_with fail
              go_loopw [8, 12] (fun vn vk wq => ∃ k : Nat, k ≤ 20 ∧ vk = .int .i64 k ∧ vn = .int .i64 (nw + k) ∧ (∃ L p xs, RB wq w.heap.size g L p xs C T st (nw + k) fr) ∧ SlR encI wq w.heap.size 3 1 (.slice Af fr.length cf) fr ∧ Tu w.heap.size ts18 w wq ∧ Blk wq w.heap.size 23 #[.bool rf, .int .i64 C, .int .i64 T]) (fun _ vk _ => 20 - (intOf vk).toNat)
              case atStart => exact ⟨0, Nat.zero_le _, rfl, by simp, ⟨L, p, xs, by simpa using R4.out⟩, FS4.out, T4.out, X4.out⟩
              case round =>
                obtain ⟨k, hk, rfl, rfl, ⟨Lk, pk, xk, hRk⟩, hFSk, hTk, hXk⟩ := hrel
                have Rk := Lib.hid hRk; have FSk := Lib.hid hFSk; have Tk := Lib.hid hTk; have Xk := Lib.hid hXk
                have h0 := HH0.out _ hTk
                have h1 := HH1.out _ hTk
                clear hRk hFSk hTk hXk
                by_cases hN : (k : Int) < N
                · have dN : decide ((k : Int) < N) = true := decide_eq_true hN
                  by_cases h20 : k < 20
                  · go_wp2_with fail
                    refine (goRB _ w.heap.size g Lk pk xk C T st (nw + k) fr Rk.out Tk.out.size (by omega) true).mono ?_
                    rintro e w5 ⟨rfl, ⟨L5, p5, x5, hR5⟩, hT5⟩
                    have R5 := Lib.hid hR5
                    have FS5 : Hid (SlR encI w5 w.heap.size 3 1 (.slice Af fr.length cf) fr) := Lib.hid (Sl.tu FSk.out hT5 (by decide))
                    have T5 := Lib.hid (Tk.out.trans (hT5.mono (Nat.le_refl _) ts18_sub))
                    have X5 := Lib.hid (Xk.out.tu hT5 (by decide))
                    clear hR5 hT5
                    go_wp2_with fail
                    go_roundw
                    case rel => exact ⟨k + 1, by omega, by go_num, by go_num, ⟨L5, p5, x5, by have := R5.out; rw [show nw + ((k + 1 : Nat) : Int) = nw + k + 1 by omega]; exact this⟩, FS5.out, T5.out, X5.out⟩
                    case measure => simp [intOf]; omega
                  · go_wp2_with fail
                    go_meet
                    exact ⟨nw + k, rfl, by omega, by omega, fr, Lk, pk, xk, Rk.out, by omega, FSk.out, Tk.out, Xk.out⟩
                · have dN : decide ((k : Int) < N) = false := decide_eq_false hN
                  go_wp2_with fail
                  go_meet
                  exact ⟨nw + k, rfl, by omega, by omega, fr, Lk, pk, xk, Rk.out, by omega, FSk.out, Tk.out, Xk.out⟩
            by_cases hk2 : kind = 2
            · subst hk2
              go_wp2_with fail
              go_loopw [8, 12] (fun vn vk wq => ∃ k : Nat, k ≤ 20 ∧ vk = .int .i64 k ∧ vn = .int .i64 (nw + k) ∧ (∃ L p xs, RB wq w.heap.size g L p xs C T st (nw + k) fr) ∧ SlR encI wq w.heap.size 3 1 (.slice Af fr.length cf) fr ∧ Tu w.heap.size ts18 w wq ∧ Blk wq w.heap.size 23 #[.bool rf, .int .i64 C, .int .i64 T]) (fun _ vk _ => 20 - (intOf vk).toNat)
              case atStart => exact ⟨0, Nat.zero_le _, rfl, by simp, ⟨L, p, xs, by simpa using R4.out⟩, FS4.out, T4.out, X4.out⟩
              case round =>
                obtain ⟨k, hk, rfl, rfl, ⟨Lk, pk, xk, hRk⟩, hFSk, hTk, hXk⟩ := hrel
                have Rk := Lib.hid hRk; have FSk := Lib.hid hFSk; have Tk := Lib.hid hTk; have Xk := Lib.hid hXk
                have h0 := HH0.out _ hTk
                have h1 := HH1.out _ hTk
                clear hRk hFSk hTk hXk
                by_cases hN : (k : Int) < N
                · have dN : decide ((k : Int) < N) = true := decide_eq_true hN
                  by_cases h20 : k < 20
                  · go_wp2_with fail
                    refine (goRB _ w.heap.size g Lk pk xk C T st (nw + k) fr Rk.out Tk.out.size (by omega) false).mono ?_
                    rintro e w5 ⟨rfl, ⟨L5, p5, x5, hR5⟩, hT5⟩
                    have R5 := Lib.hid hR5
                    have FS5 : Hid (SlR encI w5 w.heap.size 3 1 (.slice Af fr.length cf) fr) := Lib.hid (Sl.tu FSk.out hT5 (by decide))
                    have T5 := Lib.hid (Tk.out.trans (hT5.mono (Nat.le_refl _) ts18_sub))
                    have X5 := Lib.hid (Xk.out.tu hT5 (by decide))
                    clear hR5 hT5
                    go_wp2_with fail
                    go_roundw
                    case rel => exact ⟨k + 1, by omega, by go_num, by go_num, ⟨L5, p5, x5, by have := R5.out; rw [show nw + ((k + 1 : Nat) : Int) = nw + k + 1 by omega]; exact this⟩, FS5.out, T5.out, X5.out⟩
                    case measure => simp [intOf]; omega
                  · go_wp2_with fail
                    go_meet
                    exact ⟨nw + k, rfl, by omega, by omega, fr, Lk, pk, xk, Rk.out, by omega, FSk.out, Tk.out, Xk.out⟩
                · have dN : decide ((k : Int) < N) = false := decide_eq_false hN
                  go_wp2_with fail
                  go_meet
                  exact ⟨nw + k, rfl, by omega, by omega, fr, Lk, pk, xk, Rk.out, by omega, FSk.out, Tk.out, Xk.out⟩
            by_cases hk3 : kind = 3
            · subst hk3
              cases xs with
              | nil =>
                go_wp2_with fail
                refine (useRB0 _ w.heap.size g L p C T st nw fr R4.out).mono ?_
                rintro e w5 ⟨rfl, ⟨L5, p5, x5, hR5⟩, hT5⟩
                have R5 := Lib.hid hR5
                have FS5 : Hid (SlR encI w5 w.heap.size 3 1 (.slice Af fr.length cf) fr) := Lib.hid (Sl.tu FS4.out hT5 (by decide))
                have T5 := Lib.hid (T4.out.trans (hT5.mono (Nat.le_refl _) ts18_sub))
                have X5 := Lib.hid (X4.out.tu hT5 (by decide))
                clear hR5 hT5
                go_wp2_with fail
                go_meet
                exact ⟨nw, rfl, hn0, by omega, fr, L5, p5, x5, R5.out, by omega, FS5.out, T5.out, X5.out⟩
              | cons x t =>
                have hxl2 := R4.out.f.few.1
                simp only [List.length_cons] at hxl2
                obtain ⟨bv, ov, cv', e, _, hbv, _, _⟩ := L4.out.form (by simp)
                injection e with e1 e2 e3
                subst e1 e3
                have CA : Hid (w4.cell? ⟨bv, ov, none⟩ = some (.int .i64 x.1)) := Lib.hid (L4.out.cell 0 (.int .i64 x.1) rfl)
                have hbvge : wr.heap.size ≤ bv := (Sl.blk L4.out bv rfl).1
                have hlen1 : (x :: t).length = t.length + 1 := rfl
                rw [hlen1]
                have e0 : (((t.length + 1 : Nat) : Int) == 0) = false := beq_eq_false_iff_ne.2 (by omega)
                clear hlen1
                go_wp2_with fail
                refine (useRB1 _ w.heap.size g L p x t C T st nw fr R4.out).mono ?_
                rintro e w5 ⟨rfl, ⟨L5, p5, x5, hR5⟩, hU5⟩
                have hT5 := R4.out.b.tuGL hgb hU5
                have R5 := Lib.hid hR5
                have FS5 : Hid (SlR encI w5 w.heap.size 3 1 (.slice Af fr.length cf) fr) := Lib.hid (Sl.tu FS4.out hT5 (by decide))
                have T5 := Lib.hid (T4.out.trans (hT5.mono (Nat.le_refl _) ts18_sub))
                have X5 := Lib.hid (X4.out.tu hT5 (by decide))
                have ca : w5.cell? ⟨bv, ov, none⟩ = some (.int .i64 x.1) := (hU5.cell (p := ⟨bv, ov, none⟩) hbv (fun e => by have := HLB4.out bv e; omega)).trans CA.out
                have hsz5 : w.heap.size ≤ w5.heap.size := T5.out.size
                clear hR5 hT5 hU5
                obtain ⟨i0, hi0, hz0, hz1, hz2⟩ := info_parts infoInt
                go_wp2_with (
                  at_builtin
                  refine wpList_append_sl rfl (.tmp 89) (.tmp 94) 45 rfl w.heap.size 3 i0 _ 1 8 Try.underlying45 hi0 hz0 hz1 hz2 rfl (by decide) _ fr.length (rws encI fr) rfl (Sl.alloc FS5.out _) ⟨_, 0, none⟩ 1 [.int .i64 x.1] rfl rfl (new_cells _ _ _) (by simp [Value.oneCell']) (by unfold maxLen; omega) (by omega) (by simp; omega) ?_
                  intro v' w6 hs6 hu6 hv6
                  obtain ⟨bq, oq, cq, rfl, _, _, _, _⟩ := hs6.form (by omega)
                  have FS6 := Lib.hid hs6
                  have U6 := Lib.hid (((Tu.refl w.heap.size [3] w5).alloc (.cells #[.int .i64 x.1] 3)).trans (Tu.of hu6 (fun k _ e => by
                    obtain ⟨h1, _, cur, hc⟩ := Sl.blk (Sl.alloc FS5.out (.cells #[.int .i64 x.1] 3)) k e
                    exact ⟨h1, _, _, hc, by decide⟩)))
                  clear hs6 hu6 hv6)
                go_meet
                have FS7 : SlR encI w6 w.heap.size 3 1 (.slice (some ⟨bq, oq, none⟩) (fr.length + 1) cq) (fr ++ [x.1]) := by
                  unfold SlR
                  rw [List.length_append, rws_append]
                  exact FS6.out
                exact ⟨nw, rfl, hn0, by omega, fr ++ [x.1], L5, p5, x5, R5.out.tuI U6.out, by simp; omega, FS7, T5.out.trans (U6.out.mono (Nat.le_refl _) (by decide)), X5.out.tu U6.out (by decide)⟩
            by_cases hk4 : kind = 4
            · subst hk4
              cases xs with
              | nil =>
                go_wp2_with fail
                refine (useRB0 _ w.heap.size g L p C T st nw fr R4.out).mono ?_
                rintro e w5 ⟨rfl, ⟨L5, p5, x5, hR5⟩, hT5⟩
                have R5 := Lib.hid hR5
                have FS5 : Hid (SlR encI w5 w.heap.size 3 1 (.slice Af fr.length cf) fr) := Lib.hid (Sl.tu FS4.out hT5 (by decide))
                have T5 := Lib.hid (T4.out.trans (hT5.mono (Nat.le_refl _) ts18_sub))
                have X5 := Lib.hid (X4.out.tu hT5 (by decide))
                clear hR5 hT5
                go_wp2_with fail
                go_meet
                exact ⟨nw, rfl, hn0, by omega, fr, L5, p5, x5, R5.out, by omega, FS5.out, T5.out, X5.out⟩
              | cons x t =>
                have hxl2 := R4.out.f.few.1
                simp only [List.length_cons] at hxl2
                obtain ⟨bv, ov, cv', e, _, hbv, _, _⟩ := L4.out.form (by simp)
                injection e with e1 e2 e3
                subst e1 e3
                have CA : Hid (w4.cell? ⟨bv, ov, none⟩ = some (.int .i64 x.1)) := Lib.hid (L4.out.cell 0 (.int .i64 x.1) rfl)
                have hbvge : wr.heap.size ≤ bv := (Sl.blk L4.out bv rfl).1
                have hlen1 : (x :: t).length = t.length + 1 := rfl
                rw [hlen1]
                have e0 : (((t.length + 1 : Nat) : Int) == 0) = false := beq_eq_false_iff_ne.2 (by omega)
                clear hlen1
                go_wp2_with fail
                refine (useRB1 _ w.heap.size g L p x t C T st nw fr R4.out).mono ?_
                rintro e w5 ⟨rfl, ⟨L5, p5, x5, hR5⟩, hU5⟩
                have hT5 := R4.out.b.tuGL hgb hU5
                have R5 := Lib.hid hR5
                have FS5 : Hid (SlR encI w5 w.heap.size 3 1 (.slice Af fr.length cf) fr) := Lib.hid (Sl.tu FS4.out hT5 (by decide))
                have T5 := Lib.hid (T4.out.trans (hT5.mono (Nat.le_refl _) ts18_sub))
                have X5 := Lib.hid (X4.out.tu hT5 (by decide))
                have ca : w5.cell? ⟨bv, ov, none⟩ = some (.int .i64 x.1) := (hU5.cell (p := ⟨bv, ov, none⟩) hbv (fun e => by have := HLB4.out bv e; omega)).trans CA.out
                have hsz5 : w.heap.size ≤ w5.heap.size := T5.out.size
                clear hR5 hT5 hU5
                obtain ⟨i0, hi0, hz0, hz1, hz2⟩ := info_parts infoInt
                go_wp2_with (
                  at_builtin
                  refine wpList_append_sl rfl (.tmp 89) (.tmp 94) 45 rfl w.heap.size 3 i0 _ 1 8 Try.underlying45 hi0 hz0 hz1 hz2 rfl (by decide) _ fr.length (rws encI fr) rfl (Sl.alloc FS5.out _) ⟨_, 0, none⟩ 1 [.int .i64 x.1] rfl rfl (new_cells _ _ _) (by simp [Value.oneCell']) (by unfold maxLen; omega) (by omega) (by simp; omega) ?_
                  intro v' w6 hs6 hu6 hv6
                  obtain ⟨bq, oq, cq, rfl, _, _, _, _⟩ := hs6.form (by omega)
                  have FS6 := Lib.hid hs6
                  have U6 := Lib.hid (((Tu.refl w.heap.size [3] w5).alloc (.cells #[.int .i64 x.1] 3)).trans (Tu.of hu6 (fun k _ e => by
                    obtain ⟨h1, _, cur, hc⟩ := Sl.blk (Sl.alloc FS5.out (.cells #[.int .i64 x.1] 3)) k e
                    exact ⟨h1, _, _, hc, by decide⟩)))
                  clear hs6 hu6 hv6)
                go_meet
                have FS7 : SlR encI w6 w.heap.size 3 1 (.slice (some ⟨bq, oq, none⟩) (fr.length + 1) cq) (fr ++ [x.1]) := by
                  unfold SlR
                  rw [List.length_append, rws_append]
                  exact FS6.out
                exact ⟨nw, rfl, hn0, by omega, fr ++ [x.1], L5, p5, x5, R5.out.tuI U6.out, by simp; omega, FS7, T5.out.trans (U6.out.mono (Nat.le_refl _) (by decide)), X5.out.tu U6.out (by decide)⟩
            by_cases hk5 : kind = 5
            · subst hk5
              go_wp2_with fail
              refine (doneRB _ w.heap.size g L p xs C T st nw fr R4.out).mono ?_
              rintro e w5 ⟨rfl, ⟨L5, p5, x5, hR5⟩, hT5⟩
              have R5 := Lib.hid hR5
              have FS5 : Hid (SlR encI w5 w.heap.size 3 1 (.slice Af fr.length cf) fr) := Lib.hid (Sl.tu FS4.out hT5 (by decide))
              have T5 := Lib.hid (T4.out.trans (hT5.mono (Nat.le_refl _) ts18_sub))
              have X5 := Lib.hid (X4.out.tu hT5 (by decide))
              clear hR5 hT5
              go_wp2_with fail
              go_meet
              exact ⟨nw, rfl, hn0, by omega, fr, L5, p5, x5, R5.out, by omega, FS5.out, T5.out, X5.out⟩
            by_cases hk6 : kind = 6
            · subst hk6
              go_wp2_with fail
              refine (stopRB _ w.heap.size g L p xs C T st nw fr R4.out).mono ?_
              rintro e w5 ⟨rfl, ⟨L5, p5, x5, hR5⟩, hT5⟩
              have R5 := Lib.hid hR5
              have FS5 : Hid (SlR encI w5 w.heap.size 3 1 (.slice Af fr.length cf) fr) := Lib.hid (Sl.tu FS4.out hT5 (by decide))
              have T5 := Lib.hid (T4.out.trans (hT5.mono (Nat.le_refl _) ts18_sub))
              have X5 := Lib.hid (X4.out.tu hT5 (by decide))
              clear hR5 hT5
              go_wp2_with fail
              go_meet
              exact ⟨nw, rfl, hn0, by omega, fr, L5, p5, x5, R5.out, by omega, FS5.out, T5.out, X5.out⟩
            by_cases hk7 : kind = 7
            · subst hk7
              go_wp2_with fail
              refine (resumeRB _ w.heap.size g L p xs C T st nw fr R4.out).mono ?_
              rintro e w5 ⟨rfl, ⟨L5, p5, x5, hR5⟩, hT5⟩
              have R5 := Lib.hid hR5
              have FS5 : Hid (SlR encI w5 w.heap.size 3 1 (.slice Af fr.length cf) fr) := Lib.hid (Sl.tu FS4.out hT5 (by decide))
              have T5 := Lib.hid (T4.out.trans (hT5.mono (Nat.le_refl _) ts18_sub))
              have X5 := Lib.hid (X4.out.tu hT5 (by decide))
              clear hR5 hT5
              go_wp2_with fail
              go_meet
              exact ⟨nw, rfl, hn0, by omega, fr, L5, p5, x5, R5.out, by omega, FS5.out, T5.out, X5.out⟩
            have n0 : (kind == 0) = false := beq_eq_false_iff_ne.2 hk0
            have n1 : (kind == 1) = false := beq_eq_false_iff_ne.2 hk1
            have n2 : (kind == 2) = false := beq_eq_false_iff_ne.2 hk2
            have n3 : (kind == 3) = false := beq_eq_false_iff_ne.2 hk3
            have n4 : (kind == 4) = false := beq_eq_false_iff_ne.2 hk4
            have n5 : (kind == 5) = false := beq_eq_false_iff_ne.2 hk5
            have n6 : (kind == 6) = false := beq_eq_false_iff_ne.2 hk6
            have n7 : (kind == 7) = false := beq_eq_false_iff_ne.2 hk7
            clear hk0 hk1 hk2 hk3 hk4 hk5 hk6 hk7
            go_wp2_with fail
            go_meet
            exact ⟨nw, rfl, hn0, by omega, fr, L, p, xs, R4.out, by omega, FS4.out, T4.out, X4.out⟩
          case rest =>
            obtain ⟨nw', rfl, hn0', hn1', fr', L', p', xs', hR', hfl', hfs', hT', hX'⟩ := hcut
            have R5 := Lib.hid hR'; have T5 := Lib.hid hT'; have X5 := Lib.hid hX'
            obtain ⟨Af5, cf5, rfl⟩ := hfs'.shape
            have FS5 := Lib.hid hfs'
            clear hR' hT' hX' hfs' R4 T4 X4 FS4 L4 HR HTu HXr HFS h0
            go_wp2_with fail
            refine (freeB _ w.heap.size g L' p' xs' R5.out.b R5.out.f.few.2.2.2.2.2.1).mono ?_
            rintro e w5 ⟨rfl, k5, rfl⟩
            go_wp2_with fail
            refine (liveB _ w.heap.size g L' p' xs' (R5.out.b.drewN _) R5.out.f.few.2.2.2.2.2.1 R5.out.f.few.1).mono ?_
            rintro e w6 ⟨v6, rfl, hv6, hU6⟩
            obtain ⟨Av6, cv6, rfl⟩ := hv6.shape
            have hUU := ((Upd.refl (fun _ => False) wc).drewN k5).trans hU6
            have R6 := Lib.hid (R5.out.still hUU)
            have T6 := Lib.hid (T5.out.still hUU)
            have X6 := Lib.hid (X5.out.upd hUU (fun h => h))
            have FS6 := Lib.hid (FS5.out.still hUU)
            have S6 := Lib.hid hv6
            clear hv6 hU6 hUU R5 T5 X5 FS5
            have hfew := R6.out.f.few
            have hfree0 := R6.out.f.free
            have hfree1 : p'.free ≤ 1000 := hfew.2.1
            have hsl1 : sumL xs' ≤ 1000 := hfew.2.2.1
            have hxl' : xs'.length ≤ 1000 := hfew.1
            have hsumC : Hid (p'.free + sumL xs' ≤ C) := Lib.hid R6.out.f.sum
            clear hfew
            go_wp2_with fail
            go_loopw [13, 15] (fun vn vk wq => ∃ k : Nat, k ≤ xs'.length ∧ vk = .int .i64 k ∧ vn = .int .i64 (p'.free + sumL (xs'.take k)) ∧ Upd (fun _ => False) w6 wq) (fun _ vk _ => xs'.length - (intOf vk).toNat)
            case atStart => exact ⟨0, Nat.zero_le _, rfl, by simp [sumL], Upd.refl _ _⟩
            case round =>
              obtain ⟨k, hk, rfl, rfl, hUq⟩ := hrel
              by_cases hky : k < xs'.length
              · obtain ⟨x, hx⟩ : ∃ x, xs'[k]? = some x := ⟨_, List.getElem?_eq_getElem hky⟩
                have hS := S6.out.upd hUq (fun _ _ h => h)
                obtain ⟨bq, off, cq, e, _, _, _⟩ := hS.form (by omega)
                injection e with e1 e2 e3
                subst e1 e3
                have h1 := hS.cell _ _ (chk_at xs' k x hx).2
                rw [← Nat.add_assoc] at h1
                have hb := sumL_bound _ (fineL_take R6.out.f.fine k)
                have hx2 := R6.out.f.fine x (List.mem_of_getElem? hx)
                have hlen' : (xs'.take k).length = k := by rw [List.length_take]; omega
                rw [hlen'] at hb
                obtain ⟨sm, hsum⟩ : ∃ sm, sumL (xs'.take k) = sm := ⟨_, rfl⟩
                rw [hsum] at hb ⊢
                have hb1 := hb.1
                have hb2 := hb.2
                have HX9 := Lib.hid hx
                have HUq := Lib.hid hUq
                have HSM := Lib.hid hsum
                clear hx hS hb hlen' hUq hsum
                go_wp2_with fail
                go_roundw
                case rel =>
                  refine ⟨k + 1, by omega, by go_num, ?_, HUq.out⟩
                  rw [sumL_take xs' k x HX9.out, HSM.out, Int.add_assoc]
                case measure => simp [intOf]; omega
              · have hk' : k = xs'.length := by omega
                subst hk'
                rw [List.take_length]
                have R7 := Lib.hid (R6.out.still hUq)
                have T7 := Lib.hid (T6.out.still hUq)
                have X7 := Lib.hid (X6.out.upd hUq (fun h => h))
                have FS7 := Lib.hid (FS6.out.still hUq)
                have x1 := X7.out.cell 1
                simp at x1
                have dC : decide (C < p'.free + sumL xs') = false := decide_eq_false (by have := hsumC.out; omega)
                clear hUq
                go_wp2_with fail
                go_roundw
                case rel => exact ⟨i + 1, nw', by omega, by go_num, rfl, hn0', hn1', fr', L', p', xs', R7.out, hfl', FS7.out, T7.out, X7.out⟩
                case measure => simp [intOf]; omega
        · go_wp2_with fail
          have hT1 : 1 ≤ T := by have := HOK.out.1; have := HOK.out.2.1; omega
          have hT2 : T ≤ 1000 := HOK.out.2.2
          have HLAW : Hid (∀ a hi, a ∈ fr → hi ∈ fr → a ≤ hi → cnt a hi fr ≤ C * ((hi + T - a - 1) / T + 1)) := Lib.hid (fun a hi ha hb hle => HR.out.r.law HR.out.f a hi ha hb hle)
          have HFR : Hid (∀ x ∈ fr, st ≤ x ∧ x ≤ st + 1000000) := Lib.hid (fun x hx => by have := HR.out.r.fr_ x hx; omega)
          have hfl2 : fr.length ≤ 10000 := by omega
          have XW := Lib.hid HXr.out
          have FW := Lib.hid HFS.out
          have VB := Lib.hid (HTu.out.below (Below.refl _ _) (Nat.le_refl _))
          obtain ⟨W0, rfl⟩ : ∃ W0 : World, W0 = wr := ⟨_, rfl⟩
          clear HR HTu HXr HFS
          go_loopw [16] (fun vi wr => ∃ i : Nat, i ≤ fr.length ∧ vi = .int .i64 i ∧ Upd (fun _ => False) W0 wr) (fun vi _ => fr.length - (intOf vi).toNat)
          case atStart => exact ⟨0, Nat.zero_le _, rfl, Upd.refl _ _⟩
          case round =>
            obtain ⟨i, hi, rfl, hUi⟩ := hrel
            have UI := Lib.hid hUi; clear hUi
            by_cases hli : i < fr.length
            · obtain ⟨x, hx⟩ : ∃ x, fr[i]? = some x := ⟨_, List.getElem?_eq_getElem hli⟩
              obtain ⟨bf, of_, cf', e, _, _, _⟩ := FW.out.form (by omega)
              injection e with e1 e2 e3
              subst e1 e3
              have HXx := Lib.hid hx; clear hx
              go_wp2_with fail
              go_loopw [17] (fun vk wr => ∃ k : Nat, k ≤ fr.length ∧ vk = .int .i64 k ∧ Upd (fun _ => False) W0 wr) (fun vk _ => fr.length - (intOf vk).toNat)
              case atStart => exact ⟨0, Nat.zero_le _, rfl, UI.out⟩
              case round =>
                obtain ⟨k, hk, rfl, hUk⟩ := hrel
                have UK := Lib.hid hUk; clear hUk
                by_cases hlk : k < fr.length
                · obtain ⟨y, hy⟩ : ∃ y, fr[k]? = some y := ⟨_, List.getElem?_eq_getElem hlk⟩
                  have ci := (FW.out.still UK.out).cell encI_len i x HXx.out 0 _ rfl
                  have ck := (FW.out.still UK.out).cell encI_len k y hy 0 _ rfl
                  simp only [Nat.mul_one, Nat.add_zero] at ci ck
                  have hxb := HFR.out x (List.mem_of_getElem? HXx.out)
                  have hyb := HFR.out y (List.mem_of_getElem? hy)
                  have HY := Lib.hid hy; clear hy
                  obtain ⟨byx, hbyx⟩ : ∃ b, decide (y < x) = b := ⟨_, rfl⟩
                  have HBYX := Lib.hid hbyx
                  have CI := Lib.hid ci; have CK := Lib.hid ck
                  cases byx
                  rotate_left
                  · go_wp2_with fail
                    go_quiet (fail)
                    go_wp2_with fail
                    go_roundw
                    case rel => exact ⟨k + 1, by omega, by go_num, UK.out.drewN _⟩
                    case measure => simp [intOf]; omega
                  · have hle := of_decide_eq_false HBYX.out
                    have HLE := Lib.hid (Int.not_lt.1 hle)
                    clear hle
                    go_wp2_with fail
                    go_quiet (fail)
                    clear hbyx
                    go_wp2_with fail
                    go_loopw [18, 19] (fun vn vj wr => ∃ j : Nat, j ≤ fr.length ∧ vj = .int .i64 j ∧ vn = .int .i64 (cnt x y (fr.take j)) ∧ Upd (fun _ => False) W0 wr) (fun _ vj _ => fr.length - (intOf vj).toNat)
                    case atStart => exact ⟨0, Nat.zero_le _, rfl, rfl, UK.out.drewN _⟩
                    case round =>
                      clear ci ck
                      obtain ⟨j, hj, rfl, rfl, hUj⟩ := hrel
                      have UJ := Lib.hid hUj; clear hUj
                      have ci := (FW.out.still UJ.out).cell encI_len i x HXx.out 0 _ rfl
                      have ck := (FW.out.still UJ.out).cell encI_len k y HY.out 0 _ rfl
                      simp only [Nat.mul_one, Nat.add_zero] at ci ck
                      by_cases hlj : j < fr.length
                      · obtain ⟨z, hz⟩ : ∃ z, fr[j]? = some z := ⟨_, List.getElem?_eq_getElem hlj⟩
                        have cj := (FW.out.still UJ.out).cell encI_len j z hz 0 _ rfl
                        simp only [Nat.mul_one, Nat.add_zero] at cj
                        have HZ := Lib.hid hz; clear hz
                        have hcb := cnt_bd x y (fr.take j)
                        have hcl : (fr.take j).length ≤ j := List.length_take_le _ _
                        obtain ⟨c, hc⟩ : ∃ c, cnt x y (fr.take j) = c := ⟨_, rfl⟩
                        rw [hc] at hcb ⊢
                        have hc0 := hcb.1
                        have hc1 : c ≤ 10000 := by omega
                        have HCC := Lib.hid hc
                        clear hc hcb hcl
                        by_cases h1 : x ≤ z
                        · have d1 : decide (x ≤ z) = true := decide_eq_true h1
                          by_cases h2 : z ≤ y
                          · have d2 : decide (z ≤ y) = true := decide_eq_true h2
                            have HH := Lib.hid (And.intro h1 h2)
                            clear h1 h2
                            go_wp2_with fail
                            go_quiet (fail)
                            go_wp2_with fail
                            go_roundw
                            case rel =>
                              refine ⟨j + 1, by omega, by go_num, ?_, UJ.out.drewN _⟩
                              rw [cnt_take x y fr j z HZ.out, HCC.out, if_pos HH.out]
                            case measure => simp [intOf]; omega
                          · have d2 : decide (z ≤ y) = false := decide_eq_false h2
                            have HH : Hid (¬ (x ≤ z ∧ z ≤ y)) := Lib.hid (fun h => h2 h.2)
                            clear h1 h2
                            go_wp2_with fail
                            go_quiet (fail)
                            go_wp2_with fail
                            go_roundw
                            case rel =>
                              refine ⟨j + 1, by omega, by go_num, ?_, UJ.out.drewN _⟩
                              rw [cnt_take x y fr j z HZ.out, HCC.out, if_neg (by have := HH.out; omega), Int.add_zero]
                            case measure => simp [intOf]; omega
                        · have d1 : decide (x ≤ z) = false := decide_eq_false h1
                          have HH : Hid (¬ (x ≤ z ∧ z ≤ y)) := Lib.hid (fun h => h1 h.1)
                          clear h1
                          go_wp2_with fail
                          go_quiet (fail)
                          go_wp2_with fail
                          go_roundw
                          case rel =>
                            refine ⟨j + 1, by omega, by go_num, ?_, UJ.out.drewN _⟩
                            rw [cnt_take x y fr j z HZ.out, HCC.out, if_neg (by have := HH.out; omega), Int.add_zero]
                          case measure => simp [intOf]; omega
                      · have hj' : j = fr.length := by omega
                        subst hj'
                        rw [List.take_length]
                        have x1 := (XW.out.upd UJ.out (fun h => h)).cell 1
                        have x2 := (XW.out.upd UJ.out (fun h => h)).cell 2
                        simp at x1 x2
                        obtain ⟨c, hc⟩ : ∃ c, cnt x y fr = c := ⟨_, rfl⟩
                        have HCC := Lib.hid hc
                        rw [hc]
                        clear hc
                        have HD : Hid (IntKind.i64.wrap (IntKind.i64.wrap (y + T) - x) = y + T - x) := Lib.hid (by rw [wrap_in (y + T) (by omega) (by omega), wrap_in _ (by omega) (by omega)])
                        go_wp2_with fail
                        refine wp_region_seq (fun i => decide (i ≠ 18)) (fun i => decide (20 ≤ i ∧ i < 20)) (fun w' => w'.cell? ⟨w.heap.size, 1, none⟩ = some (.int .i64 C) ∧ w'.cell? ⟨w.heap.size, 2, none⟩ = some (.int .i64 T) ∧ w'.cell? ⟨bf, of_ + i, none⟩ = some (.int .i64 x) ∧ w'.cell? ⟨bf, of_ + k, none⟩ = some (.int .i64 y))
                          (by kernel_rfl) (by kernel_rfl) (fun t ht => (of_decide_eq_true ht).2) (fun _ _ _ _ _ h => h) (by kernel_rfl) ⟨x1, x2, ci, ck⟩ ?_
                        iterate 18
                          refine' wpSeq_q (by rfl) (by rfl) (fun w' hS' => ?_) ?_
                          rotate_left
                          · obtain ⟨s0, s1, s2, s3⟩ := hS'
                            go_simp
                            try rfl
                          try simp only [Act.put, List.setIfInBounds_toArray, List.set_cons_zero, List.set_cons_succ]
                        refine wpSeq_l (by rfl) (by rfl) (fun KQ hKQ => ?_)
                        go_simp
                        go_at_call 21
                        obtain ⟨qq, hqq⟩ : ∃ qq, C * ((y + T - x - 1) / T + 1) = qq := ⟨_, rfl⟩
                        refine (serve_yes _ C T (IntKind.i64.wrap (IntKind.i64.wrap (y + T) - x)) HT.out (by rw [HD.out]; have := HLE.out; omega) (by rw [HD.out]; omega) qq (by rw [HD.out]; exact hqq)).mono ?_
                        rintro e w9 ⟨rfl, hU9⟩
                        have hlaw := HLAW.out x y (List.mem_of_getElem? HXx.out) (List.mem_of_getElem? HY.out) HLE.out
                        rw [HCC.out, hqq] at hlaw
                        have d9 : decide (qq < c) = false := decide_eq_false (by omega)
                        have U9 := Lib.hid ((UJ.out.drewN 1).trans hU9)
                        have y1 := (XW.out.upd U9.out (fun h => h)).cell 1
                        have y2 := (XW.out.upd U9.out (fun h => h)).cell 2
                        simp at y1 y2
                        have zi := (FW.out.still U9.out).cell encI_len i x HXx.out 0 _ rfl
                        have zk := (FW.out.still U9.out).cell encI_len k y HY.out 0 _ rfl
                        simp only [Nat.mul_one, Nat.add_zero] at zi zk
                        clear hU9 hqq
                        refine hKQ _ _ (.inr ⟨y1, y2, zi, zk⟩) ?_
                        clear hKQ KQ
                        try simp only [Act.put, List.setIfInBounds_toArray, List.set_cons_zero, List.set_cons_succ]
                        iterate 1
                          refine' wpSeq_q (by rfl) (by rfl) (fun w' hS' => ?_) ?_
                          rotate_left
                          · obtain ⟨s0, s1, s2, s3⟩ := hS'
                            go_simp
                            try rfl
                          try simp only [Act.put, List.setIfInBounds_toArray, List.set_cons_zero, List.set_cons_succ]
                        refine wpSeq_nil ?_
                        go_wp2_with fail
                        go_roundw
                        case rel => exact ⟨k + 1, by omega, by go_num, U9.out⟩
                        case measure => simp [intOf]; omega
                · go_wp2_with fail
                  go_roundw
                  case rel => exact ⟨i + 1, by omega, by go_num, UK.out⟩
                  case measure => simp [intOf]; omega
            · go_wp2_with fail
              go_returns
              exact ⟨rfl, Below.upd VB.out UI.out VB.out.size (fun _ h => h.elim)⟩
end Go.Proofs.Ytlhiagbcmmmjpaa
