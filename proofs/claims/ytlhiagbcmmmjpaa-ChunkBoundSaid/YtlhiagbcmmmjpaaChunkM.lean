/-
  ChunkBound: the walk.
-/
import Derived.Test.YtlhiagbcmmmjpaaChunkL
import Derived.Test.YtlhiagbcmmmjpaaServe
import Derived.Test.YtlhiagbcmmmjpaaSeqR
import Derived.Test.YtlhiagbcmmmjpaaInts
namespace Go.Proofs.Ytlhiagbcmmmjpaa
open Go.RowKit
attribute [local go_sem] max_ints min_ints

def tsD : List TypeId := 3 :: tsC
theorem tsD_sub : ∀ t, t ∈ tsC → t ∈ tsD := by decide

/-- Behind i acts. -/
def BoundR (w wr : World) (g i : Nat) (C T : Int) (rf : Bool) (now : Int) (vf : Value) : Prop :=
  ∃ (s : St17) (fr : List Int), CSt wr w.heap.size g s ∧ FineC s ∧ s.p.C = C ∧ s.p.T = T ∧ 0 ≤ now ∧ now ≤ i * 1000 ∧ Win s now fr ∧ fr.length ≤ i ∧ (∀ x ∈ fr, 0 ≤ x ∧ x ≤ now) ∧ (∀ x ∈ s.xs, x.1 ≤ now) ∧
    SlR encI wr w.heap.size 3 1 vf fr ∧ Tu w.heap.size tsD w wr ∧ Blk wr w.heap.size 23 #[.bool rf, .int .i64 C, .int .i64 T]

theorem CSt.tuI {w w' : World} {base g : Nat} {s : St17} (h : CSt w base g s) (hu : Tu base [3] w w') : CSt w' base g s :=
  let ⟨L, K, h⟩ := h
  ⟨L, K, h.b.tu hu (by decide), Sl.tu h.s hu (by decide), Sl.tu h.k hu (by decide), h.hg⟩
theorem new_cells (w : World) (e : TypeId) (x : Value) : ∀ (j : Nat) (u : Value), [x][j]? = some u → (w.alloc (.cells [x].toArray e)).cell? ((⟨w.heap.size, 0, none⟩ : Addr).add j) = some u := fun j u hu => by
  rw [add_at, (Blk.new _ _ _).cell j]
  simpa using hu

theorem act_at {s : St17} {now : Int} (h : ∀ x ∈ s.xs, x.1 ≤ now) (kind n : Int) : ∀ x ∈ (s.act kind n now).xs, x.1 ≤ nowOf kind n now := by
  have hb := nowOf_bd kind n now
  have hg : ∀ b, ∀ x ∈ (s.go (nowOf kind n now) b).xs, x.1 ≤ nowOf kind n now := fun b x hx => by
    rcases (go_T s (nowOf kind n now) b).2.2.2 with e | ⟨m, e⟩
    · rw [e] at hx; have := h x hx; omega
    · rw [e] at hx
      rcases List.mem_append.1 hx with hx | hx
      · have := h x hx; omega
      · simp at hx; subst hx; exact Int.le_refl _
  have hs : ∀ x ∈ s.xs, x.1 ≤ nowOf kind n now := fun x hx => by have := h x hx; omega
  unfold St17.act
  split
  · exact hg _
  split
  · exact hg _
  split
  · exact hg _
  split
  · intro x hx; cases hx
  split
  · intro x hx; cases hx
  split
  · exact hs
  exact hs
theorem use_at {s : St17} {now : Int} (h : ∀ x ∈ s.xs, x.1 ≤ now) : ∀ x ∈ s.use.xs, x.1 ≤ now := by
  obtain ⟨p, xs, ys⟩ := s
  cases xs with
  | nil => exact h
  | cons x t =>
    unfold St17.use
    dsimp only
    split
    · exact fun y hy => h y (List.mem_cons_of_mem _ hy)
    · intro y hy
      rcases List.mem_cons.1 hy with rfl | hy
      · exact h x (List.mem_cons_self ..)
      · exact h y (List.mem_cons_of_mem _ hy)

set_option maxRecDepth 100000 in
set_option maxHeartbeats 6400000 in
theorem chunkBound_any (w : World) (s : Bool × Int × Int) (_ : (Lit.int .i64 s.2.1).wf = true ∧ (Lit.int .i64 s.2.2).wf = true) (A : Option Addr) (len cap : Nat) (ks : Nat → Nat → Int) (hw : ∀ k j, k < len → j < 2 → (Lit.int .i64 (ks k j)).wf = true) (hc : Row2 w A len ks) :
    Calls Try.prog 9 #[.agg #[.bool s.1, .int .i64 s.2.1, .int .i64 s.2.2], .slice A len cap] w fun e w' => e = .returned (.bool true) ∧ Below w.heap.size w w' := by
  have HC := Lib.hid hc; clear hc
  have HWF := Lib.hid hw; clear hw
  generalize s.1 = rf
  generalize s.2.1 = C at *
  generalize s.2.2 = T at *
  have HX := Lib.hid (Blk.new w 23 #[.bool rf, .int .i64 C, .int .i64 T])
  obtain ⟨lb, hlb⟩ : ∃ lb, decide ((150 : Int) < (len : Int)) = lb := ⟨_, rfl⟩
  obtain ⟨t, ht⟩ : ∃ t, okS C T = t := ⟨_, rfl⟩
  have HT := Lib.hid ht; clear ht
  have HLB := Lib.hid hlb
  cases t
  · cases lb
    all_goals
      go_enter Try.func9, Try.ntmps9
      go_wp2_with fail
      refine (newC_no _ rf C T HT.out).mono ?_
      rintro e w1 ⟨rfl, hU⟩
      have V1 := Lib.hid (Below.upd ((Below.refl w.heap.size w).alloc (Nat.le_refl _) _) hU (by simp) (fun _ h => h.elim))
      clear hU
      go_wp2_with fail
      refine (knows17 _).mono ?_
      rintro e w2 ⟨rfl, hB2⟩
      have V2 := Lib.hid (chn V1.out hB2); clear hB2
      go_wp2_with fail
      go_returns
      exact ⟨rfl, V2.out⟩
  · cases lb
    rotate_left
    · go_enter Try.func9, Try.ntmps9
      go_wp2_with fail
      refine (newC_yes _ w.heap.size (by simp) rf C T HT.out).mono ?_
      rintro e w1 ⟨g, rfl, hg, hb, hU⟩
      have V1 := Lib.hid (Below.upd ((Below.refl w.heap.size w).alloc (Nat.le_refl _) _) hU (by simp) (fun _ h => h.elim))
      clear hb hU
      go_wp2_with fail
      refine (knows17 _).mono ?_
      rintro e w2 ⟨rfl, hB2⟩
      have V2 := Lib.hid (chn V1.out hB2); clear hB2
      go_wp2_with fail
      go_returns
      exact ⟨rfl, V2.out⟩
    · have hlen : len ≤ 150 := by have := of_decide_eq_false HLB.out; omega
      have hok := of_decide_eq_true HT.out
      have F0 := Lib.hid (FineC.new rf C T hok.1 hok.2.1 hok.2.2)
      clear hok
      go_enter Try.func9, Try.ntmps9
      go_wp2_with fail
      refine (newC_yes _ w.heap.size (by simp) rf C T HT.out).mono ?_
      rintro e w1 ⟨g, rfl, hg, hb, hU⟩
      have V1 := Lib.hid (((Tu.refl w.heap.size tsC w).alloc _).still hU)
      have X1 := Lib.hid (HX.out.upd hU (fun h => h))
      have B1 := Lib.hid hb
      clear hb hU
      go_wp2_with fail
      refine (knows17 _).mono ?_
      rintro e w2 ⟨rfl, hB2⟩
      have hU2 := Upd.mono (S' := fun _ => False) (Upd.of_below hB2) (fun k hk hle => by omega)
      have V2 := Lib.hid (V1.out.still hU2)
      have X2 := Lib.hid (X1.out.upd hU2 (fun h => h))
      have B2 := Lib.hid (B1.out.still hU2)
      clear hB2 hU2
      go_wp2_with fail
      go_loopw [6, 7, 8] (fun vn vf vi wr => ∃ (i : Nat) (nw : Int), i ≤ len ∧ vi = .int .i64 i ∧ vn = .int .i64 nw ∧ BoundR w wr g i C T rf nw vf) (fun _ _ vi _ => len - (intOf vi).toNat)
      case atStart =>
        have hC0 : 0 ≤ C := by have := F0.out.C1; show 0 ≤ C; exact Int.le_trans (by omega) this
        exact ⟨0, 0, by omega, rfl, rfl, _, [], B2.out, F0.out, rfl, rfl, by omega, by omega, Win.new rf C T hC0, Nat.le_refl _, (fun _ h => by cases h), (fun _ h => by cases h), SlR.nil, V2.out.mono (Nat.le_refl _) tsD_sub, X2.out⟩
      case round =>
        clear X2 B2 V2 X1 B1 V1 F0
        obtain ⟨i, nw, hi, rfl, rfl, ⟨s, fr, hS, hF, hsC, hsT, hn0, hn1, hW, hfl, hfr, hat, hfs, hT, hX⟩⟩ := hrel
        have HS := Lib.hid hS; have HF := Lib.hid hF; have HTu := Lib.hid hT; have HXr := Lib.hid hX; have HsC := Lib.hid hsC; have HsT := Lib.hid hsT
        have HW := Lib.hid hW; have HFR0 := Lib.hid hfr; have HAT := Lib.hid hat
        obtain ⟨Af, cf, rfl⟩ := hfs.shape
        have HFS := Lib.hid hfs
        clear hS hF hT hX hsC hsT hW hfr hat hfs
        by_cases hlt : i < len
        · obtain ⟨b, o, rfl, hab, h0, h1⟩ := HC.out i hlt
          have h0 := (HTu.out.cell (p := ⟨b, o + i * 2, none⟩) hab hab).trans h0
          have h1 := (HTu.out.cell (p := ⟨b, o + i * 2 + 1, none⟩) hab hab).trans h1
          have hwn := HWF.out i 1 hlt (by omega)
          generalize ks i 0 = kind at *
          generalize ks i 1 = N at *
          have HH0 := Lib.hid h0
          go_wp2_with fail
          refine (do17 _ w.heap.size g s HS.out HTu.out.size HF.out kind N nw hwn hn0 (by omega)).mono ?_
          rintro e w3 ⟨rfl, h3, hT3⟩
          have S3 := Lib.hid h3
          have F3 := Lib.hid (HF.out.act kind N nw hn0 (by omega))
          have T3 := Lib.hid (HTu.out.trans (hT3.mono (Nat.le_refl _) tsD_sub))
          have X3 := Lib.hid (HXr.out.tu hT3 (by decide))
          have C3 := Lib.hid ((act_C s kind N nw).trans HsC.out)
          have D3 := Lib.hid ((act_T s kind N nw).trans HsT.out)
          have W3 := Lib.hid (HW.out.act HF.out kind N hn0 (by omega))
          have A3 := Lib.hid (act_at HAT.out kind N)
          have FS3 : Hid (SlR encI w3 w.heap.size 3 1 (.slice Af fr.length cf) fr) := Lib.hid (Sl.tu HFS.out hT3 (by decide))
          have hnb := nowOf_bd kind N nw
          generalize s.act kind N nw = s3 at *
          generalize nowOf kind N nw = nw3 at *
          have FR3 : Hid (∀ x ∈ fr, 0 ≤ x ∧ x ≤ nw3) := Lib.hid (fun x hx => by have := HFR0.out x hx; omega)
          have H0 := Lib.hid ((hT3.cell (p := ⟨b, o + i * 2, none⟩) (Nat.lt_of_lt_of_le hab HTu.out.size) hab).trans HH0.out)
          have hbd := F3.out.bound
          have hxl : s3.xs.length ≤ 1000 := hbd.2.2.2.2.1
          clear h0 h1 h3 hT3 hbd
          go_wp2_with fail
          refine (liveC _ w.heap.size g s3 S3.out F3.out.C1 hxl).mono ?_
          rintro e w4 ⟨v, rfl, hv, hU4⟩
          obtain ⟨Av, cv, rfl⟩ := hv.shape
          obtain ⟨L3, K3, hC3⟩ := S3.out
          have HLB : Hid (∀ k, k = g ∨ slBlk L3 = some k ∨ slBlk K3 = some k → k < w3.heap.size) := Lib.hid (fun k e => e.elim (fun e => by rw [e]; exact hC3.b.lt) (fun e => e.elim (fun e => (Sl.blk hC3.s k e).2.1) (fun e => (Sl.blk hC3.k k e).2.1)))
          have K4 := Lib.hid (hC3.still hU4)
          have S4 := Lib.hid (S3.out.still hU4)
          clear hC3
          have T4 := Lib.hid (T3.out.still hU4)
          have X4 := Lib.hid (X3.out.upd hU4 (fun h => h))
          have FS4 := Lib.hid (FS3.out.still hU4)
          have L4 := Lib.hid hv
          have h0 := (hU4.cell (p := ⟨b, o + i * 2, none⟩) (Nat.lt_of_lt_of_le hab T3.out.size) (fun h => h)).trans H0.out
          have HL4 : Hid (w.heap.size ≤ w3.heap.size) := Lib.hid T3.out.size
          clear hv hU4 S3 T3 X3 FS3 H0
          by_cases hk3 : kind = 3
          · subst hk3
            cases hxs : s3.xs with
            | nil =>
              have HXS := Lib.hid hxs; clear hxs
              go_wp2_with fail
              refine (useC _ w.heap.size g s3 S4.out T4.out.size F3.out false (by rw [HXS.out]; rfl)).mono ?_
              rintro e w5 ⟨rfl, h5, hT5⟩
              have S5 := Lib.hid h5; have T5 := Lib.hid (T4.out.trans (hT5.mono (Nat.le_refl _) tsD_sub)); have X5 := Lib.hid (X4.out.tu hT5 (by decide)); have FS5 := Lib.hid (Sl.tu FS4.out hT5 (by decide))
              clear h5 hT5
              have he : s3.use = s3 := by have := HXS.out; unfold St17.use; rw [this]
              rw [he] at S5
              clear he
              go_wp2_with fail
              go_roundw
              case rel => exact ⟨i + 1, nw3, by omega, by go_num, rfl, s3, fr, S5.out, F3.out, C3.out, D3.out, by omega, by omega, W3.out, by omega, FR3.out, A3.out, FS5.out, T5.out, X5.out⟩
              case measure => simp [intOf]; omega
            | cons x t =>
              have HXS := Lib.hid hxs
              have L4' := Lib.hid L4.out
              rw [hxs] at L4'
              clear hxs
              have hxl2 := hxl
              rw [HXS.out] at hxl2
              simp only [List.length_cons] at hxl2
              obtain ⟨bv, ov, cv', e, _, hbv, _, _⟩ := L4'.out.form (by simp)
              injection e with e1 e2 e3
              subst e1 e3
              have ca : w4.cell? ⟨bv, ov, none⟩ = some (.int .i64 x.1) := L4'.out.cell encC_len 0 x rfl 0 _ rfl
              have CA := Lib.hid ca
              have hbvge : w3.heap.size ≤ bv := (Sl.blk L4'.out bv rfl).1
              have hlen1 : (x :: t).length = t.length + 1 := rfl
              rw [hlen1]
              have e0 : (((t.length + 1 : Nat) : Int) == 0) = false := beq_eq_false_iff_ne.2 (by omega)
              clear ca hlen1
              go_wp2_with fail
              refine (useU _ w.heap.size g s3 L3 K3 K4.out T4.out.size F3.out true (by rw [HXS.out]; simp)).mono ?_
              rintro e w5 ⟨rfl, h5, hU5⟩
              have hT5 : Tu w.heap.size tsC w4 w5 := Tu.of hU5 (fun k _ e => e.elim (fun e => by subst e; exact K4.out.tyG) (fun e => e.elim (fun e => K4.out.tyL k e) (fun e => K4.out.tyK k e)))
              have S5 := Lib.hid h5; have T5 := Lib.hid (T4.out.trans (hT5.mono (Nat.le_refl _) tsD_sub)); have X5 := Lib.hid (X4.out.tu hT5 (by decide)); have FS5 := Lib.hid (Sl.tu FS4.out hT5 (by decide))
              have ca : w5.cell? ⟨bv, ov, none⟩ = some (.int .i64 x.1) := (hU5.cell (p := ⟨bv, ov, none⟩) hbv (fun e => by have := HLB.out bv e; omega)).trans CA.out
              have hsz5 : w.heap.size ≤ w5.heap.size := T5.out.size
              have hx1 := F3.out.fx x (by rw [HXS.out]; exact List.mem_cons_self ..)
              have hx2 := A3.out x (by rw [HXS.out]; exact List.mem_cons_self ..)
              have W5 : Hid (Win s3.use nw3 (fr ++ [x.1])) := Lib.hid (by
                obtain ⟨p, xs, ys⟩ := s3
                obtain rfl : xs = x :: t := HXS.out
                exact W3.out.use F3.out)
              clear h5 hT5 hU5
              obtain ⟨i0, hi0, hz0, hz1, hz2⟩ := info_parts infoInt
              go_wp2_with (
                at_builtin
                refine wpList_append_sl rfl (.tmp 64) (.tmp 69) 45 rfl w.heap.size 3 i0 _ 1 8 Try.underlying45 hi0 hz0 hz1 hz2 rfl (by decide) _ fr.length (rws encI fr) rfl (Sl.alloc FS5.out _) ⟨_, 0, none⟩ 1 [.int .i64 x.1] rfl rfl (new_cells _ _ _) (by simp [Value.oneCell']) (by unfold maxLen; omega) (by omega) (by simp; omega) ?_
                intro v' w6 hs6 hu6 hv6
                obtain ⟨bq, oq, cq, rfl, _, _, _, _⟩ := hs6.form (by omega)
                have FS6 := Lib.hid hs6
                have U6 := Lib.hid (((Tu.refl w.heap.size [3] w5).alloc (.cells #[.int .i64 x.1] 3)).trans (Tu.of hu6 (fun k _ e => by
                  obtain ⟨h1, _, cur, hc⟩ := Sl.blk (Sl.alloc FS5.out (.cells #[.int .i64 x.1] 3)) k e
                  exact ⟨h1, _, _, hc, by decide⟩)))
                clear hs6 hu6 hv6)
              go_roundw
              case rel =>
                have FS7 : SlR encI w6 w.heap.size 3 1 (.slice (some ⟨bq, oq, none⟩) (fr.length + 1) cq) (fr ++ [x.1]) := by
                  unfold SlR
                  rw [List.length_append, rws_append]
                  exact FS6.out
                refine ⟨i + 1, nw3, by omega, by go_num, rfl, s3.use, fr ++ [x.1], S5.out.tuI U6.out, F3.out.use, (use_C s3).trans C3.out, by rw [use_T]; exact D3.out, by omega, by omega, W5.out, by simp; omega, ?_, use_at A3.out, FS7, T5.out.trans (U6.out.mono (Nat.le_refl _) (by decide)), X5.out.tu U6.out (by decide)⟩
                intro y hy
                rcases List.mem_append.1 hy with hy | hy
                · exact FR3.out y hy
                · simp at hy; subst hy; exact ⟨hx1.1, hx2⟩
              case measure => simp [intOf]; omega
          by_cases hk4 : kind = 4
          · subst hk4
            cases hxs : s3.xs with
            | nil =>
              have HXS := Lib.hid hxs; clear hxs
              go_wp2_with fail
              refine (useC _ w.heap.size g s3 S4.out T4.out.size F3.out false (by rw [HXS.out]; rfl)).mono ?_
              rintro e w5 ⟨rfl, h5, hT5⟩
              have S5 := Lib.hid h5; have T5 := Lib.hid (T4.out.trans (hT5.mono (Nat.le_refl _) tsD_sub)); have X5 := Lib.hid (X4.out.tu hT5 (by decide)); have FS5 := Lib.hid (Sl.tu FS4.out hT5 (by decide))
              clear h5 hT5
              have he : s3.use = s3 := by have := HXS.out; unfold St17.use; rw [this]
              rw [he] at S5
              clear he
              go_wp2_with fail
              go_roundw
              case rel => exact ⟨i + 1, nw3, by omega, by go_num, rfl, s3, fr, S5.out, F3.out, C3.out, D3.out, by omega, by omega, W3.out, by omega, FR3.out, A3.out, FS5.out, T5.out, X5.out⟩
              case measure => simp [intOf]; omega
            | cons x t =>
              have HXS := Lib.hid hxs
              have L4' := Lib.hid L4.out
              rw [hxs] at L4'
              clear hxs
              have hxl2 := hxl
              rw [HXS.out] at hxl2
              simp only [List.length_cons] at hxl2
              obtain ⟨bv, ov, cv', e, _, hbv, _, _⟩ := L4'.out.form (by simp)
              injection e with e1 e2 e3
              subst e1 e3
              have ca : w4.cell? ⟨bv, ov, none⟩ = some (.int .i64 x.1) := L4'.out.cell encC_len 0 x rfl 0 _ rfl
              have CA := Lib.hid ca
              have hbvge : w3.heap.size ≤ bv := (Sl.blk L4'.out bv rfl).1
              have hlen1 : (x :: t).length = t.length + 1 := rfl
              rw [hlen1]
              have e0 : (((t.length + 1 : Nat) : Int) == 0) = false := beq_eq_false_iff_ne.2 (by omega)
              clear ca hlen1
              go_wp2_with fail
              refine (useU _ w.heap.size g s3 L3 K3 K4.out T4.out.size F3.out true (by rw [HXS.out]; simp)).mono ?_
              rintro e w5 ⟨rfl, h5, hU5⟩
              have hT5 : Tu w.heap.size tsC w4 w5 := Tu.of hU5 (fun k _ e => e.elim (fun e => by subst e; exact K4.out.tyG) (fun e => e.elim (fun e => K4.out.tyL k e) (fun e => K4.out.tyK k e)))
              have S5 := Lib.hid h5; have T5 := Lib.hid (T4.out.trans (hT5.mono (Nat.le_refl _) tsD_sub)); have X5 := Lib.hid (X4.out.tu hT5 (by decide)); have FS5 := Lib.hid (Sl.tu FS4.out hT5 (by decide))
              have ca : w5.cell? ⟨bv, ov, none⟩ = some (.int .i64 x.1) := (hU5.cell (p := ⟨bv, ov, none⟩) hbv (fun e => by have := HLB.out bv e; omega)).trans CA.out
              have hsz5 : w.heap.size ≤ w5.heap.size := T5.out.size
              have hx1 := F3.out.fx x (by rw [HXS.out]; exact List.mem_cons_self ..)
              have hx2 := A3.out x (by rw [HXS.out]; exact List.mem_cons_self ..)
              have W5 : Hid (Win s3.use nw3 (fr ++ [x.1])) := Lib.hid (by
                obtain ⟨p, xs, ys⟩ := s3
                obtain rfl : xs = x :: t := HXS.out
                exact W3.out.use F3.out)
              clear h5 hT5 hU5
              obtain ⟨i0, hi0, hz0, hz1, hz2⟩ := info_parts infoInt
              go_wp2_with (
                at_builtin
                refine wpList_append_sl rfl (.tmp 64) (.tmp 69) 45 rfl w.heap.size 3 i0 _ 1 8 Try.underlying45 hi0 hz0 hz1 hz2 rfl (by decide) _ fr.length (rws encI fr) rfl (Sl.alloc FS5.out _) ⟨_, 0, none⟩ 1 [.int .i64 x.1] rfl rfl (new_cells _ _ _) (by simp [Value.oneCell']) (by unfold maxLen; omega) (by omega) (by simp; omega) ?_
                intro v' w6 hs6 hu6 hv6
                obtain ⟨bq, oq, cq, rfl, _, _, _, _⟩ := hs6.form (by omega)
                have FS6 := Lib.hid hs6
                have U6 := Lib.hid (((Tu.refl w.heap.size [3] w5).alloc (.cells #[.int .i64 x.1] 3)).trans (Tu.of hu6 (fun k _ e => by
                  obtain ⟨h1, _, cur, hc⟩ := Sl.blk (Sl.alloc FS5.out (.cells #[.int .i64 x.1] 3)) k e
                  exact ⟨h1, _, _, hc, by decide⟩)))
                clear hs6 hu6 hv6)
              go_roundw
              case rel =>
                have FS7 : SlR encI w6 w.heap.size 3 1 (.slice (some ⟨bq, oq, none⟩) (fr.length + 1) cq) (fr ++ [x.1]) := by
                  unfold SlR
                  rw [List.length_append, rws_append]
                  exact FS6.out
                refine ⟨i + 1, nw3, by omega, by go_num, rfl, s3.use, fr ++ [x.1], S5.out.tuI U6.out, F3.out.use, (use_C s3).trans C3.out, by rw [use_T]; exact D3.out, by omega, by omega, W5.out, by simp; omega, ?_, use_at A3.out, FS7, T5.out.trans (U6.out.mono (Nat.le_refl _) (by decide)), X5.out.tu U6.out (by decide)⟩
                intro y hy
                rcases List.mem_append.1 hy with hy | hy
                · exact FR3.out y hy
                · simp at hy; subst hy; exact ⟨hx1.1, hx2⟩
              case measure => simp [intOf]; omega
          · have n3 : (kind == 3) = false := beq_eq_false_iff_ne.2 hk3
            have n4 : (kind == 4) = false := beq_eq_false_iff_ne.2 hk4
            clear hk3 hk4
            go_wp2_with fail
            go_roundw
            case rel => exact ⟨i + 1, nw3, by omega, by go_num, rfl, s3, fr, S4.out, F3.out, C3.out, D3.out, by omega, by omega, W3.out, by omega, FR3.out, A3.out, FS4.out, T4.out, X4.out⟩
            case measure => simp [intOf]; omega
        · go_wp2_with fail
          have hT1 : 1 ≤ T := by have := HF.out.C1; have := HF.out.CT; have := HsT.out; omega
          have hT2 : T ≤ 1000 := by have := HF.out.T1; have := HsT.out; omega
          have HLAW : Hid (∀ a hi, a ∈ fr → hi ∈ fr → a ≤ hi → cnt a hi fr ≤ C * ((hi + T - a) / T)) := Lib.hid (fun a hi _ _ hle => by
            refine cnt_demand fr C T (by have := HF.out.C1; have := HsC.out; omega) hT1 (fun a => ?_) a hi hle
            have h1 := (HW.out a).1
            have h2 := win_le a s.p.T s.xs HF.out.posC
            rw [HsT.out, HsC.out] at h1
            rw [HsT.out] at h2
            omega)
          have HFR : Hid (∀ x ∈ fr, 0 ≤ x ∧ x ≤ 1000000) := Lib.hid (fun x hx => by have := HFR0.out x hx; omega)
          have hfl2 : fr.length ≤ 10000 := by omega
          have XW := Lib.hid HXr.out
          have FW := Lib.hid HFS.out
          have VB := Lib.hid (HTu.out.below (Below.refl _ _) (Nat.le_refl _))
          obtain ⟨W0, rfl⟩ : ∃ W0 : World, W0 = wr := ⟨_, rfl⟩
          clear HS HF HTu HXr HsC HsT HW HFR0 HAT HFS
          go_loopw [10] (fun vi wr => ∃ i : Nat, i ≤ fr.length ∧ vi = .int .i64 i ∧ Upd (fun _ => False) W0 wr) (fun vi _ => fr.length - (intOf vi).toNat)
          case atStart => exact ⟨0, Nat.zero_le _, rfl, Upd.refl _ _⟩
          case round =>
            obtain ⟨i, hi, rfl, hUi⟩ := hrel
            have UI := Lib.hid hUi; clear hUi
            by_cases hli : i < fr.length
            · obtain ⟨x, hx⟩ : ∃ x, fr[i]? = some x := ⟨_, List.getElem?_eq_getElem hli⟩
              obtain ⟨bf, of_, cf', e, _, _, _⟩ := FW.out.form (by omega)
              injection e with e1 e2 e3
              subst e1 e3
              have HXx := Lib.hid hx; clear hx
              go_wp2_with fail
              go_loopw [11] (fun vk wr => ∃ k : Nat, k ≤ fr.length ∧ vk = .int .i64 k ∧ Upd (fun _ => False) W0 wr) (fun vk _ => fr.length - (intOf vk).toNat)
              case atStart => exact ⟨0, Nat.zero_le _, rfl, UI.out⟩
              case round =>
                obtain ⟨k, hk, rfl, hUk⟩ := hrel
                have UK := Lib.hid hUk; clear hUk
                by_cases hlk : k < fr.length
                · obtain ⟨y, hy⟩ : ∃ y, fr[k]? = some y := ⟨_, List.getElem?_eq_getElem hlk⟩
                  have ci := (FW.out.still UK.out).cell encI_len i x HXx.out 0 _ rfl
                  have ck := (FW.out.still UK.out).cell encI_len k y hy 0 _ rfl
                  simp only [Nat.mul_one, Nat.add_zero] at ci ck
                  have hxb := HFR.out x (List.mem_of_getElem? HXx.out)
                  have hyb := HFR.out y (List.mem_of_getElem? hy)
                  have HY := Lib.hid hy; clear hy
                  obtain ⟨byx, hbyx⟩ : ∃ b, decide (y < x) = b := ⟨_, rfl⟩
                  have HBYX := Lib.hid hbyx
                  have CI := Lib.hid ci; have CK := Lib.hid ck
                  cases byx
                  rotate_left
                  · go_wp2_with fail
                    go_quiet (fail)
                    go_wp2_with fail
                    go_roundw
                    case rel => exact ⟨k + 1, by omega, by go_num, UK.out.drewN _⟩
                    case measure => simp [intOf]; omega
                  · have hle := of_decide_eq_false HBYX.out
                    have HLE := Lib.hid (Int.not_lt.1 hle)
                    clear hle
                    go_wp2_with fail
                    go_quiet (fail)
                    clear hbyx
                    go_wp2_with fail
                    go_loopw [12, 13] (fun vn vj wr => ∃ j : Nat, j ≤ fr.length ∧ vj = .int .i64 j ∧ vn = .int .i64 (cnt x y (fr.take j)) ∧ Upd (fun _ => False) W0 wr) (fun _ vj _ => fr.length - (intOf vj).toNat)
                    case atStart => exact ⟨0, Nat.zero_le _, rfl, rfl, UK.out.drewN _⟩
                    case round =>
                      clear ci ck
                      obtain ⟨j, hj, rfl, rfl, hUj⟩ := hrel
                      have UJ := Lib.hid hUj; clear hUj
                      have ci := (FW.out.still UJ.out).cell encI_len i x HXx.out 0 _ rfl
                      have ck := (FW.out.still UJ.out).cell encI_len k y HY.out 0 _ rfl
                      simp only [Nat.mul_one, Nat.add_zero] at ci ck
                      by_cases hlj : j < fr.length
                      · obtain ⟨z, hz⟩ : ∃ z, fr[j]? = some z := ⟨_, List.getElem?_eq_getElem hlj⟩
                        have cj := (FW.out.still UJ.out).cell encI_len j z hz 0 _ rfl
                        simp only [Nat.mul_one, Nat.add_zero] at cj
                        have HZ := Lib.hid hz; clear hz
                        have hcb := cnt_bd x y (fr.take j)
                        have hcl : (fr.take j).length ≤ j := List.length_take_le _ _
                        obtain ⟨c, hc⟩ : ∃ c, cnt x y (fr.take j) = c := ⟨_, rfl⟩
                        rw [hc] at hcb ⊢
                        have hc0 := hcb.1
                        have hc1 : c ≤ 10000 := by omega
                        have HCC := Lib.hid hc
                        clear hc hcb hcl
                        by_cases h1 : x ≤ z
                        · have d1 : decide (x ≤ z) = true := decide_eq_true h1
                          by_cases h2 : z ≤ y
                          · have d2 : decide (z ≤ y) = true := decide_eq_true h2
                            have HH := Lib.hid (And.intro h1 h2)
                            clear h1 h2
                            go_wp2_with fail
                            go_quiet (fail)
                            go_wp2_with fail
                            go_roundw
                            case rel =>
                              refine ⟨j + 1, by omega, by go_num, ?_, UJ.out.drewN _⟩
                              rw [cnt_take x y fr j z HZ.out, HCC.out, if_pos HH.out]
                            case measure => simp [intOf]; omega
                          · have d2 : decide (z ≤ y) = false := decide_eq_false h2
                            have HH : Hid (¬ (x ≤ z ∧ z ≤ y)) := Lib.hid (fun h => h2 h.2)
                            clear h1 h2
                            go_wp2_with fail
                            go_quiet (fail)
                            go_wp2_with fail
                            go_roundw
                            case rel =>
                              refine ⟨j + 1, by omega, by go_num, ?_, UJ.out.drewN _⟩
                              rw [cnt_take x y fr j z HZ.out, HCC.out, if_neg (by have := HH.out; omega), Int.add_zero]
                            case measure => simp [intOf]; omega
                        · have d1 : decide (x ≤ z) = false := decide_eq_false h1
                          have HH : Hid (¬ (x ≤ z ∧ z ≤ y)) := Lib.hid (fun h => h1 h.1)
                          clear h1
                          go_wp2_with fail
                          go_quiet (fail)
                          go_wp2_with fail
                          go_roundw
                          case rel =>
                            refine ⟨j + 1, by omega, by go_num, ?_, UJ.out.drewN _⟩
                            rw [cnt_take x y fr j z HZ.out, HCC.out, if_neg (by have := HH.out; omega), Int.add_zero]
                          case measure => simp [intOf]; omega
                      · have hj' : j = fr.length := by omega
                        subst hj'
                        rw [List.take_length]
                        have x1 := (XW.out.upd UJ.out (fun h => h)).cell 1
                        have x2 := (XW.out.upd UJ.out (fun h => h)).cell 2
                        simp at x1 x2
                        obtain ⟨c, hc⟩ : ∃ c, cnt x y fr = c := ⟨_, rfl⟩
                        have HCC := Lib.hid hc
                        rw [hc]
                        clear hc
                        have HD : Hid (IntKind.i64.wrap (IntKind.i64.wrap (y + T) - x) = y + T - x) := Lib.hid (by rw [wrap_in (y + T) (by omega) (by omega), wrap_in _ (by omega) (by omega)])
                        go_wp2_with fail
                        refine wp_region_seq (fun i => decide (i ≠ 18)) (fun i => decide (20 ≤ i ∧ i < 20)) (fun w' => w'.cell? ⟨w.heap.size, 1, none⟩ = some (.int .i64 C) ∧ w'.cell? ⟨w.heap.size, 2, none⟩ = some (.int .i64 T) ∧ w'.cell? ⟨bf, of_ + i, none⟩ = some (.int .i64 x) ∧ w'.cell? ⟨bf, of_ + k, none⟩ = some (.int .i64 y))
                          (by kernel_rfl) (by kernel_rfl) (fun t ht => (of_decide_eq_true ht).2) (fun _ _ _ _ _ h => h) (by kernel_rfl) ⟨x1, x2, ci, ck⟩ ?_
                        iterate 18
                          refine' wpSeq_q (by rfl) (by rfl) (fun w' hS' => ?_) ?_
                          rotate_left
                          · obtain ⟨s0, s1, s2, s3⟩ := hS'
                            go_simp
                            try rfl
                          try simp only [Act.put, List.setIfInBounds_toArray, List.set_cons_zero, List.set_cons_succ]
                        refine wpSeq_l (by rfl) (by rfl) (fun KQ hKQ => ?_)
                        go_simp
                        go_at_call 21
                        obtain ⟨qq, hqq⟩ : ∃ qq, C * ((y + T - x) / T) = qq := ⟨_, rfl⟩
                        refine (serve_no _ C T (IntKind.i64.wrap (IntKind.i64.wrap (y + T) - x)) HT.out (by rw [HD.out]; have := HLE.out; omega) (by rw [HD.out]; omega) qq (by rw [HD.out]; exact hqq)).mono ?_
                        rintro e w9 ⟨rfl, hU9⟩
                        have hlaw := HLAW.out x y (List.mem_of_getElem? HXx.out) (List.mem_of_getElem? HY.out) HLE.out
                        rw [HCC.out, hqq] at hlaw
                        have d9 : decide (qq < c) = false := decide_eq_false (by omega)
                        have U9 := Lib.hid ((UJ.out.drewN 1).trans hU9)
                        have y1 := (XW.out.upd U9.out (fun h => h)).cell 1
                        have y2 := (XW.out.upd U9.out (fun h => h)).cell 2
                        simp at y1 y2
                        have zi := (FW.out.still U9.out).cell encI_len i x HXx.out 0 _ rfl
                        have zk := (FW.out.still U9.out).cell encI_len k y HY.out 0 _ rfl
                        simp only [Nat.mul_one, Nat.add_zero] at zi zk
                        clear hU9 hqq
                        refine hKQ _ _ (.inr ⟨y1, y2, zi, zk⟩) ?_
                        clear hKQ KQ
                        try simp only [Act.put, List.setIfInBounds_toArray, List.set_cons_zero, List.set_cons_succ]
                        iterate 1
                          refine' wpSeq_q (by rfl) (by rfl) (fun w' hS' => ?_) ?_
                          rotate_left
                          · obtain ⟨s0, s1, s2, s3⟩ := hS'
                            go_simp
                            try rfl
                          try simp only [Act.put, List.setIfInBounds_toArray, List.set_cons_zero, List.set_cons_succ]
                        refine wpSeq_nil ?_
                        go_wp2_with fail
                        go_roundw
                        case rel => exact ⟨k + 1, by omega, by go_num, U9.out⟩
                        case measure => simp [intOf]; omega
                · go_wp2_with fail
                  go_roundw
                  case rel => exact ⟨i + 1, by omega, by go_num, UK.out⟩
                  case measure => simp [intOf]; omega
            · go_wp2_with fail
              go_returns
              exact ⟨rfl, Below.upd VB.out UI.out VB.out.size (fun _ h => h.elim)⟩
end Go.Proofs.Ytlhiagbcmmmjpaa
