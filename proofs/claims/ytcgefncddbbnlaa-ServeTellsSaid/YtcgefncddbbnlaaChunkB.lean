/-
  chunk.Budget: what is back, taken out of the list.
-/
import Derived.Test.YtcgefncddbbnlaaChunk
namespace Go.Proofs.Ytcgefncddbbnlaa.Ck
open Go.RowKit Go.Proofs.Ytcgefncddbbnlaa.Cf

theorem encB_set0 (x y : Int × Int) (a : Int) : (rws encB [x]).set 0 (.int .i64 a) = rws encB [(a, x.2)] := by simp [rws, encB]

/-- A pair laid over the i-th one. -/
theorem _root_.Go.Proofs.Ytcgefncddbbnlaa.SlR.setB {w : World} {base b off cap n : Nat} {t : TypeId} {ys : List (Int × Int)} (h : SlR encB w base t 2 (.slice (some ⟨b, off, none⟩) n cap) ys) (i : Nat) (hi : i < ys.length) (y : Int × Int) :
    SlR encB ((w.setCell ⟨b, off + i * 2, none⟩ (.int .i64 y.1)).setCell ⟨b, off + i * 2 + 1, none⟩ (.int .i64 y.2)) base t 2 (.slice (some ⟨b, off, none⟩) n cap) (ys.set i y) := by
  obtain ⟨x, hx⟩ : ∃ x, ys[i]? = some x := ⟨_, List.getElem?_eq_getElem hi⟩
  have hn : n = ys.length := by
    rcases h.2 with ⟨h1, _⟩ | ⟨_, _, _, _, h1, _⟩
    · cases h1
    · injection h1
  subst hn
  have h1 := Sl.set_ h (i * 2) (by omega) (.int .i64 y.1)
  have h2 := Sl.set_ h1 (i * 2 + 1) (by omega) (.int .i64 y.2)
  have e1 : (rws encB ys).set (i * 2) (.int .i64 y.1) = rws encB (ys.set i (y.1, x.2)) := rws_set encB_len ys i x (y.1, x.2) 0 (.int .i64 y.1) hx (by omega) rfl
  have e2 : (rws encB (ys.set i (y.1, x.2))).set (i * 2 + 1) (.int .i64 y.2) = rws encB (ys.set i y) := by
    have := rws_set encB_len (ys.set i (y.1, x.2)) i (y.1, x.2) y 1 (.int .i64 y.2) (List.getElem?_set_self hi) (by omega) rfl
    rw [List.set_set] at this
    exact this
  unfold SlR
  rw [List.length_set, ← e2, ← e1]
  rw [← Nat.add_assoc] at h2
  exact h2

theorem rel_keep (now : Int) (ys zs : List (Int × Int)) (i j : Nat) (y : Int × Int) (hj : j < ys.length) (hi : i < j) (hy : ys[j]? = some y) (hl : zs.length = ys.length) (h1 : zs.take i = keepB now (ys.take j)) (h2 : zs.drop j = ys.drop j) (hn : ¬ y.1 ≤ now) :
    (zs.set i y).take (i + 1) = keepB now (ys.take (j + 1)) ∧ (zs.set i y).drop (j + 1) = ys.drop (j + 1) := by
  constructor
  · rw [keepB_take now ys j y hy, if_neg hn, ← h1, List.take_add_one, List.getElem?_set_self (by omega), List.take_set_of_le (by omega)]
    rfl
  · rw [List.drop_set_of_lt (by omega)]
    rw [← List.drop_drop, ← List.drop_drop, h2]

theorem rel_skip (now : Int) (ys zs : List (Int × Int)) (i j : Nat) (y : Int × Int) (hy : ys[j]? = some y) (h1 : zs.take i = keepB now (ys.take j)) (h2 : zs.drop j = ys.drop j) (hn : y.1 ≤ now) :
    zs.take i = keepB now (ys.take (j + 1)) ∧ zs.drop (j + 1) = ys.drop (j + 1) := by
  constructor
  · rw [keepB_take now ys j y hy, if_pos hn, ← h1, List.append_nil]
  · rw [← List.drop_drop, ← List.drop_drop, h2]

theorem zeroBack : ∀ w, (zeroValue 169).run Try.prog w = .ok (.agg #[.int .i64 0, .int .i64 0]) w := fun w => by kernel_rfl
theorem zeroBack1 : ∀ u ∈ (Value.agg #[.int .i64 0, .int .i64 0]).cells.toList, u.oneCell' = true := by intro u hu; simp [Value.cells] at hu; subst hu; rfl
theorem sizeBack : ∀ w, (sizeOf (Try.prog.elem 142)).run Try.prog w = .ok 2 w := fun w => by kernel_rfl

set_option maxRecDepth 100000 in
set_option maxHeartbeats 3200000 in
theorem delete1 (w : World) (base : Nat) (K : Value) (ys : List (Int × Int)) (hK : SlR encB w base 169 2 K ys) (gn gs : Nat) (now : Int) (hn : Blk w gn 3 #[.int .i64 now]) (hs : Blk w gs 3 #[.int .i64 0]) (hne : gn ≠ gs) (hf : fineB ys) (hl : ys.length ≤ 1000) :
    Calls Try.prog 121 #[K, .func (.func 122) #[] #[.pointer (some ⟨gn, 0, none⟩), .pointer (some ⟨gs, 0, none⟩)]] w fun e w' =>
      ∃ K', e = .returned K' ∧ SlR encB w' base 169 2 K' (keepB now ys) ∧ slBlk K' = slBlk K ∧ Blk w' gs 3 #[.int .i64 (ripeN now ys)] ∧ Upd (fun k => k = gs ∨ slBlk K = some k) w w' := by
  obtain ⟨A, cap, rfl⟩ := hK.shape
  have HN := Lib.hid hn; clear hn
  have HK := Lib.hid hK; clear hK
  have HF := Lib.hid hf; clear hf
  have HS := Lib.hid hs; clear hs
  have HNE := Lib.hid hne; clear hne
  go_enter Try.func121, Try.ntmps121
  go_wp2_with fail
  refine (index1 _ base _ ys HK.out gn gs now (HN.out.cell 0) HS.out HNE.out HF.out hl).mono ?_
  rintro e w1 ⟨i, hi, rfl, h1, h2, h3, h4, hU⟩
  have H1 := Lib.hid h1; have H2 := Lib.hid h2; have H3 := Lib.hid h3; have H4 := Lib.hid h4; have HU := Lib.hid hU
  clear h1 h2 h3 h4 hU
  by_cases hlt : i < ys.length
  · rw [if_pos hlt]
    obtain ⟨y, hy⟩ : ∃ y, ys[i]? = some y := ⟨_, List.getElem?_eq_getElem hlt⟩
    have hy1 := Lib.hid (H3.out y hy)
    have HY := Lib.hid hy
    clear hy
    obtain ⟨b, off, cap', e, hbb, hb, hcap, hmax⟩ := HK.out.form (by omega)
    injection e with e1 e2 e3
    subst e1 e3
    have hbg : Hid (b ≠ gs) := Lib.hid (Sl.ne_ HK.out HS.out (by decide) b rfl)
    have hbn : Hid (b ≠ gn) := Lib.hid (Sl.ne_ HK.out HN.out (by decide) b rfl)
    have K1 := Lib.hid (HK.out.upd HU.out (fun k hk e => hbg.out ((slBlk_eq hk).trans e)))
    have N1 := Lib.hid (HN.out.upd HU.out (fun e => HNE.out e))
    have e0 : (((i : Int)) == -1) = false := beq_eq_false_iff_ne.2 (by omega)
    go_wp2_with fail
    go_loopw [5, 6] (fun vi vj wr => ∃ (p q : Nat) (zs : List (Int × Int)), p < q ∧ q ≤ ys.length ∧ vi = .int .i64 p ∧ vj = .int .i64 q ∧ zs.length = ys.length ∧ zs.take p = keepB now (ys.take q) ∧ zs.drop q = ys.drop q ∧
      SlR encB wr base 169 2 (.slice (some ⟨b, off, none⟩) ys.length cap) zs ∧ Blk wr gs 3 #[.int .i64 (ripeN now (ys.take q))] ∧ Blk wr gn 3 #[.int .i64 now] ∧ Upd (fun k => k = gs ∨ k = b) w wr) (fun _ vj _ => ys.length - (intOf vj).toNat)
    case atStart =>
      refine ⟨i, i + 1, ys, by omega, by omega, rfl, by go_num, rfl, ?_, rfl, K1.out, H4.out, N1.out, HU.out.mono (fun _ _ h => .inl h)⟩
      rw [keepB_take now ys i y HY.out, H1.out, if_pos hy1.out, List.append_nil]
    case round =>
      clear K1 N1 H1 H2 H3 H4 HU HY hy1
      obtain ⟨p, q, zs, hpq, hq, rfl, rfl, hzl, hz1, hz2, hSl, hGs, hGn, hU⟩ := hrel
      have HZL := Lib.hid hzl; have HZ1 := Lib.hid hz1; have HZ2 := Lib.hid hz2; have HSl := Lib.hid hSl; have HGs := Lib.hid hGs; have HGn := Lib.hid hGn; have HU := Lib.hid hU
      clear hzl hz1 hz2 hSl hGs hGn hU
      by_cases hql : q < ys.length
      · obtain ⟨x, hx⟩ : ∃ x, ys[q]? = some x := ⟨_, List.getElem?_eq_getElem hql⟩
        have hzx : zs[q]? = some x := by
          have := congrArg (fun l => l[0]?) HZ2.out
          simpa [List.getElem?_drop, hx] using this
        have c0 := (HSl.out.cellB q x hzx).1
        have c1 := (HSl.out.cellB q x hzx).2
        have hfx := HF.out x (List.mem_of_getElem? hx)
        have hr := ripeN_bound now _ (fineB_take HF.out q)
        have hrl : (ys.take q).length ≤ q := List.length_take_le _ _
        have hr1 := hr.1
        have hr2 : ripeN now (ys.take q) ≤ 1000000 := by omega
        obtain ⟨t, ht⟩ : ∃ t, decide (x.1 ≤ now) = t := ⟨_, rfl⟩
        have HT := Lib.hid ht
        have HX := Lib.hid hx
        have hbw : b < wr.heap.size := block_lt_of_cell c0
        clear ht hx hzx hr hrl
        obtain ⟨ac, hac⟩ : ∃ ac, ripeN now (ys.take q) = ac := ⟨_, rfl⟩
        rw [hac] at hr1 hr2
        have HAC := Lib.hid hac; clear hac
        have HGs' : Hid (∀ o, Blk (wr.alloc o) gs 3 #[.int .i64 ac]) := Lib.hid (fun o => by have := HGs.out.alloc o; rwa [HAC.out] at this)
        go_wp2_with fail
        refine (ripe1 _ gn gs now ac x.1 x.2 ((HGn.out.alloc _).cell 0) (HGs'.out _) hr1 hr2 hfx.1 hfx.2 HNE.out t HT.out).mono ?_
        rintro e w2 ⟨rfl, hs2, hU2⟩
        have S2 := Lib.hid hs2
        have U2 := Lib.hid ((HU.out.alloc _).trans (hU2.mono (fun k _ h => Or.inl h)))
        have G2 := Lib.hid ((HGn.out.alloc _).upd hU2 (fun e => HNE.out e))
        have L2 := Lib.hid (SlR.upd (HSl.out.alloc _) hU2 (fun k hk e => hbg.out ((slBlk_eq hk).trans e)))
        have B2 := Lib.hid ((Blk.new wr 169 #[.int .i64 x.1, .int .i64 x.2]).upd hU2 (fun e => by have := HGs.out.lt; omega))
        have d0 : w2.cell? ⟨wr.heap.size, 0, none⟩ = some (.int .i64 x.1) := B2.out.cell 0
        have d1 : w2.cell? ⟨wr.heap.size, 1, none⟩ = some (.int .i64 x.2) := B2.out.cell 1
        clear hs2 hU2
        cases t
        · have hnx := Lib.hid (Int.not_le.1 (of_decide_eq_false HT.out))
          have z0 := L2.out.cellB p
          have R2 := Lib.hid (L2.out.setB p (by rw [HZL.out]; omega) x)
          have f0 := L2.out.frozen (off + p * 2)
          have f1 := L2.out.frozen (off + p * 2 + 1)
          obtain ⟨y0, hy0⟩ : ∃ y, zs[p]? = some y := ⟨_, List.getElem?_eq_getElem (by rw [HZL.out]; omega)⟩
          have g0 := (z0 y0 hy0).1
          have g1 := (z0 y0 hy0).2
          clear z0 hy0
          go_wp2_with fail
          go_roundw
          case rel =>
            obtain ⟨q0, q1⟩ := rel_keep now ys zs p q x hql hpq HX.out HZL.out HZ1.out HZ2.out (Int.not_le.2 hnx.out)
            refine ⟨p + 1, q + 1, zs.set p x, by omega, by omega, by go_num, by go_num, by rw [List.length_set]; exact HZL.out, q0, q1, R2.out, ?_, ?_, ?_⟩
            · have := S2.out
              rw [if_neg (Int.not_le.2 hnx.out)] at this
              rw [ripeN_take now ys q x HX.out, HAC.out, if_neg (Int.not_le.2 hnx.out)]
              exact (this.far (p := ⟨b, _, none⟩) (Ne.symm hbg.out) _).far (p := ⟨b, _, none⟩) (Ne.symm hbg.out) _
            · exact (G2.out.far (p := ⟨b, _, none⟩) (Ne.symm hbn.out) _).far (p := ⟨b, _, none⟩) (Ne.symm hbn.out) _
            · exact (U2.out.setCell (p := ⟨b, _, none⟩) (fun _ => .inr rfl) _).setCell (p := ⟨b, _, none⟩) (fun _ => .inr rfl) _
          case measure => simp [intOf]; omega
        · have hnx := Lib.hid (of_decide_eq_true HT.out)
          go_wp2_with fail
          go_roundw
          case rel =>
            obtain ⟨q0, q1⟩ := rel_skip now ys zs p q x HX.out HZ1.out HZ2.out hnx.out
            refine ⟨p, q + 1, zs, by omega, by omega, rfl, by go_num, HZL.out, q0, q1, L2.out, ?_, G2.out, U2.out⟩
            rw [ripeN_take now ys q x HX.out, HAC.out]
            exact S2.out
          case measure => simp [intOf]; omega
      · have hq' : q = ys.length := by omega
        subst hq'
        have hz := HZ1.out
        have hr := HGs.out
        rw [List.take_length] at hz hr
        have hSl : Sl wr base 169 2 (.slice (some ⟨b, off, none⟩) ys.length cap) ys.length (rws encB zs) := by have := HSl.out; unfold SlR at this; rwa [HZL.out] at this
        obtain ⟨W, hcl, hS', hUW⟩ := Sl.clear (P := Try.prog) (size := 2) (ts := 142) Try.underlying142 zeroBack rfl zeroBack1 (by decide) hSl hpq ((rws_take encB_len p zs).trans (by rw [hz]))
        obtain ⟨hh, _⟩ := Sl.headv (P := Try.prog) (ts := 142) Try.underlying142 sizeBack hSl (Nat.le_of_lt hpq) rfl
        have hcp : ¬ (cap = p) := by omega
        have hcl0 := hcl 0
        clear hcl
        have HKL : Hid ((keepB now ys).length = p) := Lib.hid (by rw [← hz, List.length_take, HZL.out]; omega)
        have HS' := Lib.hid hS'; have HUW := Lib.hid hUW; have HR := Lib.hid hr
        clear hS' hUW hr hz hSl
        go_wp2_with fail
        go_ret
        refine ⟨_, rfl, ?_, rfl, HR.out.upd HUW.out (fun e => hbg.out e.symm), ?_⟩
        · unfold SlR; rw [HKL.out]; exact HS'.out
        · exact (HU.out.mono (fun k _ h => h.imp id (fun e => by rw [e]; rfl))).trans (HUW.out.mono (fun k _ e => .inr (by rw [e]; rfl)))
  · rw [if_neg hlt]
    have hii : i = ys.length := by omega
    subst hii
    have h1 := H1.out; have h4 := H4.out
    rw [List.take_length] at h1
    rw [List.take_of_length_le (by omega)] at h4
    have H1' := Lib.hid h1; have H4' := Lib.hid h4
    clear h1 h4
    have K1 : Hid (SlR encB w1 base 169 2 (.slice A ys.length cap) ys) := Lib.hid (HK.out.upd HU.out (fun k hk e => Sl.ne_ HK.out HS.out (by decide) k hk e))
    go_wp2_with fail
    go_ret
    refine ⟨_, rfl, ?_, rfl, H4'.out, HU.out.mono (fun _ _ h => .inl h)⟩
    rw [H1'.out]
    exact K1.out
end Go.Proofs.Ytcgefncddbbnlaa.Ck
