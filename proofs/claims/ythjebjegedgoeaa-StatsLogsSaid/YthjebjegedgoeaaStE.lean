/-
  Stats: Add.
-/
import Derived.Test.YthjebjegedgoeaaStD
namespace Go.Proofs.Ythjebjegedgoeaa
open Go.RowKit Go.Shelf Go.Maps Go.Sort
attribute [local go_sem] max_ints min_ints mapEq mapEqN makeMp

theorem slr_cells {w : World} {base b off n cap : Nat} {t : TypeId} {l : List J5} (h : SlR encJ w base t 5 (.slice (some ⟨b, off, none⟩) n cap) l) (i : Nat) (j : J5) (hj : l[i]? = some j) :
    w.cell? ⟨b, off + i * 5, none⟩ = some (.int .i64 j.t) ∧ w.cell? ⟨b, off + i * 5 + 1, none⟩ = some (.int .i64 j.k) ∧ w.cell? ⟨b, off + i * 5 + 2, none⟩ = some (.int .i64 j.f) ∧ w.cell? ⟨b, off + i * 5 + 3, none⟩ = some (.int .i64 j.o) ∧ w.cell? ⟨b, off + i * 5 + 4, none⟩ = some (.int .i64 j.e) :=
  ⟨h.cell encJ_len i j hj 0 _ rfl, h.cell encJ_len i j hj 1 _ rfl, h.cell encJ_len i j hj 2 _ rfl, h.cell encJ_len i j hj 3 _ rfl, h.cell encJ_len i j hj 4 _ rfl⟩
theorem take_succ_get {α : Type} {l : List α} {i : Nat} {x : α} (h : l[i]? = some x) : l.take (i + 1) = l.take i ++ [x] := by
  rw [List.take_add_one, h]; rfl
/-- A table of jobs. -/
def TabJ (w : World) (g bm B W : Nat) (ks : KS) (l : List J5) (N : Nat → Prop) : Prop := TabS w g bm B W ks (lineJ l) (cntJ B W l) N ∧ (ks.map Prod.fst).Perm (tasksJ l)
theorem addKey_perm {l l' : List Int} (h : l.Perm l') (t : Int) : (addKey l t).Perm (addKey l' t) := by
  unfold addKey
  by_cases ht : t ∈ l
  · rw [if_pos ht, if_pos (h.mem_iff.1 ht)]; exact h
  · rw [if_neg ht, if_neg (fun e => ht (h.mem_iff.2 e))]; exact h.append_right _
theorem TabJ.step {w w' : World} {g bm B W : Nat} {ks' : KS} {l : List J5} {N : Nat → Prop} {j : J5} {k c : Nat} (h : TabS w g bm B W ks' (lineJ l) (cntJ B W l) N) (hk : (ks'.map Prod.fst).Perm (addKey (tasksJ l) j.t)) (he : (j.t, k, c) ∈ ks') (hu : Upd (fun q => q = k ∨ q = c) w w')
    (h' : KnS w' k c B j.t ((lineJ l j.t).step j) (if 0 < ansJ j then bump (cntJ B W l j.t) (bkt B W (ansJ j)) else cntJ B W l j.t)) : TabJ w' g bm B W ks' (l ++ [j]) N := by
  refine ⟨(h.put he hu h'.kn h'.cn).congr (fun e _ => ?_) (fun e _ => ?_), by rw [tasksJ_snoc]; exact hk⟩
  · rw [lineJ_snoc]
    unfold putF
    by_cases e1 : e.1 = j.t
    · rw [if_pos e1.symm, if_pos e1, e1]
    · rw [if_neg (fun q => e1 q.symm), if_neg e1]
  · rw [cntJ_snoc]
    unfold putF
    by_cases e1 : e.1 = j.t
    · rw [if_pos e1, e1]
      by_cases e2 : 0 < ansJ j
      · rw [if_pos ⟨rfl, e2⟩, if_pos e2]
      · rw [if_neg (fun q => e2 q.2), if_neg e2]
    · rw [if_neg (fun q => e1 q.1.symm), if_neg e1]
theorem TabJ.new {w : World} {g bm B W : Nat} {N : Nat → Prop} (h : TabS w g bm B W [] (fun _ => Ln.zero) (fun _ => []) N) : TabJ w g bm B W [] [] N := ⟨h.congr (fun e he => by cases he) (fun e he => by cases he), List.Perm.refl _⟩
theorem TabJ.klen {w : World} {g bm B W : Nat} {ks : KS} {l : List J5} {N : Nat → Prop} (h : TabJ w g bm B W ks l N) : ks.length ≤ l.length := by
  have := h.2.length_eq
  rw [List.length_map] at this
  rw [this]
  exact tasksJ_len l

set_option maxRecDepth 100000 in
set_option maxHeartbeats 6400000 in
theorem addC (w : World) (g bm B W : Nat) (ks : KS) (N : Nat → Prop) (h : TabJ w g bm B W ks [] N) (hN : ∀ k, N k → k < w.heap.size) (hB : 1 ≤ B) (hB2 : B ≤ 64) (hW : 1 ≤ W) (v : Value) (l : List J5) (hv : SlR encJ w 0 58 5 v l) (hvN : ∀ k, slBlk v = some k → N k) (hl : l.length ≤ 200) (hwf : ∀ j ∈ l, j.Wf) :
    Calls Try.prog 8 #[.pointer (some ⟨g, 0, none⟩), v] w fun e w' => e = .returned (.tuple #[]) ∧ (∃ ks', TabJ w' g bm B W ks' l N) ∧ Upd (fun q => ¬ N q) w w' := by
  obtain ⟨A, cp, rfl⟩ := hv.shape
  have HNone := Lib.hid (noneC w g bm _ _ h.1.b)
  have H := Lib.hid h; have HN := Lib.hid hN; have HV := Lib.hid hv; have HVN := Lib.hid hvN; have HWF := Lib.hid hwf
  clear h hN hv hvN hwf
  go_enter Try.func8, Try.ntmps8
  go_wp2_with fail
  refine HNone.out.mono ?_
  rintro e w1 ⟨rfl, k1, rfl⟩
  have T1 : Hid (TabJ (w.drewN k1) g bm B W ks [] N) := Lib.hid ⟨H.out.1.drewN k1, H.out.2⟩
  have V1 := Lib.hid (HV.out.drewN k1)
  have U1 : Hid (Upd (fun q => ¬ N q) w (w.drewN k1)) := Lib.hid ((Upd.refl _ w).drewN k1)
  clear HNone
  generalize w.drewN k1 = w1 at *
  go_wp2_with fail
  go_loopw [13] (fun v13 wr => ∃ (i : Nat) (ks : KS), i ≤ l.length ∧ v13 = .int .i64 i ∧ TabJ wr g bm B W ks (l.take i) N ∧ SlR encJ wr 0 58 5 (.slice A l.length cp) l ∧ Upd (fun q => ¬ N q) w wr) (fun v13 _ => l.length - (intOf v13).toNat)
  case atStart => exact ⟨0, ks, Nat.zero_le _, rfl, T1.out, V1.out, U1.out⟩
  case round =>
    obtain ⟨i, ks2, hi, rfl, hT, hV, hU⟩ := hrel
    have T2 := Lib.hid hT; have V2 := Lib.hid hV; have U2 := Lib.hid hU
    by_cases hlt : i < l.length
    · obtain ⟨j, hj⟩ : ∃ j, l[i]? = some j := ⟨_, List.getElem?_eq_getElem hlt⟩
      obtain ⟨b, o, cp', he, _, _, _, _⟩ := hV.form (by omega)
      injection he with he1 he2 he3
      subst he1; subst he3
      obtain ⟨c0, c1, c2, c3, c4⟩ := slr_cells hV i j hj
      have hjw := HWF.out j (List.mem_of_getElem? hj)
      have HJ := Lib.hid hj
      have dl : decide ((i : Int) < (l.length : Int)) = true := decide_eq_true (by omega)
      obtain ⟨wa, hwa⟩ : ∃ wa, wr.alloc (.cells #[.int .i64 j.t, .int .i64 j.k, .int .i64 j.f, .int .i64 j.o, .int .i64 j.e] 58) = wa := ⟨_, rfl⟩
      obtain ⟨ga, hga⟩ : ∃ ga, wr.heap.size = ga := ⟨_, rfl⟩
      have HGA := Lib.hid hga; have HWA := Lib.hid hwa
      have ua : Upd (fun _ => False) wr wa := by rw [← hwa]; exact (Upd.refl _ wr).alloc _
      have BA : Hid (Blk wa ga 58 (encJ j).toArray) := Lib.hid (by rw [← hwa, ← hga]; exact Blk.new wr _ _)
      have hNr : ∀ k, N k → k < wr.heap.size := fun k hk => Nat.lt_of_lt_of_le (HN.out k hk) hU.size
      have TA : Hid (TabS wa g bm B W ks2 (lineJ (l.take i)) (cntJ B W (l.take i)) (fun k => N k ∨ k = ga)) := Lib.hid (hT.1.more ua (fun k h1 h2 => h1.resolve_right (by omega)))
      have HTk := Lib.hid hT.2
      have HNa : Hid (∀ k, N k ∨ k = ga → k < wa.heap.size) := Lib.hid (fun k hk => by
        rcases hk with hk | rfl
        · exact Nat.lt_of_lt_of_le (hNr k hk) ua.size
        · exact BA.out.lt)
      have VA := Lib.hid (hV.still ua)
      have UA : Hid (Upd (fun q => ¬ N q) w wa) := Lib.hid (hU.trans (ua.mono (fun _ _ h => h.elim)))
      have hkl := TabJ.klen hT
      have htl : (l.take i).length ≤ 200 := by rw [List.length_take]; omega
      have HOF := Lib.hid (ofC wa g bm B W ks2 _ _ _ TA.out HNa.out hB2 (by omega) j.t hjw.t (fun hno => by
        rw [hT.2.mem_iff, tasksJ_mem] at hno
        exact ⟨lineJ_none hno, cntJ_none hno⟩))
      have HLN := Lib.hid (lineJ_ok (l.take i) j.t)
      have HCB := Lib.hid (cntJ_bd B W (l.take i) j.t)
      have HAW := Lib.hid hjw
      have a0 : wa.cell? ⟨ga, 0, none⟩ = some (.int .i64 j.t) := BA.out.cell 0
      clear hT hV hU hj ua hNr he2 hjw
      clear hwa hga
      go_upto_region 4 with fail
      rw [HWA.out, HGA.out]
      clear c0 c1 c2 c3 c4 HWA HGA
      go_wp2_with fail
      refine HOF.out.mono ?_
      rintro e w4 ⟨k, rfl, c, ks3, he, hT4, hks, hU4⟩
      have B4 := Lib.hid (BA.out.upd hU4 (fun h => h (.inr rfl)))
      have E4 : Hid (KnS w4 k c B j.t (lineJ (l.take i) j.t) (cntJ B W (l.take i) j.t)) := Lib.hid ⟨(hT4.e _ he).kn, (hT4.e _ he).cn⟩
      have T4 := Lib.hid (hT4.less (N' := N) (fun q hq => .inl hq))
      have HE := Lib.hid he
      have HKS : Hid ((ks3.map Prod.fst).Perm (addKey (tasksJ (l.take i)) j.t)) := Lib.hid (by rw [hks]; exact addKey_perm HTk.out j.t)
      have V4 := Lib.hid (VA.out.upd hU4 (fun q hq h => h (.inl (HVN.out q hq))))
      have U4 : Hid (Upd (fun q => ¬ N q) w w4) := Lib.hid (UA.out.trans (hU4.mono (fun q _ h hn => h (.inl hn))))
      have HNK : Hid (¬ N k ∧ ¬ N c) := Lib.hid ⟨fun h => (hT4.nk _ he).1 (.inl h), fun h => (hT4.nk _ he).2 (.inl h)⟩
      have HGK : Hid (ga ≠ k ∧ ga ≠ c) := Lib.hid ⟨fun h => (hT4.nk _ he).1 (.inr h.symm), fun h => (hT4.nk _ he).2 (.inr h.symm)⟩
      clear he hT4 hks hU4 a0
      obtain ⟨⟨arr, en, lo, le, mo, su⟩, hx⟩ : ∃ x, lineJ (l.take i) j.t = x := ⟨_, rfl⟩
      obtain ⟨cs, hcs⟩ : ∃ cs, cntJ B W (l.take i) j.t = cs := ⟨_, rfl⟩
      rw [hx] at HLN
      rw [hcs] at HCB
      rw [hx, hcs] at E4
      have HX := Lib.hid hx; have HCS := Lib.hid hcs
      have harr : 0 ≤ arr ∧ arr ≤ 1000000 := by have h1 := HLN.out.arr0; have h2 := HLN.out.arr1; dsimp only at h1 h2; omega
      have hlo : 0 ≤ lo ∧ lo ≤ 1000000 := by have h1 := HLN.out.lost0; have h2 := HLN.out.lost1; dsimp only at h1 h2; omega
      clear hx hcs
      have k1' : w4.cell? ⟨k, 1, none⟩ = some (.int .i64 arr) := E4.out.kn.cell 1
      have f1' := E4.out.kn.frozen 1
      have hK5 := E4.out.set_ 1 (arr + 1) ⟨arr + 1, en, lo, le, mo, su⟩ rfl
      have E5 := Lib.hid hK5.1
      have U5 := Lib.hid hK5.2
      have B5 := Lib.hid (B4.out.upd hK5.2 HGK.out.1)
      clear hK5
      go_upto_region 6 with fail
      clear k1' f1'
      have Q5 : Hid (Upd (fun q => q = k ∨ q = c) w4 (w4.setCell ⟨k, 1, none⟩ (.int .i64 (arr + 1)))) := Lib.hid (U5.out.mono (fun _ _ e => .inl e))
      generalize w4.setCell ⟨k, 1, none⟩ (.int .i64 (arr + 1)) = w5 at *
      have b0 : w5.cell? ⟨ga, 0, none⟩ = some (.int .i64 j.t) := B5.out.cell 0
      have b1 : w5.cell? ⟨ga, 1, none⟩ = some (.int .i64 j.k) := B5.out.cell 1
      have b2 : w5.cell? ⟨ga, 2, none⟩ = some (.int .i64 j.f) := B5.out.cell 2
      have b3 : w5.cell? ⟨ga, 3, none⟩ = some (.int .i64 j.o) := B5.out.cell 3
      have b4 : w5.cell? ⟨ga, 4, none⟩ = some (.int .i64 j.e) := B5.out.cell 4
      go_wp2_with fail
      refine (answerC w5 j HAW.out).mono ?_
      rintro e w6 ⟨a, rfl, ha, hU6⟩
      have E6 := Lib.hid (E5.out.still hU6)
      have B6 := Lib.hid (B5.out.upd hU6 (fun h => h))
      have Q6 := Lib.hid (Q5.out.trans (hU6.mono (fun _ _ h => h.elim)))
      have HAN := Lib.hid ha
      clear ha hU6 b0 b1 b2 b3 b4 U5
      have T6 := T4
      by_cases hans : 0 < ansJ j
      · have da : decide (0 < ansJ j) = true := decide_eq_true hans
        rw [da]
        clear da
        have haa := HAN.out hans
        have hale := (ansJ_le j).2
        have g2 : w6.cell? ⟨g, 2, none⟩ = some (.int .i64 (W : Int)) := by
          have hgk : ¬ (g = k ∨ g = c) := fun h => by
            rcases h with h | h
            · exact T4.out.b.ne_ E4.out.kn (by decide) h
            · obtain ⟨_, _, cur, hcur⟩ := Sl.blk E4.out.cn _ rfl
              exact T4.out.b.ne_ hcur (by decide) h
          exact (T4.out.b.upd Q6.out hgk).cell 2
        have HAC := Lib.hid (answeredC w6 k c B W ((l.take i).length + 1) j.t ⟨arr + 1, en, lo, le, mo, su⟩ cs E6.out HLN.out.come (by omega) (fun y hy => by have := HCB.out y hy; omega) hB hB2 hW (ansJ j) hans hale)
        have HST : Hid (((⟨arr, en, lo, le, mo, su⟩ : Ln).step j) = (⟨arr + 1, en, lo, le, mo, su⟩ : Ln).answer (ansJ j)) := Lib.hid (by unfold Ln.step; rw [if_pos hans]; rfl)
        have HAP := Lib.hid hans
        have HHA := Lib.hid haa
        rw [← haa] at HAC
        clear hans haa hale
        go_wp2_with fail
        refine HAC.out.mono ?_
        rintro e w7 ⟨rfl, hE7, hU7⟩
        rw [HHA.out] at hE7
        have TJ : Hid (TabJ w7 g bm B W ks3 (l.take (i + 1)) N) := Lib.hid (by
          rw [take_succ_get HJ.out]
          refine TabJ.step T4.out HKS.out HE.out (Q6.out.trans hU7) ?_
          rw [HX.out, HCS.out, HST.out, if_pos HAP.out]
          exact hE7)
        have VZ := Lib.hid (V4.out.upd (Q6.out.trans hU7) (fun q hq h => by
          have := HVN.out q hq
          rcases h with h | h
          · rw [h] at this; exact HNK.out.1 this
          · rw [h] at this; exact HNK.out.2 this))
        have UZ : Hid (Upd (fun q => ¬ N q) w w7) := Lib.hid (U4.out.trans ((Q6.out.trans hU7).mono (fun q _ h hn => by
          rcases h with h | h
          · rw [h] at hn; exact HNK.out.1 hn
          · rw [h] at hn; exact HNK.out.2 hn)))
        clear hE7 hU7 g2
        go_wp2_with fail
        go_roundw
        case rel => exact ⟨i + 1, ks3, by omega, by go_num, TJ.out, VZ.out, UZ.out⟩
        case measure => simp [intOf]; omega
      · have da : decide (0 < ansJ j) = false := decide_eq_false hans
        rw [da]
        clear da
        have b4 : w6.cell? ⟨ga, 4, none⟩ = some (.int .i64 j.e) := B6.out.cell 4
        have HNA := Lib.hid hans
        have hst : (⟨arr, en, lo, le, mo, su⟩ : Ln).step j = if j.e ≠ 0 ∧ j.e ≠ 1 then ⟨arr + 1, en, lo + 1, le, mo, su⟩ else ⟨arr + 1, en, lo, le, mo, su⟩ := by
          unfold Ln.step
          rw [if_neg hans]
          split <;> rfl
        have HSTE := Lib.hid hst
        obtain ⟨ee, hee⟩ : ∃ ee, j.e = ee := ⟨_, rfl⟩
        rw [hee] at b4 HSTE
        clear hans hst hee
        by_cases e0 : ee = 0
        · rw [if_neg (fun h => h.1 e0)] at HSTE
          subst e0
          have TJ : Hid (TabJ w6 g bm B W ks3 (l.take (i + 1)) N) := Lib.hid (by
            rw [take_succ_get HJ.out]
            refine TabJ.step T4.out HKS.out HE.out Q6.out ?_
            rw [HX.out, HCS.out, HSTE.out, if_neg HNA.out]
            exact E6.out)
          have VZ := Lib.hid (V4.out.upd Q6.out (fun q hq h => by
            have := HVN.out q hq
            rcases h with h | h
            · rw [h] at this; exact HNK.out.1 this
            · rw [h] at this; exact HNK.out.2 this))
          have UZ : Hid (Upd (fun q => ¬ N q) w w6) := Lib.hid (U4.out.trans (Q6.out.mono (fun q _ h hn => by
            rcases h with h | h
            · rw [h] at hn; exact HNK.out.1 hn
            · rw [h] at hn; exact HNK.out.2 hn)))
          go_wp2_with fail
          go_roundw
          case rel => exact ⟨i + 1, ks3, by omega, by go_num, TJ.out, VZ.out, UZ.out⟩
          case measure => simp [intOf]; omega
        · by_cases e1 : ee = 1
          · rw [if_neg (fun h => h.2 e1)] at HSTE
            subst e1
            have TJ : Hid (TabJ w6 g bm B W ks3 (l.take (i + 1)) N) := Lib.hid (by
              rw [take_succ_get HJ.out]
              refine TabJ.step T4.out HKS.out HE.out Q6.out ?_
              rw [HX.out, HCS.out, HSTE.out, if_neg HNA.out]
              exact E6.out)
            have VZ := Lib.hid (V4.out.upd Q6.out (fun q hq h => by
              have := HVN.out q hq
              rcases h with h | h
              · rw [h] at this; exact HNK.out.1 this
              · rw [h] at this; exact HNK.out.2 this))
            have UZ : Hid (Upd (fun q => ¬ N q) w w6) := Lib.hid (U4.out.trans (Q6.out.mono (fun q _ h hn => by
              rcases h with h | h
              · rw [h] at hn; exact HNK.out.1 hn
              · rw [h] at hn; exact HNK.out.2 hn)))
            go_wp2_with fail
            go_roundw
            case rel => exact ⟨i + 1, ks3, by omega, by go_num, TJ.out, VZ.out, UZ.out⟩
            case measure => simp [intOf]; omega
          · rw [if_pos ⟨e0, e1⟩] at HSTE
            have d0 : (ee != 0) = true := bne_iff_ne.2 e0
            have d1 : (ee != 1) = true := bne_iff_ne.2 e1
            have k3' : w6.cell? ⟨k, 3, none⟩ = some (.int .i64 lo) := E6.out.kn.cell 3
            have f3' := E6.out.kn.frozen 3
            have hK7 := E6.out.set_ 3 (lo + 1) ⟨arr + 1, en, lo + 1, le, mo, su⟩ rfl
            have Q7 := Lib.hid (Q6.out.trans (hK7.2.mono (S' := fun q => q = k ∨ q = c) (fun _ _ e => .inl e)))
            have TJ : Hid (TabJ (w6.setCell ⟨k, 3, none⟩ (.int .i64 (lo + 1))) g bm B W ks3 (l.take (i + 1)) N) := Lib.hid (by
              rw [take_succ_get HJ.out]
              refine TabJ.step T4.out HKS.out HE.out Q7.out ?_
              rw [HX.out, HCS.out, HSTE.out, if_neg HNA.out]
              exact hK7.1)
            clear hK7
            have VZ := Lib.hid (V4.out.upd Q7.out (fun q hq h => by
              have := HVN.out q hq
              rcases h with h | h
              · rw [h] at this; exact HNK.out.1 this
              · rw [h] at this; exact HNK.out.2 this))
            have UZ : Hid (Upd (fun q => ¬ N q) w _) := Lib.hid (U4.out.trans (Q7.out.mono (fun q _ h hn => by
              rcases h with h | h
              · rw [h] at hn; exact HNK.out.1 hn
              · rw [h] at hn; exact HNK.out.2 hn)))
            go_wp2_with fail
            go_roundw
            case rel => exact ⟨i + 1, ks3, by omega, by go_num, TJ.out, VZ.out, UZ.out⟩
            case measure => simp [intOf]; omega
    · have hie : i = l.length := by omega
      subst hie
      have hT := T2.out
      rw [List.take_length] at hT
      have TE := Lib.hid hT
      clear hT hV hU
      go_wp2_with fail
      go_returns
      exact ⟨rfl, ⟨ks2, TE.out⟩, U2.out⟩
end Go.Proofs.Ythjebjegedgoeaa
