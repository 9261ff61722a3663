/-
  Stats: shut. (Written by stlb.py.)
-/
import Derived.Test.YthjebjegedgoeaaStLA
namespace Go.Proofs.Ythjebjegedgoeaa
open Go.RowKit Go.Maps
attribute [local go_sem] max_ints min_ints

theorem slr_setJ {w : World} {base jb jo n c : Nat} {t : TypeId} {J : List J5} (h : SlR encJ w base t 5 (.slice (some ⟨jb, jo, none⟩) n c) J) (k : Nat) (j : J5) (hk : J[k]? = some j) (i : Nat) (hi : i < 5) (u : Int) (j' : J5) (hj : encJ j' = (encJ j).set i (.int .i64 u)) :
    SlR encJ (w.setCell ⟨jb, jo + k * 5 + i, none⟩ (.int .i64 u)) base t 5 (.slice (some ⟨jb, jo, none⟩) n c) (J.set k j') := by
  obtain ⟨A, cp, he⟩ := h.shape
  injection he with _ e _
  subst e
  have hlt := (List.getElem?_eq_some_iff.1 hk).1
  unfold SlR at h ⊢
  rw [List.length_set, ← rws_set encJ_len J k j j' i (.int .i64 u) hk hi hj, show jo + k * 5 + i = jo + (k * 5 + i) by omega]
  exact Sl.set_ h (k * 5 + i) (by omega) _

set_option maxRecDepth 100000 in
set_option maxHeartbeats 6400000 in
theorem shutC (w : World) (f bo bl base n : Nat) (jv : Value) (hi : Bool) (J : List J5) (es ls : EsV) (h : FoS w f bo bl base n jv hi J es ls) (t : Int) (hw : (Lit.int .i64 t).wf = true) (how tick : Int) (hJ : J.length ≤ 1000) (Post : World → Prop)
    (hdel : ∀ wj, SlR encJ wj base 58 5 jv (shutJ J t how tick) → Upd (fun q => slBlk jv = some q) w wj → ∃ w', (Builtin.delete_ #[89, 3] 0 #[.map (some bo), .int .i64 t]).run Try.prog wj = .ok (.tuple #[]) w' ∧ Post w') :
    Calls Try.prog 46 #[.pointer (some ⟨f, 0, none⟩), .int .i64 t, .int .i64 how, .int .i64 tick] w fun e w' => e = .returned (.tuple #[]) ∧ Post w' := by
  have H := Lib.hid h; have HD := Lib.hid hdel
  have c1 : w.cell? ⟨f, 1, none⟩ = some (.map (some bo)) := h.b.cell 1
  have hz : (zeroValue 23).run Try.prog w = .ok (.slice none 0 0) w := Try.zeroValue23 w
  have hrun := h.m.look (T := 89) (E := 23) Try.underlying89 hz h.n1 t hw
  have hv := h.lk t
  have HB := Lib.hid (h.lkB t)
  obtain ⟨v, hve⟩ : ∃ v, lkV es (.slice none 0 0) t = v := ⟨_, rfl⟩
  rw [hve] at hrun hv HB
  obtain ⟨Av, cv, rfl⟩ := hv.shape
  obtain ⟨m, hm⟩ : ∃ m, (idx (openI J t)).length = m := ⟨_, rfl⟩
  have HV := Lib.hid hv
  have HM : Hid ((openI J t).length = m) := Lib.hid (by rw [← hm, idx_len])
  have HMI := Lib.hid hm
  rw [hm] at hrun HV HB
  have hFJ : Hid (∀ q, slBlk jv = some q → q ≠ f) := Lib.hid (fun q hq e => by
    obtain ⟨_, _, cur, hc⟩ := Sl.blk h.j q hq
    rw [e] at hc
    exact hc.ne_ h.b (by decide) rfl)
  have hmJ : m ≤ 1000 := by
    have := openI_len J t
    rw [HM.out] at this
    omega
  clear h hdel hz hv hve hm
  go_enter Try.func46, Try.ntmps46
  go_wp2_with fail
  clear hrun c1
  go_loopw [9, 17] (fun v9 v17 wr => ∃ (i : Nat) (Jm : List J5), i ≤ m ∧ v17 = .int .i64 i ∧ SlR encJ wr base 58 5 jv Jm ∧ Jm.length = J.length ∧ (∀ k, Jm[k]? = if k ∈ (openI J t).take i then (J[k]?).map (fun j => { j with o := tick, e := how }) else J[k]?) ∧ Upd (fun q => slBlk jv = some q) w wr) (fun _ v17 _ => m - (intOf v17).toNat)
  case atStart => exact ⟨0, J, Nat.zero_le _, rfl, H.out.j, rfl, fun k => by simp, Upd.refl _ w⟩
  case round =>
    obtain ⟨i, Jm, hi', rfl, hJm, hlm, hpt, hU⟩ := hrel
    have JM := Lib.hid hJm; have PT := Lib.hid hpt; have UM := Lib.hid hU
    have VM := Lib.hid (HV.out.upd hU (fun q hq e => (HB.out q hq).2.2.2.2.2.1 e))
    have BM := Lib.hid (H.out.b.upd hU (fun e => hFJ.out f e rfl))
    clear hJm hpt hU
    by_cases hlt : i < m
    · obtain ⟨k, hk⟩ : ∃ k, (openI J t)[i]? = some k := ⟨_, List.getElem?_eq_getElem (by rw [HM.out]; exact hlt)⟩
      obtain ⟨vb, vo, cv', e1, _, _, _, _⟩ := VM.out.form (by rw [HMI.out]; omega)
      injection e1 with e1 e1b e1c
      subst e1; subst e1c
      have ck : wr.cell? ⟨vb, vo + i, none⟩ = some (.int .i64 (k : Int)) := slr_int VM.out i (k : Int) (idx_at hk)
      obtain ⟨j, hj, hoj⟩ := (openI_mem J t k).1 (List.mem_of_getElem? hk)
      have hkJ := (List.getElem?_eq_some_iff.1 hj).1
      obtain ⟨jb, jo, cj, e2, _, _, _, _⟩ := JM.out.form (by omega)
      subst e2
      rw [hlm] at JM BM ⊢
      have hnt : k ∉ (openI J t).take i := not_mem_takeN (openI_nodup J t) hk
      have hjm : Jm[k]? = some j := by rw [PT.out k, if_neg hnt]; exact hj
      have g0 : wr.cell? ⟨f, 0, none⟩ = some (.slice (some ⟨jb, jo, none⟩) J.length cj) := BM.out.cell 0
      have HS1 := slr_setJ JM.out k j hjm 3 (by decide) tick { j with o := tick } rfl
      have hU1 : Upd (fun q => slBlk (.slice (some ⟨jb, jo, none⟩) J.length cj) = some q) wr (wr.setCell ⟨jb, jo + k * 5 + 3, none⟩ (.int .i64 tick)) := (Upd.refl (fun q => slBlk (.slice (some ⟨jb, jo, none⟩) J.length cj) = some q) wr).setCell (p := ⟨jb, jo + k * 5 + 3, none⟩) (fun _ => rfl) _
      have hjm1 : (Jm.set k { j with o := tick })[k]? = some { j with o := tick } := List.getElem?_set_self (by rw [hlm]; exact hkJ)
      have HS2 := slr_setJ HS1 k _ hjm1 4 (by decide) how { j with o := tick, e := how } rfl
      have hU2 : Upd (fun q => slBlk (.slice (some ⟨jb, jo, none⟩) J.length cj) = some q) (wr.setCell ⟨jb, jo + k * 5 + 3, none⟩ (.int .i64 tick)) ((wr.setCell ⟨jb, jo + k * 5 + 3, none⟩ (.int .i64 tick)).setCell ⟨jb, jo + k * 5 + 4, none⟩ (.int .i64 how)) := (Upd.refl (fun q => slBlk (.slice (some ⟨jb, jo, none⟩) J.length cj) = some q) _).setCell (p := ⟨jb, jo + k * 5 + 4, none⟩) (fun _ => rfl) _
      have z3 : wr.cell? ⟨jb, jo + k * 5 + 3, none⟩ = some (.int .i64 j.o) := JM.out.cell encJ_len k j hjm 3 _ rfl
      have f3 : wr.frozen? ⟨jb, jo + k * 5 + 3, none⟩ = false := JM.out.frozen _
      have z4 : (wr.setCell ⟨jb, jo + k * 5 + 3, none⟩ (.int .i64 tick)).cell? ⟨jb, jo + k * 5 + 4, none⟩ = some (.int .i64 j.e) := HS1.cell encJ_len k _ hjm1 4 _ rfl
      have f4 : (wr.setCell ⟨jb, jo + k * 5 + 3, none⟩ (.int .i64 tick)).frozen? ⟨jb, jo + k * 5 + 4, none⟩ = false := HS1.frozen _
      have NJ := Lib.hid HS2
      have NU := Lib.hid (UM.out.trans (hU1.trans hU2))
      have NP : Hid (∀ q, ((Jm.set k { j with o := tick }).set k { j with o := tick, e := how })[q]? = if q ∈ (openI J t).take (i + 1) then (J[q]?).map (fun j => { j with o := tick, e := how }) else J[q]?) := Lib.hid (fun q => by
        rw [List.set_set, take_succ_get hk]
        by_cases hq : q = k
        · subst hq
          rw [List.getElem?_set_self (by rw [hlm]; exact hkJ), if_pos (by simp), hj]
          rfl
        · rw [List.getElem?_set_ne (fun e => hq e.symm), PT.out q]
          simp [hq])
      have NL : Hid (((Jm.set k { j with o := tick }).set k { j with o := tick, e := how }).length = J.length) := Lib.hid (by rw [List.length_set, List.length_set, hlm])
      have hmi : i < m := hlt
      have hkl : k < J.length := hkJ
      have dl : decide ((i : Int) < (m : Int)) = true := decide_eq_true (by omega)
      have di : decide ((i : Int) < 0) = false := decide_eq_false (by omega)
      have dk : decide ((k : Int) < (J.length : Int)) = true := decide_eq_true (by omega)
      have dk0 : decide ((k : Int) < 0) = false := decide_eq_false (by omega)
      clear hk hj hoj hnt hjm hjm1 HS1 HS2 hU1 hU2 e1b
      go_upto_region 3 with fail
      refine wp_region_treeF (.q 0 (.q 1 (.q 2 (.q 3 (.q 4 (.q 5 (.q 6 (.q 7 (.q 8 (.q 9 (.q 10 (.q 11 (.q 12 (.q 13 (.l 14 (.q 15 (.q 16 (.l 17 .d)))))))))))))))))) (fun i => decide (i = 14 ∨ i = 17)) (fun q => decide (q = 9 ∨ q = 11 ∨ 12 ≤ q)) (fun w' => w'.cell? ⟨f, 0, none⟩ = some (.slice (some ⟨jb, jo, none⟩) J.length cj))
        (by kernel_rfl) (by kernel_rfl) (by kernel_rfl) (fun t ht => by rcases of_decide_eq_true ht with h | h <;> subst h <;> decide) (fun _ _ _ _ _ h => h) (by kernel_rfl) rfl g0 ?_
      iterate 9
        (refine' wpOF_q (by rfl) (by rfl) (by rfl) (fun w' hS' => ?_) ?_
         rotate_left
         · obtain s1 := hS'
           go_simp
           try rfl)
        try simp only [Act.put, List.setIfInBounds_toArray, List.set_cons_zero, List.set_cons_succ]
      iterate 1
        (refine' wpOF_f (by rfl) (by rfl) (fun w' => ?_) ?_
         rotate_left
         · go_simp
           try rfl)
        try simp only [Act.put, List.setIfInBounds_toArray, List.set_cons_zero, List.set_cons_succ]
      iterate 1
        (refine' wpOF_q (by rfl) (by rfl) (by rfl) (fun w' hS' => ?_) ?_
         rotate_left
         · obtain s1 := hS'
           go_simp
           try rfl)
        try simp only [Act.put, List.setIfInBounds_toArray, List.set_cons_zero, List.set_cons_succ]
      iterate 3
        (refine' wpOF_f (by rfl) (by rfl) (fun w' => ?_) ?_
         rotate_left
         · go_simp
           try rfl)
        try simp only [Act.put, List.setIfInBounds_toArray, List.set_cons_zero, List.set_cons_succ]
      refine wpOF_l (by rfl) (by rfl) (fun KQ hKQ => ?_)
      go_simp
      refine hKQ _ _ (.inl (by rfl)) ?_
      clear hKQ KQ
      try simp only [Act.put, List.setIfInBounds_toArray, List.set_cons_zero, List.set_cons_succ]
      clear z3 f3
      iterate 2
        (refine' wpOF_f (by rfl) (by rfl) (fun w' => ?_) ?_
         rotate_left
         · go_simp
           try rfl)
        try simp only [Act.put, List.setIfInBounds_toArray, List.set_cons_zero, List.set_cons_succ]
      refine wpOF_l (by rfl) (by rfl) (fun KQ hKQ => ?_)
      go_simp
      refine hKQ _ _ (.inl (by rfl)) ?_
      clear hKQ KQ
      try simp only [Act.put, List.setIfInBounds_toArray, List.set_cons_zero, List.set_cons_succ]
      refine wpOF_d ?_
      clear z4 f4
      go_wp2_with fail
      go_roundw
      case rel => exact ⟨i + 1, _, by omega, by go_num, NJ.out.still (Upd.refl _ _).drew, NL.out, NP.out, NU.out.drew⟩
      case measure => simp [intOf]; omega
    · have hie : i = m := by omega
      subst hie
      have hJe : Jm = shutJ J t how tick := by
        apply List.ext_getElem?
        intro q
        rw [PT.out q, shutJ_at, List.take_of_length_le (by rw [HM.out]; exact Nat.le_refl _)]
      obtain ⟨w', hrun, hP⟩ := HD.out wr (by rw [← hJe]; exact JM.out) UM.out
      have HP := Lib.hid hP
      have c1 : wr.cell? ⟨f, 1, none⟩ = some (.map (some bo)) := BM.out.cell 1
      clear hJe hP
      go_wp2_with fail
      go_returns
      exact ⟨rfl, HP.out⟩
end Go.Proofs.Ythjebjegedgoeaa
