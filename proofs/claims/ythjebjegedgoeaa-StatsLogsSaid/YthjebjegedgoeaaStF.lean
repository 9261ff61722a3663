/-
  Stats: the library's keys, sorted; Lines; Counts.
-/
import Derived.Test.YthjebjegedgoeaaStE
import Derived.Test.YthjebjegedgoeaaCloneI
namespace Go.Proofs.Ythjebjegedgoeaa
open Go.RowKit Go.Shelf Go.Maps Go.Sort
attribute [local go_sem] max_ints min_ints mapEq mapEqN makeMp

theorem sortsIn (m : Nat) : AnyZI.SortsIn Try.prog lSorted_ren Fence.wide m :=
  ⟨fun blk off cap ss W hH hblk hsz => callsIn_wide.2 (AnyM.slices_Sort_int lSort blk off cap ss W hH hblk hsz),
   fun p cap W => callsIn_wide.2 (AnyM.slices_Sort_int_none lSort p cap W)⟩
theorem keysC (w : World) (bm : Nat) :
    Calls Try.prog 31 #[.map (some bm)] w fun e w' => e = .returned (.func (.func 38) #[] #[.pointer (some ⟨w.heap.size, 0, none⟩)]) ∧ w' = w.alloc (.cells #[.map (some bm)] 45) :=
  (callsIn_wide (n := 5)).1 (AnyZI.keys_in lKeys Fence.wide 5 trivial rfl (some bm) w)
set_option maxHeartbeats 1000000 in
theorem sortedC (w : World) (q bm : Nat) (ks : KS) (h : MpS w bm ks) (hq : w.cell? ⟨q, 0, none⟩ = some (.map (some bm))) (hql : q < w.heap.size) (hl : ks.length ≤ 100000) :
    Calls Try.prog 30 #[.func (.func 38) #[] #[.pointer (some ⟨q, 0, none⟩)]] w fun e w' => ∃ v, e = .returned v ∧ ∃ ss : List Int, ss.Perm (ks.map Prod.fst) ∧ SlR encI w' w.heap.size 3 1 v (ss.mergeSort (fun x y => decide (x ≤ y))) ∧ Upd (fun _ => False) w w' := by
  obtain ⟨L, ho, hp⟩ := h
  have hsz : Maps.size (DataW.map L) ≤ 100000 := by
    show L.length ≤ _
    rw [hp.length_eq, List.length_map]; exact hl
  have hseq : SeqGives Fence.wide 1 Try.prog 38 #[.pointer (some ⟨q, 0, none⟩)] encZ (fun ss => ss.Perm (intKeys (DataW.map L))) (Maps.size (DataW.map L)) w :=
    AnyZI.keys_gives (ρ := lKeys_ren) { lKeys with } Fence.wide _ trivial rfl (by omega) q bm ks.length (DataW.map L) w hql hq ho
  have cS := AnyZI.sorted_in lSorted Fence.wide 4 trivial trivial trivial trivial rfl (by omega) (sortsIn _) (enters_of Try.func37 (by kernel_rfl) rfl) 38 #[.pointer (some ⟨q, 0, none⟩)] trivial (enters_of Try.func38 (by kernel_rfl) rfl) _ _ (Nat.le_trans hsz (by decide)) (by omega) w hseq
  refine ((callsIn_wide (n := 4)).1 cS).mono ?_
  rintro e w' ⟨v, ss, rfl, hS, hrow, hnil, hb⟩
  refine ⟨v, rfl, ss, hS.trans (MpS.keys hp), ?_, (Upd.of_below hb).mono (fun k hk h => by omega)⟩
  have := Sl.own hrow
  unfold SlR
  rw [rws_encI, (List.mergeSort_perm _ _).length_eq]
  exact this

/-- A line, as it lies. -/
def encL (p : Int × Ln) : List Value := [.int .i64 p.1, .int .i64 p.2.arr, .int .i64 p.2.ended, .int .i64 p.2.lost, .int .i64 p.2.least, .int .i64 p.2.most, .int .i64 p.2.sum]
theorem encL_len (p : Int × Ln) : (encL p).length = 7 := rfl
theorem encL_one (p : Int × Ln) : ∀ u ∈ encL p, u.oneCell' = true := by
  intro u hu
  simp [encL] at hu
  rcases hu with rfl | rfl | rfl | rfl | rfl | rfl | rfl <;> rfl
def lineP (l : List J5) (t : Int) : Int × Ln := (t, lineJ l t)
def linesJ (l : List J5) : List (Int × Ln) := (sortT l).map (lineP l)
theorem infoL : (Try.prog.info? 44).map (fun i => (i.zero, i.size, i.bytes)) = some (some (.agg #[.int .i64 0, .int .i64 0, .int .i64 0, .int .i64 0, .int .i64 0, .int .i64 0, .int .i64 0]), 7, 56) := by kernel_rfl
theorem slr_int {w : World} {base b off n cap : Nat} {l : List Int} (h : SlR encI w base 3 1 (.slice (some ⟨b, off, none⟩) n cap) l) (i : Nat) (x : Int) (hx : l[i]? = some x) : w.cell? ⟨b, off + i, none⟩ = some (.int .i64 x) := by
  have := h.cell encI_len i x hx 0 _ rfl
  rwa [Nat.mul_one] at this
theorem task_wf {l : List J5} (hwf : ∀ j ∈ l, j.Wf) {t : Int} (h : t ∈ sortT l) : (Lit.int .i64 t).wf = true := by
  rw [sortT_mem] at h
  obtain ⟨j, hj, rfl⟩ := List.mem_map.1 h
  exact (hwf j hj).t

/-- A table is kept where blocks of lines alone are turned. -/
theorem TabS.off {w w' : World} {g bm B W : Nat} {ks : KS} {ln : Int → Ln} {ct : Int → List Int} {N S : Nat → Prop} (h : TabS w g bm B W ks ln ct N) (hu : Upd S w w') (hS : ∀ q, S q → ∃ cs, Blk w q 44 cs) : TabS w' g bm B W ks ln ct N := by
  refine ⟨h.b.upd hu (fun e => ?_), h.m.upd hu (fun e => ?_), fun e he => (h.e e he).upd hu (fun x => ?_) (fun x => ?_), h.n1, h.n2, h.n3, h.ng, h.nm, h.nk⟩
  · obtain ⟨cs, hc⟩ := hS _ e; exact hc.ne_ h.b (by decide) rfl
  · obtain ⟨cs, hc⟩ := hS _ e; exact h.m.ne_ hc rfl
  · obtain ⟨cs, hc⟩ := hS _ x; exact hc.ne_ (h.e e he).kn (by decide) rfl
  · obtain ⟨cs, hc⟩ := hS _ x
    obtain ⟨_, _, cur, hcur⟩ := Sl.blk (h.e e he).cn _ rfl
    exact hc.ne_ hcur (by decide) rfl
set_option maxRecDepth 100000 in
set_option maxHeartbeats 3200000 in
theorem linesC (w : World) (g bm B W : Nat) (ks : KS) (N : Nat → Prop) (l : List J5) (h : TabJ w g bm B W ks l N) (hl : l.length ≤ 200) (hwf : ∀ j ∈ l, j.Wf) :
    Calls Try.prog 18 #[.pointer (some ⟨g, 0, none⟩)] w fun e w' => ∃ v, e = .returned v ∧ SlR encL w' w.heap.size 44 7 v (linesJ l) ∧ Upd (fun _ => False) w w' := by
  obtain ⟨i0, hi0, hz0, hz1, hz2⟩ := info_parts infoL
  have HNone := Lib.hid (noneC w g bm _ _ h.1.b)
  have H := Lib.hid h; have HWF := Lib.hid hwf
  have hkl := TabJ.klen h
  clear h hwf
  go_enter Try.func18, Try.ntmps18
  go_wp2_with fail
  refine HNone.out.mono ?_
  rintro e w1 ⟨rfl, k1, rfl⟩
  have T1 : Hid (TabJ (w.drewN k1) g bm B W ks l N) := Lib.hid ⟨H.out.1.drewN k1, H.out.2⟩
  have U1 : Hid (Upd (fun _ => False) w (w.drewN k1)) := Lib.hid ((Upd.refl _ w).drewN k1)
  have c0 : (w.drewN k1).cell? ⟨g, 0, none⟩ = some (.map (some bm)) := T1.out.1.b.cell 0
  clear HNone
  generalize w.drewN k1 = w1 at *
  go_wp2_with fail
  refine (keysC _ bm).mono ?_
  rintro e w2 ⟨rfl, rfl⟩
  have hu2 : Upd (fun _ => False) w1 (w1.alloc (.cells #[.map (some bm)] 45)) := (Upd.refl _ w1).alloc _
  have HSO := Lib.hid (sortedC (w1.alloc (.cells #[.map (some bm)] 45)) w1.heap.size bm ks (T1.out.1.m.upd hu2 (fun h => h)) ((Blk.new w1 _ _).cell 0) (Blk.new w1 _ _).lt (by omega))
  have T2 : Hid (TabJ (w1.alloc (.cells #[.map (some bm)] 45)) g bm B W ks l N) := Lib.hid ⟨T1.out.1.still hu2, T1.out.2⟩
  have U2 := Lib.hid (U1.out.trans hu2)
  clear hu2 c0
  go_wp2_with fail
  refine HSO.out.mono ?_
  rintro e w3 ⟨v, rfl, ss, hss, hv, hU3⟩
  replace hss := hss.trans T2.out.2
  rw [tasks_sort hss] at hv
  obtain ⟨Ak, ck, rfl⟩ := hv.shape
  have V3 := Lib.hid (hv.mono (Nat.le_trans U1.out.size (by simp)))
  have T3 : Hid (TabJ w3 g bm B W ks l N) := Lib.hid ⟨T2.out.1.still hU3, T2.out.2⟩
  have U3 := Lib.hid (U2.out.trans hU3)
  have hsl := sortT_len l
  obtain ⟨ts, hts⟩ : ∃ ts, sortT l = ts := ⟨_, rfl⟩
  have HTS := Lib.hid hts
  rw [hts] at V3 hsl ⊢
  clear hss hv hU3 hts
  go_wp2_with fail
  go_loopw [3, 15] (fun v3 v15 wr => ∃ (i : Nat), i ≤ ts.length ∧ v15 = .int .i64 i ∧ SlR encL wr w.heap.size 44 7 v3 ((ts.take i).map (lineP l)) ∧ SlR encI wr w.heap.size 3 1 (.slice Ak ts.length ck) ts ∧ TabJ wr g bm B W ks l N ∧ Upd (fun _ => False) w wr) (fun _ v15 _ => ts.length - (intOf v15).toNat)
  case atStart => exact ⟨0, Nat.zero_le _, rfl, SlR.nil, V3.out, T3.out, U3.out⟩
  case round =>
    obtain ⟨i, hi, rfl, hO, hV, hT, hU⟩ := hrel
    obtain ⟨Ao, co, rfl⟩ := hO.shape
    have O4 := Lib.hid hO; have V4 := Lib.hid hV; have T4 := Lib.hid hT; have U4 := Lib.hid hU
    have hol : ((ts.take i).map (lineP l)).length = i := by rw [List.length_map, List.length_take]; omega
    rw [hol] at O4 ⊢
    have HM2 := Lib.hid hol
    clear hol
    by_cases hlt : i < ts.length
    · obtain ⟨t, ht⟩ : ∃ t, ts[i]? = some t := ⟨_, List.getElem?_eq_getElem hlt⟩
      obtain ⟨bk, ok, ck', he, _, _, _, _⟩ := hV.form (by omega)
      injection he with he1 he2 he3
      subst he1; subst he3
      have ck0 := slr_int hV i t ht
      have htm : t ∈ sortT l := by rw [HTS.out]; exact List.mem_of_getElem? ht
      have htw := task_wf HWF.out htm
      have dl : decide ((i : Int) < (ts.length : Int)) = true := decide_eq_true (by omega)
      have HT := Lib.hid ht
      rcases hT.1.m.look hT.1.n1 t htw false with ⟨k, cb, hm, hrun⟩ | ⟨hno, _⟩
      · obtain ⟨⟨arr, en, lo, le, mo, su⟩, hx⟩ : ∃ x, lineJ l t = x := ⟨_, rfl⟩
        have hB := (hT.1.e _ hm).kn
        dsimp only at hB
        rw [hx] at hB
        have e0 : wr.cell? ⟨k, 0, none⟩ = some (.int .i64 t) := hB.cell 0
        have e1 : wr.cell? ⟨k, 1, none⟩ = some (.int .i64 arr) := hB.cell 1
        have e2 : wr.cell? ⟨k, 2, none⟩ = some (.int .i64 en) := hB.cell 2
        have e3 : wr.cell? ⟨k, 3, none⟩ = some (.int .i64 lo) := hB.cell 3
        have e4 : wr.cell? ⟨k, 4, none⟩ = some (.int .i64 le) := hB.cell 4
        have e5 : wr.cell? ⟨k, 5, none⟩ = some (.int .i64 mo) := hB.cell 5
        have e6 : wr.cell? ⟨k, 6, none⟩ = some (.int .i64 su) := hB.cell 6
        have g0 : wr.cell? ⟨g, 0, none⟩ = some (.map (some bm)) := hT.1.b.cell 0
        have hrun' : (Instr.lookup 45 (.map (some bm)) (.int .i64 t) false).run Try.prog wr = .ok (.pointer (some ⟨k, 0, none⟩)) wr := hrun
        have HX := Lib.hid hx
        have hsz : w.heap.size ≤ (wr.alloc (.cells #[.int .i64 t, .int .i64 arr, .int .i64 en, .int .i64 lo, .int .i64 le, .int .i64 mo, .int .i64 su] 44)).heap.size := Nat.le_trans hU.size (by simp)
        have hlen : i < 1000 := by omega
        clear hO hV hT hU ht htm htw hm hrun hB hx he2
        go_wp2_with (
          at_builtin
          refine wpList_append_sl rfl (.tmp 19) (.tmp 29) 41 rfl w.heap.size 44 i0 _ 7 56 Try.underlying41 hi0 hz0 hz1 hz2 rfl (by decide) (.slice Ao i co) i (rws encL ((ts.take i).map (lineP l))) rfl (by have := O4.out; unfold SlR at this; rw [HM2.out] at this; exact Sl.alloc this _) ⟨_, 0, none⟩ 1 [.int .i64 t, .int .i64 arr, .int .i64 en, .int .i64 lo, .int .i64 le, .int .i64 mo, .int .i64 su] rfl rfl (fun j u hu => by rw [add_at]; refine ((Blk.new wr 44 #[.int .i64 t, .int .i64 arr, .int .i64 en, .int .i64 lo, .int .i64 le, .int .i64 mo, .int .i64 su]).cell j).trans ?_; simpa using hu) (by simp [Value.oneCell']) (by unfold maxLen; omega) (by omega) hsz ?_
          intro v9 wZ hs1 hu1 hv1
          obtain ⟨bz, oz, cz, hvz, _, _, _, _⟩ := hs1.form (by omega)
          subst hvz
          have hge : ∀ q, slBlk (.slice Ao i co) = some q → w.heap.size ≤ q ∧ ∃ cur, Blk wr q 44 cur := fun q hq => by
            obtain ⟨h1, _, h3⟩ := Sl.blk O4.out q hq
            exact ⟨h1, h3⟩
          have NO : Hid (SlR encL wZ w.heap.size 44 7 (.slice (some ⟨bz, oz, none⟩) (i + 1) cz) ((ts.take (i + 1)).map (lineP l))) := Lib.hid (by
            rw [take_succ_get HT.out, List.map_append]
            unfold SlR
            rw [rws_append, List.length_append, HM2.out]
            have e : rws encL ([t].map (lineP l)) = [.int .i64 t, .int .i64 arr, .int .i64 en, .int .i64 lo, .int .i64 le, .int .i64 mo, .int .i64 su] := by
              show rws encL [lineP l t] = _
              unfold lineP
              rw [HX.out]
              rfl
            rw [e]
            exact hs1)
          have ha := (Upd.refl (fun _ => False) wr).alloc (.cells #[.int .i64 t, .int .i64 arr, .int .i64 en, .int .i64 lo, .int .i64 le, .int .i64 mo, .int .i64 su] 44)
          have hu2 : Upd (fun q => slBlk (.slice Ao i co) = some q) wr wZ := (ha.mono (fun _ _ h => h.elim)).trans hu1
          have NV := Lib.hid (V4.out.upd hu2 (fun q hq h => by
            obtain ⟨_, cur, hc⟩ := hge q h
            obtain ⟨_, _, cur2, hc2⟩ := Sl.blk V4.out q hq
            exact hc.ne_ hc2 (by decide) rfl))
          have NT : Hid (TabJ wZ g bm B W ks l N) := Lib.hid ⟨T4.out.1.off hu2 (fun q h => (hge q h).2), T4.out.2⟩
          have NU : Hid (Upd (fun _ => False) w wZ) := Lib.hid (((U4.out.mono (fun _ _ h => h.elim)).trans hu2).mono (fun q hq h => by have := (hge q h).1; omega))
          clear hs1 hu1 hv1 hge ha hu2)
        go_roundw
        case rel => exact ⟨i + 1, by omega, by go_num, NO.out, NV.out, NT.out, NU.out⟩
        case measure => simp [intOf]; omega
      · exfalso
        rw [hT.2.mem_iff, tasksJ_mem, ← sortT_mem] at hno
        exact hno htm
    · have hie : i = ts.length := by omega
      subst hie
      have hO2 := O4.out
      rw [List.take_length] at hO2
      have OE := Lib.hid hO2
      clear hO hV hT hU hO2
      go_wp2_with fail
      go_returns
      refine ⟨_, rfl, ?_, U4.out⟩
      unfold linesJ
      rw [HTS.out]
      exact OE.out
end Go.Proofs.Ythjebjegedgoeaa
