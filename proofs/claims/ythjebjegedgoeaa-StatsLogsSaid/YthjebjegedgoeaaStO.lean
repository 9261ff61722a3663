/-
  Stats: the jobs as the program has them; are two tables the same. (Written by sto.py.)
-/
import Derived.Test.YthjebjegedgoeaaStN
namespace Go.Proofs.Ythjebjegedgoeaa
open Go.RowKit Go.Shelf Go.Maps Go.Sort
attribute [local go_sem] max_ints min_ints

theorem infoAJ : (Try.prog.info? 58).map (fun i => (i.zero, i.size, i.bytes)) = some (some (.agg #[.int .i64 0, .int .i64 0, .int .i64 0, .int .i64 0, .int .i64 0]), 5, 40) := by kernel_rfl

set_option maxRecDepth 100000 in
set_option maxHeartbeats 3200000 in
theorem jobsC (w : World) (A : Option Addr) (cap : Nat) (l : List J5) (hl : l.length ≤ 1000) (hc : JRow w A l) :
    Calls Try.prog 9 #[.slice A l.length cap] w fun e w' => ∃ v, e = .returned v ∧ SlR encJ w' w.heap.size 58 5 v l ∧ Upd (fun _ => False) w w' := by
  obtain ⟨i0, hi0, hz0, hz1, hz2⟩ := info_parts infoAJ
  have HC := Lib.hid hc
  clear hc
  go_enter Try.func9, Try.ntmps9
  go_wp2_with fail
  go_loopw [3, 4] (fun v3 v4 wr => ∃ (i : Nat), i ≤ l.length ∧ v4 = .int .i64 i ∧ SlR encJ wr w.heap.size 58 5 v3 (l.take i) ∧ Upd (fun _ => False) w wr) (fun _ v4 _ => l.length - (intOf v4).toNat)
  case atStart => exact ⟨0, Nat.zero_le _, rfl, SlR.nil, Upd.refl _ w⟩
  case round =>
    obtain ⟨i, hi, rfl, hO, hU⟩ := hrel
    obtain ⟨Ao, co, rfl⟩ := hO.shape
    have O4 := Lib.hid hO; have U4 := Lib.hid hU
    have htl : (l.take i).length = i := by rw [List.length_take]; omega
    have HL := Lib.hid htl
    rw [HL.out] at O4 ⊢
    by_cases hlt : i < l.length
    · obtain ⟨j, hj⟩ : ∃ j, l[i]? = some j := ⟨_, List.getElem?_eq_getElem hlt⟩
      obtain ⟨b, o, rfl, hb, c0, c1, c2, c3, c4⟩ := (HC.out.still hU) i j hj
      have HJ := Lib.hid hj
      have hsz := hU.size
      obtain ⟨t, k, f, to, e⟩ := j
      dsimp only at c0 c1 c2 c3 c4
      have dl : decide ((i : Int) < (l.length : Int)) = true := decide_eq_true (by omega)
      have di : decide ((i : Int) < 0) = false := decide_eq_false (by omega)
      have hsz2 : w.heap.size ≤ (wr.alloc (.cells #[.int .i64 t, .int .i64 k, .int .i64 f, .int .i64 to, .int .i64 e] 58)).heap.size := Nat.le_trans hsz ((Upd.refl (fun _ => False) wr).alloc (.cells #[.int .i64 t, .int .i64 k, .int .i64 f, .int .i64 to, .int .i64 e] 58)).size
      clear hO hU hj hb htl
      go_wp2_with (
        at_builtin
        refine wpList_append_sl rfl (.tmp 11) (.tmp 16) 28 rfl w.heap.size 58 i0 _ 5 40 Try.underlying28 hi0 hz0 hz1 hz2 rfl (by decide) (.slice Ao i co) i (rws encJ (l.take i)) rfl (by have := O4.out; unfold SlR at this; rw [HL.out] at this; exact Sl.alloc this _) ⟨_, 0, none⟩ 1 [.int .i64 t, .int .i64 k, .int .i64 f, .int .i64 to, .int .i64 e] rfl rfl (fun j u hu => by rw [add_at]; refine ((Blk.new wr 58 #[.int .i64 t, .int .i64 k, .int .i64 f, .int .i64 to, .int .i64 e]).cell j).trans ?_; simpa using hu) (by simp [Value.oneCell']) (by unfold maxLen; omega) (by omega) hsz2 ?_
        intro v9 wZ hs1 hu1 hv1
        obtain ⟨bz, oz, cz, hvz, _, _, _, _⟩ := hs1.form (by omega)
        subst hvz
        have NO : Hid (SlR encJ wZ w.heap.size 58 5 (.slice (some ⟨bz, oz, none⟩) (i + 1) cz) (l.take (i + 1))) := Lib.hid (by
          rw [take_succ_get HJ.out]
          unfold SlR
          rw [rws_append, List.length_append, HL.out, rws_one]
          exact hs1)
        have NU : Hid (Upd (fun _ => False) w wZ) := Lib.hid ((((U4.out.alloc _).mono (fun _ _ h => h.elim)).trans hu1).mono (fun q hq h => by have := (Sl.blk O4.out q h).1; omega))
        clear hs1 hu1 hv1)
      go_roundw
      case rel => exact ⟨i + 1, by omega, by go_num, NO.out, NU.out⟩
      case measure => simp [intOf]; omega
    · have hie : i = l.length := by omega
      subst hie
      have hO2 := O4.out
      rw [List.take_length] at hO2
      have OE := Lib.hid hO2
      clear hO hU hO2
      go_wp2_with fail
      go_returns
      exact ⟨_, rfl, OE.out, U4.out⟩

theorem TabJ.still {w w' : World} {g bm B W : Nat} {ks : KS} {l : List J5} {N : Nat → Prop} (h : TabJ w g bm B W ks l N) (hu : Upd (fun _ => False) w w') : TabJ w' g bm B W ks l N := ⟨h.1.off hu (fun _ h => h.elim), h.2⟩
theorem TabJ.drew1 {w : World} {g bm B W : Nat} {ks : KS} {l : List J5} {N : Nat → Prop} (h : TabJ w g bm B W ks l N) : TabJ w.drew g bm B W ks l N := h.still (Upd.refl _ w).drew

set_option maxRecDepth 100000 in
set_option maxHeartbeats 6400000 in
theorem sameC (w : World) (g bm B W : Nat) (ks : KS) (N : Nat → Prop) (l : List J5) (r cap : Nat) (A : Option Addr) (hT : TabJ w g bm B W ks l N) (hR : RTab w r B W A cap l) (hl : l.length ≤ 200) (hwf : ∀ j ∈ l, j.Wf) (hB : 1 ≤ B) (hB2 : B ≤ 64) (hW1 : 1 ≤ W) :
    Calls Try.prog 11 #[.pointer (some ⟨g, 0, none⟩), .pointer (some ⟨r, 0, none⟩)] w fun e w' => e = .returned (.bool true) ∧ Upd (fun _ => False) w w' := by
  have HT := Lib.hid hT; have HR := Lib.hid hR; have HW := Lib.hid hwf
  have hll : (linesJ l).length ≤ 200 := by unfold linesJ; rw [List.length_map]; have := sortT_len l; omega
  clear hT hR hwf
  go_enter Try.func11, Try.ntmps11
  go_wp2_with fail
  refine (linesC w g bm B W ks N l HT.out hl HW.out).mono ?_
  rintro e w1 ⟨v1, rfl, hv1, hU1⟩
  have V1 := Lib.hid hv1; have U1 := Lib.hid hU1
  have R1 := Lib.hid (HR.out.still hU1)
  clear hv1 hU1
  go_wp2_with fail
  refine (rLinesC w1 r B W cap A l R1.out hl HW.out).mono ?_
  rintro e w2 ⟨v2, rfl, hv2, hU2⟩
  have V2 := Lib.hid hv2
  have V12 := Lib.hid (V1.out.upd hU2 (fun _ _ h => h))
  have U2 := Lib.hid (U1.out.trans hU2)
  clear hv2 hU2 V1
  obtain ⟨n, hn⟩ : ∃ n, (linesJ l).length = n := ⟨_, rfl⟩
  obtain ⟨A1, c1, rfl⟩ := V12.out.shape
  obtain ⟨A2, c2, rfl⟩ := V2.out.shape
  have HN := Lib.hid hn
  rw [hn] at V12 V2 hll ⊢
  clear hn
  go_wp2_with fail
  go_loopw [7] (fun v7 wr => ∃ (i : Nat), i ≤ n ∧ v7 = .int .i64 i ∧ Upd (fun _ => False) w2 wr) (fun v7 _ => n - (intOf v7).toNat)
  case atStart => exact ⟨0, Nat.zero_le _, rfl, Upd.refl _ w2⟩
  case round =>
    obtain ⟨i, hi, rfl, hU⟩ := hrel
    have U4 := Lib.hid hU
    by_cases hlt : i < n
    · obtain ⟨p, hp⟩ : ∃ p, (linesJ l)[i]? = some p := ⟨_, List.getElem?_eq_getElem (by rw [HN.out]; exact hlt)⟩
      have V5 := Lib.hid (V12.out.upd hU (fun _ _ h => h))
      have V6 := Lib.hid (V2.out.upd hU (fun _ _ h => h))
      have T4 : Hid (TabJ wr g bm B W ks l N) := Lib.hid (HT.out.still (U2.out.trans hU))
      have R4 : Hid (RTab wr r B W A cap l) := Lib.hid (HR.out.still (U2.out.trans hU))
      obtain ⟨b1, o1, c1', e1, _, _, _, _⟩ := V5.out.form (by rw [HN.out]; omega)
      obtain ⟨b2, o2, c2', e2, _, _, _, _⟩ := V6.out.form (by rw [HN.out]; omega)
      injection e1 with e1 e1b e1c
      injection e2 with e2 e2b e2c
      subst e1; subst e2; subst e1c; subst e2c
      clear e1b e2b
      have hpt : p.1 ∈ sortT l := by
        have h := List.mem_of_getElem? hp
        unfold linesJ at h
        obtain ⟨x, hx, rfl⟩ := List.mem_map.1 h
        exact hx
      have HWF : Hid ((Lit.int .i64 p.1).wf = true) := Lib.hid (by
        rw [sortT_mem] at hpt
        obtain ⟨j, hj, he⟩ := List.mem_map.1 hpt
        rw [← he]
        exact (HW.out j hj).t)
      obtain ⟨t, arr, en, lo, le, mo, su⟩ := p
      have HS : Hid (∀ w', Upd (fun _ => False) wr w' → (fun w' => (w'.cell? ⟨b1, o1 + i * 7, none⟩ = some (.int .i64 t) ∧ w'.cell? ⟨b1, o1 + i * 7 + 1, none⟩ = some (.int .i64 arr) ∧ w'.cell? ⟨b1, o1 + i * 7 + 2, none⟩ = some (.int .i64 en) ∧ w'.cell? ⟨b1, o1 + i * 7 + 3, none⟩ = some (.int .i64 lo) ∧ w'.cell? ⟨b1, o1 + i * 7 + 4, none⟩ = some (.int .i64 le) ∧ w'.cell? ⟨b1, o1 + i * 7 + 5, none⟩ = some (.int .i64 mo) ∧ w'.cell? ⟨b1, o1 + i * 7 + 6, none⟩ = some (.int .i64 su)) ∧ w'.cell? ⟨b2, o2 + i * 7, none⟩ = some (.int .i64 t) ∧ w'.cell? ⟨b2, o2 + i * 7 + 1, none⟩ = some (.int .i64 arr) ∧ w'.cell? ⟨b2, o2 + i * 7 + 2, none⟩ = some (.int .i64 en) ∧ w'.cell? ⟨b2, o2 + i * 7 + 3, none⟩ = some (.int .i64 lo) ∧ w'.cell? ⟨b2, o2 + i * 7 + 4, none⟩ = some (.int .i64 le) ∧ w'.cell? ⟨b2, o2 + i * 7 + 5, none⟩ = some (.int .i64 mo) ∧ w'.cell? ⟨b2, o2 + i * 7 + 6, none⟩ = some (.int .i64 su)) w') := Lib.hid (fun w' hu => by
        have X := V5.out.upd hu (fun _ _ h => h)
        have Y := V6.out.upd hu (fun _ _ h => h)
        exact ⟨⟨X.cell encL_len i _ hp 0 _ rfl, X.cell encL_len i _ hp 1 _ rfl, X.cell encL_len i _ hp 2 _ rfl, X.cell encL_len i _ hp 3 _ rfl, X.cell encL_len i _ hp 4 _ rfl, X.cell encL_len i _ hp 5 _ rfl, X.cell encL_len i _ hp 6 _ rfl⟩,
          Y.cell encL_len i _ hp 0 _ rfl, Y.cell encL_len i _ hp 1 _ rfl, Y.cell encL_len i _ hp 2 _ rfl, Y.cell encL_len i _ hp 3 _ rfl, Y.cell encL_len i _ hp 4 _ rfl, Y.cell encL_len i _ hp 5 _ rfl, Y.cell encL_len i _ hp 6 _ rfl⟩)
      have dl : decide ((i : Int) < (n : Int)) = true := decide_eq_true (by omega)
      have di : decide ((i : Int) < 0) = false := decide_eq_false (by omega)
      dsimp only at HWF
      clear hp hpt hU
      go_upto_region 8 with fail
      refine wp_region_tree (.q 0 (.q 1 (.q 2 (.q 3 (.q 4 (.q 5 (.q 6 (.q 7 (.q 8 (.q 9 (.q 10 (.q 11 (.q 12 (.q 13 (.q 14 (.q 15 (.q 17 (.q 18 (.q 19 (.q 20 (.q 21 (.q 22 (.l 16 (.l 23 (.l 24 (.q 25 (.q 26 .d))))))))))))))))))))))))))) (fun i => decide (27 ≤ i ∧ i < 27)) (fun w' => (w'.cell? ⟨b1, o1 + i * 7, none⟩ = some (.int .i64 t) ∧ w'.cell? ⟨b1, o1 + i * 7 + 1, none⟩ = some (.int .i64 arr) ∧ w'.cell? ⟨b1, o1 + i * 7 + 2, none⟩ = some (.int .i64 en) ∧ w'.cell? ⟨b1, o1 + i * 7 + 3, none⟩ = some (.int .i64 lo) ∧ w'.cell? ⟨b1, o1 + i * 7 + 4, none⟩ = some (.int .i64 le) ∧ w'.cell? ⟨b1, o1 + i * 7 + 5, none⟩ = some (.int .i64 mo) ∧ w'.cell? ⟨b1, o1 + i * 7 + 6, none⟩ = some (.int .i64 su)) ∧ w'.cell? ⟨b2, o2 + i * 7, none⟩ = some (.int .i64 t) ∧ w'.cell? ⟨b2, o2 + i * 7 + 1, none⟩ = some (.int .i64 arr) ∧ w'.cell? ⟨b2, o2 + i * 7 + 2, none⟩ = some (.int .i64 en) ∧ w'.cell? ⟨b2, o2 + i * 7 + 3, none⟩ = some (.int .i64 lo) ∧ w'.cell? ⟨b2, o2 + i * 7 + 4, none⟩ = some (.int .i64 le) ∧ w'.cell? ⟨b2, o2 + i * 7 + 5, none⟩ = some (.int .i64 mo) ∧ w'.cell? ⟨b2, o2 + i * 7 + 6, none⟩ = some (.int .i64 su))
        (by kernel_rfl) (by kernel_rfl) (fun t ht => (of_decide_eq_true ht).2) (fun _ _ _ _ _ h => h) (by kernel_rfl) rfl (HS.out _ ((Upd.refl _ wr).drew)) ?_
      iterate 22
        (refine' wpOT_q (by rfl) (by rfl) (fun w' hS' => ?_) ?_
         rotate_left
         · obtain ⟨⟨s0, s1, s2, s3, s4, s5, s6⟩, r0, r1, r2, r3, r4, r5, r6⟩ := hS'
           go_simp
           try rfl)
        try simp only [Act.put, List.setIfInBounds_toArray, List.set_cons_zero, List.set_cons_succ]
      refine wpOT_l (by rfl) (by rfl) (fun KQ hKQ => ?_)
      go_simp
      go_at_call 15
      refine (countsC wr.drew g bm B W ks N l (TabJ.drew1 T4.out) hB2 t HWF.out).mono ?_
      rintro e wA ⟨vA, rfl, hvA, hUA⟩
      have VA := Lib.hid hvA
      have UA : Hid (Upd (fun _ => False) wr wA) := Lib.hid ((Upd.refl (fun _ => False) wr).drew.trans hUA)
      clear hvA hUA
      refine hKQ _ _ (.inr (HS.out _ UA.out)) ?_
      clear hKQ KQ
      try simp only [Act.put, List.setIfInBounds_toArray, List.set_cons_zero, List.set_cons_succ]
      refine wpOT_l (by rfl) (by rfl) (fun KQ hKQ => ?_)
      go_simp
      go_at_call 16
      refine (rCountsC wA r B W cap A l (R4.out.still UA.out) hl HW.out hB hB2 hW1 t).mono ?_
      rintro e wB ⟨vB, rfl, hvB, hUB⟩
      have VB := Lib.hid hvB
      have VA2 := Lib.hid (VA.out.upd hUB (fun _ _ h => h))
      have UB := Lib.hid (UA.out.trans hUB)
      clear hvB hUB VA
      refine hKQ _ _ (.inr (HS.out _ UB.out)) ?_
      clear hKQ KQ
      try simp only [Act.put, List.setIfInBounds_toArray, List.set_cons_zero, List.set_cons_succ]
      refine wpOT_l (by rfl) (by rfl) (fun KQ hKQ => ?_)
      go_simp
      go_at_call 12
      refine (intsEq wB _ _ vA vB _ VA2.out VB.out (Nat.le_trans (cntsJ_len B W l t) (by omega))).mono ?_
      rintro e wC ⟨rfl, kC, hC⟩
      have UC : Hid (Upd (fun _ => False) wr wC) := Lib.hid (by rw [hC]; exact UB.out.drewN kC)
      clear hC
      refine hKQ _ _ (.inr (HS.out _ UC.out)) ?_
      clear hKQ KQ
      try simp only [Act.put, List.setIfInBounds_toArray, List.set_cons_zero, List.set_cons_succ]
      iterate 2
        (refine' wpOT_q (by rfl) (by rfl) (fun w' hS' => ?_) ?_
         rotate_left
         · clear hS'
           go_simp
           try rfl)
        try simp only [Act.put, List.setIfInBounds_toArray, List.set_cons_zero, List.set_cons_succ]
      refine wpOT_d ?_
      have NU := Lib.hid (U4.out.trans UC.out)
      go_wp2_with fail
      go_roundw
      case rel => exact ⟨i + 1, by omega, by go_num, NU.out⟩
      case measure => simp [intOf]; omega
    · have hie : i = n := by omega
      subst hie
      clear hU
      go_wp2_with fail
      go_returns
      exact ⟨rfl, U2.out.trans U4.out⟩
end Go.Proofs.Ythjebjegedgoeaa
