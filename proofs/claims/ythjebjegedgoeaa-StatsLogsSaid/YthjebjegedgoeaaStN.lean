/-
  Stats: the document's Lines. (Written by stn.py.)
-/
import Derived.Test.YthjebjegedgoeaaStL
import Derived.Test.YthjebjegedgoeaaSlM
import Derived.Test.YthjebjegedgoeaaSeqT
namespace Go.Proofs.Ythjebjegedgoeaa
open Go.RowKit Go.Shelf Go.Maps Go.Sort
attribute [local go_sem] max_ints min_ints

theorem infoRL : (Try.prog.info? 69).map (fun i => (i.zero, i.size, i.bytes)) = some (some (.agg #[.int .i64 0, .int .i64 0, .int .i64 0, .int .i64 0, .int .i64 0, .int .i64 0, .int .i64 0]), 7, 56) := by kernel_rfl
theorem slr_line {w : World} {base b off n cap : Nat} {l : List J5} {ts : List Int} (h : SlR encL w base 69 7 (.slice (some ⟨b, off, none⟩) n cap) (ts.map (lineP l))) (i : Nat) (x : Int) (hx : ts[i]? = some x) : w.cell? ⟨b, off + i * 7, none⟩ = some (.int .i64 x) :=
  h.cell encL_len i (lineP l x) (by rw [List.getElem?_map, hx]; rfl) 0 _ rfl
theorem hadSucc {l : List J5} {k : Nat} {jk : J5} {t : Int} (h : l[k]? = some jk) : t ∈ (l.take (k + 1)).map J5.t ↔ t ∈ (l.take k).map J5.t ∨ jk.t = t := by
  rw [take_succ_get h, List.map_append, List.mem_append]
  simp [eq_comm]

set_option maxRecDepth 100000 in
set_option maxHeartbeats 6400000 in
theorem rLinesC (w : World) (r B W cap : Nat) (A : Option Addr) (l : List J5) (h : RTab w r B W A cap l) (hl : l.length ≤ 200) (hwf : ∀ j ∈ l, j.Wf) :
    Calls Try.prog 25 #[.pointer (some ⟨r, 0, none⟩)] w fun e w' => ∃ v, e = .returned v ∧ SlR encL w' w.heap.size 69 7 v (linesJ l) ∧ Upd (fun _ => False) w w' := by
  obtain ⟨i0, hi0, hz0, hz1, hz2⟩ := info_parts infoRL
  have H := Lib.hid h; have HWF := Lib.hid hwf
  clear h hwf
  go_enter Try.func25, Try.ntmps25
  go_wp2_with fail
  go_loopw [3, 4, 5, 6, 7] (fun v3 v4 v5 v6 v7 wr => ∃ (i : Nat), i ≤ l.length ∧ v4 = .int .i64 i ∧ SlR encL wr w.heap.size 69 7 v3 ((sortT (l.take i)).map (lineP l)) ∧ Upd (fun _ => False) w wr) (fun _ v4 _ _ _ _ => l.length - (intOf v4).toNat)
  case atStart => exact ⟨0, Nat.zero_le _, rfl, SlR.nil, Upd.refl _ w⟩
  case round =>
    obtain ⟨i, hi, rfl, hO, hU⟩ := hrel
    obtain ⟨Ao, co, rfl⟩ := hO.shape
    have R1 := Lib.hid (H.out.still hU)
    have O1 := Lib.hid hO; have U1 := Lib.hid hU
    have r2 : wr.cell? ⟨r, 2, none⟩ = some (.slice A l.length cap) := R1.out.b.cell 2
    have htl : (l.take i).length = i := by rw [List.length_take]; omega
    obtain ⟨ts, hts⟩ : ∃ ts, sortT (l.take i) = ts := ⟨_, rfl⟩
    have HTS := Lib.hid hts
    rw [hts] at O1 ⊢
    have hnl : ts.length ≤ 200 := by have := sortT_len (l.take i); rw [hts] at this; omega
    obtain ⟨n, hn⟩ : ∃ n, (ts.map (lineP l)).length = n := ⟨_, rfl⟩
    have hnt : ts.length = n := by rw [← hn, List.length_map]
    rw [hn] at O1 ⊢
    have HN := Lib.hid hnt
    rw [hnt] at hnl
    clear hO hU htl hts hnt
    by_cases hlt : i < l.length
    · obtain ⟨j, hj⟩ : ∃ j, l[i]? = some j := ⟨_, List.getElem?_eq_getElem hlt⟩
      obtain ⟨b, o, rfl, hb, c0, _⟩ := R1.out.j i j hj
      have HJ := Lib.hid hj
      obtain ⟨jt, hjt⟩ : ∃ jt, j.t = jt := ⟨_, rfl⟩
      have HJT := Lib.hid hjt
      rw [hjt] at c0
      have dl : decide ((i : Int) < (l.length : Int)) = true := decide_eq_true (by omega)
      have di : decide ((i : Int) < 0) = false := decide_eq_false (by omega)
      have R1b : Hid (RTab wr r B W (some ⟨b, o, none⟩) cap l) := R1
      clear hj hb hjt
      go_upto_region 6 with fail
      go_wp2_with fail
      go_loopw [5, 6] (fun v5 v6 wq => ∃ (k q : Nat), k ≤ i ∧ v6 = .int .i64 k ∧ v5 = .bool (decide (jt ∈ (l.take k).map J5.t)) ∧ wq = wr.drewN q) (fun _ v6 _ => i - (intOf v6).toNat)
      case atStart => exact ⟨0, 0, Nat.zero_le _, rfl, by simp, rfl⟩
      case round =>
        rename_i wr0
        obtain ⟨k, q, hk, rfl, rfl, hwq⟩ := hrel
        have HWQ := Lib.hid hwq
        have Rq : Hid (RTab wr r B W (some ⟨b, o, none⟩) cap l) := Lib.hid (by rw [hwq]; exact R1b.out.still ((Upd.refl _ _).drewN q))
        have Uq : Hid (Upd (fun _ => False) w wr) := Lib.hid (by rw [hwq]; exact U1.out.drewN q)
        have Oq : Hid (SlR encL wr w.heap.size 69 7 (.slice Ao n co) (ts.map (lineP l))) := Lib.hid (by rw [hwq]; exact O1.out.drewN q)
        have r2q : wr.cell? ⟨r, 2, none⟩ = some (.slice (some ⟨b, o, none⟩) l.length cap) := Rq.out.b.cell 2
        have c0q : wr.cell? ⟨b, o + i * 5, none⟩ = some (.int .i64 jt) := by rw [hwq]; exact c0
        obtain ⟨hd, hhd⟩ : ∃ hd, decide (jt ∈ (l.take k).map J5.t) = hd := ⟨_, rfl⟩
        rw [hhd]
        have HHD := Lib.hid hhd
        clear hwq c0 r2 hhd
        by_cases hki : k < i
        · obtain ⟨jk, hjk⟩ : ∃ jk, l[k]? = some jk := ⟨_, List.getElem?_eq_getElem (by omega)⟩
          obtain ⟨b', o', he', _, c0k, _⟩ := Rq.out.j k jk hjk
          injection he' with he'
          injection he' with he1 he2
          subst he1; subst he2
          have HJK := Lib.hid hjk
          obtain ⟨kt, hkt⟩ : ∃ kt, jk.t = kt := ⟨_, rfl⟩
          rw [hkt] at c0k
          have HKT := Lib.hid hkt
          have dk : decide ((k : Int) < (i : Int)) = true := decide_eq_true (by omega)
          have dk0 : decide ((k : Int) < 0) = false := decide_eq_false (by omega)
          have dkl : decide ((k : Int) < (l.length : Int)) = true := decide_eq_true (by omega)
          clear hjk hkt
          cases hd
          · by_cases hkj : kt = jt
            · have HD2 : Hid (decide (jt ∈ (l.take (k + 1)).map J5.t) = true) := Lib.hid (decide_eq_true ((hadSucc HJK.out).2 (.inr (by rw [HKT.out]; exact hkj))))
              subst hkj
              go_wp2_with fail
              go_quiet (fail)
              go_wp2_with fail
              go_roundw
              case rel => exact ⟨k + 1, q + nq, by omega, by go_num, by rw [HD2.out], by rw [HWQ.out, World.drewN_drewN]⟩
              case measure => simp [intOf]; omega
            · have dkj : (kt == jt) = false := beq_eq_false_iff_ne.2 hkj
              have HD2 : Hid (decide (jt ∈ (l.take (k + 1)).map J5.t) = false) := Lib.hid (decide_eq_false (fun h => ((hadSucc HJK.out).1 h).elim (of_decide_eq_false HHD.out) (fun h => hkj (by rw [← HKT.out]; exact h))))
              clear hkj
              go_wp2_with fail
              go_quiet (fail)
              go_wp2_with fail
              go_roundw
              case rel => exact ⟨k + 1, q + nq, by omega, by go_num, by rw [HD2.out], by rw [HWQ.out, World.drewN_drewN]⟩
              case measure => simp [intOf]; omega
          · have HD2 : Hid (decide (jt ∈ (l.take (k + 1)).map J5.t) = true) := Lib.hid (decide_eq_true ((hadSucc HJK.out).2 (.inl (of_decide_eq_true HHD.out))))
            go_wp2_with fail
            go_quiet (fail)
            go_wp2_with fail
            go_roundw
            case rel => exact ⟨k + 1, q + nq, by omega, by go_num, by rw [HD2.out], by rw [HWQ.out, World.drewN_drewN]⟩
            case measure => simp [intOf]; omega
        · obtain rfl : k = i := by omega
          have dk : decide ((k : Int) < (k : Int)) = false := decide_eq_false (by omega)
          have hmem : jt ∈ sortT (l.take k) ↔ jt ∈ (l.take k).map J5.t := sortT_mem _ _
          rw [HTS.out] at hmem
          have HMEM := Lib.hid hmem
          clear hmem hki
          cases hd
          · have HNOT : Hid (jt ∉ ts) := Lib.hid (fun h => of_decide_eq_false HHD.out (HMEM.out.1 h))
            go_upto_region 11 with fail
            obtain ⟨pl, hpl⟩ : ∃ pl, plcS ts jt = pl := ⟨_, rfl⟩
            have HPL := Lib.hid hpl
            have hpn : pl ≤ n := by rw [← hpl, ← HN.out]; exact plcS_le _ _
            clear hpl
            go_wp2_with fail
            go_loopw [7] (fun v7 wq => ∃ (m q2 : Nat), m ≤ pl ∧ v7 = .int .i64 m ∧ wq = wr.drewN q2) (fun v7 _ => pl + 1 - (intOf v7).toNat)
            case atStart => exact ⟨0, 0, Nat.zero_le _, rfl, rfl⟩
            case round =>
              rename_i wr1
              obtain ⟨m, q2, hm, rfl, hwq2⟩ := hrel
              have HWQ2 := Lib.hid hwq2
              have R2 : Hid (RTab wr r B W (some ⟨b, o, none⟩) cap l) := Lib.hid (by rw [hwq2]; exact Rq.out.still ((Upd.refl _ _).drewN q2))
              have U2 : Hid (Upd (fun _ => False) w wr) := Lib.hid (by rw [hwq2]; exact Uq.out.drewN q2)
              have O2 : Hid (SlR encL wr w.heap.size 69 7 (.slice Ao n co) (ts.map (lineP l))) := Lib.hid (by rw [hwq2]; exact Oq.out.drewN q2)
              have r2b : wr.cell? ⟨r, 2, none⟩ = some (.slice (some ⟨b, o, none⟩) l.length cap) := R2.out.b.cell 2
              have c0b : wr.cell? ⟨b, o + k * 5, none⟩ = some (.int .i64 jt) := by rw [hwq2]; exact c0q
              clear hwq2 c0q r2q
              by_cases hmp : m < pl
              · obtain ⟨x, hx⟩ : ∃ x, ts[m]? = some x := ⟨_, List.getElem?_eq_getElem (by rw [HN.out]; omega)⟩
                have hxt : x < jt := plcS_lt (i := m) (by rw [HPL.out]; exact hmp) hx
                obtain ⟨bo, oo, co', he, _, _, _, _⟩ := O2.out.form (by rw [List.length_map, HN.out]; omega)
                injection he with he1 he2 he3
                subst he1; subst he3
                have cx := slr_line O2.out m x hx
                have dm : decide ((m : Int) < (n : Int)) = true := decide_eq_true (by omega)
                have dm0 : decide ((m : Int) < 0) = false := decide_eq_false (by omega)
                have dx : decide (x < jt) = true := decide_eq_true hxt
                have HMP := Lib.hid hmp
                have hmn : m < n := by omega
                clear hx he2 hxt hmp
                go_wp2_with fail
                go_quiet (fail)
                go_wp2_with fail
                go_roundw
                case rel => exact ⟨m + 1, q2 + nq, by have := HMP.out; omega, by go_num, by rw [HWQ2.out, World.drewN_drewN]⟩
                case measure => have := HMP.out; simp [intOf]; omega
              · obtain rfl : m = pl := by omega
                clear hmp
                by_cases hmn : m < n
                · obtain ⟨x, hx⟩ : ∃ x, ts[m]? = some x := ⟨_, List.getElem?_eq_getElem (by rw [HN.out]; omega)⟩
                  have hxt : ¬ x < jt := by have := plcS_ge (ts := ts) (t := jt) (x := x); rw [HPL.out] at this; exact this hx
                  obtain ⟨bo, oo, co', he, _, _, _, _⟩ := O2.out.form (by rw [List.length_map, HN.out]; omega)
                  injection he with he1 he2 he3
                  subst he1; subst he3
                  have cx := slr_line O2.out m x hx
                  have dm : decide ((m : Int) < (n : Int)) = true := decide_eq_true (by omega)
                  have dm0 : decide ((m : Int) < 0) = false := decide_eq_false (by omega)
                  have dx : decide (x < jt) = false := decide_eq_false hxt
                  clear hx he2 hxt
                  go_wp2_with fail
                  go_quiet (fail)
                  go_upto_region 14 with fail
                  have U3 : Hid (Upd (fun _ => False) w (wr.drewN nq)) := Lib.hid (U2.out.drewN nq)
                  have R3 : Hid (RTab (wr.drewN nq) r B W (some ⟨b, o, none⟩) cap l) := Lib.hid (R2.out.still ((Upd.refl _ wr).drewN nq))
                  have O3 : Hid (SlR encL (wr.drewN nq) w.heap.size 69 7 (.slice (some ⟨bo, oo, none⟩) n co) (ts.map (lineP l))) := Lib.hid (O2.out.drewN nq)
                  clear r2b c0b
                  have hW2 : Hid (wr.drewN nq = wr.drewN nq) := Lib.hid rfl
                  clear hW2
                  generalize wr.drewN nq = W2 at *
                  have HS : Hid (∀ w', Upd (fun _ => False) W2 w' → w'.cell? ⟨r, 2, none⟩ = some (.slice (some ⟨b, o, none⟩) l.length cap) ∧ w'.cell? ⟨b, o + k * 5, none⟩ = some (.int .i64 jt)) := Lib.hid (fun w' hu => by
                    have R4 := R3.out.still hu
                    obtain ⟨b', o', he', _, e0, _⟩ := R4.j k j HJ.out
                    injection he' with he'
                    injection he' with he1 he2
                    subst he1; subst he2
                    rw [HJT.out] at e0
                    exact ⟨R4.b.cell 2, e0⟩)
                  have HLL : Hid (∀ w', Upd (fun _ => False) W2 w' → Calls Try.prog 28 #[.pointer (some ⟨r, 0, none⟩), .int .i64 jt] w' fun e w'' => e = .returned (.agg (encL (lineP l jt)).toArray) ∧ Upd (fun _ => False) w' w'') := Lib.hid (fun w' hu => rLineC w' r B W cap _ l (R3.out.still hu) hl HWF.out jt)
                  have HONE : Hid (∀ u ∈ rws encL (ts.map (lineP l)), u.oneCell' = true) := Lib.hid (rws_one_cell encL_one _)
                  have O4 : Sl W2 w.heap.size 69 7 (.slice (some ⟨bo, oo, none⟩) n co) n (rws encL (ts.map (lineP l))) := by
                    have h := O3.out
                    unfold SlR at h
                    rw [List.length_map, HN.out] at h
                    exact h
                  obtain ⟨v1, v2, hc1, hc2, hv1, hv2, _, _⟩ := Sl.cut (P := Try.prog) (ts := 67) Try.underlying67 (by intro w; kernel_rfl) O4 hpn
                  have HV1 := Lib.hid hv1; have HV2 := Lib.hid hv2
                  have HO1 : Hid (∀ u ∈ (rws encL (ts.map (lineP l))).take (m * 7), u.oneCell' = true) := Lib.hid (fun u hu => HONE.out u (List.mem_of_mem_take hu))
                  have HO2 : Hid (∀ u ∈ (rws encL (ts.map (lineP l))).drop (m * 7), u.oneCell' = true) := Lib.hid (fun u hu => HONE.out u (List.mem_of_mem_drop hu))
                  obtain ⟨xs1, hxs1⟩ : ∃ x, (rws encL (ts.map (lineP l))).take (m * 7) = x := ⟨_, rfl⟩
                  obtain ⟨xs2, hxs2⟩ : ∃ x, (rws encL (ts.map (lineP l))).drop (m * 7) = x := ⟨_, rfl⟩
                  rw [hxs1] at HV1 HO1
                  rw [hxs2] at HV2 HO2
                  have HX1 := Lib.hid hxs1; have HX2 := Lib.hid hxs2
                  clear hv1 hv2 hxs1 hxs2 O4
                  refine wp_region_tree (.q 1 (.q 2 (.q 3 (.q 5 (.q 6 (.q 7 (.q 8 (.q 9 (.q 10 (.q 11 (.q 12 (.q 13 (.q 17 (.q 18 (.q 19 (.l 0 (.l 4 (.l 14 (.l 15 (.l 16 (.l 20 (.q 21 .d)))))))))))))))))))))) (fun i => decide (22 ≤ i ∧ i < 22)) (fun w' => w'.cell? ⟨r, 2, none⟩ = some (.slice (some ⟨b, o, none⟩) l.length cap) ∧ w'.cell? ⟨b, o + k * 5, none⟩ = some (.int .i64 jt))
                    (by kernel_rfl) (by kernel_rfl) (fun t ht => (of_decide_eq_true ht).2) (fun _ _ _ _ _ h => h) (by kernel_rfl) rfl (HS.out _ ((Upd.refl _ W2).drew)) ?_
                  iterate 15
                    (refine' wpOT_q (by rfl) (by rfl) (fun w' hS' => ?_) ?_
                     rotate_left
                     · obtain ⟨s1, s2⟩ := hS'
                       go_simp
                       try rfl)
                    try simp only [Act.put, List.setIfInBounds_toArray, List.set_cons_zero, List.set_cons_succ]
                  refine wpOT_l (by rfl) (by rfl) (fun KQ hKQ => ?_)
                  go_simp
                  have EA : Hid (Blk (W2.alloc (.cells #[] 69)).drew W2.heap.size 69 #[]) := Lib.hid (Blk.new W2 _ _)
                  have UA : Hid (Upd (fun _ => False) W2 (W2.alloc (.cells #[] 69)).drew) := Lib.hid ((Upd.refl _ W2).alloc _).drew
                  have HBA : Hid (W2.heap.size ≤ W2.heap.size) := Lib.hid (Nat.le_refl _)
                  refine hKQ _ _ (.inr (HS.out _ UA.out)) ?_
                  clear hKQ KQ
                  try simp only [Act.put, List.setIfInBounds_toArray, List.set_cons_zero, List.set_cons_succ]
                  generalize (W2.alloc (.cells #[] 69)).drew = wA at *
                  obtain ⟨bA, hbA⟩ : ∃ bA, W2.heap.size = bA := ⟨_, rfl⟩
                  have HBB : Hid (W2.heap.size = bA) := Lib.hid hbA
                  rw [hbA] at EA ⊢
                  clear hbA
                  refine wpOT_l (by rfl) (by rfl) (fun KQ hKQ => ?_)
                  refine wp_append_copy (.tmp 65) (.tmp 68) 67 rfl W2.heap.size _ 69 i0 _ 7 56 Try.underlying67 hi0 hz0 hz1 hz2 rfl (by decide) _ rfl EA.out (Nat.le_of_eq HBB.out) v1 m _ rfl (Sl.upd HV1.out UA.out (fun k hk e => e)) (HO1.out) (by unfold maxLen; omega) (by omega) UA.out.size ?_
                  intro v' wB hs1 hu1
                  obtain ⟨AB, cB, rfl⟩ := Sl.shape hs1
                  have SB := Lib.hid hs1
                  have UB : Hid (Upd (fun _ => False) W2 wB) := Lib.hid (((UA.out.mono (S' := fun k => k = bA) (fun _ _ h => h.elim)).trans hu1).mono (fun k hk e => by have := HBB.out; omega))
                  clear hs1 hu1 EA
                  refine hKQ _ _ (.inr (HS.out _ UB.out)) ?_
                  clear hKQ KQ
                  try simp only [Act.put, List.setIfInBounds_toArray, List.set_cons_zero, List.set_cons_succ]
                  refine wpOT_l (by rfl) (by rfl) (fun KQ hKQ => ?_)
                  go_simp
                  go_at_call 28
                  refine (HLL.out wB UB.out).mono ?_
                  rintro e wC ⟨rfl, hU⟩
                  have SC := Lib.hid (Sl.upd SB.out hU (fun _ _ h => h))
                  have UC := Lib.hid (UB.out.trans hU)
                  obtain ⟨⟨arr, en, lo, le, mo, su⟩, hx⟩ : ∃ x, lineJ l jt = x := ⟨_, rfl⟩
                  have hagg : (encL (lineP l jt)).toArray = #[.int .i64 jt, .int .i64 arr, .int .i64 en, .int .i64 lo, .int .i64 le, .int .i64 mo, .int .i64 su] := by unfold lineP; rw [hx]; rfl
                  rw [hagg]
                  have HX := Lib.hid hx
                  clear hU hx hagg SB
                  refine hKQ _ _ (.inr (HS.out _ UC.out)) ?_
                  clear hKQ KQ
                  try simp only [Act.put, List.setIfInBounds_toArray, List.set_cons_zero, List.set_cons_succ]
                  refine wpOT_l (by rfl) (by rfl) (fun KQ hKQ => ?_)
                  go_simp
                  have ED : Hid (Blk (wC.alloc (.cells #[.int .i64 jt, .int .i64 arr, .int .i64 en, .int .i64 lo, .int .i64 le, .int .i64 mo, .int .i64 su] 69)) wC.heap.size 69 #[.int .i64 jt, .int .i64 arr, .int .i64 en, .int .i64 lo, .int .i64 le, .int .i64 mo, .int .i64 su]) := Lib.hid (Blk.new wC _ _)
                  have UD := Lib.hid (UC.out.alloc (.cells #[.int .i64 jt, .int .i64 arr, .int .i64 en, .int .i64 lo, .int .i64 le, .int .i64 mo, .int .i64 su] 69))
                  have SD := Lib.hid (Sl.alloc SC.out (.cells #[.int .i64 jt, .int .i64 arr, .int .i64 en, .int .i64 lo, .int .i64 le, .int .i64 mo, .int .i64 su] 69))
                  refine hKQ _ _ (.inr (HS.out _ UD.out)) ?_
                  clear hKQ KQ
                  try simp only [Act.put, List.setIfInBounds_toArray, List.set_cons_zero, List.set_cons_succ]
                  clear SC
                  generalize wC.alloc (.cells #[.int .i64 jt, .int .i64 arr, .int .i64 en, .int .i64 lo, .int .i64 le, .int .i64 mo, .int .i64 su] 69) = wD at *
                  generalize wC.heap.size = bD at *
                  refine wpOT_l (by rfl) (by rfl) (fun KQ hKQ => ?_)
                  refine wp_append_sl (.tmp 69) (.tmp 80) 67 rfl W2.heap.size 69 i0 _ 7 56 Try.underlying67 hi0 hz0 hz1 hz2 rfl (by decide) (.slice AB m cB) m _ rfl SD.out ⟨bD, 0, none⟩ 1 [.int .i64 jt, .int .i64 arr, .int .i64 en, .int .i64 lo, .int .i64 le, .int .i64 mo, .int .i64 su] rfl rfl (fun j u hu => by rw [add_at, ED.out.cell j]; simpa using hu) (by simp [Value.oneCell']) (by unfold maxLen; omega) (by omega) UD.out.size ?_
                  intro v9 wE hs1 hu1 hv1
                  obtain ⟨AE, cE, rfl⟩ := Sl.shape hs1
                  have SE := Lib.hid hs1
                  have UE : Hid (Upd (fun _ => False) W2 wE) := Lib.hid (((UD.out.mono (fun _ _ h => h.elim)).trans hu1).mono (fun k hk e => by
                    have := (Sl.blk SD.out k e).1
                    omega))
                  clear hs1 hu1 hv1 ED SD
                  refine hKQ _ _ (.inr (HS.out _ UE.out)) ?_
                  clear hKQ KQ
                  try simp only [Act.put, List.setIfInBounds_toArray, List.set_cons_zero, List.set_cons_succ]
                  refine wpOT_l (by rfl) (by rfl) (fun KQ hKQ => ?_)
                  refine wp_append_sls (.tmp 81) (.tmp 84) 67 rfl W2.heap.size _ 69 i0 _ 7 56 Try.underlying67 hi0 hz0 hz1 hz2 rfl (by decide) (.slice AE (m + 1) cE) (m + 1) _ rfl SE.out v2 (n - m) _ rfl (Sl.upd HV2.out UE.out (fun _ _ h => h)) HO2.out (by unfold maxLen; omega) (by omega) UE.out.size ?_
                  intro v9 wF hs1 hu1 hv1
                  obtain ⟨AF, cF, rfl⟩ := Sl.shape hs1
                  have SF := Lib.hid hs1
                  have UF : Hid (Upd (fun _ => False) W2 wF) := Lib.hid (((UE.out.mono (fun _ _ h => h.elim)).trans hu1).mono (fun k hk e => by
                    have := (Sl.blk SE.out k e).1
                    omega))
                  clear hs1 hu1 hv1 SE
                  refine hKQ _ _ (.inr (HS.out _ UF.out)) ?_
                  clear hKQ KQ
                  try simp only [Act.put, List.setIfInBounds_toArray, List.set_cons_zero, List.set_cons_succ]
                  refine' wpOT_q (by rfl) (by rfl) (fun w' hS' => ?_) ?_
                  rotate_left
                  · go_simp
                    try rfl
                  try simp only [Act.put, List.setIfInBounds_toArray, List.set_cons_zero, List.set_cons_succ]
                  refine wpOT_d ?_
                  have NS : Hid (sortT (l.take (k + 1)) = ts.take m ++ [jt] ++ ts.drop m) := Lib.hid (by
                    rw [take_succ_get HJ.out, sortT_snoc, HTS.out, HJT.out, if_neg HNOT.out, HPL.out]
                    rfl)
                  have NO : Hid (SlR encL wF w.heap.size 69 7 (.slice AF (m + 1 + (n - m)) cF) ((sortT (l.take (k + 1))).map (lineP l))) := Lib.hid (by
                    have hlen : ((sortT (l.take (k + 1))).map (lineP l)).length = m + 1 + (n - m) := by
                      rw [NS.out, List.length_map, List.length_append, List.length_append, List.length_take, List.length_drop, HN.out, Nat.min_eq_left hpn]
                      rfl
                    have e : rws encL ((sortT (l.take (k + 1))).map (lineP l)) = xs1 ++ [.int .i64 jt, .int .i64 arr, .int .i64 en, .int .i64 lo, .int .i64 le, .int .i64 mo, .int .i64 su] ++ xs2 := by
                      rw [NS.out, List.map_append, List.map_append, rws_append, rws_append, List.map_take, List.map_drop, ← rws_take encL_len, ← rws_drop encL_len, HX1.out, HX2.out]
                      have e1 : rws encL ([jt].map (lineP l)) = [.int .i64 jt, .int .i64 arr, .int .i64 en, .int .i64 lo, .int .i64 le, .int .i64 mo, .int .i64 su] := by
                        show rws encL [lineP l jt] = _
                        unfold lineP
                        rw [HX.out]
                        rfl
                      rw [e1]
                    unfold SlR
                    rw [hlen, e]
                    exact Sl.mono SF.out U3.out.size)
                  have NU := Lib.hid (U3.out.trans UF.out)
                  clear SF UF hc1 hc2
                  go_wp2_with fail
                  go_roundw
                  case rel => exact ⟨k + 1, by omega, by go_num, NO.out, NU.out⟩
                  case measure => simp [intOf]; omega
                · have dm : decide ((m : Int) < (n : Int)) = false := decide_eq_false (by omega)
                  go_wp2_with fail
                  go_quiet (fail)
                  go_upto_region 14 with fail
                  have U3 : Hid (Upd (fun _ => False) w (wr.drewN nq)) := Lib.hid (U2.out.drewN nq)
                  have R3 : Hid (RTab (wr.drewN nq) r B W (some ⟨b, o, none⟩) cap l) := Lib.hid (R2.out.still ((Upd.refl _ wr).drewN nq))
                  have O3 : Hid (SlR encL (wr.drewN nq) w.heap.size 69 7 (.slice Ao n co) (ts.map (lineP l))) := Lib.hid (O2.out.drewN nq)
                  clear r2b c0b
                  have hW2 : Hid (wr.drewN nq = wr.drewN nq) := Lib.hid rfl
                  clear hW2
                  generalize wr.drewN nq = W2 at *
                  have HS : Hid (∀ w', Upd (fun _ => False) W2 w' → w'.cell? ⟨r, 2, none⟩ = some (.slice (some ⟨b, o, none⟩) l.length cap) ∧ w'.cell? ⟨b, o + k * 5, none⟩ = some (.int .i64 jt)) := Lib.hid (fun w' hu => by
                    have R4 := R3.out.still hu
                    obtain ⟨b', o', he', _, e0, _⟩ := R4.j k j HJ.out
                    injection he' with he'
                    injection he' with he1 he2
                    subst he1; subst he2
                    rw [HJT.out] at e0
                    exact ⟨R4.b.cell 2, e0⟩)
                  have HLL : Hid (∀ w', Upd (fun _ => False) W2 w' → Calls Try.prog 28 #[.pointer (some ⟨r, 0, none⟩), .int .i64 jt] w' fun e w'' => e = .returned (.agg (encL (lineP l jt)).toArray) ∧ Upd (fun _ => False) w' w'') := Lib.hid (fun w' hu => rLineC w' r B W cap _ l (R3.out.still hu) hl HWF.out jt)
                  have HONE : Hid (∀ u ∈ rws encL (ts.map (lineP l)), u.oneCell' = true) := Lib.hid (rws_one_cell encL_one _)
                  have O4 : Sl W2 w.heap.size 69 7 (.slice Ao n co) n (rws encL (ts.map (lineP l))) := by
                    have h := O3.out
                    unfold SlR at h
                    rw [List.length_map, HN.out] at h
                    exact h
                  obtain ⟨v1, v2, hc1, hc2, hv1, hv2, _, _⟩ := Sl.cut (P := Try.prog) (ts := 67) Try.underlying67 (by intro w; kernel_rfl) O4 hpn
                  have HV1 := Lib.hid hv1; have HV2 := Lib.hid hv2
                  have HO1 : Hid (∀ u ∈ (rws encL (ts.map (lineP l))).take (m * 7), u.oneCell' = true) := Lib.hid (fun u hu => HONE.out u (List.mem_of_mem_take hu))
                  have HO2 : Hid (∀ u ∈ (rws encL (ts.map (lineP l))).drop (m * 7), u.oneCell' = true) := Lib.hid (fun u hu => HONE.out u (List.mem_of_mem_drop hu))
                  obtain ⟨xs1, hxs1⟩ : ∃ x, (rws encL (ts.map (lineP l))).take (m * 7) = x := ⟨_, rfl⟩
                  obtain ⟨xs2, hxs2⟩ : ∃ x, (rws encL (ts.map (lineP l))).drop (m * 7) = x := ⟨_, rfl⟩
                  rw [hxs1] at HV1 HO1
                  rw [hxs2] at HV2 HO2
                  have HX1 := Lib.hid hxs1; have HX2 := Lib.hid hxs2
                  clear hv1 hv2 hxs1 hxs2 O4
                  refine wp_region_tree (.q 1 (.q 2 (.q 3 (.q 5 (.q 6 (.q 7 (.q 8 (.q 9 (.q 10 (.q 11 (.q 12 (.q 13 (.q 17 (.q 18 (.q 19 (.l 0 (.l 4 (.l 14 (.l 15 (.l 16 (.l 20 (.q 21 .d)))))))))))))))))))))) (fun i => decide (22 ≤ i ∧ i < 22)) (fun w' => w'.cell? ⟨r, 2, none⟩ = some (.slice (some ⟨b, o, none⟩) l.length cap) ∧ w'.cell? ⟨b, o + k * 5, none⟩ = some (.int .i64 jt))
                    (by kernel_rfl) (by kernel_rfl) (fun t ht => (of_decide_eq_true ht).2) (fun _ _ _ _ _ h => h) (by kernel_rfl) rfl (HS.out _ ((Upd.refl _ W2).drew)) ?_
                  iterate 15
                    (refine' wpOT_q (by rfl) (by rfl) (fun w' hS' => ?_) ?_
                     rotate_left
                     · obtain ⟨s1, s2⟩ := hS'
                       go_simp
                       try rfl)
                    try simp only [Act.put, List.setIfInBounds_toArray, List.set_cons_zero, List.set_cons_succ]
                  refine wpOT_l (by rfl) (by rfl) (fun KQ hKQ => ?_)
                  go_simp
                  have EA : Hid (Blk (W2.alloc (.cells #[] 69)).drew W2.heap.size 69 #[]) := Lib.hid (Blk.new W2 _ _)
                  have UA : Hid (Upd (fun _ => False) W2 (W2.alloc (.cells #[] 69)).drew) := Lib.hid ((Upd.refl _ W2).alloc _).drew
                  have HBA : Hid (W2.heap.size ≤ W2.heap.size) := Lib.hid (Nat.le_refl _)
                  refine hKQ _ _ (.inr (HS.out _ UA.out)) ?_
                  clear hKQ KQ
                  try simp only [Act.put, List.setIfInBounds_toArray, List.set_cons_zero, List.set_cons_succ]
                  generalize (W2.alloc (.cells #[] 69)).drew = wA at *
                  obtain ⟨bA, hbA⟩ : ∃ bA, W2.heap.size = bA := ⟨_, rfl⟩
                  have HBB : Hid (W2.heap.size = bA) := Lib.hid hbA
                  rw [hbA] at EA ⊢
                  clear hbA
                  refine wpOT_l (by rfl) (by rfl) (fun KQ hKQ => ?_)
                  refine wp_append_copy (.tmp 65) (.tmp 68) 67 rfl W2.heap.size _ 69 i0 _ 7 56 Try.underlying67 hi0 hz0 hz1 hz2 rfl (by decide) _ rfl EA.out (Nat.le_of_eq HBB.out) v1 m _ rfl (Sl.upd HV1.out UA.out (fun k hk e => e)) (HO1.out) (by unfold maxLen; omega) (by omega) UA.out.size ?_
                  intro v' wB hs1 hu1
                  obtain ⟨AB, cB, rfl⟩ := Sl.shape hs1
                  have SB := Lib.hid hs1
                  have UB : Hid (Upd (fun _ => False) W2 wB) := Lib.hid (((UA.out.mono (S' := fun k => k = bA) (fun _ _ h => h.elim)).trans hu1).mono (fun k hk e => by have := HBB.out; omega))
                  clear hs1 hu1 EA
                  refine hKQ _ _ (.inr (HS.out _ UB.out)) ?_
                  clear hKQ KQ
                  try simp only [Act.put, List.setIfInBounds_toArray, List.set_cons_zero, List.set_cons_succ]
                  refine wpOT_l (by rfl) (by rfl) (fun KQ hKQ => ?_)
                  go_simp
                  go_at_call 28
                  refine (HLL.out wB UB.out).mono ?_
                  rintro e wC ⟨rfl, hU⟩
                  have SC := Lib.hid (Sl.upd SB.out hU (fun _ _ h => h))
                  have UC := Lib.hid (UB.out.trans hU)
                  obtain ⟨⟨arr, en, lo, le, mo, su⟩, hx⟩ : ∃ x, lineJ l jt = x := ⟨_, rfl⟩
                  have hagg : (encL (lineP l jt)).toArray = #[.int .i64 jt, .int .i64 arr, .int .i64 en, .int .i64 lo, .int .i64 le, .int .i64 mo, .int .i64 su] := by unfold lineP; rw [hx]; rfl
                  rw [hagg]
                  have HX := Lib.hid hx
                  clear hU hx hagg SB
                  refine hKQ _ _ (.inr (HS.out _ UC.out)) ?_
                  clear hKQ KQ
                  try simp only [Act.put, List.setIfInBounds_toArray, List.set_cons_zero, List.set_cons_succ]
                  refine wpOT_l (by rfl) (by rfl) (fun KQ hKQ => ?_)
                  go_simp
                  have ED : Hid (Blk (wC.alloc (.cells #[.int .i64 jt, .int .i64 arr, .int .i64 en, .int .i64 lo, .int .i64 le, .int .i64 mo, .int .i64 su] 69)) wC.heap.size 69 #[.int .i64 jt, .int .i64 arr, .int .i64 en, .int .i64 lo, .int .i64 le, .int .i64 mo, .int .i64 su]) := Lib.hid (Blk.new wC _ _)
                  have UD := Lib.hid (UC.out.alloc (.cells #[.int .i64 jt, .int .i64 arr, .int .i64 en, .int .i64 lo, .int .i64 le, .int .i64 mo, .int .i64 su] 69))
                  have SD := Lib.hid (Sl.alloc SC.out (.cells #[.int .i64 jt, .int .i64 arr, .int .i64 en, .int .i64 lo, .int .i64 le, .int .i64 mo, .int .i64 su] 69))
                  refine hKQ _ _ (.inr (HS.out _ UD.out)) ?_
                  clear hKQ KQ
                  try simp only [Act.put, List.setIfInBounds_toArray, List.set_cons_zero, List.set_cons_succ]
                  clear SC
                  generalize wC.alloc (.cells #[.int .i64 jt, .int .i64 arr, .int .i64 en, .int .i64 lo, .int .i64 le, .int .i64 mo, .int .i64 su] 69) = wD at *
                  generalize wC.heap.size = bD at *
                  refine wpOT_l (by rfl) (by rfl) (fun KQ hKQ => ?_)
                  refine wp_append_sl (.tmp 69) (.tmp 80) 67 rfl W2.heap.size 69 i0 _ 7 56 Try.underlying67 hi0 hz0 hz1 hz2 rfl (by decide) (.slice AB m cB) m _ rfl SD.out ⟨bD, 0, none⟩ 1 [.int .i64 jt, .int .i64 arr, .int .i64 en, .int .i64 lo, .int .i64 le, .int .i64 mo, .int .i64 su] rfl rfl (fun j u hu => by rw [add_at, ED.out.cell j]; simpa using hu) (by simp [Value.oneCell']) (by unfold maxLen; omega) (by omega) UD.out.size ?_
                  intro v9 wE hs1 hu1 hv1
                  obtain ⟨AE, cE, rfl⟩ := Sl.shape hs1
                  have SE := Lib.hid hs1
                  have UE : Hid (Upd (fun _ => False) W2 wE) := Lib.hid (((UD.out.mono (fun _ _ h => h.elim)).trans hu1).mono (fun k hk e => by
                    have := (Sl.blk SD.out k e).1
                    omega))
                  clear hs1 hu1 hv1 ED SD
                  refine hKQ _ _ (.inr (HS.out _ UE.out)) ?_
                  clear hKQ KQ
                  try simp only [Act.put, List.setIfInBounds_toArray, List.set_cons_zero, List.set_cons_succ]
                  refine wpOT_l (by rfl) (by rfl) (fun KQ hKQ => ?_)
                  refine wp_append_sls (.tmp 81) (.tmp 84) 67 rfl W2.heap.size _ 69 i0 _ 7 56 Try.underlying67 hi0 hz0 hz1 hz2 rfl (by decide) (.slice AE (m + 1) cE) (m + 1) _ rfl SE.out v2 (n - m) _ rfl (Sl.upd HV2.out UE.out (fun _ _ h => h)) HO2.out (by unfold maxLen; omega) (by omega) UE.out.size ?_
                  intro v9 wF hs1 hu1 hv1
                  obtain ⟨AF, cF, rfl⟩ := Sl.shape hs1
                  have SF := Lib.hid hs1
                  have UF : Hid (Upd (fun _ => False) W2 wF) := Lib.hid (((UE.out.mono (fun _ _ h => h.elim)).trans hu1).mono (fun k hk e => by
                    have := (Sl.blk SE.out k e).1
                    omega))
                  clear hs1 hu1 hv1 SE
                  refine hKQ _ _ (.inr (HS.out _ UF.out)) ?_
                  clear hKQ KQ
                  try simp only [Act.put, List.setIfInBounds_toArray, List.set_cons_zero, List.set_cons_succ]
                  refine' wpOT_q (by rfl) (by rfl) (fun w' hS' => ?_) ?_
                  rotate_left
                  · go_simp
                    try rfl
                  try simp only [Act.put, List.setIfInBounds_toArray, List.set_cons_zero, List.set_cons_succ]
                  refine wpOT_d ?_
                  have NS : Hid (sortT (l.take (k + 1)) = ts.take m ++ [jt] ++ ts.drop m) := Lib.hid (by
                    rw [take_succ_get HJ.out, sortT_snoc, HTS.out, HJT.out, if_neg HNOT.out, HPL.out]
                    rfl)
                  have NO : Hid (SlR encL wF w.heap.size 69 7 (.slice AF (m + 1 + (n - m)) cF) ((sortT (l.take (k + 1))).map (lineP l))) := Lib.hid (by
                    have hlen : ((sortT (l.take (k + 1))).map (lineP l)).length = m + 1 + (n - m) := by
                      rw [NS.out, List.length_map, List.length_append, List.length_append, List.length_take, List.length_drop, HN.out, Nat.min_eq_left hpn]
                      rfl
                    have e : rws encL ((sortT (l.take (k + 1))).map (lineP l)) = xs1 ++ [.int .i64 jt, .int .i64 arr, .int .i64 en, .int .i64 lo, .int .i64 le, .int .i64 mo, .int .i64 su] ++ xs2 := by
                      rw [NS.out, List.map_append, List.map_append, rws_append, rws_append, List.map_take, List.map_drop, ← rws_take encL_len, ← rws_drop encL_len, HX1.out, HX2.out]
                      have e1 : rws encL ([jt].map (lineP l)) = [.int .i64 jt, .int .i64 arr, .int .i64 en, .int .i64 lo, .int .i64 le, .int .i64 mo, .int .i64 su] := by
                        show rws encL [lineP l jt] = _
                        unfold lineP
                        rw [HX.out]
                        rfl
                      rw [e1]
                    unfold SlR
                    rw [hlen, e]
                    exact Sl.mono SF.out U3.out.size)
                  have NU := Lib.hid (U3.out.trans UF.out)
                  clear SF UF hc1 hc2
                  go_wp2_with fail
                  go_roundw
                  case rel => exact ⟨k + 1, by omega, by go_num, NO.out, NU.out⟩
                  case measure => simp [intOf]; omega
          · have HIN : Hid (jt ∈ ts) := Lib.hid (HMEM.out.2 (of_decide_eq_true HHD.out))
            have OE : Hid (SlR encL wr w.heap.size 69 7 (.slice Ao n co) ((sortT (l.take (k + 1))).map (lineP l))) := Lib.hid (by
              rw [take_succ_get HJ.out, sortT_snoc, HTS.out, if_pos (by rw [HJT.out]; exact HIN.out)]
              exact Oq.out)
            go_wp2_with fail
            go_roundw
            case rel => exact ⟨k + 1, by omega, by go_num, OE.out, Uq.out⟩
            case measure => simp [intOf]; omega
    · have hie : i = l.length := by omega
      subst hie
      have hO := O1.out
      rw [← HTS.out, List.take_length] at hO
      have OE := Lib.hid hO
      clear hO
      go_wp2_with fail
      go_returns
      exact ⟨_, rfl, OE.out, U1.out⟩
end Go.Proofs.Ythjebjegedgoeaa
