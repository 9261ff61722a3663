/-
  Stats: the document's Counts.
-/
import Derived.Test.YthjebjegedgoeaaStK
namespace Go.Proofs.Ythjebjegedgoeaa
open Go.RowKit Go.Shelf Go.Maps Go.Sort
attribute [local go_sem] max_ints min_ints

theorem slr_setI {w : World} {b n cap : Nat} {l : List Int} (h : SlR encI w b 3 1 (.slice (some ⟨b, 0, none⟩) n cap) l) (i : Nat) (hi : i < l.length) (y : Int) : SlR encI (w.setCell ⟨b, i, none⟩ (.int .i64 y)) b 3 1 (.slice (some ⟨b, 0, none⟩) n cap) (l.set i y) := by
  obtain ⟨A, cp, he⟩ := h.shape
  injection he with _ e _
  subst e
  unfold SlR at h ⊢
  rw [List.length_set]
  rw [rws_encI] at h
  rw [rws_encI]
  have := Sl.set_ h i (by omega) (.int .i64 y)
  rw [Nat.zero_add] at this
  rwa [List.map_set]

theorem fieldArr (w : World) (t arr en lo le mo su : Int) : (Instr.field 69 (.agg #[.int .i64 t, .int .i64 arr, .int .i64 en, .int .i64 lo, .int .i64 le, .int .i64 mo, .int .i64 su]) 1).run Try.prog w = .ok (.int .i64 arr) w := by kernel_rfl
attribute [local go_sem] fieldArr

set_option maxRecDepth 100000 in
set_option maxHeartbeats 6400000 in
theorem rCountsC (w : World) (r B W cap : Nat) (A : Option Addr) (l : List J5) (h : RTab w r B W A cap l) (hl : l.length ≤ 200) (hwf : ∀ j ∈ l, j.Wf) (hB : 1 ≤ B) (hB2 : B ≤ 64) (hW : 1 ≤ W) (t : Int) :
    Calls Try.prog 16 #[.pointer (some ⟨r, 0, none⟩), .int .i64 t] w fun e w' => ∃ v, e = .returned v ∧ SlR encI w' w.heap.size 3 1 v (cntsJ B W l t) ∧ Upd (fun _ => False) w w' := by
  have H := Lib.hid h; have HWF := Lib.hid hwf
  have HLi := Lib.hid (rLineC w r B W cap A l h hl hwf t)
  obtain ⟨⟨arr, en, lo, le, mo, su⟩, hx⟩ : ∃ x, lineJ l t = x := ⟨_, rfl⟩
  have hagg : (encL (lineP l t)).toArray = #[.int .i64 t, .int .i64 arr, .int .i64 en, .int .i64 lo, .int .i64 le, .int .i64 mo, .int .i64 su] := by unfold lineP; rw [hx]; rfl
  rw [hagg] at HLi
  have HX := Lib.hid hx
  clear h hwf hagg hx
  by_cases hin : t ∈ l.map J5.t
  · have har : arr ≠ 0 := by have := lineJ_arr hin; rwa [HX.out] at this
    have ha0 : (arr == 0) = false := beq_eq_false_iff_ne.2 har
    have ha1 : decide (arr = 0) = false := decide_eq_false har
    have HCS : Hid (cntsJ B W l t = cntJ B W l t) := Lib.hid (by unfold cntsJ; rw [if_pos hin])
    have HMK := Lib.hid (makeI B (by omega))
    clear hin har
    go_enter Try.func16, Try.ntmps16
    go_wp2_with fail
    refine HLi.out.mono ?_
    rintro e w1 ⟨rfl, hU1⟩
    have U1 := Lib.hid hU1
    have hmk := HMK.out w1
    have r0 : w1.cell? ⟨r, 0, none⟩ = some (.int .i64 (B : Int)) := (H.out.still hU1).b.cell 0
    have hsz : w.heap.size ≤ w1.heap.size := hU1.size
    have O2 := Lib.hid (madeZ w1 B (Nat.le_trans hB2 (by decide)))
    have U2 := Lib.hid (hU1.alloc (.cells (madeCells #[.int .i64 0] B) 3))
    clear hU1
    go_upto_region 4 with fail
    clear r0 hmk
    obtain ⟨bo, hbo⟩ : ∃ bo, w1.heap.size = bo := ⟨_, rfl⟩
    rw [hbo] at O2 ⊢
    have HBO : Hid (w.heap.size ≤ bo) := Lib.hid (by omega)
    clear hbo hsz
    generalize w1.alloc (.cells (madeCells #[.int .i64 0] B) 3) = w2 at *
    go_wp2_with fail
    go_loopw [6, 7, 8] (fun v6 v7 v8 wr => ∃ (i : Nat), i ≤ l.length ∧ v6 = .int .i64 i ∧ SlR encI wr bo 3 1 (.slice (some ⟨bo, 0, none⟩) B B) (cntJ B W (l.take i) t) ∧ Upd (fun _ => False) w wr) (fun v6 _ _ _ => l.length - (intOf v6).toNat)
    case atStart => exact ⟨0, Nat.zero_le _, rfl, O2.out, U2.out⟩
    case round =>
      obtain ⟨i, hi, rfl, hO, hU⟩ := hrel
      have R3 := Lib.hid (H.out.still hU)
      have O3 := Lib.hid hO; have U3 := Lib.hid hU
      have r2 : wr.cell? ⟨r, 2, none⟩ = some (.slice A l.length cap) := R3.out.b.cell 2
      clear hO hU
      by_cases hlt : i < l.length
      · obtain ⟨j, hj⟩ : ∃ j, l[i]? = some j := ⟨_, List.getElem?_eq_getElem hlt⟩
        obtain ⟨b, o, rfl, hb, c0, c1, c2, c3, c4⟩ := R3.out.j i j hj
        have HJW := Lib.hid (HWF.out j (List.mem_of_getElem? hj))
        have HJ := Lib.hid hj
        have dl : decide ((i : Int) < (l.length : Int)) = true := decide_eq_true (by omega)
        have di : decide ((i : Int) < 0) = false := decide_eq_false (by omega)
        have htl : (l.take i).length ≤ 200 := by rw [List.length_take]; omega
        clear hj hb
        go_wp2_with fail
        refine (rAnsC wr j HJW.out).mono ?_
        rintro e w4 ⟨rfl, hU4⟩
        have R4 := Lib.hid (R3.out.still hU4)
        have O4 := Lib.hid (O3.out.upd hU4 (fun _ _ h => h))
        have U4 := Lib.hid (U3.out.trans hU4)
        have d0 : w4.cell? ⟨r, 0, none⟩ = some (.int .i64 (B : Int)) := R4.out.b.cell 0
        have d1 : w4.cell? ⟨r, 1, none⟩ = some (.int .i64 (W : Int)) := R4.out.b.cell 1
        have d2 : w4.cell? ⟨r, 2, none⟩ = some (.slice (some ⟨b, o, none⟩) l.length cap) := R4.out.b.cell 2
        obtain ⟨b', o', he', _, e0, _⟩ := R4.out.j i j HJ.out
        injection he' with he'
        injection he' with he1 he2
        subst he1; subst he2
        obtain ⟨a, haa⟩ : ∃ a, ansJ j = a := ⟨_, rfl⟩
        rw [haa]
        have HHA := Lib.hid haa
        have hab : 0 ≤ a ∧ a ≤ 1048576 := by rw [← haa]; exact ansJ_le j
        obtain ⟨jt, hjt⟩ : ∃ jt, j.t = jt := ⟨_, rfl⟩
        rw [hjt] at e0
        have HJT := Lib.hid hjt
        clear hU4 c0 c1 c2 c3 c4 r2 haa hjt
        by_cases hT : jt = t
        · subst hT
          by_cases hap : 0 < a
          · have da : decide (0 < a) = true := decide_eq_true hap
            obtain ⟨hbk, hbl⟩ := bkt_lt (W := W) hB hap
            obtain ⟨q, hq⟩ : ∃ q, bkt B W a = q := ⟨_, rfl⟩
            rw [hq] at hbk hbl
            have hlen : (cntJ B W (l.take i) jt).length = B := cntJ_len _ _ _ _
            obtain ⟨y, hy⟩ : ∃ y, (cntJ B W (l.take i) jt)[q]? = some y := ⟨_, List.getElem?_eq_getElem (by omega)⟩
            have hbump : bump (cntJ B W (l.take i) jt) q = (cntJ B W (l.take i) jt).set q (y + 1) := by unfold bump; rw [List.getD, hy]; rfl
            have hyb := cntJ_bd B W (l.take i) jt y (List.mem_of_getElem? hy)
            have hyb2 : 0 ≤ y ∧ y ≤ 1000000 := by omega
            have tq : (a - 1).tdiv (W : Int) = (a - 1) / (W : Int) := Int.tdiv_eq_ediv_of_nonneg (by omega)
            have HDV : Hid (0 ≤ (a - 1) / (W : Int) ∧ (a - 1) / (W : Int) ≤ 1048576) := Lib.hid ⟨Int.ediv_nonneg (by omega) (by omega), Int.le_trans (Int.ediv_le_self _ (by omega)) (by omega)⟩
            have wn : ¬ (W : Int) = 0 := by omega
            obtain ⟨dv, hdv⟩ : ∃ dv, (a - 1) / (W : Int) = dv := ⟨_, rfl⟩
            rw [hdv] at hbk HDV tq
            have hdvb := HDV.out
            have hmn : min dv ((B : Int) - 1) = (q : Int) := hbk.symm
            have cq : ∀ k, (w4.drewN k).cell? ⟨bo, q, none⟩ = some (.int .i64 y) := fun k => by have := slr_int (O4.out.drewN k) q y hy; rwa [Nat.zero_add] at this
            have fq : ∀ k, (w4.drewN k).frozen? ⟨bo, q, none⟩ = false := fun k => (O4.out.drewN k).frozen q
            have NO : Hid (∀ k, SlR encI ((w4.drewN k).setCell ⟨bo, q, none⟩ (.int .i64 (y + 1))) bo 3 1 (.slice (some ⟨bo, 0, none⟩) B B) (cntJ B W (l.take (i + 1)) jt)) := Lib.hid (fun k => by
              rw [take_succ_get HJ.out, cntJ_snoc, if_pos ⟨HJT.out, by rw [HHA.out]; exact hap⟩, HHA.out, hq, hbump]
              exact slr_setI (O4.out.drewN k) q (by omega) (y + 1))
            have NU : Hid (∀ k, Upd (fun _ => False) w ((w4.drewN k).setCell ⟨bo, q, none⟩ (.int .i64 (y + 1)))) := Lib.hid (fun k => (U4.out.drewN k).setCell (fun h => by have := HBO.out; simp only at h; omega) _)
            have hq1 : decide ((q : Int) < (B : Int)) = true := decide_eq_true (by omega)
            have hq2 : decide ((q : Int) < 0) = false := decide_eq_false (by omega)
            clear hbk hdv HDV hq hy hbump hyb hlen
            go_wp2_with fail
            go_quiet (fail)
            have cq' := cq nq
            have fq' := fq nq
            clear cq fq
            go_wp2_with fail
            go_roundw
            case rel => exact ⟨i + 1, by omega, by go_num, NO.out nq, NU.out nq⟩
            case measure => simp [intOf]; omega
          · have da : decide (0 < a) = false := decide_eq_false hap
            have NO : Hid (SlR encI w4 bo 3 1 (.slice (some ⟨bo, 0, none⟩) B B) (cntJ B W (l.take (i + 1)) jt)) := Lib.hid (by
              rw [take_succ_get HJ.out, cntJ_snoc, if_neg (fun h => hap (by rw [← HHA.out]; exact h.2))]
              exact O4.out)
            clear hap
            go_wp2_with fail
            go_roundw
            case rel => exact ⟨i + 1, by omega, by go_num, NO.out, U4.out⟩
            case measure => simp [intOf]; omega
        · have dT : (jt == t) = false := beq_eq_false_iff_ne.2 hT
          have NO : Hid (SlR encI w4 bo 3 1 (.slice (some ⟨bo, 0, none⟩) B B) (cntJ B W (l.take (i + 1)) t)) := Lib.hid (by
            rw [take_succ_get HJ.out, cntJ_snoc, if_neg (fun h => hT (by rw [← HJT.out]; exact h.1))]
            exact O4.out)
          clear hT
          go_wp2_with fail
          go_roundw
          case rel => exact ⟨i + 1, by omega, by go_num, NO.out, U4.out⟩
          case measure => simp [intOf]; omega
      · have hie : i = l.length := by omega
        subst hie
        have hO := O3.out
        rw [List.take_length] at hO
        have OE := Lib.hid hO
        clear hO
        go_wp2_with fail
        go_returns
        refine ⟨_, rfl, ?_, U3.out⟩
        rw [HCS.out]
        exact OE.out.mono HBO.out
  · have har : arr = 0 := by have := lineJ_none hin; rw [HX.out] at this; injection this
    have HCS : Hid (cntsJ B W l t = []) := Lib.hid (by unfold cntsJ; rw [if_neg hin])
    subst har
    clear hin
    go_enter Try.func16, Try.ntmps16
    go_wp2_with fail
    refine HLi.out.mono ?_
    rintro e w1 ⟨rfl, hU1⟩
    have U1 := Lib.hid hU1
    clear hU1
    go_wp2_with fail
    go_returns
    refine ⟨_, rfl, ?_, U1.out⟩
    rw [HCS.out]
    exact SlR.nil
end Go.Proofs.Ythjebjegedgoeaa
