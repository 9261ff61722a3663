/-
  The walks of the document's Worst and Jitter (layer 38).
-/
import Derived.Test.YtnfajehocljbnaaLatH
namespace Go.Proofs.Ytnfajehocljbnaa
open Go.RowKit
attribute [local go_sem] max_ints min_ints

theorem RTb.c0 {w : World} {g F : Nat} {M : Int} {ws : List W3} (h : RTb w g F M ws) : w.cell? ⟨g, 0, none⟩ = some (.int .i64 F) := by
  obtain ⟨_, L, h1, _⟩ := h; exact h1.cell 0
theorem doneR_in (w : World) (g F : Nat) (M : Int) (ws : List W3) (h : RTb w g F M ws) (p work : Int) (o : Int) (ho : cntO M ws p F = o) (h0 : o ≠ 0) (m : Nat) (hm : min (max work 0) 1048576 = (m : Int)) (i : Nat) (hi : i < F) (d : Nat) (hd : doneN M ws p F i m = d) :
    Calls Try.prog 25 #[.pointer (some ⟨g, 0, none⟩), .int .i64 p, .int .i64 i, .int .i64 work] w fun e w' => e = .returned (.tuple #[.int .i64 ((i : Int) + d), .bool true]) ∧ Upd (fun _ => False) w w' := by
  obtain ⟨hF1, hF2, _⟩ := rightB_parts h.1
  have ho1 := cntO_le M ws p F
  rw [ho] at ho1
  have := doneR w g F M ws h p i work o ho i (by omega) m hm
  rw [if_neg h0, hd, decide_eq_true (show 0 < o by omega)] at this
  exact this

set_option maxRecDepth 100000 in
set_option maxHeartbeats 3200000 in
theorem worstR (w : World) (g F : Nat) (M : Int) (ws : List W3) (h : RTb w g F M ws) (p work : Int) (o : Int) (ho : cntO M ws p F = o) (m : Nat) (hm : min (max work 0) 1048576 = (m : Int)) :
    Calls Try.prog 26 #[.pointer (some ⟨g, 0, none⟩), .int .i64 p, .int .i64 work] w fun e w' =>
      e = .returned (.tuple #[.int .i64 (if o = 0 then 0 else (wstN M ws p F m F).1), .int .i64 (if o = 0 then 0 else (wstN M ws p F m F).2), .bool (decide (0 < o))]) ∧ Upd (fun _ => False) w w' := by
  obtain ⟨hF1, hF2, _⟩ := rightB_parts h.1
  have H := Lib.hid h; have HO := Lib.hid ho; have HM := Lib.hid hm
  have ho1 := cntO_le M ws p F
  rw [ho] at ho1
  have hmb : (m : Int) ≤ 1048576 := by omega
  clear h hm ho
  by_cases h0 : o = 0
  · rw [if_pos h0, if_pos h0]
    subst h0
    go_enter Try.func26, Try.ntmps26
    go_wp2_with fail
    refine (offR _ g F M ws H.out p 0 HO.out).mono ?_
    rintro e w1 ⟨rfl, hU⟩
    have U1 := Lib.hid hU
    clear hU
    go_wp2_with fail
    go_returns
    exact ⟨rfl, U1.out⟩
  · rw [if_neg h0, if_neg h0]
    have d0 : (o == 0) = false := beq_eq_false_iff_ne.2 h0
    have d0' : decide (0 < o) = true := decide_eq_true (by omega)
    rw [d0']
    have hop : Hid (0 < cntO M ws p F) := Lib.hid (by rw [HO.out]; omega)
    go_enter Try.func26, Try.ntmps26
    go_wp2_with fail
    refine (offR _ g F M ws H.out p o HO.out).mono ?_
    rintro e w1 ⟨rfl, hU⟩
    have U1 := Lib.hid hU
    clear hU
    go_wp2_with fail
    go_loopw [9, 10, 11, 12, 13] (fun vb vf vi v12 v13 wr => ∃ (i : Nat) (q : Int × Int), i ≤ F ∧ vi = .int .i64 i ∧ wstN M ws p F m i = q ∧ vb = .int .i64 q.1 ∧ vf = .int .i64 q.2 ∧ Upd (fun _ => False) w wr) (fun _ _ vi _ _ _ => F - (intOf vi).toNat)
    case atStart => exact ⟨0, (-1, 0), Nat.zero_le _, rfl, rfl, rfl, rfl, U1.out⟩
    case round =>
      obtain ⟨i, q, hi, rfl, hq, rfl, rfl, hU⟩ := hrel
      have HQ := Lib.hid hq; have HU := Lib.hid hU
      have H2 : Hid (RTb wr g F M ws) := Lib.hid (H.out.still hU)
      have c0 := H2.out.c0
      clear hq hU
      by_cases hlt : i < F
      · obtain ⟨d, hd⟩ : ∃ d, doneN M ws p F i m = d := ⟨_, rfl⟩
        have hdl := doneN_le (M := M) (ws := ws) (p := p) hF1 hop.out i m
        rw [hd] at hdl
        have hdl2 : d ≤ 1048576 * 256 := Nat.le_trans hdl (Nat.mul_le_mul (by omega) hF2)
        have HN : Hid (wstN M ws p F m (i + 1) = if q.1 < (d : Int) then ((d : Int), (i : Int)) else q) := Lib.hid (by rw [wstN, HQ.out, hd])
        have HD := Lib.hid hd
        have s1 := wrap_in ((i : Int) + d - i) (by omega) (by omega)
        have s1' : (i : Int) + d - i = (d : Int) := by omega
        obtain ⟨q0, q1⟩ := q
        dsimp only at *
        clear hd hdl
        go_wp2_with fail
        refine (doneR_in _ g F M ws H2.out p work o HO.out h0 m HM.out i hlt d HD.out).mono ?_
        rintro e w3 ⟨rfl, hU⟩
        have U3 := Lib.hid (HU.out.trans hU)
        clear hU
        by_cases hg : q0 < (d : Int)
        · rw [if_pos hg] at HN
          have d1 : decide (q0 < (d : Int)) = true := decide_eq_true hg
          go_wp2_with fail
          go_roundw
          case rel => exact ⟨i + 1, ((d : Int), (i : Int)), by omega, by go_num, HN.out, rfl, rfl, U3.out⟩
          case measure => simp [intOf]; omega
        · rw [if_neg hg] at HN
          have d1 : decide (q0 < (d : Int)) = false := decide_eq_false hg
          go_wp2_with fail
          go_roundw
          case rel => exact ⟨i + 1, (q0, q1), by omega, by go_num, HN.out, rfl, rfl, U3.out⟩
          case measure => simp [intOf]; omega
      · have hie : i = F := by omega
        subst hie
        go_wp2_with fail
        go_returns
        exact ⟨by rw [HQ.out]; rfl, HU.out⟩

set_option maxRecDepth 100000 in
set_option maxHeartbeats 3200000 in
theorem jitterR (w : World) (g F : Nat) (M : Int) (ws : List W3) (h : RTb w g F M ws) (p work : Int) (o : Int) (ho : cntO M ws p F = o) (m : Nat) (hm : min (max work 0) 1048576 = (m : Int)) :
    Calls Try.prog 28 #[.pointer (some ⟨g, 0, none⟩), .int .i64 p, .int .i64 work] w fun e w' =>
      e = .returned (.tuple #[.int .i64 (if o = 0 then 0 else maxD M ws p F m F - minD M ws p F m F), .bool (decide (0 < o))]) ∧ Upd (fun _ => False) w w' := by
  obtain ⟨hF1, hF2, _⟩ := rightB_parts h.1
  have H := Lib.hid h; have HO := Lib.hid ho; have HM := Lib.hid hm
  have ho1 := cntO_le M ws p F
  rw [ho] at ho1
  have hmb : (m : Int) ≤ 1048576 := by omega
  clear h hm ho
  by_cases h0 : o = 0
  · rw [if_pos h0]
    subst h0
    go_enter Try.func28, Try.ntmps28
    go_wp2_with fail
    refine (offR _ g F M ws H.out p 0 HO.out).mono ?_
    rintro e w1 ⟨rfl, hU⟩
    have U1 := Lib.hid hU
    clear hU
    go_wp2_with fail
    go_returns
    exact ⟨rfl, U1.out⟩
  · rw [if_neg h0]
    have d0 : (o == 0) = false := beq_eq_false_iff_ne.2 h0
    have d0' : decide (0 < o) = true := decide_eq_true (by omega)
    rw [d0']
    have hop : Hid (0 < cntO M ws p F) := Lib.hid (by rw [HO.out]; omega)
    go_enter Try.func28, Try.ntmps28
    go_wp2_with fail
    refine (offR _ g F M ws H.out p o HO.out).mono ?_
    rintro e w1 ⟨rfl, hU⟩
    have U1 := Lib.hid hU
    clear hU
    go_wp2_with fail
    go_loopw [8, 9, 10, 11, 12] (fun vl vm vi v11 v12 wr => ∃ (i : Nat) (a b : Int), i ≤ F ∧ vi = .int .i64 i ∧ minD M ws p F m i = a ∧ maxD M ws p F m i = b ∧ 0 ≤ b ∧ b ≤ 1048576 * 256 ∧ vl = .int .i64 a ∧ vm = .int .i64 b ∧ Upd (fun _ => False) w wr) (fun _ _ vi _ _ _ => F - (intOf vi).toNat)
    case atStart => exact ⟨0, 2305843009213693952, 0, Nat.zero_le _, rfl, rfl, rfl, Int.le_refl _, by decide, rfl, rfl, U1.out⟩
    case round =>
      obtain ⟨i, a, b, hi, rfl, ha, hb, hb0, hb1, rfl, rfl, hU⟩ := hrel
      have hal := minD_le M ws p F m i
      rw [ha] at hal
      have HA := Lib.hid ha; have HB := Lib.hid hb; have HU := Lib.hid hU
      have H2 : Hid (RTb wr g F M ws) := Lib.hid (H.out.still hU)
      have c0 := H2.out.c0
      clear ha hb hU
      by_cases hlt : i < F
      · obtain ⟨d, hd⟩ : ∃ d, doneN M ws p F i m = d := ⟨_, rfl⟩
        have hdl := doneN_le (M := M) (ws := ws) (p := p) hF1 hop.out i m
        rw [hd] at hdl
        have hdl2 : d ≤ 1048576 * 256 := Nat.le_trans hdl (Nat.mul_le_mul (by omega) hF2)
        have HN1 : Hid (minD M ws p F m (i + 1) = min a d) := Lib.hid (by rw [minD, HA.out, hd])
        have HN2 : Hid (maxD M ws p F m (i + 1) = max b d) := Lib.hid (by rw [maxD, HB.out, hd])
        have HD := Lib.hid hd
        have s1 := wrap_in ((i : Int) + d - i) (by omega) (by omega)
        have s1' : (i : Int) + d - i = (d : Int) := by omega
        clear hd hdl
        go_wp2_with fail
        refine (doneR_in _ g F M ws H2.out p work o HO.out h0 m HM.out i hlt d HD.out).mono ?_
        rintro e w3 ⟨rfl, hU⟩
        have U3 := Lib.hid (HU.out.trans hU)
        clear hU
        go_wp2_with fail
        go_roundw
        case rel => exact ⟨i + 1, min a d, max b d, by omega, by go_num, HN1.out, HN2.out, by omega, by omega, rfl, rfl, U3.out⟩
        case measure => simp [intOf]; omega
      · have hie : i = F := by omega
        subst hie
        have s2 := wrap_in (b - a) (by omega) (by omega)
        go_wp2_with fail
        go_returns
        exact ⟨by rw [HA.out, HB.out]; rfl, HU.out⟩
end Go.Proofs.Ytnfajehocljbnaa
