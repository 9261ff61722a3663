/-
  The walks of the document's table: Owner, Is, Offered, Count, Next.
-/
import Derived.Test.YtcgefncddbbnlaaFrameI
namespace Go.Proofs.Ytcgefncddbbnlaa.Fr
open Go.RowKit
attribute [local go_sem] max_ints min_ints

theorem ret2i {a b c d : Int} (h1 : a = c) (h2 : b = d) : Ending.returned (.tuple #[.int .i64 a, .int .i64 b]) = .returned (.tuple #[.int .i64 c, .int .i64 d]) := by rw [h1, h2]
/-- The document's table at g. -/
def RTb (w : World) (g F : Nat) (M : Int) (ws : List W3) : Prop := rightB F M ws = true ∧ ∃ L, Blk w g 76 #[.int .i64 F, .int .i64 M, L] ∧ RdW w L ws
theorem RTb.still {w w' : World} {g F : Nat} {M : Int} {ws : List W3} (h : RTb w g F M ws) (hu : Upd (fun _ => False) w w') : RTb w' g F M ws := let ⟨h0, L, h1, h2⟩ := h; ⟨h0, L, h1.upd hu (fun h => h), h2.still hu⟩

set_option maxRecDepth 100000 in
set_option maxHeartbeats 3200000 in
theorem ownerR (w : World) (g F : Nat) (M : Int) (ws : List W3) (h : RTb w g F M ws) (d : Int) :
    Calls Try.prog 61 #[.pointer (some ⟨g, 0, none⟩), .int .i64 d] w fun e w' => e = .returned (.tuple #[.int .i64 (ownR M (d % F) ws).1, .int .i64 (ownR M (d % F) ws).2]) ∧ Upd (fun _ => False) w w' := by
  obtain ⟨hr, L, hB, hL⟩ := h
  obtain ⟨hF1, hF2, hM, hM8, hl, hfit⟩ := rightB_parts hr
  have HFIT := Lib.hid hfit; have HB := Lib.hid hB; have HL := Lib.hid hL
  have c0 : w.cell? ⟨g, 0, none⟩ = some (.int .i64 F) := hB.cell 0
  obtain ⟨A, cap, rfl, _⟩ := hL
  clear hr hfit hB
  obtain ⟨pl, hpl⟩ : ∃ pl : Int, d % (F : Int) = pl := ⟨_, rfl⟩
  have hp0 : 0 ≤ pl := by have := Int.emod_nonneg d (show (F : Int) ≠ 0 by omega); omega
  have hp1 : pl < F := by have := Int.emod_lt_of_pos d (show (0 : Int) < (F : Int) by omega); omega
  have HPL := Lib.hid hpl
  rw [hpl]
  clear hpl
  obtain ⟨o1, ho1⟩ : ∃ o1, (ownR M pl ws).1 = o1 := ⟨_, rfl⟩
  obtain ⟨o2, ho2⟩ : ∃ o2, (ownR M pl ws).2 = o2 := ⟨_, rfl⟩
  rw [ho1, ho2]
  have HO1 := Lib.hid ho1; have HO2 := Lib.hid ho2
  clear ho1 ho2
  go_enter Try.func61, Try.ntmps61
  go_wp2_with fail
  refine (modR _ d F (by omega) (by omega)).mono ?_
  rintro e w1 ⟨rfl, k1, rfl⟩
  rw [HPL.out]
  go_wp2_with fail
  clear c0
  go_loopw [7] (fun vi wr => ∃ i : Nat, i ≤ ws.length ∧ vi = .int .i64 i ∧ ownR M pl ws = ownR M pl (ws.drop i) ∧ Upd (fun _ => False) w wr) (fun vi _ => ws.length - (intOf vi).toNat)
  case atStart => exact ⟨0, Nat.zero_le _, rfl, rfl, (Upd.refl _ w).drewN _⟩
  case round =>
    obtain ⟨i, hi, rfl, ho, hU⟩ := hrel
    have HO := Lib.hid ho; have HU := Lib.hid hU
    have c1 := (HB.out.upd hU (fun h => h)).cell 1
    have c2 := (HB.out.upd hU (fun h => h)).cell 2
    have c1' := fun o => ((HB.out.upd hU (fun h => h)).alloc o).cell 1
    simp at c1 c2 c1'
    clear ho hU
    by_cases hlt : i < ws.length
    · obtain ⟨x, hx⟩ : ∃ x, ws[i]? = some x := ⟨_, List.getElem?_eq_getElem hlt⟩
      obtain ⟨A', cap', e, hcell⟩ := HL.out.still HU.out
      injection e with e1 e2 e3
      subst e1 e3
      obtain ⟨b, o, rfl, hb, q0, q1, q2⟩ := hcell i x hx
      have hfx := fitsB_mem HFIT.out x (List.mem_of_getElem? hx)
      have HX := Lib.hid (drop_cons hx)
      clear hcell hx
      obtain ⟨x0, x1, x2⟩ := x
      dsimp only at *
      have HY : Hid (ownR M pl ws = if x0 ≤ pl ∧ pl - x0 < x1 then (x2, if pl - x0 < M then 1 else 2) else ownR M pl (ws.drop (i + 1))) := Lib.hid (by rw [HO.out, HX.out]; rfl)
      have hwp : IntKind.i64.wrap (pl - x0) = pl - x0 := wrap_in _ (by omega) (by omega)
      by_cases h1 : x0 ≤ pl
      · have d1 : decide (x0 ≤ pl) = true := decide_eq_true h1
        by_cases h2 : pl - x0 < x1
        · have d2 : decide (pl - x0 < x1) = true := decide_eq_true h2
          have HZ : Hid (ownR M pl ws = (x2, if pl - x0 < M then 1 else 2)) := Lib.hid (by rw [HY.out, if_pos ⟨h1, h2⟩])
          by_cases h3 : pl - x0 < M
          · have d3 : decide (pl - x0 < M) = true := decide_eq_true h3
            have HZ2 : Hid (x2 = o1 ∧ (1 : Int) = o2) := Lib.hid (by rw [← HO1.out, ← HO2.out, HZ.out, if_pos h3]; exact ⟨rfl, rfl⟩)
            go_wp2_with fail
            go_quiet (fail)
            go_wp2_with fail
            go_returns
            exact ⟨ret2i HZ2.out.1 HZ2.out.2, (HU.out.alloc _).drewN _⟩
          · have d3 : decide (pl - x0 < M) = false := decide_eq_false h3
            have HZ2 : Hid (x2 = o1 ∧ (2 : Int) = o2) := Lib.hid (by rw [← HO1.out, ← HO2.out, HZ.out, if_neg h3]; exact ⟨rfl, rfl⟩)
            go_wp2_with fail
            go_quiet (fail)
            go_wp2_with fail
            go_returns
            exact ⟨ret2i HZ2.out.1 HZ2.out.2, (HU.out.alloc _).drewN _⟩
        · have d2 : decide (pl - x0 < x1) = false := decide_eq_false h2
          have HZ : Hid (ownR M pl ws = ownR M pl (ws.drop (i + 1))) := Lib.hid (by rw [HY.out, if_neg (fun h => h2 h.2)])
          go_wp2_with fail
          go_roundw
          case rel => exact ⟨i + 1, by omega, by go_num, HZ.out, HU.out.alloc _⟩
          case measure => simp [intOf]; omega
      · have d1 : decide (x0 ≤ pl) = false := decide_eq_false h1
        have HZ : Hid (ownR M pl ws = ownR M pl (ws.drop (i + 1))) := Lib.hid (by rw [HY.out, if_neg (fun h => h1 h.1)])
        go_wp2_with fail
        go_roundw
        case rel => exact ⟨i + 1, by omega, by go_num, HZ.out, HU.out.alloc _⟩
        case measure => simp [intOf]; omega
    · have hii : i = ws.length := by omega
      have HZ2 : Hid ((-1 : Int) = o1 ∧ (0 : Int) = o2) := Lib.hid (by rw [← HO1.out, ← HO2.out, HO.out, hii, List.drop_length]; exact ⟨rfl, rfl⟩)
      go_wp2_with fail
      go_returns
      exact ⟨ret2i HZ2.out.1 HZ2.out.2, HU.out⟩

set_option maxRecDepth 100000 in
set_option maxHeartbeats 1600000 in
theorem isR (w : World) (g F : Nat) (M : Int) (ws : List W3) (h : RTb w g F M ws) (p d : Int) (b : Bool) (hb : isO M ws p (d % F) = b) :
    Calls Try.prog 36 #[.pointer (some ⟨g, 0, none⟩), .int .i64 p, .int .i64 d] w fun e w' => e = .returned (.bool b) ∧ Upd (fun _ => False) w w' := by
  have H := Lib.hid h
  obtain ⟨o, ho⟩ : ∃ o, ownR M (d % F) ws = o := ⟨_, rfl⟩
  have HO := Lib.hid ho
  have HB : Hid ((decide (o.2 = 2) && decide (o.1 = p)) = b) := Lib.hid (by
    rw [← hb, ← ho]
    unfold isO
    rw [Bool.eq_iff_iff]
    simp [Prod.ext_iff, and_comm])
  clear h ho hb
  obtain ⟨o1, o2⟩ := o
  dsimp only at *
  by_cases h2 : o2 = 2
  · have e2 : (o2 == 2) = true := beq_iff_eq.2 h2
    have HB2 : Hid ((o1 == p) = b) := Lib.hid (by rw [← HB.out, h2]; simp; rfl)
    clear h2
    go_enter Try.func36, Try.ntmps36
    go_wp2_with fail
    refine (ownerR _ g F M ws H.out d).mono ?_
    rintro e w1 ⟨rfl, hU⟩
    rw [HO.out]
    have HU := Lib.hid hU
    clear hU
    go_wp2_with fail
    go_returns
    exact ⟨ret_bool HB2.out, HU.out⟩
  · have e2 : (o2 == 2) = false := beq_eq_false_iff_ne.2 h2
    have HB2 : Hid (false = b) := Lib.hid (by rw [← HB.out]; simp [h2])
    clear h2
    go_enter Try.func36, Try.ntmps36
    go_wp2_with fail
    refine (ownerR _ g F M ws H.out d).mono ?_
    rintro e w1 ⟨rfl, hU⟩
    rw [HO.out]
    have HU := Lib.hid hU
    clear hU
    go_wp2_with fail
    go_returns
    exact ⟨ret_bool HB2.out, HU.out⟩

set_option maxRecDepth 100000 in
set_option maxHeartbeats 1600000 in
theorem offR (w : World) (g F : Nat) (M : Int) (ws : List W3) (h : RTb w g F M ws) (p : Int) (c : Int) (hc : cntO M ws p F = c) :
    Calls Try.prog 29 #[.pointer (some ⟨g, 0, none⟩), .int .i64 p] w fun e w' => e = .returned (.int .i64 c) ∧ Upd (fun _ => False) w w' := by
  have hr := rightB_parts h.1
  have hF1 := hr.1
  have hF2 := hr.2.1
  have H := Lib.hid h
  have HC := Lib.hid hc
  have HB : Hid (∃ L, Blk w g 76 #[.int .i64 F, .int .i64 M, L]) := Lib.hid (let ⟨_, L, h, _⟩ := h; ⟨L, h⟩)
  clear h hr hc
  go_enter Try.func29, Try.ntmps29
  go_wp2_with fail
  go_loopw [5, 6] (fun vn vi wr => ∃ i : Nat, i ≤ F ∧ vi = .int .i64 i ∧ vn = .int .i64 (cntO M ws p i) ∧ Upd (fun _ => False) w wr) (fun _ vi _ => F - (intOf vi).toNat)
  case atStart => exact ⟨0, Nat.zero_le _, rfl, rfl, Upd.refl _ w⟩
  case round =>
    obtain ⟨i, hi, rfl, rfl, hU⟩ := hrel
    have HU := Lib.hid hU
    obtain ⟨L, hB⟩ := HB.out
    have c0 := (hB.upd hU (fun h => h)).cell 0
    simp at c0
    clear hU hB
    have hci := cntO_le M ws p i
    obtain ⟨c1, hc1⟩ : ∃ c, cntO M ws p i = c := ⟨_, rfl⟩
    rw [hc1] at hci ⊢
    have HC1 := Lib.hid hc1
    clear hc1
    by_cases hlt : i < F
    · obtain ⟨b, hb⟩ : ∃ b, isO M ws p i = b := ⟨_, rfl⟩
      have HBI := Lib.hid hb
      clear hb
      go_wp2_with fail
      refine (isR _ g F M ws (H.out.still HU.out) p i b (by rw [Int.emod_eq_of_lt (by omega) (by omega)]; exact HBI.out)).mono ?_
      rintro e w1 ⟨rfl, hU1⟩
      have U1 := Lib.hid (HU.out.trans hU1)
      clear hU1
      cases b
      · go_wp2_with fail
        go_roundw
        case rel => exact ⟨i + 1, by omega, by go_num, by rw [cntO, HC1.out, HBI.out]; simp, U1.out⟩
        case measure => simp [intOf]; omega
      · go_wp2_with fail
        go_roundw
        case rel => exact ⟨i + 1, by omega, by go_num, by rw [cntO, HC1.out, HBI.out]; simp, U1.out⟩
        case measure => simp [intOf]; omega
    · have hie : i = F := by omega
      have HE : Hid (c1 = c) := Lib.hid (by rw [← HC1.out, ← HC.out, hie])
      go_wp2_with fail
      go_returns
      exact ⟨ret_int HE.out, HU.out⟩
end Go.Proofs.Ytcgefncddbbnlaa.Fr
