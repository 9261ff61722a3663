/-
  The walks of frame: Mod, fits, open.
-/
import Derived.Test.YtcgefncddbbnlaaFrameP
import Derived.Test.YtcgefncddbbnlaaTu
import Derived.Test.YtcgefncddbbnlaaRws
import Derived.Test.YtcgefncddbbnlaaSeqR
namespace Go.Proofs.Ytcgefncddbbnlaa.Fr
open Go.RowKit
attribute [local go_sem] max_ints min_ints

def encW (x : W3) : List Value := [.int .i64 x.1, .int .i64 x.2.1, .int .i64 x.2.2]
theorem encW_len (x : W3) : (encW x).length = 3 := rfl
theorem encW_one (x : W3) : ∀ u ∈ encW x, u.oneCell' = true := by intro u hu; simp [encW] at hu; rcases hu with rfl | rfl | rfl <;> rfl
def encI (x : Int) : List Value := [.int .i64 x]
theorem encI_len (x : Int) : (encI x).length = 1 := rfl
theorem encI_one (x : Int) : ∀ u ∈ encI x, u.oneCell' = true := by intro u hu; simp [encI] at hu; subst hu; rfl
theorem wrap_in (x : Int) (h0 : -9223372036854775808 ≤ x) (h1 : x ≤ 9223372036854775807) : IntKind.i64.wrap x = x := by rw [IntKind.wrap_i64]; omega
theorem add_at (B j : Nat) : (⟨B, 0, none⟩ : Addr).add j = ⟨B, j, none⟩ := by unfold Addr.add; split <;> simp_all

/-- A slice of windows that may be read, wherever it lies. -/
def RdW (w : World) (v : Value) (ws : List W3) : Prop := ∃ A cap, v = .slice A ws.length cap ∧ ∀ (i : Nat) (x : W3), ws[i]? = some x → ∃ b o, A = some ⟨b, o, none⟩ ∧ b < w.heap.size ∧
  w.cell? ⟨b, o + i * 3, none⟩ = some (.int .i64 x.1) ∧ w.cell? ⟨b, o + i * 3 + 1, none⟩ = some (.int .i64 x.2.1) ∧ w.cell? ⟨b, o + i * 3 + 2, none⟩ = some (.int .i64 x.2.2)
theorem RdW.still {w w' : World} {v : Value} {ws : List W3} (h : RdW w v ws) (hu : Upd (fun _ => False) w w') : RdW w' v ws := by
  obtain ⟨A, cap, rfl, h⟩ := h
  refine ⟨A, cap, rfl, fun i x hx => ?_⟩
  obtain ⟨b, o, e, hb, h0, h1, h2⟩ := h i x hx
  exact ⟨b, o, e, Nat.lt_of_lt_of_le hb hu.size, (hu.cell (p := ⟨b, _, none⟩) hb (fun h => h)).trans h0, (hu.cell (p := ⟨b, _, none⟩) hb (fun h => h)).trans h1, (hu.cell (p := ⟨b, _, none⟩) hb (fun h => h)).trans h2⟩
theorem RdW.of {w : World} {base : Nat} {t : TypeId} {v : Value} {ws : List W3} (h : SlR encW w base t 3 v ws) : RdW w v ws := by
  obtain ⟨A, cap, rfl⟩ := h.shape
  refine ⟨A, cap, rfl, fun i x hx => ?_⟩
  have hi : i < ws.length := (List.getElem?_eq_some_iff.1 hx).1
  obtain ⟨b, o, c, e, _, hb, _, _⟩ := h.form (by omega)
  injection e with e1 e2 e3
  subst e1 e3
  exact ⟨b, o, rfl, hb, by have := h.cell encW_len i x hx 0 _ rfl; rwa [Nat.add_zero] at this, h.cell encW_len i x hx 1 _ rfl, h.cell encW_len i x hx 2 _ rfl⟩

set_option maxHeartbeats 400000 in
theorem btoi_ (w : World) (b : Bool) : Calls Try.prog 66 #[.bool b] w fun e w' => e = .returned (.int .i64 (if b then 1 else 0)) ∧ ∃ k, w' = w.drewN k := by
  cases b
  all_goals
    go_enter Try.func66, Try.ntmps66
    go_wp2
    go_ret
    exact ⟨rfl, 0, rfl⟩

theorem tmod_neg (d F : Int) (hF : 1 ≤ F) : (d.tmod F < 0 → d.tmod F + F = d % F) ∧ (¬ d.tmod F < 0 → d.tmod F = d % F) ∧ -F < d.tmod F ∧ d.tmod F < F := by
  have h1 := Int.tmod_add_mul_tdiv d F
  have h3 := Int.emod_nonneg d (show F ≠ 0 by omega)
  have h4 := Int.emod_lt_of_pos d (show 0 < F by omega)
  have h5 : d.tmod F < F ∧ -F < d.tmod F := by
    have := Int.tmod_lt_of_pos d (show 0 < F by omega)
    have h6 := Int.lt_tmod_of_pos d (show 0 < F by omega)
    exact ⟨this, h6⟩
  refine ⟨fun hn => ?_, fun hn => ?_, h5.2, h5.1⟩
  · have : (d.tmod F + F) % F = d % F := by
      rw [Int.add_emod_right]
      conv => rhs; rw [← h1]
      simp
    rw [← this, Int.emod_eq_of_lt (by omega) (by omega)]
  · have : (d.tmod F) % F = d % F := by
      conv => rhs; rw [← h1]
      simp
    rw [← this, Int.emod_eq_of_lt (by omega) (by omega)]

set_option maxRecDepth 100000 in
set_option maxHeartbeats 800000 in
theorem modN (w : World) (d F : Int) (hF : 1 ≤ F) (hF2 : F ≤ 256) :
    Calls Try.prog 45 #[.int .i64 d, .int .i64 F] w fun e w' => e = .returned (.int .i64 (d % F)) ∧ ∃ k, w' = w.drewN k := by
  have ht := tmod_neg d F hF
  have e0 : decide (F < 1) = false := decide_eq_false (by omega)
  have e1 : ¬ (F = 0) := by omega
  by_cases hn : d.tmod F < 0
  · have e2 : decide (d.tmod F < 0) = true := decide_eq_true hn
    have HR := Lib.hid (ht.1 hn)
    have h1 := ht.2.2.1
    clear ht
    go_enter Try.func45, Try.ntmps45
    go_wp2_with fail
    refine (btoi_ _ _).mono ?_
    rintro e w1 ⟨rfl, k1, rfl⟩
    go_wp2
    go_ret
    exact ⟨ret_int HR.out, k1, rfl⟩
  · have e2 : decide (d.tmod F < 0) = false := decide_eq_false hn
    have HR := Lib.hid (ht.2.1 hn)
    have h1 := ht.2.2.2
    clear ht
    go_enter Try.func45, Try.ntmps45
    go_wp2_with fail
    refine (btoi_ _ _).mono ?_
    rintro e w1 ⟨rfl, k1, rfl⟩
    go_wp2
    go_ret
    exact ⟨ret_int HR.out, k1, rfl⟩

set_option maxRecDepth 100000 in
set_option maxHeartbeats 800000 in
theorem modR (w : World) (d F : Int) (hF : 1 ≤ F) (hF2 : F ≤ 256) :
    Calls Try.prog 79 #[.int .i64 d, .int .i64 F] w fun e w' => e = .returned (.int .i64 (d % F)) ∧ ∃ k, w' = w.drewN k := by
  have ht := tmod_neg d F hF
  have e0 : decide (F < 1) = false := decide_eq_false (by omega)
  have e1 : ¬ (F = 0) := by omega
  by_cases hn : d.tmod F < 0
  · have e2 : decide (d.tmod F < 0) = true := decide_eq_true hn
    have HR := Lib.hid (ht.1 hn)
    have h1 := ht.2.2.1
    clear ht
    go_enter Try.func79, Try.ntmps79
    go_wp2
    go_ret
    exact ⟨ret_int HR.out, 0, rfl⟩
  · have e2 : decide (d.tmod F < 0) = false := decide_eq_false hn
    have HR := Lib.hid (ht.2.1 hn)
    have h1 := ht.2.2.2
    clear ht
    go_enter Try.func79, Try.ntmps79
    go_wp2
    go_ret
    exact ⟨ret_int HR.out, 0, rfl⟩

theorem fitsB_no {F at_ : Int} {x : W3} {t : List W3} (h : ¬ (at_ ≤ x.1 ∧ x.1 < F ∧ 1 ≤ x.2.1 ∧ x.2.1 ≤ F - x.1 ∧ 0 ≤ x.2.2 ∧ x.2.2 < 6)) : fitsB F at_ (x :: t) = false := by
  unfold fitsB
  rw [decide_eq_false h]
  rfl
theorem fitsB_yes {F at_ : Int} {x : W3} {t : List W3} (h : at_ ≤ x.1 ∧ x.1 < F ∧ 1 ≤ x.2.1 ∧ x.2.1 ≤ F - x.1 ∧ 0 ≤ x.2.2 ∧ x.2.2 < 6) : fitsB F at_ (x :: t) = fitsB F (x.1 + x.2.1) t := by
  conv => lhs; unfold fitsB
  rw [decide_eq_true h]
  rfl
theorem drop_cons {α : Type} {l : List α} {i : Nat} {x : α} (h : l[i]? = some x) : l.drop i = x :: l.drop (i + 1) := by
  obtain ⟨hi, rfl⟩ := List.getElem?_eq_some_iff.1 h
  exact List.drop_eq_getElem_cons hi

set_option maxRecDepth 100000 in
set_option maxHeartbeats 3200000 in
theorem fitsW (w : World) (F : Int) (hF : 1 ≤ F) (hF2 : F ≤ 256) (v : Value) (ws : List W3) (h : RdW w v ws) (hl : ws.length ≤ 1000) :
    Calls Try.prog 62 #[.int .i64 F, v] w fun e w' => e = .returned (.bool (fitsB F 0 ws)) ∧ Upd (fun _ => False) w w' := by
  have HR := Lib.hid h
  obtain ⟨A, cap, rfl, _⟩ := h
  go_enter Try.func62, Try.ntmps62
  go_wp2_with fail
  go_loopw [5, 10] (fun va vi wr => ∃ (i : Nat) (at_ : Int), i ≤ ws.length ∧ vi = .int .i64 i ∧ va = .int .i64 at_ ∧ 0 ≤ at_ ∧ at_ ≤ 256 ∧ fitsB F 0 ws = fitsB F at_ (ws.drop i) ∧ Upd (fun _ => False) w wr) (fun _ vi _ => ws.length - (intOf vi).toNat)
  case atStart => exact ⟨0, 0, Nat.zero_le _, rfl, rfl, by omega, by omega, rfl, Upd.refl _ _⟩
  case round =>
    obtain ⟨i, at_, hi, rfl, rfl, ha0, ha1, hfit, hU⟩ := hrel
    have HFIT := Lib.hid hfit; have HU := Lib.hid hU
    clear hfit hU
    by_cases hlt : i < ws.length
    · obtain ⟨x, hx⟩ : ∃ x, ws[i]? = some x := ⟨_, List.getElem?_eq_getElem hlt⟩
      obtain ⟨A', cap', e, hcell⟩ := HR.out.still HU.out
      injection e with e1 e2 e3
      subst e1 e3
      obtain ⟨b, o, rfl, hb, c0, c1, c2⟩ := hcell i x hx
      have HX := Lib.hid (drop_cons hx)
      clear hcell hx
      obtain ⟨x0, x1, x2⟩ := x
      dsimp only at *
      by_cases h1 : at_ ≤ x0
      · have d1 : decide (x0 < at_) = false := decide_eq_false (by omega)
        by_cases h2 : x0 < F
        · have d2 : decide (F ≤ x0) = false := decide_eq_false (by omega)
          by_cases h3 : 1 ≤ x1
          · have d3 : decide (x1 < 1) = false := decide_eq_false (by omega)
            by_cases h4 : x1 ≤ F - x0
            · have d4 : decide (F - x0 < x1) = false := decide_eq_false (by omega)
              by_cases h5 : 0 ≤ x2
              · have d5 : decide (x2 < 0) = false := decide_eq_false (by omega)
                by_cases h6 : x2 < 6
                · have d6 : decide (6 ≤ x2) = false := decide_eq_false (by omega)
                  have hyes := fitsB_yes (F := F) (at_ := at_) (x := (x0, x1, x2)) (t := ws.drop (i + 1)) ⟨by omega, by omega, by omega, by omega, by omega, by omega⟩
                  have HN : Hid (fitsB F 0 ws = fitsB F (x0 + x1) (ws.drop (i + 1))) := Lib.hid (by rw [HFIT.out, HX.out]; exact hyes)
                  clear hyes
                  go_wp2_with fail
                  go_roundw
                  case rel => exact ⟨i + 1, x0 + x1, by omega, by go_num, rfl, by omega, by omega, HN.out, HU.out.alloc _⟩
                  case measure => simp [intOf]; omega
                · have d6 : decide (6 ≤ x2) = true := decide_eq_true (by omega)
                  have ht : fitsB F 0 ws = false := by rw [HFIT.out, HX.out]; exact fitsB_no (by dsimp only; omega)
                  have HB := Lib.hid ht
                  clear ht
                  go_wp2_with fail
                  go_returns
                  exact ⟨ret_bool HB.out.symm, HU.out.alloc _⟩
              · have d5 : decide (x2 < 0) = true := decide_eq_true (by omega)
                have ht : fitsB F 0 ws = false := by rw [HFIT.out, HX.out]; exact fitsB_no (by dsimp only; omega)
                have HB := Lib.hid ht
                clear ht
                go_wp2_with fail
                go_returns
                exact ⟨ret_bool HB.out.symm, HU.out.alloc _⟩
            · have d4 : decide (F - x0 < x1) = true := decide_eq_true (by omega)
              have ht : fitsB F 0 ws = false := by rw [HFIT.out, HX.out]; exact fitsB_no (by dsimp only; omega)
              have HB := Lib.hid ht
              clear ht
              go_wp2_with fail
              go_returns
              exact ⟨ret_bool HB.out.symm, HU.out.alloc _⟩
          · have d3 : decide (x1 < 1) = true := decide_eq_true (by omega)
            have ht : fitsB F 0 ws = false := by rw [HFIT.out, HX.out]; exact fitsB_no (by dsimp only; omega)
            have HB := Lib.hid ht
            clear ht
            go_wp2_with fail
            go_returns
            exact ⟨ret_bool HB.out.symm, HU.out.alloc _⟩
        · have d2 : decide (F ≤ x0) = true := decide_eq_true (by omega)
          have ht : fitsB F 0 ws = false := by rw [HFIT.out, HX.out]; exact fitsB_no (by dsimp only; omega)
          have HB := Lib.hid ht
          clear ht
          go_wp2_with fail
          go_returns
          exact ⟨ret_bool HB.out.symm, HU.out.alloc _⟩
      · have d1 : decide (x0 < at_) = true := decide_eq_true (by omega)
        have ht : fitsB F 0 ws = false := by rw [HFIT.out, HX.out]; exact fitsB_no (by dsimp only; omega)
        have HB := Lib.hid ht
        clear ht
        go_wp2_with fail
        go_returns
        exact ⟨ret_bool HB.out.symm, HU.out.alloc _⟩
    · have hii : i = ws.length := by omega
      have ht : fitsB F 0 ws = true := by rw [HFIT.out, hii, List.drop_length]; rfl
      have HB := Lib.hid ht
      clear ht
      go_wp2_with fail
      go_returns
      exact ⟨ret_bool HB.out.symm, HU.out⟩

set_option maxRecDepth 100000 in
set_option maxHeartbeats 1600000 in
theorem openW (w : World) (L : Value) (hL : ∃ A n c, L = .slice A n c) (M : Int) (hM : 0 ≤ M) (hM2 : M ≤ 8) (x0 x1 x2 : Int) (h0 : 0 ≤ x0) (h1 : x0 ≤ 256) (h2 : 0 ≤ x1) (h3 : x1 ≤ 256) :
    Calls Try.prog 80 #[.agg #[L, .int .i64 M], .agg #[.int .i64 x0, .int .i64 x1, .int .i64 x2]] w fun e w' => e = .returned (.tuple #[.int .i64 (x0 + min M x1), .int .i64 (x0 + x1)]) ∧ Upd (fun _ => False) w w' := by
  obtain ⟨A, n, c, rfl⟩ := hL
  have hw1 := wrap_in (x0 + M) (by omega) (by omega)
  have hw2 := wrap_in (x0 + x1) (by omega) (by omega)
  go_enter Try.func80, Try.ntmps80
  go_wp2_with fail
  go_quiet (fail)
  clear hw1 hw2
  go_wp2_with fail
  go_returns
  exact ⟨rfl, (((Upd.refl _ w).alloc _).alloc _).drewN _⟩
end Go.Proofs.Ytcgefncddbbnlaa.Fr
