/-
  WheelFar.
-/
import Derived.Test.YtcljgejalacccaaWhK
namespace Go.Proofs.Ytcljgejalacccaa
open Go.RowKit
attribute [local go_sem] max_ints min_ints

def atT (T : Nat) : Nat → Int := fput (fun _ => -1) 7 (T : Int)
theorem atT_eq (T k : Nat) : atT T k = -1 ∨ (atT T k = T ∧ k = 7) := by
  unfold atT
  by_cases h : k = 7
  · subst h; exact .inr ⟨fput_eq _ _ _, rfl⟩
  · exact .inl (fput_ne _ _ h)
theorem atT_go (T i : Nat) (h : i + 1 < T) (hT : T ≤ 4611686018427387904) : goLs i (atT T) = [] ∧ goAt i (atT T) = atT T ∧ goNow i = i + 1 := by
  have hi : ¬ i = 4611686018427387904 := by omega
  refine ⟨?_, ?_, ?_⟩
  · unfold goLs
    rw [if_neg hi, List.filter_eq_nil_iff]
    intro k _
    rcases atT_eq T k with h1 | ⟨h1, _⟩ <;> rw [h1] <;> simp <;> omega
  · unfold goAt goneA
    rw [if_neg hi]
    funext k
    rcases atT_eq T k with h1 | ⟨h1, _⟩ <;> rw [h1]
    · split <;> rfl
    · rw [if_neg (by omega)]
  · unfold goNow; rw [if_neg hi]
theorem atT_end (T i : Nat) (h : i + 1 = T) (hT : T ≤ 4611686018427387904) : goLs i (atT T) = [7] ∧ goNow i = T := by
  have hi : ¬ i = 4611686018427387904 := by omega
  refine ⟨?_, by unfold goNow; rw [if_neg hi]; exact h⟩
  unfold goLs
  rw [if_neg hi, h]
  have e : (List.range 256).filter (fun k => decide (atT T k = (T : Int))) = (List.range 256).filter (fun k => decide (k = 7)) := by
    refine List.filter_congr (fun k _ => ?_)
    rcases atT_eq T k with h1 | ⟨h1, h2⟩
    · rw [h1]
      have : k ≠ 7 := fun e => by subst e; unfold atT at h1; rw [fput_eq] at h1; omega
      simp [this]
      try omega
    · rw [h1]; simp [h2]
  rw [e]
  have hk : (List.range 256).filter (fun k => decide (k = 7)) = [7] := by kernel_rfl
  exact hk
theorem rem_bound (x m : Int) (hm : 0 < m) : -m < x.tmod m ∧ x.tmod m < m := by
  constructor
  · have := Int.lt_tmod_of_pos x hm; omega
  · exact Int.tmod_lt_of_pos x hm

set_option maxRecDepth 100000 in
set_option maxHeartbeats 3200000 in
theorem wheelFar_main (w : World) (T : Nat) (hT : 1000 ≤ T ∧ T ≤ 4611686018427387904) (x : Int) : Calls Try.prog 5 #[.int .i64 (T : Int), .int .i64 x] w fun e w' => e = .returned (.bool true) ∧ Upd (fun _ => False) w w' := by
  obtain ⟨h1, h2⟩ := rem_bound x 900 (by decide)
  obtain ⟨B, hB⟩ : ∃ B : Nat, 1 + x.tmod 900 % 900 = (B : Int) := ⟨(1 + x.tmod 900 % 900).toNat, by omega⟩
  have hB1 : 1 ≤ B ∧ B ≤ 900 := by omega
  have d1 : decide ((T : Int) < 1000) = false := decide_eq_false (by omega)
  have d2 : decide ((4611686018427387904 : Int) < (T : Int)) = false := decide_eq_false (by omega)
  obtain ⟨hT1, hT2⟩ := hT
  go_enter Try.func5, Try.ntmps5
  go_wp2_with fail
  refine (knowsW w).mono ?_
  rintro e w1 ⟨rfl, hU1⟩
  have U1 := Lib.hid hU1
  clear hU1
  go_wp2_with fail
  have hS0 : ((T : Int) - (B : Int)) = ((T - B : Nat) : Int) := by omega
  refine (newC w1 _).mono ?_
  rintro e w2 ⟨rfl, hS2, hU2⟩
  have hn0 : (min (max ((T : Int) - (B : Int)) 0) 4611686018427387904).toNat = T - B := by omega
  rw [hn0] at hS2
  obtain ⟨g, hg⟩ : ∃ g, w1.heap.size = g := ⟨_, rfl⟩
  rw [hg] at hS2 ⊢
  have HG : Hid (w.heap.size ≤ g) := Lib.hid (by rw [← hg]; exact U1.out.size)
  have S2 := Lib.hid hS2
  have hg2 : g ≤ w2.heap.size := by rw [← hg]; exact hU2.size
  have U2 : Hid (Upd (fun _ => False) w w2) := Lib.hid (U1.out.trans hU2)
  have HB1 := Lib.hid hB1
  have hB1' := hB1.1
  have hB2 := hB1.2
  have HSet := Lib.hid (setC w2 g (T - B) _ _ hS2 (fun k hk => Nat.lt_of_lt_of_le hk hg2) 7 T)
  have hE : setE (T - B) 7 T = 0 := by unfold setE; rw [if_pos (by omega), if_pos (by omega)]
  have hA : setA (T - B) (fun _ => -1) 7 T = atT T := by unfold setA; rw [if_pos hE]; rfl
  rw [hE, hA] at HSet
  clear hS0 hn0 hS2 hU2 hg hg2 hE hA hB hB1 h1 h2 U1
  go_wp2_with fail
  refine HSet.out.mono ?_
  rintro e w3 ⟨rfl, hS3, hU3⟩
  have S3 := Lib.hid hS3
  have U3 : Hid (Upd (fun k => ¬ k < g) w w3) := Lib.hid ((U2.out.mono (fun _ _ h => h.elim)).trans hU3)
  clear hS3 hU3
  go_wp2_with fail
  go_loopw [7] (fun v7 wr => ∃ (i : Nat), 1 ≤ i ∧ i ≤ B ∧ v7 = .int .i64 i ∧ WhS wr g (T - B + (i - 1)) (atT T) (fun k => k < g) ∧ Upd (fun k => ¬ k < g) w wr) (fun v7 _ => B - (intOf v7).toNat)
  case atStart => exact ⟨1, Nat.le_refl _, hB1', rfl, S3.out, U3.out⟩
  case round =>
    obtain ⟨i, hi1, hi, rfl, hS, hU⟩ := hrel
    have S4 := Lib.hid hS; have U4 := Lib.hid hU
    have hgw : g ≤ wr.heap.size := Nat.le_of_lt (by obtain ⟨V, sl, n, h1, _⟩ := hS; exact h1.b.lt)
    have HGW := Lib.hid hgw
    have HGo := Lib.hid (goC wr g _ (atT T) _ hS (fun k hk => Nat.lt_of_lt_of_le hk hgw))
    clear hS hU
    by_cases hlt : i < B
    · obtain ⟨e1, e2, e3⟩ := atT_go T (T - B + (i - 1)) (by have := HB1.out; omega) hT2
      rw [e1, e2, e3] at HGo
      have HN : Hid (T - B + (i - 1) + 1 = T - B + (i + 1 - 1)) := Lib.hid (by omega)
      rw [HN.out] at HGo
      have dl : decide ((i : Int) < (B : Int)) = true := decide_eq_true (by omega)
      clear e1 e2 e3 hgw
      go_wp2_with fail
      refine HGo.out.mono ?_
      rintro e w5 ⟨v, rfl, hv, hS5, hU5⟩
      obtain ⟨A, c, rfl⟩ := hv.shape
      have S5 := Lib.hid (hS5.less (N' := fun k => k < g) (fun k hk => .inl hk))
      have U5 := Lib.hid (U4.out.trans hU5)
      clear hv hS5 hU5
      go_wp2_with fail
      go_roundw
      case rel => exact ⟨i + 1, by omega, by omega, by go_num, S5.out, U5.out⟩
      case measure => simp [intOf]; omega
    · have hie : i = B := by omega
      subst hie
      obtain ⟨e1, e3⟩ := atT_end T (T - i + (i - 1)) (by have := HB1.out; omega) hT2
      rw [e1, e3] at HGo
      clear e1 e3 hgw hi
      go_wp2_with fail
      refine HGo.out.mono ?_
      rintro e w5 ⟨v, rfl, hv, hS5, hU5⟩
      obtain ⟨b, o, c, rfl, _, hbl, _, _⟩ := hv.form (by decide)
      have U5 := Lib.hid (U4.out.trans hU5)
      have HGW5 : Hid (g ≤ w5.heap.size) := Lib.hid (Nat.le_trans HGW.out hU5.size)
      have HV := Lib.hid hv
      have HBL := Lib.hid hbl
      clear hv hS5 hU5 hbl
      go_wp2_with fail
      refine (newC w5 4611686018427387904).mono ?_
      rintro e w6 ⟨rfl, hS6, hU6⟩
      have hn6 : (min (max (4611686018427387904 : Int) 0) 4611686018427387904).toNat = 4611686018427387904 := rfl
      rw [hn6] at hS6
      obtain ⟨g2, hg2⟩ : ∃ g2, w5.heap.size = g2 := ⟨_, rfl⟩
      rw [hg2] at hS6 ⊢
      have HBL2 : Hid (b < g2) := Lib.hid (by rw [← hg2]; exact HBL.out)
      have HV6 := Lib.hid (HV.out.still hU6)
      have U6 := Lib.hid (U5.out.trans (hU6.mono (fun _ _ h => h.elim)))
      have S6 := Lib.hid hS6
      have hgl : g ≤ g2 := by rw [← hg2]; exact HGW5.out
      have HGL := Lib.hid hgl
      have c6 : w6.cell? ⟨b, o, none⟩ = some (.int .i64 7) := by
        have := HV6.out.cell encN_len 0 7 rfl 0 _ rfl
        rw [Nat.zero_mul, Nat.add_zero] at this
        exact this
      have hgw6 : g2 ≤ w6.heap.size := by rw [← hg2]; exact hU6.size
      have HG2 := Lib.hid hgw6
      clear hS6 hU6 hn6 hg2 hgl hgw6
      go_wp2_with fail
      refine (numW _ 0).mono ?_
      rintro e w7 ⟨rfl, k7, rfl⟩
      have HGo2 := Lib.hid (goC (w6.drewN k7) g2 4611686018427387904 (fun _ => -1) _ (S6.out.drewN k7) (fun k hk => Nat.lt_of_lt_of_le hk HG2.out))
      have f1 : goLs 4611686018427387904 (fun _ => -1) = [] := by unfold goLs; rw [if_pos rfl]
      have f2 : goNow 4611686018427387904 = 4611686018427387904 := by unfold goNow; rw [if_pos rfl]
      have f3 : goAt 4611686018427387904 (fun _ => -1) = fun _ => -1 := by unfold goAt; rw [if_pos rfl]
      rw [f1, f2, f3] at HGo2
      clear f1 f2 f3
      go_wp2_with fail
      refine HGo2.out.mono ?_
      rintro e w8 ⟨v8, rfl, hv8, hS8, hU8⟩
      obtain ⟨A8, c8, rfl⟩ := hv8.shape
      have S8 := Lib.hid (hS8.less (N' := fun k => k < g2) (fun k hk => .inl hk))
      have U8 := Lib.hid ((U6.out.drewN k7).trans (hU8.mono (fun k _ h e => h (by have := HGL.out; omega))))
      have HG8 : Hid (g2 ≤ w8.heap.size) := Lib.hid (Nat.le_trans HG2.out hU8.size)
      clear hv8 hS8 hU8
      go_wp2_with fail
      refine (nowS _ g2 _ _ _ S8.out).mono ?_
      rintro e w9 ⟨rfl, k9, rfl⟩
      have HSet2 := Lib.hid (setC (w8.drewN k9) g2 4611686018427387904 _ _ (S8.out.drewN k9) (fun k hk => Nat.lt_of_lt_of_le hk HG8.out) 1 4611686018427387904)
      have f4 : setE 4611686018427387904 1 4611686018427387904 = 2 := rfl
      rw [f4] at HSet2
      clear f4
      go_wp2_with fail
      refine HSet2.out.mono ?_
      rintro e w10 ⟨rfl, hS10, hU10⟩
      have U10 := Lib.hid ((U8.out.drewN k9).trans (hU10.mono (fun k _ h e => h (by have := HGL.out; omega))))
      clear hS10 hU10
      go_wp2_with fail
      refine (numW _ 2).mono ?_
      rintro e w11 ⟨rfl, k11, rfl⟩
      go_wp2_with fail
      go_returns
      exact ⟨rfl, (U10.out.drewN _).mono (fun k hk h => h (by have := HG.out; omega))⟩

theorem wheelFar_out (w : World) (t x : Int) (h : t < 1000 ∨ 4611686018427387904 < t) : Calls Try.prog 5 #[.int .i64 t, .int .i64 x] w fun e w' => e = .returned (.bool true) ∧ Upd (fun _ => False) w w' := by
  by_cases h1 : t < 1000
  · have d1 : decide (t < 1000) = true := decide_eq_true h1
    clear h h1
    go_enter Try.func5, Try.ntmps5
    go_wp2_with fail
    refine (knowsW w).mono ?_
    rintro e w1 ⟨rfl, hU1⟩
    go_wp2_with fail
    go_returns
    exact ⟨rfl, hU1⟩
  · have d1 : decide (t < 1000) = false := decide_eq_false h1
    have d2 : decide ((4611686018427387904 : Int) < t) = true := decide_eq_true (by omega)
    clear h h1
    go_enter Try.func5, Try.ntmps5
    go_wp2_with fail
    refine (knowsW w).mono ?_
    rintro e w1 ⟨rfl, hU1⟩
    go_wp2_with fail
    go_returns
    exact ⟨rfl, hU1⟩
theorem wheelFar_any (w : World) (t : Int) (_ : (Lit.int .i64 t).wf = true) (x : Int) (_ : (Lit.int .i64 x).wf = true) : Calls Try.prog 5 #[.int .i64 t, .int .i64 x] w fun e w' => e = .returned (.bool true) ∧ Below w.heap.size w w' := by
  have key : Calls Try.prog 5 #[.int .i64 t, .int .i64 x] w fun e w' => e = .returned (.bool true) ∧ Upd (fun _ => False) w w' := by
    by_cases h : t < 1000 ∨ 4611686018427387904 < t
    · exact wheelFar_out w t x h
    · obtain ⟨T, rfl⟩ : ∃ T : Nat, t = T := ⟨t.toNat, by omega⟩
      exact wheelFar_main w T (by omega) x
  exact key.mono (fun _ _ ⟨h1, h2⟩ => ⟨h1, h2.below (Nat.le_refl _) (fun _ h => h.elim)⟩)
end Go.Proofs.Ytcljgejalacccaa
