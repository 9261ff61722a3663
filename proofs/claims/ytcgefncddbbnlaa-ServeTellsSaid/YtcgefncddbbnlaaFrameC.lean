/-
  The walks of frame.Table: Count.
-/
import Derived.Test.YtcgefncddbbnlaaFrameB
import Derived.Deep.CutBlock
namespace Go.Proofs.Ytcgefncddbbnlaa.Fr
open Go.RowKit
attribute [local go_sem] max_ints min_ints

theorem drw3 (w : World) (a b c : Nat) : ∃ k, ((w.drewN a).drewN b).drewN c = w.drewN k := ⟨a + (b + c), by rw [World.drewN_drewN, World.drewN_drewN]⟩
theorem cntF_part {F M : Int} {ws : List W3} (h : fitsB F 0 ws = true) (p : Int) (hp : ¬ (0 ≤ p ∧ p < 6)) (G f : Int) : ∀ i, cntF M ws p G f i = 0
  | 0 => rfl
  | i + 1 => by rw [cntF, cntF_part h p hp G f i, isO_part h p _ hp]; rfl
theorem count_sum (M : Int) (ws : List W3) (p : Int) (F m a q r : Nat) (f : Int) (hF : 0 < F) (ha : f % (F : Int) = a) (hq : m / F = q) (hr : m % F = r) :
    cntF M ws p F f m = q * cntO M ws p F + (if a + r ≤ F then cntO M ws p (a + r) - cntO M ws p a else cntO M ws p F - cntO M ws p a + cntO M ws p (a + r - F)) := by
  have e : m = q * F + r := by rw [← hq, ← hr, Nat.mul_comm]; exact (Nat.div_add_mod m F).symm
  have hlt : a < F := by have := Int.emod_lt_of_pos f (show (0 : Int) < (F : Int) by omega); omega
  have hrF : r < F := by rw [← hr]; exact Nat.mod_lt _ hF
  rw [e, cntF_frames M ws p F hF, ← cntF_mod M ws p F f r, ha, cntF_turn M ws p F a r hF hlt (by omega)]

theorem offeredTc (w : World) (base g F : Nat) (M : Int) (ws : List W3) (h : TabS w base g F M ws) (p : Int) (c : Int) (hc : cntO M ws p F = c) :
    Calls Try.prog 41 #[.pointer (some ⟨g, 0, none⟩), .int .i64 p] w fun e w' => e = .returned (.int .i64 c) ∧ ∃ k, w' = w.drewN k := by
  subst hc
  exact offeredT w base g F M ws h p

set_option maxRecDepth 100000 in
set_option maxHeartbeats 3200000 in
theorem countT (w : World) (base g F : Nat) (M : Int) (ws : List W3) (h : TabS w base g F M ws) (p f n : Int) (m : Nat) (hm : min (max n 0) 4611686018427387904 = (m : Int)) :
    Calls Try.prog 19 #[.pointer (some ⟨g, 0, none⟩), .int .i64 p, .int .i64 f, .int .i64 n] w fun e w' => e = .returned (.int .i64 (cntF M ws p F f m)) ∧ ∃ k, w' = w.drewN k := by
  have hr := h.right
  have HM := Lib.hid hm
  have hm62 : (m : Int) ≤ 4611686018427387904 := by omega
  clear hm
  by_cases hp : 0 ≤ p ∧ p < 6
  · obtain ⟨pn, rfl⟩ : ∃ pn : Nat, p = pn := ⟨p.toNat, by omega⟩
    have hp6 : pn < 6 := by omega
    have HP : Hid (decide (0 ≤ (pn : Int) ∧ (pn : Int) < 6) = true) := Lib.hid (decide_eq_true hp)
    have hF1 := hr.1
    have hF2 := hr.2.1
    obtain ⟨a, ha⟩ : ∃ a : Nat, f % (F : Int) = a := ⟨(f % (F : Int)).toNat, by have := Int.emod_nonneg f (show (F : Int) ≠ 0 by omega); omega⟩
    have haF : a < F := by have := Int.emod_lt_of_pos f (show (0 : Int) < (F : Int) by omega); omega
    have HA := Lib.hid ha
    obtain ⟨q, hq⟩ : ∃ q, m / F = q := ⟨_, rfl⟩
    obtain ⟨r, hrr⟩ : ∃ r, m % F = r := ⟨_, rfl⟩
    have hrF : r < F := by rw [← hrr]; exact Nat.mod_lt _ hF1
    have HSUM := Lib.hid (count_sum M ws pn F m a q r f hF1 ha hq hrr)
    have HQ : Hid ((m : Int) / (F : Int) = (q : Int)) := Lib.hid (by rw [← hq]; simp)
    have HRR : Hid ((m : Int) % (F : Int) = (r : Int)) := Lib.hid (by rw [← hrr]; simp)
    have hqF : q * F ≤ m := by rw [← hq]; exact Nat.div_mul_le_self _ _
    clear ha hq hrr
    have hcF := cntO_le M ws pn F
    obtain ⟨cF, hcFe⟩ : ∃ cF, cntO M ws pn F = cF := ⟨_, rfl⟩
    rw [hcFe] at hcF HSUM
    have hqc0 : 0 ≤ (q : Int) * cF := Int.mul_nonneg (by omega) hcF.1
    have hqc1 : (q : Int) * cF ≤ 4611686018427387904 := by
      have h1 : (q : Int) * cF ≤ (q : Int) * F := Int.mul_le_mul_of_nonneg_left hcF.2 (by omega)
      have h2 : ((q * F : Nat) : Int) ≤ (m : Int) := by exact_mod_cast hqF
      rw [Int.natCast_mul] at h2
      omega
    have HCF := Lib.hid hcFe
    clear hcFe
    obtain ⟨L, A, h1⟩ := id h
    obtain ⟨b, off, cap, ca, hb, hcell⟩ := h1.ahead pn hp6
    have c2 : w.cell? ⟨g, 2, none⟩ = some (.int .i64 F) := h1.b.cell 2
    have HCELL := Lib.hid hcell
    have hpI : (0 : Int) ≤ (pn : Int) := by omega
    have hpI6 : (pn : Int) < 6 := by omega
    have H := Lib.hid h
    have CA := Lib.hid ca
    have tF : ¬ (F = 0) := by omega
    clear h h1 hr hp hcell
    go_enter Try.func19, Try.ntmps19
    go_wp2_with fail
    refine (knownT _ base g F M ws H.out pn true HP.out).mono ?_
    rintro e w1 ⟨rfl, k1, rfl⟩
    go_upto_region 4 with fail
    rw [HM.out]
    go_wp2_with fail
    refine (modN _ f F (by omega) (by omega)).mono ?_
    rintro e w1 ⟨rfl, k2, rfl⟩
    rw [HA.out]
    go_wp2_with fail
    have e5 : wrap64 ((a : Int) + (m : Int) % (F : Int)) = ((a + r : Nat) : Int) := by rw [HRR.out]; unfold wrap64; omega
    rw [e5]
    clear e5
    have H2 := Lib.hid (H.out.drewN (k1 + k2))
    have CA2 : Hid ((w.drewN (k1 + k2)).cell? ⟨g, 3 + pn, none⟩ = some (.slice (some ⟨b, off, none⟩) (F + 1) cap)) := Lib.hid CA.out
    have CC2 : Hid (∀ i, i ≤ F → (w.drewN (k1 + k2)).cell? ⟨b, off + i, none⟩ = some (.int .i64 (cntO M ws pn i))) := Lib.hid HCELL.out
    have c2' : (w.drewN (k1 + k2)).cell? ⟨g, 2, none⟩ = some (.int .i64 F) := c2
    have HW : Hid (∃ k, w.drewN (k1 + k2) = w.drewN k) := Lib.hid ⟨_, rfl⟩
    clear c2 ca H CA HCELL
    generalize w.drewN (k1 + k2) = W at *
    have td : (m : Int).tdiv (F : Int) = (q : Int) := by rw [Int.tdiv_eq_ediv_of_nonneg (by omega)]; exact HQ.out
    have hmul := wrap_in ((q : Int) * cF) (by omega) (by omega)
    go_quiet ((go_at_call 41; exact Calls.quiet_of (offeredTc _ base g F M ws (H2.out.drewN _) pn cF HCF.out)))
    clear td hmul
    have eS : wrap64 (wrap64 (q : Int) * cF) = (q : Int) * cF := by
      have hq0 : wrap64 (q : Int) = q := by
        have : (q : Int) ≤ m := by
          have h1 : q * 1 ≤ q * F := Nat.mul_le_mul_left q (by omega)
          omega
        unfold wrap64; omega
      rw [hq0]; unfold wrap64; omega
    rw [eS]
    clear eS
    obtain ⟨S0, hS0⟩ : ∃ S0, (q : Int) * cF = S0 := ⟨_, rfl⟩
    rw [hS0] at hqc0 hqc1 HSUM ⊢
    clear hS0
    have ca2 := CA2.out
    have cbA := CC2.out a (by omega)
    have hcA := cntO_le M ws pn a
    obtain ⟨cA, hcAe⟩ : ∃ cA, cntO M ws pn a = cA := ⟨_, rfl⟩
    rw [hcAe] at hcA HSUM cbA
    clear hcAe
    by_cases hle : a + r ≤ F
    · have dle : decide ((F : Int) < ((a + r : Nat) : Int)) = false := decide_eq_false (by omega)
      rw [if_pos hle] at HSUM
      have cbB := CC2.out (a + r) hle
      have hcB := cntO_le M ws pn (a + r)
      obtain ⟨cB, hcBe⟩ : ∃ cB, cntO M ws pn (a + r) = cB := ⟨_, rfl⟩
      rw [hcBe] at hcB HSUM cbB
      clear hcBe HM HP HA HQ HRR HCF CA2 CC2
      obtain ⟨br, hbr⟩ : ∃ br : Nat, a + r = br := ⟨_, rfl⟩
      rw [hbr] at dle cbB hcB hle ⊢
      clear hbr
      have hA0 := hcA.1; have hA1 := hcA.2; have hB0 := hcB.1; have hB1 := hcB.2
      clear hcA hcB hcF
      go_wp2_with fail
      have w1 := wrap_in (S0 + cB) (by omega) (by omega)
      have w2 := wrap_in (S0 + cB - cA) (by omega) (by omega)
      go_quiet (fail)
      clear w1 w2
      go_wp2_with fail
      go_returns
      obtain ⟨kk, rfl⟩ := HW.out
      exact ⟨ret_int (by rw [HSUM.out]; omega), drw3 ..⟩
    · have dle : decide ((F : Int) < ((a + r : Nat) : Int)) = true := decide_eq_true (by omega)
      rw [if_neg hle] at HSUM
      have cbD := CC2.out (a + r - F) (by omega)
      have cbF := CC2.out F (Nat.le_refl _)
      have hcD := cntO_le M ws pn (a + r - F)
      obtain ⟨cD, hcDe⟩ : ∃ cD, cntO M ws pn (a + r - F) = cD := ⟨_, rfl⟩
      rw [hcDe] at hcD HSUM cbD
      rw [HCF.out] at cbF
      clear hcDe HM HP HA HQ HRR HCF CA2 CC2
      obtain ⟨d, hd⟩ : ∃ d : Nat, a + r - F = d := ⟨_, rfl⟩
      have hbr : a + r = F + d := by omega
      rw [hd] at cbD hcD
      obtain ⟨br, hbre⟩ : ∃ br : Nat, a + r = br := ⟨_, rfl⟩
      rw [hbre] at hbr dle ⊢
      have hdF : d < F := by omega
      have hbn : F < br := by omega
      have dbn : decide (F < br) = true := decide_eq_true hbn
      clear hbre hd hle
      have w0 : IntKind.i64.wrap ((br : Int) - (F : Int)) = (d : Int) := by rw [wrap_in _ (by omega) (by omega)]; omega
      clear hbr
      have hA0 := hcA.1; have hA1 := hcA.2; have hD0 := hcD.1; have hD1 := hcD.2; have hF0 := hcF.1; have hF9 := hcF.2
      clear hcA hcD hcF
      go_wp2_with fail
      have w1 := wrap_in (S0 + cD) (by omega) (by omega)
      go_quiet (fail)
      clear w0 w1
      go_wp2_with fail
      have w1 := wrap_in (S0 + cD + cF) (by omega) (by omega)
      have w2 := wrap_in (S0 + cD + cF - cA) (by omega) (by omega)
      go_quiet (fail)
      clear w1 w2
      go_wp2_with fail
      go_returns
      obtain ⟨kk, rfl⟩ := HW.out
      exact ⟨ret_int (by rw [HSUM.out]; omega), drw3 ..⟩
  · have HP : Hid (decide (0 ≤ p ∧ p < 6) = false) := Lib.hid (decide_eq_false hp)
    have h0 := cntF_part (M := M) hr.2.2.2.2.2 p hp F f m
    rw [h0]
    have H := Lib.hid h
    clear h hr hp h0
    go_enter Try.func19, Try.ntmps19
    go_wp2_with fail
    refine (knownT _ base g F M ws H.out p false HP.out).mono ?_
    rintro e w1 ⟨rfl, k1, rfl⟩
    go_wp2_with fail
    go_returns
    exact ⟨rfl, k1, rfl⟩
end Go.Proofs.Ytcgefncddbbnlaa.Fr
