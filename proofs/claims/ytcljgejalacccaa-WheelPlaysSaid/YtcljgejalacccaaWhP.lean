/-
  The wheel: the plain law of its places. No program in sight.
-/
import Derived.Test.YtcljgejalacccaaLib
namespace Go.Proofs.Ytcljgejalacccaa

/-! ### The level and the slot of a tick -/
def levF (a t : Nat) : Nat → Nat → Nat
  | 0, L => L
  | n + 1, L => if t / 16 ^ (L + 1) = a / 16 ^ (L + 1) then L else levF a t n (L + 1)
def lev (a t : Nat) : Nat := levF a t 15 0
def dig (t L : Nat) : Nat := t / 16 ^ L % 16
def plc (a t : Nat) : Nat := lev a t * 16 + dig t (lev a t)
theorem dig_lt (t L : Nat) : dig t L < 16 := Nat.mod_lt _ (by decide)

theorem levF_spec (a t : Nat) : ∀ (n L : Nat), L ≤ levF a t n L ∧ levF a t n L ≤ L + n ∧ (∀ M, L ≤ M → M < levF a t n L → t / 16 ^ (M + 1) ≠ a / 16 ^ (M + 1)) ∧ (levF a t n L < L + n → t / 16 ^ (levF a t n L + 1) = a / 16 ^ (levF a t n L + 1))
  | 0, L => by
    refine ⟨Nat.le_refl _, Nat.le_refl _, fun M h1 h2 => ?_, fun h => ?_⟩ <;> simp only [levF] at * <;> omega
  | n + 1, L => by
    unfold levF
    split
    · rename_i h
      exact ⟨Nat.le_refl _, by omega, fun M h1 h2 => by omega, fun _ => h⟩
    · rename_i h
      obtain ⟨h1, h2, h3, h4⟩ := levF_spec a t n (L + 1)
      refine ⟨by omega, by omega, fun M g1 g2 => ?_, fun g => h4 (by omega)⟩
      rcases Nat.eq_or_lt_of_le g1 with e | g1
      · subst e; exact h
      · exact h3 M g1 g2
theorem lev_le (a t : Nat) : lev a t ≤ 15 := by have := (levF_spec a t 15 0).2.1; unfold lev; omega
theorem lev_below (a t M : Nat) (h : M < lev a t) : t / 16 ^ (M + 1) ≠ a / 16 ^ (M + 1) := (levF_spec a t 15 0).2.2.1 M (Nat.zero_le _) h
theorem lev_at (a t : Nat) (h : lev a t < 15) : t / 16 ^ (lev a t + 1) = a / 16 ^ (lev a t + 1) := (levF_spec a t 15 0).2.2.2 (by unfold lev at h; omega)
theorem lev_is (a t L : Nat) (h0 : L ≤ 15) (h1 : ∀ M, M < L → t / 16 ^ (M + 1) ≠ a / 16 ^ (M + 1)) (h2 : L < 15 → t / 16 ^ (L + 1) = a / 16 ^ (L + 1)) : lev a t = L := by
  rcases Nat.lt_trichotomy (lev a t) L with h | h | h
  · exact absurd (lev_at a t (by omega)) (h1 _ h)
  · exact h
  · exact absurd (h2 (by have := lev_le a t; omega)) (lev_below a t L h)
theorem plc_lt (a t : Nat) : plc a t < 256 := by have := lev_le a t; have := dig_lt t (lev a t); unfold plc; omega

/-- Alike at a digit, alike above. -/
theorem quo_up {x y M K : Nat} (hMK : M ≤ K) (h : x / 16 ^ M = y / 16 ^ M) : x / 16 ^ K = y / 16 ^ K := by
  obtain ⟨d, rfl⟩ := Nat.exists_eq_add_of_le hMK
  rw [Nat.pow_add, ← Nat.div_div_eq_div_mul, ← Nat.div_div_eq_div_mul, h]
theorem quo_dig (x M : Nat) : x / 16 ^ M = x / 16 ^ (M + 1) * 16 + dig x M := by
  unfold dig
  rw [Nat.pow_succ, ← Nat.div_div_eq_div_mul]
  omega
theorem small16 {x : Nat} (h : x ≤ 4611686018427387904) : x / 16 ^ 16 = 0 := Nat.div_eq_of_lt (by omega)
theorem lev_top (a t : Nat) (ha : a ≤ 4611686018427387904) (ht : t ≤ 4611686018427387904) : t / 16 ^ (lev a t + 1) = a / 16 ^ (lev a t + 1) := by
  rcases Nat.lt_or_ge (lev a t) 15 with h | h
  · exact lev_at a t h
  · have : lev a t = 15 := by have := lev_le a t; omega
    rw [this, small16 ha, small16 ht]

/-! ### The highest level that turns -/
def hiF (b : Nat) : Nat → Nat → Nat
  | 0, h => h
  | n + 1, h => if dig b h = 0 then hiF b n (h + 1) else h
def hi (b : Nat) : Nat := hiF b 15 0
theorem hiF_spec (b : Nat) : ∀ (n h : Nat), h ≤ hiF b n h ∧ hiF b n h ≤ h + n ∧ (∀ M, h ≤ M → M < hiF b n h → dig b M = 0) ∧ (hiF b n h < h + n → dig b (hiF b n h) ≠ 0)
  | 0, h => by
    refine ⟨Nat.le_refl _, Nat.le_refl _, fun M h1 h2 => ?_, fun h => ?_⟩ <;> simp only [hiF] at * <;> omega
  | n + 1, h => by
    unfold hiF
    split
    · rename_i h0
      obtain ⟨h1, h2, h3, h4⟩ := hiF_spec b n (h + 1)
      refine ⟨by omega, by omega, fun M g1 g2 => ?_, fun g => h4 (by omega)⟩
      rcases Nat.eq_or_lt_of_le g1 with e | g1
      · subst e; exact h0
      · exact h3 M g1 g2
    · rename_i h0
      exact ⟨Nat.le_refl _, by omega, fun M h1 h2 => by omega, fun _ => h0⟩
theorem hi_le (b : Nat) : hi b ≤ 15 := by have := (hiF_spec b 15 0).2.1; unfold hi; omega
theorem hi_below (b M : Nat) (h : M < hi b) : dig b M = 0 := (hiF_spec b 15 0).2.2.1 M (Nat.zero_le _) h
theorem hi_at (b : Nat) (h : hi b < 15) : dig b (hi b) ≠ 0 := (hiF_spec b 15 0).2.2.2 (by unfold hi at h; omega)
theorem hi_div (b : Nat) : ∀ M, M ≤ hi b → b % 16 ^ M = 0
  | 0, _ => by simp [Nat.mod_one]
  | M + 1, h => by
    have h1 := hi_div b M (by omega)
    have h2 := hi_below b M (by omega)
    unfold dig at h2
    have h3 : b = 16 ^ M * (b / 16 ^ M) := by have := Nat.div_add_mod b (16 ^ M); omega
    have h4 : b / 16 ^ M = 16 * (b / 16 ^ M / 16) := by omega
    rw [h3, h4, ← Nat.mul_assoc, ← Nat.pow_succ]
    exact Nat.mul_mod_right _ _

theorem pred_div_of_dvd {a p : Nat} (_ : 0 < p) (h : (a + 1) % p = 0) : a / p + 1 = (a + 1) / p := by
  have h1 := Nat.div_add_mod (a + 1) p
  rw [h, Nat.add_zero] at h1
  rw [Nat.succ_div_of_dvd (Nat.dvd_of_mod_eq_zero h)]
theorem pred_div_of_not {a p : Nat} (h : (a + 1) % p ≠ 0) : (a + 1) / p = a / p := Nat.succ_div_of_not_dvd (fun hd => h (Nat.mod_eq_zero_of_dvd hd))

/-- Below the highest level that turns all digits turn; from it on none does. -/
theorem step_below (a M : Nat) (h : M < hi (a + 1)) : a / 16 ^ (M + 1) + 1 = (a + 1) / 16 ^ (M + 1) := pred_div_of_dvd (p := 16 ^ (M + 1)) (Nat.pow_pos (by decide : 0 < 16)) (hi_div _ _ h)
theorem step_from (a M : Nat) (ha : a + 1 ≤ 4611686018427387904) (h : hi (a + 1) ≤ M) : (a + 1) / 16 ^ (M + 1) = a / 16 ^ (M + 1) := by
  refine quo_up (M := hi (a + 1) + 1) (by omega) ?_
  rcases Nat.lt_or_ge (hi (a + 1)) 15 with hh | hh
  · refine pred_div_of_not (fun e => hi_at _ hh ?_)
    unfold dig
    have h3 : a + 1 = 16 ^ (hi (a + 1) + 1) * ((a + 1) / 16 ^ (hi (a + 1) + 1)) := by have := Nat.div_add_mod (a + 1) (16 ^ (hi (a + 1) + 1)); omega
    have h4 : (a + 1) / 16 ^ hi (a + 1) = 16 * ((a + 1) / 16 ^ (hi (a + 1) + 1)) := by
      have h5 : 16 ^ (hi (a + 1) + 1) * ((a + 1) / 16 ^ (hi (a + 1) + 1)) = 16 ^ hi (a + 1) * (16 * ((a + 1) / 16 ^ (hi (a + 1) + 1))) := by rw [Nat.pow_succ, Nat.mul_assoc]
      exact Nat.div_eq_of_eq_mul_right (Nat.pow_pos (by decide : 0 < 16)) (h3.trans h5)
    rw [h4]; omega
  · have : hi (a + 1) = 15 := by have := hi_le (a + 1); omega
    rw [this, small16 ha, small16 (by omega)]

/-- The place of the next tick: the highest slot that turns. -/
theorem plc_next (a : Nat) (ha : a + 1 ≤ 4611686018427387904) : plc a (a + 1) = hi (a + 1) * 16 + dig (a + 1) (hi (a + 1)) := by
  have : lev a (a + 1) = hi (a + 1) := lev_is _ _ _ (hi_le _) (fun M h => by have := step_below a M h; omega) (fun _ => step_from a _ ha (Nat.le_refl _))
  unfold plc
  rw [this]
/-- No later tick lies below it. -/
theorem lev_ge (a t : Nat) (ha : a + 1 ≤ 4611686018427387904) (ht : t ≤ 4611686018427387904) (h : a < t) : hi (a + 1) ≤ lev a t := by
  rcases Nat.lt_or_ge (lev a t) (hi (a + 1)) with hl | hl
  · have h1 := lev_top a t (by omega) ht
    have h2 := step_below a _ hl
    have h3 : (a + 1) / 16 ^ (lev a t + 1) ≤ t / 16 ^ (lev a t + 1) := Nat.div_le_div_right h
    omega
  · exact hl
/-- What isn't in that slot stays where it is. -/
theorem plc_stay (a t : Nat) (ht : t ≤ 4611686018427387904) (h : a + 1 < t) (hn : plc a t ≠ hi (a + 1) * 16 + dig (a + 1) (hi (a + 1))) : plc (a + 1) t = plc a t := by
  have ha : a + 1 ≤ 4611686018427387904 := by omega
  have hL := lev_ge a t ha ht (by omega)
  have hT := lev_top a t (by omega) ht
  have : lev (a + 1) t = lev a t := by
    refine lev_is _ _ _ (lev_le _ _) (fun M hM => ?_) (fun _ => by rw [hT, step_from a _ ha hL])
    rcases Nat.lt_or_ge M (hi (a + 1)) with hMh | hMh
    · intro e
      rcases Nat.eq_or_lt_of_le hL with eL | lL
      · have e1 : t / 16 ^ hi (a + 1) = (a + 1) / 16 ^ hi (a + 1) := quo_up (by omega) e
        refine hn ?_
        unfold plc dig
        rw [← eL, e1]
      · have e1 : t / 16 ^ (hi (a + 1) + 1) = (a + 1) / 16 ^ (hi (a + 1) + 1) := quo_up (by omega) e
        exact lev_below a t _ lL (by rw [e1, step_from a _ ha (Nat.le_refl _)])
    · rw [step_from a M ha hMh]
      exact lev_below a t M hM
  unfold plc
  rw [this]
/-- A later tick's digit is never now's. -/
theorem dig_ne (b t : Nat) (hb : b ≤ 4611686018427387904) (ht : t ≤ 4611686018427387904) (h : b < t) : dig t (lev b t) ≠ dig b (lev b t) := by
  intro e
  have h1 := lev_top b t hb ht
  have h2 : t / 16 ^ lev b t = b / 16 ^ lev b t := by rw [quo_dig t, quo_dig b, h1, e]
  rcases Nat.eq_zero_or_pos (lev b t) with h0 | h0
  · rw [h0] at h2; simp at h2; omega
  · obtain ⟨M, hM⟩ : ∃ M, lev b t = M + 1 := ⟨lev b t - 1, by omega⟩
    exact lev_below b t M (by omega) (by rw [← hM]; exact h2)
theorem plc_ne (b t M : Nat) (hb : b ≤ 4611686018427387904) (ht : t ≤ 4611686018427387904) (h : b < t) : plc b t ≠ M * 16 + dig b M := by
  intro e
  unfold plc at e
  have h1 := dig_lt t (lev b t); have h2 := dig_lt b M
  have e1 : lev b t = M := by omega
  have e2 : dig t (lev b t) = dig b M := by omega
  rw [← e1] at e2
  exact dig_ne b t hb ht h e2
/-- The lower slots that turn are empty. -/
theorem plc_low (a t M : Nat) (ha : a + 1 ≤ 4611686018427387904) (ht : t ≤ 4611686018427387904) (h : a < t) (hM : M < hi (a + 1)) : plc a t ≠ M * 16 + dig (a + 1) M := by
  intro e
  have := lev_ge a t ha ht h
  have h1 := dig_lt t (lev a t); have h2 := dig_lt (a + 1) M
  unfold plc at e
  omega
end Go.Proofs.Ytcljgejalacccaa
