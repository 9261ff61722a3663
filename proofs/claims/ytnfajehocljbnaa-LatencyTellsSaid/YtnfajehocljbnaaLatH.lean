/-
  The walk of the document's Done (layer 38).
-/
import Derived.Test.YtnfajehocljbnaaLatQ
import Derived.Test.YtnfajehocljbnaaRefNew
namespace Go.Proofs.Ytnfajehocljbnaa
open Go.RowKit
attribute [local go_sem] max_ints min_ints

section
variable {M : Int} {ws : List W3} {p : Int} {F : Nat}
theorem IsD.frames (hF : 0 < F) {f : Int} {q r d : Nat} (h : IsD M ws p F (f + (q * F : Nat)) r d) (hr : 0 < r) (o : Int) (ho : cntO M ws p F = o) : IsD M ws p F f ((q : Int) * o + r) (q * F + d) := by
  subst ho
  have hm : ∀ i, cntF M ws p F (f + (q * F : Nat)) i = cntF M ws p F f i := fun i => by
    rw [← cntF_mod M ws p F (f + (q * F : Nat)) i, ← cntF_mod M ws p F f i]
    congr 1
    rw [Int.natCast_mul, Int.add_mul_emod_self_right]
  refine ⟨by rw [cntF_frames M ws p F hF]; have := h.1; rw [hm] at this; omega, fun i hi => ?_⟩
  rcases Nat.lt_or_ge i (q * F) with h1 | h1
  · have h2 := cntF_mono (M := M) (ws := ws) (p := p) (F := F) f i (q * F - i)
    rw [show i + (q * F - i) = q * F by omega] at h2
    have h3 := cntF_frames M ws p F hF f q 0
    have h0 : cntF M ws p F f 0 = 0 := rfl
    rw [Nat.add_zero, h0] at h3
    omega
  · have h2 := h.2 (i - q * F) (by omega)
    rw [hm] at h2
    have h3 := cntF_frames M ws p F hF f q (i - q * F)
    rw [show q * F + (i - q * F) = i by omega] at h3
    omega
theorem IsD.whole (hF : 0 < F) {f : Int} {q s : Nat} (hq : 0 < q) (hs : s < q * F) (h1 : isO M ws p ((f + (q * F : Nat) - 1 - s) % F) = true) (h2 : ∀ u : Nat, u < s → isO M ws p ((f + (q * F : Nat) - 1 - u) % F) = false) (o : Int) (ho : cntO M ws p F = o) : IsD M ws p F f ((q : Int) * o) (q * F - s) := by
  subst ho
  have hall := cntF_frames M ws p F hF f q 0
  have h0 : cntF M ws p F f 0 = 0 := rfl
  rw [Nat.add_zero, h0] at hall
  have key : ∀ t : Nat, t ≤ s → cntF M ws p F f (q * F - t) = q * cntO M ws p F := by
    intro t
    induction t with
    | zero => intro _; rw [Nat.sub_zero]; omega
    | succ t ih =>
      intro ht
      have h3 := ih (by omega)
      have h4 : cntF M ws p F f (q * F - (t + 1) + 1) = cntF M ws p F f (q * F - (t + 1)) + if isO M ws p ((f + ((q * F - (t + 1) : Nat) : Int)) % F) then 1 else 0 := rfl
      rw [show q * F - (t + 1) + 1 = q * F - t by omega, h3, show f + ((q * F - (t + 1) : Nat) : Int) = f + (q * F : Nat) - 1 - t by omega, h2 t (by omega)] at h4
      simp at h4
      omega
  refine ⟨by rw [key s (Nat.le_refl _)]; exact Int.le_refl _, fun i hi => ?_⟩
  have h4 : cntF M ws p F f (q * F - (s + 1) + 1) = cntF M ws p F f (q * F - (s + 1)) + if isO M ws p ((f + ((q * F - (s + 1) : Nat) : Int)) % F) then 1 else 0 := rfl
  rw [show q * F - (s + 1) + 1 = q * F - s by omega, key s (Nat.le_refl _), show f + ((q * F - (s + 1) : Nat) : Int) = f + (q * F : Nat) - 1 - s by omega, h1] at h4
  simp at h4
  have h5 := cntF_mono (M := M) (ws := ws) (p := p) (F := F) f i (q * F - (s + 1) - i)
  rw [show i + (q * F - (s + 1) - i) = q * F - (s + 1) by omega] at h5
  omega
/-- Going back from any tick there is an open one. -/
theorem back_open (hF : 0 < F) (ho : 0 < cntO M ws p F) (j : Int) : ∃ t : Nat, t < F ∧ isO M ws p ((j - 1 - t) % F) = true ∧ ∀ u : Nat, u < t → isO M ws p ((j - 1 - u) % F) = false := by
  have h2 : 0 < cntF M ws p F (j - F) F := by rw [cntF_frame M ws p F hF]; exact ho
  obtain ⟨i, hi, h3⟩ := (cntF_pos M ws p F (j - F) F).1 h2
  have h4 : isO M ws p ((j - 1 - ((F - 1 - i : Nat) : Int)) % F) = true := by rwa [show j - 1 - ((F - 1 - i : Nat) : Int) = j - F + i by omega]
  have hs := fstN_spec (fun t : Nat => isO M ws p ((j - 1 - t) % F)) F 0
  have hle : fstN (fun t : Nat => isO M ws p ((j - 1 - t) % F)) F 0 ≤ F - 1 - i := by
    rcases Nat.lt_or_ge (F - 1 - i) (fstN (fun t : Nat => isO M ws p ((j - 1 - t) % F)) F 0) with h | h
    · have := hs.2.2.1 _ (by omega) h
      rw [h4] at this; cases this
    · exact h
  exact ⟨_, by omega, hs.2.2.2 (by omega), fun u hu => hs.2.2.1 u (by omega) hu⟩
end

theorem wrap64_inR (x : Int) (h0 : -9223372036854775808 ≤ x) (h1 : x ≤ 9223372036854775807) : wrap64 x = x := by unfold wrap64; omega

set_option maxRecDepth 100000 in
set_option maxHeartbeats 3200000 in
theorem doneR (w : World) (g F : Nat) (M : Int) (ws : List W3) (h : RTb w g F M ws) (p from_ work : Int) (o : Int) (ho : cntO M ws p F = o) (f : Int) (hf : min (max from_ 0) 1152921504606846976 = f) (m : Nat) (hm : min (max work 0) 1048576 = (m : Int)) :
    Calls Try.prog 25 #[.pointer (some ⟨g, 0, none⟩), .int .i64 p, .int .i64 from_, .int .i64 work] w fun e w' =>
      e = .returned (.tuple #[.int .i64 (if o = 0 then 0 else f + doneN M ws p F f m), .bool (decide (0 < o))]) ∧ Upd (fun _ => False) w w' := by
  obtain ⟨hF1, hF2, _⟩ := rightB_parts h.1
  have H := Lib.hid h; have HO := Lib.hid ho; have HF := Lib.hid hf; have HM := Lib.hid hm
  have ho1 := cntO_le M ws p F
  rw [ho] at ho1
  have hfb : 0 ≤ f ∧ f ≤ 1152921504606846976 := by omega
  have hmb : (m : Int) ≤ 1048576 := by omega
  have c0 : w.cell? ⟨g, 0, none⟩ = some (.int .i64 F) := by obtain ⟨_, L, h1, _⟩ := h; exact h1.cell 0
  clear h hf hm ho
  go_enter Try.func25, Try.ntmps25
  go_wp2_with fail
  refine (offR _ g F M ws H.out p o HO.out).mono ?_
  rintro e w1 ⟨rfl, hU⟩
  have H1 := Lib.hid (H.out.still hU)
  have U1 := Lib.hid hU
  have c1 : w1.cell? ⟨g, 0, none⟩ = some (.int .i64 F) := by obtain ⟨_, L, h1, _⟩ := H1.out; exact h1.cell 0
  clear hU c0
  by_cases h0 : o = 0
  · subst h0
    go_wp2_with fail
    go_returns
    exact ⟨rfl, U1.out⟩
  · have d0 : (o == 0) = false := beq_eq_false_iff_ne.2 h0
    have d0' : decide (0 < o) = true := decide_eq_true (by omega)
    have hop : Hid (0 < cntO M ws p F) := Lib.hid (by rw [HO.out]; omega)
    obtain ⟨on, hon⟩ : ∃ on : Nat, o = on := ⟨o.toNat, by omega⟩
    subst hon
    have hon0 : 0 < on := by omega
    obtain ⟨q, hq⟩ : ∃ q : Nat, m / on = q := ⟨_, rfl⟩
    obtain ⟨r, hr⟩ : ∃ r : Nat, m % on = r := ⟨_, rfl⟩
    have hqr : m = q * on + r := by rw [← hq, ← hr, Nat.mul_comm]; exact (Nat.div_add_mod m on).symm
    have hron : r < on := by rw [← hr]; exact Nat.mod_lt _ hon0
    have hqm : q ≤ m := by rw [← hq]; exact Nat.div_le_self m on
    have td : (m : Int).tdiv (on : Int) = (q : Int) := by rw [Int.tdiv_eq_ediv_of_nonneg (by omega), ← hq]; rfl
    have tm : (m : Int).tmod (on : Int) = (r : Int) := by rw [Int.tmod_eq_emod_of_nonneg (by omega), ← hr]; rfl
    have hqF : q * F ≤ 1048576 * 256 := Nat.mul_le_mul (by omega) hF2
    obtain ⟨z, hz⟩ : ∃ z : Nat, q * F = z := ⟨_, rfl⟩
    have hz' : (q : Int) * (F : Int) = (z : Int) := by rw [← hz, Int.natCast_mul]
    rw [hz] at hqF
    have HZ' := Lib.hid hz'; have HZ := Lib.hid hz; have HQR := Lib.hid hqr
    obtain ⟨T1, hT1⟩ : ∃ T1, doneN M ws p F (f + (z : Nat)) r = T1 := ⟨_, rfl⟩
    have hD1 := doneN_is (M := M) (ws := ws) (p := p) hF1 hop.out (f + (z : Nat)) r
    have hT1le := doneN_le (M := M) (ws := ws) (p := p) hF1 hop.out (f + (z : Nat)) r
    rw [hT1] at hD1 hT1le
    have hT1b : T1 ≤ 256 * 256 := Nat.le_trans hT1le (Nat.mul_le_mul (by omega) hF2)
    have HD1 := Lib.hid hD1
    clear hq hr hz hz' hqr hT1 hD1 hT1le
    go_wp2_with fail
    rw [HF.out]
    rw [HM.out]
    go_wp2_with fail
    go_quiet (fail)
    go_wp2_with fail
    have U2 := Lib.hid (U1.out.drewN nq)
    have H2 := Lib.hid (H1.out.still ((Upd.refl (fun _ => False) w1).drewN nq))
    go_loopw [11, 12] (fun va vl wr => ∃ t : Nat, t ≤ T1 ∧ va = .int .i64 (f + (z : Nat) + t) ∧ vl = .int .i64 ((r : Int) - cntF M ws p F (f + (z : Nat)) t) ∧ Upd (fun _ => False) w wr) (fun va _ _ => (f + (z : Nat) + T1 - intOf va).toNat)
    case atStart =>
      refine ⟨0, Nat.zero_le _, ?_, ?_, U2.out⟩
      · rw [HZ'.out, wrap64_inR (z : Int) (by omega) (by omega), wrap64_inR (f + (z : Int)) (by omega) (by omega)]
        simp
      · have h0 : cntF M ws p F (f + (z : Nat)) 0 = 0 := rfl
        rw [h0]
        simp
    case round =>
      obtain ⟨t, ht, rfl, rfl, hU⟩ := hrel
      have HU := Lib.hid hU
      have H3 : Hid (RTb wr g F M ws) := Lib.hid (H.out.still hU)
      clear hU
      obtain ⟨c, hc⟩ : ∃ c, cntF M ws p F (f + (z : Nat)) t = c := ⟨_, rfl⟩
      have hcb := cntF_le M ws p F (f + (z : Nat)) t
      rw [hc] at hcb ⊢
      have HC := Lib.hid hc
      clear hc
      obtain ⟨at_, hat⟩ : ∃ at_, f + (z : Nat) + (t : Int) = at_ := ⟨_, rfl⟩
      rw [hat]
      have HAT := Lib.hid hat
      have hatb : 0 ≤ at_ ∧ at_ ≤ 1152921504606846976 + 1048576 * 256 + 256 * 256 := by omega
      by_cases hlt : t < T1
      · have hcr : c < r := by have := HD1.out.2 t hlt; rw [HC.out] at this; exact this
        have d1 : decide (0 < (r : Int) - c) = true := decide_eq_true (by omega)
        obtain ⟨b, hb⟩ : ∃ b, isO M ws p (at_ % F) = b := ⟨_, rfl⟩
        have HN : Hid (cntF M ws p F (f + (z : Nat)) (t + 1) = c + if b then 1 else 0) := Lib.hid (by rw [cntF, HC.out, ← hb, ← HAT.out])
        have HB := Lib.hid hb
        have s1 := wrap_in ((r : Int) - c - 1) (by omega) (by omega)
        have s2 := wrap_in (at_ + 1) (by omega) (by omega)
        clear hb hat
        go_wp2_with fail
        refine (isR _ g F M ws H3.out p at_ b HB.out).mono ?_
        rintro e w3 ⟨rfl, hU⟩
        have U3 := Lib.hid (HU.out.trans hU)
        clear hU
        cases b
        · go_wp2_with fail
          go_roundw
          case rel => exact ⟨t + 1, by omega, by rw [← HAT.out]; congr 1; omega, by rw [HN.out]; simp, U3.out⟩
          case measure => have := HAT.out; simp [intOf]; omega
        · go_wp2_with fail
          go_roundw
          case rel => exact ⟨t + 1, by omega, by rw [← HAT.out]; congr 1; omega, by rw [HN.out]; congr 1; simp; omega, U3.out⟩
          case measure => have := HAT.out; simp [intOf]; omega
      · have hte : t = T1 := by omega
        subst hte
        have hcr : c = r := by have := HD1.out.cnt; rw [HC.out] at this; exact this
        subst hcr
        have hrr : (r : Int) - (r : Int) = 0 := by omega
        rw [hrr]
        clear hrr
        by_cases hm0 : m = 0
        · have hq0 : q = 0 := by
            rcases Nat.eq_zero_or_pos q with h | h
            · exact h
            · have h1 := HQR.out
              have h2 : 1 * 1 ≤ q * on := Nat.mul_le_mul h hon0
              omega
          have hz0 : z = 0 := by rw [← HZ.out, hq0, Nat.zero_mul]
          have hr0 : r = 0 := by have h1 := HQR.out; omega
          have ht0 : t = 0 := by
            rcases Nat.eq_zero_or_pos t with h | h
            · exact h
            · have h1 := HD1.out.2 0 h
              have h2 : cntF M ws p F (f + (z : Nat)) 0 = 0 := rfl
              rw [h2] at h1
              omega
          have hd0 : Hid (f + (doneN M ws p F f m : Int) = at_) := Lib.hid (by
            have h1 : IsD M ws p F f m 0 := ⟨by rw [hm0]; exact Int.le_refl _, fun i hi => by omega⟩
            rw [(doneN_is hF1 hop.out f m).eq h1, ← HAT.out, hz0, ht0]
            simp)
          subst hm0
          clear hat
          go_wp2_with fail
          go_returns
          exact ⟨by rw [hd0.out]; rfl, HU.out⟩
        · have e1 : ((m : Int) == 0) = false := beq_eq_false_iff_ne.2 (by omega)
          by_cases hr0 : 0 < r
          · have d2 : decide (0 < (r : Int)) = true := decide_eq_true (by omega)
            have hdd : Hid (f + (doneN M ws p F f m : Int) = at_) := Lib.hid (by
              have hD := HD1.out
              rw [← HZ.out] at hD
              have h1 := IsD.frames hF1 hD hr0 on HO.out
              have h2 : (q : Int) * on + r = m := by have := HQR.out; rw [this]; push_cast; rfl
              rw [h2] at h1
              rw [(doneN_is hF1 hop.out f m).eq h1, ← HAT.out, HZ.out]
              omega)
            clear hat
            go_wp2_with fail
            go_returns
            exact ⟨by rw [hdd.out]; rfl, HU.out⟩
          · have hr00 : r = 0 := by omega
            subst hr00
            simp only [Int.natCast_zero] at *
            have hq0 : 0 < q := by
              rcases Nat.eq_zero_or_pos q with h | h
              · exfalso; have h1 := HQR.out; rw [h, Nat.zero_mul] at h1; omega
              · exact h
            have ht0 : t = 0 := by
              rcases Nat.eq_zero_or_pos t with h | h
              · exact h
              · have h1 := HD1.out.2 0 h
                have h2 : cntF M ws p F (f + (z : Nat)) 0 = 0 := rfl
                rw [h2] at h1
                omega
            have hatz : at_ = f + (z : Nat) := by rw [← HAT.out, ht0]; simp
            obtain ⟨S, hS1, hS2, hS3⟩ := back_open hF1 hop.out (f + (z : Nat))
            have HS2 := Lib.hid hS2; have HS3 := Lib.hid hS3
            have hdd : Hid (f + (doneN M ws p F f m : Int) = at_ - S) := Lib.hid (by
              have hFz : F ≤ z := by rw [← HZ.out]; exact Nat.le_mul_of_pos_left F hq0
              have h1 := IsD.whole hF1 hq0 (s := S) (by rw [HZ.out]; omega) (by rw [HZ.out]; exact HS2.out) (by rw [HZ.out]; exact HS3.out) on HO.out
              have h2 : (q : Int) * on = m := by have := HQR.out; rw [this]; push_cast; simp
              rw [h2] at h1
              rw [(doneN_is hF1 hop.out f m).eq h1, HZ.out, hatz]
              omega)
            have HATZ := Lib.hid hatz
            clear hat hatz hS2 hS3 ht0
            go_wp2_with fail
            go_loopw [11] (fun va wq => ∃ s : Nat, s ≤ S ∧ va = .int .i64 (at_ - s) ∧ Upd (fun _ => False) w wq) (fun va _ => (intOf va - (at_ - S)).toNat)
            case atStart => exact ⟨0, Nat.zero_le _, by simp, HU.out⟩
            case round =>
              obtain ⟨s, hs, rfl, hU⟩ := hrel
              have HU4 := Lib.hid hU
              have H4 : Hid (RTb wr g F M ws) := Lib.hid (H.out.still hU)
              clear hU
              have s1 := wrap_in (at_ - s - 1) (by omega) (by omega)
              by_cases hlt2 : s < S
              · have hb := HS3.out s hlt2
                rw [← HATZ.out, show at_ - 1 - (s : Int) = at_ - s - 1 by omega] at hb
                have HB := Lib.hid hb
                clear hb
                go_wp2_with fail
                refine (isR _ g F M ws H4.out p (at_ - s - 1) false HB.out).mono ?_
                rintro e w5 ⟨rfl, hU⟩
                have U5 := Lib.hid (HU4.out.trans hU)
                clear hU
                go_wp2_with fail
                go_roundw
                case rel =>
                  exact ⟨s + 1, by omega, by congr 1; omega, U5.out⟩
                case measure => simp [intOf]; omega
              · have hse : s = S := by omega
                subst hse
                have hb := HS2.out
                rw [← HATZ.out, show at_ - 1 - (s : Int) = at_ - s - 1 by omega] at hb
                have HB := Lib.hid hb
                clear hb
                go_wp2_with fail
                refine (isR _ g F M ws H4.out p (at_ - s - 1) true HB.out).mono ?_
                rintro e w5 ⟨rfl, hU⟩
                have U5 := Lib.hid (HU4.out.trans hU)
                clear hU
                go_wp2_with fail
                go_returns
                exact ⟨by rw [hdd.out]; rfl, U5.out⟩
end Go.Proofs.Ytnfajehocljbnaa
