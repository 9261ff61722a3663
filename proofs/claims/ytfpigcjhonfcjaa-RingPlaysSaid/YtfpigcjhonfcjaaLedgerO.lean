/-
  LedgerOnce: all ticks are the sum of all kinds of all partitions, and the gaps; what all gave is what all got.
-/
import Derived.Test.YtfpigcjhonfcjaaLedgerLaw
namespace Go.Proofs.Ytfpigcjhonfcjaa
open Go.RowKit

set_option maxRecDepth 100000 in
set_option maxHeartbeats 800000 in
/-- A charge of whatever numbers. -/
theorem chargeL_any (w : World) (g : Nat) (L : Nat → Int) (m : Nat) (ok gaps : Int) (h : Led w g L) (hI : Inv m L ok gaps) (hok : 0 ≤ ok ∧ ok ≤ 900) (kind p q : Int) :
    Calls Try.prog 49 #[.pointer (some ⟨g, 0, none⟩), .int .i64 kind, .int .i64 p, .int .i64 q] w fun e w' => e = .returned (.int .i64 (okI m kind p q)) ∧
      Led w' g (chgI L kind p q) ∧ Upd (fun k => k = g) w w' := by
  have hbd : ∀ i, 0 ≤ L i ∧ L i ≤ 1000 := fun i => by
    by_cases e : i = 0
    · subst e; have := hI.parts; have := hI.le; omega
    · have := hI.bd i (by omega); omega
  unfold okI chgI
  have hP := hI.parts
  have hle := hI.le
  rw [hP]
  by_cases hf : fineB m kind p q = true
  · rw [if_pos hf, if_pos hf]
    have hf2 := hf
    unfold fineB at hf2
    by_cases hk : kind = 0 ∨ kind = 2 ∨ kind = 3
    · rw [if_pos hk] at hf2
      have hp := of_decide_eq_true hf2
      obtain ⟨k', rfl⟩ := Int.eq_ofNat_of_zero_le (show 0 ≤ kind by omega)
      obtain ⟨p', rfl⟩ := Int.eq_ofNat_of_zero_le hp.1
      refine (chargeL_one w g L h k' p' q (by omega) (by omega) (by omega) hbd).mono fun e w' ⟨h1, h2, h3⟩ => ⟨h1, ?_, h3⟩
      rw [chgF_one L k' p' q.toNat (by omega) (by omega)] at h2
      exact h2
    · rw [if_neg hk] at hf2
      by_cases hk1 : kind = 1
      · rw [if_pos hk1, Bool.and_eq_true] at hf2
        have hp := of_decide_eq_true hf2.1
        have hpq := of_decide_eq_true hf2.2
        subst hk1
        obtain ⟨p', rfl⟩ := Int.eq_ofNat_of_zero_le hp.1.1
        obtain ⟨q', rfl⟩ := Int.eq_ofNat_of_zero_le hp.2.1
        refine (chargeL_given w g L h p' q' (by omega) (by omega) (by omega) (by omega) hbd).mono fun e w' ⟨h1, h2, h3⟩ => ⟨h1, ?_, h3⟩
        rw [chgF_given L p' q' (by omega) (by omega)] at h2
        exact h2
      · rw [if_neg hk1] at hf2
        have hk4 := of_decide_eq_true hf2
        subst hk4
        refine (chargeL_gap w g L h p q (hbd 67)).mono fun e w' ⟨h1, h2, h3⟩ => ⟨h1, ?_, h3⟩
        rw [chgF_gap L p.toNat q.toNat] at h2
        exact h2
  · rw [if_neg hf, if_neg hf]
    refine (chargeL_no w g L h kind p q (by rw [hP]; simpa using hf)).mono fun e w' ⟨h1, h3⟩ => ⟨h1, h.upd h3 (fun h => h), h3.mono (fun _ _ h => h.elim)⟩

theorem ofL_inv (w : World) (g : Nat) (L : Nat → Int) (m : Nat) (ok gaps : Int) (h : Led w g L) (hI : Inv m L ok gaps) (k p : Nat) (hk : k < 4) (hp : p < 6) :
    Calls Try.prog 52 #[.pointer (some ⟨g, 0, none⟩), .int .i64 k, .int .i64 p] w fun e w' => e = .returned (.int .i64 (L (1 + k * 6 + p))) ∧ Upd (fun _ => False) w w' := by
  have hP := hI.parts
  have hle := hI.le
  by_cases hm : p < m
  · exact ofL_yes w g L h k p hk (by omega) (by omega)
  · rw [hI.out1 k p hk (by omega) hp]
    exact ofL_no w g L h k p (.inl (by omega))

theorem gotL_inv (w : World) (g : Nat) (L : Nat → Int) (m : Nat) (ok gaps : Int) (h : Led w g L) (hI : Inv m L ok gaps) (hok : 0 ≤ ok ∧ ok ≤ 900) (p : Nat) (hp : p < 6) :
    Calls Try.prog 53 #[.pointer (some ⟨g, 0, none⟩), .int .i64 p] w fun e w' => e = .returned (.int .i64 (gotOf L p)) ∧ Upd (fun _ => False) w w' := by
  have hP := hI.parts
  have hle := hI.le
  have hbd : ∀ i, 0 ≤ L i ∧ L i ≤ 1000 := fun i => by
    by_cases e : i = 0
    · subst e; omega
    · have := hI.bd i (by omega); omega
  by_cases hm : p < m
  · exact gotL_yes w g L h p (by omega) (by omega) hbd
  · rw [hI.got_out p (by omega) hp]
    exact gotL_no w g L h p (by omega)

theorem gaveL_inv (w : World) (g : Nat) (L : Nat → Int) (m : Nat) (ok gaps : Int) (h : Led w g L) (hI : Inv m L ok gaps) (p q : Nat) (hp : p < 6) (hq : q < 6) :
    Calls Try.prog 54 #[.pointer (some ⟨g, 0, none⟩), .int .i64 p, .int .i64 q] w fun e w' => e = .returned (.int .i64 (L (31 + p * 6 + q))) ∧ Upd (fun _ => False) w w' := by
  have hP := hI.parts
  have hle := hI.le
  by_cases hm : p < m ∧ q < m
  · exact gaveL_yes w g L h p q (by omega) (by omega) (by omega)
  · rw [hI.out2 p q hp hq (by omega)]
    exact gaveL_no w g L h p q (by omega)

/-- Behind i charges. -/
def OnceA (w wr : World) (g : Nat) (m i : Nat) (ok gaps : Int) : Prop := ∃ L, Led wr g L ∧ Inv m L ok gaps ∧ 0 ≤ ok ∧ ok ≤ i ∧ 0 ≤ gaps ∧ gaps ≤ i ∧ Below w.heap.size w wr

set_option maxRecDepth 100000 in
set_option maxHeartbeats 3200000 in
theorem once_short (w : World) (parts : Int) (A : Option Addr) (len cap : Nat) (xs : Nat → Nat → Int) (hl : len ≤ 300)
    (hc : Row3 w A len xs) :
    Calls Try.prog 9 #[.int .i64 parts, .slice A len cap] w fun e w' => e = .returned (.bool true) ∧ Below w.heap.size w w' := by
  have e0 : decide ((300 : Int) < (len : Int)) = false := decide_eq_false (by omega)
  have HC := Lib.hid hc; clear hc
  obtain ⟨m, hm⟩ : ∃ m : Nat, min (max parts 0) 6 = m := ⟨(min (max parts 0) 6).toNat, by omega⟩
  have hm6 : m ≤ 6 := by omega
  have HM := Lib.hid hm; clear hm
  go_enter Try.func9, Try.ntmps9
  go_wp2_with fail
  refine (knows15 _).mono ?_
  rintro e w1 ⟨rfl, hB1⟩
  have HB1 := Lib.hid hB1; clear hB1
  go_wp2_with fail
  refine (newL _ parts m HM.out).mono ?_
  rintro e w2 ⟨g, rfl, hg, hL, hB⟩
  have HL := Lib.hid hL; clear hL
  have HB2 := Lib.hid (chn HB1.out hB); clear hB
  have hge : w.heap.size ≤ g := by have := HB1.out.size; omega
  go_wp2_with fail
  go_loopw [6, 7, 8] (fun vg vo vi wr => ∃ (i : Nat) (ok gaps : Int), i ≤ len ∧ vi = .int .i64 i ∧ vo = .int .i64 ok ∧ vg = .int .i64 gaps ∧ OnceA w wr g m i ok gaps) (fun _ _ vi _ => len - (intOf vi).toNat)
  case atStart => exact ⟨0, 0, 0, by omega, rfl, rfl, rfl, _, HL.out, Inv.new m hm6, by omega, by omega, by omega, by omega, HB2.out⟩
  case round =>
    obtain ⟨i, ok, gaps, hi, rfl, rfl, rfl, L, hL, hI, ho0, ho1, hg0, hg1, hB⟩ := hrel
    have HLr := Lib.hid hL; clear hL
    have HI := Lib.hid hI; clear hI
    have HBr := Lib.hid hB; clear hB
    by_cases hlt : i < len
    · obtain ⟨b, o, rfl, hab, h0, h1, h2⟩ := HC.out i hlt
      have h0 := (HBr.out.cell (p := ⟨b, o + i * 3, none⟩) hab).trans h0
      have h1 := (HBr.out.cell (p := ⟨b, o + i * 3 + 1, none⟩) hab).trans h1
      have h2 := (HBr.out.cell (p := ⟨b, o + i * 3 + 2, none⟩) hab).trans h2
      generalize xs i 0 = kind at *
      generalize xs i 1 = p at *
      generalize xs i 2 = q at *
      have HH : Hid (b ≠ g) := Lib.hid (by omega)
      go_wp2_with fail
      go_region_held3 (fun w' => w'.cell? ⟨b, o + i * 3, none⟩ = some (.int .i64 kind) ∧ w'.cell? ⟨b, o + i * 3 + 1, none⟩ = some (.int .i64 p) ∧ w'.cell? ⟨b, o + i * 3 + 2, none⟩ = some (.int .i64 q))
        (first
          | exact ⟨h0, h1, h2⟩
          | exact ⟨(HU3.out.cell (p := ⟨b, o + i * 3, none⟩) (block_lt_of_cell h0) HH.out).trans h0, (HU3.out.cell (p := ⟨b, o + i * 3 + 1, none⟩) (block_lt_of_cell h1) HH.out).trans h1, (HU3.out.cell (p := ⟨b, o + i * 3 + 2, none⟩) (block_lt_of_cell h2) HH.out).trans h2⟩)
        (first
          | (go_at_call 49; refine (chargeL_any _ g L m ok gaps (HLr.out.drewN 1) HI.out (by omega) kind p q).mono ?_; rintro e w3 ⟨rfl, hL3, hU3⟩; have HL3 := Lib.hid hL3; clear hL3; have HU3 := Lib.hid hU3; clear hU3)
          | (go_at_call 48; refine (num15 _ _).mono ?_; rintro e w6 ⟨rfl, k6, rfl⟩))
      go_wp2_with fail
      · have e1 : okI m kind p q = 0 := beq_iff_eq.1 ‹(okI (m : Int) kind p q == 0) = true›
        have e2 : kind = 4 := beq_iff_eq.1 ‹(kind == 4) = true›
        have hst := HI.out.step kind p q
        rw [if_pos e1, if_pos ⟨e1, e2⟩] at hst
        go_roundw
        case rel => exact ⟨i + 1, ok + 1, gaps + 1, by omega, by go_num, rfl, rfl, _, HL3.out.drewN _, hst, by omega, by omega, by omega, by omega, below_drewN (Below.upd (below_drewN HBr.out 1) HU3.out HBr.out.size (fun k hk => by omega)) _⟩
        case measure => simp [intOf]; omega
      · have e1 : okI m kind p q = 0 := beq_iff_eq.1 ‹(okI (m : Int) kind p q == 0) = true›
        have e2 : ¬ kind = 4 := beq_eq_false_iff_ne.1 ‹(kind == 4) = false›
        have hst := HI.out.step kind p q
        rw [if_pos e1, if_neg (fun h => e2 h.2), Int.add_zero] at hst
        go_roundw
        case rel => exact ⟨i + 1, ok + 1, gaps, by omega, by go_num, rfl, rfl, _, HL3.out.drewN _, hst, by omega, by omega, by omega, by omega, below_drewN (Below.upd (below_drewN HBr.out 1) HU3.out HBr.out.size (fun k hk => by omega)) _⟩
        case measure => simp [intOf]; omega
      · have e1 : ¬ okI m kind p q = 0 := beq_eq_false_iff_ne.1 ‹(okI (m : Int) kind p q == 0) = false›
        have hst := HI.out.step kind p q
        rw [if_neg e1, if_neg (fun h => e1 h.1), Int.add_zero, Int.add_zero] at hst
        go_roundw
        case rel => exact ⟨i + 1, ok, gaps, by omega, by go_num, rfl, rfl, _, HL3.out.drewN _, hst, by omega, by omega, by omega, by omega, below_drewN (Below.upd (below_drewN HBr.out 1) HU3.out HBr.out.size (fun k hk => by omega)) _⟩
        case measure => simp [intOf]; omega
    · clear HL
      go_wp2_with fail
      go_loopw [9, 10, 11, 12] (fun vn vgave vgot vp wq => ∃ p : Nat, p ≤ 6 ∧ vp = .int .i64 p ∧ vn = .int .i64 (gaps + sumN (fun p => sumN (fun k => L (1 + k * 6 + p)) 4) p) ∧ vgave = .int .i64 (sumN (fun p => L (7 + p)) p) ∧ vgot = .int .i64 (sumN (gotOf L) p) ∧ Led wq g L ∧ Below w.heap.size w wq)
        (fun _ _ _ vp _ => 6 - (intOf vp).toNat)
      case atStart => exact ⟨0, by omega, rfl, by simp [sumN], rfl, rfl, HLr.out, HBr.out⟩
      case round =>
        clear HLr HBr
        obtain ⟨p, hp, rfl, rfl, rfl, rfl, hL, hB⟩ := hrel
        have HLr := Lib.hid hL; clear hL
        have HBr := Lib.hid hB; clear hB
        by_cases hp6 : p < 6
        · have hF : ∀ p, 0 ≤ sumN (fun k => L (1 + k * 6 + p)) 4 ∧ sumN (fun k => L (1 + k * 6 + p)) 4 ≤ 3600 := fun p => by
            have := sumN_bd (B := 900) 4 (f := fun k => L (1 + k * 6 + p)) (fun k _ => by have := HI.out.bd (1 + k * 6 + p) (by omega); omega)
            omega
          obtain ⟨f0, f1⟩ := sumN_bd (B := 3600) p (f := fun p => sumN (fun k => L (1 + k * 6 + p)) 4) (fun i _ => hF i)
          obtain ⟨g0, g1⟩ := sumN_bd (B := 900) p (f := fun p => L (7 + p)) (fun i _ => by have := HI.out.bd (7 + i) (by omega); omega)
          obtain ⟨t0, t1⟩ := sumN_bd (B := 5400) p (f := gotOf L) (fun i _ => by have := HI.out.got_bd i; omega)
          obtain ⟨q0, q1⟩ := HI.out.bd (7 + p) (by omega)
          obtain ⟨r0, r1⟩ := HI.out.got_bd p
          clear hF
          have ep : decide ((p : Int) < 6) = true := decide_eq_true (by omega)
          go_wp2_with fail
          go_loopw [9, 13] (fun vn vk wq => ∃ k : Nat, k ≤ 4 ∧ vk = .int .i64 k ∧ vn = .int .i64 (gaps + sumN (fun p => sumN (fun k => L (1 + k * 6 + p)) 4) p + sumN (fun k => L (1 + k * 6 + p)) k) ∧ Led wq g L ∧ Below w.heap.size w wq) (fun _ vk _ => 4 - (intOf vk).toNat)
          case atStart => exact ⟨0, by omega, rfl, by simp [sumN], HLr.out, HBr.out⟩
          case round =>
            clear HLr HBr
            obtain ⟨k, hk, rfl, rfl, hL, hB⟩ := hrel
            have HLr := Lib.hid hL; clear hL
            have HBr := Lib.hid hB; clear hB
            obtain ⟨s0, s1⟩ := sumN_bd (B := 900) k (f := fun k => L (1 + k * 6 + p)) (fun k _ => by have := HI.out.bd (1 + k * 6 + p) (by omega); omega)
            by_cases hk4 : k < 4
            · obtain ⟨y0, y1⟩ := HI.out.bd (1 + k * 6 + p) (by omega)
              go_wp2_with fail
              refine (ofL_inv _ g L m ok gaps HLr.out HI.out k p hk4 hp6).mono ?_
              rintro e w4 ⟨rfl, hU4⟩
              have HU4 := Lib.hid hU4; clear hU4
              go_wp2_with fail
              go_roundw
              case rel => exact ⟨k + 1, by omega, by go_num, by rw [sumN, Int.add_assoc], HLr.out.upd HU4.out (fun h => h), Below.upd HBr.out HU4.out HBr.out.size (fun _ h => h.elim)⟩
              case measure => simp [intOf]; omega
            · have hk5 : k = 4 := by omega
              subst hk5
              clear hk4
              go_wp2_with fail
              refine (ofL_inv _ g L m ok gaps HLr.out HI.out 1 p (by omega) hp6).mono ?_
              rintro e w4 ⟨rfl, hU4⟩
              have HL4 := Lib.hid (HLr.out.upd hU4 (fun h => h))
              have HB4 := Lib.hid (Below.upd HBr.out hU4 HBr.out.size (fun _ h => h.elim)); clear hU4
              go_wp2_with fail
              refine (gotL_inv _ g L m ok gaps HL4.out HI.out (by omega) p hp6).mono ?_
              rintro e w5 ⟨rfl, hU5⟩
              have HL5 := Lib.hid (HL4.out.upd hU5 (fun h => h))
              have HB5 := Lib.hid (Below.upd HB4.out hU5 HB4.out.size (fun _ h => h.elim)); clear hU5
              go_wp2_with fail
              go_loopw [14, 15] (fun vs vq wq => ∃ q : Nat, q ≤ 6 ∧ vq = .int .i64 q ∧ vs = .int .i64 (sumN (fun q => L (31 + p * 6 + q)) q) ∧ Led wq g L ∧ Below w.heap.size w wq) (fun _ vq _ => 6 - (intOf vq).toNat)
              case atStart => exact ⟨0, by omega, rfl, rfl, HL5.out, HB5.out⟩
              case round =>
                clear HLr HBr HL4 HB4 HL5 HB5
                obtain ⟨q, hq, rfl, rfl, hL, hB⟩ := hrel
                have HLr := Lib.hid hL; clear hL
                have HBr := Lib.hid hB; clear hB
                obtain ⟨z0, z1⟩ := sumN_bd (B := 900) q (f := fun q => L (31 + p * 6 + q)) (fun k _ => by have := HI.out.bd (31 + p * 6 + k) (by omega); omega)
                by_cases hq6 : q < 6
                · obtain ⟨y0, y1⟩ := HI.out.bd (31 + p * 6 + q) (by omega)
                  go_wp2_with fail
                  refine (gaveL_inv _ g L m ok gaps HLr.out HI.out p q hp6 hq6).mono ?_
                  rintro e w4 ⟨rfl, hU4⟩
                  have HU4 := Lib.hid hU4; clear hU4
                  go_wp2_with fail
                  go_roundw
                  case rel => exact ⟨q + 1, by omega, by go_num, by rw [sumN], HLr.out.upd HU4.out (fun h => h), Below.upd HBr.out HU4.out HBr.out.size (fun _ h => h.elim)⟩
                  case measure => simp [intOf]; omega
                · have hq5 : q = 6 := by omega
                  subst hq5
                  clear hq6
                  have erow := HI.out.row p hp6
                  have ediag := HI.out.diag p hp6
                  have EROW := Lib.hid erow
                  have etest : (sumN (fun q => L (31 + p * 6 + q)) 6 != L (7 + p)) = false := by rw [erow]; simp
                  clear erow
                  go_wp2_with fail
                  refine (ofL_inv _ g L m ok gaps HLr.out HI.out 1 p (by omega) hp6).mono ?_
                  rintro e w4 ⟨rfl, hU4⟩
                  have HL4 := Lib.hid (HLr.out.upd hU4 (fun h => h))
                  have HB4 := Lib.hid (Below.upd HBr.out hU4 HBr.out.size (fun _ h => h.elim)); clear hU4
                  go_wp2_with fail
                  refine (gaveL_inv _ g L m ok gaps HL4.out HI.out p p hp6 hp6).mono ?_
                  rintro e w5 ⟨rfl, hU5⟩
                  have HL5 := Lib.hid (HL4.out.upd hU5 (fun h => h))
                  have HB5 := Lib.hid (Below.upd HB4.out hU5 HB4.out.size (fun _ h => h.elim)); clear hU5
                  go_wp2_with fail
                  go_roundw
                  case rel => exact ⟨p + 1, by omega, by go_num, by rw [show sumN (fun p => sumN (fun k => L (1 + k * 6 + p)) 4) (p + 1) = sumN (fun p => sumN (fun k => L (1 + k * 6 + p)) 4) p + sumN (fun k => L (1 + k * 6 + p)) 4 from rfl, Int.add_assoc], by rw [sumN], by rw [sumN], HL5.out, HB5.out⟩
                  case measure => simp [intOf]; omega
        · have hp7 : p = 6 := by omega
          subst hp7
          go_wp2_with fail
          refine (totalL _ g L HLr.out).mono ?_
          rintro e w4 ⟨rfl, hU4⟩
          have HB4 := Lib.hid (Below.upd HBr.out hU4 HBr.out.size (fun _ h => h.elim)); clear hU4
          have e1 : (L 67 == gaps + sumN (fun p => sumN (fun k => L (1 + k * 6 + p)) 4) 6) = true := beq_iff_eq.2 HI.out.sum
          have e2 : (gaps + sumN (fun p => sumN (fun k => L (1 + k * 6 + p)) 4) 6 == ok) = true := beq_iff_eq.2 (by rw [← HI.out.sum]; exact HI.out.total)
          have e3 : (sumN (fun p => L (7 + p)) 6 == sumN (gotOf L) 6) = true := beq_iff_eq.2 HI.out.both
          go_wp2_with fail
          go_ret
          exact ⟨rfl, HB4.out⟩

theorem once_any (w : World) (parts : Int) (_ : (Lit.int .i64 parts).wf = true) (A : Option Addr) (len cap : Nat) (xs : Nat → Nat → Int) (_ : ∀ k j, k < len → j < 3 → (Lit.int .i64 (xs k j)).wf = true) (hc : Row3 w A len xs) :
    Calls Try.prog 9 #[.int .i64 parts, .slice A len cap] w fun e w' => e = .returned (.bool true) ∧ Below w.heap.size w w' := by
  rcases Nat.lt_or_ge 300 len with hl | hl
  · have e0 : decide ((300 : Int) < (len : Int)) = true := decide_eq_true (by omega)
    go_enter Try.func9, Try.ntmps9
    go_wp2_with fail
    refine (knows15 _).mono ?_
    rintro e w1 ⟨rfl, hB1⟩
    go_wp2_with fail
    go_ret
    exact ⟨rfl, hB1⟩
  · exact once_short w parts A len cap xs hl hc
end Go.Proofs.Ytfpigcjhonfcjaa
