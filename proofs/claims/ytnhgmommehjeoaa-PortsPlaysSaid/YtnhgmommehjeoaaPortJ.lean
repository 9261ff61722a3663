/-
  Ports: Clear. (Written by portc.py.)
-/
import Derived.Test.YtnhgmommehjeoaaPortI
namespace Go.Proofs.Ytnhgmommehjeoaa
open Go.RowKit
attribute [local go_sem] max_ints min_ints

def PM.emptied (m : PM) : PM := if m.c.q = true then { m with xs := [], lost := 0 } else { m with xs := [] }
def PM.clr (part : Int) (m : PM) : PM := if m.c.t = part then m.emptied else m
def clrN (part : Int) (ms : List PM) (i : Nat) : List PM := (ms.take i).map (PM.clr part) ++ ms.drop i
theorem clrN_at (part : Int) (ms : List PM) (i : Nat) (m : PM) (h : ms[i]? = some m) : (clrN part ms i)[i]? = some m ∧ (clrN part ms i).set i (m.clr part) = clrN part ms (i + 1) := by
  have hl := (List.getElem?_eq_some_iff.1 h).1
  have hlen : ((ms.take i).map (PM.clr part)).length = i := by simp; omega
  have hd : ms.drop i = m :: ms.drop (i + 1) := by
    rw [List.drop_eq_getElem_cons hl, (List.getElem?_eq_some_iff.1 h).2]
  unfold clrN
  constructor
  · rw [List.getElem?_append_right (by omega), hlen, Nat.sub_self, hd]; rfl
  · rw [List.set_append_right _ _ (by omega), hlen, Nat.sub_self, hd, List.take_add_one, h]
    simp
theorem clrN_len (part : Int) (ms : List PM) (i : Nat) : (clrN part ms i).length = ms.length := by unfold clrN; simp; omega
theorem clr_keep {part : Int} {m : PM} (h : m.c.t ≠ part) : m.clr part = m := by unfold PM.clr; rw [if_neg h]
theorem clr_q {m : PM} (hq : m.c.q = true) : m.clr m.c.t = { m with xs := [], lost := 0 } := by unfold PM.clr PM.emptied; rw [if_pos rfl, if_pos hq]
theorem clr_s {m : PM} (hq : m.c.q = false) : m.clr m.c.t = { m with xs := [] } := by unfold PM.clr PM.emptied; rw [if_pos rfl, if_neg (by rw [hq]; decide)]

set_option maxRecDepth 100000 in
set_option maxHeartbeats 3200000 in
theorem clearP (w : World) (b B P : Nat) (ms : List PM) (h : PortsS w b B P ms) (hlm : ms.length ≤ 1000) (part : Int) :
    Calls Try.prog 14 #[.pointer (some ⟨P, 0, none⟩), .int .i64 part] w fun e w' => e = .returned (.tuple #[]) ∧ PortsS w' b B P (ms.map (PM.clr part)) ∧ Upd (fun k => b ≤ k ∧ k < B) w w' := by
  have H := Lib.hid h
  obtain ⟨A, cap, c0⟩ := h.cell
  have C0 := Lib.hid c0
  clear h
  go_enter Try.func14, Try.ntmps14
  go_wp2_with fail
  clear c0
  go_loopw [13] (fun vi wr => ∃ i : Nat, i ≤ ms.length ∧ vi = .int .i64 i ∧ PortsS wr b B P (clrN part ms i) ∧ wr.cell? ⟨P, 0, none⟩ = some (.slice A ms.length cap) ∧ Upd (fun k => b ≤ k ∧ k < B) w wr) (fun vi _ => ms.length - (intOf vi).toNat)
  case atStart => exact ⟨0, by omega, rfl, by simpa [clrN] using H.out, C0.out, Upd.refl _ _⟩
  case round =>
    obtain ⟨i, hi, rfl, hS, hC, hU⟩ := hrel
    have HS := Lib.hid hS; have HC := Lib.hid hC; have HU := Lib.hid hU
    clear hS hC hU
    by_cases hlt : i < ms.length
    · obtain ⟨m, hm⟩ : ∃ m, ms[i]? = some m := ⟨_, List.getElem?_eq_getElem hlt⟩
      have HM := Lib.hid (clrN_at part ms i m hm)
      obtain ⟨u, lo, hi', hP, ⟨A', cap', cA, bb, o, hA, c1⟩, g1, g2, hput⟩ := HS.out.pick i m HM.out.1
      have hAA : A = A' := by
        have h := HC.out.symm.trans cA
        injection h with h
        injection h
      subst hAA
      subst hA
      have HPut := Lib.hid hput
      clear hput cA hm
      rcases hP with ⟨hq, s, g, d, rfl, hs, hg, hd, hQ⟩ | ⟨hq, s, v0, has, rfl, hs, hSm, hx⟩
      · have HQ := Lib.hid hQ
        have Hq := Lib.hid hq
        have mf := mto_q _ s g d m.c m.xs m.lost HQ.out
        have mp := mempty_q s
        clear hQ hq
        by_cases hp : m.c.t = part
        · subst hp
          go_wp2_with fail
          refine (toE _ _).mono ?_
          rintro e w2 ⟨rfl, hU2⟩
          have U2 := Lib.hid hU2
          clear hU2 mf
          go_wp2_with fail
          refine (emptyQ _ s g d m.c m.xs m.lost (HQ.out.upd U2.out (fun h => h) (fun h => h) (fun h => h))).mono ?_
          rintro e w3 ⟨rfl, hQ3, hU3⟩
          have U3 := Lib.hid ((U2.out.mono (fun _ _ h => h.elim)).trans hU3)
          have Q3 := Lib.hid hQ3
          clear hU3 hQ3
          have HPn : Hid (¬ (P = s ∨ P = g ∨ P = d)) := Lib.hid (fun hk => by
            obtain ⟨_, _, _, _, hBk, _⟩ := HS.out
            obtain ⟨_, _, t, cs, hT, ht, _⟩ := HQ.out.keeps hs hg hd P hk
            exact absurd rfl (hBk.ne_ hT (fun e => ht e.symm)))
          have HN : Hid (PortsS w3 b B P (clrN m.c.t ms (i + 1))) := Lib.hid (by
            have := HPut.out _ _ (m.clr m.c.t) U3.out (HQ.out.keeps hs hg hd) (.inl (by
            rw [clr_q Hq.out]
            exact ⟨Hq.out, s, g, d, rfl, hs, hg, hd, Q3.out⟩))
            rw [HM.out.2] at this
            exact this)
          have HCN : Hid (w3.cell? ⟨P, 0, none⟩ = some (.slice (some ⟨bb, o, none⟩) ms.length cap)) := Lib.hid ((U3.out.cell (p := ⟨P, 0, none⟩) (by obtain ⟨_, _, _, _, hBk, _⟩ := HS.out; exact hBk.lt) HPn.out).trans HC.out)
          have HUN := Lib.hid (HU.out.trans (U3.out.mono (S' := fun k => b ≤ k ∧ k < B) (fun k _ hk => by rcases hk with rfl | rfl | rfl <;> omega)))
          go_wp2_with fail
          go_roundw
          case rel => exact ⟨i + 1, by omega, by go_num, HN.out, HCN.out, HUN.out⟩
          case measure => simp [intOf]; omega
        · have HN : Hid (clrN part ms i = clrN part ms (i + 1)) := Lib.hid (by
            have := HM.out.2
            rw [clr_keep hp, list_self _ _ _ HM.out.1] at this
            exact this)
          go_wp2_with fail
          refine (toE _ _).mono ?_
          rintro e w2 ⟨rfl, hU2⟩
          have U2 := Lib.hid hU2
          have HCN : Hid (w2.cell? ⟨P, 0, none⟩ = some (.slice (some ⟨bb, o, none⟩) ms.length cap)) := Lib.hid ((U2.out.cell (p := ⟨P, 0, none⟩) (by obtain ⟨_, _, _, _, hBk, _⟩ := HS.out; exact hBk.lt) (fun h => h)).trans HC.out)
          clear hU2 mf
          go_wp2_with fail
          go_roundw
          case rel => exact ⟨i + 1, by omega, by go_num, by rw [← HN.out]; exact HS.out.still U2.out, HCN.out, HU.out.trans (U2.out.mono (fun _ _ h => h.elim))⟩
          case measure => simp [intOf]; omega
      · have HQ := Lib.hid hSm
        have Hq := Lib.hid hq
        have mf := mto_s _ s m.c v0 m.at_ has HQ.out
        have mp := mempty_s s
        clear hSm hq hx
        by_cases hp : m.c.t = part
        · subst hp
          go_wp2_with fail
          refine (toE _ _).mono ?_
          rintro e w2 ⟨rfl, hU2⟩
          have U2 := Lib.hid hU2
          clear hU2 mf
          go_wp2_with fail
          refine (emptyS _ s m.c v0 m.at_ has ⟨HQ.out.b.upd U2.out (fun h => h)⟩).mono ?_
          rintro e w3 ⟨rfl, hQ3, hU3⟩
          have U3 := Lib.hid ((U2.out.mono (fun _ _ h => h.elim)).trans hU3)
          have Q3 := Lib.hid hQ3
          clear hU3 hQ3
          have HPn : Hid (¬ (P = s)) := Lib.hid (fun hk => by
            obtain ⟨_, _, _, _, hBk, _⟩ := HS.out
            exact absurd hk (hBk.ne_ HQ.out.b (by decide)))
          have HN : Hid (PortsS w3 b B P (clrN m.c.t ms (i + 1))) := Lib.hid (by
            have := HPut.out _ _ (m.clr m.c.t) U3.out (fun k hk => by subst hk; exact ⟨hs.1, hs.2, _, _, HQ.out.b, by decide, by decide⟩) (.inr (by
            rw [clr_s Hq.out]
            exact ⟨Hq.out, s, 0, false, rfl, hs, Q3.out, rfl⟩))
            rw [HM.out.2] at this
            exact this)
          have HCN : Hid (w3.cell? ⟨P, 0, none⟩ = some (.slice (some ⟨bb, o, none⟩) ms.length cap)) := Lib.hid ((U3.out.cell (p := ⟨P, 0, none⟩) (by obtain ⟨_, _, _, _, hBk, _⟩ := HS.out; exact hBk.lt) HPn.out).trans HC.out)
          have HUN := Lib.hid (HU.out.trans (U3.out.mono (S' := fun k => b ≤ k ∧ k < B) (fun k _ hk => by subst hk; omega)))
          go_wp2_with fail
          go_roundw
          case rel => exact ⟨i + 1, by omega, by go_num, HN.out, HCN.out, HUN.out⟩
          case measure => simp [intOf]; omega
        · have HN : Hid (clrN part ms i = clrN part ms (i + 1)) := Lib.hid (by
            have := HM.out.2
            rw [clr_keep hp, list_self _ _ _ HM.out.1] at this
            exact this)
          go_wp2_with fail
          refine (toE _ _).mono ?_
          rintro e w2 ⟨rfl, hU2⟩
          have U2 := Lib.hid hU2
          have HCN : Hid (w2.cell? ⟨P, 0, none⟩ = some (.slice (some ⟨bb, o, none⟩) ms.length cap)) := Lib.hid ((U2.out.cell (p := ⟨P, 0, none⟩) (by obtain ⟨_, _, _, _, hBk, _⟩ := HS.out; exact hBk.lt) (fun h => h)).trans HC.out)
          clear hU2 mf
          go_wp2_with fail
          go_roundw
          case rel => exact ⟨i + 1, by omega, by go_num, by rw [← HN.out]; exact HS.out.still U2.out, HCN.out, HU.out.trans (U2.out.mono (fun _ _ h => h.elim))⟩
          case measure => simp [intOf]; omega
    · have hie : i = ms.length := by omega
      subst hie
      go_wp2_with fail
      go_returns
      refine ⟨rfl, ?_, HU.out⟩
      have := HS.out
      unfold clrN at this
      rw [List.take_length, List.drop_length, List.append_nil] at this
      exact this
end Go.Proofs.Ytnhgmommehjeoaa
