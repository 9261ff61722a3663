/-
  Ports as a list; the walk of port.
-/
import Derived.Test.YtnhgmommehjeoaaPortA
import Derived.Test.YtnhgmommehjeoaaTu
import Derived.Test.YtnhgmommehjeoaaRws
namespace Go.Proofs.Ytnhgmommehjeoaa
open Go.RowKit
attribute [local go_sem] max_ints min_ints

/-- A port, as the document has it. -/
structure PM where
  c : Ch
  xs : List Int
  lost : Int
  at_ : Int

def encU (u : Value) : List Value := [u]
theorem encU_len (u : Value) : (encU u).length = 1 := rfl

def PortIn (w : World) (lo hi : Nat) (u : Value) (m : PM) : Prop :=
  (m.c.q = true ∧ ∃ s g d, u = .iface 53 (.pointer (some ⟨s, 0, none⟩)) ∧ (lo ≤ s ∧ s < hi) ∧ (lo ≤ g ∧ g < hi) ∧ (lo ≤ d ∧ d < hi) ∧ QSt w s g d m.c m.xs m.lost) ∨
  (m.c.q = false ∧ ∃ s v has, u = .iface 60 (.pointer (some ⟨s, 0, none⟩)) ∧ (lo ≤ s ∧ s < hi) ∧ SSt w s m.c v m.at_ has ∧ m.xs = if has = true then [v] else [])

theorem QSt.upd {w w' : World} {S : Nat → Prop} {s g d : Nat} {c : Ch} {xs : List Int} {lost : Int} (h : QSt w s g d c xs lost) (hu : Upd S w w') (hs : ¬ S s) (hg : ¬ S g) (hd : ¬ S d) : QSt w' s g d c xs lost := ⟨h.b.upd hu hs, h.r.upd hu hg hd⟩
theorem PortIn.upd {w w' : World} {S : Nat → Prop} {lo hi : Nat} {u : Value} {m : PM} (h : PortIn w lo hi u m) (hu : Upd S w w') (hS : ∀ k, lo ≤ k → k < hi → ¬ S k) : PortIn w' lo hi u m := by
  rcases h with ⟨hq, s, g, d, e, hs, hg, hd, h⟩ | ⟨hq, s, v, has, e, hs, h, hx⟩
  · exact .inl ⟨hq, s, g, d, e, hs, hg, hd, h.upd hu (hS s hs.1 hs.2) (hS g hg.1 hg.2) (hS d hd.1 hd.2)⟩
  · exact .inr ⟨hq, s, v, has, e, hs, ⟨h.b.upd hu (hS s hs.1 hs.2)⟩, hx⟩

/-- The ports at P; all of it lies from b on, ahead of B. -/
def PortsS (w : World) (b B P : Nat) (ms : List PM) : Prop :=
  ∃ (v : Value) (us : List Value) (lo hi : Nat → Nat), Blk w P 52 #[v] ∧ b ≤ P ∧ P < B ∧ SlR encU w b 64 1 v us ∧ (∀ k, slBlk v = some k → k < B) ∧ us.length = ms.length ∧
    (∀ i j : Nat, i < j → j < ms.length → hi i ≤ lo j) ∧ ∀ (i : Nat) u m, us[i]? = some u → ms[i]? = some m → b ≤ lo i ∧ hi i ≤ B ∧ PortIn w (lo i) (hi i) u m
theorem PortsS.upd {w w' : World} {S : Nat → Prop} {b B P : Nat} {ms : List PM} (h : PortsS w b B P ms) (hu : Upd S w w') (hS : ∀ k, b ≤ k → k < B → ¬ S k) : PortsS w' b B P ms := by
  obtain ⟨v, us, lo, hi, h1, h2, h3, h4, h5, h6, h7, h8⟩ := h
  refine ⟨v, us, lo, hi, h1.upd hu (hS P h2 h3), h2, h3, SlR.upd h4 hu (fun k hk => hS k (Sl.blk h4 k hk).1 (h5 k hk)), h5, h6, h7, fun i u m hu' hm => ?_⟩
  obtain ⟨g1, g2, g3⟩ := h8 i u m hu' hm
  exact ⟨g1, g2, g3.upd hu (fun k hk1 hk2 => hS k (by omega) (by omega))⟩
theorem PortsS.still {w w' : World} {b B P : Nat} {ms : List PM} (h : PortsS w b B P ms) (hu : Upd (fun _ => False) w w') : PortsS w' b B P ms := h.upd hu (fun _ _ _ h => h)
theorem PortsS.drewN {w : World} {b B P : Nat} {ms : List PM} (h : PortsS w b B P ms) (k : Nat) : PortsS (w.drewN k) b B P ms := h.still ((Upd.refl _ w).drewN k)

/-- One port, and how another state of it is put back. -/
theorem PortsS.pick {w : World} {b B P : Nat} {ms : List PM} (h : PortsS w b B P ms) (i : Nat) (m : PM) (hm : ms[i]? = some m) :
    ∃ u lo hi, PortIn w lo hi u m ∧ (∃ A cap, w.cell? ⟨P, 0, none⟩ = some (.slice A ms.length cap) ∧ ∃ bb o, A = some ⟨bb, o, none⟩ ∧ w.cell? ⟨bb, o + i, none⟩ = some u) ∧ b ≤ lo ∧ hi ≤ B ∧
      ∀ (S : Nat → Prop) (w' : World) (m' : PM), Upd S w w' → (∀ k, S k → lo ≤ k ∧ k < hi ∧ ∃ t cs, Blk w k t cs ∧ t ≠ 52 ∧ t ≠ 64) → PortIn w' lo hi u m' → PortsS w' b B P (ms.set i m') := by
  obtain ⟨v, us, lo, hi, h1, h2, h3, h4, h5, h6, h7, h8⟩ := h
  have hlt := (List.getElem?_eq_some_iff.1 hm).1
  obtain ⟨u, hu⟩ : ∃ u, us[i]? = some u := ⟨_, List.getElem?_eq_getElem (by omega)⟩
  obtain ⟨g1, g2, g3⟩ := h8 i u m hu hm
  obtain ⟨bb, o, cap, rfl, hb1, hb2, _, _⟩ := SlR.form h4 (by omega)
  refine ⟨u, lo i, hi i, g3, ⟨some ⟨bb, o, none⟩, cap, by rw [← h6]; exact h1.cell 0, bb, o, rfl, by have := SlR.cell encU_len h4 i u hu 0 u rfl; simpa using this⟩, g1, g2, fun S w' m' hU hS hP => ?_⟩
  have hne : ∀ k, S k → lo i ≤ k ∧ k < hi i := fun k hk => ⟨(hS k hk).1, (hS k hk).2.1⟩
  refine ⟨_, us, lo, hi, h1.upd hU (fun hk => ?_), h2, h3, SlR.upd h4 hU (fun k hk hk2 => ?_), h5, by rw [List.length_set]; exact h6, by rw [List.length_set]; exact h7, fun j u' m2 hu' hm2 => ?_⟩
  · obtain ⟨_, _, t, cs, hB, ht, _⟩ := hS P hk
    exact absurd rfl (h1.ne_ hB (fun e => ht e.symm))
  · obtain ⟨_, _, t, cs, hB, _, ht⟩ := hS k hk2
    exact Sl.ne_ h4 hB (fun e => ht e.symm) k hk rfl
  · by_cases e : i = j
    · subst e
      rw [List.getElem?_set_self hlt] at hm2
      injection hm2 with hm2
      subst hm2
      rw [hu] at hu'
      injection hu' with hu'
      subst hu'
      exact ⟨g1, g2, hP⟩
    · rw [List.getElem?_set_ne e] at hm2
      obtain ⟨f1, f2, f3⟩ := h8 j u' m2 hu' hm2
      have hjl := (List.getElem?_eq_some_iff.1 hm2).1
      refine ⟨f1, f2, f3.upd hU (fun k hk1 hk2 hk => ?_)⟩
      have := hne k hk
      rcases Nat.lt_or_gt_of_ne e with hlt' | hgt
      · have := h7 i j hlt' hjl; omega
      · have := h7 j i hgt hlt; omega
theorem PortsS.cell {w : World} {b B P : Nat} {ms : List PM} (h : PortsS w b B P ms) : ∃ A cap, w.cell? ⟨P, 0, none⟩ = some (.slice A ms.length cap) := by
  obtain ⟨v, us, lo, hi, h1, h2, h3, h4, h5, h6, h7, h8⟩ := h
  obtain ⟨A, cap, rfl⟩ := h4.shape
  exact ⟨A, cap, by rw [← h6]; exact h1.cell 0⟩

set_option maxHeartbeats 800000 in
theorem portNo (w : World) (b B P : Nat) (ms : List PM) (h : PortsS w b B P ms) (ch : Int) (hc : ¬ (0 ≤ ch ∧ ch < ms.length)) :
    Calls Try.prog 21 #[.pointer (some ⟨P, 0, none⟩), .int .i64 ch] w fun e w' => e = .returned .nilIface ∧ ∃ k, w' = w.drewN k := by
  obtain ⟨A, cap, c0⟩ := h.cell
  clear h
  by_cases h0 : 0 ≤ ch
  · have d0 : decide (ch < 0) = false := decide_eq_false (by omega)
    have d1 : decide ((ms.length : Int) ≤ ch) = true := decide_eq_true (by omega)
    go_enter Try.func21, Try.ntmps21
    go_wp2_with fail
    go_returns
    exact ⟨rfl, 0, rfl⟩
  · have d0 : decide (ch < 0) = true := decide_eq_true (by omega)
    go_enter Try.func21, Try.ntmps21
    go_wp2_with fail
    go_returns
    exact ⟨rfl, 0, rfl⟩

set_option maxHeartbeats 800000 in
theorem portYes (w : World) (P : Nat) (n : Nat) (A : Option Addr) (cap bb o : Nat) (i : Nat) (u : Value) (c0 : w.cell? ⟨P, 0, none⟩ = some (.slice A n cap)) (hA : A = some ⟨bb, o, none⟩) (c1 : w.cell? ⟨bb, o + i, none⟩ = some u) (hi : i < n) :
    Calls Try.prog 21 #[.pointer (some ⟨P, 0, none⟩), .int .i64 i] w fun e w' => e = .returned u ∧ ∃ k, w' = w.drewN k := by
  subst hA
  have d0 : decide ((i : Int) < 0) = false := decide_eq_false (by omega)
  have d1 : decide ((n : Int) ≤ (i : Int)) = false := decide_eq_false (by omega)
  go_enter Try.func21, Try.ntmps21
  go_wp2_with fail
  go_returns
  exact ⟨rfl, 0, rfl⟩

end Go.Proofs.Ytnhgmommehjeoaa
