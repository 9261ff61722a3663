/-
  Ports: Write.
-/
import Derived.Test.YtnhgmommehjeoaaPortB
import Derived.Test.YtnhgmommehjeoaaPortM
namespace Go.Proofs.Ytnhgmommehjeoaa
open Go.RowKit
attribute [local go_sem] max_ints min_ints

def Ch.room (c : Ch) : Nat := (min (max c.sz 0) 4096).toNat
def PM.put (m : PM) (v now : Int) : PM := if m.c.q = true then { m with xs := pushL m.c.room m.xs v, lost := if pushB m.c.room m.xs = true then m.lost else m.lost + 1 } else { m with xs := [v], at_ := now }

theorem QSt.keeps {w : World} {s g d lo hi : Nat} {c : Ch} {xs : List Int} {lost : Int} (h : QSt w s g d c xs lost) (hs : lo ≤ s ∧ s < hi) (hg : lo ≤ g ∧ g < hi) (hd : lo ≤ d ∧ d < hi) (k : Nat) (hk : k = s ∨ k = g ∨ k = d) :
    lo ≤ k ∧ k < hi ∧ ∃ t cs, Blk w k t cs ∧ t ≠ 52 ∧ t ≠ 64 := by
  obtain ⟨arr, first, n, h1, _⟩ := h.r
  rcases hk with rfl | rfl | rfl
  · exact ⟨hs.1, hs.2, _, _, h.b, by decide, by decide⟩
  · exact ⟨hg.1, hg.2, _, _, h1.st, by decide, by decide⟩
  · exact ⟨hd.1, hd.2, _, _, h1.ar, by decide, by decide⟩

set_option maxHeartbeats 1600000 in
theorem writeYes (w : World) (b B P : Nat) (ms : List PM) (h : PortsS w b B P ms) (i : Nat) (m : PM) (hm : ms[i]? = some m) (hl : 0 ≤ m.lost ∧ m.lost ≤ 1000000) (v now : Int) :
    Calls Try.prog 10 #[.pointer (some ⟨P, 0, none⟩), .int .i64 m.c.f, .int .i64 i, .int .i64 v, .int .i64 now] w fun e w' => e = .returned (.int .i64 0) ∧
      PortsS w' b B P (ms.set i (m.put v now)) ∧ Upd (fun k => b ≤ k ∧ k < B) w w' := by
  obtain ⟨u, lo, hi, hP, ⟨A, cap, c0, bb, o, hA, c1⟩, g1, g2, hput⟩ := h.pick i m hm
  have hil := (List.getElem?_eq_some_iff.1 hm).1
  have HY := Lib.hid (portYes w P ms.length A cap bb o i u c0 hA c1 hil)
  have HPut := Lib.hid hput
  clear h hm hput c0 hA c1
  rcases hP with ⟨hq, s, g, d, rfl, hs, hg, hd, hQ⟩ | ⟨hq, s, v0, has, rfl, hs, hS, hx⟩
  · have HQ := Lib.hid hQ
    have mp := mput_q s
    have Hq := Lib.hid hq
    have HL := Lib.hid hl
    clear hQ hq hl
    go_enter Try.func10, Try.ntmps10
    go_wp2_with fail
    refine HY.out.mono ?_
    rintro e w1 ⟨rfl, k1, rfl⟩
    have u1 : Upd (fun _ => False) w (w.drewN k1) := (Upd.refl _ w).drewN k1
    have mf := mfrom_q _ s g d m.c m.xs m.lost (HQ.out.upd u1 (fun h => h) (fun h => h) (fun h => h))
    have U1 := Lib.hid u1
    clear u1
    go_wp2_with fail
    refine (fromE _ _).mono ?_
    rintro e w2 ⟨rfl, hU2⟩
    have U2 := Lib.hid (U1.out.trans hU2)
    clear hU2 mf
    go_wp2_with fail
    refine (putQ_ _ s g d m.c m.xs m.lost (HQ.out.upd U2.out (fun h => h) (fun h => h) (fun h => h)) HL.out v now).mono ?_
    rintro e w3 ⟨rfl, hQ3, hU3⟩
    have U3 := Lib.hid ((U2.out.mono (fun _ _ h => h.elim)).trans hU3)
    have Q3 := Lib.hid hQ3
    clear hU3 hQ3
    go_wp2_with fail
    go_returns
    refine ⟨rfl, HPut.out _ _ _ U3.out (HQ.out.keeps hs hg hd) (.inl ?_), U3.out.mono (fun k _ hk => ?_)⟩
    · have e1 : (m.put v now).c = m.c := by unfold PM.put; rw [if_pos Hq.out]
      refine ⟨by rw [e1]; exact Hq.out, s, g, d, rfl, hs, hg, hd, ?_⟩
      have := Q3.out
      unfold PM.put; rw [if_pos Hq.out]
      exact this
    · rcases hk with rfl | rfl | rfl <;> omega
  · have HQ := Lib.hid hS
    have mp := mput_s s
    have Hq := Lib.hid hq
    have Hx := Lib.hid hx
    clear hS hq hl hx
    go_enter Try.func10, Try.ntmps10
    go_wp2_with fail
    refine HY.out.mono ?_
    rintro e w1 ⟨rfl, k1, rfl⟩
    have u1 : Upd (fun _ => False) w (w.drewN k1) := (Upd.refl _ w).drewN k1
    have mf := mfrom_s _ s m.c v0 m.at_ has ⟨HQ.out.b.upd u1 (fun h => h)⟩
    have U1 := Lib.hid u1
    clear u1
    go_wp2_with fail
    refine (fromE _ _).mono ?_
    rintro e w2 ⟨rfl, hU2⟩
    have U2 := Lib.hid (U1.out.trans hU2)
    clear hU2 mf
    go_wp2_with fail
    refine (putS_ _ s m.c v0 m.at_ has ⟨HQ.out.b.upd U2.out (fun h => h)⟩ v now).mono ?_
    rintro e w3 ⟨rfl, hQ3, hU3⟩
    have U3 := Lib.hid ((U2.out.mono (fun _ _ h => h.elim)).trans hU3)
    have Q3 := Lib.hid hQ3
    clear hU3 hQ3
    go_wp2_with fail
    go_returns
    have hqf : ¬ m.c.q = true := by rw [Hq.out]; decide
    refine ⟨rfl, HPut.out _ _ _ U3.out (fun k hk => by subst hk; exact ⟨hs.1, hs.2, _, _, HQ.out.b, by decide, by decide⟩) (.inr ?_), U3.out.mono (fun k _ hk => by omega)⟩
    unfold PM.put; rw [if_neg hqf]
    exact ⟨Hq.out, s, v, true, rfl, hs, Q3.out, rfl⟩

set_option maxHeartbeats 1600000 in
theorem writeNot (w : World) (b B P : Nat) (ms : List PM) (h : PortsS w b B P ms) (i : Nat) (m : PM) (hm : ms[i]? = some m) (part v now : Int) (hf : m.c.f ≠ part) :
    Calls Try.prog 10 #[.pointer (some ⟨P, 0, none⟩), .int .i64 part, .int .i64 i, .int .i64 v, .int .i64 now] w fun e w' => e = .returned (.int .i64 1) ∧ Upd (fun _ => False) w w' := by
  obtain ⟨u, lo, hi, hP, ⟨A, cap, c0, bb, o, hA, c1⟩, g1, g2, hput⟩ := h.pick i m hm
  have hil := (List.getElem?_eq_some_iff.1 hm).1
  have HY := Lib.hid (portYes w P ms.length A cap bb o i u c0 hA c1 hil)
  clear h hm hput c0 hA c1
  rcases hP with ⟨hq, s, g, d, rfl, hs, hg, hd, hQ⟩ | ⟨hq, s, v0, has, rfl, hs, hS, hx⟩
  · have HQ := Lib.hid hQ
    clear hQ hq
    go_enter Try.func10, Try.ntmps10
    go_wp2_with fail
    refine HY.out.mono ?_
    rintro e w1 ⟨rfl, k1, rfl⟩
    have u1 : Upd (fun _ => False) w (w.drewN k1) := (Upd.refl _ w).drewN k1
    have mf := mfrom_q _ s g d m.c m.xs m.lost (HQ.out.upd u1 (fun h => h) (fun h => h) (fun h => h))
    have U1 := Lib.hid u1
    clear u1
    go_wp2_with fail
    refine (fromE _ _).mono ?_
    rintro e w2 ⟨rfl, hU2⟩
    have U2 := Lib.hid (U1.out.trans hU2)
    clear hU2 mf
    go_wp2_with fail
    go_returns
    exact ⟨rfl, U2.out⟩
  · have HQ := Lib.hid hS
    clear hS hq hx
    go_enter Try.func10, Try.ntmps10
    go_wp2_with fail
    refine HY.out.mono ?_
    rintro e w1 ⟨rfl, k1, rfl⟩
    have u1 : Upd (fun _ => False) w (w.drewN k1) := (Upd.refl _ w).drewN k1
    have mf := mfrom_s _ s m.c v0 m.at_ has ⟨HQ.out.b.upd u1 (fun h => h)⟩
    have U1 := Lib.hid u1
    clear u1
    go_wp2_with fail
    refine (fromE _ _).mono ?_
    rintro e w2 ⟨rfl, hU2⟩
    have U2 := Lib.hid (U1.out.trans hU2)
    clear hU2 mf
    go_wp2_with fail
    go_returns
    exact ⟨rfl, U2.out⟩
theorem writeNo (w : World) (b B P : Nat) (ms : List PM) (h : PortsS w b B P ms) (ch : Int) (hc : ¬ (0 ≤ ch ∧ ch < ms.length)) (part v now : Int) :
    Calls Try.prog 10 #[.pointer (some ⟨P, 0, none⟩), .int .i64 part, .int .i64 ch, .int .i64 v, .int .i64 now] w fun e w' => e = .returned (.int .i64 1) ∧ Upd (fun _ => False) w w' := by
  have HY := Lib.hid (portNo w b B P ms h ch hc)
  clear h hc
  go_enter Try.func10, Try.ntmps10
  go_wp2_with fail
  refine HY.out.mono ?_
  rintro e w1 ⟨rfl, k1, rfl⟩
  go_wp2_with fail
  go_returns
  exact ⟨rfl, (Upd.refl _ w).drewN k1⟩
end Go.Proofs.Ytnhgmommehjeoaa
