/-
  Ports: Read, Waiting. (Written by ports.py.)
-/
import Derived.Test.YtnhgmommehjeoaaPortC
namespace Go.Proofs.Ytnhgmommehjeoaa
open Go.RowKit
attribute [local go_sem] max_ints min_ints

def PM.got (m : PM) : PM := if m.c.q = true then { m with xs := m.xs.tail, lost := if popB m.xs = true then 0 else m.lost } else m
def PM.out (m : PM) (now : Int) : Int × Int × Int := match m.xs with
  | [] => (0, 0, 6)
  | x :: _ => (x, if m.c.q = true then m.lost else if IntKind.i64.wrap (now - m.at_) ≤ m.c.sz then 1 else 0, 0)
def outV (x : Int × Int × Int) : Value := .tuple #[.int .i64 x.1, .int .i64 x.2.1, .int .i64 x.2.2]
theorem PM.out_nil {m : PM} {now : Int} (h : m.xs = []) : m.out now = (0, 0, 6) := by unfold PM.out; rw [h]
theorem PM.out_q {m : PM} {now x : Int} {t : List Int} (h : m.xs = x :: t) (hq : m.c.q = true) : m.out now = (x, m.lost, 0) := by unfold PM.out; rw [h]; simp [hq]
theorem PM.out_s {m : PM} {now x : Int} {t : List Int} (h : m.xs = x :: t) (hq : m.c.q = false) (b : Bool) (hb : decide (IntKind.i64.wrap (now - m.at_) ≤ m.c.sz) = b) : m.out now = (x, if b = true then 1 else 0, 0) := by
  unfold PM.out; rw [h]; subst hb; simp [hq]
theorem PM.got_q {m : PM} (hq : m.c.q = true) : m.got = { m with xs := m.xs.tail, lost := if popB m.xs = true then 0 else m.lost } := by unfold PM.got; rw [if_pos hq]
theorem PM.got_s {m : PM} (hq : m.c.q = false) : m.got = m := by unfold PM.got; rw [if_neg (by rw [hq]; decide)]
theorem list_self {α : Type} (l : List α) (i : Nat) (m : α) (h : l[i]? = some m) : l.set i m = l := by
  obtain ⟨h1, h2⟩ := List.getElem?_eq_some_iff.1 h
  rw [← h2]; exact List.set_getElem_self h1
theorem PortsS.drop {w w' : World} {b B P : Nat} {ms : List PM} (h : PortsS w b B P ms) (hu : Upd (fun _ => False) w w') : PortsS w' b B P ms ∧ Upd (fun k => b ≤ k ∧ k < B) w w' := ⟨h.still hu, hu.mono (fun _ _ h => h.elim)⟩
set_option maxHeartbeats 1600000 in
theorem readYes (w : World) (b B P : Nat) (ms : List PM) (h : PortsS w b B P ms) (i : Nat) (m : PM) (hm : ms[i]? = some m) (now : Int) :
    Calls Try.prog 11 #[.pointer (some ⟨P, 0, none⟩), .int .i64 m.c.t, .int .i64 i, .int .i64 now] w fun e w' => e = .returned (outV (m.out now)) ∧
      PortsS w' b B P (ms.set i m.got) ∧ Upd (fun k => b ≤ k ∧ k < B) w w' := by
  obtain ⟨u, lo, hi, hP, ⟨A, cap, c0, bb, o, hA, c1⟩, g1, g2, hput⟩ := h.pick i m hm
  have hil := (List.getElem?_eq_some_iff.1 hm).1
  have HY := Lib.hid (portYes w P ms.length A cap bb o i u c0 hA c1 hil)
  have HPut := Lib.hid hput
  have HS := Lib.hid h
  have HM := Lib.hid hm
  clear h hm hput c0 hA c1
  rcases hP with ⟨hq, s, g, d, rfl, hs, hg, hd, hQ⟩ | ⟨hq, s, v0, has, rfl, hs, hS, hx⟩
  · have HQ := Lib.hid hQ
    have mp := mget_q s
    have Hq := Lib.hid hq
    obtain ⟨xs, hxs⟩ : ∃ xs, m.xs = xs := ⟨_, rfl⟩
    clear hQ hq
    cases xs with
    | nil =>
      have HX := Lib.hid hxs
      have HQ' := HQ.out
      rw [hxs] at HQ'
      have HQx := Lib.hid HQ'
      clear hxs HQ'
      go_enter Try.func11, Try.ntmps11
      go_wp2_with fail
      refine HY.out.mono ?_
      rintro e w1 ⟨rfl, k1, rfl⟩
      have u1 : Upd (fun _ => False) w (w.drewN k1) := (Upd.refl _ w).drewN k1
      have mf := mto_q _ s g d m.c m.xs m.lost (HQ.out.upd u1 (fun h => h) (fun h => h) (fun h => h))
      have U1 := Lib.hid u1
      clear u1
      go_wp2_with fail
      refine (toE _ _).mono ?_
      rintro e w2 ⟨rfl, hU2⟩
      have U2 := Lib.hid (U1.out.trans hU2)
      clear hU2 mf
      go_wp2_with fail
      refine (getQ _ s g d m.c ([] : List Int) m.lost (HQx.out.upd U2.out (fun h => h) (fun h => h) (fun h => h)) now).mono ?_
      rintro e w3 ⟨he, hQ3, hU3⟩
      have he' : e = .returned (.tuple #[.int .i64 0, .int .i64 0, .bool false]) := he
      clear he
      subst he'
      have hQ3' : QSt w3 s g d m.c ([] : List Int) m.lost := hQ3
      have U3 := Lib.hid ((U2.out.mono (fun _ _ h => h.elim)).trans hU3)
      have Q3 := Lib.hid hQ3'
      clear hU3 hQ3 hQ3'
      go_wp2_with fail
      go_returns
      refine ⟨by rw [PM.out_nil HX.out]; rfl, HPut.out _ _ _ U3.out (HQ.out.keeps hs hg hd) (.inl ?_), U3.out.mono (fun k _ hk => ?_)⟩
      · rw [PM.got_q Hq.out, HX.out]
        exact ⟨Hq.out, s, g, d, rfl, hs, hg, hd, Q3.out⟩
      · rcases hk with rfl | rfl | rfl <;> omega
    | cons x t =>
      have HX := Lib.hid hxs
      have HQ' := HQ.out
      rw [hxs] at HQ'
      have HQx := Lib.hid HQ'
      clear hxs HQ'
      go_enter Try.func11, Try.ntmps11
      go_wp2_with fail
      refine HY.out.mono ?_
      rintro e w1 ⟨rfl, k1, rfl⟩
      have u1 : Upd (fun _ => False) w (w.drewN k1) := (Upd.refl _ w).drewN k1
      have mf := mto_q _ s g d m.c m.xs m.lost (HQ.out.upd u1 (fun h => h) (fun h => h) (fun h => h))
      have U1 := Lib.hid u1
      clear u1
      go_wp2_with fail
      refine (toE _ _).mono ?_
      rintro e w2 ⟨rfl, hU2⟩
      have U2 := Lib.hid (U1.out.trans hU2)
      clear hU2 mf
      go_wp2_with fail
      refine (getQ _ s g d m.c (x :: t) m.lost (HQx.out.upd U2.out (fun h => h) (fun h => h) (fun h => h)) now).mono ?_
      rintro e w3 ⟨he, hQ3, hU3⟩
      have he' : e = .returned (.tuple #[.int .i64 x, .int .i64 m.lost, .bool true]) := he
      clear he
      subst he'
      have hQ3' : QSt w3 s g d m.c t 0 := hQ3
      have U3 := Lib.hid ((U2.out.mono (fun _ _ h => h.elim)).trans hU3)
      have Q3 := Lib.hid hQ3'
      clear hU3 hQ3 hQ3'
      go_wp2_with fail
      go_returns
      refine ⟨by rw [PM.out_q (HX.out) Hq.out]; rfl, HPut.out _ _ _ U3.out (HQ.out.keeps hs hg hd) (.inl ?_), U3.out.mono (fun k _ hk => ?_)⟩
      · rw [PM.got_q Hq.out, HX.out]
        exact ⟨Hq.out, s, g, d, rfl, hs, hg, hd, Q3.out⟩
      · rcases hk with rfl | rfl | rfl <;> omega
  · have HQ := Lib.hid hS
    have mp := mget_s s
    have Hq := Lib.hid hq
    clear hS hq
    cases has with
    | false =>
      have HX := Lib.hid hx
      clear hx
      go_enter Try.func11, Try.ntmps11
      go_wp2_with fail
      refine HY.out.mono ?_
      rintro e w1 ⟨rfl, k1, rfl⟩
      have u1 : Upd (fun _ => False) w (w.drewN k1) := (Upd.refl _ w).drewN k1
      have mf := mto_s _ s m.c v0 m.at_ _ ⟨HQ.out.b.upd u1 (fun h => h)⟩
      have U1 := Lib.hid u1
      clear u1
      go_wp2_with fail
      refine (toE _ _).mono ?_
      rintro e w2 ⟨rfl, hU2⟩
      have U2 := Lib.hid (U1.out.trans hU2)
      clear hU2 mf
      go_wp2_with fail
      refine (getS _ s m.c v0 m.at_ false ⟨HQ.out.b.upd U2.out (fun h => h)⟩ now false rfl).mono ?_
      rintro e w3 ⟨he, k3, rfl⟩
      have he' : e = .returned (.tuple #[.int .i64 v0, .int .i64 0, .bool false]) := he
      clear he
      subst he'
      go_wp2_with fail
      go_returns
      refine ⟨by rw [PM.out_nil HX.out]; rfl, ?_⟩
      rw [PM.got_s Hq.out, list_self _ _ _ HM.out]
      exact HS.out.drop (U2.out.drewN k3)
    | true =>
      obtain ⟨f, hf⟩ : ∃ f, decide (IntKind.i64.wrap (now - m.at_) ≤ m.c.sz) = f := ⟨_, rfl⟩
      obtain ⟨n, hn⟩ : ∃ n, (if f = true then (1 : Int) else 0) = n := ⟨_, rfl⟩
      have HX := Lib.hid hx
      have HF := Lib.hid hf
      have HN := Lib.hid hn
      clear hx hf hn
      go_enter Try.func11, Try.ntmps11
      go_wp2_with fail
      refine HY.out.mono ?_
      rintro e w1 ⟨rfl, k1, rfl⟩
      have u1 : Upd (fun _ => False) w (w.drewN k1) := (Upd.refl _ w).drewN k1
      have mf := mto_s _ s m.c v0 m.at_ _ ⟨HQ.out.b.upd u1 (fun h => h)⟩
      have U1 := Lib.hid u1
      clear u1
      go_wp2_with fail
      refine (toE _ _).mono ?_
      rintro e w2 ⟨rfl, hU2⟩
      have U2 := Lib.hid (U1.out.trans hU2)
      clear hU2 mf
      go_wp2_with fail
      refine (getS _ s m.c v0 m.at_ true ⟨HQ.out.b.upd U2.out (fun h => h)⟩ now f (by rw [HF.out]; rfl)).mono ?_
      rintro e w3 ⟨he, k3, rfl⟩
      rw [HN.out] at he
      subst he
      go_wp2_with fail
      go_returns
      refine ⟨by rw [PM.out_s HX.out Hq.out f HF.out, HN.out]; rfl, ?_⟩
      rw [PM.got_s Hq.out, list_self _ _ _ HM.out]
      exact HS.out.drop (U2.out.drewN k3)

set_option maxHeartbeats 1600000 in
theorem readNot (w : World) (b B P : Nat) (ms : List PM) (h : PortsS w b B P ms) (i : Nat) (m : PM) (hm : ms[i]? = some m) (part now : Int) (hf : m.c.t ≠ part) :
    Calls Try.prog 11 #[.pointer (some ⟨P, 0, none⟩), .int .i64 part, .int .i64 i, .int .i64 now] w fun e w' => e = .returned (outV (0, 0, 1)) ∧ Upd (fun _ => False) w w' := by
  obtain ⟨u, lo, hi, hP, ⟨A, cap, c0, bb, o, hA, c1⟩, g1, g2, hput⟩ := h.pick i m hm
  have hil := (List.getElem?_eq_some_iff.1 hm).1
  have HY := Lib.hid (portYes w P ms.length A cap bb o i u c0 hA c1 hil)
  have HPut := Lib.hid hput
  have HS := Lib.hid h
  have HM := Lib.hid hm
  clear h hm hput c0 hA c1
  rcases hP with ⟨hq, s, g, d, rfl, hs, hg, hd, hQ⟩ | ⟨hq, s, v0, has, rfl, hs, hS, hx⟩
  · have HQ := Lib.hid hQ
    clear hQ hq
    go_enter Try.func11, Try.ntmps11
    go_wp2_with fail
    refine HY.out.mono ?_
    rintro e w1 ⟨rfl, k1, rfl⟩
    have u1 : Upd (fun _ => False) w (w.drewN k1) := (Upd.refl _ w).drewN k1
    have mf := mto_q _ s g d m.c m.xs m.lost (HQ.out.upd u1 (fun h => h) (fun h => h) (fun h => h))
    have U1 := Lib.hid u1
    clear u1
    go_wp2_with fail
    refine (toE _ _).mono ?_
    rintro e w2 ⟨rfl, hU2⟩
    have U2 := Lib.hid (U1.out.trans hU2)
    clear hU2 mf
    go_wp2_with fail
    go_returns
    exact ⟨rfl, U2.out⟩
  · have HQ := Lib.hid hS
    clear hS hq hx
    go_enter Try.func11, Try.ntmps11
    go_wp2_with fail
    refine HY.out.mono ?_
    rintro e w1 ⟨rfl, k1, rfl⟩
    have u1 : Upd (fun _ => False) w (w.drewN k1) := (Upd.refl _ w).drewN k1
    have mf := mto_s _ s m.c v0 m.at_ _ ⟨HQ.out.b.upd u1 (fun h => h)⟩
    have U1 := Lib.hid u1
    clear u1
    go_wp2_with fail
    refine (toE _ _).mono ?_
    rintro e w2 ⟨rfl, hU2⟩
    have U2 := Lib.hid (U1.out.trans hU2)
    clear hU2 mf
    go_wp2_with fail
    go_returns
    exact ⟨rfl, U2.out⟩

theorem readNo (w : World) (b B P : Nat) (ms : List PM) (h : PortsS w b B P ms) (ch : Int) (hc : ¬ (0 ≤ ch ∧ ch < ms.length)) (part now : Int) :
    Calls Try.prog 11 #[.pointer (some ⟨P, 0, none⟩), .int .i64 part, .int .i64 ch, .int .i64 now] w fun e w' => e = .returned (outV (0, 0, 1)) ∧ Upd (fun _ => False) w w' := by
  have HY := Lib.hid (portNo w b B P ms h ch hc)
  clear h hc
  go_enter Try.func11, Try.ntmps11
  go_wp2_with fail
  refine HY.out.mono ?_
  rintro e w1 ⟨rfl, k1, rfl⟩
  go_wp2_with fail
  go_returns
  exact ⟨rfl, (Upd.refl _ w).drewN k1⟩
theorem waitNo (w : World) (b B P : Nat) (ms : List PM) (h : PortsS w b B P ms) (ch : Int) (hc : ¬ (0 ≤ ch ∧ ch < ms.length)) :
    Calls Try.prog 12 #[.pointer (some ⟨P, 0, none⟩), .int .i64 ch] w fun e w' => e = .returned (.int .i64 0) ∧ Upd (fun _ => False) w w' := by
  have HY := Lib.hid (portNo w b B P ms h ch hc)
  clear h hc
  go_enter Try.func12, Try.ntmps12
  go_wp2_with fail
  refine HY.out.mono ?_
  rintro e w1 ⟨rfl, k1, rfl⟩
  go_wp2_with fail
  go_returns
  exact ⟨rfl, (Upd.refl _ w).drewN k1⟩

set_option maxHeartbeats 1600000 in
theorem waitYes (w : World) (b B P : Nat) (ms : List PM) (h : PortsS w b B P ms) (i : Nat) (m : PM) (hm : ms[i]? = some m) :
    Calls Try.prog 12 #[.pointer (some ⟨P, 0, none⟩), .int .i64 i] w fun e w' => e = .returned (.int .i64 m.xs.length) ∧ Upd (fun _ => False) w w' := by
  obtain ⟨u, lo, hi, hP, ⟨A, cap, c0, bb, o, hA, c1⟩, g1, g2, hput⟩ := h.pick i m hm
  have hil := (List.getElem?_eq_some_iff.1 hm).1
  have HY := Lib.hid (portYes w P ms.length A cap bb o i u c0 hA c1 hil)
  have HPut := Lib.hid hput
  have HS := Lib.hid h
  have HM := Lib.hid hm
  clear h hm hput c0 hA c1
  rcases hP with ⟨hq, s, g, d, rfl, hs, hg, hd, hQ⟩ | ⟨hq, s, v0, has, rfl, hs, hS, hx⟩
  · have HQ := Lib.hid hQ
    have mp := mcount_q s
    clear hQ hq
    go_enter Try.func12, Try.ntmps12
    go_wp2_with fail
    refine HY.out.mono ?_
    rintro e w1 ⟨rfl, k1, rfl⟩
    have u1 : Upd (fun _ => False) w (w.drewN k1) := (Upd.refl _ w).drewN k1
    have U1 := Lib.hid u1
    clear u1
    go_wp2_with fail
    refine (countQ _ s g d m.c m.xs m.lost (HQ.out.upd U1.out (fun h => h) (fun h => h) (fun h => h))).mono ?_
    rintro e w2 ⟨rfl, k2, rfl⟩
    go_wp2_with fail
    go_returns
    exact ⟨rfl, (Upd.refl _ w).drewN _⟩
  · have HQ := Lib.hid hS
    have mp := mcount_s s
    obtain ⟨n, hn⟩ : ∃ n : Int, (if has = true then (1 : Int) else 0) = n := ⟨_, rfl⟩
    have hn2 : (m.xs.length : Int) = n := by rw [hx, ← hn]; cases has <;> rfl
    have HN := Lib.hid hn
    have HN2 := Lib.hid hn2
    clear hS hq hx hn hn2
    go_enter Try.func12, Try.ntmps12
    go_wp2_with fail
    refine HY.out.mono ?_
    rintro e w1 ⟨rfl, k1, rfl⟩
    have u1 : Upd (fun _ => False) w (w.drewN k1) := (Upd.refl _ w).drewN k1
    have U1 := Lib.hid u1
    clear u1
    go_wp2_with fail
    refine (countS _ s m.c v0 m.at_ has ⟨HQ.out.b.upd U1.out (fun h => h)⟩).mono ?_
    rintro e w2 ⟨rfl, k2, rfl⟩
    rw [HN.out]
    go_wp2_with fail
    go_returns
    refine ⟨?_, (Upd.refl _ w).drewN _⟩
    show Ending.returned (.int .i64 n) = _
    rw [HN2.out]
end Go.Proofs.Ytnhgmommehjeoaa
