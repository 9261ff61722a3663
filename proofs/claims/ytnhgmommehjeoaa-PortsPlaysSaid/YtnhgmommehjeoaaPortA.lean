/-
  A port of either kind: its methods.
-/
import Derived.Test.YtnhgmommehjeoaaRingC
namespace Go.Proofs.Ytnhgmommehjeoaa
open Go.RowKit
attribute [local go_sem] max_ints min_ints

theorem wrap_in (x : Int) (h0 : -9223372036854775808 ≤ x) (h1 : x ≤ 9223372036854775807) : IntKind.i64.wrap x = x := by rw [IntKind.wrap_i64]; omega
theorem wrap64_in (x : Int) (h0 : -9223372036854775808 ≤ x) (h1 : x ≤ 9223372036854775807) : wrap64 x = x := by unfold wrap64; omega

structure Ch where
  q : Bool
  f : Int
  t : Int
  sz : Int

/-- A queue: its struct at s, its row at g, d. -/
structure QSt (w : World) (s g d : Nat) (c : Ch) (xs : List Int) (lost : Int) : Prop where
  b : Blk w s 59 #[.bool c.q, .int .i64 c.f, .int .i64 c.t, .int .i64 c.sz, .pointer (some ⟨g, 0, none⟩), .int .i64 lost]
  r : RSt w g d (min (max c.sz 0) 4096).toNat xs

theorem RSt.ne_q {w : World} {s g d room : Nat} {cs : Array Value} {xs : List Int} (hs : Blk w s 59 cs) (h : RSt w g d room xs) : s ≠ g ∧ s ≠ d := by
  obtain ⟨arr, first, n, h1, _⟩ := h
  exact ⟨hs.ne_ h1.st (by decide), hs.ne_ h1.ar (by decide)⟩

set_option maxHeartbeats 800000 in
theorem putQ_ (w : World) (s g d : Nat) (c : Ch) (xs : List Int) (lost : Int) (h : QSt w s g d c xs lost) (hl : 0 ≤ lost ∧ lost ≤ 1000000) (v now : Int) :
    Calls Try.prog 41 #[.pointer (some ⟨s, 0, none⟩), .int .i64 v, .int .i64 now] w fun e w' => e = .returned (.tuple #[]) ∧
      QSt w' s g d c (pushL (min (max c.sz 0) 4096).toNat xs v) (if pushB (min (max c.sz 0) 4096).toNat xs = true then lost else lost + 1) ∧ Upd (fun k => k = s ∨ k = g ∨ k = d) w w' := by
  have c4 : w.cell? ⟨s, 4, none⟩ = some (.pointer (some ⟨g, 0, none⟩)) := h.b.cell 4
  have HB := Lib.hid h.b; have HR := Lib.hid h.r
  have hne := RSt.ne_q h.b h.r
  obtain ⟨b, hb⟩ : ∃ b, pushB (min (max c.sz 0) 4096).toNat xs = b := ⟨_, rfl⟩
  obtain ⟨l', hl'⟩ : ∃ l', pushL (min (max c.sz 0) 4096).toNat xs v = l' := ⟨_, rfl⟩
  rw [hb, hl']
  have HP := Lib.hid hb; have HL' := Lib.hid hl'
  clear h hb hl'
  go_enter Try.func41, Try.ntmps41
  go_wp2_with fail
  refine (pushI_any _ g d _ xs HR.out v b HP.out l' HL'.out).mono ?_
  rintro e w1 ⟨rfl, hR, hU⟩
  have R1 := Lib.hid hR; have U1 := Lib.hid hU
  have hB1 := HB.out.upd hU (fun h => by rcases h with h | h; exact hne.1 h; exact hne.2 h)
  have B1 := Lib.hid hB1
  have c5 : w1.cell? ⟨s, 5, none⟩ = some (.int .i64 lost) := hB1.cell 5
  have f5 := hB1.frozen 5
  clear hR hU hB1 c4
  cases b
  · have w1' := wrap_in (lost + 1) (by omega) (by omega)
    go_wp2_with fail
    go_returns
    refine ⟨rfl, ⟨?_, R1.out.upd ((Upd.refl (fun k => k = s) w1).setCell (p := ⟨s, 5, none⟩) (fun _ => rfl) _) (fun h => hne.1 h.symm) (fun h => hne.2 h.symm)⟩, (U1.out.mono (fun k _ h => .inr h)).setCell (p := ⟨s, 5, none⟩) (fun _ => .inl rfl) _⟩
    have := B1.out.set_ 5 (.int .i64 (lost + 1))
    simpa using this
  · go_wp2_with fail
    go_returns
    exact ⟨rfl, ⟨B1.out, R1.out⟩, U1.out.mono (fun k _ h => .inr h)⟩

set_option maxHeartbeats 800000 in
theorem getQ (w : World) (s g d : Nat) (c : Ch) (xs : List Int) (lost : Int) (h : QSt w s g d c xs lost) (now : Int) :
    Calls Try.prog 40 #[.pointer (some ⟨s, 0, none⟩), .int .i64 now] w fun e w' => e = .returned (.tuple #[.int .i64 (popX xs), .int .i64 (if popB xs = true then lost else 0), .bool (popB xs)]) ∧
      QSt w' s g d c xs.tail (if popB xs = true then 0 else lost) ∧ Upd (fun k => k = s ∨ k = g ∨ k = d) w w' := by
  have c4 : w.cell? ⟨s, 4, none⟩ = some (.pointer (some ⟨g, 0, none⟩)) := h.b.cell 4
  have HB := Lib.hid h.b; have HR := Lib.hid h.r
  have hne := RSt.ne_q h.b h.r
  obtain ⟨b, hb⟩ : ∃ b, popB xs = b := ⟨_, rfl⟩
  obtain ⟨x, hx⟩ : ∃ x, popX xs = x := ⟨_, rfl⟩
  obtain ⟨l', hl'⟩ : ∃ l', xs.tail = l' := ⟨_, rfl⟩
  have hx0 : b = false → x = 0 := fun h => by
    rw [h] at hb
    cases xs with
    | nil => rw [← hx]; rfl
    | cons y t => simp [popB] at hb
  rw [hb, hx, hl']
  have HP := Lib.hid hb; have HX := Lib.hid hx; have HL' := Lib.hid hl'; have HX0 := Lib.hid hx0
  clear h hb hl' hx hx0
  go_enter Try.func40, Try.ntmps40
  go_wp2_with fail
  refine (popI_any _ g d _ xs HR.out x HX.out b HP.out l' HL'.out).mono ?_
  rintro e w1 ⟨rfl, hR, hU⟩
  have R1 := Lib.hid hR; have U1 := Lib.hid hU
  have hB1 := HB.out.upd hU (fun h => by rcases h with h | h; exact hne.1 h; exact hne.2 h)
  have B1 := Lib.hid hB1
  have c5 : w1.cell? ⟨s, 5, none⟩ = some (.int .i64 lost) := hB1.cell 5
  have f5 := hB1.frozen 5
  clear hR hU hB1 c4
  cases b
  · have hxz := HX0.out rfl
    subst hxz
    go_wp2_with fail
    go_returns
    exact ⟨rfl, ⟨B1.out, R1.out⟩, U1.out.mono (fun k _ h => .inr h)⟩
  · go_wp2_with fail
    go_returns
    refine ⟨rfl, ⟨?_, R1.out.upd ((Upd.refl (fun k => k = s) w1).setCell (p := ⟨s, 5, none⟩) (fun _ => rfl) _) (fun h => hne.1 h.symm) (fun h => hne.2 h.symm)⟩, (U1.out.mono (fun k _ h => .inr h)).setCell (p := ⟨s, 5, none⟩) (fun _ => .inl rfl) _⟩
    have := B1.out.set_ 5 (.int .i64 0)
    simpa using this

set_option maxHeartbeats 800000 in
theorem emptyQ (w : World) (s g d : Nat) (c : Ch) (xs : List Int) (lost : Int) (h : QSt w s g d c xs lost) :
    Calls Try.prog 38 #[.pointer (some ⟨s, 0, none⟩)] w fun e w' => e = .returned (.tuple #[]) ∧ QSt w' s g d c [] 0 ∧ Upd (fun k => k = s ∨ k = g ∨ k = d) w w' := by
  have c4 : w.cell? ⟨s, 4, none⟩ = some (.pointer (some ⟨g, 0, none⟩)) := h.b.cell 4
  have HB := Lib.hid h.b; have HR := Lib.hid h.r
  have hne := RSt.ne_q h.b h.r
  clear h
  go_enter Try.func38, Try.ntmps38
  go_wp2_with fail
  refine (clearI_any _ g d _ xs HR.out).mono ?_
  rintro e w1 ⟨rfl, hR, hU⟩
  have R1 := Lib.hid hR; have U1 := Lib.hid hU
  have hB1 := HB.out.upd hU (fun h => by rcases h with h | h; exact hne.1 h; exact hne.2 h)
  have B1 := Lib.hid hB1
  have c5 : w1.cell? ⟨s, 5, none⟩ = some (.int .i64 lost) := hB1.cell 5
  have f5 := hB1.frozen 5
  clear hR hU hB1 c4
  go_wp2_with fail
  go_returns
  refine ⟨rfl, ⟨?_, R1.out.upd ((Upd.refl (fun k => k = s) w1).setCell (p := ⟨s, 5, none⟩) (fun _ => rfl) _) (fun h => hne.1 h.symm) (fun h => hne.2 h.symm)⟩, (U1.out.mono (fun k _ h => .inr h)).setCell (p := ⟨s, 5, none⟩) (fun _ => .inl rfl) _⟩
  have := B1.out.set_ 5 (.int .i64 0)
  simpa using this

set_option maxHeartbeats 800000 in
theorem countQ (w : World) (s g d : Nat) (c : Ch) (xs : List Int) (lost : Int) (h : QSt w s g d c xs lost) :
    Calls Try.prog 37 #[.pointer (some ⟨s, 0, none⟩)] w fun e w' => e = .returned (.int .i64 xs.length) ∧ ∃ k, w' = w.drewN k := by
  have c4 : w.cell? ⟨s, 4, none⟩ = some (.pointer (some ⟨g, 0, none⟩)) := h.b.cell 4
  have HR := Lib.hid h.r
  clear h
  go_enter Try.func37, Try.ntmps37
  go_wp2_with fail
  refine (lenI_any _ g d _ xs HR.out).mono ?_
  rintro e w1 ⟨rfl, k1, rfl⟩
  go_wp2_with fail
  go_returns
  exact ⟨rfl, k1, rfl⟩

/-- Another port: the last message, if any. -/
structure SSt (w : World) (s : Nat) (c : Ch) (v at_ : Int) (has : Bool) : Prop where
  b : Blk w s 62 #[.bool c.q, .int .i64 c.f, .int .i64 c.t, .int .i64 c.sz, .int .i64 v, .int .i64 at_, .bool has]

set_option maxHeartbeats 800000 in
theorem putS_ (w : World) (s : Nat) (c : Ch) (v at_ : Int) (has : Bool) (h : SSt w s c v at_ has) (x now : Int) :
    Calls Try.prog 54 #[.pointer (some ⟨s, 0, none⟩), .int .i64 x, .int .i64 now] w fun e w' => e = .returned (.tuple #[]) ∧ SSt w' s c x now true ∧ Upd (fun k => k = s) w w' := by
  have c4 : w.cell? ⟨s, 4, none⟩ = some (.int .i64 v) := h.b.cell 4
  have c5 : w.cell? ⟨s, 5, none⟩ = some (.int .i64 at_) := h.b.cell 5
  have c6 : w.cell? ⟨s, 6, none⟩ = some (.bool has) := h.b.cell 6
  have f4 := h.b.frozen 4
  have f5 := h.b.frozen 5
  have f6 := h.b.frozen 6
  have HB := Lib.hid h.b
  clear h
  go_enter Try.func54, Try.ntmps54
  go_wp2_with fail
  go_returns
  refine ⟨rfl, ⟨?_⟩, (((Upd.refl (fun k => k = s) w).setCell (p := ⟨s, 4, none⟩) (fun _ => rfl) _).setCell (p := ⟨s, 5, none⟩) (fun _ => rfl) _).setCell (p := ⟨s, 6, none⟩) (fun _ => rfl) _⟩
  have := ((HB.out.set_ 4 (.int .i64 x)).set_ 5 (.int .i64 now)).set_ 6 (.bool true)
  simpa using this

set_option maxHeartbeats 800000 in
theorem emptyS (w : World) (s : Nat) (c : Ch) (v at_ : Int) (has : Bool) (h : SSt w s c v at_ has) :
    Calls Try.prog 52 #[.pointer (some ⟨s, 0, none⟩)] w fun e w' => e = .returned (.tuple #[]) ∧ SSt w' s c 0 at_ false ∧ Upd (fun k => k = s) w w' := by
  have c4 : w.cell? ⟨s, 4, none⟩ = some (.int .i64 v) := h.b.cell 4
  have c6 : w.cell? ⟨s, 6, none⟩ = some (.bool has) := h.b.cell 6
  have f4 := h.b.frozen 4
  have f6 := h.b.frozen 6
  have HB := Lib.hid h.b
  clear h
  go_enter Try.func52, Try.ntmps52
  go_wp2_with fail
  go_returns
  refine ⟨rfl, ⟨?_⟩, ((Upd.refl (fun k => k = s) w).setCell (p := ⟨s, 4, none⟩) (fun _ => rfl) _).setCell (p := ⟨s, 6, none⟩) (fun _ => rfl) _⟩
  have := (HB.out.set_ 4 (.int .i64 0)).set_ 6 (.bool false)
  simpa using this

set_option maxHeartbeats 800000 in
theorem countS (w : World) (s : Nat) (c : Ch) (v at_ : Int) (has : Bool) (h : SSt w s c v at_ has) :
    Calls Try.prog 51 #[.pointer (some ⟨s, 0, none⟩)] w fun e w' => e = .returned (.int .i64 (if has = true then 1 else 0)) ∧ ∃ k, w' = w.drewN k := by
  have c6 : w.cell? ⟨s, 6, none⟩ = some (.bool has) := h.b.cell 6
  clear h
  cases has
  all_goals
    go_enter Try.func51, Try.ntmps51
    go_wp2_with fail
    go_returns
    exact ⟨rfl, 0, rfl⟩

set_option maxRecDepth 100000 in
set_option maxHeartbeats 800000 in
theorem getS (w : World) (s : Nat) (c : Ch) (v at_ : Int) (has : Bool) (h : SSt w s c v at_ has) (now : Int) (b : Bool) (hb : (has && decide (IntKind.i64.wrap (now - at_) ≤ c.sz)) = b) :
    Calls Try.prog 53 #[.pointer (some ⟨s, 0, none⟩), .int .i64 now] w fun e w' => e = .returned (.tuple #[.int .i64 v, .int .i64 (if b = true then 1 else 0), .bool has]) ∧ ∃ k, w' = w.drewN k := by
  have c3 : w.cell? ⟨s, 3, none⟩ = some (.int .i64 c.sz) := h.b.cell 3
  have c4 : w.cell? ⟨s, 4, none⟩ = some (.int .i64 v) := h.b.cell 4
  have c5 : w.cell? ⟨s, 5, none⟩ = some (.int .i64 at_) := h.b.cell 5
  have c6 : w.cell? ⟨s, 6, none⟩ = some (.bool has) := h.b.cell 6
  clear h
  obtain ⟨z, hz⟩ : ∃ z, IntKind.i64.wrap (now - at_) = z := ⟨_, rfl⟩
  have hz' : wrap64 (now - at_) = z := by rw [← hz, IntKind.wrap_i64]; unfold wrap64; omega
  rw [hz] at hb
  cases has
  · simp only [Bool.false_and] at hb
    subst hb
    go_enter Try.func53, Try.ntmps53
    go_wp2_with fail
    go_quiet (fail)
    go_wp2_with fail
    go_quiet (fail)
    go_wp2_with fail
    go_returns
    exact ⟨rfl, _, rfl⟩
  · simp only [Bool.true_and] at hb
    cases b
    · go_enter Try.func53, Try.ntmps53
      go_wp2_with fail
      go_quiet (fail)
      go_wp2_with fail
      go_quiet (fail)
      go_wp2_with fail
      go_returns
      exact ⟨rfl, _, rfl⟩
    · go_enter Try.func53, Try.ntmps53
      go_wp2_with fail
      go_quiet (fail)
      go_wp2_with fail
      go_quiet (fail)
      go_wp2_with fail
      go_returns
      exact ⟨rfl, _, rfl⟩
end Go.Proofs.Ytnhgmommehjeoaa
