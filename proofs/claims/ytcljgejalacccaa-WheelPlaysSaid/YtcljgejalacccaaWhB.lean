/-
  The wheel: When, Now, Len; and what they answer where there is none.
-/
import Derived.Test.YtcljgejalacccaaWhA
namespace Go.Proofs.Ytcljgejalacccaa
open Go.RowKit
attribute [local go_sem] max_ints min_ints

/-- A pointer at which there is no wheel. -/
def Bad (w : World) (p : Option Addr) : Prop := p = none ∨ ∃ g, p = some ⟨g, 0, none⟩ ∧ w.cell? ⟨g, 514, none⟩ = some (.bool false)
set_option maxHeartbeats 1600000 in
theorem noneBad (w : World) (p : Option Addr) (h : Bad w p) :
    Calls Try.prog 23 #[.pointer p] w fun e w' => e = .returned (.bool true) ∧ ∃ k, w' = w.drewN k := by
  rcases h with rfl | ⟨g, rfl, hm⟩
  · go_enter Try.func23, Try.ntmps23
    go_wp2_with fail
    go_returns
    exact ⟨rfl, 0, rfl⟩
  · go_enter Try.func23, Try.ntmps23
    go_wp2_with fail
    go_returns
    exact ⟨rfl, 0, rfl⟩
theorem Bad.drewN {w : World} {p : Option Addr} (h : Bad w p) (k : Nat) : Bad (w.drewN k) p := h

def whenV (x : Int × Bool) : Value := .tuple #[.int .i64 x.1, .bool x.2]
def whenE (at_ : Nat → Int) (id : Int) : Int × Bool := if 0 ≤ id ∧ id < 256 then (if at_ id.toNat = -1 then (0, false) else (at_ id.toNat, true)) else (0, false)
set_option maxHeartbeats 1600000 in
theorem whenC (w : World) (g now n : Nat) (V : Nat → Value) (at_ : Nat → Int) (h : WB w g now V at_ n) (id : Int) :
    Calls Try.prog 18 #[.pointer (some ⟨g, 0, none⟩), .int .i64 id] w fun e w' => e = .returned (whenV (whenE at_ id)) ∧ ∃ k, w' = w.drewN k := by
  have hm := h.cmade
  have HN : Hid (∀ k, Calls Try.prog 23 #[.pointer (some ⟨g, 0, none⟩)] (w.drewN k) fun e w' => e = .returned (.bool false) ∧ ∃ m, w' = (w.drewN k).drewN m) := Lib.hid (fun k => noneC _ g hm)
  by_cases hid : 0 ≤ id ∧ id < 256
  · obtain ⟨i, rfl⟩ : ∃ i : Nat, id = i := ⟨id.toNat, by omega⟩
    have hc := h.cat i (by omega)
    have d0 : decide ((i : Int) < 0) = false := decide_eq_false (by omega)
    have d1 : decide ((256 : Int) ≤ (i : Int)) = false := decide_eq_false (by omega)
    have hi : i < 256 := by omega
    have HE : Hid (whenE at_ (i : Int) = if at_ i = -1 then (0, false) else (at_ i, true)) := Lib.hid (by unfold whenE; rw [if_pos hid, Int.toNat_natCast])
    clear h hm hid
    obtain ⟨t, ht⟩ : ∃ t, at_ i = t := ⟨_, rfl⟩
    rw [ht] at hc HE
    clear ht
    by_cases hs : t = -1
    · subst hs
      rw [if_pos rfl] at HE
      go_enter Try.func18, Try.ntmps18
      go_wp2_with fail
      refine (HN.out 0).mono ?_
      rintro e w1 ⟨rfl, k1, rfl⟩
      go_wp2_with fail
      go_returns
      rw [HE.out]
      exact ⟨rfl, _, rfl⟩
    · have d2 : (t == -1) = false := beq_eq_false_iff_ne.2 hs
      have d3 : decide (t = -1) = false := decide_eq_false hs
      rw [if_neg hs] at HE
      clear hs
      go_enter Try.func18, Try.ntmps18
      go_wp2_with fail
      refine (HN.out 0).mono ?_
      rintro e w1 ⟨rfl, k1, rfl⟩
      go_wp2_with fail
      go_returns
      rw [HE.out]
      exact ⟨rfl, _, rfl⟩
  · have HE : Hid (whenE at_ id = (0, false)) := Lib.hid (by unfold whenE; rw [if_neg hid])
    by_cases h0 : 0 ≤ id
    · have d0 : decide (id < 0) = false := decide_eq_false (by omega)
      have d1 : decide ((256 : Int) ≤ id) = true := decide_eq_true (by omega)
      clear h hm hid h0
      go_enter Try.func18, Try.ntmps18
      go_wp2_with fail
      refine (HN.out 0).mono ?_
      rintro e w1 ⟨rfl, k1, rfl⟩
      go_wp2_with fail
      go_returns
      rw [HE.out]
      exact ⟨rfl, _, rfl⟩
    · have d0 : decide (id < 0) = true := decide_eq_true (by omega)
      clear h hm hid h0
      go_enter Try.func18, Try.ntmps18
      go_wp2_with fail
      refine (HN.out 0).mono ?_
      rintro e w1 ⟨rfl, k1, rfl⟩
      go_wp2_with fail
      go_returns
      rw [HE.out]
      exact ⟨rfl, _, rfl⟩
set_option maxHeartbeats 1600000 in
theorem nowC (w : World) (g now n : Nat) (V : Nat → Value) (at_ : Nat → Int) (h : WB w g now V at_ n) :
    Calls Try.prog 20 #[.pointer (some ⟨g, 0, none⟩)] w fun e w' => e = .returned (.int .i64 (now : Int)) ∧ ∃ k, w' = w.drewN k := by
  have hm := h.cmade
  have hc : ∀ k, (w.drewN k).cell? ⟨g, 0, none⟩ = some (.int .i64 (now : Int)) := fun k => h.cnow
  clear h
  go_enter Try.func20, Try.ntmps20
  go_wp2_with fail
  refine (noneC _ g hm).mono ?_
  rintro e w1 ⟨rfl, k1, rfl⟩
  go_wp2_with fail
  go_returns
  exact ⟨rfl, _, rfl⟩
set_option maxHeartbeats 1600000 in
theorem lenC (w : World) (g now n : Nat) (V : Nat → Value) (at_ : Nat → Int) (h : WB w g now V at_ n) :
    Calls Try.prog 21 #[.pointer (some ⟨g, 0, none⟩)] w fun e w' => e = .returned (.int .i64 (n : Int)) ∧ ∃ k, w' = w.drewN k := by
  have hm := h.cmade
  have hc : ∀ k, (w.drewN k).cell? ⟨g, 513, none⟩ = some (.int .i64 (n : Int)) := fun k => h.cset
  clear h
  go_enter Try.func21, Try.ntmps21
  go_wp2_with fail
  refine (noneC _ g hm).mono ?_
  rintro e w1 ⟨rfl, k1, rfl⟩
  go_wp2_with fail
  go_returns
  exact ⟨rfl, _, rfl⟩

/-! ### Where there is none -/
set_option maxHeartbeats 1600000 in
theorem whenBad (w : World) (p : Option Addr) (h : Bad w p) (id : Int) :
    Calls Try.prog 18 #[.pointer p, .int .i64 id] w fun e w' => e = .returned (whenV (0, false)) ∧ ∃ k, w' = w.drewN k := by
  go_enter Try.func18, Try.ntmps18
  go_wp2_with fail
  refine (noneBad _ p h).mono ?_
  rintro e w1 ⟨rfl, k1, rfl⟩
  go_wp2_with fail
  go_returns
  exact ⟨rfl, _, rfl⟩
set_option maxHeartbeats 1600000 in
theorem nowBad (w : World) (p : Option Addr) (h : Bad w p) :
    Calls Try.prog 20 #[.pointer p] w fun e w' => e = .returned (.int .i64 0) ∧ ∃ k, w' = w.drewN k := by
  go_enter Try.func20, Try.ntmps20
  go_wp2_with fail
  refine (noneBad _ p h).mono ?_
  rintro e w1 ⟨rfl, k1, rfl⟩
  go_wp2_with fail
  go_returns
  exact ⟨rfl, _, rfl⟩
set_option maxHeartbeats 1600000 in
theorem lenBad (w : World) (p : Option Addr) (h : Bad w p) :
    Calls Try.prog 21 #[.pointer p] w fun e w' => e = .returned (.int .i64 0) ∧ ∃ k, w' = w.drewN k := by
  go_enter Try.func21, Try.ntmps21
  go_wp2_with fail
  refine (noneBad _ p h).mono ?_
  rintro e w1 ⟨rfl, k1, rfl⟩
  go_wp2_with fail
  go_returns
  exact ⟨rfl, _, rfl⟩
set_option maxHeartbeats 1600000 in
theorem setBad (w : World) (p : Option Addr) (h : Bad w p) (id t : Int) :
    Calls Try.prog 11 #[.pointer p, .int .i64 id, .int .i64 t] w fun e w' => e = .returned (.int .i64 1) ∧ ∃ k, w' = w.drewN k := by
  go_enter Try.func11, Try.ntmps11
  go_wp2_with fail
  refine (noneBad _ p h).mono ?_
  rintro e w1 ⟨rfl, k1, rfl⟩
  go_wp2_with fail
  go_returns
  exact ⟨rfl, _, rfl⟩
set_option maxHeartbeats 1600000 in
theorem cancelBad (w : World) (p : Option Addr) (h : ∀ w', Upd (fun _ => False) w w' → Bad w' p) (id : Int) :
    Calls Try.prog 13 #[.pointer p, .int .i64 id] w fun e w' => e = .returned (.bool false) ∧ Upd (fun _ => False) w w' := by
  have HB := Lib.hid (h (w.alloc (.cells #[.int .i64 id] 3)) ((Upd.refl _ w).alloc _))
  clear h
  go_enter Try.func13, Try.ntmps13
  go_wp2_with fail
  refine (whenBad _ p HB.out id).mono ?_
  rintro e w1 ⟨he, k1, rfl⟩
  have he' : e = .returned (.tuple #[.int .i64 0, .bool false]) := he
  clear he
  subst he'
  go_wp2_with fail
  go_returns
  exact ⟨rfl, ((Upd.refl _ w).alloc _).drewN _⟩
set_option maxHeartbeats 1600000 in
theorem goBad (w : World) (p : Option Addr) (h : ∀ w', Upd (fun _ => False) w w' → Bad w' p) :
    Calls Try.prog 16 #[.pointer p] w fun e w' => e = .returned (.slice none 0 0) ∧ Upd (fun _ => False) w w' := by
  have HB := Lib.hid (h (w.alloc (.cells #[.pointer p] 24)) ((Upd.refl _ w).alloc _))
  clear h
  go_enter Try.func16, Try.ntmps16
  go_wp2_with fail
  refine (noneBad _ p HB.out).mono ?_
  rintro e w1 ⟨rfl, k1, rfl⟩
  go_wp2_with fail
  go_returns
  exact ⟨rfl, ((Upd.refl _ w).alloc _).drewN _⟩
end Go.Proofs.Ytcljgejalacccaa
