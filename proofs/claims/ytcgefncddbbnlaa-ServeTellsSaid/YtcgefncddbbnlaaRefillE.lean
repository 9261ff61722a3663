/-
  refill.Budget: Live, Due, New, Stop, Resume.
-/
import Derived.Test.YtcgefncddbbnlaaRefillD
namespace Go.Proofs.Ytcgefncddbbnlaa.Rf
open Go.RowKit Go.Proofs.Ytcgefncddbbnlaa.Cf

theorem one_chk : ∀ (xs : List (Int × Int)), ∀ u ∈ chk xs, u.oneCell' = true
  | [], u, h => by simp [chk] at h
  | x :: t, u, h => by
    simp only [chk, List.mem_cons] at h
    rcases h with rfl | rfl | h
    · rfl
    · rfl
    · exact one_chk t u h

def Bp.new (rf : Bool) (C T start : Int) : Bp := ⟨rf, C, T, start, start, C, false⟩

set_option maxRecDepth 100000 in
set_option maxHeartbeats 800000 in
theorem newB_no (w : World) (rf : Bool) (C T start : Int) (h : okS C T = false ∨ start < 0 ∨ 4611686018427387904 < start) :
    Calls Try.prog 72 #[.agg #[.bool rf, .int .i64 C, .int .i64 T], .int .i64 start] w fun e w' => e = .returned (.pointer none) ∧ Upd (fun _ => False) w w' := by
  obtain ⟨t, ht⟩ : ∃ t, okS C T = t := ⟨_, rfl⟩
  rw [ht] at h
  have HT := Lib.hid ht; clear ht
  cases t
  · clear h
    go_enter Try.func72, Try.ntmps72
    go_wp2_with fail
    refine (rightS _ rf C T false HT.out).mono ?_
    rintro e w1 ⟨rfl, hU⟩
    have HU := Lib.hid hU; clear hU
    go_wp2_with fail
    go_returns
    exact ⟨rfl, ((Upd.refl _ w).alloc _).trans HU.out⟩
  · by_cases h0 : start < 0
    · have e0 : decide (start < 0) = true := decide_eq_true h0
      clear h
      go_enter Try.func72, Try.ntmps72
      go_wp2_with fail
      refine (rightS _ rf C T true HT.out).mono ?_
      rintro e w1 ⟨rfl, hU⟩
      have HU := Lib.hid hU; clear hU
      go_wp2_with fail
      go_returns
      exact ⟨rfl, ((Upd.refl _ w).alloc _).trans HU.out⟩
    · have e0 : decide (start < 0) = false := decide_eq_false h0
      have e1 : decide ((4611686018427387904 : Int) < start) = true := decide_eq_true (by rcases h with h | h | h; cases h; exact absurd h h0; exact h)
      clear h
      go_enter Try.func72, Try.ntmps72
      go_wp2_with fail
      refine (rightS _ rf C T true HT.out).mono ?_
      rintro e w1 ⟨rfl, hU⟩
      have HU := Lib.hid hU; clear hU
      go_wp2_with fail
      go_returns
      exact ⟨rfl, ((Upd.refl _ w).alloc _).trans HU.out⟩

set_option maxRecDepth 100000 in
set_option maxHeartbeats 800000 in
theorem newB_yes (w : World) (base : Nat) (rf : Bool) (C T start : Int) (h : okS C T = true) (h0 : 0 ≤ start) (h1 : start ≤ 4611686018427387904) :
    Calls Try.prog 72 #[.agg #[.bool rf, .int .i64 C, .int .i64 T], .int .i64 start] w fun e w' => ∃ g, e = .returned (.pointer (some ⟨g, 0, none⟩)) ∧ w.heap.size ≤ g ∧ Bud w' base g (.slice none 0 0) (Bp.new rf C T start) [] ∧ Upd (fun _ => False) w w' := by
  have HT := Lib.hid h; clear h
  have e0 : decide (start < 0) = false := decide_eq_false (by omega)
  have e1 : decide ((4611686018427387904 : Int) < start) = false := decide_eq_false (by omega)
  have hx := Blk.new w 25 #[.bool rf, .int .i64 C, .int .i64 T]
  have HX := Lib.hid hx; clear hx
  go_enter Try.func72, Try.ntmps72
  go_wp2_with fail
  refine (rightS _ rf C T true HT.out).mono ?_
  rintro e w1 ⟨rfl, hU⟩
  have hb := HX.out.upd hU (fun h => h)
  have c0 : w1.cell? ⟨w.heap.size, 0, none⟩ = some (.bool rf) := hb.cell 0
  have c1 : w1.cell? ⟨w.heap.size, 1, none⟩ = some (.int .i64 C) := hb.cell 1
  have c2 : w1.cell? ⟨w.heap.size, 2, none⟩ = some (.int .i64 T) := hb.cell 2
  clear hb
  have hsz := hU.size
  simp at hsz
  have HU := Lib.hid hU; clear hU
  go_wp2_with fail
  go_returns
  refine ⟨_, rfl, by omega, ⟨Blk.new _ _ _, Sl.nil _ _ _ _⟩, (((Upd.refl _ w).alloc _).trans HU.out).alloc _⟩
end Go.Proofs.Ytcgefncddbbnlaa.Rf
