/-
  The document's ports: what Read and Write answer where nothing turns.
-/
import Derived.Test.YtnhgmommehjeoaaPortO
namespace Go.Proofs.Ytnhgmommehjeoaa
open Go.RowKit
attribute [local go_sem] max_ints min_ints

set_option maxHeartbeats 1600000 in
theorem rReadNo (w : World) (b P : Nat) (ms : List PM) (h : RPS w b P ms) (ch : Int) (hc : ¬ (0 ≤ ch ∧ ch < ms.length)) (part now : Int) :
    Calls Try.prog 17 #[.pointer (some ⟨P, 0, none⟩), .int .i64 part, .int .i64 ch, .int .i64 now] w fun e w' => e = .returned (outV (0, 0, 1)) ∧ ∃ k, w' = w.drewN k := by
  obtain ⟨A, cap, c0⟩ := h.cell
  clear h
  by_cases h0 : 0 ≤ ch
  · have d0 : decide (ch < 0) = false := decide_eq_false (by omega)
    have d1 : decide ((ms.length : Int) ≤ ch) = true := decide_eq_true (by omega)
    go_enter Try.func17, Try.ntmps17
    go_wp2_with fail
    go_returns
    exact ⟨rfl, 0, rfl⟩
  · have d0 : decide (ch < 0) = true := decide_eq_true (by omega)
    go_enter Try.func17, Try.ntmps17
    go_wp2_with fail
    go_returns
    exact ⟨rfl, 0, rfl⟩
set_option maxHeartbeats 1600000 in
theorem rReadNot (w : World) (b P : Nat) (ms : List PM) (h : RPS w b P ms) (i : Nat) (m : PM) (hm : ms[i]? = some m) (part now : Int) (hf : m.c.t ≠ part) :
    Calls Try.prog 17 #[.pointer (some ⟨P, 0, none⟩), .int .i64 part, .int .i64 i, .int .i64 now] w fun e w' => e = .returned (outV (0, 0, 1)) ∧ ∃ k, w' = w.drewN k := by
  obtain ⟨bb, o, cap, L, c0, hL, e0, e1, e2, e3, e4, e5, e6⟩ := h.pick i m hm
  have hil := (List.getElem?_eq_some_iff.1 hm).1
  have d0 : decide ((i : Int) < 0) = false := decide_eq_false (by omega)
  have d1 : decide ((ms.length : Int) ≤ (i : Int)) = false := decide_eq_false (by omega)
  have df : decide (m.c.t = part) = false := decide_eq_false hf
  have df2 : decide (part = m.c.t) = false := decide_eq_false (fun e => hf e.symm)
  have df3 : (m.c.t == part) = false := beq_eq_false_iff_ne.2 hf
  have df4 : (m.c.t != part) = true := by simp [hf]
  have df5 : (!decide (m.c.t = part)) = true := by simp [hf]
  obtain ⟨AL, cL, rfl⟩ := hL.shape
  clear h hm hL
  go_enter Try.func17, Try.ntmps17
  go_wp2_with fail
  go_returns
  exact ⟨rfl, 0, rfl⟩
set_option maxHeartbeats 1600000 in
theorem rWriteNo (w : World) (b P : Nat) (ms : List PM) (h : RPS w b P ms) (ch : Int) (hc : ¬ (0 ≤ ch ∧ ch < ms.length)) (part v now : Int) :
    Calls Try.prog 16 #[.pointer (some ⟨P, 0, none⟩), .int .i64 part, .int .i64 ch, .int .i64 v, .int .i64 now] w fun e w' => e = .returned (.int .i64 1) ∧ ∃ k, w' = w.drewN k := by
  obtain ⟨A, cap, c0⟩ := h.cell
  clear h
  by_cases h0 : 0 ≤ ch
  · have d0 : decide (ch < 0) = false := decide_eq_false (by omega)
    have d1 : decide ((ms.length : Int) ≤ ch) = true := decide_eq_true (by omega)
    go_enter Try.func16, Try.ntmps16
    go_wp2_with fail
    go_returns
    exact ⟨rfl, 0, rfl⟩
  · have d0 : decide (ch < 0) = true := decide_eq_true (by omega)
    go_enter Try.func16, Try.ntmps16
    go_wp2_with fail
    go_returns
    exact ⟨rfl, 0, rfl⟩
set_option maxHeartbeats 1600000 in
theorem rWriteNot (w : World) (b P : Nat) (ms : List PM) (h : RPS w b P ms) (i : Nat) (m : PM) (hm : ms[i]? = some m) (part v now : Int) (hf : m.c.f ≠ part) :
    Calls Try.prog 16 #[.pointer (some ⟨P, 0, none⟩), .int .i64 part, .int .i64 i, .int .i64 v, .int .i64 now] w fun e w' => e = .returned (.int .i64 1) ∧ ∃ k, w' = w.drewN k := by
  obtain ⟨bb, o, cap, L, c0, hL, e0, e1, e2, e3, e4, e5, e6⟩ := h.pick i m hm
  have hil := (List.getElem?_eq_some_iff.1 hm).1
  have d0 : decide ((i : Int) < 0) = false := decide_eq_false (by omega)
  have d1 : decide ((ms.length : Int) ≤ (i : Int)) = false := decide_eq_false (by omega)
  have df : decide (m.c.f = part) = false := decide_eq_false hf
  have df2 : decide (part = m.c.f) = false := decide_eq_false (fun e => hf e.symm)
  have df3 : (m.c.f == part) = false := beq_eq_false_iff_ne.2 hf
  have df4 : (m.c.f != part) = true := by simp [hf]
  have df5 : (!decide (m.c.f = part)) = true := by simp [hf]
  obtain ⟨AL, cL, rfl⟩ := hL.shape
  clear h hm hL
  go_enter Try.func16, Try.ntmps16
  go_wp2_with fail
  go_returns
  exact ⟨rfl, 0, rfl⟩
end Go.Proofs.Ytnhgmommehjeoaa
