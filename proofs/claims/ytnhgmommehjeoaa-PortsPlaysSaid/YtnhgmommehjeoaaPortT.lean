/-
  The document's ports: Read.
-/
import Derived.Test.YtnhgmommehjeoaaPortS
namespace Go.Proofs.Ytnhgmommehjeoaa
open Go.RowKit
attribute [local go_sem] max_ints min_ints

/-- The slice without its first number, as the program writes it. -/
theorem tail_slr {w : World} {b bb o c : Nat} {x : Int} {t : List Int} (h : SlR encI w b 3 1 (.slice (some ⟨bb, o, none⟩) (t.length + 1) c) (x :: t)) :
    SlR encI w b 3 1 (.slice (if c = 1 then some ⟨bb, o, none⟩ else some ⟨bb, o + 1, none⟩) t.length (c - 1)) t := by
  have hV3 : Sl w b 3 1 (.slice (some ⟨bb, o, none⟩) (t.length + 1) c) (t.length + 1) (rws encI (x :: t)) := h
  by_cases e : c = 1
  · subst e
    obtain ⟨h1, h2, h3⟩ := Sl.tail1 hV3
    obtain rfl : t = [] := List.eq_nil_of_length_eq_zero h1
    rw [if_pos rfl]
    exact h3
  · rw [if_neg e]
    exact Sl.tail hV3 (rws_drop1 encI_len _ _) e

theorem w64_eq (x : Int) : IntKind.i64.wrap x = wrap64 x := by rw [IntKind.wrap_i64]; unfold wrap64; omega
set_option maxRecDepth 100000 in
set_option maxHeartbeats 3200000 in
theorem rReadYes (w : World) (b P : Nat) (ms : List PM) (h : RPS w b P ms) (i : Nat) (m : PM) (hm : ms[i]? = some m) (hx : m.xs.length ≤ 5000) (now : Int) :
    Calls Try.prog 17 #[.pointer (some ⟨P, 0, none⟩), .int .i64 m.c.t, .int .i64 i, .int .i64 now] w fun e w' => e = .returned (outV (m.out now)) ∧ RPS w' b P (ms.set i m.got) ∧ Upd (PB w b) w w' := by
  obtain ⟨sv, ys, hY, hys⟩ := h.rpy
  obtain ⟨L, hy⟩ := RPY.at_ hys i m hm
  obtain ⟨bb, o, cap, rfl, c0, hbb, hfz, e0, e1, e2, e3, e4, e5, e6⟩ := hY.pick i m L hy
  have hil := (List.getElem?_eq_some_iff.1 hy).1
  have d0 : decide ((i : Int) < 0) = false := decide_eq_false (by omega)
  have d1 : decide ((ys.length : Int) ≤ (i : Int)) = false := decide_eq_false (by omega)
  cases hxs : m.xs with
  | nil =>
    obtain ⟨AL, cL, rfl⟩ := (hY.row i m L hy).shape
    rw [hxs] at e4
    have H := Lib.hid h
    have HE : Hid (outV (m.out now) = outV (0, 0, 6)) := Lib.hid (by rw [PM.out_nil hxs])
    have HG : Hid (ms.set i m.got = ms) := Lib.hid (by
      have : m.got = m := by
        unfold PM.got
        split
        · rw [hxs]
          cases m; simp_all [popB]
        · rfl
      rw [this, list_self _ _ _ hm])
    clear h hm hx hY hys hy hbb hxs
    go_enter Try.func17, Try.ntmps17
    go_wp2_with fail
    go_returns
    rw [HE.out, HG.out]
    exact ⟨rfl, H.out, Upd.refl _ _⟩
  | cons x t =>
    have hrow := hY.row i m L hy
    rw [hxs] at hrow hx
    obtain ⟨b6, o6, c6, rfl, _, _, hc6, hc7⟩ := hrow.form (by simp)
    have hrow' : SlR encI w b 3 1 (.slice (some ⟨b6, o6, none⟩) (t.length + 1) c6) (x :: t) := hrow
    have cx := hrow'.cell encI_len 0 x rfl 0 _ rfl
    rw [Nat.zero_mul, Nat.add_zero] at cx
    have e4' : w.cell? ⟨bb, o + i * 7 + 4, none⟩ = some (.slice (some ⟨b6, o6, none⟩) (t.length + 1) c6) := e4
    have hc6' : t.length + 1 ≤ c6 := hc6
    have dx : decide ((((t.length + 1 : Nat) : Int)) = 0) = false := decide_eq_false (by omega)
    have dx2 : ((((t.length + 1 : Nat) : Int)) == 0) = false := beq_eq_false_iff_ne.2 (by omega)
    have dx3 : ((((t.length : Nat) : Int) + 1) == 0) = false := beq_eq_false_iff_ne.2 (by omega)
    have dx4 : decide ((((t.length : Nat) : Int) + 1) = 0) = false := decide_eq_false (by omega)
    have dl' : decide ((0 : Int) < (t.length : Int) + 1) = true := decide_eq_true (by omega)
    obtain ⟨q, hq⟩ : ∃ q, m.c.q = q := ⟨_, rfl⟩
    rw [hq] at e0
    cases q
    · obtain ⟨s, hs⟩ : ∃ s, decide (IntKind.i64.wrap (now - m.at_) ≤ m.c.sz) = s := ⟨_, rfl⟩
      have H := Lib.hid h
      have HE : Hid (outV (m.out now) = outV (x, if s = true then 1 else 0, 0)) := Lib.hid (by rw [PM.out_s hxs hq s hs])
      have HG : Hid (ms.set i m.got = ms) := Lib.hid (by rw [PM.got_s hq, list_self _ _ _ hm])
      have HSz := Lib.hid hs
      clear h hm hx hY hys hy hbb hxs hrow hrow' e4 hc6 hq hs
      cases s
      · have hs : decide (wrap64 (now - m.at_) ≤ m.c.sz) = false := by have := HSz.out; rwa [w64_eq] at this
        go_enter Try.func17, Try.ntmps17
        go_wp2_with fail
        go_quiet (fail)
        go_wp2_with fail
        go_returns
        rw [HE.out, HG.out]
        exact ⟨rfl, H.out.drewN _, (Upd.refl _ _).drewN _⟩
      · have hs : decide (wrap64 (now - m.at_) ≤ m.c.sz) = true := by have := HSz.out; rwa [w64_eq] at this
        go_enter Try.func17, Try.ntmps17
        go_wp2_with fail
        go_quiet (fail)
        go_wp2_with fail
        go_returns
        rw [HE.out, HG.out]
        exact ⟨rfl, H.out.drewN _, (Upd.refl _ _).drewN _⟩
    · have hT := tail_slr hrow'
      by_cases hc1 : c6 = 1
      · subst hc1
        rw [if_pos rfl] at hT
        obtain ⟨LT, hLT⟩ : ∃ LT, LT = Value.slice (some ⟨b6, o6, none⟩) t.length (1 - 1) := ⟨_, rfl⟩
        rw [← hLT] at hT
        have hS1 := hY.st i _ ({ m with xs := t }, LT) hy 4 (by decide) LT rfl hT
        have f2 := hS1.fz
        have hy1 : (ys.set i ({ m with xs := t }, LT))[i]? = some ({ m with xs := t }, LT) := List.getElem?_set_self hil
        have c2 := hS1.cl i _ hy1 5 (.int .i64 m.lost) rfl
        have hS2 := hS1.st i _ ({ m with xs := t, lost := 0 }, LT) hy1 5 (by decide) (.int .i64 0) rfl (hS1.row i { m with xs := t } LT hy1)
        rw [List.set_set] at hS2
        have N9 := Lib.hid hS2.rps
        have U9 := Lib.hid (((Upd.refl (PB w b) w).setCell (p := ⟨bb, o + i * 7 + 4, none⟩) (fun _ => hbb.1) LT).setCell (p := ⟨bb, o + i * 7 + 5, none⟩) (fun _ => hbb.1) (.int .i64 0))
        have HE : Hid (outV (m.out now) = outV (x, m.lost, 0)) := Lib.hid (by rw [PM.out_q hxs hq])
        have HG : Hid (ms.set i m.got = (ys.set i ({ m with xs := t, lost := 0 }, LT)).map Prod.fst) := Lib.hid (by
          have : m.got = { m with xs := t, lost := 0 } := by rw [PM.got_q hq, hxs]; simp [popB]
          rw [this, ← hys, List.map_set])
        subst hLT
        have ht0 : t.length = 0 := by omega
        rw [ht0] at N9 U9 HG
        clear ht0 h hm hx hY hys hy hbb hxs hrow hrow' e4 hc6 hq hT hS1 hy1 hS2
        go_enter Try.func17, Try.ntmps17
        go_wp2_with fail
        go_returns
        rw [HE.out, HG.out]
        exact ⟨rfl, N9.out, U9.out⟩
      · rw [if_neg hc1] at hT
        obtain ⟨LT, hLT⟩ : ∃ LT, LT = Value.slice (some ⟨b6, o6 + 1, none⟩) t.length (c6 - 1) := ⟨_, rfl⟩
        rw [← hLT] at hT
        have hS1 := hY.st i _ ({ m with xs := t }, LT) hy 4 (by decide) LT rfl hT
        have f2 := hS1.fz
        have hy1 : (ys.set i ({ m with xs := t }, LT))[i]? = some ({ m with xs := t }, LT) := List.getElem?_set_self hil
        have c2 := hS1.cl i _ hy1 5 (.int .i64 m.lost) rfl
        have hS2 := hS1.st i _ ({ m with xs := t, lost := 0 }, LT) hy1 5 (by decide) (.int .i64 0) rfl (hS1.row i { m with xs := t } LT hy1)
        rw [List.set_set] at hS2
        have N9 := Lib.hid hS2.rps
        have U9 := Lib.hid (((Upd.refl (PB w b) w).setCell (p := ⟨bb, o + i * 7 + 4, none⟩) (fun _ => hbb.1) LT).setCell (p := ⟨bb, o + i * 7 + 5, none⟩) (fun _ => hbb.1) (.int .i64 0))
        have HE : Hid (outV (m.out now) = outV (x, m.lost, 0)) := Lib.hid (by rw [PM.out_q hxs hq])
        have HG : Hid (ms.set i m.got = (ys.set i ({ m with xs := t, lost := 0 }, LT)).map Prod.fst) := Lib.hid (by
          have : m.got = { m with xs := t, lost := 0 } := by rw [PM.got_q hq, hxs]; simp [popB]
          rw [this, ← hys, List.map_set])
        subst hLT
        clear h hm hx hY hys hy hbb hxs hrow hrow' e4 hc6 hq hT hS1 hy1 hS2
        go_enter Try.func17, Try.ntmps17
        go_wp2_with fail
        go_returns
        rw [HE.out, HG.out]
        exact ⟨rfl, N9.out, U9.out⟩
end Go.Proofs.Ytnhgmommehjeoaa
