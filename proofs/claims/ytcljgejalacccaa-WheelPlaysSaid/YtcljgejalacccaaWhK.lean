/-
  The wheel: num, ints, what must come of knows.
-/
import Derived.Test.YtcljgejalacccaaWhI
namespace Go.Proofs.Ytcljgejalacccaa
open Go.RowKit
attribute [local go_sem] max_ints min_ints

theorem numW (w : World) (k : Int) : Calls Try.prog 10 #[.int .i64 k] w fun e w' => e = .returned (.int .i64 k) ∧ ∃ m, w' = w.drewN m := by
  go_enter Try.func10, Try.ntmps10
  go_wp2_with fail
  go_returns
  exact ⟨rfl, 0, rfl⟩
theorem whenS (w : World) (g now : Nat) (at_ : Nat → Int) (N : Nat → Prop) (h : WhS w g now at_ N) (id : Int) :
    Calls Try.prog 18 #[.pointer (some ⟨g, 0, none⟩), .int .i64 id] w fun e w' => e = .returned (whenV (whenE at_ id)) ∧ ∃ k, w' = w.drewN k := by
  obtain ⟨V, sl, n, h1, _⟩ := h
  exact whenC w g now n V at_ h1.b id
theorem nowS (w : World) (g now : Nat) (at_ : Nat → Int) (N : Nat → Prop) (h : WhS w g now at_ N) :
    Calls Try.prog 20 #[.pointer (some ⟨g, 0, none⟩)] w fun e w' => e = .returned (.int .i64 (now : Int)) ∧ ∃ k, w' = w.drewN k := by
  obtain ⟨V, sl, n, h1, _⟩ := h
  exact nowC w g now n V at_ h1.b
theorem lenS (w : World) (g now : Nat) (at_ : Nat → Int) (N : Nat → Prop) (h : WhS w g now at_ N) :
    Calls Try.prog 21 #[.pointer (some ⟨g, 0, none⟩)] w fun e w' => e = .returned (.int .i64 (cntA at_ 256 : Int)) ∧ ∃ k, w' = w.drewN k := by
  obtain ⟨V, sl, n, h1, _, h3, _⟩ := h
  rw [← h3]
  exact lenC w g now n V at_ h1.b

/-- Two lists that are the same. -/
theorem intsEq (w : World) (b1 b2 : Nat) (v1 v2 : Value) (l : List Nat) (h1 : SlR encN w b1 3 1 v1 l) (h2 : SlR encN w b2 3 1 v2 l) (hl : l.length ≤ 100000) :
    Calls Try.prog 15 #[v1, v2] w fun e w' => e = .returned (.bool true) ∧ ∃ k, w' = w.drewN k := by
  obtain ⟨A1, c1, rfl⟩ := h1.shape
  obtain ⟨A2, c2, rfl⟩ := h2.shape
  have H1 := Lib.hid h1; have H2 := Lib.hid h2
  clear h1 h2
  go_enter Try.func15, Try.ntmps15
  go_wp2_with fail
  go_loopw [5] (fun vi wr => ∃ (i k : Nat), i ≤ l.length ∧ vi = .int .i64 i ∧ wr = w.drewN k) (fun vi _ => l.length - (intOf vi).toNat)
  case atStart => exact ⟨0, 0, Nat.zero_le _, rfl, rfl⟩
  case round =>
    obtain ⟨i, k, hi, rfl, hwr⟩ := hrel
    have HWR := Lib.hid hwr
    by_cases hlt : i < l.length
    · obtain ⟨x, hx⟩ : ∃ x, l[i]? = some x := ⟨_, List.getElem?_eq_getElem hlt⟩
      obtain ⟨bb1, o1, c1', e1, _, _, _, _⟩ := H1.out.form (by omega)
      obtain ⟨bb2, o2, c2', e2, _, _, _, _⟩ := H2.out.form (by omega)
      injection e1 with e1 e1b e1c
      injection e2 with e2 e2b e2c
      subst e1; subst e2; subst e1c; subst e2c
      clear e1b e2b
      have cell : ∀ b bb o c, SlR encN w b 3 1 (.slice (some ⟨bb, o, none⟩) l.length c) l → wr.cell? ⟨bb, o + i, none⟩ = some (.int .i64 (x : Int)) := fun b bb o c h => by
        rw [hwr]
        show w.cell? _ = _
        unfold SlR at h
        rw [rws_map] at h
        exact Sl.cell h i (encV x) (by rw [List.getElem?_map, hx]; rfl)
      have x1 := cell _ _ _ _ H1.out
      have x2 := cell _ _ _ _ H2.out
      have dd : decide ((i : Int) < (l.length : Int)) = true := decide_eq_true (by omega)
      have dn : decide ((i : Int) < 0) = false := decide_eq_false (by omega)
      clear cell hx hwr
      go_wp2_with fail
      go_quiet (fail)
      go_wp2_with fail
      go_roundw
      case rel => exact ⟨i + 1, k + nq, by omega, by go_num, by rw [HWR.out, World.drewN_drewN]⟩
      case measure => simp [intOf]; omega
    · have hie : i = l.length := by omega
      subst hie
      clear hwr
      go_wp2_with fail
      go_returns
      exact ⟨rfl, k, HWR.out⟩

def at1 : Nat → Int := fput (fun _ => -1) 3 20
theorem at1_eq (k : Nat) : at1 k = -1 ∨ (at1 k = 20 ∧ k = 3) := by
  unfold at1
  by_cases h : k = 3
  · subst h; exact .inr ⟨fput_eq _ _ _, rfl⟩
  · exact .inl (fput_ne _ _ h)
theorem at1_go (i : Nat) (h : i < 19) : goLs i at1 = [] ∧ goAt i at1 = at1 ∧ goNow i = i + 1 := by
  have hi : ¬ i = 4611686018427387904 := by omega
  refine ⟨?_, ?_, ?_⟩
  · unfold goLs
    rw [if_neg hi, List.filter_eq_nil_iff]
    intro k _
    rcases at1_eq k with h1 | ⟨h1, _⟩ <;> rw [h1] <;> simp <;> omega
  · unfold goAt goneA
    rw [if_neg hi]
    funext k
    rcases at1_eq k with h1 | ⟨h1, _⟩ <;> rw [h1]
    · split <;> rfl
    · rw [if_neg (by omega)]
  · unfold goNow; rw [if_neg hi]
theorem at1_end : goLs 19 at1 = [3] ∧ cntA (goAt 19 at1) 256 = 0 ∧ goNow 19 = 20 := by
  refine ⟨by kernel_rfl, by kernel_rfl, rfl⟩

set_option maxRecDepth 100000 in
set_option maxHeartbeats 3200000 in
theorem knowsW (w : World) : Calls Try.prog 7 #[] w fun e w' => e = .returned (.bool true) ∧ Upd (fun _ => False) w w' := by
  go_enter Try.func7, Try.ntmps7
  go_wp2_with fail
  refine (newC w 0).mono ?_
  rintro e w1 ⟨rfl, hS1, hU1⟩
  have hz : (min (max (0 : Int) 0) 4611686018427387904).toNat = 0 := rfl
  rw [hz] at hS1
  have S1 := Lib.hid hS1; have U1 := Lib.hid hU1
  clear hS1 hU1 hz
  generalize hg : w.heap.size = g at *
  have HG := Lib.hid hg
  clear hg
  have HSet := Lib.hid (setC w1 g 0 _ _ S1.out (fun k hk => Nat.lt_of_lt_of_le hk (by have := U1.out.size; have := HG.out; omega)) 3 20)
  have hE : setE 0 3 20 = 0 := rfl
  have hA : setA 0 (fun _ => -1) 3 20 = at1 := rfl
  rw [hE, hA] at HSet
  clear hE hA
  go_wp2_with fail
  refine HSet.out.mono ?_
  rintro e w2 ⟨rfl, hS2, hU2⟩
  have S2 := Lib.hid hS2
  have U2 : Hid (Upd (fun _ => False) w w2) := Lib.hid (((U1.out.mono (S' := fun k => ¬ k < g) (fun _ _ h => h.elim)).trans hU2).mono (fun k hk h => h (by have := HG.out; omega)))
  clear hS2 hU2
  go_wp2_with fail
  go_loopw [3, 4] (fun v3 v4 wr => ∃ (i : Nat), i ≤ 19 ∧ v4 = .int .i64 i ∧ v3 = .int .i64 0 ∧ WhS wr g i at1 (fun k => k < g) ∧ Upd (fun _ => False) w wr) (fun _ v4 _ => 19 - (intOf v4).toNat)
  case atStart => exact ⟨0, Nat.zero_le _, rfl, rfl, S2.out, U2.out⟩
  case round =>
    obtain ⟨i, hi, rfl, rfl, hS, hU⟩ := hrel
    have S3 := Lib.hid hS; have U3 := Lib.hid hU
    have HGo := Lib.hid (goC wr g i at1 _ hS (fun k hk => Nat.lt_of_lt_of_le hk (by have := hU.size; have := HG.out; omega)))
    clear hS hU
    by_cases hlt : i < 19
    · have d0 : decide ((i : Int) < 19) = true := decide_eq_true (by omega)
      obtain ⟨e1, e2, e3⟩ := at1_go i hlt
      rw [e1, e2, e3] at HGo
      clear e1 e2 e3
      go_wp2_with fail
      refine HGo.out.mono ?_
      rintro e w4 ⟨v, rfl, hv, hS4, hU4⟩
      obtain ⟨A, c, rfl⟩ := hv.shape
      have S4 := Lib.hid (hS4.less (N' := fun k => k < g) (fun k hk => .inl hk))
      have U4 : Hid (Upd (fun _ => False) w w4) := Lib.hid (((U3.out.mono (S' := fun k => ¬ k < g) (fun _ _ h => h.elim)).trans hU4).mono (fun k hk h => h (by have := HG.out; omega)))
      clear hv hS4 hU4
      go_wp2_with fail
      go_roundw
      case rel => exact ⟨i + 1, by omega, by go_num, by simp, S4.out, U4.out⟩
      case measure => simp [intOf]; omega
    · have hie : i = 19 := by omega
      subst hie
      obtain ⟨e1, e2, e3⟩ := at1_end
      rw [e1, e3] at HGo
      have HC := Lib.hid e2
      clear e1 e2 e3
      go_wp2_with fail
      refine HGo.out.mono ?_
      rintro e w4 ⟨v, rfl, hv, hS4, hU4⟩
      obtain ⟨b, o, c, rfl, _, _, _, _⟩ := hv.form (by decide)
      have c0 : w4.cell? ⟨b, o, none⟩ = some (.int .i64 3) := by
        have := hv.cell encN_len 0 3 rfl 0 _ rfl
        rw [Nat.zero_mul, Nat.add_zero] at this
        exact this
      have S4 := Lib.hid hS4
      have U4 : Hid (Upd (fun _ => False) w w4) := Lib.hid (((U3.out.mono (S' := fun k => ¬ k < g) (fun _ _ h => h.elim)).trans hU4).mono (fun k hk h => h (by have := HG.out; omega)))
      clear hv hS4 hU4
      go_wp2_with fail
      refine (numW _ 0).mono ?_
      rintro e w5 ⟨rfl, k5, rfl⟩
      go_wp2_with fail
      refine (nowS _ g 20 _ _ (S4.out.drewN _)).mono ?_
      rintro e w6 ⟨rfl, k6, rfl⟩
      have HL := Lib.hid (lenS _ g 20 _ _ (S4.out.drewN (k5 + k6)))
      rw [HC.out] at HL
      go_wp2_with fail
      refine HL.out.mono ?_
      rintro e w7 ⟨rfl, k7, rfl⟩
      go_wp2_with fail
      go_returns
      exact ⟨rfl, U4.out.drewN _⟩
end Go.Proofs.Ytcljgejalacccaa
