/-
  The walk of PlanLays.
-/
import Derived.Test.YtldbjoegfcmfkaaPlanH
import Derived.Test.YtldbjoegfcmfkaaArgs
namespace Go.Proofs.Ytldbjoegfcmfkaa
open Go.RowKit
attribute [local go_sem] max_ints min_ints

theorem layS_len {F M p n : Int} {st st' : Int × List W3} (h : st.2.length ≤ 32) (e : layS F M st p n = some st') : st'.2.length ≤ 32 := by
  unfold layS at e
  split at e
  next => injection e with e; subst e; exact h
  next =>
    split at e
    next => cases e
    next hno =>
      injection e with e
      subst e
      simp only [List.length_append, List.length_cons, List.length_nil]
      omega
theorem rowTo_len {F M T i : Int} {ns : List Int} {st : Int × List W3} (h : st.2.length ≤ 32) : ∀ (p : Nat) (st' : Int × List W3), rowTo F M T ns i st p = some st' → st'.2.length ≤ 32
  | 0, st', e => by injection e with e; subst e; exact h
  | p + 1, st', e => by
    rw [rowTo] at e
    cases hq : rowTo F M T ns i st p with
    | none => rw [hq] at e; cases e
    | some s => rw [hq] at e; exact layS_len (rowTo_len h p s hq) e
theorem rowsTo_len {F M T : Int} {ns : List Int} : ∀ (i : Nat) (st' : Int × List W3), rowsTo F M T ns i = some st' → st'.2.length ≤ 32
  | 0, st', e => by injection e with e; subst e; simp
  | i + 1, st', e => by
    rw [rowsTo] at e
    cases hq : rowsTo F M T ns i with
    | none => rw [hq] at e; cases e
    | some s => rw [hq] at e; exact rowTo_len (rowsTo_len i s hq) _ _ e
theorem spreadN_len (F M T : Int) (ns : List Int) : (spreadN F M T ns).1.length ≤ 32 := by
  unfold spreadN
  split
  · simp
  · split
    next => simp
    next st h => exact rowsTo_len _ _ h

theorem spread_knows : spreadN 10 1 1 [3, 2] = ([(0, 4, 0), (4, 3, 1)], 0) := by decide

theorem rdI_new2 (w : World) (t : TypeId) (a b : Int) : RdI (w.alloc (.cells #[.int .i64 a, .int .i64 b] t)) (.slice (some ⟨w.heap.size, 0, none⟩) 2 2) [a, b] :=
  ⟨_, 2, rfl, fun i x hx => ⟨w.heap.size, 0, rfl, by simp, by
    rw [Nat.zero_add, (Blk.new w t _).cell]
    match i, hx with
    | 0, hx => simp at hx; subst hx; rfl
    | 1, hx => simp at hx; subst hx; rfl⟩⟩

set_option maxRecDepth 100000 in
set_option maxHeartbeats 1600000 in
theorem knowsP (w : World) : Calls Try.prog 9 #[] w fun e w' => e = .returned (.bool true) ∧ Upd (fun _ => False) w w' := by
  go_enter Try.func9, Try.ntmps9
  go_wp2_with fail
  refine (rowsP _ 10 1 _ [3, 2] (rdI_new2 w _ 3 2) (by decide)).mono ?_
  rintro e w1 ⟨v', rfl, hS, hU⟩
  rw [spread_knows] at hS ⊢
  have U1 := Lib.hid (((Upd.refl (fun _ => False) w).alloc _).trans hU)
  obtain ⟨b, o, c, rfl, _, hb, hc1, hc2⟩ := SlR.form hS (by decide)
  have hE : ∀ x, (encW x).length = 3 := fun _ => rfl
  have p0 := SlR.cell hE hS 0 (0, 4, 0) rfl 0 (.int .i64 0) rfl
  have p1 := SlR.cell hE hS 0 (0, 4, 0) rfl 1 (.int .i64 4) rfl
  have p2 := SlR.cell hE hS 0 (0, 4, 0) rfl 2 (.int .i64 0) rfl
  have q0 := SlR.cell hE hS 1 (4, 3, 1) rfl 0 (.int .i64 4) rfl
  have q1 := SlR.cell hE hS 1 (4, 3, 1) rfl 1 (.int .i64 3) rfl
  have q2 := SlR.cell hE hS 1 (4, 3, 1) rfl 2 (.int .i64 1) rfl
  simp only [Nat.zero_mul, Nat.one_mul, Nat.add_zero] at p0 p1 p2 q0 q1 q2
  clear hS hU
  go_wp2_with fail
  refine (numP _ 0).mono ?_
  rintro e w2 ⟨rfl, k2, rfl⟩
  go_wp2_with fail
  go_returns
  exact ⟨rfl, U1.out.drewN _⟩

set_option maxRecDepth 100000 in
set_option maxHeartbeats 3200000 in
theorem lays_any (w : World) (n M T : Int) (A : Option Addr) (cap : Nat) (ns : List Int) (h : RdI w (.slice A ns.length cap) ns) (hw : ∀ x ∈ ns, x ≤ 9223372036854775807) (hcap : ns.length ≤ cap) :
    Calls Try.prog 3 #[.int .i64 n, .int .i64 M, .int .i64 T, .slice A ns.length cap] w fun e w' => e = .returned (.bool true) ∧ Upd (fun _ => False) w w' := by
  have HR := Lib.hid h; have HW := Lib.hid hw
  clear h hw
  by_cases hl : ns.length ≤ 20
  · have d0 : decide (20 < (ns.length : Int)) = false := decide_eq_false (by omega)
    have d0' : ¬ 20 < ns.length := by omega
    obtain ⟨M', hM⟩ : ∃ M', min (max M 0) 8 = M' := ⟨_, rfl⟩
    obtain ⟨T', hT⟩ : ∃ T' : Nat, min (max T 1) 32 = (T' : Int) := ⟨(min (max T 1) 32).toNat, by omega⟩
    have HM := Lib.hid hM; have HT := Lib.hid hT
    obtain ⟨⟨xs, e1⟩, h1⟩ : ∃ r, spreadN n M T ns = r := ⟨_, rfl⟩
    obtain ⟨⟨ys, e2⟩, h2⟩ : ∃ r, spreadN n M 1 ns = r := ⟨_, rfl⟩
    have l1 : xs.length ≤ 32 := by have := spreadN_len n M T ns; rw [h1] at this; exact this
    have l2 : ys.length ≤ 32 := by have := spreadN_len n M 1 ns; rw [h2] at this; exact this
    obtain ⟨c, hc⟩ : ∃ c, costN M' T' ns (min ns.length 6) = c := ⟨_, rfl⟩
    have H1 := Lib.hid h1; have H2 := Lib.hid h2; have HC := Lib.hid hc
    clear hM hT h1 h2 hc
    go_enter Try.func3, Try.ntmps3
    go_wp2_with fail
    refine (spreadP _ n M T _ ns HR.out HW.out).mono ?_
    rw [H1.out]
    rintro e w1 ⟨v1, rfl, hS, hU⟩
    have S1 := Lib.hid hS; have U1 := Lib.hid hU
    obtain ⟨B1, c1, hsh⟩ := hS.shape
    subst hsh
    clear hS hU
    go_wp2_with fail
    refine (spreadR _ n M T _ ns (HR.out.still U1.out) HW.out).mono ?_
    rw [H1.out]
    rintro e w2 ⟨v2, rfl, hS, hU⟩
    have S2 := Lib.hid hS; have U2 := Lib.hid (U1.out.trans hU); have S1' := Lib.hid (S1.out.still hU)
    obtain ⟨B2, c2, hsh⟩ := hS.shape
    subst hsh
    clear hS hU S1
    go_wp2_with fail
    refine (rowsP _ n M _ ns (HR.out.still U2.out) HW.out).mono ?_
    rw [H2.out]
    rintro e w3 ⟨v3, rfl, hS, hU⟩
    have S3 := Lib.hid hS; have U3 := Lib.hid (U2.out.trans hU); have S1 := Lib.hid (S1'.out.still hU); have S2' := Lib.hid (S2.out.still hU)
    obtain ⟨B3, c3, hsh⟩ := hS.shape
    subst hsh
    clear hS hU S2 S1'
    go_wp2_with fail
    refine (spreadR _ n M 1 _ ns (HR.out.still U3.out) HW.out).mono ?_
    rw [H2.out]
    rintro e w4 ⟨v4, rfl, hS, hU⟩
    have S4 := Lib.hid hS; have U4 := Lib.hid (U3.out.trans hU); have S1' := Lib.hid (S1.out.still hU); have S2 := Lib.hid (S2'.out.still hU); have S3' := Lib.hid (S3.out.still hU)
    obtain ⟨B4, c4, hsh⟩ := hS.shape
    subst hsh
    clear hS hU S3 S1 S2'
    go_wp2_with fail
    refine (windowsP _ _ _ _ _ xs S1'.out S2.out (by omega)).mono ?_
    rintro e w5 ⟨rfl, k5, rfl⟩
    go_wp2_with fail
    refine (numP _ e1).mono ?_
    rintro e w6 ⟨rfl, k6, rfl⟩
    go_wp2_with fail
    refine (windowsP _ _ _ _ _ ys (S3'.out.drewN _) (S4.out.drewN _) (by omega)).mono ?_
    rintro e w7 ⟨rfl, k7, rfl⟩
    go_wp2_with fail
    refine (numP _ e2).mono ?_
    rintro e w8 ⟨rfl, k8, rfl⟩
    go_wp2_with fail
    refine (costP _ M T A cap ns (HR.out.still (U4.out.drewN _)) hcap M' T' HM.out HT.out).mono ?_
    rw [HC.out]
    rintro e w9 ⟨rfl, k9, rfl⟩
    go_wp2_with fail
    refine (costD _ M T _ ns (HR.out.still (U4.out.drewN _)) M' T' HM.out HT.out).mono ?_
    rw [HC.out]
    rintro e w10 ⟨rfl, k10, rfl⟩
    go_wp2_with fail
    refine (knowsP _).mono ?_
    rintro e w11 ⟨rfl, hU⟩
    have U11 := Lib.hid ((U4.out.drewN _).trans hU)
    clear hU
    go_wp2_with fail
    go_returns
    exact ⟨rfl, U11.out⟩
  · have d0 : decide (20 < (ns.length : Int)) = true := decide_eq_true (by omega)
    have d0' : 20 < ns.length := by omega
    go_enter Try.func3, Try.ntmps3
    go_wp2_with fail
    refine (knowsP _).mono ?_
    rintro e w1 ⟨rfl, hU⟩
    have U1 := Lib.hid hU
    clear hU
    go_wp2_with fail
    go_returns
    exact ⟨rfl, U1.out⟩

theorem rdI_of {W : World} {A : Option Addr} {len cap : Nat} {X : Nat → Int} (hf : ∀ k, k < len → (Lit.int .i64 (X k)).wf = true) (hc : Row W A len fun k => .int .i64 (X k)) :
    RdI W (.slice A ((List.range len).map X).length cap) ((List.range len).map X) ∧ (∀ x ∈ (List.range len).map X, x ≤ 9223372036854775807) := by
  refine ⟨⟨A, cap, rfl, fun i x hx => ?_⟩, fun x hx => ?_⟩
  · simp only [List.getElem?_map, Option.map_eq_some_iff] at hx
    obtain ⟨k, hk, rfl⟩ := hx
    obtain ⟨hi, rfl⟩ := List.getElem?_eq_some_iff.1 hk
    simp only [List.getElem_range] at *
    have hi' : i < len := by simpa using hi
    obtain ⟨a0, ha0, _, hc0⟩ := hc 0 (by omega)
    obtain ⟨a, ha, hb, hc1⟩ := hc i hi'
    rw [ha] at ha0
    injection ha0 with ha0
    subst ha0
    have hs := World.cell?_spot hc0
    obtain ⟨b, o, sp⟩ := a
    have e0 : (⟨b, o, sp⟩ : Addr).add 0 = ⟨b, o, sp⟩ := by simp [Addr.add]
    rw [e0] at hs
    simp at hs
    subst hs
    rw [add_plain] at hc1
    exact ⟨b, o, ha, hb, hc1⟩
  · simp only [List.mem_map, List.mem_range] at hx
    obtain ⟨k, hk, rfl⟩ := hx
    have := hf k hk
    simp only [Lit.wf, Bool.and_eq_true, decide_eq_true_eq] at this
    exact this.2

theorem planLays_any (w : World) (n : Int) (_ : (Lit.int .i64 n).wf = true) (M : Int) (_ : (Lit.int .i64 M).wf = true) (T : Int) (_ : (Lit.int .i64 T).wf = true) (A : Option Addr) (len cap : Nat) (hl : len ≤ cap) (X : Nat → Int) (hf : ∀ k, k < len → (Lit.int .i64 (X k)).wf = true) (hc : Row w A len fun k => .int .i64 (X k)) :
    Calls Try.prog 3 #[.int .i64 n, .int .i64 M, .int .i64 T, .slice A len cap] w fun e w' => e = .returned (.bool true) ∧ Below w.heap.size w w' := by
  obtain ⟨h1, h2⟩ := rdI_of (cap := cap) hf hc
  have e1 : ((List.range len).map X).length = len := by simp
  have := lays_any w n M T A cap _ h1 h2 (by rw [e1]; exact hl)
  rw [e1] at this
  exact this.mono (fun _ _ ⟨h1, h2⟩ => ⟨h1, h2.below (Nat.le_refl _) (fun _ h => h.elim)⟩)
end Go.Proofs.Ytldbjoegfcmfkaa
