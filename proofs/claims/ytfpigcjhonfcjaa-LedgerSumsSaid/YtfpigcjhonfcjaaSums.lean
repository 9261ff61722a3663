/-
  LedgerSums: any numbers together, if they fit.
-/
import Derived.Test.YtfpigcjhonfcjaaLedger2
import Derived.OpenShut
namespace Go.Proofs.Ytfpigcjhonfcjaa
open Go.RowKit

def fitB (x : Int) : Bool := decide (0 ≤ x ∧ x ≤ 4611686018427387904)
def addB (n x : Int) : Bool := decide (0 ≤ n ∧ n ≤ 4611686018427387904 ∧ 0 ≤ x ∧ x ≤ 4611686018427387904 ∧ n + x ≤ 4611686018427387904)
def addV (n x : Int) : Int := if addB n x = true then n + x else 0

set_option maxRecDepth 100000 in
set_option maxHeartbeats 400000 in
theorem fits1 (w : World) (b : Nat) (x : Int) (hc : w.cell? ⟨b, 0, none⟩ = some (.int .i64 x)) (r : Bool) (hr : fitB x = r) :
    Calls Try.prog 75 #[.slice (some ⟨b, 0, none⟩) 1 1] w fun e w' => e = .returned (.bool r) ∧ ∃ k, w' = w.drewN k := by
  unfold fitB at hr
  by_cases h0 : x < 0
  · have e0 : decide (x < 0) = true := decide_eq_true h0
    have : r = false := by rw [← hr]; exact decide_eq_false (by omega)
    subst this
    clear hr h0
    go_enter Try.func75, Try.ntmps75
    go_wp2
    go_rounds 2
    go_ret
    exact ⟨rfl, 0, rfl⟩
  · have e0 : decide (x < 0) = false := decide_eq_false h0
    by_cases h1 : 4611686018427387904 < x
    · have e1 : decide (4611686018427387904 < x) = true := decide_eq_true h1
      have : r = false := by rw [← hr]; exact decide_eq_false (by omega)
      subst this
      clear hr h0 h1
      go_enter Try.func75, Try.ntmps75
      go_wp2
      go_rounds 2
      go_ret
      exact ⟨rfl, 0, rfl⟩
    · have e1 : decide (4611686018427387904 < x) = false := decide_eq_false h1
      have : r = true := by rw [← hr]; exact decide_eq_true (by omega)
      subst this
      clear hr h0 h1
      go_enter Try.func75, Try.ntmps75
      go_wp2
      go_rounds 2
      go_ret
      exact ⟨rfl, 0, rfl⟩

set_option maxRecDepth 100000 in
set_option maxHeartbeats 800000 in
theorem fits2 (w : World) (b : Nat) (x y : Int) (hc : w.cell? ⟨b, 0, none⟩ = some (.int .i64 x)) (hd : w.cell? ⟨b, 1, none⟩ = some (.int .i64 y)) (r : Bool) (hr : (fitB x && fitB y) = r) :
    Calls Try.prog 75 #[.slice (some ⟨b, 0, none⟩) 2 2] w fun e w' => e = .returned (.bool r) ∧ ∃ k, w' = w.drewN k := by
  unfold fitB at hr
  by_cases h0 : x < 0
  · have e0 : decide (x < 0) = true := decide_eq_true h0
    have : r = false := by rw [← hr, Bool.and_eq_false_iff]; exact .inl (decide_eq_false (by omega))
    subst this
    clear hr h0
    go_enter Try.func75, Try.ntmps75
    go_wp2
    go_rounds 3
    go_ret
    exact ⟨rfl, 0, rfl⟩
  · have e0 : decide (x < 0) = false := decide_eq_false h0
    by_cases h1 : 4611686018427387904 < x
    · have e1 : decide (4611686018427387904 < x) = true := decide_eq_true h1
      have : r = false := by rw [← hr, Bool.and_eq_false_iff]; exact .inl (decide_eq_false (by omega))
      subst this
      clear hr h0 h1
      go_enter Try.func75, Try.ntmps75
      go_wp2
      go_rounds 3
      go_ret
      exact ⟨rfl, 0, rfl⟩
    · have e1 : decide (4611686018427387904 < x) = false := decide_eq_false h1
      have hx : decide (0 ≤ x ∧ x ≤ 4611686018427387904) = true := decide_eq_true (by omega)
      rw [hx, Bool.true_and] at hr
      clear hx h0 h1
      by_cases g0 : y < 0
      · have e2 : decide (y < 0) = true := decide_eq_true g0
        have : r = false := by rw [← hr]; exact decide_eq_false (by omega)
        subst this
        clear hr g0
        go_enter Try.func75, Try.ntmps75
        go_wp2
        go_rounds 3
        go_ret
        exact ⟨rfl, 0, rfl⟩
      · have e2 : decide (y < 0) = false := decide_eq_false g0
        obtain ⟨z, hz⟩ : ∃ z, decide (4611686018427387904 < y) = z := ⟨_, rfl⟩
        have : r = !z := by
          rw [← hr, ← hz]
          by_cases g : 4611686018427387904 < y
          · rw [decide_eq_true g]; exact decide_eq_false (by omega)
          · rw [decide_eq_false g]; exact decide_eq_true (by omega)
        subst this
        clear hr g0
        cases z
        all_goals
          go_enter Try.func75, Try.ntmps75
          go_wp2
          go_rounds 3
          go_ret
          exact ⟨rfl, 0, rfl⟩

set_option maxRecDepth 100000 in
set_option maxHeartbeats 800000 in
theorem numadd (w : World) (a b : Int) :
    Calls Try.prog 74 #[.int .i64 a, .int .i64 b] w fun e w' => e = .returned (.tuple #[.int .i64 (addV a b), .bool (addB a b)]) ∧ Upd (fun _ => False) w w' := by
  by_cases h : fitB a && fitB b
  · have HF := Lib.hid h
    have h2 := Bool.and_eq_true_iff.1 h
    have ha := of_decide_eq_true h2.1
    have hb := of_decide_eq_true h2.2
    clear h h2
    by_cases hs : a + b ≤ 4611686018427387904
    · have HS : Hid (fitB (a + b) = true) := Lib.hid (decide_eq_true (by omega))
      have HA : Hid (addB a b = true) := Lib.hid (decide_eq_true (by omega))
      have HV : Hid (addV a b = a + b) := Lib.hid (by unfold addV; rw [if_pos HA.out])
      rw [HA.out, HV.out]
      obtain ⟨a0, a1⟩ := ha
      obtain ⟨b0, b1⟩ := hb
      go_enter Try.func74, Try.ntmps74
      go_wp2_with fail
      refine (fits2 _ _ a b (by simp) (by simp) _ HF.out).mono ?_
      rintro e w1 ⟨rfl, k1, rfl⟩
      go_wp2_with fail
      refine (fits1 _ _ (a + b) (by simpa using (Blk.new ((w.alloc (.cells #[.int .i64 a, .int .i64 b] 3)).drewN k1) 3 #[.int .i64 (a + b)]).cell 0) _ HS.out).mono ?_
      rintro e w2 ⟨rfl, k2, rfl⟩
      go_wp2_with fail
      go_ret2
      exact ⟨rfl, by repeat (first | exact Upd.refl _ _ | refine Upd.alloc ?_ _ | refine Upd.drewN ?_ _)⟩
    · have HA : Hid (addB a b = false) := Lib.hid (decide_eq_false (by omega))
      have HV : Hid (addV a b = 0) := Lib.hid (by unfold addV; rw [if_neg (by rw [HA.out]; decide)])
      rw [HA.out, HV.out]
      have HS : Hid (fitB (wrap64 (a + b)) = false) := Lib.hid (decide_eq_false (by unfold wrap64; omega))
      have HS2 : Hid (fitB (a + b) = false) := Lib.hid (decide_eq_false (by omega))
      go_enter Try.func74, Try.ntmps74
      clear ha hb hs
      go_wp2_with fail
      refine (fits2 _ _ a b (by simp) (by simp) _ HF.out).mono ?_
      rintro e w1 ⟨rfl, k1, rfl⟩
      go_wp2_with fail
      refine (fits1 _ _ (wrap64 (a + b)) (by simpa using (Blk.new ((w.alloc (.cells #[.int .i64 a, .int .i64 b] 3)).drewN k1) 3 #[.int .i64 (wrap64 (a + b))]).cell 0) _ HS.out).mono ?_
      rintro e w2 ⟨rfl, k2, rfl⟩
      go_wp2_with fail
      go_ret2
      exact ⟨rfl, by repeat (first | exact Upd.refl _ _ | refine Upd.alloc ?_ _ | refine Upd.drewN ?_ _)⟩
  · have HF : Hid ((fitB a && fitB b) = false) := Lib.hid (by simpa using h)
    have HA : Hid (addB a b = false) := Lib.hid (decide_eq_false (fun g => h (Bool.and_eq_true_iff.2 ⟨decide_eq_true (by omega), decide_eq_true (by omega)⟩)))
    have HV : Hid (addV a b = 0) := Lib.hid (by unfold addV; rw [if_neg (by rw [HA.out]; decide)])
    rw [HA.out, HV.out]
    clear h
    go_enter Try.func74, Try.ntmps74
    go_wp2_with fail
    refine (fits2 _ _ a b (by simp) (by simp) _ HF.out).mono ?_
    rintro e w1 ⟨rfl, k1, rfl⟩
    go_wp2_with fail
    go_ret2
    exact ⟨rfl, by repeat (first | exact Upd.refl _ _ | refine Upd.alloc ?_ _ | refine Upd.drewN ?_ _)⟩

/-- What the numbers come to: the sum, and whether it always fitted. -/
def foldS (xs : Nat → Int) : Nat → Int × Bool
  | 0 => (0, true)
  | k + 1 => (addV (foldS xs k).1 (xs k), (foldS xs k).2 && addB (foldS xs k).1 (xs k))

def SumAt (w : World) (b : Nat) (n : Int) (off : Bool) : Prop := Blk w b 107 #[.int .i64 n, .bool off]

set_option maxRecDepth 100000 in
set_option maxHeartbeats 800000 in
theorem setS (w : World) (b : Nat) (n m : Int) (off ok : Bool) (h : SumAt w b n off) :
    Calls Try.prog 73 #[.pointer (some ⟨b, 0, none⟩), .int .i64 m, .bool ok] w fun e w' => e = .returned (.tuple #[]) ∧ SumAt w' b m (off || !ok) ∧ Upd (fun k => k = b) w w' := by
  have c0 := Blk.cell h 0
  have c1 := Blk.cell h 1
  have f0 := Blk.frozen h 0
  have f1 := Blk.frozen h 1
  simp at c0 c1
  have H := Lib.hid h; clear h
  cases off
  all_goals
    go_enter Try.func73, Try.ntmps73
    go_wp2
    go_returns
  · refine ⟨rfl, ?_, ((Upd.refl (fun k => k = b) w).setCell (p := ⟨b, 0, none⟩) (fun _ => rfl) _).setCell (fun _ => rfl) _⟩
    have := (Blk.set_ H.out 0 (.int .i64 m)).set_ 1 (.bool !ok)
    simpa [SumAt] using this
  · refine ⟨rfl, ?_, ((Upd.refl (fun k => k = b) w).setCell (p := ⟨b, 0, none⟩) (fun _ => rfl) _).setCell (fun _ => rfl) _⟩
    have := (Blk.set_ H.out 0 (.int .i64 m)).set_ 1 (.bool true)
    simpa [SumAt] using this

set_option maxRecDepth 100000 in
set_option maxHeartbeats 800000 in
theorem addS (w : World) (b : Nat) (A : Option Addr) (len cap : Nat) (xs : Nat → Int) (h : SumAt w b 0 false) (hl : len ≤ 100)
    (hc : ∀ k, k < len → ∃ a, A = some a ∧ a.block < w.heap.size ∧ w.cell? (a.add k) = some (.int .i64 (xs k))) (hb : 0 < len → ∀ a, A = some a → a.block ≠ b) :
    Calls Try.prog 70 #[.pointer (some ⟨b, 0, none⟩), .slice A len cap] w fun e w' => e = .returned (.tuple #[]) ∧ SumAt w' b (foldS xs len).1 (!(foldS xs len).2) ∧ Upd (fun k => k = b) w w' := by
  have HC := Lib.hid hc; clear hc
  have HNB := Lib.hid hb; clear hb
  have H := Lib.hid h; clear h
  go_enter Try.func70, Try.ntmps70
  go_wp2_with fail
  go_loopw [10] (fun vi wr => ∃ i : Nat, i ≤ len ∧ vi = .int .i64 i ∧ SumAt wr b (foldS xs i).1 (!(foldS xs i).2) ∧ Upd (fun k => k = b) w wr) (fun vi _ => len - (intOf vi).toNat)
  case atStart => exact ⟨0, by omega, rfl, H.out, Upd.refl _ _⟩
  case round =>
    obtain ⟨i, hi, rfl, hs, hu⟩ := hrel
    have HU := Lib.hid hu; clear hu
    by_cases hlt : i < len
    · obtain ⟨a, rfl, hab, hcell⟩ := HC.out i hlt
      have hcell := (HU.out.cell (p := a.add i) (by rw [block_add]; exact hab) (by rw [block_add]; exact HNB.out (by omega) a rfl)).trans hcell
      have c0 := Blk.cell hs 0
      simp at c0
      have HS := Lib.hid hs; clear hs
      go_wp2_with fail
      refine (numadd _ _ _).mono ?_
      rintro e w1 ⟨rfl, hU1⟩
      have HS1 := Lib.hid (Blk.upd HS.out hU1 (fun h => h))
      have HU1 := Lib.hid (HU.out.trans (hU1.mono (fun _ _ h => h.elim))); clear hU1 hcell c0
      go_wp2_with fail
      refine (setS _ b _ _ _ _ HS1.out).mono ?_
      rintro e w2 ⟨rfl, hs2, hU2⟩
      have HS2 := Lib.hid hs2; clear hs2
      have HU2 := Lib.hid (HU1.out.trans hU2); clear hU2
      go_wp2_with fail
      go_roundw
      case rel =>
        refine ⟨i + 1, by omega, by go_num, ?_, HU2.out⟩
        have := HS2.out
        rw [show (!(foldS xs (i + 1)).2) = (!(foldS xs i).2 || !addB (foldS xs i).1 (xs i)) from by simp [foldS]]
        exact this
      case measure => simp [intOf]; omega
    · have he : i = len := by omega
      have HE := Lib.hid he; clear he
      have HS := Lib.hid hs; clear hs
      go_wp2_with fail
      go_returns
      have e := HE.out
      subst e
      exact ⟨rfl, HS.out, HU.out⟩

set_option maxRecDepth 100000 in
set_option maxHeartbeats 400000 in
theorem valueS (w : World) (b : Nat) (n : Int) (off : Bool) (h : SumAt w b n off) (r : Int) (s : Bool) (hr : (if off = true then 0 else n) = r) (hs : (!off) = s) :
    Calls Try.prog 71 #[.pointer (some ⟨b, 0, none⟩)] w fun e w' => e = .returned (.tuple #[.int .i64 r, .bool s]) ∧ ∃ k, w' = w.drewN k := by
  subst hr hs
  have c0 := Blk.cell h 0
  have c1 := Blk.cell h 1
  simp at c0 c1
  clear h
  cases off
  all_goals
    go_enter Try.func71, Try.ntmps71
    go_wp2
    go_ret2
    exact ⟨rfl, 0, rfl⟩

set_option maxRecDepth 100000 in
set_option maxHeartbeats 800000 in
theorem sumL (w : World) (r : Int) (s : Bool) (A : Option Addr) (len cap : Nat) (xs : Nat → Int) (hl : len ≤ 100)
    (hc : ∀ k, k < len → ∃ a, A = some a ∧ a.block < w.heap.size ∧ w.cell? (a.add k) = some (.int .i64 (xs k))) (hA : 0 < len → ∀ a, A = some a → a.block < w.heap.size) (hs : (foldS xs len).2 = s) (hr : (if s = true then (foldS xs len).1 else 0) = r) :
    Calls Try.prog 57 #[.slice A len cap] w fun e w' => e = .returned (.tuple #[.int .i64 r, .bool s]) ∧ Below w.heap.size w w' := by
  have HC := Lib.hid hc; clear hc
  have HA := Lib.hid hA; clear hA
  have HS := Lib.hid hs; clear hs
  have HR := Lib.hid hr; clear hr
  go_enter Try.func57, Try.ntmps57
  go_wp2_with fail
  have hB0 := (Below.refl w.heap.size w).alloc (Nat.le_refl _) (.cells #[.int .i64 0, .bool false] 107)
  have hS0 : SumAt (w.alloc (.cells #[.int .i64 0, .bool false] 107)) w.heap.size 0 false := Blk.new _ _ _
  generalize w.alloc (.cells #[.int .i64 0, .bool false] 107) = W at *
  have HB0 := Lib.hid hB0; clear hB0
  have HS0 := Lib.hid hS0; clear hS0
  refine (addS _ w.heap.size A len cap xs HS0.out hl (fun k hk => by
    obtain ⟨a, rfl, h1, h2⟩ := HC.out k hk
    exact ⟨a, rfl, Nat.lt_of_lt_of_le h1 HB0.out.size, (HB0.out.cell (p := a.add k) (by rw [block_add]; exact h1)).trans h2⟩) (fun h0 a ha => by have := HA.out h0 a ha; omega)).mono ?_
  rintro e w1 ⟨rfl, hs1, hU1⟩
  have HS1 := Lib.hid hs1; clear hs1
  have HB1 := Lib.hid (Below.upd HB0.out hU1 HB0.out.size (fun k hk => by omega)); clear hU1
  go_wp2_with fail
  refine (valueS _ _ _ _ HS1.out r s (by have := HR.out; have := HS.out; cases s <;> simp_all) (by rw [HS.out]; simp)).mono ?_
  rintro e w2 ⟨rfl, k2, rfl⟩
  go_wp2_with fail
  go_ret2
  exact ⟨rfl, below_drewN HB1.out _⟩

set_option maxHeartbeats 400000 in
theorem rfits (w : World) (x : Int) (r : Bool) (hr : fitB x = r) :
    Calls Try.prog 69 #[.int .i64 x] w fun e w' => e = .returned (.bool r) ∧ ∃ k, w' = w.drewN k := by
  unfold fitB at hr
  by_cases h0 : 0 ≤ x
  · have e0 : decide (0 ≤ x) = true := decide_eq_true h0
    have e1 : decide (x ≤ 4611686018427387904) = r := by rw [← hr]; by_cases g : x ≤ 4611686018427387904 <;> simp [g, h0]
    clear hr
    go_enter Try.func69, Try.ntmps69
    go_wp2
    go_ret
    exact ⟨rfl, 0, rfl⟩
  · have e0 : decide (0 ≤ x) = false := decide_eq_false h0
    have : r = false := by rw [← hr]; exact decide_eq_false (fun g => h0 g.1)
    subst this
    clear hr
    go_enter Try.func69, Try.ntmps69
    go_wp2
    go_ret
    exact ⟨rfl, 0, rfl⟩

set_option maxRecDepth 100000 in
set_option maxHeartbeats 800000 in
theorem radd (w : World) (a b : Int) (y : Bool) (hy : addB a b = y) :
    Calls Try.prog 56 #[.int .i64 a, .int .i64 b] w fun e w' => e = .returned (.tuple #[.int .i64 (addV a b), .bool y]) ∧ ∃ k, w' = w.drewN k := by
  subst hy
  obtain ⟨fa, ha⟩ : ∃ r, fitB a = r := ⟨_, rfl⟩
  obtain ⟨fb, hb⟩ : ∃ r, fitB b = r := ⟨_, rfl⟩
  have HA := Lib.hid ha
  have HB := Lib.hid hb
  cases fa
  · have HX : Hid (addB a b = false) := Lib.hid (decide_eq_false (fun g => of_decide_eq_false ha ⟨g.1, g.2.1⟩))
    have HV : Hid (addV a b = 0) := Lib.hid (by unfold addV; rw [if_neg (by rw [HX.out]; decide)])
    rw [HX.out, HV.out]
    clear ha hb
    go_enter Try.func56, Try.ntmps56
    go_wp2_with fail
    refine (rfits _ a _ HA.out).mono ?_
    rintro e w1 ⟨rfl, k1, rfl⟩
    go_wp2_with fail
    go_ret2
    exact ⟨rfl, _, rfl⟩
  · cases fb
    · have HX : Hid (addB a b = false) := Lib.hid (decide_eq_false (fun g => of_decide_eq_false hb ⟨g.2.2.1, g.2.2.2.1⟩))
      have HV : Hid (addV a b = 0) := Lib.hid (by unfold addV; rw [if_neg (by rw [HX.out]; decide)])
      rw [HX.out, HV.out]
      clear ha hb
      go_enter Try.func56, Try.ntmps56
      go_wp2_with fail
      refine (rfits _ a _ HA.out).mono ?_
      rintro e w1 ⟨rfl, k1, rfl⟩
      go_wp2_with fail
      refine (rfits _ b _ HB.out).mono ?_
      rintro e w1 ⟨rfl, k2, rfl⟩
      go_wp2_with fail
      go_ret2
      exact ⟨rfl, _, rfl⟩
    · obtain ⟨a0, a1⟩ := of_decide_eq_true ha
      obtain ⟨b0, b1⟩ := of_decide_eq_true hb
      clear ha hb
      by_cases hs : a + b ≤ 4611686018427387904
      · have HX : Hid (addB a b = true) := Lib.hid (decide_eq_true (by omega))
        have HV : Hid (addV a b = a + b) := Lib.hid (by unfold addV; rw [if_pos HX.out])
        rw [HX.out, HV.out]
        have e1 : decide (4611686018427387904 - b < a) = false := decide_eq_false (by omega)
        go_enter Try.func56, Try.ntmps56
        go_wp2_with fail
        refine (rfits _ a _ HA.out).mono ?_
        rintro e w1 ⟨rfl, k1, rfl⟩
        go_wp2_with fail
        refine (rfits _ b _ HB.out).mono ?_
        rintro e w1 ⟨rfl, k2, rfl⟩
        go_wp2_with fail
        go_ret2
        exact ⟨rfl, _, rfl⟩
      · have HX : Hid (addB a b = false) := Lib.hid (decide_eq_false (by omega))
        have HV : Hid (addV a b = 0) := Lib.hid (by unfold addV; rw [if_neg (by rw [HX.out]; decide)])
        rw [HX.out, HV.out]
        have e1 : decide (4611686018427387904 - b < a) = true := decide_eq_true (by omega)
        go_enter Try.func56, Try.ntmps56
        go_wp2_with fail
        refine (rfits _ a _ HA.out).mono ?_
        rintro e w1 ⟨rfl, k1, rfl⟩
        go_wp2_with fail
        refine (rfits _ b _ HB.out).mono ?_
        rintro e w1 ⟨rfl, k2, rfl⟩
        go_wp2_with fail
        go_ret2
        exact ⟨rfl, _, rfl⟩

set_option maxRecDepth 100000 in
set_option maxHeartbeats 1600000 in
theorem sums_short (w : World) (A : Option Addr) (len cap : Nat) (xs : Nat → Int) (hl : len ≤ 100)
    (hc : ∀ k, k < len → ∃ a, A = some a ∧ a.block < w.heap.size ∧ w.cell? (a.add k) = some (.int .i64 (xs k))) (hA : 0 < len → ∀ a, A = some a → a.block < w.heap.size) :
    Calls Try.prog 11 #[.slice A len cap] w fun e w' => e = .returned (.bool true) ∧ Below w.heap.size w w' := by
  have e0 : decide ((100 : Int) < (len : Int)) = false := decide_eq_false (by omega)
  have HC := Lib.hid hc; clear hc
  have HA := Lib.hid hA; clear hA
  go_enter Try.func11, Try.ntmps11
  go_wp2_with fail
  go_loopw [3, 4, 5] (fun vn vok vi wr => ∃ i : Nat, i ≤ len ∧ vi = .int .i64 i ∧ vn = .int .i64 (foldS xs i).1 ∧ vok = .bool (foldS xs i).2 ∧ Below w.heap.size w wr) (fun _ _ vi _ => len - (intOf vi).toNat)
  case atStart => exact ⟨0, by omega, rfl, rfl, rfl, Below.refl _ _⟩
  case round =>
    obtain ⟨i, hi, rfl, rfl, rfl, hB⟩ := hrel
    have HB := Lib.hid hB; clear hB
    by_cases hlt : i < len
    · obtain ⟨a, rfl, hab, hcell⟩ := HC.out i hlt
      have hcell := (HB.out.cell (p := a.add i) (by rw [block_add]; exact hab)).trans hcell
      obtain ⟨z, hz⟩ : ∃ z, (foldS xs i).2 = z := ⟨_, rfl⟩
      have HZ := Lib.hid hz
      rw [hz]
      clear hz
      obtain ⟨y, hy⟩ : ∃ y, addB (foldS xs i).1 (xs i) = y := ⟨_, rfl⟩
      have HY := Lib.hid hy
      clear hy
      cases z <;> cases y
      all_goals
        go_wp2_with fail
        refine (radd _ _ _ _ HY.out).mono ?_
        rintro e w1 ⟨rfl, k1, rfl⟩
        go_wp2_with fail
        go_roundw
        case rel => exact ⟨i + 1, by omega, by go_num, rfl, by simp [foldS, HZ.out, HY.out], below_drewN HB.out _⟩
        case measure => simp [intOf]; omega
    · have he : i = len := by omega
      subst he
      obtain ⟨z, hz⟩ : ∃ z, (foldS xs i).2 = z := ⟨_, rfl⟩
      have HZ := Lib.hid hz
      rw [hz]
      clear hz
      cases z
      all_goals
        go_wp2_with fail
        refine (sumL _ _ _ A i cap xs hl (fun k hk => by
          obtain ⟨a, rfl, h1, h2⟩ := HC.out k hk
          exact ⟨a, rfl, Nat.lt_of_lt_of_le h1 HB.out.size, (HB.out.cell (p := a.add k) (by rw [block_add]; exact h1)).trans h2⟩) (fun h0 a ha => Nat.lt_of_lt_of_le (HA.out h0 a ha) HB.out.size) HZ.out rfl).mono ?_
        rintro e w2 ⟨rfl, hB2⟩
        have HB2 := Lib.hid (chn HB.out hB2); clear hB2
        simp only [Bool.false_eq_true, if_false, if_true]
        go_wp2_with fail
        refine (knows15 _).mono ?_
        rintro e w3 ⟨rfl, hB3⟩
        go_wp2_with fail
        go_ret
        exact ⟨rfl, chn HB2.out hB3⟩

set_option maxRecDepth 100000 in
theorem sums_any (w : World) (A : Option Addr) (len cap : Nat) (xs : Nat → Int) (_ : ∀ k, k < len → (Lit.int .i64 (xs k)).wf = true)
    (hc : ∀ k, k < len → ∃ a, A = some a ∧ a.block < w.heap.size ∧ w.cell? (a.add k) = some (.int .i64 (xs k))) :
    Calls Try.prog 11 #[.slice A len cap] w fun e w' => e = .returned (.bool true) ∧ Below w.heap.size w w' := by
  rcases Nat.lt_or_ge 100 len with hl | hl
  · have e0 : decide ((100 : Int) < (len : Int)) = true := decide_eq_true (by omega)
    go_enter Try.func11, Try.ntmps11
    go_wp2_with fail
    refine (knows15 _).mono ?_
    rintro e w1 ⟨rfl, hB1⟩
    go_wp2_with fail
    go_ret
    exact ⟨rfl, hB1⟩
  · exact sums_short w A len cap xs hl hc (fun h0 b hb => by
      obtain ⟨a, e, h1, _⟩ := hc 0 h0
      rw [e] at hb
      injection hb with hb
      subst hb
      exact h1)
end Go.Proofs.Ytfpigcjhonfcjaa
