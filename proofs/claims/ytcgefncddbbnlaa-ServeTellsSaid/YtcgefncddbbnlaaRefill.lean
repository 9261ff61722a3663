/-
  The walks of refill.Budget: its looks, and what is left.
-/
import Derived.Test.YtcgefncddbbnlaaConf
namespace Go.Proofs.Ytcgefncddbbnlaa.Rf
open Go.RowKit Go.Proofs.Ytcgefncddbbnlaa.Cf

/-- The cells of chunks. -/
def chk : List (Int × Int) → List Value
  | [] => []
  | x :: t => .int .i64 x.1 :: .int .i64 x.2 :: chk t
theorem chk_len : ∀ xs : List (Int × Int), (chk xs).length = xs.length * 2
  | [] => rfl
  | x :: t => by simp [chk, chk_len t]; omega
theorem chk_at : ∀ (xs : List (Int × Int)) (i : Nat) (x : Int × Int), xs[i]? = some x → (chk xs)[i * 2]? = some (.int .i64 x.1) ∧ (chk xs)[i * 2 + 1]? = some (.int .i64 x.2)
  | [], i, x, h => by simp at h
  | y :: t, 0, x, h => by simp at h; subst h; exact ⟨rfl, rfl⟩
  | y :: t, i + 1, x, h => by
    have := chk_at t i x (by simpa using h)
    rw [show (i + 1) * 2 = i * 2 + 1 + 1 by omega]
    exact this
theorem chk_append : ∀ xs ys : List (Int × Int), chk (xs ++ ys) = chk xs ++ chk ys
  | [], _ => rfl
  | x :: t, ys => by simp [chk, chk_append t ys]

def sumL : List (Int × Int) → Int
  | [] => 0
  | x :: t => x.2 + sumL t
theorem sumL_append : ∀ xs ys : List (Int × Int), sumL (xs ++ ys) = sumL xs + sumL ys
  | [], ys => by simp [sumL]
  | x :: t, ys => by simp [sumL, sumL_append t ys]; omega
theorem sumL_take (xs : List (Int × Int)) (i : Nat) (x : Int × Int) (h : xs[i]? = some x) : sumL (xs.take (i + 1)) = sumL (xs.take i) + x.2 := by
  rw [List.take_add_one, h, sumL_append]
  simp [sumL]
def fineL (xs : List (Int × Int)) : Prop := ∀ x ∈ xs, 1 ≤ x.2 ∧ x.2 ≤ 1000
theorem sumL_bound : ∀ xs : List (Int × Int), fineL xs → (xs.length : Int) ≤ sumL xs ∧ sumL xs ≤ xs.length * 1000
  | [], _ => by simp [sumL]
  | x :: t, h => by
    have h1 := sumL_bound t (fun y hy => h y (List.mem_cons_of_mem _ hy))
    have h2 := h x (List.mem_cons_self ..)
    simp only [sumL, List.length_cons]
    omega
theorem fineL_take {xs : List (Int × Int)} (h : fineL xs) (i : Nat) : fineL (xs.take i) := fun x hx => h x (List.mem_of_mem_take hx)

/-- A budget's parts. -/
structure Bp where
  rf : Bool
  C : Int
  T : Int
  start : Int
  now : Int
  free : Int
  still : Bool

def Bp.cells (p : Bp) (L : Value) : Array Value := #[L, .bool p.rf, .int .i64 p.C, .int .i64 p.T, .int .i64 p.start, .int .i64 p.now, .int .i64 p.free, .bool p.still]

/-- The budget at g: its parts and its chunks. -/
structure Bud (w : World) (base g : Nat) (L : Value) (p : Bp) (xs : List (Int × Int)) : Prop where
  b : Blk w g 138 (p.cells L)
  s : Sl w base 161 2 L xs.length (chk xs)

theorem Bud.drewN {w : World} {base g : Nat} {L : Value} {p : Bp} {xs : List (Int × Int)} (h : Bud w base g L p xs) (k : Nat) : Bud (w.drewN k) base g L p xs := ⟨h.b.drewN k, h.s.drewN k⟩
theorem Bud.upd {w w' : World} {S : Nat → Prop} {base g : Nat} {L : Value} {p : Bp} {xs : List (Int × Int)} (h : Bud w base g L p xs) (hu : Upd S w w') (hg : ¬ S g) (hl : ∀ k, slBlk L = some k → ¬ S k) : Bud w' base g L p xs := ⟨h.b.upd hu hg, h.s.upd hu hl⟩
theorem Bud.still' {w w' : World} {base g : Nat} {L : Value} {p : Bp} {xs : List (Int × Int)} (h : Bud w base g L p xs) (hu : Upd (fun _ => False) w w') : Bud w' base g L p xs := h.upd hu (fun h => h) (fun _ _ h => h)

set_option maxHeartbeats 400000 in
theorem btoi_ (w : World) (b : Bool) : Calls Try.prog 66 #[.bool b] w fun e w' => e = .returned (.int .i64 (if b then 1 else 0)) ∧ ∃ k, w' = w.drewN k := by
  cases b
  all_goals
    go_enter Try.func66, Try.ntmps66
    go_wp2
    go_ret
    exact ⟨rfl, 0, rfl⟩

set_option maxRecDepth 100000 in
set_option maxHeartbeats 800000 in
theorem floor_ (w : World) (d T : Int) (hd : 0 ≤ d) (hd2 : d ≤ 4611686018427387904) (hT : 1 ≤ T) (hT2 : T ≤ 1000) (q : Int) (hq : d / T = q) :
    Calls Try.prog 111 #[.int .i64 d, .int .i64 T] w fun e w' => e = .returned (.int .i64 q) ∧ ∃ k, w' = w.drewN k := by
  have e0 : decide (T < 1) = false := decide_eq_false (by omega)
  have e1 : (T == 0) = false := beq_eq_false_iff_ne.2 (by omega)
  have e2 : d.tdiv T = q := by rw [Int.tdiv_eq_ediv_of_nonneg hd]; exact hq
  have e3 : decide (d % T < 0) = false := decide_eq_false (by have := Int.emod_nonneg d (show T ≠ 0 by omega); omega)
  have hq0 : 0 ≤ q := by rw [← hq]; exact Int.ediv_nonneg hd (by omega)
  have hq1 : q ≤ d := by rw [← hq]; exact Int.ediv_le_self _ hd
  clear hq
  go_enter Try.func111, Try.ntmps111
  go_wp2_with fail
  go_quiet ((go_at_call 66; exact Calls.quiet_of (btoi_ _ _)))
  go_wp2
  go_ret
  exact ⟨rfl, _, rfl⟩

set_option maxHeartbeats 400000 in
theorem noneB (w : World) (base g : Nat) (L : Value) (p : Bp) (xs : List (Int × Int)) (h : Bud w base g L p xs) (hC : 1 ≤ p.C) :
    Calls Try.prog 107 #[.pointer (some ⟨g, 0, none⟩)] w fun e w' => e = .returned (.bool false) ∧ ∃ k, w' = w.drewN k := by
  have c2 := h.b.cell 2
  simp [Bp.cells] at c2
  have e1 : (p.C == 0) = false := beq_eq_false_iff_ne.2 (by omega)
  clear h hC
  go_enter Try.func107, Try.ntmps107
  go_wp2
  go_ret
  exact ⟨rfl, 0, rfl⟩

set_option maxRecDepth 100000 in
set_option maxHeartbeats 800000 in
theorem periodB (w : World) (base g : Nat) (L : Value) (p : Bp) (xs : List (Int × Int)) (h : Bud w base g L p xs) (hT : 1 ≤ p.T) (hT2 : p.T ≤ 1000) (tick : Int) (hs0 : 0 ≤ p.start) (h0 : p.start ≤ tick) (h1 : tick ≤ 4611686018427387904) (q : Int) (hq : (tick - p.start) / p.T = q) :
    Calls Try.prog 109 #[.pointer (some ⟨g, 0, none⟩), .int .i64 tick] w fun e w' => e = .returned (.int .i64 q) ∧ ∃ k, w' = w.drewN k := by
  have c3 := h.b.cell 3
  have c4 := h.b.cell 4
  simp [Bp.cells] at c3 c4
  have HQ := Lib.hid hq; clear hq h
  go_enter Try.func109, Try.ntmps109
  go_wp2_with fail
  go_quiet ((go_at_call 111; exact Calls.quiet_of (floor_ _ _ _ (by omega) (by omega) hT hT2 q HQ.out)))
  go_wp2
  go_ret
  exact ⟨rfl, _, rfl⟩

set_option maxRecDepth 100000 in
set_option maxHeartbeats 1600000 in
theorem leftB (w : World) (base g : Nat) (L : Value) (p : Bp) (xs : List (Int × Int)) (h : Bud w base g L p xs) (hf : fineL xs) (hn : xs.length ≤ 1000) :
    Calls Try.prog 108 #[.pointer (some ⟨g, 0, none⟩)] w fun e w' => e = .returned (.int .i64 (sumL xs)) ∧ Upd (fun _ => False) w w' := by
  have c0 := h.b.cell 0
  simp [Bp.cells] at c0
  have hb := fun i => sumL_bound _ (fineL_take hf i)
  have HB := Lib.hid hb; clear hb
  have HF := Lib.hid hf; clear hf
  obtain ⟨A, cap, rfl⟩ := h.s.shape
  have HS := Lib.hid h.s; clear h
  go_enter Try.func108, Try.ntmps108
  go_wp2_with fail
  go_loopw [3, 11] (fun vn vi wr => ∃ i : Nat, i ≤ xs.length ∧ vi = .int .i64 i ∧ vn = .int .i64 (sumL (xs.take i)) ∧ Upd (fun _ => False) w wr) (fun _ vi _ => xs.length - (intOf vi).toNat)
  case atStart => exact ⟨0, Nat.zero_le _, rfl, by simp [sumL], Upd.refl _ _⟩
  case round =>
    obtain ⟨i, hi, rfl, rfl, hU⟩ := hrel
    by_cases hlt : i < xs.length
    · obtain ⟨x, hx⟩ : ∃ x, xs[i]? = some x := ⟨_, List.getElem?_eq_getElem hlt⟩
      have hS := HS.out.upd hU (fun _ _ h => h)
      obtain ⟨b, off, cap', e, _, _, _⟩ := hS.form (by omega)
      injection e with e1 e2 e3
      subst e1 e3
      have h0 := hS.cell _ _ (chk_at xs i x hx).1
      have h1 := hS.cell _ _ (chk_at xs i x hx).2
      rw [← Nat.add_assoc] at h1
      have hb := HB.out i
      have hx2 := HF.out x (List.mem_of_getElem? hx)
      have hlen : (xs.take i).length = i := by rw [List.length_take]; omega
      rw [hlen] at hb
      have hb1 := hb.1
      have hb2 := hb.2
      have HX := Lib.hid hx; clear hx hS hb hlen
      have HU := Lib.hid hU; clear hU
      generalize hsum : sumL (xs.take i) = sm at *
      have HSM := Lib.hid hsum; clear hsum
      go_wp2_with fail
      go_roundw
      case rel =>
        refine ⟨i + 1, by omega, by go_num, ?_, (HU.out.alloc _)⟩
        rw [sumL_take xs i x HX.out, HSM.out]
      case measure => simp [intOf]; omega
    · have hi' : i = xs.length := by omega
      go_wp2_with fail
      go_ret
      refine ⟨?_, hU⟩
      rw [hi', List.take_length]
      rfl
end Go.Proofs.Ytcgefncddbbnlaa.Rf
