/-
  Serve: Late, where nothing is late.
  Serve: Late, where nothing is late: the list.
  Serve, plain: asks of at most 12 ticks' work, up to tick 600: what is answered in 3000 ticks.
  Serve: the statement of what is in time, walked, at every input.
-/
import Derived.Test.YtcgefncddbbnlaaSvLM
import Derived.Test.YtcgefncddbbnlaaSvQX
import Derived.Test.YtcgefncddbbnlaaRefillB
import Derived.Test.YtcgefncddbbnlaaArgs2
namespace Go.Proofs.Ytcgefncddbbnlaa
open Go.RowKit
attribute [local go_sem] max_ints min_ints

/-- Is it refused? Does it wait behind a tick? -/
def refB (a : An) : Bool := decide (a.b = -1) && decide (a.d = -1)
def waitB (at_ : Int) (a : An) : Bool := !refB a && (decide (a.d < 0) || decide (at_ < a.d))
def aloneB (L : List An) (at_ : Int) : Bool := !L.any (waitB at_)
def waitN (C T w : Int) : Int := T * (w / C + (if 0 < w % C then 1 else 0) + 1)

set_option maxRecDepth 100000 in
theorem refusedC (w : World) (a : An) : Calls Try.prog 57 #[.agg #[.int .i64 a.t, .int .i64 a.w, .int .i64 a.b, .int .i64 a.d]] w fun e w' => e = .returned (.bool (refB a)) ∧ Upd (fun _ => False) w w' := by
  have ua := (Upd.refl (fun _ => False) w).alloc (.cells #[.int .i64 a.t, .int .i64 a.w, .int .i64 a.b, .int .i64 a.d] 37)
  have c2 : (w.alloc (.cells #[.int .i64 a.t, .int .i64 a.w, .int .i64 a.b, .int .i64 a.d] 37)).cell? ⟨w.heap.size, 2, none⟩ = some (.int .i64 a.b) := (Blk.new w _ _).cell 2
  have c3 : (w.alloc (.cells #[.int .i64 a.t, .int .i64 a.w, .int .i64 a.b, .int .i64 a.d] 37)).cell? ⟨w.heap.size, 3, none⟩ = some (.int .i64 a.d) := (Blk.new w _ _).cell 3
  have U := Lib.hid ua
  clear ua
  unfold refB
  by_cases h1 : a.b = -1
  · have d1 : (a.b == -1) = true := beq_iff_eq.2 h1
    have e1 : decide (a.b = -1) = true := decide_eq_true h1
    rw [e1]
    by_cases h2 : a.d = -1
    · have d2 : (a.d == -1) = true := beq_iff_eq.2 h2
      have e2 : decide (a.d = -1) = true := decide_eq_true h2
      rw [e2]
      clear h1 h2
      go_enter Try.func57, Try.ntmps57
      go_wp2_with fail
      go_returns
      exact ⟨rfl, U.out⟩
    · have d2 : (a.d == -1) = false := beq_eq_false_iff_ne.2 h2
      have e2 : decide (a.d = -1) = false := decide_eq_false h2
      rw [e2]
      clear h1 h2
      go_enter Try.func57, Try.ntmps57
      go_wp2_with fail
      go_returns
      exact ⟨rfl, U.out⟩
  · have d1 : (a.b == -1) = false := beq_eq_false_iff_ne.2 h1
    have e1 : decide (a.b = -1) = false := decide_eq_false h1
    rw [e1]
    clear h1
    go_enter Try.func57, Try.ntmps57
    go_wp2_with fail
    go_returns
    exact ⟨rfl, U.out⟩

set_option maxRecDepth 100000 in
set_option maxHeartbeats 1600000 in
theorem alone1 (w : World) (a : An) (g : Nat) (at_ : Int) (hg : Blk w g 3 #[.int .i64 at_]) :
    Calls Try.prog 56 #[.agg #[.int .i64 a.t, .int .i64 a.w, .int .i64 a.b, .int .i64 a.d], .pointer (some ⟨g, 0, none⟩)] w fun e w' => e = .returned (.bool (waitB at_ a)) ∧ Upd (fun _ => False) w w' := by
  have ua := (Upd.refl (fun _ => False) w).alloc (.cells #[.int .i64 a.t, .int .i64 a.w, .int .i64 a.b, .int .i64 a.d] 37)
  have B := Lib.hid (Blk.new w 37 #[.int .i64 a.t, .int .i64 a.w, .int .i64 a.b, .int .i64 a.d])
  have G := Lib.hid (hg.alloc (.cells #[.int .i64 a.t, .int .i64 a.w, .int .i64 a.b, .int .i64 a.d] 37))
  have U := Lib.hid ua
  generalize hw0 : w.alloc (.cells #[.int .i64 a.t, .int .i64 a.w, .int .i64 a.b, .int .i64 a.d] 37) = w0 at *
  have HW0 := Lib.hid hw0
  have c0 : w0.cell? ⟨w.heap.size, 0, none⟩ = some (.int .i64 a.t) := B.out.cell 0
  have c1 : w0.cell? ⟨w.heap.size, 1, none⟩ = some (.int .i64 a.w) := B.out.cell 1
  have c2 : w0.cell? ⟨w.heap.size, 2, none⟩ = some (.int .i64 a.b) := B.out.cell 2
  have c3 : w0.cell? ⟨w.heap.size, 3, none⟩ = some (.int .i64 a.d) := B.out.cell 3
  clear ua hg hw0
  obtain ⟨rb, hrb⟩ : ∃ rb, refB a = rb := ⟨_, rfl⟩
  have HRB := Lib.hid hrb
  obtain ⟨db, hdb⟩ : ∃ db, decide (a.d < 0) = db := ⟨_, rfl⟩
  obtain ⟨lb, hlb⟩ : ∃ lb, decide (at_ < a.d) = lb := ⟨_, rfl⟩
  have HG : Hid (waitB at_ a = (!rb && (db || lb))) := Lib.hid (by unfold waitB; rw [hrb, hdb, hlb])
  rw [HG.out]
  clear hrb
  go_enter Try.func56, Try.ntmps56
  go_upto_region 1 with fail
  rw [HW0.out]
  go_wp2_with fail
  refine (refusedC w0 a).mono ?_
  rintro e w1 ⟨rfl, hU⟩
  rw [HRB.out]
  have c3 : w1.cell? ⟨w.heap.size, 3, none⟩ = some (.int .i64 a.d) := (B.out.upd hU (fun h => h)).cell 3
  have g0 : w1.cell? ⟨g, 0, none⟩ = some (.int .i64 at_) := (G.out.upd hU (fun h => h)).cell 0
  have U1 := Lib.hid (U.out.trans hU)
  clear hU
  cases rb
  · cases db
    · go_wp2_with fail
      go_returns
      exact ⟨by simp, U1.out⟩
    · go_wp2_with fail
      go_returns
      exact ⟨by simp, U1.out⟩
  · go_wp2_with fail
    go_returns
    exact ⟨by simp, U1.out⟩

set_option maxRecDepth 100000 in
set_option maxHeartbeats 1600000 in
theorem indexL (w : World) (base : Nat) (v : Value) (l : List An) (hv : SlR encA w base 37 4 v l) (g : Nat) (at_ : Int) (hg : Blk w g 3 #[.int .i64 at_]) (hl : l.length ≤ 1000) :
    Calls Try.prog 77 #[v, .func (.func 56) #[] #[.pointer (some ⟨g, 0, none⟩)]] w fun e w' =>
      ∃ z : Int, e = .returned (.int .i64 z) ∧ decide (0 ≤ z) = l.any (waitB at_) ∧ Upd (fun _ => False) w w' := by
  obtain ⟨A, cap, rfl⟩ := hv.shape
  have HV := Lib.hid hv; have HG := Lib.hid hg
  clear hv hg
  go_enter Try.func77, Try.ntmps77
  go_wp2_with fail
  go_loopw [5, 8] (fun _ vi wr => ∃ (i : Nat), i ≤ l.length ∧ vi = .int .i64 i ∧ l.any (waitB at_) = (l.drop i).any (waitB at_) ∧ Upd (fun _ => False) w wr) (fun _ vi _ => l.length - (intOf vi).toNat)
  case atStart => exact ⟨0, Nat.zero_le _, rfl, rfl, Upd.refl _ _⟩
  case round =>
    obtain ⟨i, hi, rfl, h1, hU⟩ := hrel
    have HU := Lib.hid hU; have H1 := Lib.hid h1
    clear h1
    by_cases hlt : i < l.length
    · obtain ⟨a, ha⟩ : ∃ a, l[i]? = some a := ⟨_, List.getElem?_eq_getElem hlt⟩
      have hv1 : SlR encA wr base 37 4 (.slice A l.length cap) l := HV.out.upd hU (fun _ _ h => h)
      have G1 := Lib.hid (HG.out.upd hU (fun h => h))
      obtain ⟨lb, lo, lc, e1, _, _, _, _⟩ := hv1.form (by omega)
      injection e1 with e1 e1b e1c
      subst e1; subst e1c
      have c0 : wr.cell? ⟨lb, lo + i * 4, none⟩ = some (.int .i64 a.t) := hv1.cell encA_len i a ha 0 _ rfl
      have c1 : wr.cell? ⟨lb, lo + i * 4 + 1, none⟩ = some (.int .i64 a.w) := hv1.cell encA_len i a ha 1 _ rfl
      have c2 : wr.cell? ⟨lb, lo + i * 4 + 2, none⟩ = some (.int .i64 a.b) := hv1.cell encA_len i a ha 2 _ rfl
      have c3 : wr.cell? ⟨lb, lo + i * 4 + 3, none⟩ = some (.int .i64 a.d) := hv1.cell encA_len i a ha 3 _ rfl
      have dl : decide ((i : Int) < (l.length : Int)) = true := decide_eq_true (by omega)
      have di : decide ((i : Int) < 0) = false := decide_eq_false (by omega)
      have dn : i < l.length := hlt
      have hd : l.drop i = a :: l.drop (i + 1) := by
        rw [List.drop_eq_getElem_cons hlt]
        have := (List.getElem?_eq_some_iff.1 ha).2
        rw [this]
      have HD : Hid (l.any (waitB at_) = (waitB at_ a || (l.drop (i + 1)).any (waitB at_))) := Lib.hid (by rw [H1.out, hd]; rfl)
      clear ha hv1 e1b hU hd
      go_wp2_with fail
      refine (alone1 wr a g at_ G1.out).mono ?_
      rintro e w2 ⟨rfl, hU2⟩
      have U2 := Lib.hid (HU.out.trans hU2)
      obtain ⟨t, ht⟩ : ∃ t, waitB at_ a = t := ⟨_, rfl⟩
      rw [ht] at HD ⊢
      clear hU2 ht
      cases t
      · go_wp2_with fail
        go_roundw
        case rel => exact ⟨i + 1, by omega, by go_num, by rw [HD.out]; rfl, U2.out⟩
        case measure => simp [intOf]; omega
      · go_wp2_with fail
        go_returns
        exact ⟨_, rfl, by rw [HD.out, Bool.true_or]; exact decide_eq_true (by omega), U2.out⟩
    · have hi' : i = l.length := by omega
      subst hi'
      clear hU
      go_wp2_with fail
      go_returns
      exact ⟨_, rfl, by rw [H1.out]; simp, HU.out⟩

set_option maxRecDepth 100000 in
set_option maxHeartbeats 1600000 in
theorem aloneC (w : World) (base : Nat) (v : Value) (l : List An) (hv : SlR encA w base 37 4 v l) (at_ : Int) (hl : l.length ≤ 1000) :
    Calls Try.prog 25 #[v, .int .i64 at_] w fun e w' => e = .returned (.bool (aloneB l at_)) ∧ Upd (fun _ => False) w w' := by
  have ua := (Upd.refl (fun _ => False) w).alloc (.cells #[.int .i64 at_] 3)
  have G := Lib.hid (Blk.new w 3 #[.int .i64 at_])
  have V := Lib.hid (hv.upd ua (fun _ _ h => h))
  have U := Lib.hid ua
  generalize hw0 : w.alloc (.cells #[.int .i64 at_] 3) = w0 at *
  have HW0 := Lib.hid hw0
  clear ua hv hw0
  have hmf : ∀ (fn : Fn) (first cap : Array Value) (w : World), (Instr.makeFunc fn first cap).run Try.prog w = .ok (.func fn first cap) w := fun _ _ _ _ => rfl
  unfold aloneB
  go_enter Try.func25, Try.ntmps25
  go_upto_region 1 with fail
  rw [HW0.out]
  have HC : Hid (Calls Try.prog 55 #[v, .func (.func 56) #[] #[.pointer (some ⟨w.heap.size, 0, none⟩)]] w0 fun e w' => e = .returned (.bool (l.any (waitB at_))) ∧ Upd (fun _ => False) w0 w') := Lib.hid (by
    go_enter Try.func55, Try.ntmps55
    go_wp2_with fail
    refine (indexL w0 base v l V.out w.heap.size at_ G.out hl).mono ?_
    rintro e w1 ⟨z, rfl, hz, hU⟩
    have HU := Lib.hid hU; have HZ := Lib.hid hz
    clear hU hz
    go_wp2_with fail
    go_returns
    exact ⟨by rw [HZ.out]; rfl, HU.out⟩)
  go_wp2_with fail
  refine HC.out.mono ?_
  rintro e w1 ⟨rfl, hU⟩
  have HU := Lib.hid (U.out.trans hU)
  clear hU
  go_wp2_with fail
  go_returns
  exact ⟨rfl, HU.out⟩

set_option maxRecDepth 100000 in
set_option maxHeartbeats 800000 in
theorem ceilC (w : World) (a C : Int) (ha : 0 ≤ a) (ha2 : a ≤ 1048576) (hC : 1 ≤ C) (hC2 : C ≤ 1000) :
    Calls Try.prog 58 #[.int .i64 a, .int .i64 C] w fun e w' => e = .returned (.int .i64 (a / C + if 0 < a % C then 1 else 0)) ∧ ∃ k, w' = w.drewN k := by
  have e0 : decide (C < 1) = false := decide_eq_false (by omega)
  have e1 : (C == 0) = false := beq_eq_false_iff_ne.2 (by omega)
  obtain ⟨q, hq⟩ : ∃ q, a / C = q := ⟨_, rfl⟩
  have e2 : a.tdiv C = q := by rw [Int.tdiv_eq_ediv_of_nonneg ha]; exact hq
  have hq0 : 0 ≤ q := by rw [← hq]; exact Int.ediv_nonneg ha (by omega)
  have hq1 : q ≤ a := by rw [← hq]; exact Int.ediv_le_self _ ha
  have e4 : a.tmod C = a % C := Int.tmod_eq_emod_of_nonneg ha
  rw [hq]
  clear hq
  by_cases hm : 0 < a % C
  · have e3 : decide (0 < a % C) = true := decide_eq_true hm
    rw [if_pos hm]
    go_enter Try.func58, Try.ntmps58
    go_wp2_with fail
    go_quiet ((go_at_call 66; exact Calls.quiet_of (Rf.btoi_ _ _)))
    go_wp2
    go_ret
    exact ⟨rfl, _, rfl⟩
  · have e3 : decide (0 < a % C) = false := decide_eq_false hm
    rw [if_neg hm]
    go_enter Try.func58, Try.ntmps58
    go_wp2_with fail
    go_quiet ((go_at_call 66; exact Calls.quiet_of (Rf.btoi_ _ _)))
    go_wp2
    go_ret
    exact ⟨by simp, _, rfl⟩

set_option maxRecDepth 100000 in
set_option maxHeartbeats 1600000 in
theorem waitC (w : World) (rf : Bool) (C T x : Int) (hok : Cf.okS C T = true) (hx : 1 ≤ x) (hx2 : x ≤ 1048576) :
    Calls Try.prog 26 #[.agg #[.bool rf, .int .i64 C, .int .i64 T], .int .i64 x] w fun e w' => e = .returned (.int .i64 (waitN C T x)) ∧ Upd (fun _ => False) w w' := by
  have ua := (Upd.refl (fun _ => False) w).alloc (.cells #[.bool rf, .int .i64 C, .int .i64 T] 25)
  have B := Lib.hid (Blk.new w 25 #[.bool rf, .int .i64 C, .int .i64 T])
  have U := Lib.hid ua
  generalize hw0 : w.alloc (.cells #[.bool rf, .int .i64 C, .int .i64 T] 25) = w0 at *
  have HW0 := Lib.hid hw0
  have c0 : w0.cell? ⟨w.heap.size, 0, none⟩ = some (.bool rf) := B.out.cell 0
  have c1 : w0.cell? ⟨w.heap.size, 1, none⟩ = some (.int .i64 C) := B.out.cell 1
  have c2 : w0.cell? ⟨w.heap.size, 2, none⟩ = some (.int .i64 T) := B.out.cell 2
  have hcc : 1 ≤ C ∧ C ≤ T ∧ T ≤ 1000 := of_decide_eq_true hok
  have d1 : decide (x < 1) = false := decide_eq_false (by omega)
  have d2 : decide (1048576 < x) = false := decide_eq_false (by omega)
  have HC := Lib.hid hcc
  have HOK := Lib.hid hok
  have hz0 : 0 ≤ x / C := Int.ediv_nonneg (by omega) (by omega)
  have hz1 : x / C ≤ x := Int.ediv_le_self _ (by omega)
  obtain ⟨z, hz⟩ : ∃ z, x / C + (if 0 < x % C then 1 else 0) = z := ⟨_, rfl⟩
  have hzz : 0 ≤ z ∧ z ≤ 1048577 := by rw [← hz]; split <;> omega
  have HZ := Lib.hid hz
  have hw1 : IntKind.i64.wrap (z + 1) = z + 1 := Ck.wrap_in _ (by omega) (by omega)
  have hm0 : 0 ≤ T * (z + 1) := Int.mul_nonneg (by omega) (by omega)
  have hm1 : T * (z + 1) ≤ 1000 * 1048578 := Int.mul_le_mul (by omega) (by omega) (by omega) (by omega)
  have hw2 : IntKind.i64.wrap (T * (z + 1)) = T * (z + 1) := Ck.wrap_in _ (by omega) (by omega)
  have HX := Lib.hid hx; have HX2 := Lib.hid hx2
  clear ua hw0 hok hcc hz hz0 hz1 hm0 hm1 hx hx2
  go_enter Try.func26, Try.ntmps26
  go_upto_region 1 with fail
  rw [HW0.out]
  go_wp2_with fail
  refine (Cf.rightS w0 rf C T true HOK.out).mono ?_
  rintro e w1 ⟨rfl, hU⟩
  have B1 := Lib.hid (B.out.upd hU (fun h => h)); have U1 := Lib.hid (U.out.trans hU)
  have c1 : w1.cell? ⟨w.heap.size, 1, none⟩ = some (.int .i64 C) := B1.out.cell 1
  have c2 : w1.cell? ⟨w.heap.size, 2, none⟩ = some (.int .i64 T) := B1.out.cell 2
  clear hU
  go_upto_region 3 with fail
  refine wp_region_treeF (.q 0 (.q 1 (.q 2 (.q 3 (.q 4 (.l 5 (.q 6 (.q 7 (.q 8 .d))))))))) (fun _ => false) (fun _ => false) (fun w' => w'.cell? ⟨w.heap.size, 1, none⟩ = some (.int .i64 C) ∧ w'.cell? ⟨w.heap.size, 2, none⟩ = some (.int .i64 T))
    (by kernel_rfl) (by kernel_rfl) (by kernel_rfl) (fun t ht => by cases ht) (fun _ _ _ _ _ h => h) (by kernel_rfl) rfl ⟨c1, c2⟩ ?_
  iterate 5
    first
    | refine wpOF_skip (by rfl) (by rfl) ?_
    | (refine' wpOF_q (by rfl) (by rfl) (by rfl) (fun w' hS' => ?_) ?_
       rotate_left
       · obtain ⟨s1, s2⟩ := hS'
         go_simp
         try rfl)
    try simp only [Act.put, List.setIfInBounds_toArray, List.set_cons_zero, List.set_cons_succ]
  refine wpOF_l (by rfl) (by rfl) (fun KQ hKQ => ?_)
  go_simp
  go_at_call 58
  refine (ceilC _ x C (by have := HX.out; omega) HX2.out HC.out.1 (by have := HC.out; omega)).mono ?_
  rintro e w2 ⟨rfl, k, hk⟩
  have hU : Upd (fun _ => False) w1 w2 := by rw [hk]; exact (Upd.refl _ _).drew.drewN k
  have B2 := Lib.hid (B1.out.upd hU (fun h => h)); have U2 := Lib.hid (U1.out.trans hU)
  rw [HZ.out]
  clear hU hk
  refine hKQ _ _ (.inr ⟨B2.out.cell 1, B2.out.cell 2⟩) ?_
  clear hKQ KQ
  try simp only [Act.put, List.setIfInBounds_toArray, List.set_cons_zero, List.set_cons_succ]
  iterate 3
    first
    | refine wpOF_skip (by rfl) (by rfl) ?_
    | (refine' wpOF_q (by rfl) (by rfl) (by rfl) (fun w' hS' => ?_) ?_
       rotate_left
       · obtain ⟨s1, s2⟩ := hS'
         go_simp
         try rfl)
    try simp only [Act.put, List.setIfInBounds_toArray, List.set_cons_zero, List.set_cons_succ]
  refine wpOF_d ?_
  go_wp2_with fail
  go_returns
  exact ⟨by unfold waitN; rw [HZ.out]; simp [hw1, hw2], U2.out⟩
end Go.Proofs.Ytcgefncddbbnlaa

namespace Go.Proofs.Ytcgefncddbbnlaa
open Go.RowKit
attribute [local go_sem] max_ints min_ints

theorem sizeAn : ∀ w, (sizeOf (Try.prog.elem 29)).run Try.prog w = .ok 4 w := fun w => by kernel_rfl
/-- Nothing of these is late. -/
structure OnTime (C T : Int) (L : List An) : Prop where
  yes : ∀ (i : Nat) a, L[i]? = some a → aloneB (L.take i) a.t = true → 0 ≤ a.d ∧ a.d - a.t ≤ waitN C T a.w
  num : ∀ a ∈ L, 0 ≤ a.t ∧ a.t ≤ 600 ∧ 1 ≤ a.w ∧ a.w ≤ 1048576 ∧ -1 ≤ a.b ∧ a.b ≤ 3000 ∧ -1 ≤ a.d ∧ a.d ≤ 3000

set_option maxRecDepth 100000 in
set_option maxHeartbeats 6400000 in
theorem lateC (w : World) (rf : Bool) (C T : Int) (base : Nat) (v : Value) (L : List An) (hv : SlR encA w base 37 4 v L) (hok : Cf.okS C T = true) (hL : OnTime C T L) (hl : L.length ≤ 1000) :
    Calls Try.prog 11 #[.agg #[.bool rf, .int .i64 C, .int .i64 T], v] w fun e w' => e = .returned (.slice none 0 0) ∧ Upd (fun _ => False) w w' := by
  have ua := (Upd.refl (fun _ => False) w).alloc (.cells #[.bool rf, .int .i64 C, .int .i64 T] 25)
  have B := Lib.hid (Blk.new w 25 #[.bool rf, .int .i64 C, .int .i64 T])
  have U := Lib.hid ua
  have V := Lib.hid (hv.upd ua (fun _ _ h => h))
  generalize hw0 : w.alloc (.cells #[.bool rf, .int .i64 C, .int .i64 T] 25) = w0 at *
  have HW0 := Lib.hid hw0
  have HOK := Lib.hid hok
  have HL := Lib.hid hL
  have HLL := Lib.hid hl
  clear ua hw0 hok hL hv
  obtain ⟨A, cap, rfl⟩ := V.out.shape
  go_enter Try.func11, Try.ntmps11
  go_upto_region 1 with fail
  rw [HW0.out]
  go_wp2_with fail
  go_loopw [5, 10] (fun v5 vi wr => ∃ (i : Nat), i ≤ L.length ∧ v5 = .slice none 0 0 ∧ vi = .int .i64 i ∧ Upd (fun _ => False) w0 wr) (fun _ vi _ => L.length - (intOf vi).toNat)
  case atStart => exact ⟨0, Nat.zero_le _, rfl, rfl, Upd.refl _ _⟩
  case round =>
    obtain ⟨i, hi, rfl, rfl, hU⟩ := hrel
    by_cases hlt : i < L.length
    · obtain ⟨a, ha⟩ : ∃ a, L[i]? = some a := ⟨_, List.getElem?_eq_getElem hlt⟩
      have hv1 : SlR encA wr base 37 4 (.slice A L.length cap) L := V.out.upd hU (fun _ _ h => h)
      obtain ⟨lb, lo, lc, e1, _, _, _, _⟩ := hv1.form (by omega)
      injection e1 with e1 e1b e1c
      subst e1; subst e1c
      have c0 : wr.cell? ⟨lb, lo + i * 4, none⟩ = some (.int .i64 a.t) := hv1.cell encA_len i a ha 0 _ rfl
      have c1 : wr.cell? ⟨lb, lo + i * 4 + 1, none⟩ = some (.int .i64 a.w) := hv1.cell encA_len i a ha 1 _ rfl
      have c2 : wr.cell? ⟨lb, lo + i * 4 + 2, none⟩ = some (.int .i64 a.b) := hv1.cell encA_len i a ha 2 _ rfl
      have c3 : wr.cell? ⟨lb, lo + i * 4 + 3, none⟩ = some (.int .i64 a.d) := hv1.cell encA_len i a ha 3 _ rfl
      have dl : decide ((i : Int) < (L.length : Int)) = true := decide_eq_true (by omega)
      have di : decide ((i : Int) < 0) = false := decide_eq_false (by omega)
      have dn : i < L.length := hlt
      have hnum := HL.out.num a (List.mem_of_getElem? ha)
      have HY := Lib.hid (HL.out.yes i a ha)
      obtain ⟨HH, hsl⟩ := Sl.headv (P := Try.prog) (ts := 29) Try.underlying29 sizeAn (show Sl wr base 37 4 (.slice (some ⟨lb, lo, none⟩) L.length cap) L.length (rws encA L) from hv1) (Nat.le_of_lt hlt) (rws_take encA_len i L)
      have htl : (L.take i).length = i := by rw [List.length_take]; omega
      have HSL : Hid (SlR encA wr base 37 4 (.slice (some ⟨lb, lo, none⟩) i cap) (L.take i)) := Lib.hid (by unfold SlR; rw [htl]; exact hsl)
      have HTL : Hid ((L.take i).length ≤ 1000) := Lib.hid (by omega)
      have hslc : ∀ w', (Instr.sliceAt 29 (.slice (some ⟨lb, lo, none⟩) L.length cap) none (some (.int .i64 i)) none).run Try.prog w' = .ok (.slice (some ⟨lb, lo, none⟩) i cap) w' := HH
      have HU := Lib.hid hU
      clear ha hv1 e1b hU hsl htl HH
      obtain ⟨hn1, hn2, hn3, hn4, hn5, hn6, hn7, hn8⟩ := hnum
      have HN3 := Lib.hid hn3; have HN4 := Lib.hid hn4
      obtain ⟨x, y, b, d⟩ := a
      dsimp only at *
      go_upto_region 5 with fail
      have ub := (Upd.refl (fun _ => False) wr).alloc (.cells #[.int .i64 x, .int .i64 y, .int .i64 b, .int .i64 d] 37)
      have BX := Lib.hid (Blk.new wr 37 #[.int .i64 x, .int .i64 y, .int .i64 b, .int .i64 d])
      have UX := Lib.hid (HU.out.trans ub)
      have SX := Lib.hid (HSL.out.upd ub (fun _ _ h => h))
      have BW := Lib.hid (B.out.upd UX.out (fun h => h))
      generalize wr.alloc (.cells #[.int .i64 x, .int .i64 y, .int .i64 b, .int .i64 d] 37) = wx at *
      clear ub c0 c1 c2 c3 HSL
      refine wp_region_treeF (.q 0 (.l 1 (.q 2 (.q 3 (.q 4 (.q 5 (.q 6 (.q 7 (.l 8 (.q 9 (.q 10 (.q 11 (.q 12 (.q 13 (.q 14 (.q 15 (.q 16 (.q 17 (.q 18 (.q 19 (.q 20 (.q 21 (.q 22 (.l 23 (.q 24 (.q 25 (.q 26 .d))))))))))))))))))))))))))) (fun _ => false) (fun _ => false) (fun w' => w'.cell? ⟨w.heap.size, 0, none⟩ = some (.bool rf) ∧ w'.cell? ⟨w.heap.size, 1, none⟩ = some (.int .i64 C) ∧ w'.cell? ⟨w.heap.size, 2, none⟩ = some (.int .i64 T) ∧ w'.cell? ⟨wr.heap.size, 0, none⟩ = some (.int .i64 x) ∧ w'.cell? ⟨wr.heap.size, 1, none⟩ = some (.int .i64 y) ∧ w'.cell? ⟨wr.heap.size, 3, none⟩ = some (.int .i64 d))
        (by kernel_rfl) (by kernel_rfl) (by kernel_rfl) (fun t ht => by cases ht) (fun _ _ _ _ _ h => h) (by kernel_rfl) rfl ⟨(BW.out.drewN 1).cell 0, (BW.out.drewN 1).cell 1, (BW.out.drewN 1).cell 2, (BX.out.drewN 1).cell 0, (BX.out.drewN 1).cell 1, (BX.out.drewN 1).cell 3⟩ ?_
      iterate 1
        first
        | refine wpOF_skip (by rfl) (by rfl) ?_
        | (refine' wpOF_q (by rfl) (by rfl) (by rfl) (fun w' hS' => ?_) ?_
           rotate_left
           · obtain ⟨s1, s2, s3, s4, s5, s6⟩ := hS'
             go_simp
             try rfl)
        try simp only [Act.put, List.setIfInBounds_toArray, List.set_cons_zero, List.set_cons_succ]
      refine wpOF_l (by rfl) (by rfl) (fun KQ hKQ => ?_)
      go_simp
      go_at_call 6
      refine (Cf.rightS _ rf C T true HOK.out).mono ?_
      rintro e w2 ⟨rfl, hU⟩
      have u2 := ((Upd.refl (fun _ => False) wx).drew).trans hU
      have B2 := Lib.hid (BW.out.upd u2 (fun h => h)); have X2 := Lib.hid (BX.out.upd u2 (fun h => h)); have S2 := Lib.hid (SX.out.upd u2 (fun _ _ h => h)); have U2 := Lib.hid (UX.out.trans u2)
      clear hU u2
      refine hKQ _ _ (.inr ⟨B2.out.cell 0, B2.out.cell 1, B2.out.cell 2, X2.out.cell 0, X2.out.cell 1, X2.out.cell 3⟩) ?_
      clear hKQ KQ
      try simp only [Act.put, List.setIfInBounds_toArray, List.set_cons_zero, List.set_cons_succ]
      iterate 6
        first
        | refine wpOF_skip (by rfl) (by rfl) ?_
        | (refine' wpOF_q (by rfl) (by rfl) (by rfl) (fun w' hS' => ?_) ?_
           rotate_left
           · obtain ⟨s1, s2, s3, s4, s5, s6⟩ := hS'
             go_simp
             try rfl)
        try simp only [Act.put, List.setIfInBounds_toArray, List.set_cons_zero, List.set_cons_succ]
      refine wpOF_l (by rfl) (by rfl) (fun KQ hKQ => ?_)
      go_simp
      go_at_call 25
      refine (aloneC w2 base _ (L.take i) S2.out x HTL.out).mono ?_
      rintro e w3 ⟨rfl, hU⟩
      have B3 := Lib.hid (B2.out.upd hU (fun h => h)); have X3 := Lib.hid (X2.out.upd hU (fun h => h)); have U3 := Lib.hid (U2.out.trans hU)
      obtain ⟨t, ht⟩ : ∃ t, aloneB (L.take i) x = t := ⟨_, rfl⟩
      rw [ht] at HY ⊢
      clear hU ht
      refine hKQ _ _ (.inr ⟨B3.out.cell 0, B3.out.cell 1, B3.out.cell 2, X3.out.cell 0, X3.out.cell 1, X3.out.cell 3⟩) ?_
      clear hKQ KQ
      try simp only [Act.put, List.setIfInBounds_toArray, List.set_cons_zero, List.set_cons_succ]
      cases t with
      | false =>
        iterate 14
          first
          | refine wpOF_skip (by rfl) (by rfl) ?_
          | (refine' wpOF_q (by rfl) (by rfl) (by rfl) (fun w' hS' => ?_) ?_
             rotate_left
             · obtain ⟨s1, s2, s3, s4, s5, s6⟩ := hS'
               go_simp
               try rfl)
          try simp only [Act.put, List.setIfInBounds_toArray, List.set_cons_zero, List.set_cons_succ]
        refine wpOF_lskip (by rfl) (by rfl) ⟨B3.out.cell 0, B3.out.cell 1, B3.out.cell 2, X3.out.cell 0, X3.out.cell 1, X3.out.cell 3⟩ ?_
        try simp only [Act.put, List.setIfInBounds_toArray, List.set_cons_zero, List.set_cons_succ]
        iterate 3
          first
          | refine wpOF_skip (by rfl) (by rfl) ?_
          | (refine' wpOF_q (by rfl) (by rfl) (by rfl) (fun w' hS' => ?_) ?_
             rotate_left
             · obtain ⟨s1, s2, s3, s4, s5, s6⟩ := hS'
               go_simp
               try rfl)
          try simp only [Act.put, List.setIfInBounds_toArray, List.set_cons_zero, List.set_cons_succ]
        refine wpOF_d ?_
        go_wp2_with fail
        go_roundw
        case rel => exact ⟨i + 1, by omega, rfl, by go_num, U3.out⟩
        case measure => simp [intOf]; omega
      | true =>
        obtain ⟨y1, y2⟩ := HY.out rfl
        have dd : decide (d < 0) = false := decide_eq_false (by omega)
        have wdx : IntKind.i64.wrap (d - x) = d - x := Ck.wrap_in _ (by omega) (by omega)
        have dw : decide (waitN C T y < d - x) = false := decide_eq_false (by omega)
        iterate 14
          first
          | refine wpOF_skip (by rfl) (by rfl) ?_
          | (refine' wpOF_q (by rfl) (by rfl) (by rfl) (fun w' hS' => ?_) ?_
             rotate_left
             · obtain ⟨s1, s2, s3, s4, s5, s6⟩ := hS'
               go_simp
               try rfl)
          try simp only [Act.put, List.setIfInBounds_toArray, List.set_cons_zero, List.set_cons_succ]
        refine wpOF_l (by rfl) (by rfl) (fun KQ hKQ => ?_)
        go_simp
        go_at_call 26
        refine (waitC w3 rf C T y HOK.out HN3.out HN4.out).mono ?_
        rintro e w4 ⟨rfl, hU⟩
        have B4 := Lib.hid (B3.out.upd hU (fun h => h)); have X4 := Lib.hid (X3.out.upd hU (fun h => h)); have U4 := Lib.hid (U3.out.trans hU)
        clear hU
        refine hKQ _ _ (.inr ⟨B4.out.cell 0, B4.out.cell 1, B4.out.cell 2, X4.out.cell 0, X4.out.cell 1, X4.out.cell 3⟩) ?_
        clear hKQ KQ
        try simp only [Act.put, List.setIfInBounds_toArray, List.set_cons_zero, List.set_cons_succ]
        iterate 3
          first
          | refine wpOF_skip (by rfl) (by rfl) ?_
          | (refine' wpOF_q (by rfl) (by rfl) (by rfl) (fun w' hS' => ?_) ?_
             rotate_left
             · obtain ⟨s1, s2, s3, s4, s5, s6⟩ := hS'
               go_simp
               try rfl)
          try simp only [Act.put, List.setIfInBounds_toArray, List.set_cons_zero, List.set_cons_succ]
        refine wpOF_d ?_
        go_wp2_with fail
        go_roundw
        case rel => exact ⟨i + 1, by omega, rfl, by go_num, U4.out⟩
        case measure => simp [intOf]; omega
    · have hi' : i = L.length := by omega
      subst hi'
      go_wp2_with fail
      go_returns
      exact ⟨rfl, U.out.trans hU⟩
end Go.Proofs.Ytcgefncddbbnlaa

namespace Go.Proofs.Ytcgefncddbbnlaa

def askB : Int → List (Int × Int) → Bool
  | _, [] => true
  | last, a :: t => decide (1 ≤ a.2 ∧ a.2 ≤ 12 ∧ last ≤ a.1 ∧ a.1 ≤ 600) && askB a.1 t
theorem askB_fine : ∀ (last : Int) (l : List (Int × Int)), askB last l = true → fineA last l = true
  | _, [], _ => rfl
  | last, a :: t, h => by
    unfold askB at h
    simp only [Bool.and_eq_true, decide_eq_true_eq] at h
    unfold fineA oddA
    rw [askB_fine a.1 t h.2]
    simp only [Bool.and_true, Bool.not_eq_true', Bool.or_eq_false_iff, decide_eq_false_iff_not]
    omega
theorem askB_num : ∀ (last : Int) (l : List (Int × Int)), askB last l = true → ∀ a ∈ l, 1 ≤ a.2 ∧ a.2 ≤ 12 ∧ last ≤ a.1 ∧ a.1 ≤ 600
  | _, [], _, a, ha => by cases ha
  | last, b :: t, h, a, ha => by
    unfold askB at h
    simp only [Bool.and_eq_true, decide_eq_true_eq] at h
    rcases List.mem_cons.1 ha with rfl | ha
    · exact h.1
    · have := askB_num b.1 t h.2 a ha
      omega
theorem askB_rises : ∀ (last : Int) (l : List (Int × Int)), askB last l = true → Rises l
  | _, [], _ => fun i j a c _ ha _ => by simp at ha
  | last, b :: t, h => by
    unfold askB at h
    simp only [Bool.and_eq_true, decide_eq_true_eq] at h
    intro i j a c hij ha hc
    cases i with
    | zero =>
      simp at ha
      subst ha
      cases j with
      | zero => simp at hc; rw [hc]; exact Int.le_refl _
      | succ j =>
        simp at hc
        exact (askB_num b.1 t h.2 c (List.mem_of_getElem? hc)).2.2.1
    | succ i =>
      cases j with
      | zero => omega
      | succ j =>
        simp at ha hc
        exact askB_rises b.1 t h.2 i j a c (by omega) ha hc
theorem bsz_new (rf : Bool) (C T : Int) (l : List (Int × Int)) : BsZ (Rn.new rf C T l).bs C T (Zi (Rn.new rf C T l)) 0 0 := by
  have hz : ∀ x : Int, x ≤ 0 → Zi (Rn.new rf C T l) x = 0 := fun x hx => by
    unfold Zi
    rw [show x.toNat = 0 by omega]
    rfl
  obtain ⟨Z, hZ⟩ : ∃ Z, Zi (Rn.new rf C T l) = Z := ⟨_, rfl⟩
  rw [hZ] at hz ⊢
  show BsZ (Bs.new rf C T) C T Z 0 0
  unfold Bs.new
  split
  · refine ⟨⟨rfl, rfl, ?_⟩, rfl, rfl, rfl⟩
    show C ≤ C + 0 + (Z 0 - Z (pst T 0))
    have : pst T 0 = 0 := by unfold pst; simp
    rw [this]
    omega
  · refine ⟨⟨fun x hx => ?_, fun c hc => (by cases hc), fun y hy => (by cases hy)⟩, rfl, rfl, rfl⟩
    show 0 + 0 ≤ Z 0 - Z x
    rw [hz x hx, hz 0 (Int.le_refl _)]
    omega
theorem aloneB_P {L : List An} {at_ : Int} (h : aloneB L at_ = true) : aloneP L at_ := by
  intro c hc
  unfold aloneB at h
  rw [Bool.not_eq_true', List.any_eq_false] at h
  have h1 := h c hc
  unfold waitB refB at h1
  by_cases e : c.b = -1 ∧ c.d = -1
  · exact .inl e
  · right
    have e2 : (decide (c.b = -1) && decide (c.d = -1)) = false := by
      cases hb : (decide (c.b = -1) && decide (c.d = -1)) with
      | false => rfl
      | true => simp only [Bool.and_eq_true, decide_eq_true_eq] at hb; exact absurd hb e
    rw [e2] at h1
    simp at h1
    omega
theorem lookRes (rf : Bool) (C T : Int) (l : List (Int × Int)) (hok : Cf.okS C T = true) (hT : T ≤ 30) (hl : l.length ≤ 40) (ha : askB 0 l = true) :
    ∃ L, resX rf C T false (fun _ => true) 3000 l = (L, 0) ∧ L.length = l.length ∧ OnTime C T L ∧ ∀ (i : Nat) a, L[i]? = some a → 0 ≤ a.d → a.t ≤ a.b ∧ a.b + a.w ≤ a.d := by
  have hcc : 1 ≤ C ∧ C ≤ T ∧ T ≤ 1000 := of_decide_eq_true hok
  have hfA := askB_fine 0 l ha
  have hfx : fineX ((3000 : Nat) : Int) l = true := by
    unfold fineX
    rw [hfA, Bool.and_true]
    exact decide_eq_true ⟨by decide, by decide, by omega⟩
  have hk := RnOk.new rf C T l hok (fineA_work 0 l hfA)
  have ho := OrdOk.new (own := allT) rf C T l
  have hx : NextOk l (Rn.new rf C T l) 0 := ⟨ho.tw, fun k a h hlt => by
    obtain ⟨q, hq, e, _⟩ := ho.tw k a h
    have := askB_num 0 l ha q (List.mem_of_getElem? hq)
    omega⟩
  have hx' : LtOk (Rn.new rf C T l) 0 := fun k a _ hlt => absurd hlt (by show ¬ k < 0; omega)
  have h0 := bsz_new rf C T l
  obtain ⟨Tn, hTn⟩ : ∃ Tn : Nat, T = Tn := ⟨T.toNat, by omega⟩
  have hkE := hk.run allT 3000 (by omega)
  have hoE := ho.run hk 3000 (by omega)
  have hnum : ∀ (i : Nat) a, (Rn.run allT (Rn.new rf C T l) 3000).out[i]? = some a → 0 ≤ a.t ∧ a.t ≤ 600 ∧ 1 ≤ a.w ∧ a.w ≤ 12 ∧ -1 ≤ a.b ∧ a.b ≤ 3000 ∧ -1 ≤ a.d ∧ a.d ≤ 3000 := fun i a h => by
    obtain ⟨q, hq, e1, e2⟩ := hoE.tw i a h
    have h1 := askB_num 0 l ha q (List.mem_of_getElem? hq)
    have h2 := hoE.bg i a h
    have h3 := hoE.dn i a h
    omega
  refine ⟨_, resX_yes rf C T _ 3000 l hok hfx, hkE.out, ⟨fun i a h hal => ?_, fun a h => ?_⟩, fun i a h hd => ?_⟩
  · have hn := hnum i a h
    have hz0 : 0 ≤ a.w / C := Int.ediv_nonneg (by omega) (by omega)
    have hz1 : a.w / C ≤ a.w := Int.ediv_le_self _ (by omega)
    have hdm := Int.emod_add_mul_ediv a.w C
    have hm0 := Int.emod_nonneg a.w (show C ≠ 0 by omega)
    have hm1 := Int.emod_lt_of_pos a.w (show 0 < C by omega)
    obtain ⟨z, hz⟩ : ∃ z, a.w / C + (if 0 < a.w % C then 1 else 0) = z := ⟨_, rfl⟩
    have hz12 : z ≤ 12 := by
      by_cases e : C = 1
      · subst e
        rw [← hz]
        simp
        omega
      · have h2 : a.w / C ≤ a.w / 2 := by
          have : a.w / C * 2 ≤ a.w := by
            have h3 : a.w / C * 2 ≤ a.w / C * C := Int.mul_le_mul_of_nonneg_left (by omega) hz0
            rw [Int.mul_comm (a.w / C) C] at h3
            omega
          omega
        rw [← hz]
        split <;> omega
    have hzw : a.w ≤ C * z := by
      rw [← hz]
      split
      · rw [Int.mul_add]; omega
      · rw [Int.add_zero]; omega
    have hz1' : 1 ≤ z := by
      rcases Int.lt_or_le z 1 with e | e
      · have h3 : C * z ≤ C * 0 := Int.mul_le_mul_of_nonneg_left (by omega) (by omega)
        rw [Int.mul_zero] at h3
        omega
      · exact e
    obtain ⟨q, hq⟩ : ∃ q : Nat, z = q := ⟨z.toNat, by omega⟩
    rw [hq] at hzw
    have hTq : Tn * (q + 1) ≤ 30 * 13 := Nat.mul_le_mul (by omega) (by omega)
    subst hTn
    have := in_time (askB_rises 0 l ha) hk ho hx hx' h0 hcc.1 hcc.2.1 3000 (by omega) h (aloneB_P hal) q hzw (by omega) (by omega) (by omega)
    refine ⟨this.1, ?_⟩
    unfold waitN
    rw [hz, hq]
    exact this.2
  · obtain ⟨i, hi⟩ := List.mem_iff_getElem?.1 h
    have := hnum i a hi
    omega
  · have h2 := hoE.bg i a h
    rcases hoE.dn i a h with e | ⟨d1, d2, d3, d4, d5⟩
    · omega
    · refine ⟨by omega, ?_⟩
      have hc : ∀ (b : Int) (n : Nat), cnt allT b n ≤ n := fun b n => by
        induction n with
        | zero => exact Int.le_refl _
        | succ n ih =>
          show cnt allT b n + (if allT (b + n) = true then 1 else 0) ≤ ((n + 1 : Nat) : Int)
          split <;> omega
      have := hc a.b (a.d - a.b).toNat
      omega
end Go.Proofs.Ytcgefncddbbnlaa

namespace Go.Proofs.Ytcgefncddbbnlaa
open Go.RowKit
attribute [local go_sem] max_ints min_ints

set_option maxRecDepth 100000 in
set_option maxHeartbeats 6400000 in
theorem inTimeC (w : World) (rf : Bool) (C T : Int) (A : Option Addr) (cap : Nat) (l : List (Int × Int)) (hc : QRow w A l) :
    Calls Try.prog 3 #[.agg #[.bool rf, .int .i64 C, .int .i64 T], .slice A l.length cap] w fun e w' => e = .returned (.bool true) ∧ Upd (fun _ => False) w w' := by
  have ua := (Upd.refl (fun _ => False) w).alloc (.cells #[.bool rf, .int .i64 C, .int .i64 T] 23)
  have BB := Lib.hid (Blk.new w 23 #[.bool rf, .int .i64 C, .int .i64 T])
  have hsz0 : (w.alloc (.cells #[.bool rf, .int .i64 C, .int .i64 T] 23)).heap.size = w.heap.size + 1 := by simp
  generalize hw0 : w.alloc (.cells #[.bool rf, .int .i64 C, .int .i64 T] 23) = w0 at *
  have ub := (Upd.refl (fun _ => False) w0).alloc (.cells #[.bool rf, .int .i64 C, .int .i64 T] 25)
  have BX := Lib.hid (Blk.new w0 25 #[.bool rf, .int .i64 C, .int .i64 T])
  have B1 := Lib.hid (BB.out.upd ub (fun h => h))
  have U1 := Lib.hid (ua.trans ub)
  have Q1 := Lib.hid ((hc.still ua).still ub)
  have b0 : w0.cell? ⟨w.heap.size, 0, none⟩ = some (.bool rf) := BB.out.cell 0
  have b1 : w0.cell? ⟨w.heap.size, 1, none⟩ = some (.int .i64 C) := BB.out.cell 1
  have b2 : w0.cell? ⟨w.heap.size, 2, none⟩ = some (.int .i64 T) := BB.out.cell 2
  rw [hsz0] at BX
  have HW0 := Lib.hid hw0; have HSZ := Lib.hid hsz0
  clear ua hc hw0 hsz0
  obtain ⟨ok, hok⟩ : ∃ ok, Cf.okS C T = ok := ⟨_, rfl⟩
  have HOK := Lib.hid hok
  clear hok
  go_enter Try.func3, Try.ntmps3
  go_upto_region 1 with fail
  rw [HW0.out]
  go_upto_region 2 with fail
  try rw [HSZ.out]
  generalize hw1 : w0.alloc (.cells #[.bool rf, .int .i64 C, .int .i64 T] 25) = w1 at *
  clear b0 b1 b2 ub
  have x0 : w1.cell? ⟨w.heap.size + 1, 0, none⟩ = some (.bool rf) := BX.out.cell 0
  have x1 : w1.cell? ⟨w.heap.size + 1, 1, none⟩ = some (.int .i64 C) := BX.out.cell 1
  have x2 : w1.cell? ⟨w.heap.size + 1, 2, none⟩ = some (.int .i64 T) := BX.out.cell 2
  go_wp2_with fail
  refine (Cf.rightS w1 rf C T ok HOK.out).mono ?_
  rintro e w2 ⟨rfl, hU⟩
  have B2 := Lib.hid (B1.out.upd hU (fun h => h)); have X2 := Lib.hid (BX.out.upd hU (fun h => h)); have U2 := Lib.hid (U1.out.trans hU); have Q2 := Lib.hid (Q1.out.still hU)
  clear hU x0 x1 x2 hw1
  have b2 : w2.cell? ⟨w.heap.size, 2, none⟩ = some (.int .i64 T) := B2.out.cell 2
  have KN : ∀ wk, Hid (Calls Try.prog 7 #[] wk fun e w' => e = .returned (.bool true) ∧ Upd (fun _ => False) wk w') := fun wk => Lib.hid (knowsC wk)
  cases ok with
  | false =>
    go_wp2_with fail
    refine (knowsC w2).mono ?_
    rintro e w3 ⟨rfl, hU⟩
    have U3 := Lib.hid (U2.out.trans hU)
    clear hU
    go_wp2_with fail
    go_returns
    exact ⟨rfl, U3.out⟩
  | true =>
    by_cases hT : 30 < T
    · have dT : decide (30 < T) = true := decide_eq_true hT
      go_wp2_with fail
      refine (knowsC w2).mono ?_
      rintro e w3 ⟨rfl, hU⟩
      have U3 := Lib.hid (U2.out.trans hU)
      clear hU
      go_wp2_with fail
      go_returns
      exact ⟨rfl, U3.out⟩
    · have dT : decide (30 < T) = false := decide_eq_false hT
      by_cases hl : 40 < l.length
      · have dl : decide (40 < (l.length : Int)) = true := decide_eq_true (by omega)
        go_wp2_with fail
        refine (knowsC w2).mono ?_
        rintro e w3 ⟨rfl, hU⟩
        have U3 := Lib.hid (U2.out.trans hU)
        clear hU
        go_wp2_with fail
        go_returns
        exact ⟨rfl, U3.out⟩
      · have dl : decide (40 < (l.length : Int)) = false := decide_eq_false (by omega)
        have HT := Lib.hid hT
        have hll : l.length ≤ 40 := by omega
        clear hT hl
        go_wp2_with fail
        refine (knowsC w2).mono ?_
        rintro e w3 ⟨rfl, hU⟩
        have X3 := Lib.hid (X2.out.upd hU (fun h => h)); have U3 := Lib.hid (U2.out.trans hU); have Q3 := Lib.hid (Q2.out.still hU)
        clear hU B2 X2 U2 Q2 b2 B1 BX U1 Q1 BB HW0 HSZ KN
        go_wp2_with fail
        go_loopw [6, 7] (fun v6 v7 wr => wr = w3 ∧ ∃ (i : Nat) (last : Int), i ≤ l.length ∧ v6 = .int .i64 last ∧ v7 = .int .i64 i ∧ askB 0 l = askB last (l.drop i)) (fun _ v7 _ => l.length - (intOf v7).toNat)
        case atStart => exact ⟨rfl, 0, 0, Nat.zero_le _, rfl, rfl, rfl⟩
        case round =>
          obtain ⟨rfl, i, last, hi, rfl, rfl, hask⟩ := hrel
          have HASK := Lib.hid hask
          clear hask
          by_cases hlt : i < l.length
          · obtain ⟨a, ha⟩ : ∃ a, l[i]? = some a := ⟨_, List.getElem?_eq_getElem hlt⟩
            obtain ⟨b, o, rfl, hb, c0, c1⟩ := Q3.out i a ha
            have hd : l.drop i = a :: l.drop (i + 1) := by
              rw [List.drop_eq_getElem_cons hlt]
              have := (List.getElem?_eq_some_iff.1 ha).2
              rw [this]
            have HD : Hid (askB 0 l = (decide (1 ≤ a.2 ∧ a.2 ≤ 12 ∧ last ≤ a.1 ∧ a.1 ≤ 600) && askB a.1 (l.drop (i + 1)))) := Lib.hid (by rw [HASK.out, hd]; rfl)
            have dlt : decide ((i : Int) < (l.length : Int)) = true := decide_eq_true (by omega)
            have di : decide ((i : Int) < 0) = false := decide_eq_false (by omega)
            obtain ⟨x, y⟩ := a
            dsimp only at *
            clear ha hd hb
            by_cases g1 : y < 1
            · have d1 : decide (y < 1) = true := decide_eq_true g1
              go_wp2_with fail
              go_returns
              exact ⟨rfl, U3.out⟩
            · have d1 : decide (y < 1) = false := decide_eq_false g1
              by_cases g2 : 12 < y
              · have d2 : decide (12 < y) = true := decide_eq_true g2
                go_wp2_with fail
                go_returns
                exact ⟨rfl, U3.out⟩
              · have d2 : decide (12 < y) = false := decide_eq_false g2
                by_cases g3 : x < last
                · have d3 : decide (x < last) = true := decide_eq_true g3
                  go_wp2_with fail
                  go_returns
                  exact ⟨rfl, U3.out⟩
                · have d3 : decide (x < last) = false := decide_eq_false g3
                  by_cases g4 : 600 < x
                  · have d4 : decide (600 < x) = true := decide_eq_true g4
                    go_wp2_with fail
                    go_returns
                    exact ⟨rfl, U3.out⟩
                  · have d4 : decide (600 < x) = false := decide_eq_false g4
                    have HN : Hid (askB 0 l = askB x (l.drop (i + 1))) := Lib.hid (by rw [HD.out, decide_eq_true (by omega), Bool.true_and])
                    clear g1 g2 g3 g4
                    go_wp2_with fail
                    go_roundw
                    case rel => exact ⟨by first | rfl | trivial, i + 1, x, by omega, rfl, by go_num, HN.out⟩
                    case measure => simp [intOf]; omega
          · have hie : i = l.length := by omega
            subst hie
            have hask : askB 0 l = true := by rw [HASK.out, List.drop_length]; rfl
            obtain ⟨L, hres, hlen, htime, hfst⟩ := lookRes rf C T l HOK.out (by have := HT.out; omega) hll hask
            have HRES := Lib.hid hres; have HLEN := Lib.hid hlen; have HTIME := Lib.hid htime; have HFST := Lib.hid hfst
            have HLL : Hid (L.length ≤ 1000) := Lib.hid (by omega)
            clear hask hres hlen htime hfst
            go_upto_region 11 with fail
            refine wp_region_treeF (.q 0 (.q 1 (.l 2 (.l 3 (.q 4 (.q 5 (.q 6 (.q 7 (.q 8 .d))))))))) (fun _ => false) (fun _ => false) (fun w' => w'.cell? ⟨w.heap.size + 1, 0, none⟩ = some (.bool rf) ∧ w'.cell? ⟨w.heap.size + 1, 1, none⟩ = some (.int .i64 C) ∧ w'.cell? ⟨w.heap.size + 1, 2, none⟩ = some (.int .i64 T))
              (by kernel_rfl) (by kernel_rfl) (by kernel_rfl) (fun t ht => by cases ht) (fun _ _ _ _ _ h => h) (by kernel_rfl) rfl ⟨(X3.out.drewN 1).cell 0, (X3.out.drewN 1).cell 1, (X3.out.drewN 1).cell 2⟩ ?_
            iterate 2
              first
              | refine wpOF_skip (by rfl) (by rfl) ?_
              | (refine' wpOF_q (by rfl) (by rfl) (by rfl) (fun w' hS' => ?_) ?_
                 rotate_left
                 · obtain ⟨s1, s2, s3⟩ := hS'
                   go_simp
                   try rfl)
              try simp only [Act.put, List.setIfInBounds_toArray, List.set_cons_zero, List.set_cons_succ]
            have ud := (Upd.refl (fun _ => False) wr).drew
            have X4 := Lib.hid (X3.out.upd ud (fun h => h)); have U4 := Lib.hid (U3.out.trans ud); have Q4 := Lib.hid (Q3.out.still ud)
            clear ud X3 U3 Q3
            generalize wr.drew = w4 at *
            refine wpOF_l (by rfl) (by rfl) (fun KQ hKQ => ?_)
            go_simp
            go_at_call 9
            refine (asksC w4 A cap l (by omega) Q4.out).mono ?_
            rintro e w5 ⟨vq, rfl, hS, hU⟩
            have X5 := Lib.hid (X4.out.upd hU (fun h => h)); have U5 := Lib.hid (U4.out.trans hU)
            have S5 := Lib.hid (Sl.mono hS (Nat.zero_le _))
            clear hU hS X4 U4 Q4
            refine hKQ _ _ (.inr ⟨X5.out.cell 0, X5.out.cell 1, X5.out.cell 2⟩) ?_
            clear hKQ KQ
            try simp only [Act.put, List.setIfInBounds_toArray, List.set_cons_zero, List.set_cons_succ]
            refine wpOF_l (by rfl) (by rfl) (fun KQ hKQ => ?_)
            go_simp
            go_at_call 8
            refine (runC w5 rf C T 3000 vq l S5.out (by omega)).mono ?_
            rintro e w6 ⟨ov, rfl, hS, hU⟩
            rw [HRES.out] at hS ⊢
            have X6 := Lib.hid (X5.out.upd hU (fun h => h)); have U6 := Lib.hid (U5.out.trans hU)
            have S6 : Hid (SlR encA w6 w5.heap.size 37 4 ov L) := Lib.hid hS
            clear hU hS X5 U5 S5
            refine hKQ _ _ (.inr ⟨X6.out.cell 0, X6.out.cell 1, X6.out.cell 2⟩) ?_
            clear hKQ KQ
            try simp only [Act.put, List.setIfInBounds_toArray, List.set_cons_zero, List.set_cons_succ]
            iterate 5
              first
              | refine wpOF_skip (by rfl) (by rfl) ?_
              | (refine' wpOF_q (by rfl) (by rfl) (by rfl) (fun w' hS' => ?_) ?_
                 rotate_left
                 · obtain ⟨s1, s2, s3⟩ := hS'
                   go_simp
                   try rfl)
              try simp only [Act.put, List.setIfInBounds_toArray, List.set_cons_zero, List.set_cons_succ]
            refine wpOF_d ?_
            obtain ⟨Ao, co, hshape⟩ := S6.out.shape
            subst hshape
            go_wp2_with fail
            refine (numC w6 0).mono ?_
            rintro e w7 ⟨rfl, hU⟩
            have X7 := Lib.hid (X6.out.upd hU (fun h => h)); have U7 := Lib.hid (U6.out.trans hU); have S7 := Lib.hid (S6.out.upd hU (fun _ _ h => h))
            clear hU X6 U6 S6
            rw [HLEN.out]
            have HLE : Hid (L.length = l.length) := HLEN
            go_wp2_with fail
            go_loopw [10] (fun v10 wr => ∃ (k : Nat), k ≤ l.length ∧ v10 = .int .i64 k ∧ Upd (fun _ => False) w7 wr) (fun v10 _ => l.length - (intOf v10).toNat)
            case atStart => exact ⟨0, Nat.zero_le _, rfl, Upd.refl _ _⟩
            case round =>
              obtain ⟨k, hk, rfl, hU⟩ := hrel
              have UZ := Lib.hid hU
              by_cases hkl : k < l.length
              · obtain ⟨a, ha⟩ : ∃ a, L[k]? = some a := ⟨_, List.getElem?_eq_getElem (by have := HLE.out; omega)⟩
                have hv1 : SlR encA wr w5.heap.size 37 4 (.slice Ao l.length co) L := by
                  have := S7.out.upd hU (fun _ _ h => h)
                  rwa [HLEN.out] at this
                obtain ⟨lb, lo, lc, e1, _, _, _, _⟩ := hv1.form (by have := HLEN.out; omega)
                injection e1 with e1 e1b e1c
                subst e1; subst e1c
                have c0 : wr.cell? ⟨lb, lo + k * 4, none⟩ = some (.int .i64 a.t) := hv1.cell encA_len k a ha 0 _ rfl
                have c1 : wr.cell? ⟨lb, lo + k * 4 + 1, none⟩ = some (.int .i64 a.w) := hv1.cell encA_len k a ha 1 _ rfl
                have c2 : wr.cell? ⟨lb, lo + k * 4 + 2, none⟩ = some (.int .i64 a.b) := hv1.cell encA_len k a ha 2 _ rfl
                have c3 : wr.cell? ⟨lb, lo + k * 4 + 3, none⟩ = some (.int .i64 a.d) := hv1.cell encA_len k a ha 3 _ rfl
                have dl1 : decide ((k : Int) < (l.length : Int)) = true := decide_eq_true (by omega)
                have di : decide ((k : Int) < 0) = false := decide_eq_false (by omega)
                have hnum := HTIME.out.num a (List.mem_of_getElem? ha)
                have hf := HFST.out k a ha
                obtain ⟨x, y, b, d⟩ := a
                dsimp only at *
                clear ha hv1 e1b hU
                by_cases hd : 0 ≤ d
                · have dd : decide (0 ≤ d) = true := decide_eq_true hd
                  obtain ⟨f1, f2⟩ := hf hd
                  have dx : decide (b < x) = false := decide_eq_false (by omega)
                  have dy : decide (d < b + y) = false := decide_eq_false (by omega)
                  have wby : IntKind.i64.wrap (b + y) = b + y := Ck.wrap_in _ (by omega) (by omega)
                  clear hnum f1 f2
                  go_upto_region 17 with fail
                  go_quiet (fail)
                  go_wp2_with fail
                  go_roundw
                  case rel => exact ⟨k + 1, by omega, by go_num, by exact UZ.out.drewN nq⟩
                  case measure => simp [intOf]; omega
                · have dd : decide (0 ≤ d) = false := decide_eq_false hd
                  clear hnum hf
                  go_upto_region 17 with fail
                  go_quiet (fail)
                  go_wp2_with fail
                  go_roundw
                  case rel => exact ⟨k + 1, by omega, by go_num, by exact UZ.out.drewN nq⟩
                  case measure => simp [intOf]; omega
              · have hke : k = l.length := by omega
                subst hke
                have X8 := Lib.hid (X7.out.upd hU (fun h => h)); have S8 := Lib.hid (S7.out.upd hU (fun _ _ h => h)); have U8 := Lib.hid (U7.out.trans hU)
                rw [HLEN.out] at S8
                have x0 : wr.cell? ⟨w.heap.size + 1, 0, none⟩ = some (.bool rf) := X8.out.cell 0
                have x1 : wr.cell? ⟨w.heap.size + 1, 1, none⟩ = some (.int .i64 C) := X8.out.cell 1
                have x2 : wr.cell? ⟨w.heap.size + 1, 2, none⟩ = some (.int .i64 T) := X8.out.cell 2
                clear hU
                go_wp2_with fail
                refine (lateC wr rf C T w5.heap.size _ L S8.out HOK.out HTIME.out HLL.out).mono ?_
                rintro e w9 ⟨rfl, hU⟩
                have U9 := Lib.hid (U8.out.trans hU)
                clear hU
                go_wp2_with fail
                go_loopw [12] (fun v12 wr => v12 = .int .i64 0 ∧ wr = w9) (fun _ _ => 0)
                case atStart => exact ⟨rfl, rfl⟩
                case round =>
                  obtain ⟨rfl, rfl⟩ := hrel
                  go_wp2_with fail
                  go_returns
                  exact ⟨rfl, U9.out⟩
theorem serveInTime_any (w : World) (s : Bool × Int × Int) (_ : (Lit.int .i64 s.2.1).wf = true ∧ (Lit.int .i64 s.2.2).wf = true) (A : Option Addr) (len cap : Nat) (ks : Nat → Nat → Int) (_ : ∀ k j, k < len → j < 2 → (Lit.int .i64 (ks k j)).wf = true) (hc : Row2 w A len ks) :
    Calls Try.prog 3 #[.agg #[.bool s.1, .int .i64 s.2.1, .int .i64 s.2.2], .slice A len cap] w fun e w' => e = .returned (.bool true) ∧ Below w.heap.size w w' := by
  have h := inTimeC w s.1 s.2.1 s.2.2 A cap _ (row2_of hc)
  rw [List.length_map, List.length_range] at h
  exact h.mono (fun _ _ ⟨h1, h2⟩ => ⟨h1, h2.below (Nat.le_refl _) (fun _ h => h.elim)⟩)
end Go.Proofs.Ytcgefncddbbnlaa
