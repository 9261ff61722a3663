/-
  The walks of plan: in, cut, share, Min, fine; the document's share.
-/
import Derived.Test.YtldbjoegfcmfkaaPlanP
import Derived.Test.YtldbjoegfcmfkaaFrameA
namespace Go.Proofs.Ytldbjoegfcmfkaa
open Go.RowKit
attribute [local go_sem] max_ints min_ints

/-- A slice of whole numbers that may be read, wherever it lies. -/
def RdI (w : World) (v : Value) (ns : List Int) : Prop := ∃ A cap, v = .slice A ns.length cap ∧ ∀ (i : Nat) (x : Int), ns[i]? = some x → ∃ b o, A = some ⟨b, o, none⟩ ∧ b < w.heap.size ∧ w.cell? ⟨b, o + i, none⟩ = some (.int .i64 x)
theorem RdI.still {w w' : World} {v : Value} {ns : List Int} (h : RdI w v ns) (hu : Upd (fun _ => False) w w') : RdI w' v ns := by
  obtain ⟨A, cap, rfl, h⟩ := h
  refine ⟨A, cap, rfl, fun i x hx => ?_⟩
  obtain ⟨b, o, e, hb, h0⟩ := h i x hx
  exact ⟨b, o, e, Nat.lt_of_lt_of_le hb hu.size, (hu.cell (p := ⟨b, _, none⟩) hb (fun h => h)).trans h0⟩

set_option maxHeartbeats 400000 in
theorem inP (w : World) (n a b : Int) (r : Bool) (hr : decide (a ≤ n ∧ n ≤ b) = r) :
    Calls Try.prog 53 #[.int .i64 n, .int .i64 a, .int .i64 b] w fun e w' => e = .returned (.bool r) ∧ ∃ k, w' = w.drewN k := by
  by_cases h1 : a ≤ n
  · have d1 : decide (a ≤ n) = true := decide_eq_true h1
    have HR : Hid (decide (n ≤ b) = r) := Lib.hid (by rw [← hr]; simp [h1])
    clear hr h1
    go_enter Try.func53, Try.ntmps53
    go_wp2_with fail
    go_returns
    exact ⟨ret_bool HR.out, 0, rfl⟩
  · have d1 : decide (a ≤ n) = false := decide_eq_false h1
    have HR : Hid (false = r) := Lib.hid (by rw [← hr]; simp [h1])
    clear hr h1
    go_enter Try.func53, Try.ntmps53
    go_wp2_with fail
    go_returns
    exact ⟨ret_bool HR.out, 0, rfl⟩

set_option maxHeartbeats 400000 in
theorem cutP (w : World) (n a b c : Int) (hc : min (max n a) b = c) :
    Calls Try.prog 38 #[.int .i64 n, .int .i64 a, .int .i64 b] w fun e w' => e = .returned (.int .i64 c) ∧ ∃ k, w' = w.drewN k := by
  have HC := Lib.hid hc
  clear hc
  go_enter Try.func38, Try.ntmps38
  go_wp2_with fail
  go_returns
  exact ⟨ret_int HC.out, 0, rfl⟩

theorem shareN_le (x T i : Int) (hx : 0 ≤ x) (hT : 1 ≤ T) (hi : 0 ≤ i) : 0 ≤ x / T ∧ x / T + (if i < x % T then 1 else 0) ≤ x := by
  have h0 := Int.ediv_nonneg hx (show 0 ≤ T by omega)
  have h1 := Int.emod_def x T
  have h2 := Int.emod_nonneg x (show T ≠ 0 by omega)
  have h3 : 1 * (x / T) ≤ T * (x / T) := Int.mul_le_mul_of_nonneg_right hT h0
  refine ⟨h0, ?_⟩
  split <;> omega

set_option maxRecDepth 100000 in
set_option maxHeartbeats 800000 in
theorem shareP (w : World) (x T i : Int) (hx : 0 ≤ x) (hx2 : x ≤ 9223372036854775807) (hT : 1 ≤ T) (hi : 0 ≤ i) (n : Int) (hn : shareN x T i = n) :
    Calls Try.prog 36 #[.int .i64 x, .int .i64 T, .int .i64 i] w fun e w' => e = .returned (.int .i64 n) ∧ ∃ k, w' = w.drewN k := by
  have tT : ¬ (T = 0) := by omega
  have hb := shareN_le x T i hx hT hi
  have e1 : x.tdiv T = x / T := Int.tdiv_eq_ediv_of_nonneg hx
  have e2 : x.tmod T = x % T := Int.tmod_eq_emod_of_nonneg hx
  unfold shareN at hn
  obtain ⟨q, hq⟩ : ∃ q, x / T = q := ⟨_, rfl⟩
  obtain ⟨r, hr⟩ : ∃ r, x % T = r := ⟨_, rfl⟩
  rw [hq] at e1 hb hn
  rw [hr] at e2 hb hn
  by_cases hlt : i < r
  · rw [if_pos hlt] at hb hn
    have d1 : decide (i < r) = true := decide_eq_true hlt
    have HN := Lib.hid hn
    have w1 := wrap_in (q + 1) (by omega) (by omega)
    have w2 := wrap_in q (by omega) (by omega)
    have w3 : wrap64 q = q := by unfold wrap64; omega
    have w4 : wrap64 (q + 1) = q + 1 := by unfold wrap64; omega
    clear hn
    go_enter Try.func36, Try.ntmps36
    go_wp2_with fail
    go_returns
    exact ⟨ret_int HN.out, 0, rfl⟩
  · rw [if_neg hlt] at hb hn
    have d1 : decide (i < r) = false := decide_eq_false hlt
    have HN : Hid (q = n) := Lib.hid (by rw [← hn]; omega)
    have w2 := wrap_in q (by omega) (by omega)
    have w3 : wrap64 q = q := by unfold wrap64; omega
    clear hn
    go_enter Try.func36, Try.ntmps36
    go_wp2_with fail
    go_returns
    exact ⟨ret_int HN.out, 0, rfl⟩

set_option maxRecDepth 100000 in
set_option maxHeartbeats 800000 in
theorem shareR (w : World) (x T i : Int) (hx : 0 ≤ x) (hx2 : x ≤ 9223372036854775807) (hT : 1 ≤ T) (hi : 0 ≤ i) (n : Int) (hn : shareN x T i = n) :
    Calls Try.prog 37 #[.int .i64 x, .int .i64 T, .int .i64 i] w fun e w' => e = .returned (.int .i64 n) ∧ ∃ k, w' = w.drewN k := by
  have tT : ¬ (T = 0) := by omega
  have hb := shareN_le x T i hx hT hi
  have e1 : x.tdiv T = x / T := Int.tdiv_eq_ediv_of_nonneg hx
  have e2 : x.tmod T = x % T := Int.tmod_eq_emod_of_nonneg hx
  unfold shareN at hn
  obtain ⟨q, hq⟩ : ∃ q, x / T = q := ⟨_, rfl⟩
  obtain ⟨r, hr⟩ : ∃ r, x % T = r := ⟨_, rfl⟩
  rw [hq] at e1 hb hn
  rw [hr] at e2 hb hn
  by_cases hlt : i < r
  · rw [if_pos hlt] at hb hn
    have d1 : decide (i < r) = true := decide_eq_true hlt
    have HN := Lib.hid hn
    have w1 := wrap_in (q + 1) (by omega) (by omega)
    have w2 := wrap_in q (by omega) (by omega)
    have w3 : wrap64 q = q := by unfold wrap64; omega
    have w4 : wrap64 (q + 1) = q + 1 := by unfold wrap64; omega
    clear hn
    go_enter Try.func37, Try.ntmps37
    go_wp2_with fail
    go_returns
    exact ⟨ret_int HN.out, 0, rfl⟩
  · rw [if_neg hlt] at hb hn
    have d1 : decide (i < r) = false := decide_eq_false hlt
    have HN : Hid (q = n) := Lib.hid (by rw [← hn]; omega)
    have w2 := wrap_in q (by omega) (by omega)
    have w3 : wrap64 q = q := by unfold wrap64; omega
    clear hn
    go_enter Try.func37, Try.ntmps37
    go_wp2_with fail
    go_returns
    exact ⟨ret_int HN.out, 0, rfl⟩

set_option maxRecDepth 100000 in
set_option maxHeartbeats 800000 in
theorem minP (w : World) (v : Value) (ns : List Int) (h : RdI w v ns) (h1 : 1 ≤ ns.length) (h2 : ns.length ≤ 1000) :
    Calls Try.prog 54 #[v] w fun e w' => ∃ m, e = .returned (.int .i64 m) ∧ m ∈ ns ∧ (∀ x ∈ ns, m ≤ x) ∧ ∃ k, w' = w.drewN k := by
  have HR := Lib.hid h
  obtain ⟨x0, hx0⟩ : ∃ x, ns[0]? = some x := ⟨_, List.getElem?_eq_getElem (by omega)⟩
  obtain ⟨A, cap, rfl, hcell⟩ := h
  obtain ⟨b, o, rfl, hb, c0⟩ := hcell 0 x0 hx0
  rw [Nat.add_zero] at c0
  have HX := Lib.hid hx0
  have HC := Lib.hid hcell
  have d1 : decide ((ns.length : Int) < 1) = false := decide_eq_false (by omega)
  have d1' : ¬ ns.length = 0 := by omega
  have d1'' : ¬ ns.length < 1 := by omega
  have d2 : 0 < ns.length := by omega
  clear hcell hx0
  go_enter Try.func54, Try.ntmps54
  go_wp2_with fail
  go_loopw [3, 4] (fun vm vi wr => ∃ (i : Nat) (m : Int), 1 ≤ i ∧ i ≤ ns.length ∧ vi = .int .i64 i ∧ vm = .int .i64 m ∧ m ∈ ns ∧ (∀ x ∈ ns.take i, m ≤ x) ∧ wr = w) (fun _ vi _ => ns.length - (intOf vi).toNat)
  case atStart =>
    refine ⟨1, x0, Nat.le_refl _, h1, rfl, rfl, List.mem_of_getElem? HX.out, fun x hx => ?_, rfl⟩
    have : ns.take 1 = [x0] := by
      match ns, HX.out with
      | y :: t, e => simp at e; simp [e]
    rw [this] at hx
    simp at hx
    omega
  case round =>
    obtain ⟨i, m, hi1, hi, rfl, rfl, hm, hle, rfl⟩ := hrel
    have HM := Lib.hid hm; have HL := Lib.hid hle
    clear hm hle
    by_cases hlt : i < ns.length
    · obtain ⟨x, hx⟩ : ∃ x, ns[i]? = some x := ⟨_, List.getElem?_eq_getElem hlt⟩
      obtain ⟨b', o', e, _, ci⟩ := HC.out i x hx
      injection e with e
      injection e with e1 e2
      subst e1 e2
      have HXI := Lib.hid hx
      clear hx
      go_wp2_with fail
      go_roundw
      case rel =>
        refine ⟨i + 1, min m x, by omega, by omega, by go_num, rfl, ?_, fun y hy => ?_, by first | rfl | trivial⟩
        · by_cases h : m ≤ x
          · rw [show min m x = m by omega]; exact HM.out
          · rw [show min m x = x by omega]; exact List.mem_of_getElem? HXI.out
        · rw [List.take_add_one, HXI.out] at hy
          simp only [List.mem_append, Option.toList, List.mem_singleton] at hy
          rcases hy with hy | hy
          · have := HL.out y hy; omega
          · omega
      case measure => simp [intOf]; omega
    · have hie : i = ns.length := by omega
      subst hie
      rw [List.take_length] at HL
      go_wp2_with fail
      go_returns
      exact ⟨m, rfl, HM.out, HL.out, 0, rfl⟩

theorem fineE_20 {F M T : Int} {ns : List Int} (h : ¬ (1 ≤ F ∧ F ≤ 256 ∧ 0 ≤ M ∧ M ≤ 8)) : fineE F M T ns = 20 := by unfold fineE; rw [if_pos h]
theorem fineE_1 {F M T : Int} {ns : List Int} (h : 1 ≤ F ∧ F ≤ 256 ∧ 0 ≤ M ∧ M ≤ 8) (h' : ¬ (1 ≤ ns.length ∧ ns.length ≤ 6 ∧ 1 ≤ T ∧ T ≤ 32 ∧ ∀ x ∈ ns, 0 ≤ x)) : fineE F M T ns = 1 := by unfold fineE; rw [if_neg (fun n => n h), if_pos h']
theorem fineE_0 {F M T : Int} {ns : List Int} (h : 1 ≤ F ∧ F ≤ 256 ∧ 0 ≤ M ∧ M ≤ 8) (h' : 1 ≤ ns.length ∧ ns.length ≤ 6 ∧ 1 ≤ T ∧ T ≤ 32 ∧ ∀ x ∈ ns, 0 ≤ x) : fineE F M T ns = 0 := by unfold fineE; rw [if_neg (fun n => n h), if_neg (fun n => n h')]

set_option maxRecDepth 100000 in
set_option maxHeartbeats 1600000 in
theorem fineP (w : World) (F M T : Int) (v : Value) (ns : List Int) (h : RdI w v ns) :
    Calls Try.prog 34 #[.int .i64 F, .int .i64 M, .int .i64 T, v] w fun e w' => e = .returned (.int .i64 (fineE F M T ns)) ∧ ∃ k, w' = w.drewN k := by
  have HR := Lib.hid h
  obtain ⟨A, cap, rfl, _⟩ := h
  obtain ⟨e, he⟩ : ∃ e, fineE F M T ns = e := ⟨_, rfl⟩
  have HE := Lib.hid he
  rw [he]
  clear he
  by_cases h1 : 1 ≤ F ∧ F ≤ 256
  · by_cases h2 : 0 ≤ M ∧ M ≤ 8
    · have hA : 1 ≤ F ∧ F ≤ 256 ∧ 0 ≤ M ∧ M ≤ 8 := ⟨h1.1, h1.2, h2.1, h2.2⟩
      by_cases h3 : 1 ≤ (ns.length : Int) ∧ (ns.length : Int) ≤ 6
      · by_cases h4 : 1 ≤ T ∧ T ≤ 32
        · by_cases h5 : ∀ x ∈ ns, 0 ≤ x
          · have HV : Hid ((0 : Int) = e) := Lib.hid (by rw [← HE.out]; exact (fineE_0 hA ⟨by omega, by omega, h4.1, h4.2, h5⟩).symm)
            have H5 := Lib.hid h5
            clear h5 hA
            go_enter Try.func34, Try.ntmps34
            go_wp2_with fail
            refine (inP _ F 1 256 true (decide_eq_true h1)).mono ?_
            rintro e1 w1 ⟨rfl, k1, rfl⟩
            go_wp2_with fail
            refine (inP _ M 0 8 true (decide_eq_true h2)).mono ?_
            rintro e1 w1 ⟨rfl, k2, rfl⟩
            go_wp2_with fail
            refine (inP _ ns.length 1 6 true (decide_eq_true h3)).mono ?_
            rintro e1 w1 ⟨rfl, k3, rfl⟩
            go_wp2_with fail
            refine (inP _ T 1 32 true (decide_eq_true h4)).mono ?_
            rintro e1 w1 ⟨rfl, k4, rfl⟩
            go_wp2_with fail
            refine (minP _ _ ns (HR.out.still ((Upd.refl _ w).drewN _)) (by omega) (by omega)).mono ?_
            rintro e1 w1 ⟨m, rfl, hm, _, k5, rfl⟩
            have hm0 := H5.out m hm
            have d : decide (m < 0) = false := decide_eq_false (by omega)
            go_wp2_with fail
            go_returns
            exact ⟨ret_int HV.out, _, rfl⟩
          · have HV : Hid ((1 : Int) = e) := Lib.hid (by rw [← HE.out]; exact (fineE_1 hA (fun h => h5 h.2.2.2.2)).symm)
            have H5 : Hid (∃ x ∈ ns, x < 0) := Lib.hid (by
              by_cases hx : ∃ x ∈ ns, x < 0
              · exact hx
              · exact absurd (fun x hm => by
                  by_cases h0 : 0 ≤ x
                  · exact h0
                  · exact absurd ⟨x, hm, by omega⟩ hx) h5)
            clear h5 hA
            go_enter Try.func34, Try.ntmps34
            go_wp2_with fail
            refine (inP _ F 1 256 true (decide_eq_true h1)).mono ?_
            rintro e1 w1 ⟨rfl, k1, rfl⟩
            go_wp2_with fail
            refine (inP _ M 0 8 true (decide_eq_true h2)).mono ?_
            rintro e1 w1 ⟨rfl, k2, rfl⟩
            go_wp2_with fail
            refine (inP _ ns.length 1 6 true (decide_eq_true h3)).mono ?_
            rintro e1 w1 ⟨rfl, k3, rfl⟩
            go_wp2_with fail
            refine (inP _ T 1 32 true (decide_eq_true h4)).mono ?_
            rintro e1 w1 ⟨rfl, k4, rfl⟩
            go_wp2_with fail
            refine (minP _ _ ns (HR.out.still ((Upd.refl _ w).drewN _)) (by omega) (by omega)).mono ?_
            rintro e1 w1 ⟨m, rfl, _, hm, k5, rfl⟩
            have d : decide (m < 0) = true := decide_eq_true (by
              obtain ⟨x, hx, h0⟩ := H5.out
              have := hm x hx
              omega)
            clear hm
            go_wp2_with fail
            go_returns
            exact ⟨ret_int HV.out, _, rfl⟩
        · have HV : Hid ((1 : Int) = e) := Lib.hid (by rw [← HE.out]; exact (fineE_1 hA (fun h => h4 ⟨h.2.2.1, h.2.2.2.1⟩)).symm)
          clear hA
          go_enter Try.func34, Try.ntmps34
          go_wp2_with fail
          refine (inP _ F 1 256 true (decide_eq_true h1)).mono ?_
          rintro e1 w1 ⟨rfl, k1, rfl⟩
          go_wp2_with fail
          refine (inP _ M 0 8 true (decide_eq_true h2)).mono ?_
          rintro e1 w1 ⟨rfl, k2, rfl⟩
          go_wp2_with fail
          refine (inP _ ns.length 1 6 true (decide_eq_true h3)).mono ?_
          rintro e1 w1 ⟨rfl, k3, rfl⟩
          go_wp2_with fail
          refine (inP _ T 1 32 false (decide_eq_false h4)).mono ?_
          rintro e1 w1 ⟨rfl, k4, rfl⟩
          go_wp2_with fail
          go_returns
          exact ⟨ret_int HV.out, _, rfl⟩
      · have HV : Hid ((1 : Int) = e) := Lib.hid (by rw [← HE.out]; exact (fineE_1 hA (fun h => h3 ⟨by omega, by omega⟩)).symm)
        clear hA
        go_enter Try.func34, Try.ntmps34
        go_wp2_with fail
        refine (inP _ F 1 256 true (decide_eq_true h1)).mono ?_
        rintro e1 w1 ⟨rfl, k1, rfl⟩
        go_wp2_with fail
        refine (inP _ M 0 8 true (decide_eq_true h2)).mono ?_
        rintro e1 w1 ⟨rfl, k2, rfl⟩
        go_wp2_with fail
        refine (inP _ ns.length 1 6 false (decide_eq_false h3)).mono ?_
        rintro e1 w1 ⟨rfl, k3, rfl⟩
        go_wp2_with fail
        go_returns
        exact ⟨ret_int HV.out, _, rfl⟩
    · have HV : Hid ((20 : Int) = e) := Lib.hid (by rw [← HE.out]; exact (fineE_20 (fun h => h2 ⟨h.2.2.1, h.2.2.2⟩)).symm)
      go_enter Try.func34, Try.ntmps34
      go_wp2_with fail
      refine (inP _ F 1 256 true (decide_eq_true h1)).mono ?_
      rintro e1 w1 ⟨rfl, k1, rfl⟩
      go_wp2_with fail
      refine (inP _ M 0 8 false (decide_eq_false h2)).mono ?_
      rintro e1 w1 ⟨rfl, k2, rfl⟩
      go_wp2_with fail
      go_returns
      exact ⟨ret_int HV.out, _, rfl⟩
  · have HV : Hid ((20 : Int) = e) := Lib.hid (by rw [← HE.out]; exact (fineE_20 (fun h => h1 ⟨h.1, h.2.1⟩)).symm)
    go_enter Try.func34, Try.ntmps34
    go_wp2_with fail
    refine (inP _ F 1 256 false (decide_eq_false h1)).mono ?_
    rintro e1 w1 ⟨rfl, k1, rfl⟩
    go_wp2_with fail
    go_returns
    exact ⟨ret_int HV.out, _, rfl⟩
end Go.Proofs.Ytldbjoegfcmfkaa
