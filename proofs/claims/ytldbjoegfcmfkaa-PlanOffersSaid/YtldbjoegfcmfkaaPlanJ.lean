/-
  The walks of the widest window: slices.Max, plan.Widest, the document's.
-/
import Derived.Test.YtldbjoegfcmfkaaPlanI
import Derived.Test.YtldbjoegfcmfkaaFrameO
import Derived.Test.YtldbjoegfcmfkaaPlanQ
namespace Go.Proofs.Ytldbjoegfcmfkaa
open Go.RowKit
attribute [local go_sem] max_ints min_ints

theorem infoZ : (Try.prog.info? 3).map (fun i => (i.zero, i.size, i.bytes)) = some (some (.int .i64 0), 1, 8) := by kernel_rfl
theorem RdI.of {w : World} {base : Nat} {t : TypeId} {v : Value} {xs : List Int} (h : SlR encI w base t 1 v xs) : RdI w v xs := by
  obtain ⟨A, cap, hsh⟩ := h.shape
  subst hsh
  refine ⟨A, cap, rfl, fun i x hx => ?_⟩
  have hlt := (List.getElem?_eq_some_iff.1 hx).1
  obtain ⟨b, o, c, e, _, hb, _, _⟩ := SlR.form h (by omega)
  injection e with e1 e2 e3
  subst e1 e3
  have := SlR.cell encI_len h i x hx 0 (.int .i64 x) rfl
  exact ⟨b, o, rfl, hb, by simpa using this⟩

theorem new_cellsP (w : World) (o : Obj) (cs : List Value) (t : TypeId) : ∀ j u, cs[j]? = some u → ((w.alloc o).alloc (.cells cs.toArray t)).cell? ((⟨w.heap.size + 1, 0, none⟩ : Addr).add j) = some u := by
  intro j u hu
  rw [add_at]
  have h := (Blk.new (w.alloc o) t cs.toArray).cell j
  have e : (w.alloc o).heap.size = w.heap.size + 1 := Array.size_push _
  rw [e] at h
  rw [h]
  simpa using hu

set_option maxRecDepth 100000 in
set_option maxHeartbeats 800000 in
theorem maxP (w : World) (v : Value) (ns : List Int) (h : RdI w v ns) (h1 : 1 ≤ ns.length) (h2 : ns.length ≤ 1000) :
    Calls Try.prog 52 #[v] w fun e w' => e = .returned (.int .i64 (maxN ns)) ∧ ∃ k, w' = w.drewN k := by
  have HR := Lib.hid h
  obtain ⟨x0, hx0⟩ : ∃ x, ns[0]? = some x := ⟨_, List.getElem?_eq_getElem (by omega)⟩
  obtain ⟨A, cap, rfl, hcell⟩ := h
  obtain ⟨b, o, rfl, hb, c0⟩ := hcell 0 x0 hx0
  rw [Nat.add_zero] at c0
  have HX := Lib.hid hx0
  have HC := Lib.hid hcell
  have d1 : decide ((ns.length : Int) < 1) = false := decide_eq_false (by omega)
  have d1' : ¬ ns.length = 0 := by omega
  have d1'' : ¬ ns.length < 1 := by omega
  have d2 : 0 < ns.length := by omega
  clear hcell hx0
  go_enter Try.func52, Try.ntmps52
  go_wp2_with fail
  go_loopw [3, 4] (fun vm vi wr => ∃ (i : Nat), 1 ≤ i ∧ i ≤ ns.length ∧ vi = .int .i64 i ∧ vm = .int .i64 (maxN (ns.take i)) ∧ wr = w) (fun _ vi _ => ns.length - (intOf vi).toNat)
  case atStart =>
    refine ⟨1, Nat.le_refl _, h1, rfl, ?_, rfl⟩
    match ns, HX.out with
    | y :: t, e => simp at e; simp [maxN, e]
  case round =>
    obtain ⟨i, hi1, hi, rfl, rfl, rfl⟩ := hrel
    obtain ⟨m, hm⟩ : ∃ m, maxN (ns.take i) = m := ⟨_, rfl⟩
    rw [hm]
    have HM := Lib.hid hm
    clear hm
    by_cases hlt : i < ns.length
    · obtain ⟨x, hx⟩ : ∃ x, ns[i]? = some x := ⟨_, List.getElem?_eq_getElem hlt⟩
      obtain ⟨b', o', e, _, ci⟩ := HC.out i x hx
      injection e with e
      injection e with e1 e2
      subst e1 e2
      have HXI := Lib.hid hx
      clear hx
      go_wp2_with fail
      go_roundw
      case rel =>
        refine ⟨i + 1, by omega, by omega, by go_num, ?_, by first | rfl | trivial⟩
        have hne : ¬ ns.take i = [] := by
          intro e
          have e1 := congrArg List.length e
          rw [List.length_take] at e1
          simp only [List.length_nil] at e1
          omega
        rw [take_one HXI.out, maxN_snoc, if_neg hne, HM.out]
      case measure => simp [intOf]; omega
    · have hie : i = ns.length := by omega
      subst hie
      rw [List.take_length] at HM
      go_wp2_with fail
      go_returns
      exact ⟨ret_int HM.out.symm, 0, rfl⟩

set_option maxRecDepth 100000 in
set_option maxHeartbeats 1600000 in
theorem widestP (w : World) (v : Value) (ws : List W3) (h : RdW w v ws) (hl : ws.length ≤ 1000) (p : Int) (xs : List Int) (hxs : wideL p ws = xs) :
    Calls Try.prog 31 #[v, .int .i64 p] w fun e w' => e = .returned (.tuple #[.int .i64 (maxN xs), .bool (decide (0 < xs.length))]) ∧ Upd (fun _ => False) w w' := by
  have HR := Lib.hid h; have HXS := Lib.hid hxs
  have hxl : xs.length ≤ 1000 := by have := wideL_len p ws; rw [hxs] at this; omega
  obtain ⟨A, cap, rfl, _⟩ := h
  obtain ⟨i0, hi0, hz0, hz1, hz2⟩ := info_parts infoZ
  clear hxs
  go_enter Try.func31, Try.ntmps31
  go_wp2_with fail
  go_loopw [6, 11] (fun vx vi wr => ∃ i : Nat, i ≤ ws.length ∧ vi = .int .i64 i ∧ SlR encI wr w.heap.size 3 1 vx (wideL p (ws.take i)) ∧ Upd (fun _ => False) w wr) (fun _ vi _ => ws.length - (intOf vi).toNat)
  case atStart => exact ⟨0, Nat.zero_le _, rfl, SlR.nil, Upd.refl _ w⟩
  case round =>
    obtain ⟨i, hi, rfl, hS, hU⟩ := hrel
    obtain ⟨ys, hys⟩ : ∃ ys, wideL p (ws.take i) = ys := ⟨_, rfl⟩
    rw [hys] at hS
    have hyl : ys.length ≤ 1000 := by have := wideL_len p (ws.take i); rw [hys, List.length_take] at this; omega
    have HYS := Lib.hid hys
    have HS := Lib.hid hS; have HU := Lib.hid hU
    obtain ⟨Ax, cx, hsh⟩ := hS.shape
    subst hsh
    clear hS hU hys
    by_cases hlt : i < ws.length
    · obtain ⟨x, hx⟩ : ∃ x, ws[i]? = some x := ⟨_, List.getElem?_eq_getElem hlt⟩
      obtain ⟨A', cap', e, hcell⟩ := HR.out.still HU.out
      injection e with e1 e2 e3
      subst e1 e3
      obtain ⟨b, o, rfl, hb, q0, q1, q2⟩ := hcell i x hx
      have HX : Hid (wideL p (ws.take (i + 1)) = if x.2.2 = p then ys ++ [x.2.1] else ys) := Lib.hid (by rw [take_one hx, wideL_snoc, HYS.out])
      clear hcell hx
      obtain ⟨x0, x1, x2⟩ := x
      dsimp only at *
      have hsz := HU.out.size
      have hu1 := HU.out.alloc (.cells #[.int .i64 x0, .int .i64 x1, .int .i64 x2] 39)
      have HU1 := Lib.hid hu1
      clear hu1
      by_cases hp : x2 = p
      · subst hp
        rw [if_pos rfl] at HX
        go_wp2_with (
          at_builtin
          refine wpList_append_sl rfl (.tmp 19) (.tmp 22) 22 rfl w.heap.size 3 i0 _ 1 8 Try.underlying22 hi0 hz0 hz1 hz2 rfl (by decide) _ ys.length (rws encI ys) rfl (by exact Sl.alloc (Sl.alloc HS.out (.cells #[.int .i64 x0, .int .i64 x1, .int .i64 x2] 39)) (.cells #[.int .i64 x1] 3)) ⟨_, 0, none⟩ 1 [.int .i64 x1] rfl rfl (new_cellsP wr _ _ _) (by simp [Value.oneCell']) (by unfold maxLen; omega) (by omega) (by simp; omega) ?_
          intro v' w6 hs6 hu6 hv6
          obtain ⟨bq, oq, cq, rfl, _, _, _, _⟩ := hs6.form (by omega)
          have FS6 := Lib.hid hs6
          have U6 := Lib.hid hu6
          clear hs6 hu6 hv6)
        go_roundw
        case rel =>
          refine ⟨i + 1, by omega, by go_num, ?_, ?_⟩
          · rw [HX.out]
            unfold SlR
            rw [List.length_append, rws_append]
            exact FS6.out
          · have h1 := (HU1.out.alloc (.cells #[.int .i64 x1] 3)).mono (S' := fun k => w.heap.size ≤ k) (fun _ _ h => h.elim)
            exact (h1.trans (U6.out.mono (fun k _ hk => (Sl.blk HS.out k hk).1))).mono (fun k hk h => absurd h (by omega))
        case measure => simp [intOf]; omega
      · rw [if_neg hp] at HX
        have en : (x2 == p) = false := beq_eq_false_iff_ne.2 hp
        go_wp2_with fail
        go_roundw
        case rel => exact ⟨i + 1, by omega, by go_num, by rw [HX.out]; exact SlR.alloc HS.out _, HU1.out⟩
        case measure => simp [intOf]; omega
    · have hii : i = ws.length := by omega
      subst hii
      rw [List.take_length, HXS.out] at HYS
      have hxy := HYS.out
      subst hxy
      by_cases h0 : xs.length = 0
      · have hnil : xs = [] := List.eq_nil_of_length_eq_zero h0
        subst hnil
        go_wp2_with fail
        go_returns
        exact ⟨rfl, HU.out⟩
      · have en : ((xs.length : Int) == 0) = false := beq_eq_false_iff_ne.2 (by omega)
        have e0 : decide (0 < xs.length) = true := decide_eq_true (by omega)
        go_wp2_with fail
        refine (maxP _ _ xs (RdI.of HS.out) (by omega) hxl).mono ?_
        rintro e w1 ⟨rfl, k1, rfl⟩
        go_wp2_with fail
        go_returns
        exact ⟨by rw [e0]; rfl, HU.out.drewN _⟩

set_option maxRecDepth 100000 in
set_option maxHeartbeats 1600000 in
theorem widestD (w : World) (v : Value) (ws : List W3) (h : RdW w v ws) (hl : ws.length ≤ 1000) (p : Int) (xs : List Int) (hxs : wideL p ws = xs) :
    Calls Try.prog 32 #[v, .int .i64 p] w fun e w' => e = .returned (.tuple #[.int .i64 (maxN xs), .bool (decide (0 < xs.length))]) ∧ Upd (fun _ => False) w w' := by
  have HR := Lib.hid h; have HXS := Lib.hid hxs
  obtain ⟨A, cap, rfl, _⟩ := h
  clear hxs
  go_enter Try.func32, Try.ntmps32
  go_wp2_with fail
  go_loopw [6, 7, 8] (fun vb vo vi wr => ∃ i : Nat, i ≤ ws.length ∧ vi = .int .i64 i ∧ vb = .int .i64 (maxN (wideL p (ws.take i))) ∧ vo = .bool (decide (0 < (wideL p (ws.take i)).length)) ∧ ∃ q, wr = w.drewN q) (fun _ _ vi _ => ws.length - (intOf vi).toNat)
  case atStart => exact ⟨0, Nat.zero_le _, rfl, rfl, rfl, 0, rfl⟩
  case round =>
    obtain ⟨i, hi, rfl, rfl, rfl, q, rfl⟩ := hrel
    obtain ⟨ys, hys⟩ : ∃ ys, wideL p (ws.take i) = ys := ⟨_, rfl⟩
    rw [hys]
    have HYS := Lib.hid hys
    clear hys
    obtain ⟨m, hm⟩ : ∃ m, maxN ys = m := ⟨_, rfl⟩
    rw [hm]
    have HM := Lib.hid hm
    clear hm
    by_cases hlt : i < ws.length
    · obtain ⟨x, hx⟩ : ∃ x, ws[i]? = some x := ⟨_, List.getElem?_eq_getElem hlt⟩
      obtain ⟨A', cap', e, hcell⟩ := HR.out
      injection e with e1 e2 e3
      subst e1 e3
      obtain ⟨b, o, rfl, hb, q0, q1, q2⟩ := hcell i x hx
      have HX : Hid (wideL p (ws.take (i + 1)) = if x.2.2 = p then ys ++ [x.2.1] else ys) := Lib.hid (by rw [take_one hx, wideL_snoc, HYS.out])
      clear hcell hx
      obtain ⟨x0, x1, x2⟩ := x
      dsimp only at *
      by_cases hp : x2 = p
      · subst hp
        rw [if_pos rfl] at HX
        by_cases h0 : ys.length = 0
        · have hnil : ys = [] := List.eq_nil_of_length_eq_zero h0
          subst hnil
          have e0 : decide (0 < ([] : List Int).length) = false := rfl
          rw [e0]
          go_wp2_with fail
          go_roundw
          case rel => exact ⟨i + 1, by omega, by go_num, by rw [HX.out]; rfl, by rw [HX.out]; rfl, q, rfl⟩
          case measure => simp [intOf]; omega
        · have e0 : decide (0 < ys.length) = true := decide_eq_true (by omega)
          have hne : ¬ ys = [] := fun h => h0 (by rw [h]; rfl)
          have HQ : Hid (maxN (ys ++ [x1]) = max m x1) := Lib.hid (by rw [maxN_snoc, if_neg hne, HM.out])
          rw [e0]
          by_cases hg : m < x1
          · have d1 : decide (m < x1) = true := decide_eq_true hg
            go_wp2_with fail
            go_roundw
            case rel => exact ⟨i + 1, by omega, by go_num, by rw [HX.out, HQ.out]; congr 1; omega, by rw [HX.out]; simp, q, rfl⟩
            case measure => simp [intOf]; omega
          · have d1 : decide (m < x1) = false := decide_eq_false hg
            go_wp2_with fail
            go_roundw
            case rel => exact ⟨i + 1, by omega, by go_num, by rw [HX.out, HQ.out]; congr 1; omega, by rw [HX.out]; simp, q, rfl⟩
            case measure => simp [intOf]; omega
      · rw [if_neg hp] at HX
        have en : (x2 == p) = false := beq_eq_false_iff_ne.2 hp
        go_wp2_with fail
        go_roundw
        case rel => exact ⟨i + 1, by omega, by go_num, by rw [HX.out, HM.out], by rw [HX.out], q, rfl⟩
        case measure => simp [intOf]; omega
    · have hii : i = ws.length := by omega
      subst hii
      rw [List.take_length, HXS.out] at HYS
      have hxy := HYS.out
      subst hxy
      go_wp2_with fail
      go_returns
      exact ⟨by rw [HM.out]; rfl, (Upd.refl _ w).drewN q⟩
end Go.Proofs.Ytldbjoegfcmfkaa
