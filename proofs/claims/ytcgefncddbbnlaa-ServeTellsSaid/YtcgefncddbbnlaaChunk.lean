/-
  The walks of chunk.Budget: what is back, taken out by a closure.
-/
import Derived.Test.YtcgefncddbbnlaaConf
import Derived.Test.YtcgefncddbbnlaaTu
import Derived.Test.YtcgefncddbbnlaaRws
import Derived.Deep.RegionLaw
namespace Go.Proofs.Ytcgefncddbbnlaa.Ck
open Go.RowKit Go.Proofs.Ytcgefncddbbnlaa.Cf

def encC (x : Int × Int × Int) : List Value := [.int .i64 x.1, .int .i64 x.2.1, .int .i64 x.2.2]
def encB (x : Int × Int) : List Value := [.int .i64 x.1, .int .i64 x.2]
theorem encC_len (x : Int × Int × Int) : (encC x).length = 3 := rfl
theorem encB_len (x : Int × Int) : (encB x).length = 2 := rfl
theorem encC_one (x : Int × Int × Int) : ∀ u ∈ encC x, u.oneCell' = true := by intro u hu; simp [encC] at hu; rcases hu with rfl | rfl | rfl <;> rfl
theorem encB_one (x : Int × Int) : ∀ u ∈ encB x, u.oneCell' = true := by intro u hu; simp [encB] at hu; rcases hu with rfl | rfl <;> rfl

/-- What is back of a list at a tick; what is not. -/
def ripeN (now : Int) : List (Int × Int) → Int
  | [] => 0
  | x :: t => (if x.1 ≤ now then x.2 else 0) + ripeN now t
def keepB (now : Int) (ys : List (Int × Int)) : List (Int × Int) := ys.filter (fun x => decide (now < x.1))
theorem ripeN_append (now : Int) : ∀ xs ys : List (Int × Int), ripeN now (xs ++ ys) = ripeN now xs + ripeN now ys
  | [], ys => by simp [ripeN]
  | x :: t, ys => by simp [ripeN, ripeN_append now t ys]; omega
theorem ripeN_take (now : Int) (ys : List (Int × Int)) (i : Nat) (y : Int × Int) (h : ys[i]? = some y) : ripeN now (ys.take (i + 1)) = ripeN now (ys.take i) + (if y.1 ≤ now then y.2 else 0) := by
  rw [List.take_add_one, h, ripeN_append]
  simp [ripeN]
theorem keepB_take (now : Int) (ys : List (Int × Int)) (i : Nat) (y : Int × Int) (h : ys[i]? = some y) : keepB now (ys.take (i + 1)) = keepB now (ys.take i) ++ (if y.1 ≤ now then [] else [y]) := by
  unfold keepB
  rw [List.take_add_one, h, List.filter_append]
  congr 1
  by_cases hy : y.1 ≤ now
  · rw [if_pos hy]; simp; omega
  · rw [if_neg hy]; simp; omega
def sumB : List (Int × Int) → Int
  | [] => 0
  | x :: t => x.2 + sumB t
def fineB (ys : List (Int × Int)) : Prop := ∀ y ∈ ys, 0 ≤ y.2 ∧ y.2 ≤ 1000
theorem ripeN_bound (now : Int) : ∀ ys : List (Int × Int), fineB ys → 0 ≤ ripeN now ys ∧ ripeN now ys ≤ ys.length * 1000
  | [], _ => by simp [ripeN]
  | y :: t, h => by
    have h1 := ripeN_bound now t (fun z hz => h z (List.mem_cons_of_mem _ hz))
    have h2 := h y (List.mem_cons_self ..)
    simp only [ripeN, List.length_cons]
    split <;> omega
theorem fineB_take {ys : List (Int × Int)} (h : fineB ys) (i : Nat) : fineB (ys.take i) := fun x hx => h x (List.mem_of_mem_take hx)
theorem keepB_len (now : Int) (ys : List (Int × Int)) : (keepB now ys).length ≤ ys.length := List.length_filter_le _ _

set_option maxHeartbeats 400000 in
/-- The closure. -/
theorem ripe1 (w : World) (gn gs : Nat) (now acc A N : Int) (hn : w.cell? ⟨gn, 0, none⟩ = some (.int .i64 now)) (hs : Blk w gs 3 #[.int .i64 acc]) (h0 : 0 ≤ acc) (h1 : acc ≤ 1000000) (h2 : 0 ≤ N) (h3 : N ≤ 1000) (hne : gn ≠ gs) (t : Bool) (ht : decide (A ≤ now) = t) :
    Calls Try.prog 122 #[.agg #[.int .i64 A, .int .i64 N], .pointer (some ⟨gn, 0, none⟩), .pointer (some ⟨gs, 0, none⟩)] w fun e w' => e = .returned (.bool t) ∧ Blk w' gs 3 #[.int .i64 (acc + if A ≤ now then N else 0)] ∧ Upd (fun k => k = gs) w w' := by
  have c0 := hs.cell 0
  have f0 := hs.frozen 0
  simp at c0
  have HS : Hid (∀ o u, Blk ((w.setCell ⟨gs, 0, none⟩ u).alloc o) gs 3 #[u]) := Lib.hid (fun o u => by
    have := (hs.set_ 0 u).alloc o
    simpa using this)
  have HS0 : Hid (∀ o, Blk (w.alloc o) gs 3 #[.int .i64 acc]) := Lib.hid (fun o => hs.alloc o)
  have hgn : gn < w.heap.size := block_lt_of_cell hn
  have hgs : gs < w.heap.size := hs.lt
  clear hs
  by_cases h : A ≤ now
  · rw [if_pos h]
    have ht' : t = true := by rw [← ht]; exact decide_eq_true h
    subst ht'
    have e0 : decide (A ≤ now) = true := decide_eq_true h
    clear ht
    go_enter Try.func122, Try.ntmps122
    go_wp2
    go_ret
    exact ⟨rfl, HS.out _ _, ((Upd.refl (fun k => k = gs) w).setCell (p := ⟨gs, 0, none⟩) (fun _ => rfl) _).alloc _⟩
  · rw [if_neg h]
    have ht' : t = false := by rw [← ht]; exact decide_eq_false h
    subst ht'
    have e0 : decide (A ≤ now) = false := decide_eq_false h
    clear ht
    go_enter Try.func122, Try.ntmps122
    go_wp2
    go_ret
    exact ⟨rfl, by simpa using HS0.out _, (Upd.refl _ w).alloc _⟩

theorem _root_.Go.Proofs.Ytcgefncddbbnlaa.SlR.cellB {w : World} {base b off cap n : Nat} {t : TypeId} {ys : List (Int × Int)} (h : SlR encB w base t 2 (.slice (some ⟨b, off, none⟩) n cap) ys) (i : Nat) (y : Int × Int) (hy : ys[i]? = some y) :
    w.cell? ⟨b, off + i * 2, none⟩ = some (.int .i64 y.1) ∧ w.cell? ⟨b, off + i * 2 + 1, none⟩ = some (.int .i64 y.2) :=
  ⟨h.cell encB_len i y hy 0 _ rfl, h.cell encB_len i y hy 1 _ rfl⟩

set_option maxRecDepth 100000 in
set_option maxHeartbeats 800000 in
theorem index1 (w : World) (base : Nat) (K : Value) (ys : List (Int × Int)) (hK : SlR encB w base 169 2 K ys) (gn gs : Nat) (now : Int) (hn : w.cell? ⟨gn, 0, none⟩ = some (.int .i64 now)) (hs : Blk w gs 3 #[.int .i64 0]) (hne : gn ≠ gs) (hf : fineB ys) (hl : ys.length ≤ 1000) :
    Calls Try.prog 123 #[K, .func (.func 122) #[] #[.pointer (some ⟨gn, 0, none⟩), .pointer (some ⟨gs, 0, none⟩)]] w fun e w' =>
      ∃ i : Nat, i ≤ ys.length ∧ e = .returned (.int .i64 (if i < ys.length then (i : Int) else -1)) ∧ keepB now (ys.take i) = ys.take i ∧ ripeN now (ys.take i) = 0 ∧ (∀ y, ys[i]? = some y → y.1 ≤ now) ∧
        Blk w' gs 3 #[.int .i64 (ripeN now (ys.take (i + 1)))] ∧ Upd (fun k => k = gs) w w' := by
  have hgn : gn < w.heap.size := block_lt_of_cell hn
  obtain ⟨A, cap, rfl⟩ := hK.shape
  have HN := Lib.hid hn; clear hn
  have HK := Lib.hid hK; clear hK
  have HF := Lib.hid hf; clear hf
  have HS := Lib.hid hs; clear hs
  have HNE := Lib.hid hne; clear hne
  go_enter Try.func123, Try.ntmps123
  go_wp2_with fail
  go_loopw [5, 8] (fun _ vi wr => ∃ i : Nat, i ≤ ys.length ∧ vi = .int .i64 i ∧ keepB now (ys.take i) = ys.take i ∧ ripeN now (ys.take i) = 0 ∧ Blk wr gs 3 #[.int .i64 0] ∧ Upd (fun k => k = gs) w wr) (fun _ vi _ => ys.length - (intOf vi).toNat)
  case atStart => exact ⟨0, Nat.zero_le _, rfl, rfl, rfl, HS.out, Upd.refl _ _⟩
  case round =>
    obtain ⟨i, hi, rfl, h1, h2, h3, hU⟩ := hrel
    have H1 := Lib.hid h1; have H2 := Lib.hid h2; have H3 := Lib.hid h3; have HU := Lib.hid hU
    clear h1 h2 h3 hU
    by_cases hlt : i < ys.length
    · obtain ⟨y, hy⟩ : ∃ y, ys[i]? = some y := ⟨_, List.getElem?_eq_getElem hlt⟩
      have hS := HK.out
      obtain ⟨b, off, cap', e, _, hb, _, _⟩ := hS.form (by omega)
      injection e with e1 e2 e3
      subst e1 e3
      have hbg : b ≠ gs := Sl.ne_ hS HS.out (by decide) b rfl
      have c0 := (HU.out.cell (p := ⟨b, off + i * 2, none⟩) hb hbg).trans (hS.cellB i y hy).1
      have c1 := (HU.out.cell (p := ⟨b, off + i * 2 + 1, none⟩) hb hbg).trans (hS.cellB i y hy).2
      have hfy := HF.out y (List.mem_of_getElem? hy)
      obtain ⟨t, ht⟩ : ∃ t, decide (y.1 ≤ now) = t := ⟨_, rfl⟩
      have HT := Lib.hid ht
      have HY := Lib.hid hy
      clear ht hy hS hbg
      go_wp2_with fail
      refine (ripe1 _ gn gs now 0 y.1 y.2 ((HU.out.cell (p := ⟨gn, 0, none⟩) hgn HNE.out).trans HN.out) H3.out (by omega) (by omega) hfy.1 hfy.2 HNE.out t HT.out).mono ?_
      rintro e w2 ⟨rfl, hs2, hU2⟩
      have S2 := Lib.hid hs2
      have U2 := Lib.hid (HU.out.trans hU2)
      clear hs2 hU2
      cases t
      · have hn := of_decide_eq_false HT.out
        have HNL := Lib.hid hn; clear hn
        go_wp2_with fail
        go_roundw
        case rel =>
          refine ⟨i + 1, by omega, by go_num, ?_, ?_, ?_, U2.out⟩
          · rw [keepB_take now ys i y HY.out, H1.out, if_neg (Int.not_le.2 HNL.out), List.take_add_one, HY.out]; rfl
          · rw [ripeN_take now ys i y HY.out, H2.out, if_neg (Int.not_le.2 HNL.out)]; rfl
          · have := S2.out
            rw [if_neg (Int.not_le.2 HNL.out)] at this
            exact this
        case measure => simp [intOf]; omega
      · have hn := of_decide_eq_true HT.out
        have HNL := Lib.hid hn; clear hn
        go_wp2_with fail
        go_ret
        refine ⟨i, by omega, ret_int (by rw [if_pos hlt]), H1.out, H2.out, fun z hz => ?_, ?_, U2.out⟩
        · rw [HY.out] at hz; cases hz; exact HNL.out
        · rw [ripeN_take now ys i y HY.out, H2.out]
          exact S2.out
    · have hi' : i = ys.length := by omega
      go_wp2_with fail
      go_ret
      refine ⟨i, by omega, ret_int (by rw [if_neg hlt]), H1.out, H2.out, fun z hz => ?_, ?_, HU.out⟩
      · rw [List.getElem?_eq_none (by omega)] at hz; cases hz
      · rw [List.take_of_length_le (by omega), ← List.take_of_length_le (l := ys) (i := i) (by omega), H2.out]
        exact H3.out
end Go.Proofs.Ytcgefncddbbnlaa.Ck
