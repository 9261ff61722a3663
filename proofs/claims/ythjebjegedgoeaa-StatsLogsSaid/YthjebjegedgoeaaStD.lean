/-
  Stats: answered; Add.
-/
import Derived.Test.YthjebjegedgoeaaStC
namespace Go.Proofs.Ythjebjegedgoeaa
open Go.RowKit Go.Shelf Go.Maps Go.Sort
attribute [local go_sem] max_ints min_ints mapEq mapEqN makeMp

/-- A task's block and its buckets. -/
structure KnS (w : World) (k c B : Nat) (t : Int) (x : Ln) (cs : List Int) : Prop where
  kn : Blk w k 62 (encK t x c B)
  cn : SlR encI w c 3 1 (.slice (some ⟨c, 0, none⟩) B B) cs
section
variable {w w' : World} {k c B : Nat} {t : Int} {x : Ln} {cs : List Int} {S : Nat → Prop}
theorem KnS.upd (h : KnS w k c B t x cs) (hu : Upd S w w') (h1 : ¬ S k) (h2 : ¬ S c) : KnS w' k c B t x cs :=
  ⟨h.kn.upd hu h1, h.cn.upd hu (fun q hq => by rw [← slBlk_eq hq]; exact h2)⟩
theorem KnS.still (h : KnS w k c B t x cs) (hu : Upd (fun _ => False) w w') : KnS w' k c B t x cs := h.upd hu (fun h => h) (fun h => h)
theorem KnS.ne_ (h : KnS w k c B t x cs) : k ≠ c := by
  obtain ⟨_, _, cur, hcur⟩ := Sl.blk h.cn _ rfl
  exact h.kn.ne_ hcur (by decide)
theorem KnS.len (h : KnS w k c B t x cs) : cs.length = B := by
  obtain ⟨A, cp, he⟩ := h.cn.shape
  injection he with _ e _
  exact e.symm
/-- One of its cells is written. -/
theorem KnS.set_ (h : KnS w k c B t x cs) (i : Nat) (u : Int) (x' : Ln) (e : (encK t x c B).setIfInBounds i (.int .i64 u) = encK t x' c B) : KnS (w.setCell ⟨k, i, none⟩ (.int .i64 u)) k c B t x' cs ∧ Upd (fun q => q = k) w (w.setCell ⟨k, i, none⟩ (.int .i64 u)) := by
  have hU : Upd (fun q => q = k) w (w.setCell ⟨k, i, none⟩ (.int .i64 u)) := (Upd.refl (fun q => q = k) w).setCell (p := ⟨k, i, none⟩) (fun _ => rfl) _
  refine ⟨⟨by rw [← e]; exact h.kn.set_ i _, h.cn.upd hU (fun q hq e => ?_)⟩, hU⟩
  rw [← slBlk_eq hq] at e
  exact h.ne_ e.symm
theorem KnS.cell (h : KnS w k c B t x cs) (i : Nat) (y : Int) (e : cs[i]? = some y) : w.cell? ⟨c, i, none⟩ = some (.int .i64 y) := by
  have hl := h.len
  have h1 := h.cn
  unfold SlR at h1
  rw [rws_encI, hl] at h1
  have := Sl.cell h1 i (.int .i64 y) (by rw [List.getElem?_map, e]; rfl)
  rwa [Nat.zero_add] at this
theorem KnS.frozen (h : KnS w k c B t x cs) (i : Nat) : w.frozen? ⟨c, i, none⟩ = false := h.cn.frozen i
theorem KnS.setC (h : KnS w k c B t x cs) (i : Nat) (hi : i < B) (y : Int) : KnS (w.setCell ⟨c, i, none⟩ (.int .i64 y)) k c B t x (cs.set i y) ∧ Upd (fun q => q = c) w (w.setCell ⟨c, i, none⟩ (.int .i64 y)) := by
  have hU : Upd (fun q => q = c) w (w.setCell ⟨c, i, none⟩ (.int .i64 y)) := (Upd.refl (fun q => q = c) w).setCell (p := ⟨c, i, none⟩) (fun _ => rfl) _
  refine ⟨⟨h.kn.upd hU h.ne_, ?_⟩, hU⟩
  have hl := h.len
  have h1 := h.cn
  unfold SlR at h1 ⊢
  rw [List.length_set]
  rw [rws_encI, hl] at h1
  rw [rws_encI, hl]
  have := Sl.set_ h1 i (by omega) (.int .i64 y)
  rw [Nat.zero_add] at this
  rwa [List.map_set]
end

set_option maxRecDepth 100000 in
set_option maxHeartbeats 3200000 in
theorem answeredC (w : World) (k c B W n : Nat) (t : Int) (x : Ln) (cs : List Int) (h : KnS w k c B t x cs) (hx : LnOk n x) (hn : n ≤ 1000000) (hcs : ∀ y ∈ cs, 0 ≤ y ∧ y ≤ n) (hB : 1 ≤ B) (hB2 : B ≤ 64) (hW : 1 ≤ W) (a : Int) (ha : 0 < a) (ha2 : a ≤ 1048576) :
    Calls Try.prog 24 #[.pointer (some ⟨k, 0, none⟩), .int .i64 a, .int .i64 (W : Int)] w fun e w' => e = .returned (.tuple #[]) ∧ KnS w' k c B t (x.answer a) (bump cs (bkt B W a)) ∧ Upd (fun q => q = k ∨ q = c) w w' := by
  obtain ⟨arr, en, lo, le, mo, su⟩ := x
  obtain ⟨h1, h2, h3, h4, h5, h6, h7, h8, h9, h10, h11, h12, h13⟩ := hx
  dsimp only at h1 h2 h3 h4 h5 h6 h7 h8 h9 h10 h11 h12 h13
  obtain ⟨hbk, hbl⟩ := bkt_lt (W := W) hB ha
  obtain ⟨q, hq⟩ : ∃ q, bkt B W a = q := ⟨_, rfl⟩
  rw [hq] at hbk hbl ⊢
  have hlen := h.len
  obtain ⟨y, hy⟩ : ∃ y, cs[q]? = some y := ⟨_, List.getElem?_eq_getElem (by omega)⟩
  have hbump : bump cs q = cs.set q (y + 1) := by unfold bump; rw [List.getD, hy]; rfl
  rw [hbump]
  have hyb := hcs y (List.mem_of_getElem? hy)
  obtain ⟨le', hle'⟩ : ∃ l, (if en = 0 ∨ a < le then a else le) = l := ⟨_, rfl⟩
  have hans : (⟨arr, en, lo, le, mo, su⟩ : Ln).answer a = ⟨arr, en + 1, lo, le', max mo a, su + a⟩ := by rw [← hle']; rfl
  rw [hans]
  have k2 : w.cell? ⟨k, 2, none⟩ = some (.int .i64 en) := h.kn.cell 2
  have k4 : w.cell? ⟨k, 4, none⟩ = some (.int .i64 le) := h.kn.cell 4
  have f4 := h.kn.frozen 4
  have HY := Lib.hid hy
  have hsu : 0 ≤ su ∧ su ≤ 1048576000000 := by omega
  have hen : 0 ≤ en ∧ en ≤ 1000000 := by omega
  have hmo : 0 ≤ mo ∧ mo ≤ 1048576 := ⟨h9, h10⟩
  have hyb2 : 0 ≤ y ∧ y ≤ 1000000 := by omega
  have K0 := Lib.hid h
  have tq : (a - 1).tdiv (W : Int) = (a - 1) / (W : Int) := Int.tdiv_eq_ediv_of_nonneg (by omega)
  have HDV : Hid (0 ≤ (a - 1) / (W : Int) ∧ (a - 1) / (W : Int) ≤ 1048576) := Lib.hid ⟨Int.ediv_nonneg (by omega) (by omega), Int.le_trans (Int.ediv_le_self _ (by omega)) (by omega)⟩
  have w0 : ((W : Int) == 0) = false := beq_eq_false_iff_ne.2 (by omega)
  have w1' : decide ((W : Int) = 0) = false := decide_eq_false (by omega)
  obtain ⟨dv, hdv⟩ : ∃ dv, (a - 1) / (W : Int) = dv := ⟨_, rfl⟩
  rw [hdv] at hbk HDV tq
  have hdvb := HDV.out
  clear h h1 h2 h3 h4 h5 h6 h7 h8 h9 h10 h11 h12 h13 hcs hyb hy hbump hans hq hdv HDV
  go_enter Try.func24, Try.ntmps24
  by_cases c1 : en = 0
  · subst c1
    have c1 : (0 : Int) = 0 := rfl
    have hl : le' = a := by rw [← hle', if_pos (.inl c1)]
    subst hl
    have hK := K0.out.set_ 4 le' ⟨arr, 0, lo, le', mo, su⟩ rfl
    have K1 := Lib.hid hK.1
    have U1 : Hid (Upd (fun q => q = k ∨ q = c) w (w.setCell ⟨k, 4, none⟩ (.int .i64 le'))) := Lib.hid (hK.2.mono (fun _ _ e => .inl e))
    clear hle' hK
    go_upto_region 2 with fail
    generalize w.setCell ⟨k, 4, none⟩ (.int .i64 le') = w1 at *
    clear k2 k4 f4
    have k5 : w1.cell? ⟨k, 5, none⟩ = some (.int .i64 mo) := K1.out.kn.cell 5
    have f5 := K1.out.kn.frozen 5
    have hK2 := K1.out.set_ 5 (max mo le') ⟨arr, 0, lo, le', max mo le', su⟩ rfl
    have K2 := Lib.hid hK2.1
    have U2 := Lib.hid (U1.out.trans (hK2.2.mono (S' := fun q => q = k ∨ q = c) (fun _ _ e => .inl e)))
    clear hK2
    go_upto_region 3 with fail
    clear k5 f5
    generalize w1.setCell ⟨k, 5, none⟩ (.int .i64 (max mo le')) = w2 at *
    have k6 : w2.cell? ⟨k, 6, none⟩ = some (.int .i64 su) := K2.out.kn.cell 6
    have f6 := K2.out.kn.frozen 6
    have hK3 := K2.out.set_ 6 (su + le') ⟨arr, 0, lo, le', max mo le', su + le'⟩ rfl
    have K3 := Lib.hid hK3.1
    have U3 := Lib.hid (U2.out.trans (hK3.2.mono (S' := fun q => q = k ∨ q = c) (fun _ _ e => .inl e)))
    clear hK3
    go_upto_region 4 with fail
    clear k6 f6
    generalize w2.setCell ⟨k, 6, none⟩ (.int .i64 (su + le')) = w3 at *
    have k7 : w3.cell? ⟨k, 2, none⟩ = some (.int .i64 0) := K3.out.kn.cell 2
    have f7 := K3.out.kn.frozen 2
    have hK4 := K3.out.set_ 2 (1) ⟨arr, 1, lo, le', max mo le', su + le'⟩ rfl
    have K4 := Lib.hid hK4.1
    have U4 := Lib.hid (U3.out.trans (hK4.2.mono (S' := fun q => q = k ∨ q = c) (fun _ _ e => .inl e)))
    clear hK4
    go_upto_region 5 with fail
    clear k7 f7
    generalize w3.setCell ⟨k, 2, none⟩ (.int .i64 (1)) = w4 at *
    have k8 : w4.cell? ⟨k, 7, none⟩ = some (.slice (some ⟨c, 0, none⟩) B B) := K4.out.kn.cell 7
    have cq : w4.cell? ⟨c, q, none⟩ = some (.int .i64 y) := K4.out.cell q y HY.out
    have fq := K4.out.frozen q
    have hmn : min dv ((B : Int) - 1) = (q : Int) := hbk.symm
    have hq1 : decide ((q : Int) < (B : Int)) = true := decide_eq_true (by omega)
    have hq2 : decide ((q : Int) < 0) = false := decide_eq_false (by omega)
    clear hbk
    go_region
    go_wp2_with fail
    go_returns
    have hK5 := (K4.out.upd (Upd.refl (fun _ => False) w4).drew (fun h => h) (fun h => h)).setC q hbl (y + 1)
    exact ⟨rfl, hK5.1, U4.out.drew.trans (hK5.2.mono (fun _ _ e => .inr e))⟩
  · have d1 : (en == 0) = false := beq_eq_false_iff_ne.2 c1
    have d1' : decide (en = 0) = false := decide_eq_false c1
    by_cases c2 : a < le
    · have d2 : decide (a < le) = true := decide_eq_true c2
      have hl : le' = a := by rw [← hle', if_pos (.inr c2)]
      subst hl
      have hK := K0.out.set_ 4 le' ⟨arr, en, lo, le', mo, su⟩ rfl
      have K1 := Lib.hid hK.1
      have U1 : Hid (Upd (fun q => q = k ∨ q = c) w (w.setCell ⟨k, 4, none⟩ (.int .i64 le'))) := Lib.hid (hK.2.mono (fun _ _ e => .inl e))
      clear hle' hK
      go_upto_region 2 with fail
      generalize w.setCell ⟨k, 4, none⟩ (.int .i64 le') = w1 at *
      clear k2 k4 f4
      have k5 : w1.cell? ⟨k, 5, none⟩ = some (.int .i64 mo) := K1.out.kn.cell 5
      have f5 := K1.out.kn.frozen 5
      have hK2 := K1.out.set_ 5 (max mo le') ⟨arr, en, lo, le', max mo le', su⟩ rfl
      have K2 := Lib.hid hK2.1
      have U2 := Lib.hid (U1.out.trans (hK2.2.mono (S' := fun q => q = k ∨ q = c) (fun _ _ e => .inl e)))
      clear hK2
      go_upto_region 3 with fail
      clear k5 f5
      generalize w1.setCell ⟨k, 5, none⟩ (.int .i64 (max mo le')) = w2 at *
      have k6 : w2.cell? ⟨k, 6, none⟩ = some (.int .i64 su) := K2.out.kn.cell 6
      have f6 := K2.out.kn.frozen 6
      have hK3 := K2.out.set_ 6 (su + le') ⟨arr, en, lo, le', max mo le', su + le'⟩ rfl
      have K3 := Lib.hid hK3.1
      have U3 := Lib.hid (U2.out.trans (hK3.2.mono (S' := fun q => q = k ∨ q = c) (fun _ _ e => .inl e)))
      clear hK3
      go_upto_region 4 with fail
      clear k6 f6
      generalize w2.setCell ⟨k, 6, none⟩ (.int .i64 (su + le')) = w3 at *
      have k7 : w3.cell? ⟨k, 2, none⟩ = some (.int .i64 en) := K3.out.kn.cell 2
      have f7 := K3.out.kn.frozen 2
      have hK4 := K3.out.set_ 2 (en + 1) ⟨arr, en + 1, lo, le', max mo le', su + le'⟩ rfl
      have K4 := Lib.hid hK4.1
      have U4 := Lib.hid (U3.out.trans (hK4.2.mono (S' := fun q => q = k ∨ q = c) (fun _ _ e => .inl e)))
      clear hK4
      go_upto_region 5 with fail
      clear k7 f7
      generalize w3.setCell ⟨k, 2, none⟩ (.int .i64 (en + 1)) = w4 at *
      have k8 : w4.cell? ⟨k, 7, none⟩ = some (.slice (some ⟨c, 0, none⟩) B B) := K4.out.kn.cell 7
      have cq : w4.cell? ⟨c, q, none⟩ = some (.int .i64 y) := K4.out.cell q y HY.out
      have fq := K4.out.frozen q
      have hmn : min dv ((B : Int) - 1) = (q : Int) := hbk.symm
      have hq1 : decide ((q : Int) < (B : Int)) = true := decide_eq_true (by omega)
      have hq2 : decide ((q : Int) < 0) = false := decide_eq_false (by omega)
      clear hbk
      go_region
      go_wp2_with fail
      go_returns
      have hK5 := (K4.out.upd (Upd.refl (fun _ => False) w4).drew (fun h => h) (fun h => h)).setC q hbl (y + 1)
      exact ⟨rfl, hK5.1, U4.out.drew.trans (hK5.2.mono (fun _ _ e => .inr e))⟩
    · have d2 : decide (a < le) = false := decide_eq_false c2
      have hl : le' = le := by rw [← hle', if_neg (fun h => h.elim c1 c2)]
      subst hl
      have K1 := K0
      have U1 : Hid (Upd (fun q => q = k ∨ q = c) w w) := Lib.hid (Upd.refl _ w)
      go_upto_region 2 with fail
      clear k2 k4 f4
      have k5 : w.cell? ⟨k, 5, none⟩ = some (.int .i64 mo) := K1.out.kn.cell 5
      have f5 := K1.out.kn.frozen 5
      have hK2 := K1.out.set_ 5 (max mo a) ⟨arr, en, lo, le', max mo a, su⟩ rfl
      have K2 := Lib.hid hK2.1
      have U2 := Lib.hid (U1.out.trans (hK2.2.mono (S' := fun q => q = k ∨ q = c) (fun _ _ e => .inl e)))
      clear hK2
      go_upto_region 3 with fail
      clear k5 f5
      generalize w.setCell ⟨k, 5, none⟩ (.int .i64 (max mo a)) = w2 at *
      have k6 : w2.cell? ⟨k, 6, none⟩ = some (.int .i64 su) := K2.out.kn.cell 6
      have f6 := K2.out.kn.frozen 6
      have hK3 := K2.out.set_ 6 (su + a) ⟨arr, en, lo, le', max mo a, su + a⟩ rfl
      have K3 := Lib.hid hK3.1
      have U3 := Lib.hid (U2.out.trans (hK3.2.mono (S' := fun q => q = k ∨ q = c) (fun _ _ e => .inl e)))
      clear hK3
      go_upto_region 4 with fail
      clear k6 f6
      generalize w2.setCell ⟨k, 6, none⟩ (.int .i64 (su + a)) = w3 at *
      have k7 : w3.cell? ⟨k, 2, none⟩ = some (.int .i64 en) := K3.out.kn.cell 2
      have f7 := K3.out.kn.frozen 2
      have hK4 := K3.out.set_ 2 (en + 1) ⟨arr, en + 1, lo, le', max mo a, su + a⟩ rfl
      have K4 := Lib.hid hK4.1
      have U4 := Lib.hid (U3.out.trans (hK4.2.mono (S' := fun q => q = k ∨ q = c) (fun _ _ e => .inl e)))
      clear hK4
      go_upto_region 5 with fail
      clear k7 f7
      generalize w3.setCell ⟨k, 2, none⟩ (.int .i64 (en + 1)) = w4 at *
      have k8 : w4.cell? ⟨k, 7, none⟩ = some (.slice (some ⟨c, 0, none⟩) B B) := K4.out.kn.cell 7
      have cq : w4.cell? ⟨c, q, none⟩ = some (.int .i64 y) := K4.out.cell q y HY.out
      have fq := K4.out.frozen q
      have hmn : min dv ((B : Int) - 1) = (q : Int) := hbk.symm
      have hq1 : decide ((q : Int) < (B : Int)) = true := decide_eq_true (by omega)
      have hq2 : decide ((q : Int) < 0) = false := decide_eq_false (by omega)
      clear hbk
      go_region
      go_wp2_with fail
      go_returns
      have hK5 := (K4.out.upd (Upd.refl (fun _ => False) w4).drew (fun h => h) (fun h => h)).setC q hbl (y + 1)
      exact ⟨rfl, hK5.1, U4.out.drew.trans (hK5.2.mono (fun _ _ e => .inr e))⟩
end Go.Proofs.Ythjebjegedgoeaa
