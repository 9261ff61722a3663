/-
  Stats: what must come; StatsTells.
-/
import Derived.Test.YthjebjegedgoeaaStO
import Derived.Test.YthjebjegedgoeaaArgs3
namespace Go.Proofs.Ythjebjegedgoeaa
open Go.RowKit Go.Shelf Go.Maps Go.Sort
attribute [local go_sem] max_ints min_ints mapEq mapEqN makeMp

def jobK : J5 := ⟨0, 0, 3, 5, 1⟩
theorem jobK_wf : jobK.Wf := ⟨by decide, by decide, by decide, by decide, by decide⟩
theorem linesK : linesJ [jobK] = [(0, ⟨1, 1, 0, 3, 3, 3⟩)] := by
  have h : sortT [jobK] = [0] := by rfl
  have h2 : lineJ [jobK] 0 = ⟨1, 1, 0, 3, 3, 3⟩ := by rfl
  unfold linesJ
  rw [h]
  show [lineP [jobK] 0] = _
  unfold lineP
  rw [h2]
theorem cntsK : cntsJ 4 2 [jobK] 0 = [0, 1, 0, 0] := by
  have h : (0 : Int) ∈ [jobK].map J5.t := by simp [jobK]
  unfold cntsJ
  rw [if_pos h]
  rfl
theorem slOne (w : World) (j : J5) (b : Nat) (hB : Blk w b 58 (encJ j).toArray) : SlR encJ w 0 58 5 (.slice (some ⟨b, 0, none⟩) 1 1) [j] := by
  refine ⟨by rfl, .inr ⟨b, 0, 1, _, rfl, Nat.zero_le _, hB, Nat.le_refl _, by decide, by simp [encJ], fun i u hu => ?_⟩⟩
  rw [rws_one] at hu
  simpa using hu

set_option maxRecDepth 100000 in
set_option maxHeartbeats 6400000 in
theorem knowsC (w : World) :
    Calls Try.prog 6 #[] w fun e w' => e = .returned (.bool true) ∧ Upd (fun _ => False) w w' := by
  go_enter Try.func6, Try.ntmps6
  go_wp2_with fail
  refine (newS w 4 2).mono ?_
  rintro e w1 ⟨rfl, hT, hU1⟩
  have e1 : (min (max (4 : Int) 1) 64).toNat = 4 := by decide
  have e2 : (min (max (2 : Int) 1) 1000).toNat = 2 := by decide
  rw [e1, e2] at hT
  have HG : Hid (w.heap.size ≤ w.heap.size + 1) := Lib.hid (by omega)
  obtain ⟨g, hg⟩ : ∃ g, w.heap.size + 1 = g := ⟨_, rfl⟩
  obtain ⟨bm, hbm⟩ : ∃ bm, w.heap.size = bm := ⟨_, rfl⟩
  rw [hg] at hT ⊢
  have ua : Upd (fun _ => False) w1 (w1.alloc (.cells #[.int .i64 0, .int .i64 0, .int .i64 3, .int .i64 5, .int .i64 1] 58)) := (Upd.refl _ w1).alloc _
  have T2 : Hid (TabJ (w1.alloc (.cells #[.int .i64 0, .int .i64 0, .int .i64 3, .int .i64 5, .int .i64 1] 58)) g bm 4 2 [] [] (fun k => k < w.heap.size ∨ k = w1.heap.size)) := Lib.hid (TabJ.new (by
    rw [hbm] at hT
    refine hT.more ua (fun k h1 h2 => ?_)
    rcases h1 with h1 | h1
    · omega
    · omega))
  have U2 := Lib.hid (hU1.trans ua)
  have HSZ : Hid (∀ k, (k < w.heap.size ∨ k = w1.heap.size) → k < (w1.alloc (.cells #[.int .i64 0, .int .i64 0, .int .i64 3, .int .i64 5, .int .i64 1] 58)).heap.size) := Lib.hid (fun k hk => by
    have := hU1.size
    simp
    omega)
  have V2 := Lib.hid (slOne (w1.alloc (.cells #[.int .i64 0, .int .i64 0, .int .i64 3, .int .i64 5, .int .i64 1] 58)) jobK w1.heap.size (Blk.new w1 _ _))
  have HVN : Hid (∀ k, slBlk (.slice (some ⟨w1.heap.size, 0, none⟩) 1 1) = some k → (k < w.heap.size ∨ k = w1.heap.size)) := Lib.hid (fun k hk => .inr (slBlk_eq hk).symm)
  clear hT hU1 ua HG hg hbm e1 e2
  go_wp2_with fail
  refine (addC _ g bm 4 2 [] _ T2.out HSZ.out (by decide) (by decide) (by decide) _ [jobK] V2.out HVN.out (by decide) (by intro j hj; simp at hj; subst hj; exact jobK_wf)).mono ?_
  rintro e w3 ⟨rfl, ⟨ks, hT⟩, hU⟩
  have T3 := Lib.hid hT
  have U3 : Hid (Upd (fun _ => False) w w3) := Lib.hid (((U2.out.mono (S' := fun q => ¬ (q < w.heap.size ∨ q = w1.heap.size)) (fun _ _ h => h.elim)).trans hU).mono (fun k hk h => h (.inl hk)))
  clear hT hU T2 U2 HSZ V2 HVN
  go_wp2_with fail
  refine (linesC w3 g bm 4 2 ks _ [jobK] T3.out (by decide) (by intro j hj; simp at hj; subst hj; exact jobK_wf)).mono ?_
  rintro e w4 ⟨v4, rfl, hv4, hU4⟩
  rw [linesK] at hv4
  have V4 := Lib.hid hv4
  have T4 := Lib.hid (T3.out.still hU4)
  have U4 := Lib.hid (U3.out.trans hU4)
  clear hv4 hU4 T3 U3
  go_wp2_with fail
  refine (countsC w4 g bm 4 2 ks _ [jobK] T4.out (by decide) 0 (by decide)).mono ?_
  rintro e w5 ⟨v5, rfl, hv5, hU5⟩
  rw [cntsK] at hv5
  have V5 := Lib.hid hv5
  have V4b := Lib.hid (V4.out.upd hU5 (fun _ _ h => h))
  have U5 := Lib.hid (U4.out.trans hU5)
  clear hv5 hU5 T4 U4 V4
  obtain ⟨b1, o1, c1, rfl, _, _, _, _⟩ := V4b.out.form (by decide)
  obtain ⟨b2, o2, c2, rfl, _, _, _, _⟩ := V5.out.form (by decide)
  have x0 : w5.cell? ⟨b1, o1, none⟩ = some (.int .i64 0) := by have := V4b.out.cell encL_len 0 _ rfl 0 _ rfl; simpa using this
  have x1 : w5.cell? ⟨b1, o1 + 1, none⟩ = some (.int .i64 1) := by have := V4b.out.cell encL_len 0 _ rfl 1 _ rfl; simpa using this
  have x2 : w5.cell? ⟨b1, o1 + 2, none⟩ = some (.int .i64 1) := by have := V4b.out.cell encL_len 0 _ rfl 2 _ rfl; simpa using this
  have x3 : w5.cell? ⟨b1, o1 + 3, none⟩ = some (.int .i64 0) := by have := V4b.out.cell encL_len 0 _ rfl 3 _ rfl; simpa using this
  have x4 : w5.cell? ⟨b1, o1 + 4, none⟩ = some (.int .i64 3) := by have := V4b.out.cell encL_len 0 _ rfl 4 _ rfl; simpa using this
  have x5 : w5.cell? ⟨b1, o1 + 5, none⟩ = some (.int .i64 3) := by have := V4b.out.cell encL_len 0 _ rfl 5 _ rfl; simpa using this
  have x6 : w5.cell? ⟨b1, o1 + 6, none⟩ = some (.int .i64 3) := by have := V4b.out.cell encL_len 0 _ rfl 6 _ rfl; simpa using this
  have y1 : w5.cell? ⟨b2, o2 + 1, none⟩ = some (.int .i64 1) := slr_int V5.out 1 1 rfl
  go_wp2_with fail
  go_returns
  exact ⟨rfl, U5.out⟩

def listJ (X : Nat → Int × Int × Int × Int × Int) (n : Nat) : List J5 := (List.range n).map (fun k => ⟨(X k).1, (X k).2.1, (X k).2.2.1, (X k).2.2.2.1, (X k).2.2.2.2⟩)
theorem listJ_len (X : Nat → Int × Int × Int × Int × Int) (n : Nat) : (listJ X n).length = n := by simp [listJ]
theorem jrow_of {w : World} {A : Option Addr} {n : Nat} {X : Nat → Int × Int × Int × Int × Int} (h : Rowiiiii w A n X) : JRow w A (listJ X n) := by
  intro i j hj
  unfold listJ at hj
  rw [List.getElem?_map] at hj
  by_cases hi : i < n
  · rw [List.getElem?_range hi] at hj
    simp at hj
    subst hj
    obtain ⟨b, o, h0, h1, h2, h3, h4, h5, h6⟩ := h i hi
    exact ⟨b, o, h0, h1, by simpa using h2, h3, h4, h5, h6⟩
  · rw [List.getElem?_eq_none (by simp; omega)] at hj
    simp at hj
theorem wfb {x : Int} (h : (Lit.int .i64 x).wf = true) : -9223372036854775808 ≤ x ∧ x < 9223372036854775808 := by
  simp [Lit.wf, IntKind.min, IntKind.max, IntKind.bits, IntKind.signed] at h
  omega
theorem listJ_wf {n : Nat} {X : Nat → Int × Int × Int × Int × Int} (h : ∀ k, k < n → (Lit.int .i64 ((X k).1)).wf = true ∧ (Lit.int .i64 ((X k).2.1)).wf = true ∧ (Lit.int .i64 ((X k).2.2.1)).wf = true ∧ (Lit.int .i64 ((X k).2.2.2.1)).wf = true ∧ (Lit.int .i64 ((X k).2.2.2.2)).wf = true) : ∀ j ∈ listJ X n, j.Wf := by
  intro j hj
  unfold listJ at hj
  obtain ⟨k, hk, rfl⟩ := List.mem_map.1 hj
  obtain ⟨h0, _, h2, h3, _⟩ := h k (by simpa using hk)
  obtain ⟨a, b⟩ := wfb h2
  obtain ⟨c, d⟩ := wfb h3
  exact ⟨h0, a, b, c, d⟩
end Go.Proofs.Ythjebjegedgoeaa
