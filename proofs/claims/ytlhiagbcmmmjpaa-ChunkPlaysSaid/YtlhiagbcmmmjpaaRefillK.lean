/-
  refill: Due, what must come, and the law of no budget.
-/
import Derived.Test.YtlhiagbcmmmjpaaRefillN
namespace Go.Proofs.Ytlhiagbcmmmjpaa
open Go.RowKit

set_option maxRecDepth 100000 in
set_option maxHeartbeats 800000 in
theorem dueB (w : World) (base g : Nat) (L : Value) (p : Bp) (x : Int × Int) (t : List (Int × Int)) (h : Bud w base g L p (x :: t)) (hC : 1 ≤ p.C) (hT : 1 ≤ p.T) (hT2 : p.T ≤ 1000) (hx0 : 0 ≤ x.1) (hx1 : x.1 ≤ 4611686018427387904) :
    Calls Try.prog 20 #[.pointer (some ⟨g, 0, none⟩)] w fun e w' => e = .returned (.tuple #[.int .i64 (x.1 + p.T), .bool true]) ∧ ∃ k, w' = w.drewN k := by
  have hs := h.s
  obtain ⟨b, off, cap, rfl, _, _, _, _⟩ := hs.form (by simp)
  have c0 : w.cell? ⟨g, 0, none⟩ = some (.slice (some ⟨b, off, none⟩) (x :: t).length cap) := h.b.cell 0
  have c3 : w.cell? ⟨g, 3, none⟩ = some (.int .i64 p.T) := h.b.cell 3
  have h1 : w.cell? ⟨b, off, none⟩ = some (.int .i64 x.1) := hs.cell 0 (.int .i64 x.1) rfl
  have hlen : (x :: t).length = t.length + 1 := rfl
  rw [hlen] at c0
  have H := Lib.hid h; clear h hs hlen
  have e0 : (((t.length + 1 : Nat) : Int) == 0) = false := beq_eq_false_iff_ne.2 (by omega)
  go_enter Try.func20, Try.ntmps20
  go_wp2_with fail
  refine (noneB _ base g _ p _ H.out hC).mono ?_
  rintro e w1 ⟨rfl, k1, rfl⟩
  have d0 : (w.drewN k1).cell? ⟨g, 0, none⟩ = some (.slice (some ⟨b, off, none⟩) (t.length + 1) cap) := c0
  have d3 : (w.drewN k1).cell? ⟨g, 3, none⟩ = some (.int .i64 p.T) := c3
  have d1 : (w.drewN k1).cell? ⟨b, off, none⟩ = some (.int .i64 x.1) := h1
  have HW : Hid (∃ k, w.drewN k1 = w.drewN k) := Lib.hid ⟨k1, rfl⟩
  clear c0 c3 h1 H
  generalize w.drewN k1 = W at *
  go_wp2_with fail
  go_quiet (fail)
  go_wp2_with fail
  go_returns
  obtain ⟨k, rfl⟩ := HW.out
  exact ⟨rfl, _, by rw [World.drewN_drewN]⟩

theorem Bud.below {a w w' : World} {base g : Nat} {L : Value} {p : Bp} {xs : List (Int × Int)} (h : Bud w base g L p xs) (hB : Below base a w) (hbase : base ≤ w.heap.size) (hg : base ≤ g) (hu : Upd (fun k => k = g ∨ slBlk L = some k) w w') : Below base a w' :=
  Below.upd hB hu hbase (fun k hk => hk.elim (fun e => by rw [e]; exact hg) (fun e => (h.s.blk k e).1))

set_option maxRecDepth 100000 in
set_option maxHeartbeats 3200000 in
theorem knows18 (w : World) : Calls Try.prog 11 #[] w fun e w' => e = .returned (.bool true) ∧ Below w.heap.size w w' := by
  go_enter Try.func11, Try.ntmps11
  go_wp2_with fail
  refine (newB_yes _ w.heap.size true 3 10 0 (by decide) (by omega) (by omega)).mono ?_
  rintro e w1 ⟨g, rfl, hg, hb, hU⟩
  have B1 := Lib.hid hb; have V1 := Lib.hid (Upd.below hU (Nat.le_refl _) (fun _ h => h.elim)); clear hb
  have s1 := Lib.hid hU.size; clear hU
  go_wp2_with fail
  refine (goB _ w.heap.size g _ _ [] B1.out s1.out (fun _ h => by cases h) (by simp) (by decide) (by decide) (by decide) (by decide) (by decide) (by decide) 8 (by decide) (by decide) (by decide) true).mono ?_
  rintro e w2 ⟨rfl, L2, hb, hl, hU⟩
  have V2 := Lib.hid (B1.out.below V1.out s1.out hg hU)
  have s2 := Lib.hid (Nat.le_trans s1.out hU.size)
  have hb' : Bud w2 w.heap.size g L2 ⟨true, 3, 10, 0, 8, 0, false⟩ [(8, 3)] := hb
  have B2 := Lib.hid hb'; clear hb hl hU hb'
  go_wp2_with fail
  refine (useB _ w.heap.size g _ _ [(8, 3)] B2.out (by decide) (by intro x hx; simp at hx; subst hx; decide) (by simp) true rfl).mono ?_
  rintro e w3 ⟨rfl, L3, hb, hl, hU⟩
  have V3 := Lib.hid (B2.out.below V2.out s2.out hg hU)
  have s3 := Lib.hid (Nat.le_trans s2.out hU.size)
  have hb' : Bud w3 w.heap.size g L3 ⟨true, 3, 10, 0, 8, 0, false⟩ [(8, 2)] := hb
  have B3 := Lib.hid hb'; clear hb hl hU hb'
  go_wp2_with fail
  refine (useB _ w.heap.size g _ _ [(8, 2)] B3.out (by decide) (by intro x hx; simp at hx; subst hx; decide) (by simp) true rfl).mono ?_
  rintro e w4 ⟨rfl, L4, hb, hl, hU⟩
  have V4 := Lib.hid (B3.out.below V3.out s3.out hg hU)
  have s4 := Lib.hid (Nat.le_trans s3.out hU.size)
  have hb' : Bud w4 w.heap.size g L4 ⟨true, 3, 10, 0, 8, 0, false⟩ [(8, 1)] := hb
  have B4 := Lib.hid hb'; clear hb hl hU hb'
  go_wp2_with fail
  refine (useB _ w.heap.size g _ _ [(8, 1)] B4.out (by decide) (by intro x hx; simp at hx; subst hx; decide) (by simp) true rfl).mono ?_
  rintro e w5 ⟨rfl, L5, hb, hl, hU⟩
  have V5 := Lib.hid (B4.out.below V4.out s4.out hg hU)
  have s5 := Lib.hid (Nat.le_trans s4.out hU.size)
  have hb' : Bud w5 w.heap.size g L5 ⟨true, 3, 10, 0, 8, 0, false⟩ [] := hb
  have B5 := Lib.hid hb'; clear hb hl hU hb'
  go_wp2_with fail
  refine (useB _ w.heap.size g _ _ [] B5.out (by decide) (fun _ h => by cases h) (by simp) false rfl).mono ?_
  rintro e w6 ⟨rfl, L6, hb, hl, hU⟩
  have V6 := Lib.hid (B5.out.below V5.out s5.out hg hU)
  have s6 := Lib.hid (Nat.le_trans s5.out hU.size)
  have hb' : Bud w6 w.heap.size g L6 ⟨true, 3, 10, 0, 8, 0, false⟩ [] := hb
  have B6 := Lib.hid hb'; clear hb hl hU hb'
  go_wp2_with fail
  refine (goB _ w.heap.size g _ _ [] B6.out s6.out (fun _ h => by cases h) (by simp) (by decide) (by decide) (by decide) (by decide) (by decide) (by decide) 10 (by decide) (by decide) (by decide) true).mono ?_
  rintro e w7 ⟨rfl, L7, hb, hl, hU⟩
  have V7 := Lib.hid (B6.out.below V6.out s6.out hg hU)
  have s7 := Lib.hid (Nat.le_trans s6.out hU.size)
  have hb' : Bud w7 w.heap.size g L7 ⟨true, 3, 10, 0, 10, 0, false⟩ [(10, 3)] := hb
  have B7 := Lib.hid hb'; clear hb hl hU hb'
  go_wp2_with fail
  refine (dueB _ w.heap.size g _ _ _ _ B7.out (by decide) (by decide) (by decide) (by decide) (by decide)).mono ?_
  rintro e w8 ⟨rfl, k8, rfl⟩
  go_wp2_with fail
  refine (liveB _ w.heap.size g _ _ _ (B7.out.drewN _) (by decide) (by simp)).mono ?_
  rintro e w9 ⟨v9, rfl, hs9, hU9⟩
  obtain ⟨A9, cap9, rfl⟩ := hs9.shape
  have B9 := Lib.hid ((B7.out.drewN _).still' hU9)
  have V9 := Lib.hid (Below.upd (below_drewN V7.out _) hU9 s7.out (fun _ h => h.elim))
  clear hs9 hU9
  go_wp2_with fail
  refine (freeB _ w.heap.size g _ _ _ B9.out (by decide)).mono ?_
  rintro e w10 ⟨rfl, k10, rfl⟩
  go_wp2_with fail
  go_returns
  exact ⟨by simp, below_drewN V9.out _⟩
end Go.Proofs.Ytlhiagbcmmmjpaa
