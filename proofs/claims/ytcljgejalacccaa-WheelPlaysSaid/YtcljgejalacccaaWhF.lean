/-
  The wheel: Set.
-/
import Derived.Test.YtcljgejalacccaaWhE
namespace Go.Proofs.Ytcljgejalacccaa
open Go.RowKit
attribute [local go_sem] max_ints min_ints

def setE (now : Nat) (id t : Int) : Int := if 0 ≤ id ∧ id < 256 then (if (now : Int) < t ∧ t ≤ 4611686018427387904 then 0 else 2) else 1
def setA (now : Nat) (at_ : Nat → Int) (id t : Int) : Nat → Int := if setE now id t = 0 then fput at_ id.toNat t else at_
theorem fput_fput {α : Type} (f : Nat → α) (i : Nat) (a b : α) : fput (fput f i a) i b = fput f i b := by
  funext x
  unfold fput
  split <;> rfl

set_option maxRecDepth 100000 in
set_option maxHeartbeats 6400000 in
theorem setC (w : World) (g now : Nat) (at_ : Nat → Int) (N : Nat → Prop) (h : WhS w g now at_ N) (hN : ∀ k, N k → k < w.heap.size) (id t : Int) :
    Calls Try.prog 11 #[.pointer (some ⟨g, 0, none⟩), .int .i64 id, .int .i64 t] w fun e w' => e = .returned (.int .i64 (setE now id t)) ∧ WhS w' g now (setA now at_ id t) N ∧ Upd (fun k => ¬ N k) w w' := by
  have HS := Lib.hid h
  have HN := Lib.hid hN
  have hcm : ∀ k, (w.drewN k).cell? ⟨g, 514, none⟩ = some (.bool true) := fun k => by obtain ⟨V, sl, n, h1, _⟩ := h; exact h1.b.cmade
  have HNone : Hid (∀ k, Calls Try.prog 23 #[.pointer (some ⟨g, 0, none⟩)] (w.drewN k) fun e w' => e = .returned (.bool false) ∧ ∃ m, w' = (w.drewN k).drewN m) := Lib.hid (fun k => noneC _ g (hcm k))
  have hcn : ∀ k, (w.drewN k).cell? ⟨g, 0, none⟩ = some (.int .i64 (now : Int)) := fun k => by obtain ⟨V, sl, n, h1, _⟩ := h; exact h1.b.cnow
  have HOK := Lib.hid h.ok
  clear h hN hcm
  by_cases hid : 0 ≤ id ∧ id < 256
  · obtain ⟨i, rfl⟩ : ∃ i : Nat, id = i := ⟨id.toNat, by omega⟩
    have hi : i < 256 := by omega
    have d0 : decide ((i : Int) < 0) = false := decide_eq_false (by omega)
    have d1 : decide ((256 : Int) ≤ (i : Int)) = false := decide_eq_false (by omega)
    by_cases ht : (now : Int) < t ∧ t ≤ 4611686018427387904
    · have HE : Hid (setE now (i : Int) t = 0) := Lib.hid (by unfold setE; rw [if_pos hid, if_pos ht])
      have HA : Hid (setA now at_ (i : Int) t = fput at_ i t) := Lib.hid (by unfold setA; rw [if_pos HE.out, Int.toNat_natCast])
      have d2 : decide (t ≤ (now : Int)) = false := decide_eq_false (by omega)
      have d3 : decide ((4611686018427387904 : Int) < t) = false := decide_eq_false (by omega)
      have HT := Lib.hid ht
      clear hid ht
      go_enter Try.func11, Try.ntmps11
      go_wp2_with fail
      refine (HNone.out 0).mono ?_
      rintro e w1 ⟨rfl, k1, rfl⟩
      go_wp2_with fail
      refine (cancelC _ g now at_ N (HS.out.drewN _) (fun k hk => HN.out k hk) (i : Int)).mono ?_
      rintro e w2 ⟨rfl, hS2, hU2⟩
      obtain ⟨V, sl, n, hR, hI, hn, hnow⟩ := hS2
      obtain ⟨at1, ha1, ha2, ha3⟩ : ∃ at1, (if (whenE at_ (i : Int)).2 = true then fput at_ (i : Int).toNat (-1) else at_) = at1 ∧ at1 i = -1 ∧ fput at1 i t = fput at_ i t := by
        refine ⟨_, rfl, ?_, ?_⟩
        · split
          · rw [Int.toNat_natCast, fput_eq]
          · rename_i hx
            unfold whenE at hx
            rw [if_pos (by omega), Int.toNat_natCast] at hx
            split at hx
            · assumption
            · exact absurd rfl hx
        · split
          · rw [Int.toNat_natCast, fput_fput]
          · rfl
      rw [ha1] at hR hI hn
      have R2 := Lib.hid hR; have I2 := Lib.hid hI; have N2 := Lib.hid hn; have NW := Lib.hid hnow
      have A2 := Lib.hid ha2; have A3 := Lib.hid ha3
      have U2 : Hid (Upd (fun k => ¬ N k) w w2) := Lib.hid (((Upd.refl _ w).drewN _).trans hU2)
      have HN2 : Hid (∀ k, N k → k < w2.heap.size) := Lib.hid (fun k hk => Nat.lt_of_lt_of_le (HN.out k hk) U2.out.size)
      have a2 := hR.b.cat i hi
      have f2 := hR.b.frozen (257 + i)
      have di0 : decide ((i : Int) < 0) = false := decide_eq_false (by omega)
      have hiz : (i : Int) < 256 := by omega
      have hnb : n ≤ 256 := by rw [hn]; exact cntA_le _ _
      have R3 := Lib.hid (R2.out.setAt i hi t)
      have c3 := R3.out.1.b.cset
      have f3 := R3.out.1.b.frozen 513
      have R4 := Lib.hid (R3.out.1.setCnt (n + 1))
      clear hR hI hn hnow ha1 ha2 ha3 hU2 hcn
      go_wp2_with fail
      refine (layC _ g now (n + 1) V (fput at1 i t) sl N R4.out.1 ?_ i t.toNat hi ?_ ?_ NW.out (fun j hj => ?_)).mono ?_
      · exact fun k hk => Nat.lt_of_lt_of_le (HN2.out k hk) (R3.out.2.trans R4.out.2).size
      · rw [fput_eq]; have := HT.out; omega
      · have := HT.out; omega
      · have := I2.out.len j hj; omega
      rintro e w5 ⟨rfl, ⟨V', hR5⟩, hU5⟩
      have R5 := Lib.hid hR5; have U5 := Lib.hid hU5
      clear hR5 hU5
      go_wp2_with fail
      go_returns
      rw [HE.out, HA.out, ← A3.out]
      exact ⟨rfl, ⟨V', _, n + 1, R5.out, I2.out.lay i hi A2.out t HT.out, by rw [N2.out, cntA_set at1 i 256 hi A2.out t (by have := HT.out; omega)], NW.out⟩, ((U2.out.trans R3.out.2).trans R4.out.2).trans U5.out⟩
    · have HE : Hid (setE now (i : Int) t = 2) := Lib.hid (by unfold setE; rw [if_pos hid, if_neg ht])
      have HA : Hid (setA now at_ (i : Int) t = at_) := Lib.hid (by unfold setA; rw [HE.out, if_neg (by decide)])
      by_cases ht1 : t ≤ (now : Int)
      · have d2 : decide (t ≤ (now : Int)) = true := decide_eq_true ht1
        clear hid ht ht1
        go_enter Try.func11, Try.ntmps11
        go_wp2_with fail
        refine (HNone.out 0).mono ?_
        rintro e w1 ⟨rfl, k1, rfl⟩
        go_wp2_with fail
        go_returns
        rw [HE.out, HA.out]
        exact ⟨rfl, HS.out.drewN _, (Upd.refl _ w).drewN _⟩
      · have d2 : decide (t ≤ (now : Int)) = false := decide_eq_false ht1
        have d3 : decide ((4611686018427387904 : Int) < t) = true := decide_eq_true (by omega)
        clear hid ht ht1
        go_enter Try.func11, Try.ntmps11
        go_wp2_with fail
        refine (HNone.out 0).mono ?_
        rintro e w1 ⟨rfl, k1, rfl⟩
        go_wp2_with fail
        go_returns
        rw [HE.out, HA.out]
        exact ⟨rfl, HS.out.drewN _, (Upd.refl _ w).drewN _⟩
  · have HE : Hid (setE now id t = 1) := Lib.hid (by unfold setE; rw [if_neg hid])
    have HA : Hid (setA now at_ id t = at_) := Lib.hid (by unfold setA; rw [HE.out, if_neg (by decide)])
    by_cases h0 : 0 ≤ id
    · have d0 : decide (id < 0) = false := decide_eq_false (by omega)
      have d1 : decide ((256 : Int) ≤ id) = true := decide_eq_true (by omega)
      clear hid h0
      go_enter Try.func11, Try.ntmps11
      go_wp2_with fail
      refine (HNone.out 0).mono ?_
      rintro e w1 ⟨rfl, k1, rfl⟩
      go_wp2_with fail
      go_returns
      rw [HE.out, HA.out]
      exact ⟨rfl, HS.out.drewN _, (Upd.refl _ w).drewN _⟩
    · have d0 : decide (id < 0) = true := decide_eq_true (by omega)
      clear hid h0
      go_enter Try.func11, Try.ntmps11
      go_wp2_with fail
      refine (HNone.out 0).mono ?_
      rintro e w1 ⟨rfl, k1, rfl⟩
      go_wp2_with fail
      go_returns
      rw [HE.out, HA.out]
      exact ⟨rfl, HS.out.drewN _, (Upd.refl _ w).drewN _⟩
end Go.Proofs.Ytcljgejalacccaa
