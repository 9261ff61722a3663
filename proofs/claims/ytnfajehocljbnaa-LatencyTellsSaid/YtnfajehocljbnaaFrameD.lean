/-
  The walk of frame.Table: Next.
-/
import Derived.Test.YtnfajehocljbnaaFrameC
import Derived.Test.YtnfajehocljbnaaSearchN
namespace Go.Proofs.Ytnfajehocljbnaa
open Go.RowKit
attribute [local go_sem] max_ints min_ints

theorem cntF_pos (M : Int) (ws : List W3) (p F f : Int) : ∀ n : Nat, 0 < cntF M ws p F f n ↔ ∃ i : Nat, i < n ∧ isO M ws p ((f + i) % F) = true
  | 0 => by simp [cntF]
  | n + 1 => by
    have ih := cntF_pos M ws p F f n
    have hle := cntF_le M ws p F f n
    rw [cntF]
    constructor
    · intro h
      by_cases hb : isO M ws p ((f + n) % F) = true
      · exact ⟨n, by omega, hb⟩
      · rw [if_neg hb] at h
        obtain ⟨i, hi, h1⟩ := ih.1 (by omega)
        exact ⟨i, by omega, h1⟩
    · rintro ⟨i, hi, h1⟩
      by_cases e : i = n
      · subst e
        rw [if_pos h1]
        omega
      · have := ih.2 ⟨i, by omega, h1⟩
        split <;> omega
/-- What Next answers. -/
def NextIs (M : Int) (ws : List W3) (p : Int) (F : Nat) (f : Int) (x : Int) (b : Bool) : Prop :=
  (∃ k : Nat, k < F ∧ isO M ws p ((f + k) % F) = true ∧ (∀ i : Nat, i < k → isO M ws p ((f + i) % F) = false) ∧ x = f + k ∧ b = true) ∨
  ((∀ i : Nat, i < F → isO M ws p ((f + i) % F) = false) ∧ x = 0 ∧ b = false)
theorem NextIs.eq {M : Int} {ws : List W3} {p : Int} {F : Nat} {f x y : Int} {b c : Bool} (h : NextIs M ws p F f x b) (h' : NextIs M ws p F f y c) : x = y ∧ b = c := by
  rcases h with ⟨k, h1, h2, h3, rfl, rfl⟩ | ⟨h1, rfl, rfl⟩
  · rcases h' with ⟨k', h1', h2', h3', rfl, rfl⟩ | ⟨h1', rfl, rfl⟩
    · have : k = k' := by
        rcases Nat.lt_trichotomy k k' with h | h | h
        · rw [h3' k h] at h2; cases h2
        · exact h
        · rw [h3 k' h] at h2'; cases h2'
      subst this
      exact ⟨rfl, rfl⟩
    · rw [h1' k h1] at h2; cases h2
  · rcases h' with ⟨k', h1', h2', h3', rfl, rfl⟩ | ⟨h1', rfl, rfl⟩
    · rw [h1 k' h1'] at h2'; cases h2'
    · exact ⟨rfl, rfl⟩

set_option maxRecDepth 100000 in
set_option maxHeartbeats 800000 in
theorem nextc (w : World) (base g F : Nat) (M : Int) (ws : List W3) (h : TabS w base g F M ws) (p f : Int) (b1 b2 b3 : Nat) (h1 : w.cell? ⟨b1, 0, none⟩ = some (.pointer (some ⟨g, 0, none⟩)))
    (h2 : w.cell? ⟨b2, 0, none⟩ = some (.int .i64 p)) (h3 : w.cell? ⟨b3, 0, none⟩ = some (.int .i64 f)) (n : Nat) (hn : n < F) :
    Calls Try.prog 52 #[.int .i64 n, .pointer (some ⟨b1, 0, none⟩), .pointer (some ⟨b2, 0, none⟩), .pointer (some ⟨b3, 0, none⟩)] w fun e w' => e = .returned (.bool (decide (0 < cntF M ws p F f (n + 1)))) ∧ Upd (fun _ => False) w w' := by
  have hr := h.right
  have H := Lib.hid h
  have hF2 : F ≤ 256 := hr.2.1
  clear h hr
  have hm : min (max ((n : Int) + 1) 0) 4611686018427387904 = ((n + 1 : Nat) : Int) := by omega
  have HM := Lib.hid hm
  clear hm
  obtain ⟨c, hc⟩ : ∃ c, cntF M ws p F f (n + 1) = c := ⟨_, rfl⟩
  obtain ⟨b, hb⟩ : ∃ b, decide (0 < c) = b := ⟨_, rfl⟩
  have HC := Lib.hid hc
  rw [hc, hb]
  have HB := Lib.hid hb
  clear hc hb
  go_enter Try.func52, Try.ntmps52
  go_wp2_with fail
  refine (countT _ base g F M ws H.out p f _ _ HM.out).mono ?_
  rintro e w1 ⟨rfl, k1, rfl⟩
  rw [HC.out]
  go_wp2_with fail
  go_returns
  exact ⟨ret_bool HB.out, (Upd.refl _ w).drewN _⟩

set_option maxRecDepth 100000 in
set_option maxHeartbeats 1600000 in
theorem nextT (w : World) (base g F : Nat) (M : Int) (ws : List W3) (h : TabS w base g F M ws) (p f f' : Int) (hf : min f 4611686018427387904 = f') (hf0 : -9223372036854775808 ≤ f) :
    Calls Try.prog 42 #[.pointer (some ⟨g, 0, none⟩), .int .i64 p, .int .i64 f] w fun e w' => ∃ x b, e = .returned (.tuple #[.int .i64 x, .bool b]) ∧ NextIs M ws p F f' x b ∧ Upd (fun _ => False) w w' := by
  have hmf : ∀ (fn : Fn) (first cap : Array Value) (w : World), (Instr.makeFunc fn first cap).run Try.prog w = .ok (.func fn first cap) w := fun _ _ _ _ => rfl
  have hr := h.right
  have hF1 := hr.1
  have hF2 : F ≤ 256 := hr.2.1
  have hf1 : -9223372036854775808 ≤ f' ∧ f' ≤ 4611686018427387904 := by omega
  have H := Lib.hid h
  have HF := Lib.hid hf
  have c2' : w.cell? ⟨g, 2, none⟩ = some (.int .i64 F) := by obtain ⟨L, A, h1⟩ := h; exact h1.b.cell 2
  have hg : g < w.heap.size := by obtain ⟨L, A, h1⟩ := h; exact h1.b.lt
  clear h hr hf
  have HFR := Lib.hid (cntF_frame M ws p F hF1 f')
  obtain ⟨c, hc⟩ : ∃ c, cntO M ws p F = c := ⟨_, rfl⟩
  obtain ⟨b, hb⟩ : ∃ b, (c == 0) = b := ⟨_, rfl⟩
  have HC := Lib.hid hc
  have HB := Lib.hid hb
  have h0 := cntO_le M ws p F
  rw [hc] at h0
  obtain ⟨W, hW⟩ : ∃ W, ((w.alloc (.cells #[.pointer (some ⟨g, 0, none⟩)] 25)).alloc (.cells #[.int .i64 p] 3)).alloc (.cells #[.int .i64 f] 3) = W := ⟨_, rfl⟩
  have UA : Upd (fun _ => False) w W := hW ▸ (((Upd.refl (fun _ => False) w).alloc (.cells #[.pointer (some ⟨g, 0, none⟩)] 25)).alloc (.cells #[.int .i64 p] 3)).alloc (.cells #[.int .i64 f] 3)
  have B1 : Blk W w.heap.size 25 #[.pointer (some ⟨g, 0, none⟩)] := hW ▸ ((Blk.new w 25 #[.pointer (some ⟨g, 0, none⟩)]).alloc (.cells #[.int .i64 p] 3)).alloc (.cells #[.int .i64 f] 3)
  have B2 : Blk W (w.heap.size + 1) 3 #[.int .i64 p] := by
    have := (Blk.new (w.alloc (.cells #[.pointer (some ⟨g, 0, none⟩)] 25)) 3 #[.int .i64 p]).alloc (.cells #[.int .i64 f] 3)
    rw [hW] at this
    simpa using this
  have B3 : Blk W (w.heap.size + 1 + 1) 3 #[.int .i64 f] := by
    have := Blk.new ((w.alloc (.cells #[.pointer (some ⟨g, 0, none⟩)] 25)).alloc (.cells #[.int .i64 p] 3)) 3 #[.int .i64 f]
    rw [hW] at this
    simpa using this
  have H1 := Lib.hid (H.out.still UA)
  have c1 : W.cell? ⟨w.heap.size, 0, none⟩ = some (.pointer (some ⟨g, 0, none⟩)) := B1.cell 0
  have c2 : W.cell? ⟨w.heap.size + 1, 0, none⟩ = some (.int .i64 p) := B2.cell 0
  have c3 : W.cell? ⟨w.heap.size + 1 + 1, 0, none⟩ = some (.int .i64 f) := B3.cell 0
  have f3 : W.frozen? ⟨w.heap.size + 1 + 1, 0, none⟩ = false := B3.frozen 0
  have B1 := Lib.hid B1; have B2 := Lib.hid B2; have B3 := Lib.hid B3; have UA := Lib.hid UA
  have cF : W.cell? ⟨g, 2, none⟩ = some (.int .i64 F) := (UA.out.cell (p := ⟨g, 2, none⟩) hg (fun h => h)).trans c2'
  go_enter Try.func42, Try.ntmps42
  go_upto_region 1 with fail
  clear hW
  go_wp2_with fail
  refine (offeredTc _ base g F M ws H1.out p c HC.out).mono ?_
  rintro e w1 ⟨rfl, k1, rfl⟩
  cases b
  · have hc0 : 0 < c := by
      have : ¬ c = 0 := fun e => by have := HB.out; rw [e] at this; cases this
      omega
    go_wp2_with fail
    rw [HF.out]
    have UX : Upd (fun _ => False) w ((W.drewN k1).setCell ⟨w.heap.size + 1 + 1, 0, none⟩ (.int .i64 f')) := (UA.out.drewN k1).setCell (p := ⟨w.heap.size + 1 + 1, 0, none⟩) (fun h => by simp only at h; omega) _
    have X1 : Blk ((W.drewN k1).setCell ⟨w.heap.size + 1 + 1, 0, none⟩ (.int .i64 f')) w.heap.size 25 #[.pointer (some ⟨g, 0, none⟩)] := (B1.out.drewN k1).far (p := ⟨w.heap.size + 1 + 1, 0, none⟩) (fun e => by simp only at e; omega) _
    have X2 : Blk ((W.drewN k1).setCell ⟨w.heap.size + 1 + 1, 0, none⟩ (.int .i64 f')) (w.heap.size + 1) 3 #[.int .i64 p] := (B2.out.drewN k1).far (p := ⟨w.heap.size + 1 + 1, 0, none⟩) (fun e => by simp only at e; omega) _
    have X3 : Blk ((W.drewN k1).setCell ⟨w.heap.size + 1 + 1, 0, none⟩ (.int .i64 f')) (w.heap.size + 1 + 1) 3 #[.int .i64 f'] := (B3.out.drewN k1).set_ 0 _
    clear c1 c2 c3 f3 cF
    generalize (W.drewN k1).setCell ⟨w.heap.size + 1 + 1, 0, none⟩ (.int .i64 f') = W2 at *
    refine (searchN W2 F (by omega) _ _ _ (fun i => decide (0 < cntF M ws p F f' (i + 1))) ?_ ?_).mono ?_
    · intro i j hij hj hi
      have h1 := of_decide_eq_true hi
      obtain ⟨x, hx, h2⟩ := (cntF_pos M ws p F f' (i + 1)).1 h1
      exact decide_eq_true ((cntF_pos M ws p F f' (j + 1)).2 ⟨x, by omega, h2⟩)
    · intro i wr hi hU
      exact nextc wr base g F M ws (H.out.still (UX.trans hU)) p f' _ _ _ ((X1.upd hU (fun h => h)).cell 0) ((X2.upd hU (fun h => h)).cell 0) ((X3.upd hU (fun h => h)).cell 0) i hi
    · rintro e w2 ⟨k, hk, rfl, hk1, hk2, hU⟩
      have c3 : w2.cell? ⟨w.heap.size + 1 + 1, 0, none⟩ = some (.int .i64 f') := (X3.upd hU (fun h => h)).cell 0
      have hkF : k < F := by
        rcases Nat.lt_or_ge k F with h | h
        · exact h
        · exfalso
          have := hk1 (F - 1) (by omega)
          rw [show F - 1 + 1 = F by omega, HFR.out, HC.out] at this
          exact of_decide_eq_false this hc0
      have hw1 : IntKind.i64.wrap (f' + (k : Int)) = f' + k := wrap_in _ (by omega) (by omega)
      have hw2 : wrap64 (f' + (k : Int)) = f' + k := by unfold wrap64; omega
      have HN : Hid (NextIs M ws p F f' (f' + k) true) := Lib.hid (by
        have h2 := of_decide_eq_true (hk2 k (Nat.le_refl _) hkF)
        obtain ⟨i, hi, h3⟩ := (cntF_pos M ws p F f' (k + 1)).1 h2
        have h4 : ∀ i : Nat, i < k → isO M ws p ((f' + i) % F) = false := fun i hi => by
          have := of_decide_eq_false (hk1 i hi)
          cases hb : isO M ws p ((f' + i) % F) with
          | false => rfl
          | true => exact absurd ((cntF_pos M ws p F f' (i + 1)).2 ⟨i, by omega, hb⟩) this
        refine .inl ⟨k, hkF, ?_, h4, rfl, rfl⟩
        by_cases e : i = k
        · exact e ▸ h3
        · rw [h4 i (by omega)] at h3; cases h3)
      have UF := Lib.hid (UX.trans hU)
      clear hk1 hk2 hU UX X1 X2 X3
      go_wp2_with fail
      go_returns
      exact ⟨_, _, rfl, HN.out, UF.out⟩
  · have hc0 : c = 0 := eq_of_beq HB.out
    have HN : Hid (NextIs M ws p F f' 0 false) := Lib.hid (.inr ⟨fun i hi => by
      cases hb : isO M ws p ((f' + i) % F) with
      | false => rfl
      | true =>
        have := (cntF_pos M ws p F f' F).2 ⟨i, hi, hb⟩
        rw [HFR.out, HC.out] at this
        omega, rfl, rfl⟩)
    go_wp2_with fail
    go_returns
    exact ⟨_, _, rfl, HN.out, UA.out.drewN _⟩
end Go.Proofs.Ytnfajehocljbnaa
