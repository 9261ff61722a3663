/-
  The walks of frame.Table: what a table is; none, known, Frame, Offered, Count.
-/
import Derived.Test.YtcgefncddbbnlaaFrameA
namespace Go.Proofs.Ytcgefncddbbnlaa.Fr
open Go.RowKit
attribute [local go_sem] max_ints min_ints

def aheadL (M : Int) (ws : List W3) (p : Int) (F : Nat) : List Int := (List.range (F + 1)).map (fun i => cntO M ws p i)
theorem aheadL_len (M : Int) (ws : List W3) (p : Int) (F : Nat) : (aheadL M ws p F).length = F + 1 := by simp [aheadL]
theorem aheadL_at (M : Int) (ws : List W3) (p : Int) (F i : Nat) (h : i ≤ F) : (aheadL M ws p F)[i]? = some (cntO M ws p i) := by
  unfold aheadL
  rw [List.getElem?_map, List.getElem?_range (by omega)]
  rfl

/-- The table at g. -/
structure Tab (w : World) (base g F : Nat) (M : Int) (ws : List W3) (L : Value) (A : Nat → Value) : Prop where
  b : Blk w g 87 #[L, .int .i64 M, .int .i64 F, A 0, A 1, A 2, A 3, A 4, A 5]
  s : SlR encW w base 79 3 L ws
  a : ∀ p : Nat, p < 6 → SlR encI w base 3 1 (A p) (aheadL M ws p F)
  r : rightB F M ws = true
def TabS (w : World) (base g F : Nat) (M : Int) (ws : List W3) : Prop := ∃ L A, Tab w base g F M ws L A
section
variable {w w' : World} {base g F : Nat} {M : Int} {ws : List W3} {L : Value} {A : Nat → Value}
theorem Tab.still (h : Tab w base g F M ws L A) (hu : Upd (fun _ => False) w w') : Tab w' base g F M ws L A := ⟨h.b.upd hu (fun h => h), h.s.still hu, fun p hp => (h.a p hp).still hu, h.r⟩
theorem TabS.still (h : TabS w base g F M ws) (hu : Upd (fun _ => False) w w') : TabS w' base g F M ws := let ⟨L, A, h⟩ := h; ⟨L, A, h.still hu⟩
theorem TabS.drewN (h : TabS w base g F M ws) (k : Nat) : TabS (w.drewN k) base g F M ws := h.still ((Upd.refl _ w).drewN k)
theorem rightB_parts (h : rightB F M ws = true) : 1 ≤ F ∧ F ≤ 256 ∧ 0 ≤ M ∧ M ≤ 8 ∧ ws.length ≤ 32 ∧ fitsB F 0 ws = true := by
  unfold rightB at h
  simp only [Bool.and_eq_true, decide_eq_true_eq] at h
  exact ⟨by omega, by omega, by omega, by omega, by omega, h.2⟩
theorem TabS.right (h : TabS w base g F M ws) : 1 ≤ F ∧ F ≤ 256 ∧ 0 ≤ M ∧ M ≤ 8 ∧ ws.length ≤ 32 ∧ fitsB F 0 ws = true := let ⟨_, _, h⟩ := h; rightB_parts h.r
/-- A cell of the array: the list of a partition. -/
theorem Tab.arr (h : Tab w base g F M ws L A) (p : Nat) (hp : p < 6) : w.cell? ⟨g, 3 + p, none⟩ = some (A p) := by
  rw [h.b.cell]
  match p, hp with
  | 0, _ => rfl
  | 1, _ => rfl
  | 2, _ => rfl
  | 3, _ => rfl
  | 4, _ => rfl
  | 5, _ => rfl
theorem Tab.ahead (h : Tab w base g F M ws L A) (p : Nat) (hp : p < 6) : ∃ b off cap, w.cell? ⟨g, 3 + p, none⟩ = some (.slice (some ⟨b, off, none⟩) (F + 1) cap) ∧ b < w.heap.size ∧ ∀ i, i ≤ F → w.cell? ⟨b, off + i, none⟩ = some (.int .i64 (cntO M ws p i)) := by
  have ha := h.a p hp
  obtain ⟨b, off, cap, e, _, hb, _, _⟩ := ha.form (by rw [aheadL_len]; omega)
  rw [aheadL_len] at e
  refine ⟨b, off, cap, by rw [h.arr p hp, e], hb, fun i hi => ?_⟩
  rw [e] at ha
  have := ha.cell encI_len i _ (aheadL_at M ws p F i hi) 0 _ rfl
  rwa [Nat.mul_one, Nat.add_zero] at this
end

set_option maxHeartbeats 400000 in
theorem noneT (w : World) (base g F : Nat) (M : Int) (ws : List W3) (h : TabS w base g F M ws) :
    Calls Try.prog 65 #[.pointer (some ⟨g, 0, none⟩)] w fun e w' => e = .returned (.bool false) ∧ ∃ k, w' = w.drewN k := by
  have hr := h.right
  obtain ⟨L, A, h⟩ := h
  have c2 : w.cell? ⟨g, 2, none⟩ = some (.int .i64 F) := h.b.cell 2
  have e0 : ((F : Int) == 0) = false := beq_eq_false_iff_ne.2 (by omega)
  have e1 : ¬ (F = 0) := by omega
  clear h hr
  go_enter Try.func65, Try.ntmps65
  go_wp2
  go_ret
  exact ⟨rfl, 0, rfl⟩

set_option maxHeartbeats 800000 in
theorem knownT (w : World) (base g F : Nat) (M : Int) (ws : List W3) (h : TabS w base g F M ws) (p : Int) (t : Bool) (ht : decide (0 ≤ p ∧ p < 6) = t) :
    Calls Try.prog 44 #[.pointer (some ⟨g, 0, none⟩), .int .i64 p] w fun e w' => e = .returned (.bool t) ∧ ∃ k, w' = w.drewN k := by
  have H := Lib.hid h
  clear h
  by_cases h0 : 0 ≤ p
  · have d0 : decide (0 ≤ p) = true := decide_eq_true h0
    have ht' : decide (p < 6) = t := by rw [← ht]; simp [h0]
    have HT := Lib.hid ht'
    clear ht ht' h0
    go_enter Try.func44, Try.ntmps44
    go_wp2_with fail
    refine (noneT _ base g F M ws H.out).mono ?_
    rintro e w1 ⟨rfl, k1, rfl⟩
    go_wp2_with fail
    go_returns
    exact ⟨by simpa using HT.out, k1, rfl⟩
  · have d0 : decide (0 ≤ p) = false := decide_eq_false h0
    have ht' : t = false := by rw [← ht]; simp [h0]
    subst ht'
    clear ht h0
    go_enter Try.func44, Try.ntmps44
    go_wp2_with fail
    refine (noneT _ base g F M ws H.out).mono ?_
    rintro e w1 ⟨rfl, k1, rfl⟩
    go_wp2_with fail
    go_returns
    exact ⟨rfl, k1, rfl⟩

set_option maxRecDepth 100000 in
set_option maxHeartbeats 800000 in
theorem offeredT (w : World) (base g F : Nat) (M : Int) (ws : List W3) (h : TabS w base g F M ws) (p : Int) :
    Calls Try.prog 41 #[.pointer (some ⟨g, 0, none⟩), .int .i64 p] w fun e w' => e = .returned (.int .i64 (cntO M ws p F)) ∧ ∃ k, w' = w.drewN k := by
  have hr := h.right
  by_cases hp : 0 ≤ p ∧ p < 6
  · obtain ⟨pn, rfl⟩ : ∃ pn : Nat, p = pn := ⟨p.toNat, by omega⟩
    have hp6 : pn < 6 := by omega
    have HP : Hid (decide (0 ≤ (pn : Int) ∧ (pn : Int) < 6) = true) := Lib.hid (decide_eq_true hp)
    obtain ⟨L, A, h1⟩ := id h
    obtain ⟨b, off, cap, ca, hb, hcell⟩ := h1.ahead pn hp6
    have c2 : w.cell? ⟨g, 2, none⟩ = some (.int .i64 F) := h1.b.cell 2
    have cf := hcell F (Nat.le_refl _)
    have hF : F ≤ 256 := hr.2.1
    have hpI : (0 : Int) ≤ (pn : Int) := by omega
    have hpI6 : (pn : Int) < 6 := by omega
    have H := Lib.hid h
    clear h h1 hr hp hcell
    go_enter Try.func41, Try.ntmps41
    go_wp2_with fail
    refine (knownT _ base g F M ws H.out pn true HP.out).mono ?_
    rintro e w1 ⟨rfl, k1, rfl⟩
    go_wp2_with fail
    go_quiet (fail)
    go_wp2_with fail
    go_returns
    exact ⟨rfl, _, by rw [World.drewN_drewN]⟩
  · have HP : Hid (decide (0 ≤ p ∧ p < 6) = false) := Lib.hid (decide_eq_false hp)
    have h0 := cntO_part (M := M) hr.2.2.2.2.2 p hp F
    rw [h0]
    have H := Lib.hid h
    clear h hr hp h0
    go_enter Try.func41, Try.ntmps41
    go_wp2_with fail
    refine (knownT _ base g F M ws H.out p false HP.out).mono ?_
    rintro e w1 ⟨rfl, k1, rfl⟩
    go_wp2_with fail
    go_returns
    exact ⟨rfl, k1, rfl⟩
end Go.Proofs.Ytcgefncddbbnlaa.Fr
