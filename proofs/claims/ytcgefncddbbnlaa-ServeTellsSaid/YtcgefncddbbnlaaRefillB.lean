/-
  The walks of refill.Budget that write.
-/
import Derived.Test.YtcgefncddbbnlaaRefill
namespace Go.Proofs.Ytcgefncddbbnlaa.Rf
open Go.RowKit Go.Proofs.Ytcgefncddbbnlaa.Cf

def takeL : List (Int × Int) → List (Int × Int)
  | [] => []
  | x :: t => if x.2 = 1 then t else (x.1, x.2 - 1) :: t

set_option maxHeartbeats 400000 in
theorem takeB_no (w : World) (base g : Nat) (L : Value) (p : Bp) (h : Bud w base g L p []) :
    Calls Try.prog 110 #[.pointer (some ⟨g, 0, none⟩)] w fun e w' => e = .returned (.bool false) ∧ ∃ k, w' = w.drewN k := by
  obtain ⟨A, cap, rfl⟩ := h.s.shape
  have c0 := h.b.cell 0
  simp [Bp.cells] at c0
  clear h
  go_enter Try.func110, Try.ntmps110
  go_wp2
  go_ret
  exact ⟨rfl, 0, rfl⟩

set_option maxRecDepth 100000 in
set_option maxHeartbeats 1600000 in
theorem takeB_yes (w : World) (base g : Nat) (L : Value) (p : Bp) (x : Int × Int) (t : List (Int × Int)) (h : Bud w base g L p (x :: t)) (hx1 : 1 ≤ x.2) (hx2 : x.2 ≤ 1000) (hn : t.length ≤ 1000) :
    Calls Try.prog 110 #[.pointer (some ⟨g, 0, none⟩)] w fun e w' => e = .returned (.bool true) ∧ ∃ L', Bud w' base g L' p (takeL (x :: t)) ∧ slBlk L' = slBlk L ∧ Upd (fun k => k = g ∨ slBlk L = some k) w w' := by
  have hlen : (x :: t).length = t.length + 1 := rfl
  have hs := h.s
  rw [hlen] at hs
  obtain ⟨b, off, cap, rfl, _, _, hncap, _⟩ := hs.form (by omega)
  have hne : b ≠ g := hs.ne_ h.b (by decide) b rfl
  have c0 := h.b.cell 0
  have f0 := h.b.frozen 0
  simp [Bp.cells] at c0
  have h1 := hs.cell 1 (.int .i64 x.2) rfl
  have ff := hs.frozen (off + 1)
  have hset := hs.set_ 1 (by omega) (.int .i64 (x.2 - 1))
  have hfar := fun u => h.b.far (p := ⟨b, off + 1, none⟩) (Ne.symm hne) u
  have HSET := Lib.hid hset; have HFAR := Lib.hid hfar; clear hset hfar
  have HS := Lib.hid hs; clear hs h
  obtain ⟨x1, x2⟩ := x
  dsimp only at *
  have e0 : (((t.length + 1 : Nat) : Int) == 0) = false := beq_eq_false_iff_ne.2 (by omega)
  by_cases hx : x2 = 1
  · subst hx
    have ht : takeL ((x1, 1) :: t) = t := by simp [takeL]
    rw [ht]
    by_cases hcap : cap = 1
    · subst hcap
      have htail := HSET.out.tail1
      obtain ⟨h00, _, htail⟩ := htail
      have htn : t = [] := List.eq_nil_of_length_eq_zero h00
      subst htn
      have HT := Lib.hid htail; clear htail h00 hncap
      go_enter Try.func110, Try.ntmps110
      go_wp2
      go_ret
      refine ⟨rfl, .slice (some ⟨b, off, none⟩) 0 0, ⟨?_, ?_⟩, rfl, ?_⟩
      · have := (HFAR.out (.int .i64 0)).set_ 0 (.slice (some ⟨b, off, none⟩) 0 0)
        simpa [Bp.cells] using this
      · exact HT.out.upd ((Upd.refl (fun k => k = g) _).setCell (p := ⟨g, 0, none⟩) (fun _ => rfl) _) (fun k hk e => hne ((show b = k by simpa [slBlk] using hk).trans e))
      · exact ((Upd.refl _ w).setCell (p := ⟨b, off + 1, none⟩) (fun _ => .inr rfl) _).setCell (p := ⟨g, 0, none⟩) (fun _ => .inl rfl) _
    · have HT := Lib.hid (HSET.out.tail (ys := chk t) rfl hcap)
      have HCAP := Lib.hid hcap
      go_enter Try.func110, Try.ntmps110
      go_wp2
      go_ret
      refine ⟨rfl, .slice (some ⟨b, off + 2, none⟩) t.length (cap - 1), ⟨?_, ?_⟩, rfl, ?_⟩
      · have := (HFAR.out (.int .i64 0)).set_ 0 (.slice (some ⟨b, off + 2, none⟩) t.length (cap - 1))
        simpa [Bp.cells] using this
      · exact HT.out.upd ((Upd.refl (fun k => k = g) _).setCell (p := ⟨g, 0, none⟩) (fun _ => rfl) _) (fun k hk e => hne ((show b = k by simpa [slBlk] using hk).trans e))
      · exact ((Upd.refl _ w).setCell (p := ⟨b, off + 1, none⟩) (fun _ => .inr rfl) _).setCell (p := ⟨g, 0, none⟩) (fun _ => .inl rfl) _
  · have ht : takeL ((x1, x2) :: t) = (x1, x2 - 1) :: t := by simp [takeL, hx]
    rw [ht]
    have e1 : (x2 - 1 == 0) = false := beq_eq_false_iff_ne.2 (by omega)
    clear hx
    go_enter Try.func110, Try.ntmps110
    go_wp2
    go_ret
    exact ⟨rfl, _, ⟨HFAR.out _, HSET.out⟩, rfl, (Upd.refl _ w).setCell (p := ⟨b, off + 1, none⟩) (fun _ => .inr rfl) _⟩
end Go.Proofs.Ytcgefncddbbnlaa.Rf
