/-
  refill.Budget: Use, Done, Stop, Resume, Reset, Free, Due.
-/
import Derived.Test.YtcgefncddbbnlaaRefillC
namespace Go.Proofs.Ytcgefncddbbnlaa.Rf
open Go.RowKit Go.Proofs.Ytcgefncddbbnlaa.Cf

theorem takeB_any (w : World) (base g : Nat) (L : Value) (p : Bp) (xs : List (Int × Int)) (h : Bud w base g L p xs) (hf : fineL xs) (hn : xs.length ≤ 1000) (b : Bool) (hb : decide (0 < xs.length) = b) :
    Calls Try.prog 110 #[.pointer (some ⟨g, 0, none⟩)] w fun e w' => e = .returned (.bool b) ∧ ∃ L', Bud w' base g L' p (takeL xs) ∧ slBlk L' = slBlk L ∧ Upd (fun k => k = g ∨ slBlk L = some k) w w' := by
  subst hb
  cases xs with
  | nil =>
    refine (takeB_no w base g L p h).mono ?_
    rintro e w' ⟨rfl, k, rfl⟩
    exact ⟨rfl, L, h.drewN k, rfl, (Upd.refl _ w).drewN k⟩
  | cons x t =>
    have hx := hf x (List.mem_cons_self ..)
    refine (takeB_yes w base g L p x t h hx.1 hx.2 (by simp at hn; omega)).mono ?_
    rintro e w' ⟨rfl, h2⟩
    exact ⟨by simp, h2⟩

set_option maxRecDepth 100000 in
set_option maxHeartbeats 800000 in
theorem useB (w : World) (base g : Nat) (L : Value) (p : Bp) (xs : List (Int × Int)) (h : Bud w base g L p xs) (hC : 1 ≤ p.C) (hf : fineL xs) (hn : xs.length ≤ 1000) (b : Bool) (hb : decide (0 < xs.length) = b) :
    Calls Try.prog 106 #[.pointer (some ⟨g, 0, none⟩)] w fun e w' => e = .returned (.bool b) ∧ ∃ L', Bud w' base g L' p (takeL xs) ∧ slBlk L' = slBlk L ∧ Upd (fun k => k = g ∨ slBlk L = some k) w w' := by
  have H := Lib.hid h; clear h
  have HB := Lib.hid hb; clear hb
  have HF := Lib.hid hf; clear hf
  go_enter Try.func106, Try.ntmps106
  go_wp2_with fail
  refine (noneB _ base g L p xs H.out hC).mono ?_
  rintro e w1 ⟨rfl, k1, rfl⟩
  go_wp2_with fail
  refine (takeB_any _ base g L p xs (H.out.drewN _) HF.out hn b HB.out).mono ?_
  rintro e w2 ⟨rfl, L', h2, h3, h4⟩
  have H2 := Lib.hid h2; have H3 := Lib.hid h3; have H4 := Lib.hid h4
  clear h2 h3 h4
  go_wp2_with fail
  go_returns
  exact ⟨rfl, L', H2.out, H3.out, ((Upd.refl _ w).drewN _).trans H4.out⟩

set_option maxRecDepth 100000 in
set_option maxHeartbeats 1600000 in
theorem doneB (w : World) (base g : Nat) (L : Value) (p : Bp) (xs : List (Int × Int)) (h : Bud w base g L p xs) (hC : 1 ≤ p.C) (hf : fineL xs) (hn : xs.length ≤ 1000) (hf0 : -1000000 ≤ p.free) (hf1 : p.free ≤ 1000000) :
    Calls Try.prog 103 #[.pointer (some ⟨g, 0, none⟩)] w fun e w' => e = .returned (.tuple #[]) ∧ Bud w' base g (.slice none 0 0) { p with free := p.free + sumL xs } [] ∧ Upd (fun k => k = g) w w' := by
  have hs0 : 0 ≤ sumL xs := by have := sumL_bound xs hf; omega
  have hs1 : sumL xs ≤ 1000000 := by have := sumL_bound xs hf; omega
  have H := Lib.hid h; clear h
  have HF := Lib.hid hf; clear hf
  go_enter Try.func103, Try.ntmps103
  go_wp2_with fail
  refine (noneB _ base g L p xs H.out hC).mono ?_
  rintro e w1 ⟨rfl, k1, rfl⟩
  have U1 := Lib.hid ((Upd.refl (fun k => k = g) w).drewN k1)
  have H1 := Lib.hid (H.out.drewN k1)
  clear H
  generalize w.drewN k1 = W at *
  have c6 : W.cell? ⟨g, 6, none⟩ = some (.int .i64 p.free) := H1.out.b.cell 6
  go_wp2_with fail
  go_region_law (go_simp
                 go_at_call 108
                 refine (leftB _ base g L p xs (H1.out.drewN 1) HF.out (by omega)).mono ?_
                 rintro e w3 ⟨rfl, hU3⟩
                 have H3 := Lib.hid ((H1.out.drewN 1).still' hU3)
                 have c6' : w3.cell? ⟨g, 6, none⟩ = some (.int .i64 p.free) := H3.out.b.cell 6
                 have f6' := H3.out.b.frozen 6
                 have U3 := Lib.hid hU3
                 clear hU3)
  all_goals
    have h4 := H3.out.setFree (p.free + sumL xs)
    have c0 : (w3.setCell ⟨g, 6, none⟩ (.int .i64 (p.free + sumL xs))).cell? ⟨g, 0, none⟩ = some L := h4.b.cell 0
    have f0 := h4.b.frozen 0
    have H4 := Lib.hid h4
    clear h4
    go_wp2_with fail
    go_returns
    exact ⟨rfl, Bud.setL H4.out.b (Sl.nil _ _ _ _), (((U1.out.drewN 1).trans (U3.out.mono (fun _ _ h => h.elim))).setCell (p := ⟨g, 6, none⟩) (fun _ => rfl) _).setCell (p := ⟨g, 0, none⟩) (fun _ => rfl) _⟩
end Go.Proofs.Ytcgefncddbbnlaa.Rf
