/-
  refill.Budget: Stop, Resume; what a budget is, its lists hidden.
-/
import Derived.Test.YtlhiagbcmmmjpaaRefillK
import Derived.Test.YtlhiagbcmmmjpaaRefillL
import Derived.Test.YtlhiagbcmmmjpaaTu
namespace Go.Proofs.Ytlhiagbcmmmjpaa
open Go.RowKit

set_option maxRecDepth 100000 in
set_option maxHeartbeats 800000 in
theorem stopB (w : World) (base g : Nat) (L : Value) (p : Bp) (xs : List (Int × Int)) (h : Bud w base g L p xs) (hC : 1 ≤ p.C) (hf : fineL xs) (hn : xs.length ≤ 1000) (hf0 : -1000000 ≤ p.free) (hf1 : p.free ≤ 1000000) :
    Calls Try.prog 17 #[.pointer (some ⟨g, 0, none⟩)] w fun e w' => e = .returned (.tuple #[]) ∧ Bud w' base g (.slice none 0 0) { p with free := p.free + sumL xs, still := true } [] ∧ Upd (fun k => k = g) w w' := by
  have H := Lib.hid h; clear h
  have HF := Lib.hid hf; clear hf
  go_enter Try.func17, Try.ntmps17
  go_wp2_with fail
  refine (noneB _ base g L p xs H.out hC).mono ?_
  rintro e w1 ⟨rfl, k1, rfl⟩
  go_wp2_with fail
  refine (doneB _ base g L p xs (H.out.drewN _) hC HF.out hn hf0 hf1).mono ?_
  rintro e w2 ⟨rfl, h2, hU⟩
  have H2 := Lib.hid h2
  have U2 := Lib.hid (((Upd.refl (fun k => k = g) w).drewN k1).trans hU)
  have c7 : w2.cell? ⟨g, 7, none⟩ = some (.bool p.still) := h2.b.cell 7
  have f7 := h2.b.frozen 7
  clear h2 hU
  go_wp2_with fail
  go_returns
  exact ⟨rfl, H2.out.setStill true, U2.out.setCell (p := ⟨g, 7, none⟩) (fun _ => rfl) _⟩

set_option maxHeartbeats 800000 in
theorem resumeB (w : World) (base g : Nat) (L : Value) (p : Bp) (xs : List (Int × Int)) (h : Bud w base g L p xs) (hC : 1 ≤ p.C) :
    Calls Try.prog 18 #[.pointer (some ⟨g, 0, none⟩)] w fun e w' => e = .returned (.tuple #[]) ∧ Bud w' base g L { p with still := false } xs ∧ Upd (fun k => k = g) w w' := by
  have c7 : w.cell? ⟨g, 7, none⟩ = some (.bool p.still) := h.b.cell 7
  have f7 := h.b.frozen 7
  have H := Lib.hid h; clear h
  go_enter Try.func18, Try.ntmps18
  go_wp2_with fail
  refine (noneB _ base g L p xs H.out hC).mono ?_
  rintro e w1 ⟨rfl, k1, rfl⟩
  go_wp2_with fail
  go_returns
  exact ⟨rfl, (H.out.drewN _).setStill false, ((Upd.refl (fun k => k = g) w).drewN _).setCell (p := ⟨g, 7, none⟩) (fun _ => rfl) _⟩

def tsB : List TypeId := [43, 36]
def ts18 : List TypeId := 3 :: tsB
theorem ts18_sub : ∀ t, t ∈ tsB → t ∈ ts18 := by decide
theorem Bud.tyG {w : World} {base g : Nat} {L : Value} {p : Bp} {xs : List (Int × Int)} (h : Bud w base g L p xs) (hg : base ≤ g) : Tys base tsB w g := ⟨hg, _, _, h.b, by decide⟩
theorem Bud.tyL {w : World} {base g : Nat} {L : Value} {p : Bp} {xs : List (Int × Int)} (h : Bud w base g L p xs) (k : Nat) (hk : slBlk L = some k) : Tys base tsB w k := by
  obtain ⟨h1, _, cur, hc⟩ := Sl.blk h.s k hk
  exact ⟨h1, _, _, hc, by decide⟩
theorem Bud.tuGL {w w' : World} {base g : Nat} {L : Value} {p : Bp} {xs : List (Int × Int)} (h : Bud w base g L p xs) (hg : base ≤ g) (hu : Upd (fun k => k = g ∨ slBlk L = some k) w w') : Tu base tsB w w' :=
  Tu.of hu (fun k _ e => e.elim (fun e => by subst e; exact h.tyG hg) (fun e => h.tyL k e))
theorem Bud.tuG {w w' : World} {base g : Nat} {L : Value} {p : Bp} {xs : List (Int × Int)} (h : Bud w base g L p xs) (hg : base ≤ g) (hu : Upd (fun k => k = g) w w') : Tu base tsB w w' :=
  Tu.of hu (fun k _ e => by subst e; exact h.tyG hg)
theorem Fine.few {p : Bp} {xs : List (Int × Int)} {C T : Int} {n : Nat} (h : Fine p xs C T n) : xs.length ≤ 1000 ∧ p.free ≤ 1000 ∧ sumL xs ≤ 1000 ∧ p.C ≤ 1000 ∧ p.T ≤ 1000 ∧ 1 ≤ p.C ∧ 1 ≤ p.T := by
  have h1 := (sumL_bound xs h.fine).1
  have := h.sum; have := h.free; have := h.pos; have := h.CT; have := h.T1; have := h.eC; have := h.eT; have := h.C1
  omega
/-- A budget, and how it may be. -/
structure RB (w : World) (base g : Nat) (L : Value) (p : Bp) (xs : List (Int × Int)) (C T s now : Int) (fr : List Int) : Prop where
  b : Bud w base g L p xs
  hg : base ≤ g
  f : Fine p xs C T 1000000
  st : p.start = s
  nw : p.now = now
  r : RWin p xs C T s now fr
  s0 : 0 ≤ s
theorem RB.still {w w' : World} {base g : Nat} {L : Value} {p : Bp} {xs : List (Int × Int)} {C T s now : Int} {fr : List Int} (h : RB w base g L p xs C T s now fr) (hu : Upd (fun _ => False) w w') : RB w' base g L p xs C T s now fr := ⟨h.b.still' hu, h.hg, h.f, h.st, h.nw, h.r, h.s0⟩
theorem RB.tuI {w w' : World} {base g : Nat} {L : Value} {p : Bp} {xs : List (Int × Int)} {C T s now : Int} {fr : List Int} (h : RB w base g L p xs C T s now fr) (hu : Tu base [3] w w') : RB w' base g L p xs C T s now fr :=
  ⟨⟨h.b.b.tu hu (by decide), Sl.tu h.b.s hu (by decide)⟩, h.hg, h.f, h.st, h.nw, h.r, h.s0⟩
theorem RB.few {w : World} {base g : Nat} {L : Value} {p : Bp} {xs : List (Int × Int)} {C T s now : Int} {fr : List Int} (h : RB w base g L p xs C T s now fr) : xs.length ≤ 1000000 := by have := h.f.few; omega
theorem Fine.re {p : Bp} {xs : List (Int × Int)} {C T : Int} {n m : Nat} (h : Fine p xs C T n) (hm : xs.length ≤ m) : Fine p xs C T m := ⟨h.eC, h.eT, h.C1, h.CT, h.T1, h.start, h.now, h.free, h.fine, hm, h.sum⟩

theorem goRB (w : World) (base g : Nat) (L : Value) (p : Bp) (xs : List (Int × Int)) (C T s now : Int) (fr : List Int) (h : RB w base g L p xs C T s now fr) (hbase : base ≤ w.heap.size) (hn : now < 4611686018427387904) (busy : Bool) :
    Calls Try.prog 12 #[.pointer (some ⟨g, 0, none⟩), .int .i64 (now + 1), .bool busy] w fun e w' => e = .returned (.tuple #[]) ∧ (∃ L' p' xs', RB w' base g L' p' xs' C T s (now + 1) fr) ∧ Tu base tsB w w' := by
  have hf := h.f.few
  have hst := h.st
  have hnw := h.nw
  have h0 := h.f.start
  have h1 := h.f.now
  refine (goB w base g L p xs h.b hbase h.f.fine hf.1 hf.2.2.2.2.2.1 hf.2.2.2.1 hf.2.2.2.2.2.2 hf.2.2.2.2.1 h0 h1 (now + 1) (by omega) (by omega) (by omega) busy).mono ?_
  rintro e w' ⟨he, L', hb, hl, hU⟩
  have hF := h.f.go (now + 1) (by omega) busy
  have hw := h.r.go h.f hnw hst busy
  refine ⟨he, ⟨L', _, _, ⟨hb, h.hg, hF.re (by have := hF.few; omega), ?_, ?_, hw, h.s0⟩⟩, h.b.tuGL h.hg hU⟩
  · unfold goP; split <;> exact hst
  · unfold goP; split <;> rfl
theorem doneRB (w : World) (base g : Nat) (L : Value) (p : Bp) (xs : List (Int × Int)) (C T s now : Int) (fr : List Int) (h : RB w base g L p xs C T s now fr) :
    Calls Try.prog 16 #[.pointer (some ⟨g, 0, none⟩)] w fun e w' => e = .returned (.tuple #[]) ∧ (∃ L' p' xs', RB w' base g L' p' xs' C T s now fr) ∧ Tu base tsB w w' := by
  have hf := h.f.few
  have h0 := h.f.free
  refine (doneB w base g L p xs h.b hf.2.2.2.2.2.1 h.f.fine hf.1 (by omega) (by omega)).mono ?_
  rintro e w' ⟨he, hb, hU⟩
  exact ⟨he, ⟨_, _, [], ⟨hb, h.hg, h.f.done.re (by simp), h.st, h.nw, h.r.done h.f.fine, h.s0⟩⟩, h.b.tuG h.hg hU⟩
theorem stopRB (w : World) (base g : Nat) (L : Value) (p : Bp) (xs : List (Int × Int)) (C T s now : Int) (fr : List Int) (h : RB w base g L p xs C T s now fr) :
    Calls Try.prog 17 #[.pointer (some ⟨g, 0, none⟩)] w fun e w' => e = .returned (.tuple #[]) ∧ (∃ L' p' xs', RB w' base g L' p' xs' C T s now fr) ∧ Tu base tsB w w' := by
  have hf := h.f.few
  have h0 := h.f.free
  refine (stopB w base g L p xs h.b hf.2.2.2.2.2.1 h.f.fine hf.1 (by omega) (by omega)).mono ?_
  rintro e w' ⟨he, hb, hU⟩
  have hF := h.f.done
  exact ⟨he, ⟨_, _, [], ⟨hb, h.hg, ⟨hF.eC, hF.eT, hF.C1, hF.CT, hF.T1, hF.start, hF.now, hF.free, hF.fine, by simp, hF.sum⟩, h.st, h.nw, (h.r.done h.f.fine).still true, h.s0⟩⟩, h.b.tuG h.hg hU⟩
theorem resumeRB (w : World) (base g : Nat) (L : Value) (p : Bp) (xs : List (Int × Int)) (C T s now : Int) (fr : List Int) (h : RB w base g L p xs C T s now fr) :
    Calls Try.prog 18 #[.pointer (some ⟨g, 0, none⟩)] w fun e w' => e = .returned (.tuple #[]) ∧ (∃ L' p' xs', RB w' base g L' p' xs' C T s now fr) ∧ Tu base tsB w w' := by
  have hf := h.f.few
  refine (resumeB w base g L p xs h.b hf.2.2.2.2.2.1).mono ?_
  rintro e w' ⟨he, hb, hU⟩
  have hF := h.f
  exact ⟨he, ⟨_, _, xs, ⟨hb, h.hg, ⟨hF.eC, hF.eT, hF.C1, hF.CT, hF.T1, hF.start, hF.now, hF.free, hF.fine, hF.len, hF.sum⟩, h.st, h.nw, h.r.still false, h.s0⟩⟩, h.b.tuG h.hg hU⟩
theorem useRB0 (w : World) (base g : Nat) (L : Value) (p : Bp) (C T s now : Int) (fr : List Int) (h : RB w base g L p [] C T s now fr) :
    Calls Try.prog 15 #[.pointer (some ⟨g, 0, none⟩)] w fun e w' => e = .returned (.bool false) ∧ (∃ L' p' xs', RB w' base g L' p' xs' C T s now fr) ∧ Tu base tsB w w' := by
  have hf := h.f.few
  refine (useB w base g L p [] h.b hf.2.2.2.2.2.1 h.f.fine hf.1 false rfl).mono ?_
  rintro e w' ⟨he, L', hb, hl, hU⟩
  exact ⟨he, ⟨L', p, [], ⟨hb, h.hg, h.f, h.st, h.nw, h.r, h.s0⟩⟩, h.b.tuGL h.hg hU⟩
theorem useRB1 (w : World) (base g : Nat) (L : Value) (p : Bp) (x : Int × Int) (t : List (Int × Int)) (C T s now : Int) (fr : List Int) (h : RB w base g L p (x :: t) C T s now fr) :
    Calls Try.prog 15 #[.pointer (some ⟨g, 0, none⟩)] w fun e w' => e = .returned (.bool true) ∧ (∃ L' p' xs', RB w' base g L' p' xs' C T s now (fr ++ [x.1])) ∧ Upd (fun k => k = g ∨ slBlk L = some k) w w' := by
  have hf := h.f.few
  refine (useB w base g L p (x :: t) h.b hf.2.2.2.2.2.1 h.f.fine hf.1 true (by simp)).mono ?_
  rintro e w' ⟨he, L', hb, hl, hU⟩
  exact ⟨he, ⟨L', p, _, ⟨hb, h.hg, h.f.take, h.st, h.nw, h.r.use, h.s0⟩⟩, hU⟩
end Go.Proofs.Ytlhiagbcmmmjpaa
