/-
  ChunkPlays: a budget is the document's.
-/
import Derived.Test.YtlhiagbcmmmjpaaChunkT
namespace Go.Proofs.Ytlhiagbcmmmjpaa
open Go.RowKit

def St17.dueN (s : St17) : Int := match s.xs with
  | [] => 0
  | x :: _ => x.1 + s.p.T
def St17.dueB (s : St17) : Bool := match s.xs with
  | [] => false
  | _ :: _ => true
theorem dueC (w : World) (base g : Nat) (s : St17) (h : CSt w base g s) (hf : FineC s) :
    Calls Try.prog 40 #[.pointer (some ⟨g, 0, none⟩)] w fun e w' => e = .returned (.tuple #[.int .i64 s.dueN, .bool s.dueB]) ∧ ∃ k, w' = w.drewN k := by
  cases hx : s.xs with
  | nil => have := dueC0 w base g s h hf.C1 hx; simpa [St17.dueN, St17.dueB, hx] using this
  | cons x t => have := dueC1 w base g s h hf x t hx; simpa [St17.dueN, St17.dueB, hx] using this
theorem dueR (w : World) (base g : Nat) (s : St17) (h : RSt w base g s) (hf : FineC s) :
    Calls Try.prog 55 #[.pointer (some ⟨g, 0, none⟩)] w fun e w' => e = .returned (.tuple #[.int .i64 s.dueN, .bool s.dueB]) ∧ ∃ k, w' = w.drewN k := by
  cases hx : s.xs with
  | nil => have := dueR0 w base g s h hx; simpa [St17.dueN, St17.dueB, hx] using this
  | cons x t => have := dueR1 w base g s h hf x t hx; simpa [St17.dueN, St17.dueB, hx] using this

set_option maxRecDepth 100000 in
set_option maxHeartbeats 6400000 in
theorem same17 (w : World) (base base' g r : Nat) (s : St17) (h : CSt w base g s) (hr : RSt w base' r s) (hf : FineC s) :
    Calls Try.prog 35 #[.pointer (some ⟨g, 0, none⟩), .pointer (some ⟨r, 0, none⟩)] w fun e w' => e = .returned (.bool true) ∧ Upd (fun _ => False) w w' := by
  have hxl : s.xs.length ≤ 1000 := by have := hf.bound; omega
  have hyl : s.ys.length ≤ 1000 := by have := hf.bound; omega
  have HC := Lib.hid h; have HR := Lib.hid hr; have HF := Lib.hid hf
  clear h hr hf
  obtain ⟨dn, hdn⟩ : ∃ d, s.dueN = d := ⟨_, rfl⟩
  obtain ⟨db, hdb⟩ : ∃ d, s.dueB = d := ⟨_, rfl⟩
  have HDN := Lib.hid hdn; have HDB := Lib.hid hdb
  clear hdn hdb
  go_enter Try.func35, Try.ntmps35
  go_wp2_with fail
  refine (liveC _ base g s HC.out HF.out.C1 hxl).mono ?_
  rintro e w1 ⟨v1, rfl, hv1, hU1⟩
  obtain ⟨A1, c1, rfl⟩ := hv1.shape
  have C1 := Lib.hid (HC.out.still hU1); have R1 := Lib.hid (HR.out.still hU1); have U1 := Lib.hid hU1; have L1 := Lib.hid hv1
  clear hv1 hU1
  go_wp2_with fail
  refine (backsC _ base g s C1.out HF.out.C1 hyl).mono ?_
  rintro e w2 ⟨v2, rfl, hv2, hU2⟩
  obtain ⟨A2, c2, rfl⟩ := hv2.shape
  have C2 := Lib.hid (C1.out.still hU2); have R2 := Lib.hid (R1.out.still hU2); have U2 := Lib.hid (U1.out.trans hU2); have L2 := Lib.hid (L1.out.still hU2); have K2 := Lib.hid hv2
  clear hv2 hU2
  go_wp2_with fail
  refine (dueC _ base g s C2.out HF.out).mono ?_
  rintro e w3 ⟨rfl, k3, rfl⟩
  rw [HDN.out, HDB.out]
  go_wp2_with fail
  refine (dueR _ base' r s (R2.out.drewN _) HF.out).mono ?_
  rintro e W ⟨rfl, k4, hk4⟩
  rw [HDN.out, HDB.out]
  have hkk : Upd (fun _ => False) w2 W := by rw [hk4]; exact ((Upd.refl _ w2).drewN k3).drewN k4
  have C4 := Lib.hid (C2.out.still hkk); have R4 := Lib.hid (R2.out.still hkk); have U4 := Lib.hid (U2.out.trans hkk); have L4 := Lib.hid (L2.out.still hkk); have K4 := Lib.hid (K2.out.still hkk)
  clear hkk hk4 C2 R2 U2 L2 K2 C1 R1 U1 L1
  obtain ⟨Lr, Kr, hrud⟩ := R4.out
  obtain ⟨AL, cL, rfl⟩ := hrud.s.shape
  obtain ⟨AK, cK, rfl⟩ := hrud.k.shape
  have r3 : W.cell? ⟨r, 3, none⟩ = some (.int .i64 s.p.free) := hrud.b.cell 3
  have r4 : W.cell? ⟨r, 4, none⟩ = some (.slice AL s.xs.length cL) := hrud.b.cell 4
  have r5 : W.cell? ⟨r, 5, none⟩ = some (.slice AK s.ys.length cK) := hrud.b.cell 5
  have RU := Lib.hid hrud
  clear hrud
  go_wp2_with fail
  go_quiet ((go_at_call 37; exact Calls.quiet_of (freeC _ base g s (C4.out.drewN _) HF.out.C1)))
  go_wp2_with fail
  go_loopw [11] (fun vi wr => ∃ i : Nat, i ≤ s.xs.length ∧ vi = .int .i64 i ∧ Upd (fun _ => False) W wr) (fun vi _ => s.xs.length - (intOf vi).toNat)
  case atStart => exact ⟨0, Nat.zero_le _, rfl, (Upd.refl _ W).drewN _⟩
  case round =>
    clear r3 r4 r5
    obtain ⟨i, hi, rfl, hU⟩ := hrel
    have UI := Lib.hid hU; clear hU
    by_cases hlt : i < s.xs.length
    · obtain ⟨x, hx⟩ : ∃ x, s.xs[i]? = some x := ⟨_, List.getElem?_eq_getElem hlt⟩
      obtain ⟨b1, o1, c1', e, _, _, _, _⟩ := L4.out.form (by omega)
      injection e with e1 e2 e3
      subst e1 e3
      obtain ⟨b2, o2, c2', e, _, _, _, _⟩ := RU.out.s.form (by omega)
      injection e with e1 e2 e3
      subst e1 e3
      have hL := L4.out.still UI.out
      have hR := RU.out.still UI.out
      have r4 : wr.cell? ⟨r, 4, none⟩ = some (.slice (some ⟨b2, o2, none⟩) s.xs.length cL) := hR.b.cell 4
      have a0 := hL.cell encC_len i x hx 0 _ rfl
      have a1 := hL.cell encC_len i x hx 1 _ rfl
      have a2 := hL.cell encC_len i x hx 2 _ rfl
      have q0 := hR.s.cell encC_len i x hx 0 _ rfl
      have q1 := hR.s.cell encC_len i x hx 1 _ rfl
      have q2 := hR.s.cell encC_len i x hx 2 _ rfl
      rw [Nat.add_zero] at a0 q0
      clear hL hR hx
      go_wp2_with fail
      go_quiet (fail)
      go_wp2_with fail
      go_roundw
      case rel => exact ⟨i + 1, by omega, by go_num, UI.out.drewN _⟩
      case measure => simp [intOf]; omega
    · go_wp2_with fail
      go_loopw [12] (fun vi wr => ∃ i : Nat, i ≤ s.ys.length ∧ vi = .int .i64 i ∧ Upd (fun _ => False) W wr) (fun vi _ => s.ys.length - (intOf vi).toNat)
      case atStart => exact ⟨0, Nat.zero_le _, rfl, UI.out⟩
      case round =>
        obtain ⟨j, hj, rfl, hU⟩ := hrel
        have UJ := Lib.hid hU; clear hU
        by_cases hlj : j < s.ys.length
        · obtain ⟨y, hy⟩ : ∃ y, s.ys[j]? = some y := ⟨_, List.getElem?_eq_getElem hlj⟩
          obtain ⟨b1, o1, c1', e, _, _, _, _⟩ := K4.out.form (by omega)
          injection e with e1 e2 e3
          subst e1 e3
          obtain ⟨b2, o2, c2', e, _, _, _, _⟩ := RU.out.k.form (by omega)
          injection e with e1 e2 e3
          subst e1 e3
          have hL := K4.out.still UJ.out
          have hR := RU.out.still UJ.out
          have r5 : wr.cell? ⟨r, 5, none⟩ = some (.slice (some ⟨b2, o2, none⟩) s.ys.length cK) := hR.b.cell 5
          have a0 := hL.cell encB_len j y hy 0 _ rfl
          have a1 := hL.cell encB_len j y hy 1 _ rfl
          have q0 := hR.k.cell encB_len j y hy 0 _ rfl
          have q1 := hR.k.cell encB_len j y hy 1 _ rfl
          rw [Nat.add_zero] at a0 q0
          clear hL hR hy
          go_wp2_with fail
          go_quiet (fail)
          go_wp2_with fail
          go_roundw
          case rel => exact ⟨j + 1, by omega, by go_num, UJ.out.drewN _⟩
          case measure => simp [intOf]; omega
        · go_wp2_with fail
          go_returns
          exact ⟨rfl, U4.out.trans UJ.out⟩
end Go.Proofs.Ytlhiagbcmmmjpaa
