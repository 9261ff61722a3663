/-
  refill.Budget: Live, Due, New, Stop, Resume.
-/
import Derived.Test.YtlhiagbcmmmjpaaRefillD
namespace Go.Proofs.Ytlhiagbcmmmjpaa
open Go.RowKit

theorem one_chk : ∀ (xs : List (Int × Int)), ∀ u ∈ chk xs, u.oneCell' = true
  | [], u, h => by simp [chk] at h
  | x :: t, u, h => by
    simp only [chk, List.mem_cons] at h
    rcases h with rfl | rfl | h
    · rfl
    · rfl
    · exact one_chk t u h

set_option maxRecDepth 100000 in
set_option maxHeartbeats 1600000 in
theorem cloneB (w : World) (base : Nat) (L : Value) (xs : List (Int × Int)) (h : Sl w base 36 2 L xs.length (chk xs)) (hn : xs.length ≤ 1000) :
    Calls Try.prog 45 #[L] w fun e w' => ∃ v, e = .returned v ∧ Sl w' w.heap.size 36 2 v xs.length (chk xs) ∧ Upd (fun _ => False) w w' := by
  obtain ⟨i0, hi0, hz0, hz1, hz2⟩ := info_parts infoChunk
  have hq : ∀ (w : World) (a : Option Addr) (n c : Nat), (binOp .eql 33 (.slice a n c) (.slice none 0 0)).run Try.prog w = .ok (.bool a.isNone) w := fun w a n c => Go.Lib.run_eql_slice_nil w _ _ a n c 0 0 Try.underlying33
  rcases h.2 with ⟨rfl, h0⟩ | ⟨b, off, cap, cur, rfl, _, _, _, _, _, _⟩
  · have hx : xs = [] := List.eq_nil_of_length_eq_zero h0
    subst hx
    clear h h0
    go_enter Try.func45, Try.ntmps45
    go_wp2
    go_ret
    exact ⟨_, rfl, Sl.nil _ _ _ _, Upd.refl _ _⟩
  · have HC : Hid (∀ o j u, (chk xs)[j]? = some u → (w.alloc o).cell? ((⟨b, off, none⟩ : Addr).add j) = some u) := Lib.hid (fun o j u hu => by
      rw [Addr.add_lit]
      exact (h.alloc o).cell j u hu)
    clear h
    go_enter Try.func45, Try.ntmps45
    go_wp2_with (
      at_builtin
      refine wpList_append_own _ rfl (.tmp 5) (.tmp 6) 33 rfl w.heap.size 36 i0 _ 2 16 Try.underlying33 hi0 hz0 hz1 hz2 rfl (by decide) _ 0 [] rfl (World.ownsRow_lit (e := 36) (size := 2) w #[] 0 (Nat.le_refl _) (Nat.zero_le _) rfl) ⟨b, off, none⟩ xs.length cap (chk xs) rfl (chk_len xs) (HC.out _) (one_chk xs) (by unfold maxLen; omega) (by omega) (by simp) ?_
      intro v' w1 hown' hgrow hnil
      clear hnil
      have hU : Upd (fun k => w.heap.size ≤ k) w w1 := ((Upd.refl (fun k => w.heap.size ≤ k) w).alloc _).grown hgrow (fun k hk hlt => by cases hk; exact Nat.le_refl _)
      rw [List.nil_append, Nat.zero_add] at hown'
      have HST := Lib.hid hown'; clear hown'
      have HU := Lib.hid hU; clear hU
      clear hgrow)
    go_ret
    exact ⟨_, rfl, Sl.own HST.out, HU.out.mono (fun k hk hle => absurd hle (Nat.not_le_of_lt hk))⟩

set_option maxHeartbeats 800000 in
theorem liveB (w : World) (base g : Nat) (L : Value) (p : Bp) (xs : List (Int × Int)) (h : Bud w base g L p xs) (hC : 1 ≤ p.C) (hn : xs.length ≤ 1000) :
    Calls Try.prog 14 #[.pointer (some ⟨g, 0, none⟩)] w fun e w' => ∃ v, e = .returned v ∧ Sl w' w.heap.size 36 2 v xs.length (chk xs) ∧ Upd (fun _ => False) w w' := by
  have c0 : w.cell? ⟨g, 0, none⟩ = some L := h.b.cell 0
  have H := Lib.hid h; clear h
  go_enter Try.func14, Try.ntmps14
  go_wp2_with fail
  refine (noneB _ base g L p xs H.out hC).mono ?_
  rintro e w1 ⟨rfl, k1, rfl⟩
  go_wp2_with fail
  refine (cloneB _ base L xs (H.out.s.drewN _) hn).mono ?_
  rintro e w2 ⟨v, rfl, h2, h3⟩
  have H2 := Lib.hid h2; have H3 := Lib.hid h3
  clear h2 h3
  go_wp2_with fail
  go_returns
  exact ⟨v, rfl, H2.out, ((Upd.refl _ w).drewN _).trans H3.out⟩

def Bp.new (rf : Bool) (C T start : Int) : Bp := ⟨rf, C, T, start, start, C, false⟩

set_option maxRecDepth 100000 in
set_option maxHeartbeats 800000 in
theorem newB_no (w : World) (rf : Bool) (C T start : Int) (h : okS C T = false ∨ start < 0 ∨ 4611686018427387904 < start) :
    Calls Try.prog 10 #[.agg #[.bool rf, .int .i64 C, .int .i64 T], .int .i64 start] w fun e w' => e = .returned (.pointer none) ∧ Upd (fun _ => False) w w' := by
  obtain ⟨t, ht⟩ : ∃ t, okS C T = t := ⟨_, rfl⟩
  rw [ht] at h
  have HT := Lib.hid ht; clear ht
  cases t
  · clear h
    go_enter Try.func10, Try.ntmps10
    go_wp2_with fail
    refine (rightS _ rf C T false HT.out).mono ?_
    rintro e w1 ⟨rfl, hU⟩
    have HU := Lib.hid hU; clear hU
    go_wp2_with fail
    go_returns
    exact ⟨rfl, ((Upd.refl _ w).alloc _).trans HU.out⟩
  · by_cases h0 : start < 0
    · have e0 : decide (start < 0) = true := decide_eq_true h0
      clear h
      go_enter Try.func10, Try.ntmps10
      go_wp2_with fail
      refine (rightS _ rf C T true HT.out).mono ?_
      rintro e w1 ⟨rfl, hU⟩
      have HU := Lib.hid hU; clear hU
      go_wp2_with fail
      go_returns
      exact ⟨rfl, ((Upd.refl _ w).alloc _).trans HU.out⟩
    · have e0 : decide (start < 0) = false := decide_eq_false h0
      have e1 : decide ((4611686018427387904 : Int) < start) = true := decide_eq_true (by rcases h with h | h | h; cases h; exact absurd h h0; exact h)
      clear h
      go_enter Try.func10, Try.ntmps10
      go_wp2_with fail
      refine (rightS _ rf C T true HT.out).mono ?_
      rintro e w1 ⟨rfl, hU⟩
      have HU := Lib.hid hU; clear hU
      go_wp2_with fail
      go_returns
      exact ⟨rfl, ((Upd.refl _ w).alloc _).trans HU.out⟩

set_option maxRecDepth 100000 in
set_option maxHeartbeats 800000 in
theorem newB_yes (w : World) (base : Nat) (rf : Bool) (C T start : Int) (h : okS C T = true) (h0 : 0 ≤ start) (h1 : start ≤ 4611686018427387904) :
    Calls Try.prog 10 #[.agg #[.bool rf, .int .i64 C, .int .i64 T], .int .i64 start] w fun e w' => ∃ g, e = .returned (.pointer (some ⟨g, 0, none⟩)) ∧ w.heap.size ≤ g ∧ Bud w' base g (.slice none 0 0) (Bp.new rf C T start) [] ∧ Upd (fun _ => False) w w' := by
  have HT := Lib.hid h; clear h
  have e0 : decide (start < 0) = false := decide_eq_false (by omega)
  have e1 : decide ((4611686018427387904 : Int) < start) = false := decide_eq_false (by omega)
  have hx := Blk.new w 27 #[.bool rf, .int .i64 C, .int .i64 T]
  have HX := Lib.hid hx; clear hx
  go_enter Try.func10, Try.ntmps10
  go_wp2_with fail
  refine (rightS _ rf C T true HT.out).mono ?_
  rintro e w1 ⟨rfl, hU⟩
  have hb := HX.out.upd hU (fun h => h)
  have c0 : w1.cell? ⟨w.heap.size, 0, none⟩ = some (.bool rf) := hb.cell 0
  have c1 : w1.cell? ⟨w.heap.size, 1, none⟩ = some (.int .i64 C) := hb.cell 1
  have c2 : w1.cell? ⟨w.heap.size, 2, none⟩ = some (.int .i64 T) := hb.cell 2
  clear hb
  have hsz := hU.size
  simp at hsz
  have HU := Lib.hid hU; clear hU
  go_wp2_with fail
  go_returns
  refine ⟨_, rfl, by omega, ⟨Blk.new _ _ _, Sl.nil _ _ _ _⟩, (((Upd.refl _ w).alloc _).trans HU.out).alloc _⟩
end Go.Proofs.Ytlhiagbcmmmjpaa
