/-
  Stats: Shares on both sides.
-/
import Derived.Test.YthjebjegedgoeaaStG
import Derived.Test.YthjebjegedgoeaaArgs
namespace Go.Proofs.Ythjebjegedgoeaa
open Go.RowKit Go.Shelf Go.Maps Go.Sort
attribute [local go_sem] max_ints min_ints

theorem row_at {W : World} {A : Option Addr} {len : Nat} {X : Nat → Int} (hc : Row W A len fun k => .int .i64 (X k)) (i : Nat) (hi : i < len) : ∃ b o, A = some ⟨b, o, none⟩ ∧ b < W.heap.size ∧ W.cell? ⟨b, o + i, none⟩ = some (.int .i64 (X i)) := by
  obtain ⟨a0, ha0, _, hc0⟩ := hc 0 (by omega)
  obtain ⟨a, ha, hb, hc1⟩ := hc i hi
  rw [ha] at ha0
  injection ha0 with ha0
  subst ha0
  have hs := World.cell?_spot hc0
  obtain ⟨b, o, sp⟩ := a
  have e0 : (⟨b, o, sp⟩ : Addr).add 0 = ⟨b, o, sp⟩ := by simp [Addr.add]
  rw [e0] at hs
  simp at hs
  subst hs
  rw [add_plain] at hc1
  exact ⟨b, o, ha, hb, hc1⟩

/-- A part of a thousand. -/
def shareP (T x : Int) : Int := if 0 < T then 1000 * min (max x 0) 1099511627776 / T else 0
def sharesL (T : Int) (X : Nat → Int) (n : Nat) : List Int := (List.range n).map (fun k => shareP T (X k))
theorem sharesL_succ (T : Int) (X : Nat → Int) (n : Nat) : sharesL T X (n + 1) = sharesL T X n ++ [shareP T (X n)] := by unfold sharesL; rw [List.range_succ, List.map_append]; rfl
theorem sharesL_len (T : Int) (X : Nat → Int) (n : Nat) : (sharesL T X n).length = n := by simp [sharesL]

set_option maxRecDepth 100000 in
theorem btoiC (w : World) : Calls Try.prog 35 #[.bool false] w fun e w' => e = .returned (.int .i64 0) ∧ ∃ k, w' = w.drewN k := by
  go_enter Try.func35, Try.ntmps35
  go_wp2_with fail
  go_returns
  exact ⟨rfl, 0, rfl⟩
set_option maxRecDepth 100000 in
set_option maxHeartbeats 1600000 in
theorem floorC (w : World) (a b : Int) (ha : 0 ≤ a) (ha2 : a ≤ 1152921504606846976) (hb : b ≤ 1099511627776) :
    Calls Try.prog 26 #[.int .i64 a, .int .i64 b] w fun e w' => e = .returned (.int .i64 (if 0 < b then a / b else 0)) ∧ ∃ k, w' = w.drewN k := by
  by_cases h : 0 < b
  · obtain ⟨r, hr⟩ : ∃ r, (if 0 < b then a / b else 0) = r := ⟨_, rfl⟩
    rw [hr]
    rw [if_pos h] at hr
    have d1 : decide (b < 1) = false := decide_eq_false (by omega)
    have bn : ¬ b = 0 := by omega
    have tq : a.tdiv b = r := by rw [Int.tdiv_eq_ediv_of_nonneg ha]; exact hr
    have hr0 : 0 ≤ r ∧ r ≤ 1152921504606846976 := by
      rw [← hr]
      exact ⟨Int.ediv_nonneg ha (by omega), Int.le_trans (Int.ediv_le_self _ ha) ha2⟩
    have hm : decide (a.tmod b < 0) = false := decide_eq_false (by have := Int.tmod_nonneg b ha; omega)
    have wr0 : IntKind.i64.wrap r = r := wrap_in r (by omega) (by omega)
    clear hr
    go_enter Try.func26, Try.ntmps26
    go_wp2_with fail
    go_quiet ((go_at_call 35; exact Calls.quiet_of (btoiC _)))
    go_wp2_with fail
    go_returns
    exact ⟨rfl, _, rfl⟩
  · rw [if_neg h]
    have d1 : decide (b < 1) = true := decide_eq_true (by omega)
    go_enter Try.func26, Try.ntmps26
    go_wp2_with fail
    go_returns
    exact ⟨rfl, 0, rfl⟩

set_option maxRecDepth 100000 in
set_option maxHeartbeats 3200000 in
theorem sharesC (w : World) (total : Int) (A : Option Addr) (len cap : Nat) (hlen : len ≤ 1000) (X : Nat → Int) (hc : Row w A len fun k => .int .i64 (X k)) :
    Calls Try.prog 13 #[.int .i64 total, .slice A len cap] w fun e w' => ∃ v, e = .returned v ∧ SlR encI w' w.heap.size 3 1 v (sharesL (min (max total 0) 1099511627776) X len) ∧ Upd (fun _ => False) w w' := by
  obtain ⟨i0, hi0, hz0, hz1, hz2⟩ := info_parts infoInt
  have HC := Lib.hid (fun i hi => row_at hc i hi)
  obtain ⟨T, hT⟩ : ∃ T, min (max total 0) 1099511627776 = T := ⟨_, rfl⟩
  have hTb : 0 ≤ T ∧ T ≤ 1099511627776 := by omega
  rw [hT]
  clear hc
  go_enter Try.func13, Try.ntmps13
  go_wp2_with fail
  clear hT
  go_loopw [5, 13] (fun v5 v13 wr => ∃ (i : Nat), i ≤ len ∧ v13 = .int .i64 i ∧ SlR encI wr w.heap.size 3 1 v5 (sharesL T X i) ∧ Upd (fun _ => False) w wr) (fun _ v13 _ => len - (intOf v13).toNat)
  case atStart => exact ⟨0, Nat.zero_le _, rfl, SlR.nil, Upd.refl _ w⟩
  case round =>
    obtain ⟨i, hi, rfl, hO, hU⟩ := hrel
    obtain ⟨Ao, co, rfl⟩ := hO.shape
    have O4 := Lib.hid hO; have U4 := Lib.hid hU
    have HL := Lib.hid (sharesL_len T X i)
    rw [HL.out] at O4 ⊢
    by_cases hlt : i < len
    · obtain ⟨b, o, rfl, hb, hcx⟩ := HC.out i hlt
      have cx : wr.cell? ⟨b, o + i, none⟩ = some (.int .i64 (X i)) := (hU.cell (p := ⟨b, o + i, none⟩) hb (fun h => h)).trans hcx
      obtain ⟨x, hx⟩ : ∃ x, X i = x := ⟨_, rfl⟩
      rw [hx] at cx
      have HX := Lib.hid hx
      have hxb : 0 ≤ min (max x 0) 1099511627776 ∧ min (max x 0) 1099511627776 ≤ 1099511627776 := by omega
      obtain ⟨y, hy⟩ : ∃ y, min (max x 0) 1099511627776 = y := ⟨_, rfl⟩
      rw [hy] at hxb
      have HF := Lib.hid (floorC wr (1000 * y) T (by omega) (by omega) hTb.2)
      have hsz := hU.size
      have HR : Hid (shareP T x = if 0 < T then 1000 * y / T else 0) := Lib.hid (by unfold shareP; rw [hy])
      rw [← HR.out] at HF
      obtain ⟨r, hr⟩ : ∃ r, shareP T x = r := ⟨_, rfl⟩
      rw [hr] at HF HR
      have HRR := Lib.hid hr
      have dl : decide ((i : Int) < (len : Int)) = true := decide_eq_true (by omega)
      have hlen' : i < 1000 := by omega
      clear hO hU hcx hb hx hr
      go_wp2_with fail
      refine HF.out.mono ?_
      rintro e w5 ⟨rfl, k5, rfl⟩
      have hsz2 : w.heap.size ≤ ((wr.drewN k5).alloc (.cells #[.int .i64 r] 3)).heap.size := Nat.le_trans hsz (((Upd.refl (fun _ => False) wr).drewN k5).alloc (.cells #[.int .i64 r] 3)).size
      go_wp2_with (
        at_builtin
        refine wpList_append_sl rfl (.tmp 17) (.tmp 24) 23 rfl w.heap.size 3 i0 _ 1 8 Try.underlying23 hi0 hz0 hz1 hz2 rfl (by decide) (.slice Ao i co) i (rws encI (sharesL T X i)) rfl (by have := O4.out; unfold SlR at this; rw [HL.out] at this; exact Sl.alloc (Sl.drewN this k5) _) ⟨_, 0, none⟩ 1 [.int .i64 r] rfl rfl (fun j u hu => by rw [add_at]; refine ((Blk.new (wr.drewN k5) 3 #[.int .i64 r]).cell j).trans ?_; simpa using hu) (by simp [Value.oneCell']) (by unfold maxLen; omega) (by omega) hsz2 ?_
        intro v9 wZ hs1 hu1 hv1
        obtain ⟨bz, oz, cz, hvz, _, _, _, _⟩ := hs1.form (by omega)
        subst hvz
        have NO : Hid (SlR encI wZ w.heap.size 3 1 (.slice (some ⟨bz, oz, none⟩) (i + 1) cz) (sharesL T X (i + 1))) := Lib.hid (by
          rw [sharesL_succ, HX.out, HRR.out]
          unfold SlR
          rw [rws_append, List.length_append, HL.out]
          exact hs1)
        have NU : Hid (Upd (fun _ => False) w wZ) := Lib.hid (((((U4.out.drewN k5).alloc _).mono (fun _ _ h => h.elim)).trans hu1).mono (fun q hq h => by have := (Sl.blk O4.out q h).1; omega))
        clear hs1 hu1 hv1)
      go_roundw
      case rel => exact ⟨i + 1, by omega, by go_num, NO.out, NU.out⟩
      case measure => simp [intOf]; omega
    · have hie : i = len := by omega
      subst hie
      clear hO hU
      go_wp2_with fail
      go_returns
      exact ⟨_, rfl, O4.out, U4.out⟩
end Go.Proofs.Ythjebjegedgoeaa
