/-
  Stats: the document's Shares.
-/
import Derived.Test.YthjebjegedgoeaaStH
namespace Go.Proofs.Ythjebjegedgoeaa
open Go.RowKit Go.Shelf Go.Maps Go.Sort
attribute [local go_sem] max_ints min_ints

set_option maxRecDepth 100000 in
set_option maxHeartbeats 3200000 in
theorem rSharesC (w : World) (total : Int) (A : Option Addr) (len cap : Nat) (hlen : len ≤ 1000) (X : Nat → Int) (hc : Row w A len fun k => .int .i64 (X k)) :
    Calls Try.prog 14 #[.int .i64 total, .slice A len cap] w fun e w' => ∃ v, e = .returned v ∧ SlR encI w' w.heap.size 3 1 v (sharesL (min (max total 0) 1099511627776) X len) ∧ Upd (fun _ => False) w w' := by
  obtain ⟨i0, hi0, hz0, hz1, hz2⟩ := info_parts infoInt
  have HC := Lib.hid (fun i hi => row_at hc i hi)
  obtain ⟨T, hT⟩ : ∃ T, min (max total 0) 1099511627776 = T := ⟨_, rfl⟩
  have hTb : 0 ≤ T ∧ T ≤ 1099511627776 := by omega
  rw [hT]
  clear hc
  go_enter Try.func14, Try.ntmps14
  go_wp2_with fail
  clear hT
  go_loopw [5, 6, 7] (fun v5 v6 v7 wr => ∃ (i : Nat), i ≤ len ∧ v6 = .int .i64 i ∧ SlR encI wr w.heap.size 3 1 v5 (sharesL T X i) ∧ Upd (fun _ => False) w wr) (fun _ v6 _ _ => len - (intOf v6).toNat)
  case atStart => exact ⟨0, Nat.zero_le _, rfl, SlR.nil, Upd.refl _ w⟩
  case round =>
    obtain ⟨i, hi, rfl, hO, hU⟩ := hrel
    obtain ⟨Ao, co, rfl⟩ := hO.shape
    have O4 := Lib.hid hO; have U4 := Lib.hid hU
    have HL := Lib.hid (sharesL_len T X i)
    rw [HL.out] at O4 ⊢
    by_cases hlt : i < len
    · obtain ⟨b, o, rfl, hb, hcx⟩ := HC.out i hlt
      have cx : wr.cell? ⟨b, o + i, none⟩ = some (.int .i64 (X i)) := (hU.cell (p := ⟨b, o + i, none⟩) hb (fun h => h)).trans hcx
      obtain ⟨x, hx⟩ : ∃ x, X i = x := ⟨_, rfl⟩
      rw [hx] at cx
      have HX := Lib.hid hx
      have hxb : 0 ≤ min (max x 0) 1099511627776 ∧ min (max x 0) 1099511627776 ≤ 1099511627776 := by omega
      obtain ⟨y, hy⟩ : ∃ y, min (max x 0) 1099511627776 = y := ⟨_, rfl⟩
      rw [hy] at hxb
      have hsz := hU.size
      have HR : Hid (shareP T x = if 0 < T then 1000 * y / T else 0) := Lib.hid (by unfold shareP; rw [hy])
      obtain ⟨r, hr⟩ : ∃ r, shareP T x = r := ⟨_, rfl⟩
      rw [hr] at HR
      have HRR := Lib.hid hr
      have dl : decide ((i : Int) < (len : Int)) = true := decide_eq_true (by omega)
      have di : decide ((i : Int) < 0) = false := decide_eq_false (by omega)
      have hlen' : i < 1000 := by omega
      have hsz2 : w.heap.size ≤ (wr.alloc (.cells #[.int .i64 r] 3)).heap.size := Nat.le_trans hsz ((Upd.refl (fun _ => False) wr).alloc (.cells #[.int .i64 r] 3)).size
      clear hO hU hcx hb hx hr
      by_cases hTp : 0 < T
      · have tn : ¬ T = 0 := by omega
        have hrv := HR.out
        rw [if_pos hTp] at hrv
        have tq : (1000 * y).tdiv T = r := by rw [Int.tdiv_eq_ediv_of_nonneg (by omega)]; exact hrv.symm
        have wr0 : IntKind.i64.wrap r = r := by
          have h1 : 0 ≤ 1000 * y / T := Int.ediv_nonneg (by omega) (by omega)
          have h2 : 1000 * y / T ≤ 1000 * y := Int.ediv_le_self _ (by omega)
          rw [← hrv] at h1 h2
          exact wrap_in r (by omega) (by omega)
        clear hrv
        go_wp2_with (
          at_builtin
          refine wpList_append_sl rfl (.tmp 28) (.tmp 30) 23 rfl w.heap.size 3 i0 _ 1 8 Try.underlying23 hi0 hz0 hz1 hz2 rfl (by decide) (.slice Ao i co) i (rws encI (sharesL T X i)) rfl (by have := O4.out; unfold SlR at this; rw [HL.out] at this; exact Sl.alloc this _) ⟨_, 0, none⟩ 1 [.int .i64 r] rfl rfl (fun j u hu => by rw [add_at]; refine ((Blk.new wr 3 #[.int .i64 r]).cell j).trans ?_; simpa using hu) (by simp [Value.oneCell']) (by unfold maxLen; omega) (by omega) hsz2 ?_
          intro v9 wZ hs1 hu1 hv1
          obtain ⟨bz, oz, cz, hvz, _, _, _, _⟩ := hs1.form (by omega)
          subst hvz
          have NO : Hid (SlR encI wZ w.heap.size 3 1 (.slice (some ⟨bz, oz, none⟩) (i + 1) cz) (sharesL T X (i + 1))) := Lib.hid (by
            rw [sharesL_succ, HX.out, HRR.out]
            unfold SlR
            rw [rws_append, List.length_append, HL.out]
            exact hs1)
          have NU : Hid (Upd (fun _ => False) w wZ) := Lib.hid ((((U4.out.alloc _).mono (fun _ _ h => h.elim)).trans hu1).mono (fun q hq h => by have := (Sl.blk O4.out q h).1; omega))
          clear hs1 hu1 hv1)
        go_roundw
        case rel => exact ⟨i + 1, by omega, by go_num, NO.out, NU.out⟩
        case measure => simp [intOf]; omega
      · have hrv := HR.out
        rw [if_neg hTp] at hrv
        subst hrv
        have dT : decide (0 < T) = false := decide_eq_false hTp
        go_wp2_with (
          at_builtin
          refine wpList_append_sl rfl (.tmp 28) (.tmp 30) 23 rfl w.heap.size 3 i0 _ 1 8 Try.underlying23 hi0 hz0 hz1 hz2 rfl (by decide) (.slice Ao i co) i (rws encI (sharesL T X i)) rfl (by have := O4.out; unfold SlR at this; rw [HL.out] at this; exact Sl.alloc this _) ⟨_, 0, none⟩ 1 [.int .i64 0] rfl rfl (fun j u hu => by rw [add_at]; refine ((Blk.new wr 3 #[.int .i64 0]).cell j).trans ?_; simpa using hu) (by simp [Value.oneCell']) (by unfold maxLen; omega) (by omega) hsz2 ?_
          intro v9 wZ hs1 hu1 hv1
          obtain ⟨bz, oz, cz, hvz, _, _, _, _⟩ := hs1.form (by omega)
          subst hvz
          have NO : Hid (SlR encI wZ w.heap.size 3 1 (.slice (some ⟨bz, oz, none⟩) (i + 1) cz) (sharesL T X (i + 1))) := Lib.hid (by
            rw [sharesL_succ, HX.out, HRR.out]
            unfold SlR
            rw [rws_append, List.length_append, HL.out]
            exact hs1)
          have NU : Hid (Upd (fun _ => False) w wZ) := Lib.hid ((((U4.out.alloc _).mono (fun _ _ h => h.elim)).trans hu1).mono (fun q hq h => by have := (Sl.blk O4.out q h).1; omega))
          clear hs1 hu1 hv1)
        go_roundw
        case rel => exact ⟨i + 1, by omega, by go_num, NO.out, NU.out⟩
        case measure => simp [intOf]; omega
    · have hie : i = len := by omega
      subst hie
      clear hO hU
      go_wp2_with fail
      go_returns
      exact ⟨_, rfl, O4.out, U4.out⟩
end Go.Proofs.Ythjebjegedgoeaa
