/-
  StatsLogs, for every input.
-/
import Derived.Test.YthjebjegedgoeaaStLG
import Derived.Test.YthjebjegedgoeaaArgs4
namespace Go.Proofs.Ythjebjegedgoeaa
open Go.RowKit Go.Maps
attribute [local go_sem] max_ints min_ints

theorem infoJE : (Try.prog.info? 52).map (fun i => (i.zero, i.size, i.bytes)) = some (some (.agg #[.int .i64 0, .int .i64 0, .int .i64 0, .int .i64 0]), 4, 32) := by kernel_rfl

set_option maxRecDepth 100000 in
set_option maxHeartbeats 6400000 in
theorem statsLogs_main (w : World) (A : Option Addr) (cap : Nat) (l : List En) (hl : l.length ≤ 100) (hwf : ∀ e ∈ l, EnWf e) (hE : ERow w A l) (b d : Int) :
    Calls Try.prog 5 #[.slice A l.length cap, .int .i64 b, .int .i64 d] w fun e w' => e = .returned (.bool true) ∧ Upd (fun _ => False) w w' := by
  obtain ⟨i0, hi0, hz0, hz1, hz2⟩ := info_parts infoJE
  have d1 : decide (100 < (l.length : Int)) = false := decide_eq_false (by omega)
  have HWF := Lib.hid hwf; have HE := Lib.hid hE
  clear hwf hE
  go_enter Try.func5, Try.ntmps5
  go_wp2_with fail
  go_loopw [7, 8] (fun v7 v8 wr => ∃ (i : Nat), i ≤ l.length ∧ v8 = .int .i64 i ∧ SlR encN wr w.heap.size 52 4 v7 (l.take i) ∧ Upd (fun _ => False) w wr) (fun _ v8 _ => l.length - (intOf v8).toNat)
  case atStart => exact ⟨0, Nat.zero_le _, rfl, SlR.nil, Upd.refl _ w⟩
  case round =>
    obtain ⟨i, hi, rfl, hO, hU⟩ := hrel
    obtain ⟨Ao, co, rfl⟩ := hO.shape
    have O4 := Lib.hid hO; have U4 := Lib.hid hU
    have htl : (l.take i).length = i := by rw [List.length_take]; omega
    have HL := Lib.hid htl
    rw [HL.out] at O4 ⊢
    by_cases hlt : i < l.length
    · obtain ⟨e, he⟩ : ∃ e, l[i]? = some e := ⟨_, List.getElem?_eq_getElem hlt⟩
      obtain ⟨vb, vo, rfl, hb, c0, c1, c2, c3⟩ := (HE.out.still hU) i e he
      have HJ := Lib.hid he
      have hsz := hU.size
      obtain ⟨ek, ed, ea, eb⟩ := e
      dsimp only at c0 c1 c2 c3
      have dl : decide ((i : Int) < (l.length : Int)) = true := decide_eq_true (by omega)
      have di : decide ((i : Int) < 0) = false := decide_eq_false (by omega)
      have hsz2 : w.heap.size ≤ (wr.alloc (.cells #[.int .i64 ek, .int .i64 ed, .int .i64 ea, .int .i64 eb] 52)).heap.size := Nat.le_trans hsz ((Upd.refl (fun _ => False) wr).alloc (.cells #[.int .i64 ek, .int .i64 ed, .int .i64 ea, .int .i64 eb] 52)).size
      clear hO hU he hb htl
      go_wp2_with (
        at_builtin
        refine wpList_append_sl rfl (.tmp 20) (.tmp 25) 50 rfl w.heap.size 52 i0 _ 4 32 Try.underlying50 hi0 hz0 hz1 hz2 rfl (by decide) (.slice Ao i co) i (rws encN (l.take i)) rfl (by have := O4.out; unfold SlR at this; rw [HL.out] at this; exact Sl.alloc this _) ⟨_, 0, none⟩ 1 [.int .i64 ek, .int .i64 ed, .int .i64 ea, .int .i64 eb] rfl rfl (fun j u hu => by rw [add_at]; refine ((Blk.new wr 52 #[.int .i64 ek, .int .i64 ed, .int .i64 ea, .int .i64 eb]).cell j).trans ?_; simpa using hu) (by simp [Value.oneCell']) (by unfold maxLen; omega) (by omega) hsz2 ?_
        intro v9 wZ hs1 hu1 hv1
        obtain ⟨bz, oz, cz, hvz, _, _, _, _⟩ := hs1.form (by omega)
        subst hvz
        have NO : Hid (SlR encN wZ w.heap.size 52 4 (.slice (some ⟨bz, oz, none⟩) (i + 1) cz) (l.take (i + 1))) := Lib.hid (by
          rw [take_succ_get HJ.out]
          unfold SlR
          rw [rws_append, List.length_append, HL.out, rws_one]
          exact hs1)
        have NU : Hid (Upd (fun _ => False) w wZ) := Lib.hid ((((U4.out.alloc _).mono (fun _ _ h => h.elim)).trans hu1).mono (fun q hq h => by have := (Sl.blk O4.out q h).1; omega))
        clear hs1 hu1 hv1)
      go_roundw
      case rel => exact ⟨i + 1, by omega, by go_num, NO.out, NU.out⟩
      case measure => simp [intOf]; omega
    · have hie : i = l.length := by omega
      subst hie
      have hO2 := O4.out
      rw [List.take_length] at hO2
      have VX := Lib.hid hO2
      clear hO hU hO2 O4
      obtain ⟨B, hB⟩ : ∃ B : Nat, (min (max b 1) 64).toNat = B := ⟨_, rfl⟩
      obtain ⟨W, hW⟩ : ∃ W : Nat, (min (max d 1) 1000).toNat = W := ⟨_, rfl⟩
      have hBW : 1 ≤ B ∧ B ≤ 64 ∧ 1 ≤ W := by omega
      have HBW := Lib.hid hB; have HWW := Lib.hid hW
      clear hB hW
      go_wp2_with fail
      refine (rNewC wr b d).mono ?_
      rintro e w1 ⟨rfl, hB1, hU1⟩
      rw [HBW.out, HWW.out] at hB1
      obtain ⟨r, hr⟩ : ∃ r, wr.heap.size = r := ⟨_, rfl⟩
      have HRR := Lib.hid hr
      rw [hr] at hB1 ⊢
      have B1 := Lib.hid hB1
      have U1 := Lib.hid (U4.out.trans hU1)
      have VX1 := Lib.hid (VX.out.upd hU1 (fun _ _ h => h))
      have HW1 : Hid (wr.heap.size ≤ w1.heap.size) := Lib.hid hU1.size
      clear hB1 hU1 hr VX
      go_wp2_with fail
      refine (rJobsC w1 A cap l (HE.out.still U1.out) (by omega)).mono ?_
      rintro e w2 ⟨v2, rfl, hv2, hU2⟩
      obtain ⟨A2, c2, rfl⟩ := SlR.shape hv2
      have hB2 := B1.out.upd hU2 (fun h => h)
      have y2 : w2.cell? ⟨r, 2, none⟩ = some (.slice none 0 0) := hB2.cell 2
      have f2 := hB2.frozen 2
      have hB3 := hB2.set_ 2 (.slice A2 (jobsE l).length c2)
      have hUs : Upd (fun q => q = r) w2 (w2.setCell ⟨r, 2, none⟩ (.slice A2 (jobsE l).length c2)) := (Upd.refl (fun q => q = r) w2).setCell (p := ⟨r, 2, none⟩) (fun _ => rfl) _
      have hV3 := hv2.upd hUs (fun q hq e => by
        obtain ⟨_, _, cur, hcur⟩ := Sl.blk hv2 q hq
        rw [e] at hcur
        exact hcur.ne_ hB2 (by decide) rfl)
      have R3 : Hid (RTab (w2.setCell ⟨r, 2, none⟩ (.slice A2 (jobsE l).length c2)) r B W A2 c2 (jobsE l)) := Lib.hid ⟨hB3, jrow_slr hV3⟩
      have VX3 := Lib.hid ((VX1.out.upd hU2 (fun _ _ h => h)).upd hUs (fun q hq e => by
        obtain ⟨_, h2, _⟩ := Sl.blk VX1.out q hq
        obtain ⟨_, _, cur, hcur⟩ := Sl.blk (VX1.out.upd hU2 (fun _ _ h => h)) q hq
        rw [e] at hcur
        exact hcur.ne_ hB2 (by decide) rfl))
      have U3 : Hid (Upd (fun _ => False) w (w2.setCell ⟨r, 2, none⟩ (.slice A2 (jobsE l).length c2))) := Lib.hid ((((U1.out.trans hU2).mono (S' := fun q => q = r) (fun _ _ h => h.elim)).trans hUs).mono (fun q hq e => by
        have h1 := HRR.out
        have h2 := U4.out.size
        omega))
      clear hv2 hU2 hB2 hB3 hUs hV3 VX1 B1 U1
      go_upto_region 10 with fail
      clear y2 f2
      generalize w2.setCell ⟨r, 2, none⟩ (.slice A2 (jobsE l).length c2) = w3 at *
      go_wp2_with fail
      refine (ofLC w3 _ l (Sl.mono VX3.out (Nat.zero_le _)) (by omega) HWF.out b d).mono ?_
      rintro e w4 ⟨g, bm, ks, N, rfl, hT4, hU4⟩
      rw [HBW.out, HWW.out] at hT4
      have T4 := Lib.hid hT4; have R4 := Lib.hid (R3.out.still hU4); have U5 := Lib.hid (U3.out.trans hU4)
      have hjl : (jobsE l).length ≤ 200 := by have := jobsE_len l; omega
      have HJW : Hid (∀ j ∈ jobsE l, j.Wf) := Lib.hid (fun j hj => by
        have h := jobsE_wf HWF.out j hj
        exact ⟨WalkArith.wf_i64 ⟨h.t0, by have := h.t1; omega⟩, h.f0, h.f1, h.o0, h.o1⟩)
      clear hT4 hU4 VX3 R3 U3
      go_wp2_with fail
      refine (sameC w4 g bm B W ks N (jobsE l) r c2 A2 T4.out R4.out hjl HJW.out hBW.1 hBW.2.1 hBW.2.2).mono ?_
      rintro e w5 ⟨rfl, hU5⟩
      have U6 := Lib.hid (U5.out.trans hU5)
      clear hU5 T4 R4 U5
      go_wp2_with fail
      refine (knowsC w5).mono ?_
      rintro e w6 ⟨rfl, hU6⟩
      go_wp2_with fail
      go_returns
      exact ⟨rfl, U6.out.trans hU6⟩

set_option maxRecDepth 100000 in
theorem statsLogs_out (w : World) (A : Option Addr) (len cap : Nat) (b d : Int) (h : 100 < len) :
    Calls Try.prog 5 #[.slice A len cap, .int .i64 b, .int .i64 d] w fun e w' => e = .returned (.bool true) ∧ Upd (fun _ => False) w w' := by
  have d1 : decide (100 < (len : Int)) = true := decide_eq_true (by omega)
  go_enter Try.func5, Try.ntmps5
  go_wp2_with fail
  refine (knowsC _).mono ?_
  rintro e w1 ⟨rfl, hU⟩
  go_wp2_with fail
  go_returns
  exact ⟨rfl, hU⟩

def listE (X : Nat → Int × Int × Int × Int) (n : Nat) : List En := (List.range n).map (fun k => ⟨(X k).1, (X k).2.1, (X k).2.2.1, (X k).2.2.2⟩)
theorem listE_len (X : Nat → Int × Int × Int × Int) (n : Nat) : (listE X n).length = n := by simp [listE]
theorem erow_of {w : World} {A : Option Addr} {n : Nat} {X : Nat → Int × Int × Int × Int} (h : Rowiiii w A n X) : ERow w A (listE X n) := by
  intro i e he
  unfold listE at he
  rw [List.getElem?_map] at he
  by_cases hi : i < n
  · rw [List.getElem?_range hi] at he
    simp at he
    subst he
    obtain ⟨b, o, h0, h1, h2, h3, h4, h5⟩ := h i hi
    exact ⟨b, o, h0, h1, by simpa using h2, h3, h4, h5⟩
  · rw [List.getElem?_eq_none (by simp; omega)] at he
    simp at he
theorem listE_wf {n : Nat} {X : Nat → Int × Int × Int × Int} (h : ∀ k, k < n → (Lit.int .i64 ((X k).1)).wf = true ∧ (Lit.int .i64 ((X k).2.1)).wf = true ∧ (Lit.int .i64 ((X k).2.2.1)).wf = true ∧ (Lit.int .i64 ((X k).2.2.2)).wf = true) : ∀ e ∈ listE X n, EnWf e := by
  intro e he
  unfold listE at he
  obtain ⟨k, hk, rfl⟩ := List.mem_map.1 he
  obtain ⟨h0, h1, h2, h3⟩ := h k (by simpa using hk)
  obtain ⟨a0, a1⟩ := wfb h0
  obtain ⟨b0, b1⟩ := wfb h1
  obtain ⟨c0, c1⟩ := wfb h2
  obtain ⟨d0, d1⟩ := wfb h3
  exact ⟨a0, a1, b0, b1, c0, c1, d0, d1⟩
theorem statsLogs_any (w : World) (A : Option Addr) (len cap : Nat) (X : Nat → Int × Int × Int × Int)
    (hwf : ∀ k, k < len → (Lit.int .i64 ((X k).1)).wf = true ∧ (Lit.int .i64 ((X k).2.1)).wf = true ∧ (Lit.int .i64 ((X k).2.2.1)).wf = true ∧ (Lit.int .i64 ((X k).2.2.2)).wf = true) (hc : Rowiiii w A len X)
    (b : Int) (_ : (Lit.int .i64 b).wf = true) (d : Int) (_ : (Lit.int .i64 d).wf = true) :
    Calls Try.prog 5 #[.slice A len cap, .int .i64 b, .int .i64 d] w fun e w' => e = .returned (.bool true) ∧ Below w.heap.size w w' := by
  have key : Calls Try.prog 5 #[.slice A len cap, .int .i64 b, .int .i64 d] w fun e w' => e = .returned (.bool true) ∧ Upd (fun _ => False) w w' := by
    by_cases h : 100 < len
    · exact statsLogs_out w A len cap b d h
    · have := statsLogs_main w A cap (listE X len) (by rw [listE_len]; omega) (listE_wf hwf) (erow_of hc) b d
      rw [listE_len] at this
      exact this
  exact key.mono (fun _ _ ⟨h1, h2⟩ => ⟨h1, h2.below (Nat.le_refl _) (fun _ h => h.elim)⟩)
end Go.Proofs.Ythjebjegedgoeaa
