/-
  The wheel: its whole state; Cancel.
-/
import Derived.Test.YtcljgejalacccaaWhD
namespace Go.Proofs.Ytcljgejalacccaa
open Go.RowKit
attribute [local go_sem] max_ints min_ints

/-- The wheel at g, at a tick, with its timers; none of it lies in a block of N. -/
def WhS (w : World) (g now : Nat) (at_ : Nat → Int) (N : Nat → Prop) : Prop :=
  ∃ V sl n, WhR w g now V at_ n sl N ∧ Inv now at_ sl ∧ n = cntA at_ 256 ∧ now ≤ 4611686018427387904
section
variable {w w' : World} {g now : Nat} {at_ at' : Nat → Int} {N N' S : Nat → Prop}
theorem WhS.upd (h : WhS w g now at_ N) (hu : Upd S w w') (hS : ∀ k, S k → k < w.heap.size → N k) : WhS w' g now at_ N := by
  obtain ⟨V, sl, n, h1, h2⟩ := h; exact ⟨V, sl, n, h1.upd hu hS, h2⟩
theorem WhS.drewN (h : WhS w g now at_ N) (k : Nat) : WhS (w.drewN k) g now at_ N := h.upd (S := fun _ => False) ((Upd.refl _ w).drewN k) (fun _ h => h.elim)
theorem WhS.less (h : WhS w g now at_ N) (hN : ∀ k, N' k → N k) : WhS w g now at_ N' := by obtain ⟨V, sl, n, h1, h2⟩ := h; exact ⟨V, sl, n, h1.less hN, h2⟩
theorem WhS.more (h : WhS w g now at_ N) (hu : Upd (fun _ => False) w w') (hN : ∀ k, N' k → k < w.heap.size → N k) : WhS w' g now at_ N' := by obtain ⟨V, sl, n, h1, h2⟩ := h; exact ⟨V, sl, n, h1.more hu hN, h2⟩
theorem WB.congr {n : Nat} {V : Nat → Value} (h : WB w g now V at_ n) (e : ∀ i, i < 256 → at' i = at_ i) : WB w g now V at' n := by
  obtain ⟨cs, h1, h2, h3, h4, h5⟩ := h
  exact ⟨cs, h1, h2, h3, fun i hi => by rw [e i hi]; exact h4 i hi, h5⟩
theorem WhS.congr (h : WhS w g now at_ N) (e : ∀ i, i < 256 → at' i = at_ i) : WhS w g now at' N := by
  obtain ⟨V, sl, n, h1, h2, h3, h4⟩ := h
  exact ⟨V, sl, n, ⟨h1.b.congr e, h1.s, h1.d, h1.ng, h1.nk⟩, h2.congr e, h3.trans (cntA_congr 256 (fun i hi => (e i hi).symm)), h4⟩
theorem WhS.ok (h : WhS w g now at_ N) : (∀ i, i < 256 → okT now (at_ i)) ∧ now ≤ 4611686018427387904 := by obtain ⟨V, sl, n, h1, h2, h3, h4⟩ := h; exact ⟨h2.h, h4⟩
end
theorem whenE_no {at_ : Nat → Int} {id : Int} (h : (whenE at_ id).2 = false) : whenE at_ id = (0, false) := by
  unfold whenE at *
  split at h
  · split at h
    · rw [if_pos ‹_›, if_pos ‹_›]
    · cases h
  · rw [if_neg ‹_›]
theorem whenE_yes {at_ : Nat → Int} {id : Int} (h : (whenE at_ id).2 = true) : ∃ i : Nat, id = i ∧ i < 256 ∧ at_ i ≠ -1 ∧ whenE at_ id = (at_ i, true) := by
  unfold whenE at *
  split at h
  · rename_i h1
    split at h
    · cases h
    · rename_i h2
      exact ⟨id.toNat, by omega, by omega, h2, by rw [if_pos h1, if_neg h2]⟩
  · cases h

set_option maxRecDepth 100000 in
set_option maxHeartbeats 6400000 in
theorem cancelC (w : World) (g now : Nat) (at_ : Nat → Int) (N : Nat → Prop) (h : WhS w g now at_ N) (hN : ∀ k, N k → k < w.heap.size) (id : Int) :
    Calls Try.prog 13 #[.pointer (some ⟨g, 0, none⟩), .int .i64 id] w fun e w' => e = .returned (.bool (whenE at_ id).2) ∧ WhS w' g now (if (whenE at_ id).2 = true then fput at_ id.toNat (-1) else at_) N ∧ Upd (fun k => ¬ N k) w w' := by
  obtain ⟨V, sl, n, h1, h2, h3, h4⟩ := h
  have R0 := Lib.hid h1
  have U1 : Hid (Upd (fun _ => False) w (w.alloc (.cells #[.int .i64 id] 3))) := Lib.hid ((Upd.refl _ w).alloc _)
  have B1 : Hid (Blk (w.alloc (.cells #[.int .i64 id] 3)) w.heap.size 3 #[.int .i64 id]) := Lib.hid (Blk.new w _ _)
  have R1 : Hid (WhR (w.alloc (.cells #[.int .i64 id] 3)) g now V at_ n sl (fun k => N k ∨ k = w.heap.size)) := Lib.hid (h1.more U1.out (fun k h h' => by rcases h with h | h; exact h; omega))
  have HI := Lib.hid h2; have H3 := Lib.hid h3; have H4 := Lib.hid h4; have HN := Lib.hid hN
  have HW1 : Hid (w.heap.size < (w.alloc (.cells #[.int .i64 id] 3)).heap.size) := Lib.hid (by simp)
  have HWH := Lib.hid (whenC _ g now n V at_ R1.out.b id)
  clear h1 h2 h3 h4 hN
  cases hw : (whenE at_ id).2 with
  | false =>
    have HE := Lib.hid (whenE_no hw)
    clear hw
    go_enter Try.func13, Try.ntmps13
    go_wp2_with fail
    refine HWH.out.mono ?_
    rintro e w2 ⟨he, k1, rfl⟩
    rw [HE.out] at he
    have he' : e = .returned (.tuple #[.int .i64 0, .bool false]) := he
    clear he
    subst he'
    go_wp2_with fail
    go_returns
    exact ⟨rfl, ⟨V, sl, n, (R1.out.less (fun k h => .inl h)).drewN _, HI.out, H3.out, H4.out⟩, (U1.out.mono (fun _ _ h => h.elim)).drewN _⟩
  | true =>
    obtain ⟨i, rfl, hi, hs, hE⟩ := whenE_yes hw
    have hok := (HI.out.h i hi).resolve_left hs
    obtain ⟨t, ht⟩ : ∃ t : Nat, at_ i = t := ⟨(at_ i).toNat, by omega⟩
    have htt : (at_ i).toNat = t := by omega
    have hmem : i ∈ sl (plc now t) := by rw [HI.out.m _ (plc_lt _ _), htt]; exact ⟨hi, hs, rfl⟩
    have ht2 : t ≤ 4611686018427387904 := by omega
    have HIN := Lib.hid (HI.out.cancel i hi hs)
    have HCN := Lib.hid (cntA_cancel at_ i 256 hi hs)
    rw [htt] at HIN
    rw [ht] at hE
    have HE := Lib.hid hE
    have hlen := HI.out.len (plc now t) (plc_lt _ _)
    have hpos : 0 < (sl (plc now t)).length := by
      cases hsl : sl (plc now t) with
      | nil => rw [hsl] at hmem; cases hmem
      | cons => simp
    obtain ⟨b, o, cp, hV, _, hbl, _, _⟩ := (R0.out.s (plc now t) (plc_lt _ _)).form hpos
    have HV := Lib.hid hV
    have HBL := Lib.hid hbl
    have HLEN := Lib.hid hlen
    have HPL : Hid (plc now t = lev now t * 16 + dig t (lev now t)) := Lib.hid rfl
    have hL := lev_le now t
    have hD := dig_lt t (lev now t)
    have HPC : Hid (∀ k, Calls Try.prog 25 #[.pointer (some ⟨g, 0, none⟩), .int .i64 (t : Int)] ((w.alloc (.cells #[.int .i64 (i : Int)] 3)).drewN k) fun e w' => e = .returned (.tuple #[.int .i64 (lev now t : Int), .int .i64 (dig t (lev now t) : Int)]) ∧ ∃ m, w' = ((w.alloc (.cells #[.int .i64 (i : Int)] 3)).drewN k).drewN m) :=
      Lib.hid (fun k => placeC _ g now (R1.out.drewN k).b.cnow t ht2 H4.out)
    have HJ : Hid (plc now t < 256) := Lib.hid (plc_lt _ _)
    clear hw hs hE hok ht htt hmem hlen hpos hV hbl ht2
    generalize plc now t = J at *
    generalize lev now t = L at *
    generalize dig t L = D at *
    go_enter Try.func13, Try.ntmps13
    go_wp2_with fail
    refine HWH.out.mono ?_
    rintro e w2 ⟨he, k1, rfl⟩
    rw [HE.out] at he
    have he' : e = .returned (.tuple #[.int .i64 t, .bool true]) := he
    clear he
    subst he'
    go_wp2_with fail
    refine (HPC.out _).mono ?_
    rintro e w3 ⟨rfl, k2, rfl⟩
    have RW := Lib.hid (R1.out.drewN (k1 + k2))
    have BW := Lib.hid (B1.out.drewN (k1 + k2))
    have UW : Hid (Upd (fun k => ¬ N k) w ((w.alloc (.cells #[.int .i64 (i : Int)] 3)).drewN (k1 + k2))) := Lib.hid ((U1.out.mono (fun _ _ h => h.elim)).drewN (k1 + k2))
    have HNW : Hid (∀ k, N k ∨ k = w.heap.size → k < ((w.alloc (.cells #[.int .i64 (i : Int)] 3)).drewN (k1 + k2)).heap.size) := Lib.hid (fun k hk => by
      rcases hk with hk | hk
      · exact Nat.lt_of_lt_of_le (HN.out k hk) UW.out.size
      · rw [hk]; exact HW1.out)
    clear R1 B1 U1 HW1 HWH HPC HE R0
    go_upto_region 6 with fail
    generalize (w.alloc (.cells #[.int .i64 (i : Int)] 3)).drewN (k1 + k2) = W at *
    have HBN := Lib.hid HBL.out
    obtain ⟨B, hB⟩ : ∃ B, w.heap.size = B := ⟨_, rfl⟩
    rw [hB] at HBN BW RW HNW
    have hNe : Hid (B ≠ b) := Lib.hid (by have := HBN.out; omega)
    have hLz : (L : Int) < 16 := by omega
    have hDz : (D : Int) < 16 := by omega
    have dL0 : decide ((L : Int) < 0) = false := decide_eq_false (by omega)
    have dD0 : decide ((D : Int) < 0) = false := decide_eq_false (by omega)
    have e9 : Hid (1 + J = 1 + L * 16 + D) := Lib.hid (by have := HPL.out; omega)
    have cs := RW.out.b.cslot J HJ.out
    rw [HV.out, e9.out] at cs
    have SJ : Hid (SlR encN W 0 3 1 (.slice (some ⟨b, o, none⟩) (sl J).length cp) (sl J)) := Lib.hid (by rw [← HV.out]; exact RW.out.s J HJ.out)
    have HDel := Lib.hid (deleteC W B i BW.out.lt (BW.out.cell 0) b o cp (sl J) SJ.out hNe.out (by have := HLEN.out; omega))
    obtain ⟨lf, hlf⟩ : ∃ lf, (sl J).filter (fun x => !decide (x = i)) = lf := ⟨_, rfl⟩
    rw [hlf] at HDel HIN
    clear hlf
    have HBe := Lib.hid hB
    rw [hB]
    clear hB
    go_wp2_with fail
    refine HDel.out.mono ?_
    rintro e w4 ⟨rfl, hs4, hU4⟩
    have hPS := RW.out.putSlot (w' := w4) J HJ.out (.slice (some ⟨b, o, none⟩) lf.length cp) lf (hU4.mono (fun k _ e => by rw [HV.out, e]; rfl)) hs4 (fun k hk => .inl (by rw [HV.out]; exact hk)) HNW.out
    have hB4 := RW.out.b.upd hU4 (fun e => RW.out.far J HJ.out g (by rw [HV.out, e]; rfl) rfl)
    have c4 := hB4.cslot J HJ.out
    have f4 := hB4.frozen (1 + J)
    rw [HV.out] at c4
    rw [e9.out] at c4 f4 hPS
    have HPS := Lib.hid hPS
    clear hs4 hU4 hPS hB4 cs
    go_upto_region 7 with fail
    have R5 := Lib.hid HPS.out.1
    have U5 := Lib.hid HPS.out.2
    have B5 := Lib.hid (BW.out.upd U5.out (fun h => h (.inr rfl)))
    clear HPS HDel SJ c4 f4
    generalize w4.setCell ⟨g, 1 + L * 16 + D, none⟩ (.slice (some ⟨b, o, none⟩) lf.length cp) = W5 at *
    have c5 : W5.cell? ⟨B, 0, none⟩ = some (.int .i64 (i : Int)) := B5.out.cell 0
    have a5 := R5.out.b.cat i hi
    have f5 := R5.out.b.frozen (257 + i)
    have di0 : decide ((i : Int) < 0) = false := decide_eq_false (by omega)
    have hiz : (i : Int) < 256 := by omega
    go_region
    have hA := R5.out.setAt i hi (-1)
    have R7 : Hid (WhR (W5.setCell ⟨g, 257 + i, none⟩ (.int .i64 (-1))).drew g now _ (fput at_ i (-1)) n _ _) := Lib.hid (hA.1.still ((Upd.refl _ _).drew))
    have U7 : Hid (Upd (fun k => ¬ (N k ∨ k = B)) W5 (W5.setCell ⟨g, 257 + i, none⟩ (.int .i64 (-1))).drew) := Lib.hid (hA.2.drew)
    clear hA c5 a5 f5
    generalize (W5.setCell ⟨g, 257 + i, none⟩ (.int .i64 (-1))).drew = W7 at *
    obtain ⟨m, hm⟩ : ∃ m, cntA (fput at_ i (-1)) 256 = m := ⟨_, rfl⟩
    have hn : n = m + 1 := by rw [H3.out, ← HCN.out, hm]
    have hmb : m ≤ 256 := by rw [← hm]; exact cntA_le _ _
    have HM := Lib.hid hm
    subst hn
    have c7 := R7.out.b.cset
    have f7 := R7.out.b.frozen 513
    have HRC := Lib.hid (R7.out.setCnt m)
    clear hm
    go_wp2_with fail
    go_returns
    have hF := HRC.out
    have hU : Upd (fun k => ¬ N k) w (W7.setCell ⟨g, 513, none⟩ (.int .i64 (m : Int))) :=
      UW.out.trans (((U5.out.trans U7.out).trans hF.2).mono (fun k _ h e => h (.inl e)))
    refine ⟨rfl, ⟨_, _, m, hF.1.less (fun k h => .inl h), HIN.out, HM.out.symm, H4.out⟩, hU⟩
end Go.Proofs.Ytcljgejalacccaa
