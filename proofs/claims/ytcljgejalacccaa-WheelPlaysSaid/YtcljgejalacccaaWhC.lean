/-
  The wheel: lay.
-/
import Derived.Test.YtcljgejalacccaaWhB
import Derived.Test.YtcljgejalacccaaSeqU
import Derived.Deep.CutBlock
namespace Go.Proofs.Ytcljgejalacccaa
open Go.RowKit
attribute [local go_sem] max_ints min_ints

/-- The wheel, and its slots' lists; none of it lies in a block of N. -/
structure WhR (w : World) (g now : Nat) (V : Nat → Value) (at_ : Nat → Int) (n : Nat) (sl : Nat → List Nat) (N : Nat → Prop) : Prop where
  b : WB w g now V at_ n
  s : ∀ j, j < 256 → SlR encN w 0 3 1 (V j) (sl j)
  d : ∀ i j, i < 256 → j < 256 → i ≠ j → ∀ k, slBlk (V i) = some k → slBlk (V j) ≠ some k
  ng : ¬ N g
  nk : ∀ j, j < 256 → ∀ k, slBlk (V j) = some k → ¬ N k
section
variable {w w' : World} {g now n : Nat} {V : Nat → Value} {at_ : Nat → Int} {sl : Nat → List Nat} {N N' S : Nat → Prop}
theorem WhR.far (h : WhR w g now V at_ n sl N) (j : Nat) (hj : j < 256) : ∀ k, slBlk (V j) = some k → k ≠ g := fun k hk => by
  obtain ⟨_, _, cur, hc⟩ := Sl.blk (h.s j hj) k hk
  exact h.b.ne_ hc (by decide)
theorem WhR.upd (h : WhR w g now V at_ n sl N) (hu : Upd S w w') (hS : ∀ k, S k → k < w.heap.size → N k) : WhR w' g now V at_ n sl N :=
  ⟨h.b.upd hu (fun e => h.ng (hS g e h.b.lt)), fun j hj => SlR.upd (h.s j hj) hu (fun k hk e => h.nk j hj k hk (hS k e (Sl.blk (h.s j hj) k hk).2.1)), h.d, h.ng, h.nk⟩
theorem WhR.still (h : WhR w g now V at_ n sl N) (hu : Upd (fun _ => False) w w') : WhR w' g now V at_ n sl N := h.upd hu (fun _ h => h.elim)
theorem WhR.drewN (h : WhR w g now V at_ n sl N) (k : Nat) : WhR (w.drewN k) g now V at_ n sl N := h.still ((Upd.refl _ w).drewN k)
theorem WhR.setN (h : WhR w g now V at_ n sl N) (hg : ¬ N' g) (hk : ∀ j, j < 256 → ∀ k, slBlk (V j) = some k → ¬ N' k) : WhR w g now V at_ n sl N' := ⟨h.b, h.s, h.d, hg, hk⟩
theorem WhR.less (h : WhR w g now V at_ n sl N) (hN : ∀ k, N' k → N k) : WhR w g now V at_ n sl N' := ⟨h.b, h.s, h.d, fun e => h.ng (hN _ e), fun j hj k hk e => h.nk j hj k hk (hN _ e)⟩
/-- New blocks may be added to N. -/
theorem WhR.more (h : WhR w g now V at_ n sl N) (hu : Upd (fun _ => False) w w') (hN : ∀ k, N' k → k < w.heap.size → N k) : WhR w' g now V at_ n sl N' := by
  have h' := h.still hu
  exact h'.setN (fun e => h.ng (hN g e h.b.lt)) (fun j hj k hk e => h.nk j hj k hk (hN k e (Sl.blk (h.s j hj) k hk).2.1))
/-- A slot's list is put in. -/
theorem WhR.putSlot (h : WhR w g now V at_ n sl N) (j : Nat) (hj : j < 256) (v : Value) (l : List Nat) (hu : Upd (fun k => slBlk (V j) = some k) w w') (hs : SlR encN w' 0 3 1 v l) (hb : ∀ k, slBlk v = some k → slBlk (V j) = some k ∨ w.heap.size ≤ k)
    (hN : ∀ k, N k → k < w.heap.size) : WhR (w'.setCell ⟨g, 1 + j, none⟩ v) g now (fput V j v) at_ n (fput sl j l) N ∧ Upd (fun k => ¬ N k) w (w'.setCell ⟨g, 1 + j, none⟩ v) := by
  have hB := h.b.upd hu (fun e => h.far j hj g e rfl)
  have hU2 : Upd (fun k => k = g) w' (w'.setCell ⟨g, 1 + j, none⟩ v) := (Upd.refl (fun k => k = g) w').setCell (p := ⟨g, 1 + j, none⟩) (fun _ => rfl) v
  have hvn : ∀ k, slBlk v = some k → ¬ N k := fun k hk e => by
    rcases hb k hk with h1 | h1
    · exact h.nk j hj k h1 e
    · have := hN k e; omega
  have hlt : ∀ i, i < 256 → ∀ k, slBlk (V i) = some k → k < w.heap.size := fun i hi k hk => (Sl.blk (h.s i hi) k hk).2.1
  refine ⟨⟨hB.setSlot j hj v, fun i hi => ?_, fun i i' hi hi' hne k hk => ?_, h.ng, fun i hi k hk => ?_⟩, ?_⟩
  · by_cases e : i = j
    · subst e
      rw [fput_eq, fput_eq]
      exact SlR.upd hs hU2 (fun k hk e => by
        obtain ⟨_, _, cur, hc⟩ := Sl.blk hs k hk
        exact hB.ne_ hc (by decide) e)
    · rw [fput_ne _ _ e, fput_ne _ _ e]
      refine SlR.upd (SlR.upd (h.s i hi) hu (fun k hk e2 => h.d i j hi hj e k hk e2)) hU2 (fun k hk e2 => h.far i hi k hk e2)
  · by_cases e : i = j
    · subst e
      rw [fput_eq] at hk
      rw [fput_ne _ _ (fun e => hne e.symm)]
      intro hk2
      rcases hb k hk with h1 | h1
      · exact h.d i i' hi hi' hne k h1 hk2
      · have := hlt i' hi' k hk2; omega
    · rw [fput_ne _ _ e] at hk
      by_cases e2 : i' = j
      · subst e2
        rw [fput_eq]
        intro hk2
        rcases hb k hk2 with h1 | h1
        · exact h.d i i' hi hi' hne k hk h1
        · have := hlt i hi k hk; omega
      · rw [fput_ne _ _ e2]; exact h.d i i' hi hi' hne k hk
  · by_cases e : i = j
    · subst e; rw [fput_eq] at hk; exact hvn k hk
    · rw [fput_ne _ _ e] at hk; exact h.nk i hi k hk
  · refine (hu.mono (fun k _ e => h.nk j hj k e)).trans (hU2.mono (fun k _ e => by subst e; exact h.ng))
theorem WhR.setAt (h : WhR w g now V at_ n sl N) (i : Nat) (hi : i < 256) (t : Int) : WhR (w.setCell ⟨g, 257 + i, none⟩ (.int .i64 t)) g now V (fput at_ i t) n sl N ∧ Upd (fun k => ¬ N k) w (w.setCell ⟨g, 257 + i, none⟩ (.int .i64 t)) := by
  have hU2 : Upd (fun k => k = g) w (w.setCell ⟨g, 257 + i, none⟩ (.int .i64 t)) := (Upd.refl (fun k => k = g) w).setCell (p := ⟨g, 257 + i, none⟩) (fun _ => rfl) _
  exact ⟨⟨h.b.setAt i hi t, fun j hj => SlR.upd (h.s j hj) hU2 (h.far j hj), h.d, h.ng, h.nk⟩, hU2.mono (fun k _ e => by subst e; exact h.ng)⟩
theorem WhR.setCnt (h : WhR w g now V at_ n sl N) (m : Nat) : WhR (w.setCell ⟨g, 513, none⟩ (.int .i64 (m : Int))) g now V at_ m sl N ∧ Upd (fun k => ¬ N k) w (w.setCell ⟨g, 513, none⟩ (.int .i64 (m : Int))) := by
  have hU2 : Upd (fun k => k = g) w (w.setCell ⟨g, 513, none⟩ (.int .i64 (m : Int))) := (Upd.refl (fun k => k = g) w).setCell (p := ⟨g, 513, none⟩) (fun _ => rfl) _
  exact ⟨⟨h.b.setN m, fun j hj => SlR.upd (h.s j hj) hU2 (h.far j hj), h.d, h.ng, h.nk⟩, hU2.mono (fun k _ e => by subst e; exact h.ng)⟩
theorem WhR.setNow (h : WhR w g now V at_ n sl N) (m : Nat) : WhR (w.setCell ⟨g, 0, none⟩ (.int .i64 (m : Int))) g m V at_ n sl N ∧ Upd (fun k => ¬ N k) w (w.setCell ⟨g, 0, none⟩ (.int .i64 (m : Int))) := by
  have hU2 : Upd (fun k => k = g) w (w.setCell ⟨g, 0, none⟩ (.int .i64 (m : Int))) := (Upd.refl (fun k => k = g) w).setCell (p := ⟨g, 0, none⟩) (fun _ => rfl) _
  exact ⟨⟨h.b.setNow m, fun j hj => SlR.upd (h.s j hj) hU2 (h.far j hj), h.d, h.ng, h.nk⟩, hU2.mono (fun k _ e => by subst e; exact h.ng)⟩
end
theorem add_at (B j : Nat) : (⟨B, 0, none⟩ : Addr).add j = ⟨B, j, none⟩ := by unfold Addr.add; split <;> simp_all

set_option maxRecDepth 100000 in
set_option maxHeartbeats 3200000 in
theorem layC (w : World) (g now n : Nat) (V : Nat → Value) (at_ : Nat → Int) (sl : Nat → List Nat) (N : Nat → Prop) (h : WhR w g now V at_ n sl N) (hN : ∀ k, N k → k < w.heap.size) (id t : Nat) (hid : id < 256) (ht : at_ id = (t : Int)) (ht2 : t ≤ 4611686018427387904) (hn : now ≤ 4611686018427387904) (hl : ∀ j, j < 256 → (sl j).length ≤ 1000) :
    Calls Try.prog 24 #[.pointer (some ⟨g, 0, none⟩), .int .i64 id] w fun e w' => e = .returned (.tuple #[]) ∧ (∃ V', WhR w' g now V' at_ n (fput sl (plc now t) (sl (plc now t) ++ [id])) N) ∧ Upd (fun k => ¬ N k) w w' := by
  have c0 := h.b.cat id hid
  rw [ht] at c0
  have hnow := h.b.cnow
  have hL := lev_le now t
  have hD := dig_lt t (lev now t)
  have H := Lib.hid h
  have HN := Lib.hid hN
  have HL := Lib.hid hl
  have HP := Lib.hid (placeC w g now hnow t ht2 hn)
  have d0 : decide ((id : Int) < 0) = false := decide_eq_false (by omega)
  clear h hN hl hnow ht
  go_enter Try.func24, Try.ntmps24
  go_wp2_with fail
  refine HP.out.mono ?_
  rintro e w1 ⟨rfl, k1, rfl⟩
  have hPL : Hid (plc now t = lev now t * 16 + dig t (lev now t)) := Lib.hid rfl
  generalize lev now t = L at *
  generalize dig t L = D at *
  obtain ⟨J, hJe⟩ : ∃ J, plc now t = J := ⟨_, rfl⟩
  have HJE := Lib.hid hJe
  rw [hJe] at hPL
  clear hJe
  have H1 := Lib.hid (H.out.drewN k1)
  have HU1 := Lib.hid ((Upd.refl (fun k => ¬ N k) w).drewN k1)
  have HN1 : Hid (∀ k, N k → k < (w.drewN k1).heap.size) := Lib.hid (fun k hk => HN.out k hk)
  clear HP H HN
  go_upto_region 1 with fail
  generalize w.drewN k1 = W at *
  have hJ : J < 256 := by have := hPL.out; omega
  have HJ := Lib.hid hJ
  obtain ⟨A, cp, hsh⟩ := (H1.out.s J hJ).shape
  have HSH := Lib.hid hsh
  have hlen : (sl J).length ≤ 1000 := HL.out J hJ
  obtain ⟨m, hm⟩ : ∃ m, (sl J).length = m := ⟨_, rfl⟩
  have HM := Lib.hid hm
  rw [hm] at hsh hlen
  have HOld : Hid (∀ wx, Upd (fun k => W.heap.size ≤ k) W wx → WhR wx g now V at_ n sl N) := Lib.hid (fun wx hu => H1.out.upd hu (fun k h1 h2 => absurd h1 (by omega)))
  have HSS : Hid (∀ wx, Upd (fun k => W.heap.size ≤ k) W wx → wx.cell? ⟨g, 1 + L * 16 + D, none⟩ = some (.slice A m cp)) := Lib.hid (fun wx hu => by
    have := (HOld.out wx hu).b.cslot J HJ.out
    rw [hsh, hPL.out, ← Nat.add_assoc] at this
    exact this)
  have HST := Lib.hid (HSS.out _ ((Upd.refl _ W).drew))
  have HFZ : Hid (∀ wx, Upd (fun k => W.heap.size ≤ k) W wx → ∀ i, wx.frozen? ⟨g, i, none⟩ = false) := Lib.hid (fun wx hu i => (HOld.out wx hu).b.frozen i)
  have hLz : (L : Int) < 16 := by omega
  have hDz : (D : Int) < 16 := by omega
  have dL0 : decide ((L : Int) < 0) = false := decide_eq_false (by omega)
  have dD0 : decide ((D : Int) < 0) = false := decide_eq_false (by omega)
  obtain ⟨i0, hi0, hz0, hz1, hz2⟩ := info_parts infoIn
  clear hsh hm hJ
  refine wp_region_treeC (.q 0 (.q 1 (.q 2 (.q 3 (.q 4 (.q 5 (.q 6 (.q 7 (.q 8 (.q 9 (.q 10 (.q 11 (.q 14 (.q 15 (.q 16 (.l 12 (.l 13 (.l 17 (.l 18 .d))))))))))))))))))) (fun i => decide (18 ≤ i ∧ i < 19)) (fun w' => w'.cell? ⟨g, 1 + L * 16 + D, none⟩ = some (.slice A m cp))
    (by kernel_rfl) (by kernel_rfl) (by kernel_rfl) (fun t ht => by have := of_decide_eq_true ht; exact this.2) (fun _ _ _ _ _ h => h) (by kernel_rfl) rfl HST.out ?_
  iterate 15
    refine' wpOT_q (by rfl) (by rfl) (fun w' hS' => ?_) ?_
    rotate_left
    · go_simp
      try rfl
    try simp only [Act.put, List.setIfInBounds_toArray, List.set_cons_zero, List.set_cons_succ]
  have UA : Hid (Upd (fun k => W.heap.size ≤ k) W W.drew) := Lib.hid ((Upd.refl _ W).drew)
  generalize W.drew = w3 at *
  refine wpOT_l (by rfl) (by rfl) (fun KQ hKQ => ?_)
  go_simp
  have UB := Lib.hid (UA.out.alloc (.cells #[.int .i64 id] 3))
  have BN := Lib.hid (Blk.new w3 3 #[.int .i64 (id : Int)])
  refine hKQ _ _ (.inr (HSS.out _ UB.out)) ?_
  clear hKQ KQ
  try simp only [Act.put, List.setIfInBounds_toArray, List.set_cons_zero, List.set_cons_succ]
  generalize w3.alloc (.cells #[.int .i64 id] 3) = w5 at *
  generalize w3.heap.size = bN at *
  have S5 : Hid (Sl w5 0 3 1 (.slice A m cp) m (rws encN (sl J))) := Lib.hid (by
    have := (HOld.out _ UB.out).s J HJ.out
    unfold SlR at this
    rw [HSH.out, HM.out] at this
    exact this)
  refine wpOT_l (by rfl) (by rfl) (fun KQ hKQ => ?_)
  refine wp_append_sl (.tmp 27) (.tmp 29) 30 rfl 0 3 i0 _ 1 8 Try.underlying30 hi0 hz0 hz1 hz2 rfl (by decide) (.slice A m cp) m (rws encN (sl J)) rfl S5.out ⟨bN, 0, none⟩ 1 [.int .i64 (id : Int)] rfl rfl (fun j u hu => by rw [add_at, BN.out.cell j]; simpa using hu) (by simp [Value.oneCell']) (by unfold maxLen; omega) (by omega) (Nat.zero_le _) ?_
  intro v9 wZ hs1 hu1 hv1
  obtain ⟨bz, oz, cz, rfl, _, _, _, _⟩ := hs1.form (by omega)
  have hsz5 : W.heap.size ≤ w5.heap.size := UB.out.size
  have hPS := (HOld.out _ UB.out).putSlot (w' := wZ) J HJ.out (.slice (some ⟨bz, oz, none⟩) (m + 1) cz) (sl J ++ [id]) (by rw [HSH.out, HM.out]; exact hu1) (by
    unfold SlR
    rw [List.length_append, rws_append, HM.out]
    exact hs1) (fun k hk => by rw [HSH.out, HM.out]; exact hv1 k hk) (fun k hk => Nat.lt_of_lt_of_le (HN1.out k hk) hsz5)
  have HPS := Lib.hid hPS
  have UZW : Hid (Upd (fun k => ¬ N k) W w5) := Lib.hid (UB.out.mono (fun k h1 h2 => absurd h2 (by omega)))
  have c9 : wZ.cell? ⟨g, 1 + L * 16 + D, none⟩ = some (.slice A m cp) := by
    have hB := (HOld.out _ UB.out)
    have := hB.b.upd hu1 (fun e => hB.far J HJ.out g (by rw [HSH.out, HM.out]; exact e) rfl)
    have := this.cslot J HJ.out
    rw [HSH.out, HM.out, hPL.out, ← Nat.add_assoc] at this
    exact this
  have f9 : wZ.frozen? ⟨g, 1 + L * 16 + D, none⟩ = false := by
    have hB := (HOld.out _ UB.out)
    exact (hB.b.upd hu1 (fun e => hB.far J HJ.out g (by rw [HSH.out, HM.out]; exact e) rfl)).frozen _
  have C9 := Lib.hid c9
  have F9 := Lib.hid f9
  clear hs1 hu1 hv1 hPS c9 f9
  refine hKQ _ _ (.inr C9.out) ?_
  clear hKQ KQ
  try simp only [Act.put, List.setIfInBounds_toArray, List.set_cons_zero, List.set_cons_succ]
  refine wpOT_l (by rfl) (by rfl) (fun KQ hKQ => ?_)
  go_simp
  refine hKQ _ _ (.inr C9.out) ?_
  clear hKQ KQ
  try simp only [Act.put, List.setIfInBounds_toArray, List.set_cons_zero, List.set_cons_succ]
  have c9 := C9.out
  have f9 := F9.out
  refine wpOT_l (by rfl) (by rfl) (fun KQ hKQ => ?_)
  go_simp
  refine hKQ _ _ (.inl (by rfl)) ?_
  clear hKQ KQ
  try simp only [Act.put, List.setIfInBounds_toArray, List.set_cons_zero, List.set_cons_succ]
  refine wpOT_d ?_
  go_wp2_with fail
  go_returns
  have h9 := HPS.out
  have e9 : 1 + J = 1 + L * 16 + D := by have := hPL.out; omega
  rw [e9] at h9
  rw [HJE.out]
  exact ⟨rfl, ⟨_, h9.1⟩, (HU1.out.trans UZW.out).trans (h9.2.mono (fun k _ h => h))⟩
end Go.Proofs.Ytcljgejalacccaa
