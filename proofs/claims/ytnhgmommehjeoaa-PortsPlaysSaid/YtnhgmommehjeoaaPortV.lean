/-
  The document's ports: New.
-/
import Derived.Test.YtnhgmommehjeoaaPortU
namespace Go.Proofs.Ytnhgmommehjeoaa
open Go.RowKit
attribute [local go_sem] max_ints min_ints

def newY (c : Ch) : PM × Value := (PM.new c, .slice none 0 0)
theorem newY_fst (cs : List Ch) : (cs.map newY).map Prod.fst = cs.map PM.new := by rw [List.map_map]; rfl

set_option maxRecDepth 100000 in
set_option maxHeartbeats 3200000 in
theorem rNew (w : World) (A : Option Addr) (len cap : Nat) (hl : len ≤ 20) (X : Nat → Bool × Int × Int × Int) (hc : Rowbiii w A len X) :
    Calls Try.prog 15 #[.slice A len cap] w fun e w' => e = .returned (.pointer (some ⟨w.heap.size, 0, none⟩)) ∧ RPS w' w.heap.size w.heap.size ((chL X len).map PM.new) ∧ Upd (fun _ => False) w w' := by
  have HC := Lib.hid hc
  obtain ⟨i0, hi0, hz0, hz1, hz2⟩ := info_parts infoPR
  clear hc
  go_enter Try.func15, Try.ntmps15
  go_wp2_with fail
  have B0 := Lib.hid (Blk.new w 72 #[.slice none 0 0])
  have U0 := Lib.hid ((Upd.refl (fun _ => False) w).alloc (.cells #[.slice none 0 0] 72))
  obtain ⟨P, hP⟩ : ∃ P, w.heap.size = P := ⟨_, rfl⟩
  rw [hP] at B0 ⊢
  have HP := Lib.hid hP
  clear hP
  go_loopw [4] (fun vi wr => ∃ (i : Nat) (v : Value), i ≤ len ∧ vi = .int .i64 i ∧ RPY wr P P v ((chL X i).map newY) ∧ Upd (fun _ => False) w wr) (fun vi _ => len - (intOf vi).toNat)
  case atStart =>
    exact ⟨0, .slice none 0 0, by omega, rfl, ⟨B0.out, Nat.le_refl _, SlR.nil, fun y hy => by simp [chL] at hy⟩, U0.out⟩
  case round =>
    obtain ⟨i, v, hi, rfl, hS, hU⟩ := hrel
    have HS := Lib.hid hS; have HU := Lib.hid hU
    clear hS hU
    by_cases hlt : i < len
    · obtain ⟨b, o, rfl, hb, g0, g1, g2, g3⟩ := HC.out i hlt
      have HNX := Lib.hid (chL_succ X i)
      have hcl := chL_len X i
      obtain ⟨⟨x0, x1, x2, x3⟩, hX⟩ : ∃ q, X i = q := ⟨_, rfl⟩
      rw [hX] at g0 g1 g2 g3 HNX
      clear hX
      dsimp only at g0 g1 g2 g3
      obtain ⟨cs, hcs⟩ : ∃ cs, chL X i = cs := ⟨_, rfl⟩
      rw [hcs] at HS HNX hcl
      clear hcs
      have hb1 : b ≠ P := by have := HP.out; omega
      obtain ⟨AK, cK, hsh⟩ := HS.out.2.2.1.shape
      rw [List.length_map, hcl] at hsh
      subst hsh
      have hC : ∀ wx, Upd (fun k => P ≤ k) wr wx → wx.cell? ⟨b, o + i * 4, none⟩ = some (.bool x0) ∧ wx.cell? ⟨b, o + i * 4 + 1, none⟩ = some (.int .i64 x1) ∧ wx.cell? ⟨b, o + i * 4 + 2, none⟩ = some (.int .i64 x2) ∧ wx.cell? ⟨b, o + i * 4 + 3, none⟩ = some (.int .i64 x3) := fun wx hu => by
        have h1 := HU.out.mono (S' := fun k => P ≤ k) (fun _ _ h => h.elim)
        have h2 := h1.trans hu
        have hn : ¬ P ≤ b := by have := HP.out; omega
        exact ⟨(h2.cell (p := ⟨b, _, none⟩) hb hn).trans g0, (h2.cell (p := ⟨b, _, none⟩) hb hn).trans g1, (h2.cell (p := ⟨b, _, none⟩) hb hn).trans g2, (h2.cell (p := ⟨b, _, none⟩) hb hn).trans g3⟩
      have HCC := Lib.hid hC
      have hPl := HS.out.1.lt
      have HPL := Lib.hid hPl
      have HSS : Hid (∀ wx, Upd (fun k => wr.heap.size ≤ k) wr wx → wx.cell? ⟨P, 0, none⟩ = some (.slice AK i cK) ∧ wx.cell? ⟨b, o + i * 4, none⟩ = some (.bool x0) ∧ wx.cell? ⟨b, o + i * 4 + 1, none⟩ = some (.int .i64 x1) ∧ wx.cell? ⟨b, o + i * 4 + 2, none⟩ = some (.int .i64 x2) ∧ wx.cell? ⟨b, o + i * 4 + 3, none⟩ = some (.int .i64 x3)) := Lib.hid (fun wx hu => by
        have hu' : Upd (fun k => P ≤ k) wr wx := hu.mono (fun k _ h => by omega)
        refine ⟨(HS.out.1.upd hu (by omega)).cell 0, ?_⟩
        exact hC wx hu')
      have HCL := Lib.hid hcl
      clear g0 g1 g2 g3 hC hPl hcl
      go_upto_region 5 with fail
      have HST := Lib.hid (HSS.out _ ((Upd.refl _ wr).drew))
      refine wp_region_tree (.q 0 (.q 1 (.q 2 (.q 3 (.q 4 (.q 5 (.q 6 (.q 7 (.q 8 (.q 9 (.l 10 (.l 11 (.l 12 (.l 13 (.l 14 .d))))))))))))))) (fun i => decide (14 ≤ i ∧ i < 15)) (fun w' => w'.cell? ⟨P, 0, none⟩ = some (.slice AK i cK) ∧ w'.cell? ⟨b, o + i * 4, none⟩ = some (.bool x0) ∧ w'.cell? ⟨b, o + i * 4 + 1, none⟩ = some (.int .i64 x1) ∧ w'.cell? ⟨b, o + i * 4 + 2, none⟩ = some (.int .i64 x2) ∧ w'.cell? ⟨b, o + i * 4 + 3, none⟩ = some (.int .i64 x3))
        (by kernel_rfl) (by kernel_rfl) (fun t ht => by have := of_decide_eq_true ht; exact this.2) (fun _ _ _ _ _ h => h) (by kernel_rfl) rfl HST.out ?_
      iterate 10
        refine' wpOT_q (by rfl) (by rfl) (fun w' hS' => ?_) ?_
        rotate_left
        · obtain ⟨s0, s1, s2, s3, s4⟩ := hS'
          go_simp
          try rfl
        try simp only [Act.put, List.setIfInBounds_toArray, List.set_cons_zero, List.set_cons_succ]
      have UA : Hid (Upd (fun k => wr.heap.size ≤ k) wr wr.drew) := Lib.hid ((Upd.refl _ wr).drew)
      have SA : Hid (RPY wr.drew P P (.slice AK i cK) (cs.map newY)) := Lib.hid (HS.out.upd (S := fun _ => False) ((Upd.refl _ wr).drew) (fun _ _ _ h => h))
      have UAF : Hid (Upd (fun _ => False) w wr.drew) := Lib.hid (HU.out.drew)
      generalize wr.drew = w3 at *
      refine wpOT_l (by rfl) (by rfl) (fun KQ hKQ => ?_)
      go_simp
      have UB := Lib.hid (UA.out.alloc (.cells #[.bool x0, .int .i64 x1, .int .i64 x2, .int .i64 x3, .slice none 0 0, .int .i64 0, .int .i64 0] 74))
      have UBF := Lib.hid (UAF.out.alloc (.cells #[.bool x0, .int .i64 x1, .int .i64 x2, .int .i64 x3, .slice none 0 0, .int .i64 0, .int .i64 0] 74))
      have BN := Lib.hid (Blk.new w3 74 #[.bool x0, .int .i64 x1, .int .i64 x2, .int .i64 x3, .slice none 0 0, .int .i64 0, .int .i64 0])
      have SB : Hid (RPY (w3.alloc (.cells #[.bool x0, .int .i64 x1, .int .i64 x2, .int .i64 x3, .slice none 0 0, .int .i64 0, .int .i64 0] 74)) P P (.slice AK i cK) (cs.map newY)) := Lib.hid (SA.out.upd (S := fun _ => False) ((Upd.refl _ w3).alloc _) (fun _ _ _ h => h))
      refine hKQ _ _ (.inr (HSS.out _ UB.out)) ?_
      clear hKQ KQ
      try simp only [Act.put, List.setIfInBounds_toArray, List.set_cons_zero, List.set_cons_succ]
      generalize w3.alloc (.cells #[.bool x0, .int .i64 x1, .int .i64 x2, .int .i64 x3, .slice none 0 0, .int .i64 0, .int .i64 0] 74) = w5 at *
      generalize w3.heap.size = bN at *
      have hPW : P ≤ w5.heap.size := by have := SB.out.1.lt; omega
      have S5 : Hid (Sl w5 P 74 7 (.slice AK i cK) i (rws encP (cs.map newY))) := Lib.hid (by
        have := SB.out.2.2.1
        unfold SlR at this
        rwa [List.length_map, HCL.out] at this)
      refine wpOT_l (by rfl) (by rfl) (fun KQ hKQ => ?_)
      refine wp_append_sl (.tmp 17) (.tmp 23) 70 rfl P 74 i0 _ 7 72 Try.underlying70 hi0 hz0 hz1 hz2 rfl (by decide) (.slice AK i cK) i (rws encP (cs.map newY)) rfl S5.out ⟨bN, 0, none⟩ 1 [.bool x0, .int .i64 x1, .int .i64 x2, .int .i64 x3, .slice none 0 0, .int .i64 0, .int .i64 0] rfl rfl (fun j u hu => by rw [add_at, BN.out.cell j]; simpa using hu) (by simp [Value.oneCell']) (by unfold maxLen; omega) (by omega) hPW ?_
      intro v9 wZ hs1 hu1 hv1
      obtain ⟨bz, oz, cz, rfl, _, _, _, _⟩ := hs1.form (by omega)
      have hnb := Sl.ne_ S5.out SB.out.1 (by decide)
      have BPZ := Lib.hid (SB.out.1.upd hu1 (fun h => hnb _ h rfl))
      have SZ : Hid (SlR encP wZ P 74 7 (.slice (some ⟨bz, oz, none⟩) (i + 1) cz) ((cs ++ [chX (x0, x1, x2, x3)]).map newY)) := Lib.hid (by
        unfold SlR
        rw [List.map_append, rws_append, List.length_append, List.length_map, HCL.out]
        exact hs1)
      have UZF : Hid (Upd (fun _ => False) w wZ) := Lib.hid (((UBF.out.mono (S' := fun k => P ≤ k) (fun _ _ h => h.elim)).trans (hu1.mono (fun k _ hk => (Sl.blk S5.out k hk).1))).mono (fun k hk h => by have := HP.out; omega))
      have HCZ : Hid (wZ.cell? ⟨b, o + i * 4, none⟩ = some (.bool x0) ∧ wZ.cell? ⟨b, o + i * 4 + 1, none⟩ = some (.int .i64 x1) ∧ wZ.cell? ⟨b, o + i * 4 + 2, none⟩ = some (.int .i64 x2) ∧ wZ.cell? ⟨b, o + i * 4 + 3, none⟩ = some (.int .i64 x3)) :=
        Lib.hid (HCC.out _ ((UB.out.mono (fun k _ h => by have := HPL.out; omega)).trans (hu1.mono (fun k _ hk => (Sl.blk S5.out k hk).1))))
      clear hs1 hu1 hv1 hnb
      refine hKQ _ _ (.inr ⟨BPZ.out.cell 0, HCZ.out⟩) ?_
      clear hKQ KQ
      try simp only [Act.put, List.setIfInBounds_toArray, List.set_cons_zero, List.set_cons_succ]
      iterate 2
        refine wpOT_l (by rfl) (by rfl) (fun KQ hKQ => ?_)
        go_simp
        refine hKQ _ _ (.inr ⟨BPZ.out.cell 0, HCZ.out⟩) ?_
        clear hKQ KQ
        try simp only [Act.put, List.setIfInBounds_toArray, List.set_cons_zero, List.set_cons_succ]
      have fZ := BPZ.out.frozen 0
      have cZ : wZ.cell? ⟨P, 0, none⟩ = some (.slice AK i cK) := BPZ.out.cell 0
      refine wpOT_l (by rfl) (by rfl) (fun KQ hKQ => ?_)
      go_simp
      refine hKQ _ _ (.inl (by rfl)) ?_
      clear hKQ KQ
      try simp only [Act.put, List.setIfInBounds_toArray, List.set_cons_zero, List.set_cons_succ]
      refine wpOT_d ?_
      have hUN : Upd (fun k => k = P) wZ (wZ.setCell ⟨P, 0, none⟩ (.slice (some ⟨bz, oz, none⟩) (i + 1) cz)) := (Upd.refl (fun k => k = P) wZ).setCell (p := ⟨P, 0, none⟩) (fun _ => rfl) _
      have HN : Hid (RPY (wZ.setCell ⟨P, 0, none⟩ (.slice (some ⟨bz, oz, none⟩) (i + 1) cz)) P P (.slice (some ⟨bz, oz, none⟩) (i + 1) cz) ((chL X (i + 1)).map newY)) := Lib.hid (by
        rw [HNX.out]
        refine ⟨by simpa using BPZ.out.set_ 0 (.slice (some ⟨bz, oz, none⟩) (i + 1) cz), Nat.le_refl _, SlR.upd SZ.out hUN (fun k hk e => Sl.ne_ SZ.out BPZ.out (by decide) k hk e), fun y hy => ?_⟩
        obtain ⟨c, _, rfl⟩ := List.mem_map.1 hy
        exact SlR.nil)
      have HUN := Lib.hid ((UZF.out.mono (S' := fun k => k = P) (fun _ _ h => h.elim)).trans hUN)
      clear hUN
      go_wp2_with fail
      go_roundw
      case rel => exact ⟨i + 1, _, by omega, by go_num, HN.out, HUN.out.mono (fun k hk h => by have := HP.out; omega)⟩
      case measure => simp [intOf]; omega
    · have hie : i = len := by omega
      subst hie
      obtain ⟨AK, cK, hsh⟩ := HS.out.2.2.1.shape
      rw [List.length_map, chL_len] at hsh
      subst hsh
      go_wp2_with fail
      go_returns
      rw [HP.out]
      refine ⟨rfl, ?_, HU.out⟩
      have := HS.out.rps
      rwa [newY_fst] at this
end Go.Proofs.Ytnhgmommehjeoaa
