/-
  ports.New. (Written by portn.py.)
-/
import Derived.Test.YtnhgmommehjeoaaPortD
import Derived.Test.YtnhgmommehjeoaaSeqT
import Derived.Deep.CutBlock
namespace Go.Proofs.Ytnhgmommehjeoaa
open Go.RowKit
attribute [local go_sem] max_ints min_ints

def encC (c : Ch) : List Value := [.bool c.q, .int .i64 c.f, .int .i64 c.t, .int .i64 c.sz]
theorem encC_len (c : Ch) : (encC c).length = 4 := rfl
def PM.new (c : Ch) : PM := { c := c, xs := [], lost := 0, at_ := 0 }
theorem add_at (B j : Nat) : (⟨B, 0, none⟩ : Addr).add j = ⟨B, j, none⟩ := by unfold Addr.add; split <;> simp_all
theorem infoPt : (Try.prog.info? 64).map (fun i => (i.zero, i.size, i.bytes)) = some (some .nilIface, 1, 16) := by kernel_rfl

theorem PortIn.updT {w w' : World} {S : Nat → Prop} {lo hi : Nat} {u : Value} {m : PM} (h : PortIn w lo hi u m) (hu : Upd S w w') (hS : ∀ k, S k → ∃ t cs, Blk w k t cs ∧ (t = 52 ∨ t = 64)) : PortIn w' lo hi u m := by
  rcases h with ⟨hq, s, g, d, e, hs, hg, hd, h⟩ | ⟨hq, s, v, has, e, hs, h, hx⟩
  · obtain ⟨arr, first, n, h1, _⟩ := h.r
    refine .inl ⟨hq, s, g, d, e, hs, hg, hd, h.upd hu (fun hk => ?_) (fun hk => ?_) (fun hk => ?_)⟩
    all_goals obtain ⟨t, cs, hB, ht⟩ := hS _ hk
    · exact h.b.ne_ hB (by rcases ht with rfl | rfl <;> decide) rfl
    · exact h1.st.ne_ hB (by rcases ht with rfl | rfl <;> decide) rfl
    · exact h1.ar.ne_ hB (by rcases ht with rfl | rfl <;> decide) rfl
  · refine .inr ⟨hq, s, v, has, e, hs, ⟨h.b.upd hu (fun hk => ?_)⟩, hx⟩
    obtain ⟨t, cs, hB, ht⟩ := hS _ hk
    exact h.b.ne_ hB (by rcases ht with rfl | rfl <;> decide) rfl

/-- One more port. -/
theorem PortsS.open_ {w : World} {b B P : Nat} {ms : List PM} (h : PortsS w b B P ms) :
    ∃ v us, Blk w P 52 #[v] ∧ SlR encU w b 64 1 v us ∧ us.length = ms.length ∧ (∀ k, slBlk v = some k → k < B) ∧ b ≤ P ∧ P < B ∧
      ∀ (S : Nat → Prop) (w' : World) (v' u : Value) (m : PM) (B' : Nat), Upd S w w' → (∀ k, S k → k = P ∨ slBlk v = some k) → Blk w' P 52 #[v'] → SlR encU w' b 64 1 v' (us ++ [u]) → (∀ k, slBlk v' = some k → k < B') → b ≤ B → B ≤ B' → PortIn w' B B' u m → PortsS w' b B' P (ms ++ [m]) := by
  obtain ⟨v, us, lo, hi, h1, h2, h3, h4, h5, h6, h7, h8⟩ := h
  refine ⟨v, us, h1, h4, h6, h5, h2, h3, fun S w' v' u m B' hU hS hP hs hb hbB hB hI => ?_⟩
  refine ⟨v', us ++ [u], fun i => if i < ms.length then lo i else B, fun i => if i < ms.length then hi i else B', hP, h2, by omega, hs, hb, by simp [h6], ?_, ?_⟩
  · intro i j hij hj
    simp only [List.length_append, List.length_cons, List.length_nil] at hj
    dsimp only
    rw [if_pos (by omega)]
    by_cases hj2 : j < ms.length
    · rw [if_pos hj2]; exact h7 i j hij hj2
    · rw [if_neg hj2]
      obtain ⟨u', hu'⟩ : ∃ u', us[i]? = some u' := ⟨_, List.getElem?_eq_getElem (by omega)⟩
      obtain ⟨m', hm'⟩ : ∃ m', ms[i]? = some m' := ⟨_, List.getElem?_eq_getElem (by omega)⟩
      exact (h8 i u' m' hu' hm').2.1
  · intro i u' m' hu' hm'
    dsimp only
    by_cases hi2 : i < ms.length
    · rw [if_pos hi2, if_pos hi2]
      rw [List.getElem?_append_left (by omega)] at hu' hm'
      obtain ⟨g1, g2, g3⟩ := h8 i u' m' hu' hm'
      refine ⟨g1, by omega, g3.updT hU (fun k hk => ?_)⟩
      rcases hS k hk with rfl | hk
      · exact ⟨_, _, h1, .inl rfl⟩
      · obtain ⟨_, _, cur, hc⟩ := Sl.blk h4 k hk
        exact ⟨_, _, hc, .inr rfl⟩
    · rw [if_neg hi2, if_neg hi2]
      rw [List.getElem?_append_right (by omega)] at hu' hm'
      have e1 : i - us.length = 0 := by
        rcases Nat.eq_zero_or_pos (i - us.length) with h | h
        · exact h
        · rw [List.getElem?_eq_none (by simp; omega)] at hu'; cases hu'
      have e2 : i - ms.length = 0 := by omega
      rw [e1] at hu'; rw [e2] at hm'
      simp only [List.getElem?_cons_zero, Option.some.injEq] at hu' hm'
      subst hu' hm'
      exact ⟨hbB, Nat.le_refl _, hI⟩

set_option maxRecDepth 100000 in
set_option maxHeartbeats 3200000 in
theorem portsNew (w : World) (base : Nat) (v : Value) (cs : List Ch) (hv : SlR encC w base 27 4 v cs) (hl : cs.length ≤ 1000) :
    Calls Try.prog 8 #[v] w fun e w' => e = .returned (.pointer (some ⟨w.heap.size, 0, none⟩)) ∧ PortsS w' w.heap.size w'.heap.size w.heap.size (cs.map PM.new) ∧ Upd (fun _ => False) w w' := by
  have HV := Lib.hid hv
  obtain ⟨A0, cap, hsh⟩ := hv.shape
  subst hsh
  obtain ⟨i0, hi0, hz0, hz1, hz2⟩ := info_parts infoPt
  clear hv
  go_enter Try.func8, Try.ntmps8
  go_wp2_with fail
  have B0 := Lib.hid (Blk.new w 52 #[.slice none 0 0])
  have U0 := Lib.hid ((Upd.refl (fun _ => False) w).alloc (.cells #[.slice none 0 0] 52))
  obtain ⟨P, hP⟩ : ∃ P, w.heap.size = P := ⟨_, rfl⟩
  rw [hP] at B0 ⊢
  have HP := Lib.hid hP
  clear hP
  go_loopw [10] (fun vi wr => ∃ i : Nat, i ≤ cs.length ∧ vi = .int .i64 i ∧ PortsS wr P wr.heap.size P ((cs.map PM.new).take i) ∧ Upd (fun _ => False) w wr) (fun vi _ => cs.length - (intOf vi).toNat)
  case atStart =>
    refine ⟨0, by omega, rfl, ⟨.slice none 0 0, [], fun _ => 0, fun _ => 0, B0.out, Nat.le_refl _, B0.out.lt, SlR.nil, (fun k hk => by cases hk), rfl, fun i j _ hj => by simp at hj, fun i u m hu _ => by simp at hu⟩, U0.out⟩
  case round =>
    obtain ⟨i, hi, rfl, hS, hU⟩ := hrel
    have HS := Lib.hid hS; have HU := Lib.hid hU
    clear hS hU
    by_cases hlt : i < cs.length
    · obtain ⟨c, hc⟩ : ∃ c, cs[i]? = some c := ⟨_, List.getElem?_eq_getElem hlt⟩
      have VR := HV.out.still HU.out
      obtain ⟨b, o, cap', he, _, _, _, _⟩ := VR.form (by omega)
      injection he with he _ _
      subst he
      have x0 := VR.cell encC_len i c hc 0 _ rfl
      have x1 := VR.cell encC_len i c hc 1 _ rfl
      have x2 := VR.cell encC_len i c hc 2 _ rfl
      have x3 := VR.cell encC_len i c hc 3 _ rfl
      rw [Nat.add_zero] at x0
      obtain ⟨room, hroom⟩ : ∃ room, (min (max c.sz 0) 4096).toNat = room := ⟨_, rfl⟩
      have HRM : Hid (min (max c.sz 0) 4096 = (room : Int)) := Lib.hid (by omega)
      have HRM2 := Lib.hid hroom
      have HNX : Hid ((cs.map PM.new).take (i + 1) = (cs.map PM.new).take i ++ [PM.new c]) := Lib.hid (by rw [List.take_add_one]; simp [hc])
      clear hroom hc VR
      obtain ⟨qb, hqb⟩ : ∃ qb, c.q = qb := ⟨_, rfl⟩
      have HQB := Lib.hid hqb
      rw [hqb] at x0
      have W1 : Hid (PortsS (wr.alloc (.cells #[.bool qb, .int .i64 c.f, .int .i64 c.t, .int .i64 c.sz] 27)) P wr.heap.size P ((cs.map PM.new).take i)) := Lib.hid (HS.out.still ((Upd.refl _ wr).alloc _))
      have BG := Lib.hid (Blk.new wr 27 #[.bool qb, .int .i64 c.f, .int .i64 c.t, .int .i64 c.sz])
      have U1 := Lib.hid (HU.out.alloc (.cells #[.bool qb, .int .i64 c.f, .int .i64 c.t, .int .i64 c.sz] 27))
      clear hqb
      cases qb
      · go_upto_region 7 with fail
        generalize wr.alloc (.cells #[.bool false, .int .i64 c.f, .int .i64 c.t, .int .i64 c.sz] 27) = W at *
        generalize hG : wr.heap.size = G at *
        obtain ⟨v1, us, o1, o2, o3, o4, o5, o6, hgrow⟩ := W1.out.open_
        have HG := Lib.hid hgrow
        have BP := Lib.hid o1
        have SL := Lib.hid o2
        have HLN := Lib.hid o3
        have HK := Lib.hid o4
        have HPP := Lib.hid (And.intro o5 o6)
        obtain ⟨AK, cK, rfl⟩ := o2.shape
        have fP : ∀ wx, Upd (fun _ => False) W wx → wx.frozen? ⟨P, 0, none⟩ = false := fun wx hu => (BP.out.upd hu (fun h => h)).frozen 0
        have HF := Lib.hid fP
        have hll : us.length ≤ 1000 := by rw [o3, List.length_take, List.length_map]; omega
        have HSS : Hid (∀ wx, Upd (fun _ => False) W wx → wx.cell? ⟨P, 0, none⟩ = some (.slice AK us.length cK) ∧ wx.cell? ⟨G, 0, none⟩ = some (.bool false) ∧ wx.cell? ⟨G, 1, none⟩ = some (.int .i64 c.f) ∧ wx.cell? ⟨G, 2, none⟩ = some (.int .i64 c.t) ∧ wx.cell? ⟨G, 3, none⟩ = some (.int .i64 c.sz)) := Lib.hid (fun wx hu =>
          ⟨(BP.out.upd hu (fun h => h)).cell 0, (BG.out.upd hu (fun h => h)).cell 0, (BG.out.upd hu (fun h => h)).cell 1, (BG.out.upd hu (fun h => h)).cell 2, (BG.out.upd hu (fun h => h)).cell 3⟩)
        have HGW : Hid (G < W.heap.size ∧ G = wr.heap.size) := Lib.hid ⟨BG.out.lt, hG.symm⟩
        clear hgrow o1 o2 o3 o4 o5 o6 fP hG x0 x1 x2 x3
        refine wp_region_tree (.q 0 (.q 1 (.q 2 (.q 3 (.q 4 (.q 5 (.q 6 (.q 7 (.l 8 (.l 9 (.l 10 (.l 11 (.l 12 (.q 13 (.l 14 .d))))))))))))))) (fun i => decide (14 ≤ i ∧ i < 15)) (fun w' => w'.cell? ⟨P, 0, none⟩ = some (.slice AK us.length cK) ∧ w'.cell? ⟨G, 0, none⟩ = some (.bool false) ∧ w'.cell? ⟨G, 1, none⟩ = some (.int .i64 c.f) ∧ w'.cell? ⟨G, 2, none⟩ = some (.int .i64 c.t) ∧ w'.cell? ⟨G, 3, none⟩ = some (.int .i64 c.sz))
          (by kernel_rfl) (by kernel_rfl) (fun t ht => by have := of_decide_eq_true ht; exact this.2) (fun _ _ _ _ _ h => h) (by kernel_rfl) rfl (HSS.out _ ((Upd.refl _ _).drew)) ?_
        iterate 8
          refine' wpOT_q (by rfl) (by rfl) (fun w' hS' => ?_) ?_
          rotate_left
          · obtain ⟨s0, s1, s2, s3, s4⟩ := hS'
            go_simp
            try rfl
          try simp only [Act.put, List.setIfInBounds_toArray, List.set_cons_zero, List.set_cons_succ]
        have UA : Hid (Upd (fun _ => False) W W.drew) := Lib.hid ((Upd.refl _ W).drew)
        generalize W.drew = w2 at *
        have UB := Lib.hid UA.out
        generalize w2 = w3 at *
        refine wpOT_l (by rfl) (by rfl) (fun KQ hKQ => ?_)
        go_simp
        have UC := Lib.hid (UB.out.alloc (.cells #[.bool false, .int .i64 c.f, .int .i64 c.t, .int .i64 c.sz, .int .i64 0, .int .i64 0, .bool false] 62))
        have BS := Lib.hid (Blk.new w3 62 #[.bool false, .int .i64 c.f, .int .i64 c.t, .int .i64 c.sz, .int .i64 0, .int .i64 0, .bool false])
        have HSG : Hid (G ≤ w3.heap.size) := Lib.hid (by have := HGW.out.1; have := UB.out.size; omega)
        refine hKQ _ _ (.inr (HSS.out _ UC.out)) ?_
        clear hKQ KQ
        try simp only [Act.put, List.setIfInBounds_toArray, List.set_cons_zero, List.set_cons_succ]
        generalize w3.alloc (.cells #[.bool false, .int .i64 c.f, .int .i64 c.t, .int .i64 c.sz, .int .i64 0, .int .i64 0, .bool false] 62) = w4 at *
        generalize w3.heap.size = s at *
        refine wpOT_l (by rfl) (by rfl) (fun KQ hKQ => ?_)
        go_simp
        refine hKQ _ _ (.inr (HSS.out _ UC.out)) ?_
        clear hKQ KQ
        try simp only [Act.put, List.setIfInBounds_toArray, List.set_cons_zero, List.set_cons_succ]
        refine wpOT_l (by rfl) (by rfl) (fun KQ hKQ => ?_)
        go_simp
        have UD := Lib.hid (UC.out.alloc (.cells #[.iface 60 (.pointer (some ⟨s, 0, none⟩))] 64))
        have BN := Lib.hid (Blk.new w4 64 #[.iface 60 (.pointer (some ⟨s, 0, none⟩))])
        have BS4 := Lib.hid (BS.out.alloc (.cells #[.iface 60 (.pointer (some ⟨s, 0, none⟩))] 64))
        refine hKQ _ _ (.inr (HSS.out _ UD.out)) ?_
        clear hKQ KQ
        try simp only [Act.put, List.setIfInBounds_toArray, List.set_cons_zero, List.set_cons_succ]
        generalize w4.alloc (.cells #[.iface 60 (.pointer (some ⟨s, 0, none⟩))] 64) = w5 at *
        generalize w4.heap.size = bN at *
        have S5 := Lib.hid (SL.out.still UD.out)
        have hPW : P ≤ w5.heap.size := by have := HPP.out; have := HGW.out.1; have := UD.out.size; omega
        refine wpOT_l (by rfl) (by rfl) (fun KQ hKQ => ?_)
        refine wp_append_sl (.tmp 37) (.tmp 43) 50 rfl P 64 i0 _ 1 16 Try.underlying50 hi0 hz0 hz1 hz2 rfl (by decide) (.slice AK us.length cK) us.length (rws encU us) rfl S5.out ⟨bN, 0, none⟩ 1 [.iface 60 (.pointer (some ⟨s, 0, none⟩))] rfl rfl (fun j u hu => by rw [add_at, BN.out.cell j]; simpa using hu) (by simp [Value.oneCell']) (by unfold maxLen; omega) (by omega) hPW ?_
        intro v9 wZ hs1 hu1 hv1
        obtain ⟨bz, oz, cz, rfl, _, _, _, _⟩ := hs1.form (by omega)
        have SZ : Hid (SlR encU wZ P 64 1 (.slice (some ⟨bz, oz, none⟩) (us.length + 1) cz) (us ++ [.iface 60 (.pointer (some ⟨s, 0, none⟩))])) := Lib.hid (by
          unfold SlR
          rw [List.length_append, rws_append]
          exact hs1)
        have UZ := Lib.hid hu1
        have HZ := Lib.hid hv1
        have BPZ := Lib.hid ((BP.out.upd UD.out (fun h => h)).upd hu1 (fun h => Sl.ne_ S5.out (BP.out.upd UD.out (fun h => h)) (by decide) _ h rfl))
        have BGZ := Lib.hid ((BG.out.upd UD.out (fun h => h)).upd hu1 (fun h => Sl.ne_ S5.out (BG.out.upd UD.out (fun h => h)) (by decide) _ h rfl))
        have BSZ := Lib.hid (BS4.out.upd hu1 (fun h => Sl.ne_ S5.out BS4.out (by decide) _ h rfl))
        clear hs1 hu1 hv1 BS
        refine hKQ _ _ (.inr ⟨BPZ.out.cell 0, BGZ.out.cell 0, BGZ.out.cell 1, BGZ.out.cell 2, BGZ.out.cell 3⟩) ?_
        clear hKQ KQ
        try simp only [Act.put, List.setIfInBounds_toArray, List.set_cons_zero, List.set_cons_succ]
        refine wpOT_l (by rfl) (by rfl) (fun KQ hKQ => ?_)
        go_simp
        refine hKQ _ _ (.inr ⟨BPZ.out.cell 0, BGZ.out.cell 0, BGZ.out.cell 1, BGZ.out.cell 2, BGZ.out.cell 3⟩) ?_
        clear hKQ KQ
        try simp only [Act.put, List.setIfInBounds_toArray, List.set_cons_zero, List.set_cons_succ]
        iterate 1
          refine' wpOT_q (by rfl) (by rfl) (fun w' hS' => ?_) ?_
          rotate_left
          · obtain ⟨s0, s1, s2, s3, s4⟩ := hS'
            go_simp
            try rfl
          try simp only [Act.put, List.setIfInBounds_toArray, List.set_cons_zero, List.set_cons_succ]
        have fZ := BPZ.out.frozen 0
        have cZ : wZ.cell? ⟨P, 0, none⟩ = some (.slice AK us.length cK) := BPZ.out.cell 0
        refine wpOT_l (by rfl) (by rfl) (fun KQ hKQ => ?_)
        go_simp
        refine hKQ _ _ (.inl (by rfl)) ?_
        clear hKQ KQ
        try simp only [Act.put, List.setIfInBounds_toArray, List.set_cons_zero, List.set_cons_succ]
        refine wpOT_d ?_
        clear fZ cZ
        have UP : Hid (Upd (fun k => k = P) wZ (wZ.setCell ⟨P, 0, none⟩ (.slice (some ⟨bz, oz, none⟩) (us.length + 1) cz))) := Lib.hid ((Upd.refl (fun k => k = P) wZ).setCell (p := ⟨P, 0, none⟩) (fun _ => rfl) _)
        have BP9 := Lib.hid (BPZ.out.set_ 0 (.slice (some ⟨bz, oz, none⟩) (us.length + 1) cz))
        have SP9 := Lib.hid (SZ.out.upd UP.out (fun k hk => Sl.ne_ SZ.out BPZ.out (by decide) k hk))
        have BS9 := Lib.hid (BSZ.out.upd UP.out (fun h => BSZ.out.ne_ BPZ.out (by decide) h))
        have UW : Hid (Upd (fun k => k = P ∨ slBlk (.slice AK us.length cK) = some k) W (wZ.setCell ⟨P, 0, none⟩ (.slice (some ⟨bz, oz, none⟩) (us.length + 1) cz))) := Lib.hid (((UD.out.mono (fun _ _ h => h.elim)).trans (UZ.out.mono (fun k _ h => .inr h))).trans (UP.out.mono (fun k _ h => .inl h)))
        have HN : Hid (PortsS (wZ.setCell ⟨P, 0, none⟩ (.slice (some ⟨bz, oz, none⟩) (us.length + 1) cz)) P (wZ.setCell ⟨P, 0, none⟩ (.slice (some ⟨bz, oz, none⟩) (us.length + 1) cz)).heap.size P ((cs.map PM.new).take (i + 1))) := Lib.hid (by
          rw [HNX.out]
          refine HG.out _ _ _ (.iface 60 (.pointer (some ⟨s, 0, none⟩))) _ _ UW.out (fun k h => h) BP9.out SP9.out (fun k hk => (Sl.blk SP9.out k hk).2.1) (by have := HPP.out; omega) (by have := UW.out.size; have := HGW.out; omega) ?_
          exact .inr ⟨HQB.out, s, 0, false, rfl, ⟨HSG.out, BS9.out.lt⟩, ⟨by show Blk _ s _ #[.bool c.q, .int .i64 c.f, .int .i64 c.t, .int .i64 c.sz, .int .i64 0, .int .i64 0, .bool false]; rw [HQB.out]; exact BS9.out⟩, rfl⟩)
        have UE : Hid (Upd (fun _ => False) w (wZ.setCell ⟨P, 0, none⟩ (.slice (some ⟨bz, oz, none⟩) (us.length + 1) cz))) := Lib.hid ((U1.out.mono (S' := fun k => P ≤ k) (fun _ _ h => h.elim)).trans (UW.out.mono (S' := fun k => P ≤ k) (fun k _ h => by
          rcases h with h | h
          · omega
          · exact (Sl.blk SL.out k h).1)) |>.mono (fun k hk h => by have := HP.out; omega))
        have hNS : (wZ.setCell ⟨P, 0, none⟩ (.slice (some ⟨bz, oz, none⟩) (us.length + 1) cz)).heap.size = wZ.heap.size := by simp
        have hN2 := HN.out
        rw [hNS] at hN2
        have HN2 := Lib.hid hN2
        clear hNS hN2 HN
        go_wp2_with fail
        go_roundw
        case rel => exact ⟨i + 1, by omega, by go_num, HN2.out, UE.out⟩
        case measure => simp [intOf]; omega
      · go_upto_region 6 with fail
        generalize wr.alloc (.cells #[.bool true, .int .i64 c.f, .int .i64 c.t, .int .i64 c.sz] 27) = W at *
        generalize hG : wr.heap.size = G at *
        obtain ⟨v1, us, o1, o2, o3, o4, o5, o6, hgrow⟩ := W1.out.open_
        have HG := Lib.hid hgrow
        have BP := Lib.hid o1
        have SL := Lib.hid o2
        have HLN := Lib.hid o3
        have HK := Lib.hid o4
        have HPP := Lib.hid (And.intro o5 o6)
        obtain ⟨AK, cK, rfl⟩ := o2.shape
        have fP : ∀ wx, Upd (fun _ => False) W wx → wx.frozen? ⟨P, 0, none⟩ = false := fun wx hu => (BP.out.upd hu (fun h => h)).frozen 0
        have HF := Lib.hid fP
        have hll : us.length ≤ 1000 := by rw [o3, List.length_take, List.length_map]; omega
        have HSS : Hid (∀ wx, Upd (fun _ => False) W wx → wx.cell? ⟨P, 0, none⟩ = some (.slice AK us.length cK) ∧ wx.cell? ⟨G, 0, none⟩ = some (.bool true) ∧ wx.cell? ⟨G, 1, none⟩ = some (.int .i64 c.f) ∧ wx.cell? ⟨G, 2, none⟩ = some (.int .i64 c.t) ∧ wx.cell? ⟨G, 3, none⟩ = some (.int .i64 c.sz)) := Lib.hid (fun wx hu =>
          ⟨(BP.out.upd hu (fun h => h)).cell 0, (BG.out.upd hu (fun h => h)).cell 0, (BG.out.upd hu (fun h => h)).cell 1, (BG.out.upd hu (fun h => h)).cell 2, (BG.out.upd hu (fun h => h)).cell 3⟩)
        have HGW : Hid (G < W.heap.size ∧ G = wr.heap.size) := Lib.hid ⟨BG.out.lt, hG.symm⟩
        clear hgrow o1 o2 o3 o4 o5 o6 fP hG x0 x1 x2 x3
        refine wp_region_tree (.q 0 (.q 1 (.q 2 (.q 3 (.q 4 (.q 5 (.q 6 (.q 7 (.q 8 (.l 9 (.q 10 (.l 11 (.l 12 (.l 13 (.l 14 (.l 15 (.q 16 (.l 17 .d)))))))))))))))))) (fun i => decide (17 ≤ i ∧ i < 18)) (fun w' => w'.cell? ⟨P, 0, none⟩ = some (.slice AK us.length cK) ∧ w'.cell? ⟨G, 0, none⟩ = some (.bool true) ∧ w'.cell? ⟨G, 1, none⟩ = some (.int .i64 c.f) ∧ w'.cell? ⟨G, 2, none⟩ = some (.int .i64 c.t) ∧ w'.cell? ⟨G, 3, none⟩ = some (.int .i64 c.sz))
          (by kernel_rfl) (by kernel_rfl) (fun t ht => by have := of_decide_eq_true ht; exact this.2) (fun _ _ _ _ _ h => h) (by kernel_rfl) rfl (HSS.out _ ((Upd.refl _ _).drew)) ?_
        iterate 9
          refine' wpOT_q (by rfl) (by rfl) (fun w' hS' => ?_) ?_
          rotate_left
          · obtain ⟨s0, s1, s2, s3, s4⟩ := hS'
            go_simp
            try rfl
          try simp only [Act.put, List.setIfInBounds_toArray, List.set_cons_zero, List.set_cons_succ]
        have UA : Hid (Upd (fun _ => False) W W.drew) := Lib.hid ((Upd.refl _ W).drew)
        generalize W.drew = w2 at *
        refine wpOT_l (by rfl) (by rfl) (fun KQ hKQ => ?_)
        go_simp
        go_at_call 20
        refine (newI_any _ c.sz room HRM.out).mono ?_
        rintro e w3 ⟨g, d, rfl, hg, hd, hR, hB⟩
        have UB := Lib.hid (UA.out.trans ((Upd.of_below hB).mono (S' := fun _ => False) (fun k hk h => absurd h (by omega))))
        have HGD : Hid (G ≤ g ∧ G ≤ d) := Lib.hid (by have := HGW.out.1; have := UA.out.size; omega)
        have R3 := Lib.hid hR
        clear hg hd hR hB
        refine hKQ _ _ (.inr (HSS.out _ UB.out)) ?_
        clear hKQ KQ
        try simp only [Act.put, List.setIfInBounds_toArray, List.set_cons_zero, List.set_cons_succ]
        iterate 1
          refine' wpOT_q (by rfl) (by rfl) (fun w' hS' => ?_) ?_
          rotate_left
          · obtain ⟨s0, s1, s2, s3, s4⟩ := hS'
            go_simp
            try rfl
          try simp only [Act.put, List.setIfInBounds_toArray, List.set_cons_zero, List.set_cons_succ]
        refine wpOT_l (by rfl) (by rfl) (fun KQ hKQ => ?_)
        go_simp
        have UC := Lib.hid (UB.out.alloc (.cells #[.bool true, .int .i64 c.f, .int .i64 c.t, .int .i64 c.sz, .pointer (some ⟨g, 0, none⟩), .int .i64 0] 59))
        have BS := Lib.hid (Blk.new w3 59 #[.bool true, .int .i64 c.f, .int .i64 c.t, .int .i64 c.sz, .pointer (some ⟨g, 0, none⟩), .int .i64 0])
        have HSG : Hid (G ≤ w3.heap.size) := Lib.hid (by have := HGW.out.1; have := UB.out.size; omega)
        refine hKQ _ _ (.inr (HSS.out _ UC.out)) ?_
        clear hKQ KQ
        try simp only [Act.put, List.setIfInBounds_toArray, List.set_cons_zero, List.set_cons_succ]
        have R4 := Lib.hid (R3.out.upd ((Upd.refl (fun _ => False) w3).alloc (.cells #[.bool true, .int .i64 c.f, .int .i64 c.t, .int .i64 c.sz, .pointer (some ⟨g, 0, none⟩), .int .i64 0] 59)) (fun h => h) (fun h => h))
        clear R3
        generalize w3.alloc (.cells #[.bool true, .int .i64 c.f, .int .i64 c.t, .int .i64 c.sz, .pointer (some ⟨g, 0, none⟩), .int .i64 0] 59) = w4 at *
        generalize w3.heap.size = s at *
        refine wpOT_l (by rfl) (by rfl) (fun KQ hKQ => ?_)
        go_simp
        refine hKQ _ _ (.inr (HSS.out _ UC.out)) ?_
        clear hKQ KQ
        try simp only [Act.put, List.setIfInBounds_toArray, List.set_cons_zero, List.set_cons_succ]
        refine wpOT_l (by rfl) (by rfl) (fun KQ hKQ => ?_)
        go_simp
        have UD := Lib.hid (UC.out.alloc (.cells #[.iface 53 (.pointer (some ⟨s, 0, none⟩))] 64))
        have BN := Lib.hid (Blk.new w4 64 #[.iface 53 (.pointer (some ⟨s, 0, none⟩))])
        have BS4 := Lib.hid (BS.out.alloc (.cells #[.iface 53 (.pointer (some ⟨s, 0, none⟩))] 64))
        refine hKQ _ _ (.inr (HSS.out _ UD.out)) ?_
        clear hKQ KQ
        try simp only [Act.put, List.setIfInBounds_toArray, List.set_cons_zero, List.set_cons_succ]
        have R5 := Lib.hid (R4.out.upd ((Upd.refl (fun _ => False) w4).alloc (.cells #[.iface 53 (.pointer (some ⟨s, 0, none⟩))] 64)) (fun h => h) (fun h => h))
        clear R4
        generalize w4.alloc (.cells #[.iface 53 (.pointer (some ⟨s, 0, none⟩))] 64) = w5 at *
        generalize w4.heap.size = bN at *
        have S5 := Lib.hid (SL.out.still UD.out)
        have hPW : P ≤ w5.heap.size := by have := HPP.out; have := HGW.out.1; have := UD.out.size; omega
        refine wpOT_l (by rfl) (by rfl) (fun KQ hKQ => ?_)
        refine wp_append_sl (.tmp 20) (.tmp 29) 50 rfl P 64 i0 _ 1 16 Try.underlying50 hi0 hz0 hz1 hz2 rfl (by decide) (.slice AK us.length cK) us.length (rws encU us) rfl S5.out ⟨bN, 0, none⟩ 1 [.iface 53 (.pointer (some ⟨s, 0, none⟩))] rfl rfl (fun j u hu => by rw [add_at, BN.out.cell j]; simpa using hu) (by simp [Value.oneCell']) (by unfold maxLen; omega) (by omega) hPW ?_
        intro v9 wZ hs1 hu1 hv1
        obtain ⟨bz, oz, cz, rfl, _, _, _, _⟩ := hs1.form (by omega)
        have SZ : Hid (SlR encU wZ P 64 1 (.slice (some ⟨bz, oz, none⟩) (us.length + 1) cz) (us ++ [.iface 53 (.pointer (some ⟨s, 0, none⟩))])) := Lib.hid (by
          unfold SlR
          rw [List.length_append, rws_append]
          exact hs1)
        have UZ := Lib.hid hu1
        have HZ := Lib.hid hv1
        have BPZ := Lib.hid ((BP.out.upd UD.out (fun h => h)).upd hu1 (fun h => Sl.ne_ S5.out (BP.out.upd UD.out (fun h => h)) (by decide) _ h rfl))
        have BGZ := Lib.hid ((BG.out.upd UD.out (fun h => h)).upd hu1 (fun h => Sl.ne_ S5.out (BG.out.upd UD.out (fun h => h)) (by decide) _ h rfl))
        have BSZ := Lib.hid (BS4.out.upd hu1 (fun h => Sl.ne_ S5.out BS4.out (by decide) _ h rfl))
        clear hs1 hu1 hv1 BS
        refine hKQ _ _ (.inr ⟨BPZ.out.cell 0, BGZ.out.cell 0, BGZ.out.cell 1, BGZ.out.cell 2, BGZ.out.cell 3⟩) ?_
        clear hKQ KQ
        try simp only [Act.put, List.setIfInBounds_toArray, List.set_cons_zero, List.set_cons_succ]
        refine wpOT_l (by rfl) (by rfl) (fun KQ hKQ => ?_)
        go_simp
        refine hKQ _ _ (.inr ⟨BPZ.out.cell 0, BGZ.out.cell 0, BGZ.out.cell 1, BGZ.out.cell 2, BGZ.out.cell 3⟩) ?_
        clear hKQ KQ
        try simp only [Act.put, List.setIfInBounds_toArray, List.set_cons_zero, List.set_cons_succ]
        iterate 1
          refine' wpOT_q (by rfl) (by rfl) (fun w' hS' => ?_) ?_
          rotate_left
          · obtain ⟨s0, s1, s2, s3, s4⟩ := hS'
            go_simp
            try rfl
          try simp only [Act.put, List.setIfInBounds_toArray, List.set_cons_zero, List.set_cons_succ]
        have fZ := BPZ.out.frozen 0
        have cZ : wZ.cell? ⟨P, 0, none⟩ = some (.slice AK us.length cK) := BPZ.out.cell 0
        refine wpOT_l (by rfl) (by rfl) (fun KQ hKQ => ?_)
        go_simp
        refine hKQ _ _ (.inl (by rfl)) ?_
        clear hKQ KQ
        try simp only [Act.put, List.setIfInBounds_toArray, List.set_cons_zero, List.set_cons_succ]
        refine wpOT_d ?_
        clear fZ cZ
        have UP : Hid (Upd (fun k => k = P) wZ (wZ.setCell ⟨P, 0, none⟩ (.slice (some ⟨bz, oz, none⟩) (us.length + 1) cz))) := Lib.hid ((Upd.refl (fun k => k = P) wZ).setCell (p := ⟨P, 0, none⟩) (fun _ => rfl) _)
        have BP9 := Lib.hid (BPZ.out.set_ 0 (.slice (some ⟨bz, oz, none⟩) (us.length + 1) cz))
        have SP9 := Lib.hid (SZ.out.upd UP.out (fun k hk => Sl.ne_ SZ.out BPZ.out (by decide) k hk))
        have BS9 := Lib.hid (BSZ.out.upd UP.out (fun h => BSZ.out.ne_ BPZ.out (by decide) h))
        have UW : Hid (Upd (fun k => k = P ∨ slBlk (.slice AK us.length cK) = some k) W (wZ.setCell ⟨P, 0, none⟩ (.slice (some ⟨bz, oz, none⟩) (us.length + 1) cz))) := Lib.hid (((UD.out.mono (fun _ _ h => h.elim)).trans (UZ.out.mono (fun k _ h => .inr h))).trans (UP.out.mono (fun k _ h => .inl h)))
        have R9 : Hid (RSt (wZ.setCell ⟨P, 0, none⟩ (.slice (some ⟨bz, oz, none⟩) (us.length + 1) cz)) g d room []) := Lib.hid (by
          obtain ⟨arr, first, n, h1, h2⟩ := R5.out
          have a1 : ¬ slBlk (.slice AK us.length cK) = some g := fun h => Sl.ne_ S5.out h1.st (by decide) _ h rfl
          have a2 : ¬ slBlk (.slice AK us.length cK) = some d := fun h => Sl.ne_ S5.out h1.ar (by decide) _ h rfl
          have R6 := R5.out.upd UZ.out a1 a2
          obtain ⟨arr', first', n', h1', h2'⟩ := R6
          exact (R5.out.upd UZ.out a1 a2).upd UP.out (fun h => h1'.st.ne_ BPZ.out (by decide) h) (fun h => h1'.ar.ne_ BPZ.out (by decide) h))
        have HN : Hid (PortsS (wZ.setCell ⟨P, 0, none⟩ (.slice (some ⟨bz, oz, none⟩) (us.length + 1) cz)) P (wZ.setCell ⟨P, 0, none⟩ (.slice (some ⟨bz, oz, none⟩) (us.length + 1) cz)).heap.size P ((cs.map PM.new).take (i + 1))) := Lib.hid (by
          rw [HNX.out]
          refine HG.out _ _ _ (.iface 53 (.pointer (some ⟨s, 0, none⟩))) _ _ UW.out (fun k h => h) BP9.out SP9.out (fun k hk => (Sl.blk SP9.out k hk).2.1) (by have := HPP.out; omega) (by have := UW.out.size; have := HGW.out; omega) ?_
          exact .inl ⟨HQB.out, s, g, d, rfl, ⟨HSG.out, BS9.out.lt⟩, ⟨HGD.out.1, R9.out.lt.1⟩, ⟨HGD.out.2, R9.out.lt.2⟩, ⟨by show Blk _ s _ #[.bool c.q, .int .i64 c.f, .int .i64 c.t, .int .i64 c.sz, .pointer (some ⟨g, 0, none⟩), .int .i64 0]; rw [HQB.out]; exact BS9.out, by show RSt _ g d (min (max c.sz 0) 4096).toNat []; rw [HRM2.out]; exact R9.out⟩⟩)
        have UE : Hid (Upd (fun _ => False) w (wZ.setCell ⟨P, 0, none⟩ (.slice (some ⟨bz, oz, none⟩) (us.length + 1) cz))) := Lib.hid ((U1.out.mono (S' := fun k => P ≤ k) (fun _ _ h => h.elim)).trans (UW.out.mono (S' := fun k => P ≤ k) (fun k _ h => by
          rcases h with h | h
          · omega
          · exact (Sl.blk SL.out k h).1)) |>.mono (fun k hk h => by have := HP.out; omega))
        have hNS : (wZ.setCell ⟨P, 0, none⟩ (.slice (some ⟨bz, oz, none⟩) (us.length + 1) cz)).heap.size = wZ.heap.size := by simp
        have hN2 := HN.out
        rw [hNS] at hN2
        have HN2 := Lib.hid hN2
        clear hNS hN2 HN
        go_wp2_with fail
        go_roundw
        case rel => exact ⟨i + 1, by omega, by go_num, HN2.out, UE.out⟩
        case measure => simp [intOf]; omega
    · have hie : i = cs.length := by omega
      subst hie
      go_wp2_with fail
      go_returns
      have := HS.out
      rw [List.take_of_length_le (by simp)] at this
      exact ⟨by rw [HP.out]; rfl, by rw [HP.out]; exact this, HU.out⟩
end Go.Proofs.Ytnhgmommehjeoaa
