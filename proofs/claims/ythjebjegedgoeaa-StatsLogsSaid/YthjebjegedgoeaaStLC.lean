/-
  Stats: see, of an Accept. (Written by stlc.py.)
-/
import Derived.Test.YthjebjegedgoeaaStLB
namespace Go.Proofs.Ythjebjegedgoeaa
open Go.RowKit Go.Maps
attribute [local go_sem] max_ints min_ints

/-- The state behind an Accept. -/
theorem FoS.acc {w w' : World} {f bo bl base n : Nat} {jv jv' : Value} {hi : Bool} {J : List J5} {es ls ls' : EsV} {a b k : Int} {v v' : Value} (h : FoS w f bo bl base n jv hi J es ls) (hw : (Lit.int .i64 a).wf = true) (hv : lkV es (.slice none 0 0) a = v)
    (hU : Upd (fun q => q = f ∨ q = bo ∨ q = bl ∨ slBlk jv = some q ∨ slBlk v = some q) w w') (hB : Blk w' f 92 #[jv', .map (some bo), .bool hi, .map (some bl)])
    (hJ : SlR encJ w' base 58 5 jv' (J ++ [⟨a, b, k, -1, 0⟩])) (hM : MpV w' bo (n + 1) (putV es a v')) (hL : MpV w' bl (n + 1) ls') (hV : SlR encI w' base 3 1 v' (idx (openI J a ++ [J.length]))) (hvb : ∀ q, slBlk v' = some q → slBlk v = some q ∨ w.heap.size ≤ q) :
    FoS w' f bo bl base (n + 1) jv' hi (J ++ [⟨a, b, k, -1, 0⟩]) (putV es a v') ls' := by
  have hop : ∀ t, openI (J ++ [⟨a, b, k, -1, 0⟩]) t = if a = t then openI J t ++ [J.length] else openI J t := fun t => by
    rw [openI_snoc]
    by_cases e : a = t
    · rw [if_pos e, if_pos ⟨e, rfl⟩]
    · rw [if_neg e, if_neg (fun q => e q.1)]
  have hsl : ∀ e ∈ es, e.1 ≠ a → ∀ q, slBlk e.2 = some q → ¬ (q = f ∨ q = bo ∨ q = bl ∨ slBlk jv = some q ∨ slBlk v = some q) := fun e he hne q hq => by
    have hle : lkV es (.slice none 0 0) e.1 = e.2 := lkV_mem h.n1 (v := e.2) he _
    obtain ⟨_, _, h1, h2, h3, h4, _⟩ := h.lkB e.1 q (by rw [hle]; exact hq)
    rintro (r | r | r | r | r)
    · exact h1 r
    · exact h2 r
    · exact h3 r
    · exact h4 r
    · exact (h.lkB a q (by rw [hv]; exact r)).2.2.2.2.2.2 e he hne hq
  refine ⟨hB, hJ, hM, hL, putV_nodup h.n1 a v', fun e he => ?_, fun t ht => ?_, ?_, h.hf, h.ho, h.hl, h.ne⟩
  · rcases (putV_mem es a v' e).1 he with ⟨h1, h2⟩ | rfl
    · rw [hop, if_neg (fun q => h2 q.symm)]
      exact ⟨(h.e e h1).1.upd hU (hsl e h1 h2), (h.e e h1).2⟩
    · rw [hop, if_pos rfl]
      exact ⟨hV, by simp, hw⟩
  · rw [hop] at ht
    unfold putV
    rw [List.map_append, List.mem_append]
    by_cases e : a = t
    · exact .inr (by simp [e])
    · rw [if_neg e] at ht
      obtain ⟨x, hx, rfl⟩ := List.mem_map.1 (h.k t ht)
      exact .inl (List.mem_map.2 ⟨x, (cutV_mem es a x).2 ⟨hx, fun q => e q.symm⟩, rfl⟩)
  · unfold putV
    refine List.pairwise_append.2 ⟨h.ap.sublist List.filter_sublist, by simp, fun x hx y hy q hq1 hq2 => ?_⟩
    simp at hy
    subst hy
    obtain ⟨hx1, hx2⟩ := (cutV_mem es a x).1 hx
    rcases hvb q hq2 with r | r
    · exact (h.lkB a q (by rw [hv]; exact r)).2.2.2.2.2.2 x hx1 hx2 hq1
    · have := (Sl.blk (h.e x hx1).1 q hq1).2.1
      omega

set_option maxRecDepth 100000 in
set_option maxHeartbeats 12800000 in
theorem seeAcc (w : World) (f bo bl base n : Nat) (jv : Value) (hi : Bool) (J : List J5) (es ls : EsV) (h : FoS w f bo bl base n jv hi J es ls) (k a b : Int) (hw : (Lit.int .i64 a).wf = true) (hn : n ≤ 1000) (hJ : J.length ≤ 1000) :
    Calls Try.prog 41 #[.pointer (some ⟨f, 0, none⟩), .agg #[.int .i64 k, .int .i64 0, .int .i64 a, .int .i64 b]] w fun e w' => e = .returned (.tuple #[]) ∧ (∃ jv' es' ls', FoS w' f bo bl base (n + 1) jv' hi (J ++ [⟨a, b, k, -1, 0⟩]) es' ls') ∧ Upd (fun q => base ≤ q) w w' := by
  obtain ⟨i0, hi0, hz0, hz1, hz2⟩ := info_parts infoInt
  obtain ⟨j0, hj0, hy0, hy1, hy2⟩ := info_parts infoAJ
  have HSTR : Hid (base ≤ w.heap.size) := Lib.hid (Nat.le_trans h.hf (Nat.le_of_lt h.b.lt))
  have F0 := Lib.hid (h.still ((Upd.refl _ w).alloc (.cells #[.int .i64 k, .int .i64 0, .int .i64 a, .int .i64 b] 52)))
  have X0 := Lib.hid (Blk.new w 52 #[.int .i64 k, .int .i64 0, .int .i64 a, .int .i64 b])
  have U0 := Lib.hid ((Upd.refl (fun _ => False) w).alloc (.cells #[.int .i64 k, .int .i64 0, .int .i64 a, .int .i64 b] 52))
  have hb : decide (brkE ⟨k, 0, a, b⟩) = false := decide_eq_false (fun h => by rcases h with h | h; exact absurd h (show ¬ (0 : Int) = 13 by decide); exact absurd h.1 (show ¬ (0 : Int) = 12 by decide))
  clear h
  go_enter Try.func41, Try.ntmps41
  go_wp2_with fail
  refine (breaksC _ ⟨k, 0, a, b⟩).mono ?_
  rintro r w1 ⟨rfl, hU1⟩
  rw [hb]
  obtain ⟨be, hbe⟩ : ∃ be, w.heap.size = be := ⟨_, rfl⟩
  rw [hbe] at X0 ⊢
  have F1 := Lib.hid (F0.out.still hU1); have X1 := Lib.hid (X0.out.upd hU1 (fun h => h)); have U1 := Lib.hid (U0.out.trans hU1)
  have HBS : Hid (base ≤ w1.heap.size) := Lib.hid (Nat.le_trans HSTR.out U1.out.size)
  clear hU1 F0 X0 U0 hbe hb
  have HMI : Hid (idx (openI J a) = idx (openI J a)) := Lib.hid rfl
  obtain ⟨v, hve⟩ : ∃ v, lkV es (.slice none 0 0) a = v := ⟨_, rfl⟩
  have HVE := Lib.hid hve
  have hv := F1.out.lk a
  have LB := Lib.hid (F1.out.lkB a)
  rw [hve] at hv LB
  obtain ⟨Av, cv, rfl⟩ := hv.shape
  obtain ⟨m, hm⟩ : ∃ m, (idx (openI J a)).length = m := ⟨_, rfl⟩
  have V1 := Lib.hid hv
  clear HMI
  have HMI := Lib.hid hm
  rw [hm] at V1 LB HVE
  have hmJ : m ≤ 1000 := by rw [← hm, idx_len]; have := openI_len J a; omega
  obtain ⟨Aj, cj, rfl⟩ := F1.out.j.shape
  have HXF : Hid (be ≠ f ∧ be ≠ bo ∧ be ≠ bl ∧ slBlk (.slice Aj J.length cj) ≠ some be ∧ slBlk (.slice Av m cv) ≠ some be) := Lib.hid ⟨X1.out.ne_ F1.out.b (by decide), F1.out.m.ne_ X1.out, F1.out.l.ne_ X1.out, fun e => by
    obtain ⟨_, _, cur, hc⟩ := Sl.blk F1.out.j be e
    exact X1.out.ne_ hc (by decide) rfl, fun e => by
    obtain ⟨_, _, cur, hc⟩ := Sl.blk V1.out be e
    exact X1.out.ne_ hc (by decide) rfl⟩
  have HJB : Hid (∀ q, slBlk (.slice Aj J.length cj) = some q → q ≠ f) := Lib.hid (fun q hq e => by
    obtain ⟨_, _, cur, hc⟩ := Sl.blk F1.out.j q hq
    rw [e] at hc
    exact hc.ne_ F1.out.b (by decide) rfl)
  clear hve hv hm
  have x1 : w1.cell? ⟨be, 1, none⟩ = some (.int .i64 0) := X1.out.cell 1
  have HS8 : Hid (∀ w', Upd (fun q => slBlk (.slice Av m cv) = some q) w1 w' → (fun w' => w'.cell? ⟨f, 1, none⟩ = some (.map (some bo)) ∧ w'.cell? ⟨f, 0, none⟩ = some (.slice Aj J.length cj) ∧ w'.cell? ⟨be, 2, none⟩ = some (.int .i64 a) ∧ (Instr.lookup 89 (.map (some bo)) (.int .i64 a) false).run Try.prog w' = .ok (.slice Av m cv) w') w') := Lib.hid (fun w' hu => by
    have hB := F1.out.b.upd hu (fun e => (LB.out f e).2.2.1 rfl)
    have hX := X1.out.upd hu (fun e => HXF.out.2.2.2.2 e)
    have hM := F1.out.m.upd hu (fun e => (LB.out bo e).2.2.2.1 rfl)
    have hz : (zeroValue 23).run Try.prog w' = .ok (.slice none 0 0) w' := Try.zeroValue23 w'
    have hl := hM.look (T := 89) (E := 23) Try.underlying89 hz F1.out.n1 a hw
    rw [HVE.out] at hl
    exact ⟨hB.cell 1, hB.cell 0, hX.cell 2, hl⟩)
  go_upto_region 8 with fail
  clear x1
  refine wp_region_treeF (.q 0 (.q 1 (.q 2 (.q 3 (.q 4 (.q 5 (.q 6 (.q 7 (.q 8 (.q 9 (.q 10 (.q 11 (.q 12 (.q 13 (.q 14 (.q 15 (.q 16 (.q 17 (.l 18 (.l 19 (.l 20 .d))))))))))))))))))))) (fun i => decide (i = 20)) (fun _ => false) (fun w' => w'.cell? ⟨f, 1, none⟩ = some (.map (some bo)) ∧ w'.cell? ⟨f, 0, none⟩ = some (.slice Aj J.length cj) ∧ w'.cell? ⟨be, 2, none⟩ = some (.int .i64 a) ∧ (Instr.lookup 89 (.map (some bo)) (.int .i64 a) false).run Try.prog w' = .ok (.slice Av m cv) w')
    (by kernel_rfl) (by kernel_rfl) (by kernel_rfl) (fun t ht => by have := of_decide_eq_true ht; subst this; decide) (fun _ _ _ _ _ h => h) (by kernel_rfl) rfl (HS8.out _ (Upd.refl _ w1).drew) ?_
  iterate 18
    (refine' wpOF_q (by rfl) (by rfl) (by rfl) (fun w' hS' => ?_) ?_
     rotate_left
     · obtain ⟨s1, s2, s3, s4⟩ := hS'
       go_simp
       try rfl)
    try simp only [Act.put, List.setIfInBounds_toArray, List.set_cons_zero, List.set_cons_succ]
  refine wpOF_l (by rfl) (by rfl) (fun KQ hKQ => ?_)
  go_simp
  have EA : Hid (Blk (w1.alloc (.cells #[.int .i64 (J.length : Int)] 3)).drew w1.heap.size 3 #[.int .i64 (J.length : Int)]) := Lib.hid (Blk.new w1 _ _)
  have UA : Hid (Upd (fun _ => False) w1 (w1.alloc (.cells #[.int .i64 (J.length : Int)] 3)).drew) := Lib.hid ((Upd.refl _ w1).alloc _).drew
  refine hKQ _ _ (.inr (HS8.out _ (UA.out.mono (fun _ _ h => h.elim)))) ?_
  clear hKQ KQ
  try simp only [Act.put, List.setIfInBounds_toArray, List.set_cons_zero, List.set_cons_succ]
  generalize (w1.alloc (.cells #[.int .i64 (J.length : Int)] 3)).drew = wA at *
  obtain ⟨bA, hbA⟩ : ∃ bA, w1.heap.size = bA := ⟨_, rfl⟩
  rw [hbA] at EA ⊢
  clear hbA
  refine wpOF_l (by rfl) (by rfl) (fun KQ hKQ => ?_)
  refine wp_append_sl (.tmp 41) (.tmp 47) 23 rfl base 3 i0 _ 1 8 Try.underlying23 hi0 hz0 hz1 hz2 rfl (by decide) (.slice Av m cv) m (rws encI (idx (openI J a))) rfl (by have := V1.out.upd UA.out (fun _ _ h => h); unfold SlR at this; rw [HMI.out] at this; exact this) ⟨bA, 0, none⟩ 1 [.int .i64 (J.length : Int)] rfl rfl (fun j u hu => by rw [add_at, EA.out.cell j]; simpa using hu) (by simp [Value.oneCell']) (by unfold maxLen; omega) (by omega) (Nat.le_trans HBS.out UA.out.size) ?_
  intro v' wB hs1 hu1 hv1
  obtain ⟨AB, cB, rfl⟩ := Sl.shape hs1
  have UB : Hid (Upd (fun q => slBlk (.slice Av m cv) = some q) w1 wB) := Lib.hid ((UA.out.mono (fun _ _ h => h.elim)).trans hu1)
  have VB : Hid (SlR encI wB base 3 1 (.slice AB (m + 1) cB) (idx (openI J a ++ [J.length]))) := Lib.hid (by
    have e : idx (openI J a ++ [J.length]) = idx (openI J a) ++ [(J.length : Int)] := by simp [idx]
    rw [e]
    unfold SlR
    rw [List.length_append, HMI.out, rws_append]
    exact hs1)
  have HVB : Hid (∀ q, slBlk (.slice AB (m + 1) cB) = some q → slBlk (.slice Av m cv) = some q ∨ w1.heap.size ≤ q) := Lib.hid (fun q hq => (hv1 q hq).imp id (fun h => Nat.le_trans UA.out.size h))
  have hMB := F1.out.m.upd UB.out (fun e => (LB.out bo e).2.2.2.1 rfl)
  obtain ⟨wC, hput, hMC, hUC⟩ := hMB.put (T := 89) (E := 23) Try.underlying89 (by unfold maxLen; omega) a hw (.slice AB (m + 1) cB)
  have MC := Lib.hid hMC
  have UC := Lib.hid hUC
  clear hs1 hu1 hv1 EA hMB hMC hUC
  refine hKQ _ _ (.inr (HS8.out _ UB.out)) ?_
  clear hKQ KQ
  try simp only [Act.put, List.setIfInBounds_toArray, List.set_cons_zero, List.set_cons_succ]
  refine wpOF_l (by rfl) (by rfl) (fun KQ hKQ => ?_)
  go_simp
  refine hKQ _ _ (.inl (by rfl)) ?_
  clear hKQ KQ
  try simp only [Act.put, List.setIfInBounds_toArray, List.set_cons_zero, List.set_cons_succ]
  refine wpOF_d ?_
  clear hput UA
  have U2 : Hid (Upd (fun q => q = bo ∨ slBlk (.slice Av m cv) = some q) w1 wC) := Lib.hid ((UB.out.mono (fun _ _ h => .inr h)).trans (UC.out.mono (fun _ _ h => .inl h)))
  have VC : Hid (SlR encI wC base 3 1 (.slice AB (m + 1) cB) (idx (openI J a ++ [J.length]))) := Lib.hid (VB.out.upd UC.out (fun q hq e => by
    obtain ⟨_, _, cur, hc⟩ := Sl.blk VB.out q hq
    have hne := (F1.out.m.upd UB.out (fun e => (LB.out bo e).2.2.2.1 rfl)).ne_ hc
    exact hne e))
  have BC := Lib.hid (F1.out.b.upd U2.out (fun e => by
    rcases e with e | e
    · exact F1.out.m.ne_ F1.out.b e
    · exact (LB.out f e).2.2.1 rfl))
  have XC := Lib.hid (X1.out.upd U2.out (fun e => e.elim HXF.out.2.1 HXF.out.2.2.2.2))
  have LC := Lib.hid (F1.out.l.upd U2.out (fun e => by
    rcases e with e | e
    · exact F1.out.ne e.symm
    · exact (LB.out bl e).2.2.2.2.1 rfl))
  obtain ⟨w3, hput, hL3, hU3⟩ := (LC.out.upd (Upd.refl (fun _ => False) wC).drew (fun h => h)).put (T := 90) (E := 3) Try.underlying90 (by unfold maxLen; omega) a hw (.int .i64 k)
  have hS9 : wC.cell? ⟨f, 3, none⟩ = some (.map (some bl)) ∧ wC.cell? ⟨be, 2, none⟩ = some (.int .i64 a) ∧ wC.cell? ⟨be, 0, none⟩ = some (.int .i64 k) := ⟨BC.out.cell 3, XC.out.cell 2, XC.out.cell 0⟩
  have L3 := Lib.hid hL3
  have UL : Hid (Upd (fun q => q = bl) wC w3) := Lib.hid (((Upd.refl (fun q => q = bl) wC).drew).trans hU3)
  clear hL3 hU3
  go_upto_region 9 with fail
  refine wp_region_treeF (.q 0 (.q 1 (.q 2 (.q 3 (.q 4 (.q 5 (.q 6 (.q 7 (.l 8 .d))))))))) (fun i => decide (i = 8)) (fun _ => false) (fun w' => w'.cell? ⟨f, 3, none⟩ = some (.map (some bl)) ∧ w'.cell? ⟨be, 2, none⟩ = some (.int .i64 a) ∧ w'.cell? ⟨be, 0, none⟩ = some (.int .i64 k))
    (by kernel_rfl) (by kernel_rfl) (by kernel_rfl) (fun t ht => by have := of_decide_eq_true ht; subst this; decide) (fun _ _ _ _ _ h => h) (by kernel_rfl) rfl hS9 ?_
  iterate 8
    (refine' wpOF_q (by rfl) (by rfl) (by rfl) (fun w' hS' => ?_) ?_
     rotate_left
     · obtain ⟨s1, s2, s3⟩ := hS'
       go_simp
       try rfl)
    try simp only [Act.put, List.setIfInBounds_toArray, List.set_cons_zero, List.set_cons_succ]
  refine wpOF_l (by rfl) (by rfl) (fun KQ hKQ => ?_)
  go_simp
  refine hKQ _ _ (.inl (by rfl)) ?_
  clear hKQ KQ
  try simp only [Act.put, List.setIfInBounds_toArray, List.set_cons_zero, List.set_cons_succ]
  refine wpOF_d ?_
  clear hput hS9
  have M3 := Lib.hid (MC.out.upd UL.out (fun e => F1.out.ne e))
  have V3 := Lib.hid (VC.out.upd UL.out (fun q hq e => by
    obtain ⟨_, _, cur, hc⟩ := Sl.blk VC.out q hq
    exact LC.out.ne_ hc e))
  have B3 := Lib.hid (BC.out.upd UL.out (fun e => LC.out.ne_ BC.out e))
  have X3 := Lib.hid (XC.out.upd UL.out (fun e => HXF.out.2.2.1 e))
  have U3 : Hid (Upd (fun q => q = bl ∨ q = bo ∨ slBlk (.slice Av m cv) = some q) w1 w3) := Lib.hid ((U2.out.mono (fun _ _ h => .inr h)).trans (UL.out.mono (fun _ _ h => .inl h)))
  have J3 : Hid (SlR encJ w3 base 58 5 (.slice Aj J.length cj) J) := Lib.hid (F1.out.j.upd U3.out (fun q hq e => by
    obtain ⟨_, _, cur, hc⟩ := Sl.blk F1.out.j q hq
    rcases e with e | e | e
    · exact F1.out.l.ne_ hc e
    · exact F1.out.m.ne_ hc e
    · exact (LB.out q e).2.2.2.2.2.1 hq))
  have HBS3 : Hid (base ≤ w3.heap.size) := Lib.hid (Nat.le_trans HBS.out U3.out.size)
  have HS10 : Hid (∀ w', Upd (fun q => slBlk (.slice Aj J.length cj) = some q) w3 w' → (fun w' => w'.cell? ⟨f, 0, none⟩ = some (.slice Aj J.length cj) ∧ w'.cell? ⟨be, 2, none⟩ = some (.int .i64 a) ∧ w'.cell? ⟨be, 3, none⟩ = some (.int .i64 b) ∧ w'.cell? ⟨be, 0, none⟩ = some (.int .i64 k)) w') := Lib.hid (fun w' hu => by
    have hB := B3.out.upd hu (fun e => HJB.out f e rfl)
    have hX := X3.out.upd hu (fun e => HXF.out.2.2.2.1 e)
    exact ⟨hB.cell 0, hX.cell 2, hX.cell 3, hX.cell 0⟩)
  clear MC VC BC XC LC UL U2 UB VB UC
  go_upto_region 10 with fail
  refine wp_region_treeF (.q 0 (.q 1 (.q 2 (.q 3 (.q 4 (.q 5 (.q 6 (.q 7 (.q 8 (.q 9 (.q 10 (.q 11 (.l 12 (.l 13 (.q 14 (.q 15 (.l 16 .d))))))))))))))))) (fun i => decide (i = 16)) (fun q => decide (q = 14 ∨ q = 15)) (fun w' => w'.cell? ⟨f, 0, none⟩ = some (.slice Aj J.length cj) ∧ w'.cell? ⟨be, 2, none⟩ = some (.int .i64 a) ∧ w'.cell? ⟨be, 3, none⟩ = some (.int .i64 b) ∧ w'.cell? ⟨be, 0, none⟩ = some (.int .i64 k))
    (by kernel_rfl) (by kernel_rfl) (by kernel_rfl) (fun t ht => by have := of_decide_eq_true ht; subst this; decide) (fun _ _ _ _ _ h => h) (by kernel_rfl) rfl (HS10.out _ (Upd.refl _ w3).drew) ?_
  iterate 12
    (refine' wpOF_q (by rfl) (by rfl) (by rfl) (fun w' hS' => ?_) ?_
     rotate_left
     · obtain ⟨s1, s2, s3, s4⟩ := hS'
       go_simp
       try rfl)
    try simp only [Act.put, List.setIfInBounds_toArray, List.set_cons_zero, List.set_cons_succ]
  refine wpOF_l (by rfl) (by rfl) (fun KQ hKQ => ?_)
  go_simp
  have EA : Hid (Blk (w3.alloc (.cells #[.int .i64 a, .int .i64 b, .int .i64 k, .int .i64 (-1), .int .i64 0] 58)).drew w3.heap.size 58 #[.int .i64 a, .int .i64 b, .int .i64 k, .int .i64 (-1), .int .i64 0]) := Lib.hid (Blk.new w3 _ _)
  have UA : Hid (Upd (fun _ => False) w3 (w3.alloc (.cells #[.int .i64 a, .int .i64 b, .int .i64 k, .int .i64 (-1), .int .i64 0] 58)).drew) := Lib.hid ((Upd.refl _ w3).alloc _).drew
  refine hKQ _ _ (.inr (HS10.out _ (UA.out.mono (fun _ _ h => h.elim)))) ?_
  clear hKQ KQ
  try simp only [Act.put, List.setIfInBounds_toArray, List.set_cons_zero, List.set_cons_succ]
  generalize (w3.alloc (.cells #[.int .i64 a, .int .i64 b, .int .i64 k, .int .i64 (-1), .int .i64 0] 58)).drew = wA at *
  obtain ⟨bA, hbA⟩ : ∃ bA, w3.heap.size = bA := ⟨_, rfl⟩
  rw [hbA] at EA ⊢
  clear hbA
  refine wpOF_l (by rfl) (by rfl) (fun KQ hKQ => ?_)
  refine wp_append_sl (.tmp 61) (.tmp 69) 28 rfl base 58 j0 _ 5 40 Try.underlying28 hj0 hy0 hy1 hy2 rfl (by decide) (.slice Aj J.length cj) J.length (rws encJ J) rfl (J3.out.upd UA.out (fun _ _ h => h)) ⟨bA, 0, none⟩ 1 [.int .i64 a, .int .i64 b, .int .i64 k, .int .i64 (-1), .int .i64 0] rfl rfl (fun j u hu => by rw [add_at, EA.out.cell j]; simpa using hu) (by simp [Value.oneCell']) (by unfold maxLen; omega) (by omega) (Nat.le_trans HBS3.out UA.out.size) ?_
  intro v' wB hs1 hu1 hv1
  obtain ⟨AB2, cB2, rfl⟩ := Sl.shape hs1
  have UB2 : Hid (Upd (fun q => slBlk (.slice Aj J.length cj) = some q) w3 wB) := Lib.hid ((UA.out.mono (fun _ _ h => h.elim)).trans hu1)
  have JB : Hid (SlR encJ wB base 58 5 (.slice AB2 (J.length + 1) cB2) (J ++ [⟨a, b, k, -1, 0⟩])) := Lib.hid (by
    unfold SlR
    rw [List.length_append, rws_append]
    exact hs1)
  have BB := B3.out.upd UB2.out (fun e => (HJB.out f e) rfl)
  have x0 : wB.cell? ⟨f, 0, none⟩ = some (.slice Aj J.length cj) := BB.cell 0
  have y0 : wB.frozen? ⟨f, 0, none⟩ = false := BB.frozen 0
  have hBC := BB.set_ 0 (.slice AB2 (J.length + 1) cB2)
  have hUS : Upd (fun q => q = f) wB (wB.setCell ⟨f, 0, none⟩ (.slice AB2 (J.length + 1) cB2)) := (Upd.refl (fun q => q = f) wB).setCell (p := ⟨f, 0, none⟩) (fun _ => rfl) _
  have hJC := JB.out.upd hUS (fun q hq e => by
    obtain ⟨_, _, cur, hc⟩ := Sl.blk JB.out q hq
    rw [e] at hc
    exact hc.ne_ BB (by decide) rfl)
  have B4 := Lib.hid hBC; have J4 := Lib.hid hJC; have US := Lib.hid hUS
  clear hs1 hu1 hv1 EA BB hBC hUS hJC JB
  refine hKQ _ _ (.inr (HS10.out _ UB2.out)) ?_
  clear hKQ KQ
  try simp only [Act.put, List.setIfInBounds_toArray, List.set_cons_zero, List.set_cons_succ]
  iterate 2
    (refine' wpOF_f (by rfl) (by rfl) (fun w' => ?_) ?_
     rotate_left
     · go_simp
       try rfl)
    try simp only [Act.put, List.setIfInBounds_toArray, List.set_cons_zero, List.set_cons_succ]
  refine wpOF_l (by rfl) (by rfl) (fun KQ hKQ => ?_)
  go_simp
  refine hKQ _ _ (.inl (by rfl)) ?_
  clear hKQ KQ
  try simp only [Act.put, List.setIfInBounds_toArray, List.set_cons_zero, List.set_cons_succ]
  refine wpOF_d ?_
  clear x0 y0 UA
  have U4 : Hid (Upd (fun q => slBlk (.slice Aj J.length cj) = some q ∨ q = f) w3 (wB.setCell ⟨f, 0, none⟩ (.slice AB2 (J.length + 1) cB2))) := Lib.hid ((UB2.out.mono (fun _ _ h => .inl h)).trans (US.out.mono (fun _ _ h => .inr h)))
  have HMn : Hid (∀ t cs g, Blk w3 g t cs → g ≠ bo ∧ g ≠ bl) := Lib.hid (fun t cs g hg => ⟨M3.out.ne_ hg, L3.out.ne_ hg⟩)
  have M4 := Lib.hid (M3.out.upd U4.out (fun e => by
    rcases e with e | e
    · obtain ⟨_, _, cur, hc⟩ := Sl.blk J3.out bo e
      exact (HMn.out _ _ _ hc).1 rfl
    · exact (HMn.out _ _ _ B3.out).1 e.symm))
  have L4 := Lib.hid (L3.out.upd U4.out (fun e => by
    rcases e with e | e
    · obtain ⟨_, _, cur, hc⟩ := Sl.blk J3.out bl e
      exact (HMn.out _ _ _ hc).2 rfl
    · exact (HMn.out _ _ _ B3.out).2 e.symm))
  have V4 := Lib.hid (V3.out.upd U4.out (fun q hq e => by
    obtain ⟨_, _, cur, hc⟩ := Sl.blk V3.out q hq
    rcases e with e | e
    · obtain ⟨_, _, cur2, hc2⟩ := Sl.blk J3.out q e
      exact hc.ne_ hc2 (by decide) rfl
    · rw [e] at hc
      exact hc.ne_ B3.out (by decide) rfl))
  have UT : Hid (Upd (fun q => q = f ∨ q = bo ∨ q = bl ∨ slBlk (.slice Aj J.length cj) = some q ∨ slBlk (.slice Av m cv) = some q) w1 (wB.setCell ⟨f, 0, none⟩ (.slice AB2 (J.length + 1) cB2))) := Lib.hid ((U3.out.mono (fun _ _ h => by rcases h with h | h | h <;> simp [h])).trans (U4.out.mono (fun _ _ h => by rcases h with h | h <;> simp [h])))
  generalize wB.setCell ⟨f, 0, none⟩ (.slice AB2 (J.length + 1) cB2) = w4 at *
  clear U3 U4 US UB2 M3 L3 V3 X3 B3 J3 HS10
  go_wp2_with fail
  go_returns
  refine ⟨rfl, ⟨_, _, _, FoS.acc F1.out hw HVE.out UT.out B4.out J4.out M4.out L4.out V4.out HVB.out⟩, (U1.out.mono (fun _ _ h => h.elim)).trans (UT.out.mono (fun q hq e => ?_))⟩
  rcases e with e | e | e | e | e
  · rw [e]; exact F1.out.hf
  · rw [e]; exact F1.out.ho
  · rw [e]; exact F1.out.hl
  · exact (Sl.blk F1.out.j q e).1
  · exact (LB.out q e).1
end Go.Proofs.Ythjebjegedgoeaa
