/-
  Stats: Merge.
-/
import Derived.Test.YthjebjegedgoeaaStU
namespace Go.Proofs.Ythjebjegedgoeaa
open Go.RowKit Go.Shelf Go.Maps Go.Sort
attribute [local go_sem] max_ints min_ints mapEq mapEqN makeMp

theorem TabS.keep {w w' : World} {g bm B W : Nat} {ks : KS} {ln : Int → Ln} {ct : Int → List Int} {N S : Nat → Prop} (h : TabS w g bm B W ks ln ct N) (hu : Upd S w w') (hS : ∀ q, ownT g bm ks q → ¬ S q) : TabS w' g bm B W ks ln ct N :=
  ⟨h.b.upd hu (hS _ (.inl rfl)), h.m.upd hu (hS _ (.inr (.inl rfl))), fun e he => (h.e e he).upd hu (hS _ (.inr (.inr ⟨e, he, .inl rfl⟩))) (hS _ (.inr (.inr ⟨e, he, .inr rfl⟩))), h.n1, h.n2, h.n3, h.ng, h.nm, h.nk⟩
theorem TabJ.keep {w w' : World} {g bm B W : Nat} {ks : KS} {l : List J5} {N S : Nat → Prop} (h : TabJ w g bm B W ks l N) (hu : Upd S w w') (hS : ∀ q, ownT g bm ks q → ¬ S q) : TabJ w' g bm B W ks l N := ⟨h.1.keep hu hS, h.2⟩

def mrgL (a b : List J5) (T : List Int) (s : Int) : Ln := if s ∈ T then (lineJ a s).join (lineJ b s) else lineJ a s
def mrgC (B W : Nat) (a b : List J5) (T : List Int) (s : Int) : List Int := if s ∈ T then addL (cntJ B W a s) (cntJ B W b s) else cntJ B W a s
theorem mrgL_put (a b : List J5) (T : List Int) (t s : Int) : mrgL a b (T ++ [t]) s = putF (mrgL a b T) t ((lineJ a t).join (lineJ b t)) s := by
  unfold mrgL putF
  by_cases h : s = t
  · subst h; simp
  · simp [h]
theorem mrgC_put (B W : Nat) (a b : List J5) (T : List Int) (t s : Int) : mrgC B W a b (T ++ [t]) s = putF (mrgC B W a b T) t (addL (cntJ B W a t) (cntJ B W b t)) s := by
  unfold mrgC putF
  by_cases h : s = t
  · subst h; simp
  · simp [h]
theorem mrgL_end (a b : List J5) (s : Int) : lineJ (a ++ b) s = mrgL a b (sortT b) s := by
  unfold mrgL
  rw [lineJ_append]
  by_cases h : s ∈ sortT b
  · rw [if_pos h]
  · rw [if_neg h, lineJ_none (fun e => h ((sortT_mem b s).2 e)), join_zero _ (lineJ_ok a s).most0]
theorem mrgC_end (B W : Nat) (a b : List J5) (s : Int) : cntJ B W (a ++ b) s = mrgC B W a b (sortT b) s := by
  unfold mrgC
  rw [cntJ_append]
  by_cases h : s ∈ sortT b
  · rw [if_pos h]
  · have h0 := addL_zero (cntJ B W a s)
    rw [cntJ_len] at h0
    rw [if_neg h, cntJ_none (fun e => h ((sortT_mem b s).2 e)), h0]
theorem sortT_nodup (l : List J5) : (sortT l).Nodup := (sortT_sorted l).imp (fun h => by omega)
theorem addKey_mem (l : List Int) (t s : Int) : s ∈ addKey l t ↔ s ∈ l ∨ s = t := by
  unfold addKey
  split
  · rename_i h
    exact ⟨.inl, fun h2 => h2.elim id (fun e => by rw [e]; exact h)⟩
  · simp
theorem addKey_len (l : List Int) (t : Int) : (addKey l t).length ≤ l.length + 1 := by unfold addKey; split <;> simp
theorem not_mem_take {l : List Int} (h : l.Nodup) {i : Nat} {x : Int} (hx : l[i]? = some x) : x ∉ l.take i := fun hm => by
  obtain ⟨j, hj, he⟩ := List.getElem_of_mem hm
  rw [List.length_take] at hj
  rw [List.getElem_take] at he
  have hi := (List.getElem?_eq_some_iff.1 hx)
  obtain ⟨hi, hxe⟩ := hi
  exact (List.pairwise_iff_getElem.1 h) j i (by omega) hi (by omega) (he.trans hxe.symm)

theorem none1 (w : World) (g : Nat) (h : ∃ bm v1 v2, Blk w g 47 #[.map (some bm), v1, v2]) :
    Calls Try.prog 21 #[.pointer (some ⟨g, 0, none⟩)] w fun e w' => e = .returned (.bool false) ∧ ∃ k, w' = w.drewN k := by
  obtain ⟨bm, v1, v2, hb⟩ := h
  exact noneC w g bm v1 v2 hb

set_option maxRecDepth 100000 in
set_option maxHeartbeats 6400000 in
theorem mergeC (w : World) (g bm B W : Nat) (ks : KS) (N : Nat → Prop) (a : List J5) (hT : TabJ w g bm B W ks a N) (g2 bm2 : Nat) (ks2 : KS) (N2 : Nat → Prop) (b : List J5) (hT2 : TabJ w g2 bm2 B W ks2 b N2)
    (hN : ∀ k, N k → k < w.heap.size) (hown : ∀ q, ownT g2 bm2 ks2 q → N q) (hB : 1 ≤ B) (hB2 : B ≤ 64) (hla : a.length ≤ 150) (hlb : b.length ≤ 150) (hwf : ∀ j ∈ b, j.Wf) :
    Calls Try.prog 17 #[.pointer (some ⟨g, 0, none⟩), .pointer (some ⟨g2, 0, none⟩)] w fun e w' => e = .returned (.bool true) ∧ (∃ ks', TabJ w' g bm B W ks' (a ++ b) N) ∧ Upd (fun q => ¬ N q) w w' := by
  have H := Lib.hid hT; have H2 := Lib.hid hT2; have HN := Lib.hid hN; have HO := Lib.hid hown; have HWF := Lib.hid hwf
  have hkl := TabJ.klen hT2
  have hkla := TabJ.klen hT
  have a1 : w.cell? ⟨g, 1, none⟩ = some (.int .i64 (B : Int)) := hT.1.b.cell 1
  have a2 : w.cell? ⟨g, 2, none⟩ = some (.int .i64 (W : Int)) := hT.1.b.cell 2
  have b1 : w.cell? ⟨g2, 1, none⟩ = some (.int .i64 (B : Int)) := hT2.1.b.cell 1
  have b2 : w.cell? ⟨g2, 2, none⟩ = some (.int .i64 (W : Int)) := hT2.1.b.cell 2
  clear hT hT2 hN hown hwf
  go_enter Try.func17, Try.ntmps17
  go_wp2_with fail
  go_quiet ((go_at_call 21; refine Calls.quiet_of (none1 _ _ ?_); first | exact ⟨_, _, _, H.out.1.b.drewN _⟩ | exact ⟨_, _, _, H2.out.1.b.drewN _⟩))
  go_upto_region 3 with fail
  have T1 : Hid (TabJ (w.drewN nq) g bm B W ks a N) := Lib.hid ⟨H.out.1.drewN nq, H.out.2⟩
  have T1b : Hid (TabJ (w.drewN nq) g2 bm2 B W ks2 b N2) := Lib.hid ⟨H2.out.1.drewN nq, H2.out.2⟩
  have U1 : Hid (Upd (fun _ => False) w (w.drewN nq)) := Lib.hid ((Upd.refl _ w).drewN nq)
  clear a1 a2 b1 b2 H2
  generalize w.drewN nq = w1 at *
  have c0 : w1.cell? ⟨g2, 0, none⟩ = some (.map (some bm2)) := T1b.out.1.b.cell 0
  go_wp2_with fail
  refine (keysC _ bm2).mono ?_
  rintro e w2 ⟨rfl, rfl⟩
  have hu2 : Upd (fun _ => False) w1 (w1.alloc (.cells #[.map (some bm2)] 45)) := (Upd.refl _ w1).alloc _
  have HSO := Lib.hid (sortedC (w1.alloc (.cells #[.map (some bm2)] 45)) w1.heap.size bm2 ks2 (T1b.out.1.m.upd hu2 (fun h => h)) ((Blk.new w1 _ _).cell 0) (Blk.new w1 _ _).lt (by omega))
  have T2 : Hid (TabJ (w1.alloc (.cells #[.map (some bm2)] 45)) g bm B W ks a N) := Lib.hid (T1.out.still hu2)
  have T2b : Hid (TabJ (w1.alloc (.cells #[.map (some bm2)] 45)) g2 bm2 B W ks2 b N2) := Lib.hid (T1b.out.still hu2)
  have U2 := Lib.hid (U1.out.trans hu2)
  clear hu2 c0
  go_wp2_with fail
  refine HSO.out.mono ?_
  rintro e w3 ⟨v, rfl, ss, hss, hv, hU3⟩
  replace hss := hss.trans T2b.out.2
  rw [tasks_sort hss] at hv
  obtain ⟨Ak, ck, rfl⟩ := hv.shape
  have V3 := Lib.hid (hv.mono (Nat.le_trans U1.out.size (by simp)))
  have T3b : Hid (TabJ w3 g2 bm2 B W ks2 b N2) := Lib.hid (T2b.out.still hU3)
  have T3 : Hid (TabJ w3 g bm B W ks a N) := Lib.hid (T2.out.still hU3)
  have U3 := Lib.hid (U2.out.trans hU3)
  have hsl := sortT_len b
  have HND := Lib.hid (sortT_nodup b)
  have HSM : Hid (∀ t ∈ sortT b, (Lit.int .i64 t).wf = true) := Lib.hid (fun t h => task_wf HWF.out h)
  have HSM2 : Hid (∀ s, s ∈ sortT b ↔ s ∈ b.map J5.t) := Lib.hid (sortT_mem b)
  have HEL : Hid (∀ s, lineJ (a ++ b) s = mrgL a b (sortT b) s) := Lib.hid (mrgL_end a b)
  have HEC : Hid (∀ s, cntJ B W (a ++ b) s = mrgC B W a b (sortT b) s) := Lib.hid (mrgC_end B W a b)
  obtain ⟨ts, hts⟩ : ∃ ts, sortT b = ts := ⟨_, rfl⟩
  have HTS := Lib.hid hts
  rw [hts] at V3 hsl HND HSM HSM2 HEL HEC ⊢
  obtain ⟨M, hM⟩ : ∃ M : Nat → Prop, (fun k => N k ∨ (w.heap.size ≤ k ∧ k < w3.heap.size)) = M := ⟨_, rfl⟩
  have HM : Hid (∀ k, M k ↔ N k ∨ (w.heap.size ≤ k ∧ k < w3.heap.size)) := Lib.hid (fun k => by rw [← hM])
  have HMlt : Hid (∀ k, M k → k < w3.heap.size) := Lib.hid (fun k hk => by
    rcases (HM.out k).1 hk with h | h
    · exact Nat.lt_of_lt_of_le (HN.out k h) U3.out.size
    · exact h.2)
  have HMO : Hid (∀ q, ownT g2 bm2 ks2 q → M q) := Lib.hid (fun q hq => (HM.out q).2 (.inl (HO.out q hq)))
  have HMV : Hid (∀ q, slBlk (.slice Ak ts.length ck) = some q → M q) := Lib.hid (fun q hq => by
    obtain ⟨h1, h2, _⟩ := Sl.blk V3.out q hq
    exact (HM.out q).2 (.inr ⟨h1, h2⟩))
  have T4 : Hid (TabS w3 g bm B W ks (mrgL a b (ts.take 0)) (mrgC B W a b (ts.take 0)) M) := Lib.hid (by
    refine TabS.congr (ln := lineJ a) (ct := cntJ B W a) ?_ (fun e _ => by unfold mrgL; simp) (fun e _ => by unfold mrgC; simp)
    refine TabS.more (N := N) H.out.1 U3.out (fun k hk hlt => ?_)
    rcases (HM.out k).1 hk with h | h
    · exact h
    · omega)
  have HK0 : Hid (∀ s, s ∈ ks.map Prod.fst ↔ s ∈ a.map J5.t ∨ s ∈ ts.take 0) := Lib.hid (fun s => by rw [H.out.2.mem_iff, tasksJ_mem]; simp)
  clear hM T1 T1b T2 T2b T3 U1 U2 HSO hss hv hU3 hts H
  go_wp2_with fail
  go_loopw [6, 43] (fun v6 v43 wr => ∃ (i : Nat) (ks' : KS), i ≤ ts.length ∧ v43 = .int .i64 i ∧ TabS wr g bm B W ks' (mrgL a b (ts.take i)) (mrgC B W a b (ts.take i)) M ∧ (∀ s, s ∈ ks'.map Prod.fst ↔ s ∈ a.map J5.t ∨ s ∈ ts.take i) ∧ ks'.length ≤ 150 + i ∧ Upd (fun q => ¬ M q) w3 wr) (fun _ v43 _ => ts.length - (intOf v43).toNat)
  case atStart => exact ⟨0, ks, Nat.zero_le _, rfl, T4.out, HK0.out, by omega, Upd.refl _ w3⟩
  case round =>
    obtain ⟨i, ks', hi, rfl, hT, hK, hkl', hU⟩ := hrel
    have T5 := Lib.hid hT; have K5 := Lib.hid hK; have U5 := Lib.hid hU
    have V5 := Lib.hid (V3.out.upd hU (fun q hq h => h (HMV.out q hq)))
    have T5b := Lib.hid (T3b.out.keep hU (fun q hq h => h (HMO.out q hq)))
    clear hT hK hU
    by_cases hlt : i < ts.length
    · obtain ⟨t, ht⟩ : ∃ t, ts[i]? = some t := ⟨_, List.getElem?_eq_getElem hlt⟩
      obtain ⟨bk, ok, ck', he, _, _, _, _⟩ := V5.out.form (by omega)
      injection he with he1 he2 he3
      subst he1; subst he3
      have ck0 := slr_int V5.out i t ht
      have htm : t ∈ ts := List.mem_of_getElem? ht
      have htw := HSM.out t htm
      have dl : decide ((i : Int) < (ts.length : Int)) = true := decide_eq_true (by omega)
      have HT := Lib.hid ht
      have HNT : Hid (t ∉ ts.take i) := Lib.hid (not_mem_take HND.out ht)
      rcases T5b.out.1.m.look T5b.out.1.n1 t htw false with ⟨k, cb, hm, hrun⟩ | ⟨hno, _⟩
      · obtain ⟨⟨arr, en, lo, le, mo, su⟩, hx⟩ : ∃ x, lineJ b t = x := ⟨_, rfl⟩
        have hB := (T5b.out.1.e _ hm).kn
        have hC := (T5b.out.1.e _ hm).cn
        dsimp only at hB hC
        rw [hx] at hB
        have e0 : wr.cell? ⟨k, 0, none⟩ = some (.int .i64 t) := hB.cell 0
        have e1 : wr.cell? ⟨k, 1, none⟩ = some (.int .i64 arr) := hB.cell 1
        have e2 : wr.cell? ⟨k, 2, none⟩ = some (.int .i64 en) := hB.cell 2
        have e3 : wr.cell? ⟨k, 3, none⟩ = some (.int .i64 lo) := hB.cell 3
        have e4 : wr.cell? ⟨k, 4, none⟩ = some (.int .i64 le) := hB.cell 4
        have e5 : wr.cell? ⟨k, 5, none⟩ = some (.int .i64 mo) := hB.cell 5
        have e6 : wr.cell? ⟨k, 6, none⟩ = some (.int .i64 su) := hB.cell 6
        have e7 : wr.cell? ⟨k, 7, none⟩ = some (.slice (some ⟨cb, 0, none⟩) B B) := hB.cell 7
        have g0 : wr.cell? ⟨g2, 0, none⟩ = some (.map (some bm2)) := T5b.out.1.b.cell 0
        have hrun' : (Instr.lookup 45 (.map (some bm2)) (.int .i64 t) false).run Try.prog wr = .ok (.pointer (some ⟨k, 0, none⟩)) wr := hrun
        have HX := Lib.hid hx
        have hC1 := hC.alloc (.cells #[.int .i64 t, .int .i64 arr, .int .i64 en, .int .i64 lo, .int .i64 le, .int .i64 mo, .int .i64 su, .slice (some ⟨cb, 0, none⟩) B B] 62)
        have HCL := Lib.hid (cloneI _ _ _ _ hC1 (by rw [cntJ_len]; omega))
        have X1 := Lib.hid (Blk.new wr 62 #[.int .i64 t, .int .i64 arr, .int .i64 en, .int .i64 lo, .int .i64 le, .int .i64 mo, .int .i64 su, .slice (some ⟨cb, 0, none⟩) B B])
        have UA := Lib.hid ((Upd.refl (fun _ => False) wr).alloc (.cells #[.int .i64 t, .int .i64 arr, .int .i64 en, .int .i64 lo, .int .i64 le, .int .i64 mo, .int .i64 su, .slice (some ⟨cb, 0, none⟩) B B] 62))
        have HWR := Lib.hid U5.out.size
        clear ht htm hm hrun hB hC hC1 hx he2
        go_upto_region 7 with fail
        clear e0 e1 e2 e3 e4 e5 e6 e7 g0 ck0 hrun'
        have x7 : (wr.alloc (.cells #[.int .i64 t, .int .i64 arr, .int .i64 en, .int .i64 lo, .int .i64 le, .int .i64 mo, .int .i64 su, .slice (some ⟨cb, 0, none⟩) B B] 62)).cell? ⟨wr.heap.size, 7, none⟩ = some (.slice (some ⟨cb, 0, none⟩) B B) := X1.out.cell 7
        obtain ⟨kx, hkx⟩ : ∃ kx, wr.heap.size = kx := ⟨_, rfl⟩
        have HKX := Lib.hid hkx
        rw [hkx] at X1 x7 ⊢
        generalize wr.alloc (.cells #[.int .i64 t, .int .i64 arr, .int .i64 en, .int .i64 lo, .int .i64 le, .int .i64 mo, .int .i64 su, .slice (some ⟨cb, 0, none⟩) B B] 62) = wA at *
        clear hkx
        go_wp2_with fail
        refine HCL.out.mono ?_
        rintro e wB ⟨v, rfl, hv, hUB⟩
        obtain ⟨cx, ox, cpx, rfl, hcx, _, _, _⟩ := hv.form (by rw [cntJ_len]; omega)
        rw [cntJ_len] at hv ⊢
        have X2 := X1.out.upd hUB (fun h => h)
        have y7 : wB.cell? ⟨kx, 7, none⟩ = some (.slice (some ⟨cb, 0, none⟩) B B) := X2.cell 7
        have f7 := X2.frozen 7
        have hXs := X2.set_ 7 (.slice (some ⟨cx, ox, none⟩) B cpx)
        have hUs : Upd (fun q => q = kx) wB (wB.setCell ⟨kx, 7, none⟩ (.slice (some ⟨cx, ox, none⟩) B cpx)) := (Upd.refl (fun q => q = kx) wB).setCell (p := ⟨kx, 7, none⟩) (fun _ => rfl) _
        have hne : ¬ cx = kx := fun e => by
          obtain ⟨_, _, cur, hcur⟩ := Sl.blk hv _ rfl
          rw [e] at hcur
          exact hcur.ne_ X2 (by decide) rfl
        have CP : Hid (CpS (wB.setCell ⟨kx, 7, none⟩ (.slice (some ⟨cx, ox, none⟩) B cpx)) kx cx ox cpx B t ⟨arr, en, lo, le, mo, su⟩ (cntJ B W b t)) := Lib.hid ⟨hXs, (hv.mono (Nat.zero_le _)).upd hUs (fun q hq e => hne (by rw [← e, ← slBlk_eq hq]))⟩
        have UC : Hid (Upd (fun _ => False) wr (wB.setCell ⟨kx, 7, none⟩ (.slice (some ⟨cx, ox, none⟩) B cpx))) := Lib.hid ((((UA.out.trans hUB).mono (S' := fun q => q = kx) (fun _ _ h => h.elim)).trans hUs).mono (fun q hq e => by have := HKX.out; omega))
        have HCX : Hid (kx < wA.heap.size ∧ wA.heap.size ≤ cx) := Lib.hid ⟨X1.out.lt, hcx⟩
        have HCXL : Hid (cx < wB.heap.size) := Lib.hid (Sl.blk hv _ rfl).2.1
        go_upto_region 8 with fail
        clear x7 y7 f7 hXs hUs hne X2 hv hUB hcx X1 UA HCL
        obtain ⟨wC, hwC⟩ : ∃ wC, wB.setCell ⟨kx, 7, none⟩ (.slice (some ⟨cx, ox, none⟩) B cpx) = wC := ⟨_, rfl⟩
        have HBC : Hid (wA.heap.size ≤ wC.heap.size ∧ cx < wC.heap.size) := Lib.hid (by
          have h1 := HCXL.out
          have h2 := HCX.out
          rw [← hwC]
          simp only [World.setCell, Array.size_modify]
          omega)
        rw [hwC] at CP UC ⊢
        clear hwC HCXL
        have T8 : Hid (TabS wC g bm B W ks' (mrgL a b (ts.take i)) (mrgC B W a b (ts.take i)) (fun q => M q ∨ q = kx ∨ q = cx)) := Lib.hid (T5.out.more UC.out (fun q hq hlt => by
          have h1 := HCX.out
          have h2 := HKX.out
          rcases hq with hq | hq | hq
          · exact hq
          · omega
          · omega))
        have HM2 : Hid (∀ q, (M q ∨ q = kx ∨ q = cx) → q < wC.heap.size) := Lib.hid (fun q hq => by
          have h1 := HCX.out
          have h2 := HBC.out
          have h3 := UC.out.size
          have h4 := HWR.out
          rcases hq with hq | hq | hq
          · have := HMlt.out q hq; omega
          · omega
          · omega)
        have HZ : Hid (t ∉ ks'.map Prod.fst → mrgL a b (ts.take i) t = Ln.zero ∧ mrgC B W a b (ts.take i) t = List.replicate B 0) := Lib.hid (fun h => by
          have h1 : t ∉ a.map J5.t := fun e => h ((K5.out t).2 (.inl e))
          unfold mrgL mrgC
          rw [if_neg HNT.out, if_neg HNT.out]
          exact ⟨lineJ_none h1, cntJ_none h1⟩)
        have HE : Hid (mrgL a b (ts.take i) t = lineJ a t ∧ mrgC B W a b (ts.take i) t = cntJ B W a t) := Lib.hid (by
          unfold mrgL mrgC
          exact ⟨if_neg HNT.out, if_neg HNT.out⟩)
        go_wp2_with fail
        refine (ofC wC g bm B W ks' (mrgL a b (ts.take i)) (mrgC B W a b (ts.take i)) (fun q => M q ∨ q = kx ∨ q = cx) T8.out HM2.out hB2 (by omega) t htw HZ.out).mono ?_
        rintro e wD ⟨k', rfl, c', ks'', hmem, hT9, hks, hU9⟩
        have T9 := Lib.hid hT9
        have HMEM := Lib.hid hmem
        have K9 : Hid (KnS wD k' c' B t (lineJ a t) (cntJ B W a t)) := Lib.hid (by
          have h := hT9.e _ hmem
          rw [← HE.out.1, ← HE.out.2]
          exact ⟨h.kn, h.cn⟩)
        have CP9 := Lib.hid (CP.out.upd hU9 (fun h => h (.inr (.inl rfl))) (fun h => h (.inr (.inr rfl))))
        have HNK : Hid (¬ k' = kx ∧ ¬ c' = cx) := Lib.hid ⟨fun e => (hT9.nk _ hmem).1 (.inr (.inl e)), fun e => (hT9.nk _ hmem).2 (.inr (.inr e))⟩
        have HNM : Hid (¬ M k' ∧ ¬ M c') := Lib.hid ⟨fun e => (hT9.nk _ hmem).1 (.inl e), fun e => (hT9.nk _ hmem).2 (.inl e)⟩
        have U9 : Hid (Upd (fun q => ¬ M q) w3 wD) := Lib.hid ((U5.out.trans (UC.out.mono (S' := fun q => ¬ M q) (fun _ _ h => h.elim))).trans (hU9.mono (fun q _ h hm => h (.inl hm))))
        have K10 : Hid (∀ s, s ∈ ks''.map Prod.fst ↔ s ∈ a.map J5.t ∨ s ∈ ts.take (i + 1)) := Lib.hid (fun s => by
          rw [hks, addKey_mem, K5.out, take_succ_get HT.out, List.mem_append, List.mem_singleton, or_assoc])
        have hlen10 : ks''.length ≤ 150 + (i + 1) := by
          have h := addKey_len (ks'.map Prod.fst) t
          rw [← hks, List.length_map, List.length_map] at h
          omega
        clear hT9 hmem hks hU9 T8 CP UC HZ
        go_wp2_with fail
        refine (joinC wD k' c' B 150 t (lineJ a t) (cntJ B W a t) K9.out kx cx ox cpx t ⟨arr, en, lo, le, mo, su⟩ (cntJ B W b t) CP9.out HNK.out.1 HNK.out.2 ((lineJ_ok a t).mono hla) (by rw [← HX.out]; exact (lineJ_ok b t).mono hlb) (by decide) (fun z hz => by have := cntJ_bd B W a t z hz; omega) (fun z hz => by have := cntJ_bd B W b t z hz; omega) hB2).mono ?_
        rintro e wE ⟨rfl, hKE, hUE⟩
        rw [← HX.out] at hKE
        have T11 : Hid (TabS wE g bm B W ks'' (mrgL a b (ts.take (i + 1))) (mrgC B W a b (ts.take (i + 1))) M) := Lib.hid ((((T9.out.put HMEM.out hUE hKE.kn hKE.cn).congr (fun e _ => by rw [take_succ_get HT.out, mrgL_put]) (fun e _ => by rw [take_succ_get HT.out, mrgC_put])).less (fun q hq => .inl hq)))
        have U11 : Hid (Upd (fun q => ¬ M q) w3 wE) := Lib.hid (U9.out.trans (hUE.mono (fun q _ e => by
          rcases e with e | e
          · rw [e]; exact HNM.out.1
          · rw [e]; exact HNM.out.2)))
        clear hKE hUE T9 K9 CP9 U9
        go_wp2_with fail
        go_roundw
        case rel => exact ⟨i + 1, ks'', by omega, by go_num, T11.out, K10.out, hlen10, U11.out⟩
        case measure => simp [intOf]; omega
      · exfalso
        rw [T5b.out.2.mem_iff, tasksJ_mem, ← HSM2.out] at hno
        exact hno htm
    · have hie : i = ts.length := by omega
      subst hie
      have T6 := T5.out
      have K6 := K5.out
      rw [List.take_length] at T6 K6
      have T7 := Lib.hid T6; have K7 := Lib.hid K6
      clear T6 K6
      go_wp2_with fail
      go_returns
      refine ⟨rfl, ⟨ks', ⟨(T7.out.congr (fun e _ => HEL.out _) (fun e _ => HEC.out _)).less (fun k hk => (HM.out k).2 (.inl hk)), ?_⟩⟩, ?_⟩
      · refine (List.perm_ext_iff_of_nodup T7.out.n1 (tasksJ_nodup _)).2 (fun s => ?_)
        rw [K7.out, tasksJ_mem, List.map_append, List.mem_append, HSM2.out]
      · exact ((U3.out.mono (S' := fun q => ¬ N q) (fun _ _ h => h.elim)).trans (U5.out.mono (S' := fun q => ¬ N q) (fun q _ h hn => h ((HM.out q).2 (.inl hn)))))
end Go.Proofs.Ythjebjegedgoeaa
