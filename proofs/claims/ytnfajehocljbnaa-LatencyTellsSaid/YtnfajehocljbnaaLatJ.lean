/-
  The walk of latency.Jitter.
-/
import Derived.RangeFuncCalls
import Derived.Test.YtnfajehocljbnaaLatC
namespace Go.Proofs.Ytnfajehocljbnaa
open Go.RowKit Go.Shelf
attribute [local go_sem] max_ints min_ints
attribute [local go_sem] Oper.semAt_some

def jtS (s : Int × Int × Bool) (x : Int × Int) : Int × Int × Bool := (max s.1 x.2, min (if s.2.2 = false then x.2 else s.2.1) x.2, true)
def jtF (pre : List (Int × Int)) : Int × Int × Bool := pre.foldl jtS (0, 0, false)
theorem jtF_snoc (pre : List (Int × Int)) (x : Int × Int) : jtF (pre ++ [x]) = jtS (jtF pre) x := by simp [jtF, List.foldl_append]
theorem jtF_up {M : Int} {ws : List W3} {p : Int} {F m : Nat} (hb : ∀ f : Nat, (doneN M ws p F f m : Int) ≤ 2305843009213693952) : ∀ k, 0 < k → jtF (upA M ws p F m k) = (maxD M ws p F m k, minD M ws p F m k, true)
  | 0, h => by omega
  | k + 1, _ => by
    rw [upA_succ, jtF_snoc]
    have hk := hb k
    cases k with
    | zero =>
      have h0 : jtF (upA M ws p F m 0) = (0, 0, false) := rfl
      have h1 : maxD M ws p F m (0 + 1) = max 0 (doneN M ws p F (0 : Nat) m : Int) := rfl
      have h2 : minD M ws p F m (0 + 1) = min 2305843009213693952 (doneN M ws p F (0 : Nat) m : Int) := rfl
      rw [h0, h1, h2, jtS]
      have e1 : min (doneN M ws p F (0 : Nat) m : Int) (doneN M ws p F (0 : Nat) m : Int) = min 2305843009213693952 (doneN M ws p F (0 : Nat) m : Int) := by omega
      simp only [if_true, e1]
    | succ i =>
      rw [jtF_up hb (i + 1) (by omega), jtS]
      rfl

set_option maxRecDepth 100000 in
set_option maxHeartbeats 3200000 in
theorem jitterL (w : World) (base g F : Nat) (M : Int) (ws : List W3) (h : TabS w base g F M ws) (p work o : Int) (ho : cntO M ws p F = o) (m : Nat) (hm : min (max work 0) 1048576 = (m : Int)) (s : Int × Int × Bool) (hs : jtF (if o = 0 then [] else upA M ws p F m F) = s) (d : Int) (hd : IntKind.i64.wrap (s.1 - s.2.1) = d) :
    Calls Try.prog 27 #[.pointer (some ⟨g, 0, none⟩), .int .i64 p, .int .i64 work] w fun e w' => e = .returned (.tuple #[.int .i64 d, .bool s.2.2]) ∧ Upd (fun _ => False) w w' := by
  refine (callsIn_wide (n := 3)).1 ?_
  refine callsIn_of_wp_marks Try.func27 rfl trivial ?_ rfl
  simp only [Try.ntmps27, List.size_toArray, List.length_cons, List.length_nil, Nat.reduceAdd, Nat.reduceSub, Array.replicate_succ, Array.replicate_zero, List.push_toArray, List.append_toArray, List.nil_append, List.cons_append]
  gi_wp2_with fail
  refine ⟨trivial, (callsIn_wide.2 (answersP _ g p work)).mono ?_⟩
  rintro e V ⟨rfl, hV⟩
  obtain ⟨bL, hbL⟩ : ∃ bL, w.heap.size = bL := ⟨_, rfl⟩
  simp only [size_alloc, hbL] at hV ⊢
  obtain ⟨wa, hwa⟩ : ∃ wa, ((w.alloc (Obj.cells #[Value.int IntKind.i64 0] 3)).alloc (Obj.cells #[Value.int IntKind.i64 0] 3)).alloc (Obj.cells #[Value.bool false] 4) = wa := ⟨_, rfl⟩
  have hsa : wa.heap.size = bL + 1 + 1 + 1 := by rw [← hwa]; simp only [size_alloc, hbL]
  have hB0 := ((Blk.new w 3 #[.int .i64 0]).alloc (.cells #[.int .i64 0] 3)).alloc (.cells #[.bool false] 4)
  have hB1 := (Blk.new (w.alloc (.cells #[.int .i64 0] 3)) 3 #[.int .i64 0]).alloc (.cells #[.bool false] 4)
  have hB2 := Blk.new ((w.alloc (.cells #[.int .i64 0] 3)).alloc (.cells #[.int .i64 0] 3)) 4 #[.bool false]
  simp only [size_alloc, hbL] at hB0 hB1 hB2
  rw [hwa] at hB0 hB1 hB2 hV
  have hua : Upd (fun _ => False) w wa := by rw [← hwa]; exact (((Upd.refl _ w).alloc _).alloc _).alloc _
  have hA1 := ((Blk.new wa 25 #[.pointer (some ⟨g, 0, none⟩)]).alloc (.cells #[.int .i64 p] 3)).alloc (.cells #[.int .i64 work] 3)
  have hA2 := (Blk.new (wa.alloc (.cells #[.pointer (some ⟨g, 0, none⟩)] 25)) 3 #[.int .i64 p]).alloc (.cells #[.int .i64 work] 3)
  have hA3 := Blk.new ((wa.alloc (.cells #[.pointer (some ⟨g, 0, none⟩)] 25)).alloc (.cells #[.int .i64 p] 3)) 3 #[.int .i64 work]
  have hB0 := ((hB0.alloc (.cells #[.pointer (some ⟨g, 0, none⟩)] 25)).alloc (.cells #[.int .i64 p] 3)).alloc (.cells #[.int .i64 work] 3)
  have hB1 := ((hB1.alloc (.cells #[.pointer (some ⟨g, 0, none⟩)] 25)).alloc (.cells #[.int .i64 p] 3)).alloc (.cells #[.int .i64 work] 3)
  have hB2 := ((hB2.alloc (.cells #[.pointer (some ⟨g, 0, none⟩)] 25)).alloc (.cells #[.int .i64 p] 3)).alloc (.cells #[.int .i64 work] 3)
  have huV : Upd (fun _ => False) w V := by rw [hV]; exact ((hua.alloc _).alloc _).alloc _
  have hsV : V.heap.size = bL + 1 + 1 + 1 + 1 + 1 + 1 := by rw [hV]; simp only [size_alloc, hsa]
  simp only [size_alloc, hsa] at hA1 hA2 hA3
  rw [← hV] at hA1 hA2 hA3 hB0 hB1 hB2
  clear hV hwa hua hsa
  gi_wp2_with fail
  have hb0 : Below bL w V := by rw [← hbL]; exact huV.below (Nat.le_refl _) (fun _ h => h.elim)
  refine wpIn_rangeFunc_ownF rfl (by decide) (gf := 53) (lb := #[.pointer (some ⟨bL + 1 + 1 + 1, 0, none⟩), .pointer (some ⟨bL + 1 + 1 + 1 + 1, 0, none⟩), .pointer (some ⟨bL + 1 + 1 + 1 + 1 + 1, 0, none⟩)]) rfl trivial (enters_of Try.func53 (by kernel_rfl) rfl)
    (ansIt 2 (by decide) w V base g F M ws h p work o ho m hm bL (bL + 1 + 1 + 1) (bL + 1 + 1 + 1) (bL + 1 + 1 + 1 + 1) (bL + 1 + 1 + 1 + 1 + 1) (by omega) huV (by omega) (by omega) (by omega) (hA1.cell 0) (hA2.cell 0) (hA3.cell 0))
    (fun h k => KpA.t h k) (fun W l o o' hl h1 h2 h3 => KpA.b W l o o' hl h1 h2 h3) (Below.refl _ _) (fun _ => rfl)
    (fun pre W => ((W.cell? ⟨bL, 0, none⟩ = some (.int .i64 (jtF pre).1) ∧ W.frozen? ⟨bL, 0, none⟩ = false) ∧ (W.cell? ⟨bL + 1, 0, none⟩ = some (.int .i64 (jtF pre).2.1) ∧ W.frozen? ⟨bL + 1, 0, none⟩ = false) ∧ (W.cell? ⟨bL + 1 + 1, 0, none⟩ = some (.bool (jtF pre).2.2) ∧ W.frozen? ⟨bL + 1 + 1, 0, none⟩ = false)) ∧ Below bL w W)
    (fun _ _ _ => False)
    (OwnFrom.and (Own.from (fun s A B row hs hg hr => ⟨⟨cell_kept hs.1.1 hg hr, (frozen_kept hs.1.1 hg hr).trans hs.1.2⟩, ⟨cell_kept hs.2.1.1 hg hr, (frozen_kept hs.2.1.1 hg hr).trans hs.2.1.2⟩, ⟨cell_kept hs.2.2.1 hg hr, (frozen_kept hs.2.2.1 hg hr).trans hs.2.2.2⟩⟩) _) (ownFrom_below (by omega) (by omega)))
    (fun _ _ _ _ _ hs _ _ => hs)
    ⟨⟨⟨hB0.cell 0, hB0.frozen 0⟩, ⟨hB1.cell 0, hB1.frozen 0⟩, ⟨hB2.cell 0, hB2.frozen 0⟩⟩, hb0⟩
    (fun x => { tmps := #[.pointer (some ⟨g, 0, none⟩), .int .i64 p, .int .i64 work, undef, undef, undef, .int .i64 0, .bool false, .pointer (some ⟨bL, 0, none⟩), .pointer (some ⟨bL + 1, 0, none⟩), .pointer (some ⟨bL + 1 + 1, 0, none⟩), undef, .int .i64 x.2,
      .pointer (some ⟨g, 0, none⟩), .int .i64 p, .int .i64 work, .func (.func 53) #[] #[.pointer (some ⟨bL + 1 + 1 + 1, 0, none⟩), .pointer (some ⟨bL + 1 + 1 + 1 + 1, 0, none⟩), .pointer (some ⟨bL + 1 + 1 + 1 + 1 + 1, 0, none⟩)],
      .int .i64 x.1, .int .i64 x.2, undef, undef, undef, undef, undef, undef, undef, undef, undef, undef, undef, undef, undef], defers := [] }) ?assign ?body ?done ?stop
  case assign =>
    intro l x W K hK
    gi_wp2_with fail
    exact hK
  case body =>
    rintro l pre x W ⟨⟨⟨c0, f0⟩, ⟨c1, f1⟩, ⟨c2, f2⟩⟩, hB⟩ _
    obtain ⟨⟨mx, mn, ok⟩, hst⟩ : ∃ q, jtF pre = q := ⟨_, rfl⟩
    rw [hst] at c0 c1 c2
    dsimp only at c0 c1 c2
    obtain ⟨x1, x2⟩ := x
    have HK : Hid (jtF (pre ++ [(x1, x2)]) = (max mx x2, min (if ok = false then x2 else mn) x2, true)) := Lib.hid (by rw [jtF_snoc, hst]; rfl)
    have HB := Lib.hid hB
    clear hst hB
    have hfin : ∀ (A : World) (u0 u1 : Int) (u2 : Bool), A.cell? ⟨bL, 0, none⟩ = some (.int .i64 u0) → A.frozen? ⟨bL, 0, none⟩ = false → A.cell? ⟨bL + 1, 0, none⟩ = some (.int .i64 u1) → A.frozen? ⟨bL + 1, 0, none⟩ = false → A.cell? ⟨bL + 1 + 1, 0, none⟩ = some (.bool u2) → A.frozen? ⟨bL + 1 + 1, 0, none⟩ = false → Below bL w A → KeepsOthers W A → KpA bL (bL + 1 + 1 + 1) V.heap.size W A →
      jtF (pre ++ [(x1, x2)]) = (u0, u1, u2) → KeepsOthers W A.drew ∧ KpA bL (bL + 1 + 1 + 1) V.heap.size W A.drew ∧ (fun pre W => ((W.cell? ⟨bL, 0, none⟩ = some (.int .i64 (jtF pre).1) ∧ W.frozen? ⟨bL, 0, none⟩ = false) ∧ (W.cell? ⟨bL + 1, 0, none⟩ = some (.int .i64 (jtF pre).2.1) ∧ W.frozen? ⟨bL + 1, 0, none⟩ = false) ∧ (W.cell? ⟨bL + 1 + 1, 0, none⟩ = some (.bool (jtF pre).2.2) ∧ W.frozen? ⟨bL + 1 + 1, 0, none⟩ = false)) ∧ Below bL w W) (pre ++ [(x1, x2)]) A.drew := by
      intro A u0 u1 u2 h1 h2 h3 h4 h5 h6 h7 h8 h9 h10
      refine ⟨h8.trans (KeepsOthers.drew _), Upd.drew h9, ?_⟩
      dsimp only
      rw [h10]
      exact ⟨⟨⟨h1, h2⟩, ⟨h3, h4⟩, ⟨h5, h6⟩⟩, h7.drew⟩
    have HFIN := Lib.hid hfin
    clear hfin
    cases ok
    · rw [if_pos rfl] at HK
      have H3 := Lib.hid (HFIN.out ((((W.setCell ⟨bL + 1, 0, none⟩ (.int .i64 x2)).setCell ⟨bL + 1 + 1, 0, none⟩ (.bool true)).setCell ⟨bL, 0, none⟩ (.int .i64 (max mx x2))).setCell ⟨bL + 1, 0, none⟩ (.int .i64 x2)) (max mx x2) x2 true
        (cell_far (by omega) (World.cell?_setCell_same' _ _ _ (by rw [cell_far (by omega) (cell_far (by omega) c0)]; rfl))) (by simp only [World.frozen?_setCell]; exact f0)
        (World.cell?_setCell_same' _ _ _ (by rw [cell_far (by omega) (cell_far (by omega) (World.cell?_setCell_same' W ⟨bL + 1, 0, none⟩ (.int .i64 x2) (by rw [c1]; rfl)))]; rfl)) (by simp only [World.frozen?_setCell]; exact f1)
        (cell_far (by omega) (cell_far (by omega) (World.cell?_setCell_same' _ _ _ (by rw [cell_far (by omega) c2]; rfl)))) (by simp only [World.frozen?_setCell]; exact f2)
        ((((HB.out.setCell (p := ⟨bL + 1, 0, none⟩) (by simp only; omega) _).setCell (p := ⟨bL + 1 + 1, 0, none⟩) (by simp only; omega) _).setCell (p := ⟨bL, 0, none⟩) (by simp only; omega) _).setCell (p := ⟨bL + 1, 0, none⟩) (by simp only; omega) _)
        ((((KeepsOthers.setCell _ _ _).trans (KeepsOthers.setCell _ _ _)).trans (KeepsOthers.setCell _ _ _)).trans (KeepsOthers.setCell _ _ _))
        (((((Upd.refl _ W).setCell (p := ⟨bL + 1, 0, none⟩) (fun _ => .inl (by simp only; omega)) _).setCell (p := ⟨bL + 1 + 1, 0, none⟩) (fun _ => .inl (by simp only; omega)) _).setCell (p := ⟨bL, 0, none⟩) (fun _ => .inl (by simp only; omega)) _).setCell (p := ⟨bL + 1, 0, none⟩) (fun _ => .inl (by simp only; omega)) _)
        (by rw [HK.out, show min x2 x2 = x2 by omega]))
      gi_wp2_with fail
      gi_region
      all_goals exact ⟨H3.out.1, H3.out.2.1, H3.out.2.2⟩
    · rw [if_neg (by decide)] at HK
      have H3 := Lib.hid (HFIN.out ((W.setCell ⟨bL, 0, none⟩ (.int .i64 (max mx x2))).setCell ⟨bL + 1, 0, none⟩ (.int .i64 (min mn x2))) (max mx x2) (min mn x2) true
        (cell_far (by omega) (World.cell?_setCell_same' _ _ _ (by rw [c0]; rfl))) (by simp only [World.frozen?_setCell]; exact f0)
        (World.cell?_setCell_same' _ _ _ (by rw [cell_far (by omega) c1]; rfl)) (by simp only [World.frozen?_setCell]; exact f1)
        (cell_far (by omega) (cell_far (by omega) c2)) (by simp only [World.frozen?_setCell]; exact f2)
        ((HB.out.setCell (p := ⟨bL, 0, none⟩) (by simp only; omega) _).setCell (p := ⟨bL + 1, 0, none⟩) (by simp only; omega) _)
        ((KeepsOthers.setCell _ _ _).trans (KeepsOthers.setCell _ _ _))
        (((Upd.refl _ W).setCell (p := ⟨bL, 0, none⟩) (fun _ => .inl (by simp only; omega)) _).setCell (p := ⟨bL + 1, 0, none⟩) (fun _ => .inl (by simp only; omega)) _)
        HK.out)
      gi_wp2_with fail
      gi_region
      all_goals exact ⟨H3.out.1, H3.out.2.1, H3.out.2.2⟩
  case done =>
    rintro D ys W hD hys ⟨⟨⟨c0, f0⟩, ⟨c1, f1⟩, ⟨c2, f2⟩⟩, hB⟩ hK
    rw [hys, hs] at c0 c1 c2
    gi_wp2_with fail
    gi_region
    gi_wp2_with fail
    refine ⟨by simp, .inl ⟨_, _, rfl, run_takeDeferred hK, ?_⟩⟩
    have hu : Upd (fun _ => False) w (W.drew.putObj D (.deferred none)) := Upd.grown (((Upd.of_below hB).drew).mono (fun k hk h => by omega)) (grownBy_putObj' _ D (.deferred none)) (fun k e hk => by injection e with e; have := huV.size; omega)
    have hd' : wrap64 (s.1 - s.2.1) = d := by rw [← hd, IntKind.wrap_i64]; unfold wrap64; omega
    exact ⟨.tuple #[.int .i64 d, .bool s.2.2], by simp [results, Try.results27, go_sem, hd, hd'], rfl, hu⟩
  case stop =>
    rintro D c pre W _ _ h _
    exact h.elim
end Go.Proofs.Ytnfajehocljbnaa
