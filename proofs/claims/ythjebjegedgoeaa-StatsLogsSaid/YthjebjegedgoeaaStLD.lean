/-
  Stats: see, of the entries that are no Accept. (Written by stld.py.)
-/
import Derived.Test.YthjebjegedgoeaaStLC
namespace Go.Proofs.Ythjebjegedgoeaa
open Go.RowKit Go.Maps
attribute [local go_sem] max_ints min_ints

theorem FoS.cut {w wj w' : World} {f bo bl base n : Nat} {jv : Value} {hi : Bool} {J : List J5} {es ls : EsV} {t how tick : Int} (h : FoS w f bo bl base n jv hi J es ls) (hh : how ≠ 0)
    (hj : SlR encJ wj base 58 5 jv (shutJ J t how tick)) (hu : Upd (fun q => slBlk jv = some q) w wj) (hM : MpV w' bo n (cutV es t)) (hU : Upd (fun q => q = bo) wj w') : FoS w' f bo bl base n jv hi (shutJ J t how tick) (cutV es t) ls := by
  have hB := h.b.upd hu (fun e => by
    obtain ⟨_, _, cur, hc⟩ := Sl.blk h.j f e
    exact hc.ne_ h.b (by decide) rfl)
  have hm := h.m.upd hu (fun e => by
    obtain ⟨_, _, cur, hc⟩ := Sl.blk h.j bo e
    exact h.m.ne_ hc rfl)
  have hl := h.l.upd hu (fun e => by
    obtain ⟨_, _, cur, hc⟩ := Sl.blk h.j bl e
    exact h.l.ne_ hc rfl)
  refine ⟨hB.upd hU (hm.ne_ hB), hj.upd hU (fun q hq e => ?_), hM, hl.upd hU (fun e => h.ne e.symm), cutV_nodup h.n1 t, fun e he => ?_, fun s hs => ?_, h.ap.sublist List.filter_sublist, h.hf, h.ho, h.hl, h.ne⟩
  · obtain ⟨_, _, cur, hc⟩ := Sl.blk hj q hq
    exact hm.ne_ hc e
  · obtain ⟨h1, h2⟩ := (cutV_mem es t e).1 he
    have hv := (h.e e h1).1
    have hv2 := hv.upd hu (fun q hq e => by
      obtain ⟨_, _, cur, hc⟩ := Sl.blk hv q hq
      obtain ⟨_, _, cur2, hc2⟩ := Sl.blk h.j q e
      exact hc.ne_ hc2 (by decide) rfl)
    rw [openI_shut _ _ _ _ _ hh, if_neg h2]
    exact ⟨hv2.upd hU (fun q hq e => by
      obtain ⟨_, _, cur, hc⟩ := Sl.blk hv2 q hq
      exact hm.ne_ hc e), (h.e e h1).2⟩
  · rw [openI_shut _ _ _ _ _ hh] at hs
    by_cases e : s = t
    · rw [if_pos e] at hs
      exact absurd rfl hs
    · rw [if_neg e] at hs
      obtain ⟨x, hx, rfl⟩ := List.mem_map.1 (h.k s hs)
      exact List.mem_map.2 ⟨x, (cutV_mem es t x).2 ⟨hx, e⟩, rfl⟩
theorem FoS.setHi {w : World} {f bo bl base n : Nat} {jv : Value} {hi : Bool} {J : List J5} {es ls : EsV} (h : FoS w f bo bl base n jv hi J es ls) (x : Bool) : FoS (w.setCell ⟨f, 2, none⟩ (.bool x)) f bo bl base n jv x J es ls ∧ Upd (fun q => q = f) w (w.setCell ⟨f, 2, none⟩ (.bool x)) := by
  have hU : Upd (fun q => q = f) w (w.setCell ⟨f, 2, none⟩ (.bool x)) := (Upd.refl (fun q => q = f) w).setCell (p := ⟨f, 2, none⟩) (fun _ => rfl) _
  refine ⟨⟨h.b.set_ 2 _, h.j.upd hU (fun q hq e => ?_), h.m.upd hU (fun e => h.m.ne_ h.b e.symm), h.l.upd hU (fun e => h.l.ne_ h.b e.symm), h.n1, fun e he => ⟨(h.e e he).1.upd hU (fun q hq r => ?_), (h.e e he).2⟩, h.k, h.ap, h.hf, h.ho, h.hl, h.ne⟩, hU⟩
  · obtain ⟨_, _, cur, hc⟩ := Sl.blk h.j q hq
    rw [e] at hc
    exact hc.ne_ h.b (by decide) rfl
  · obtain ⟨_, _, cur, hc⟩ := Sl.blk (h.e e he).1 q hq
    rw [r] at hc
    exact hc.ne_ h.b (by decide) rfl

set_option maxRecDepth 100000 in
set_option maxHeartbeats 6400000 in
theorem seeEnd (w : World) (f bo bl base n : Nat) (jv : Value) (hi : Bool) (J : List J5) (es ls : EsV) (h : FoS w f bo bl base n jv hi J es ls) (k d a b : Int) (hw : (Lit.int .i64 a).wf = true) (hb : decide (brkE ⟨k, d, a, b⟩) = false) (d0 : (d == 0) = false) (d7 : (d == 7) = false) (d9 : (d == 9) = false) (hk : endK d ≠ 0) (hJ : J.length ≤ 1000) :
    Calls Try.prog 41 #[.pointer (some ⟨f, 0, none⟩), .agg #[.int .i64 k, .int .i64 d, .int .i64 a, .int .i64 b]] w fun e w' => e = .returned (.tuple #[]) ∧  FoS w' f bo bl base n jv hi (shutJ J a (endK d) k) (cutV es a) ls ∧ Upd (fun q => base ≤ q) w w' := by
  have HSTR : Hid (base ≤ w.heap.size) := Lib.hid (Nat.le_trans h.hf (Nat.le_of_lt h.b.lt))
  have F0 := Lib.hid (h.still ((Upd.refl _ w).alloc (.cells #[.int .i64 k, .int .i64 d, .int .i64 a, .int .i64 b] 52)))
  have X0 := Lib.hid (Blk.new w 52 #[.int .i64 k, .int .i64 d, .int .i64 a, .int .i64 b])
  have U0 := Lib.hid ((Upd.refl (fun _ => False) w).alloc (.cells #[.int .i64 k, .int .i64 d, .int .i64 a, .int .i64 b] 52))
  clear h
  go_enter Try.func41, Try.ntmps41
  go_wp2_with fail
  refine (breaksC _ ⟨k, d, a, b⟩).mono ?_
  rintro r w1 ⟨rfl, hU1⟩
  rw [hb]
  obtain ⟨be, hbe⟩ : ∃ be, w.heap.size = be := ⟨_, rfl⟩
  rw [hbe] at X0 ⊢
  have F1 := Lib.hid (F0.out.still hU1); have X1 := Lib.hid (X0.out.upd hU1 (fun h => h)); have U1 := Lib.hid (U0.out.trans hU1)
  have HBE : Hid (base ≤ be) := Lib.hid (by rw [← hbe]; exact HSTR.out)
  clear hU1 F0 X0 U0 hbe hb
  have x1 : w1.cell? ⟨be, 1, none⟩ = some (.int .i64 d) := X1.out.cell 1
  have x0 : w1.cell? ⟨be, 0, none⟩ = some (.int .i64 k) := X1.out.cell 0
  have x2 : w1.cell? ⟨be, 2, none⟩ = some (.int .i64 a) := X1.out.cell 2
  have x3 : w1.cell? ⟨be, 3, none⟩ = some (.int .i64 b) := X1.out.cell 3
  have nk : (endK d != 0) = true := bne_iff_ne.2 hk
  go_wp2_with fail
  refine (endsC _ ⟨k, d, a, b⟩).mono ?_
  rintro r w2 ⟨rfl, hU2⟩
  have F2 := Lib.hid (F1.out.still hU2); have X2 := Lib.hid (X1.out.upd hU2 (fun h => h)); have U2 := Lib.hid (U1.out.trans hU2)
  clear hU2 F1 X1 U1 x0 x1 x2 x3
  go_upto_region 16 with fail
  refine wp_region_treeF (.q 0 (.q 1 (.q 2 (.q 3 (.q 5 (.q 6 (.l 4 (.l 7 .d)))))))) (fun i => decide (i = 7)) (fun _ => false) (fun w' => w'.cell? ⟨be, 0, none⟩ = some (.int .i64 k) ∧ w'.cell? ⟨be, 1, none⟩ = some (.int .i64 d) ∧ w'.cell? ⟨be, 2, none⟩ = some (.int .i64 a) ∧ w'.cell? ⟨be, 3, none⟩ = some (.int .i64 b))
    (by kernel_rfl) (by kernel_rfl) (by kernel_rfl) (fun t ht => by have := of_decide_eq_true ht; subst this; decide) (fun _ _ _ _ _ h => h) (by kernel_rfl) rfl ⟨X2.out.cell 0, X2.out.cell 1, X2.out.cell 2, X2.out.cell 3⟩ ?_
  iterate 6
    (refine' wpOF_q (by rfl) (by rfl) (by rfl) (fun w' hS' => ?_) ?_
     rotate_left
     · obtain ⟨s1, s2, s3, s4⟩ := hS'
       go_simp
       try rfl)
    try simp only [Act.put, List.setIfInBounds_toArray, List.set_cons_zero, List.set_cons_succ]
  refine wpOF_l (by rfl) (by rfl) (fun KQ hKQ => ?_)
  go_simp
  go_at_call 47
  refine (endsC w2.drew ⟨k, d, a, b⟩).mono ?_
  rintro r w3 ⟨rfl, hU3⟩
  have F3 := Lib.hid (F2.out.still ((Upd.refl (fun _ => False) w2).drew.trans hU3)); have X3 := Lib.hid (X2.out.upd ((Upd.refl (fun _ => False) w2).drew.trans hU3) (fun h => h)); have U3 := Lib.hid (U2.out.trans ((Upd.refl (fun _ => False) w2).drew.trans hU3))
  clear hU3 F2 X2 U2
  refine hKQ _ _ (.inr ⟨X3.out.cell 0, X3.out.cell 1, X3.out.cell 2, X3.out.cell 3⟩) ?_
  clear hKQ KQ
  try simp only [Act.put, List.setIfInBounds_toArray, List.set_cons_zero, List.set_cons_succ]
  refine wpOF_l (by rfl) (by rfl) (fun KQ hKQ => ?_)
  go_simp
  go_at_call 46
  refine (shutC w3 f bo bl base n jv hi J es ls F3.out a hw (endK d) k hJ (fun w' => FoS w' f bo bl base n jv hi (shutJ J a (endK d) k) (cutV es a) ls ∧ Upd (fun q => base ≤ q) w3 w') (fun wj hj hu => by
    obtain ⟨w', hr, hM, hU⟩ := (F3.out.m.upd hu (fun e => by
      obtain ⟨_, _, cur, hc⟩ := Sl.blk F3.out.j bo e
      exact F3.out.m.ne_ hc rfl)).drop (T := 89) (E := 23) Try.underlying89 a hw 0
    refine ⟨w', hr, F3.out.cut hk hj hu hM hU, (hu.mono (fun q _ e => (Sl.blk F3.out.j q e).1)).trans (hU.mono (fun q _ e => by rw [e]; exact F3.out.ho))⟩)).mono ?_
  rintro r w4 ⟨rfl, hF4, hU4⟩
  have F4 := Lib.hid hF4
  have U4 := Lib.hid ((U3.out.mono (fun _ _ h => h.elim)).trans hU4)
  clear hF4 hU4
  refine hKQ _ _ (.inl (by rfl)) ?_
  clear hKQ KQ
  try simp only [Act.put, List.setIfInBounds_toArray, List.set_cons_zero, List.set_cons_succ]
  refine wpOF_d ?_
  go_wp2_with fail
  go_returns
  exact ⟨rfl, F4.out, U4.out⟩

set_option maxRecDepth 100000 in
set_option maxHeartbeats 6400000 in
theorem seeNone (w : World) (f bo bl base n : Nat) (jv : Value) (hi : Bool) (J : List J5) (es ls : EsV) (h : FoS w f bo bl base n jv hi J es ls) (k d a b : Int) (hb : decide (brkE ⟨k, d, a, b⟩) = false) (d0 : (d == 0) = false) (d7 : (d == 7) = false) (d9 : (d == 9) = false) (hk : endK d = 0) :
    Calls Try.prog 41 #[.pointer (some ⟨f, 0, none⟩), .agg #[.int .i64 k, .int .i64 d, .int .i64 a, .int .i64 b]] w fun e w' => e = .returned (.tuple #[]) ∧  FoS w' f bo bl base n jv hi J es ls ∧ Upd (fun q => base ≤ q) w w' := by
  have HSTR : Hid (base ≤ w.heap.size) := Lib.hid (Nat.le_trans h.hf (Nat.le_of_lt h.b.lt))
  have F0 := Lib.hid (h.still ((Upd.refl _ w).alloc (.cells #[.int .i64 k, .int .i64 d, .int .i64 a, .int .i64 b] 52)))
  have X0 := Lib.hid (Blk.new w 52 #[.int .i64 k, .int .i64 d, .int .i64 a, .int .i64 b])
  have U0 := Lib.hid ((Upd.refl (fun _ => False) w).alloc (.cells #[.int .i64 k, .int .i64 d, .int .i64 a, .int .i64 b] 52))
  clear h
  go_enter Try.func41, Try.ntmps41
  go_wp2_with fail
  refine (breaksC _ ⟨k, d, a, b⟩).mono ?_
  rintro r w1 ⟨rfl, hU1⟩
  rw [hb]
  obtain ⟨be, hbe⟩ : ∃ be, w.heap.size = be := ⟨_, rfl⟩
  rw [hbe] at X0 ⊢
  have F1 := Lib.hid (F0.out.still hU1); have X1 := Lib.hid (X0.out.upd hU1 (fun h => h)); have U1 := Lib.hid (U0.out.trans hU1)
  have HBE : Hid (base ≤ be) := Lib.hid (by rw [← hbe]; exact HSTR.out)
  clear hU1 F0 X0 U0 hbe hb
  have x1 : w1.cell? ⟨be, 1, none⟩ = some (.int .i64 d) := X1.out.cell 1
  have x0 : w1.cell? ⟨be, 0, none⟩ = some (.int .i64 k) := X1.out.cell 0
  have x2 : w1.cell? ⟨be, 2, none⟩ = some (.int .i64 a) := X1.out.cell 2
  have x3 : w1.cell? ⟨be, 3, none⟩ = some (.int .i64 b) := X1.out.cell 3
  go_wp2_with fail
  refine (endsC _ ⟨k, d, a, b⟩).mono ?_
  rintro r w2 ⟨rfl, hU2⟩
  dsimp only
  rw [hk]
  have F2 := Lib.hid (F1.out.still hU2); have U2 := Lib.hid (U1.out.trans hU2)
  clear hU2 F1 X1 U1 x0 x1 x2 x3
  go_wp2_with fail
  go_returns
  exact ⟨rfl, F2.out, U2.out.mono (fun _ _ h => h.elim)⟩

set_option maxRecDepth 100000 in
set_option maxHeartbeats 6400000 in
theorem seeHigh (w : World) (f bo bl base n : Nat) (jv : Value) (hi : Bool) (J : List J5) (es ls : EsV) (h : FoS w f bo bl base n jv hi J es ls) (k a b : Int) :
    Calls Try.prog 41 #[.pointer (some ⟨f, 0, none⟩), .agg #[.int .i64 k, .int .i64 7, .int .i64 a, .int .i64 b]] w fun e w' => e = .returned (.tuple #[]) ∧ FoS w' f bo bl base n jv true J es ls ∧ Upd (fun q => base ≤ q) w w' := by
  have hb : decide (brkE ⟨k, 7, a, b⟩) = false := decide_eq_false (fun h => by rcases h with h | h; exact absurd h (show ¬ (7 : Int) = 13 by decide); exact absurd h.1 (show ¬ (7 : Int) = 12 by decide))
  have HSTR : Hid (base ≤ w.heap.size) := Lib.hid (Nat.le_trans h.hf (Nat.le_of_lt h.b.lt))
  have F0 := Lib.hid (h.still ((Upd.refl _ w).alloc (.cells #[.int .i64 k, .int .i64 7, .int .i64 a, .int .i64 b] 52)))
  have X0 := Lib.hid (Blk.new w 52 #[.int .i64 k, .int .i64 7, .int .i64 a, .int .i64 b])
  have U0 := Lib.hid ((Upd.refl (fun _ => False) w).alloc (.cells #[.int .i64 k, .int .i64 7, .int .i64 a, .int .i64 b] 52))
  clear h
  go_enter Try.func41, Try.ntmps41
  go_wp2_with fail
  refine (breaksC _ ⟨k, 7, a, b⟩).mono ?_
  rintro r w1 ⟨rfl, hU1⟩
  rw [hb]
  obtain ⟨be, hbe⟩ : ∃ be, w.heap.size = be := ⟨_, rfl⟩
  rw [hbe] at X0 ⊢
  have F1 := Lib.hid (F0.out.still hU1); have X1 := Lib.hid (X0.out.upd hU1 (fun h => h)); have U1 := Lib.hid (U0.out.trans hU1)
  have HBE : Hid (base ≤ be) := Lib.hid (by rw [← hbe]; exact HSTR.out)
  clear hU1 F0 X0 U0 hbe hb
  have x1 : w1.cell? ⟨be, 1, none⟩ = some (.int .i64 7) := X1.out.cell 1
  have f2 : w1.cell? ⟨f, 2, none⟩ = some (.bool hi) := F1.out.b.cell 2
  have z2 := F1.out.b.frozen 2
  have hS := F1.out.setHi true
  have F2 := Lib.hid hS.1
  have U2 := Lib.hid ((U1.out.mono (fun _ _ h => h.elim)).trans (hS.2.mono (S' := fun q => base ≤ q) (fun q _ e => by rw [e]; exact F1.out.hf)))
  clear hS F1 U1 X1
  go_wp2_with fail
  go_returns
  exact ⟨rfl, F2.out, U2.out⟩

set_option maxRecDepth 100000 in
set_option maxHeartbeats 6400000 in
theorem seeLow (w : World) (f bo bl base n : Nat) (jv : Value) (hi : Bool) (J : List J5) (es ls : EsV) (h : FoS w f bo bl base n jv hi J es ls) (k a b : Int) :
    Calls Try.prog 41 #[.pointer (some ⟨f, 0, none⟩), .agg #[.int .i64 k, .int .i64 9, .int .i64 a, .int .i64 b]] w fun e w' => e = .returned (.tuple #[]) ∧ FoS w' f bo bl base n jv false J es ls ∧ Upd (fun q => base ≤ q) w w' := by
  have hb : decide (brkE ⟨k, 9, a, b⟩) = false := decide_eq_false (fun h => by rcases h with h | h; exact absurd h (show ¬ (9 : Int) = 13 by decide); exact absurd h.1 (show ¬ (9 : Int) = 12 by decide))
  have HSTR : Hid (base ≤ w.heap.size) := Lib.hid (Nat.le_trans h.hf (Nat.le_of_lt h.b.lt))
  have F0 := Lib.hid (h.still ((Upd.refl _ w).alloc (.cells #[.int .i64 k, .int .i64 9, .int .i64 a, .int .i64 b] 52)))
  have X0 := Lib.hid (Blk.new w 52 #[.int .i64 k, .int .i64 9, .int .i64 a, .int .i64 b])
  have U0 := Lib.hid ((Upd.refl (fun _ => False) w).alloc (.cells #[.int .i64 k, .int .i64 9, .int .i64 a, .int .i64 b] 52))
  clear h
  go_enter Try.func41, Try.ntmps41
  go_wp2_with fail
  refine (breaksC _ ⟨k, 9, a, b⟩).mono ?_
  rintro r w1 ⟨rfl, hU1⟩
  rw [hb]
  obtain ⟨be, hbe⟩ : ∃ be, w.heap.size = be := ⟨_, rfl⟩
  rw [hbe] at X0 ⊢
  have F1 := Lib.hid (F0.out.still hU1); have X1 := Lib.hid (X0.out.upd hU1 (fun h => h)); have U1 := Lib.hid (U0.out.trans hU1)
  have HBE : Hid (base ≤ be) := Lib.hid (by rw [← hbe]; exact HSTR.out)
  clear hU1 F0 X0 U0 hbe hb
  have x1 : w1.cell? ⟨be, 1, none⟩ = some (.int .i64 9) := X1.out.cell 1
  have f2 : w1.cell? ⟨f, 2, none⟩ = some (.bool hi) := F1.out.b.cell 2
  have z2 := F1.out.b.frozen 2
  have hS := F1.out.setHi false
  have F2 := Lib.hid hS.1
  have U2 := Lib.hid ((U1.out.mono (fun _ _ h => h.elim)).trans (hS.2.mono (S' := fun q => base ≤ q) (fun q _ e => by rw [e]; exact F1.out.hf)))
  clear hS F1 U1 X1
  go_wp2_with fail
  go_returns
  exact ⟨rfl, F2.out, U2.out⟩
end Go.Proofs.Ythjebjegedgoeaa
