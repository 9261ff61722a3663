/-
  The walks of chunk.Budget: Stop, Resume, Reset, Free, Live, Backs, Due, New.
-/
import Derived.Test.YtlhiagbcmmmjpaaChunkI
import Derived.Test.YtlhiagbcmmmjpaaChunkJ
namespace Go.Proofs.Ytlhiagbcmmmjpaa
open Go.RowKit
attribute [local go_sem ↓] Go.wp_at_zero Go.wp_at_succ

section
variable {w w' : World} {base g : Nat} {s : St17}
theorem CSt.drewN (h : CSt w base g s) (k : Nat) : CSt (w.drewN k) base g s := let ⟨L, K, h⟩ := h; ⟨L, K, h.drewN k⟩
theorem CSt.still (h : CSt w base g s) (hu : Upd (fun _ => False) w w') : CSt w' base g s := let ⟨L, K, h⟩ := h; ⟨L, K, h.still hu⟩
end

set_option maxHeartbeats 800000 in
theorem stopC (w : World) (base g : Nat) (s : St17) (h : CSt w base g s) (hbase : base ≤ w.heap.size) (hf : FineC s) :
    Calls Try.prog 31 #[.pointer (some ⟨g, 0, none⟩)] w fun e w' => e = .returned (.tuple #[]) ∧ CSt w' base g s.stop ∧ Tu base tsC w w' := by
  have H := Lib.hid h; clear h
  have HF := Lib.hid hf; clear hf
  obtain ⟨L, K, h1⟩ := H.out
  have H1 := Lib.hid h1; clear h1
  go_enter Try.func31, Try.ntmps31
  go_wp2_with fail
  refine (noneC _ base g L K _ _ _ H1.out HF.out.C1).mono ?_
  rintro e w1 ⟨rfl, k1, rfl⟩
  go_wp2_with fail
  refine (doneC _ base g s (H.out.drewN _) hbase HF.out).mono ?_
  rintro e w2 ⟨rfl, ⟨L2, K2, h2⟩, hT⟩
  have H2 := Lib.hid h2
  have T2 := Lib.hid (((Tu.refl base tsC w).drewN k1).trans (hT.mono (Nat.le_refl _) tsO_sub))
  have c6 : w2.cell? ⟨g, 6, none⟩ = some (.bool s.done.p.still) := h2.b.cell 6
  have f6 := h2.b.frozen 6
  clear h2 hT
  go_wp2_with fail
  go_returns
  exact ⟨rfl, ⟨L2, K2, H2.out.setStill true⟩, T2.out.set_ H2.out.hg H2.out.b (by decide) _⟩

set_option maxHeartbeats 800000 in
theorem resumeC (w : World) (base g : Nat) (s : St17) (h : CSt w base g s) (hC : 1 ≤ s.p.C) :
    Calls Try.prog 32 #[.pointer (some ⟨g, 0, none⟩)] w fun e w' => e = .returned (.tuple #[]) ∧ CSt w' base g s.resume ∧ Tu base tsC w w' := by
  obtain ⟨L, K, h⟩ := h
  have c6 : w.cell? ⟨g, 6, none⟩ = some (.bool s.p.still) := h.b.cell 6
  have f6 := h.b.frozen 6
  have H1 := Lib.hid h; clear h
  go_enter Try.func32, Try.ntmps32
  go_wp2_with fail
  refine (noneC _ base g L K _ _ _ H1.out hC).mono ?_
  rintro e w1 ⟨rfl, k1, rfl⟩
  go_wp2_with fail
  go_returns
  exact ⟨rfl, ⟨L, K, (H1.out.drewN _).setStill false⟩, ((Tu.refl base tsC w).drewN _).set_ H1.out.hg (H1.out.b.drewN _) (by decide) _⟩

set_option maxHeartbeats 1600000 in
theorem resetC (w : World) (base g : Nat) (s : St17) (h : CSt w base g s) (hC : 1 ≤ s.p.C) :
    Calls Try.prog 33 #[.pointer (some ⟨g, 0, none⟩)] w fun e w' => e = .returned (.tuple #[]) ∧ CSt w' base g s.reset ∧ Tu base tsC w w' := by
  obtain ⟨L, K, h⟩ := h
  have H1 := Lib.hid h; clear h
  go_enter Try.func33, Try.ntmps33
  go_wp2_with fail
  refine (noneC _ base g L K _ _ _ H1.out hC).mono ?_
  rintro e w1 ⟨rfl, k1, rfl⟩
  go_wp2_with fail
  refine (shutC _ base g L K _ _ _ (H1.out.drewN _)).mono ?_
  rintro e w2 ⟨rfl, h2, hU⟩
  have H2 := Lib.hid h2
  have T2 := Lib.hid (((Tu.refl base tsC w).drewN k1).upd1 hU (fun k _ e => by subst e; exact (H1.out.drewN _).tyG))
  have c2 : w2.cell? ⟨g, 2, none⟩ = some (.int .i64 s.p.C) := h2.b.cell 2
  have c4 : w2.cell? ⟨g, 4, none⟩ = some (.int .i64 s.p.free) := h2.b.cell 4
  have c5 : w2.cell? ⟨g, 5, none⟩ = some K := h2.b.cell 5
  have c6 : w2.cell? ⟨g, 6, none⟩ = some (.bool s.p.still) := h2.b.cell 6
  have f4 := h2.b.frozen 4
  have f5 := h2.b.frozen 5
  have f6 := h2.b.frozen 6
  clear h2 hU
  go_wp2_with fail
  go_returns
  have a1 := H2.out.setFree s.p.C
  have a2 := Cud.setK a1.b a1.s SlR.nil a1.hg
  exact ⟨rfl, ⟨_, _, a2.setStill false⟩, ((T2.out.set_ H2.out.hg H2.out.b (by decide) _).set_ a1.hg a1.b (by decide) _).set_ a2.hg a2.b (by decide) _⟩

set_option maxHeartbeats 400000 in
theorem freeC (w : World) (base g : Nat) (s : St17) (h : CSt w base g s) (hC : 1 ≤ s.p.C) :
    Calls Try.prog 37 #[.pointer (some ⟨g, 0, none⟩)] w fun e w' => e = .returned (.int .i64 s.p.free) ∧ ∃ k, w' = w.drewN k := by
  obtain ⟨L, K, h⟩ := h
  have c4 : w.cell? ⟨g, 4, none⟩ = some (.int .i64 s.p.free) := h.b.cell 4
  have H1 := Lib.hid h; clear h
  go_enter Try.func37, Try.ntmps37
  go_wp2_with fail
  refine (noneC _ base g L K _ _ _ H1.out hC).mono ?_
  rintro e w1 ⟨rfl, k1, rfl⟩
  go_wp2_with fail
  go_returns
  exact ⟨rfl, k1, rfl⟩

set_option maxHeartbeats 800000 in
theorem liveC (w : World) (base g : Nat) (s : St17) (h : CSt w base g s) (hC : 1 ≤ s.p.C) (hl : s.xs.length ≤ 1000) :
    Calls Try.prog 38 #[.pointer (some ⟨g, 0, none⟩)] w fun e w' => ∃ v, e = .returned v ∧ SlR encC w' w.heap.size 61 3 v s.xs ∧ Upd (fun _ => False) w w' := by
  obtain ⟨L, K, h⟩ := h
  have c0 : w.cell? ⟨g, 0, none⟩ = some L := h.b.cell 0
  have H1 := Lib.hid h; clear h
  go_enter Try.func38, Try.ntmps38
  go_wp2_with fail
  refine (noneC _ base g L K _ _ _ H1.out hC).mono ?_
  rintro e w1 ⟨rfl, k1, rfl⟩
  go_wp2_with fail
  refine (cloneC _ base L _ (H1.out.s.drewN _) (by omega)).mono ?_
  rintro e w2 ⟨v, rfl, h2, h3⟩
  have H2 := Lib.hid h2; have H3 := Lib.hid h3
  clear h2 h3
  go_wp2_with fail
  go_returns
  exact ⟨v, rfl, H2.out, ((Upd.refl _ w).drewN _).trans H3.out⟩

set_option maxHeartbeats 800000 in
theorem backsC (w : World) (base g : Nat) (s : St17) (h : CSt w base g s) (hC : 1 ≤ s.p.C) (hl : s.ys.length ≤ 1000) :
    Calls Try.prog 39 #[.pointer (some ⟨g, 0, none⟩)] w fun e w' => ∃ v, e = .returned v ∧ SlR encB w' w.heap.size 65 2 v s.ys ∧ Upd (fun _ => False) w w' := by
  obtain ⟨L, K, h⟩ := h
  have c5 : w.cell? ⟨g, 5, none⟩ = some K := h.b.cell 5
  have H1 := Lib.hid h; clear h
  go_enter Try.func39, Try.ntmps39
  go_wp2_with fail
  refine (noneC _ base g L K _ _ _ H1.out hC).mono ?_
  rintro e w1 ⟨rfl, k1, rfl⟩
  go_wp2_with fail
  refine (cloneK _ base K _ (H1.out.k.drewN _) (by omega)).mono ?_
  rintro e w2 ⟨v, rfl, h2, h3⟩
  have H2 := Lib.hid h2; have H3 := Lib.hid h3
  clear h2 h3
  go_wp2_with fail
  go_returns
  exact ⟨v, rfl, H2.out, ((Upd.refl _ w).drewN _).trans H3.out⟩

set_option maxRecDepth 100000 in
set_option maxHeartbeats 800000 in
theorem dueC0 (w : World) (base g : Nat) (s : St17) (h : CSt w base g s) (hC : 1 ≤ s.p.C) (hx : s.xs = []) :
    Calls Try.prog 40 #[.pointer (some ⟨g, 0, none⟩)] w fun e w' => e = .returned (.tuple #[.int .i64 0, .bool false]) ∧ ∃ k, w' = w.drewN k := by
  obtain ⟨L, K, h⟩ := h
  rw [hx] at h
  have H1 := Lib.hid h; clear h hx
  go_enter Try.func40, Try.ntmps40
  go_wp2_with fail
  refine (noneC _ base g L K _ _ _ H1.out hC).mono ?_
  rintro e w1 ⟨rfl, k1, rfl⟩
  go_wp2_with fail
  refine (firstC0 _ base g L K _ _ (H1.out.drewN _)).mono ?_
  rintro e w1 ⟨rfl, k2, rfl⟩
  go_wp2_with fail
  go_returns
  exact ⟨rfl, _, rfl⟩

set_option maxRecDepth 100000 in
set_option maxHeartbeats 1600000 in
theorem dueC1 (w : World) (base g : Nat) (s : St17) (h : CSt w base g s) (hf : FineC s) (x : Int × Int × Int) (t : List (Int × Int × Int)) (hx : s.xs = x :: t) :
    Calls Try.prog 40 #[.pointer (some ⟨g, 0, none⟩)] w fun e w' => e = .returned (.tuple #[.int .i64 (x.1 + s.p.T), .bool true]) ∧ ∃ k, w' = w.drewN k := by
  obtain ⟨L, K, h⟩ := h
  have hxx := hf.fx x (by rw [hx]; exact List.mem_cons_self ..)
  have hb := hf.bound
  have htl : t.length ≤ 1000 := by have := hb.2.2.2.2.1; rw [hx] at this; simp at this; omega
  have hT1 := hf.T1
  have hT0 : 1 ≤ s.p.T := by have := hf.C1; have := hf.CT; omega
  have hC := hf.C1
  rw [hx] at h
  clear hx hb hf
  obtain ⟨b, off, cap, rfl, hbb, hbw, hnc, hcm⟩ := h.s.form (by simp)
  rw [List.length_cons] at h hnc
  have c0 : w.cell? ⟨g, 0, none⟩ = some (.slice (some ⟨b, off, none⟩) (t.length + 1) cap) := h.b.cell 0
  have c3 : w.cell? ⟨g, 3, none⟩ = some (.int .i64 s.p.T) := h.b.cell 3
  have d0 : w.cell? ⟨b, off, none⟩ = some (.int .i64 x.1) := h.s.cell encC_len 0 _ rfl 0 _ rfl
  have H1 := Lib.hid h; clear h
  go_enter Try.func40, Try.ntmps40
  go_wp2_with fail
  refine (noneC _ base g _ K _ _ _ H1.out hC).mono ?_
  rintro e w1 ⟨rfl, k1, rfl⟩
  go_wp2_with fail
  refine (firstC1 _ base g b off cap 0 K _ _ _ _ (H1.out.drewN _) htl).mono ?_
  rintro e W ⟨rfl, k2, hk2⟩
  rw [World.drewN_drewN] at hk2
  have d0' : W.cell? ⟨b, off, none⟩ = some (.int .i64 x.1) := by rw [hk2]; exact d0
  have d3' : W.cell? ⟨g, 3, none⟩ = some (.int .i64 s.p.T) := by rw [hk2]; exact c3
  have H2 := Lib.hid (H1.out.drewN (k1 + k2))
  rw [← hk2] at H2
  have HW : Hid (∃ k, W = w.drewN k) := Lib.hid ⟨_, hk2⟩
  clear d0 c3 c0 H1 hk2
  go_wp2_with fail
  go_quiet ((go_at_call 52; exact Calls.quiet_of (firstC1 _ base g b off cap 0 K _ _ _ _ (H2.out.drewN _) htl)))
  go_wp2_with fail
  go_returns
  obtain ⟨k, rfl⟩ := HW.out
  exact ⟨rfl, _, by rw [World.drewN_drewN]⟩

set_option maxRecDepth 100000 in
set_option maxHeartbeats 800000 in
theorem newC_no (w : World) (rf : Bool) (C T : Int) (h : okS C T = false) :
    Calls Try.prog 23 #[.agg #[.bool rf, .int .i64 C, .int .i64 T]] w fun e w' => e = .returned (.pointer none) ∧ Upd (fun _ => False) w w' := by
  have HT := Lib.hid h; clear h
  go_enter Try.func23, Try.ntmps23
  go_wp2_with fail
  refine (rightS _ rf C T false HT.out).mono ?_
  rintro e w1 ⟨rfl, hU⟩
  have HU := Lib.hid hU; clear hU
  go_wp2_with fail
  go_returns
  exact ⟨rfl, ((Upd.refl _ w).alloc _).trans HU.out⟩

set_option maxRecDepth 100000 in
set_option maxHeartbeats 800000 in
theorem newC_yes (w : World) (base : Nat) (hbase : base ≤ w.heap.size) (rf : Bool) (C T : Int) (h : okS C T = true) :
    Calls Try.prog 23 #[.agg #[.bool rf, .int .i64 C, .int .i64 T]] w fun e w' => ∃ g, e = .returned (.pointer (some ⟨g, 0, none⟩)) ∧ w.heap.size ≤ g ∧ CSt w' base g (St17.new rf C T) ∧ Upd (fun _ => False) w w' := by
  have HT := Lib.hid h; clear h
  have hx := Blk.new w 27 #[.bool rf, .int .i64 C, .int .i64 T]
  have HX := Lib.hid hx; clear hx
  go_enter Try.func23, Try.ntmps23
  go_wp2_with fail
  refine (rightS _ rf C T true HT.out).mono ?_
  rintro e w1 ⟨rfl, hU⟩
  have hb := HX.out.upd hU (fun h => h)
  have c0 : w1.cell? ⟨w.heap.size, 0, none⟩ = some (.bool rf) := hb.cell 0
  have c1 : w1.cell? ⟨w.heap.size, 1, none⟩ = some (.int .i64 C) := hb.cell 1
  have c2 : w1.cell? ⟨w.heap.size, 2, none⟩ = some (.int .i64 T) := hb.cell 2
  clear hb
  have hsz := hU.size
  simp at hsz
  have HU := Lib.hid hU; clear hU
  go_wp2_with fail
  go_returns
  refine ⟨_, rfl, by omega, ⟨_, _, Blk.new _ _ _, SlR.nil, SlR.nil, by omega⟩, (((Upd.refl _ w).alloc _).trans HU.out).alloc _⟩
end Go.Proofs.Ytlhiagbcmmmjpaa
