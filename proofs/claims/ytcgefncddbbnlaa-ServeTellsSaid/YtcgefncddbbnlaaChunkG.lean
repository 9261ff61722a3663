/-
  The walks of chunk.Budget: Use.
-/
import Derived.Test.YtcgefncddbbnlaaChunkE
namespace Go.Proofs.Ytcgefncddbbnlaa.Ck
open Go.RowKit Go.Proofs.Ytcgefncddbbnlaa.Cf

theorem sizeChunk : ∀ w, (sizeOf (Try.prog.elem 139)).run Try.prog w = .ok 3 w := fun w => by kernel_rfl

set_option maxHeartbeats 400000 in
theorem firstC0 (w : World) (base g : Nat) (L K : Value) (p : Cp) (ys : List (Int × Int)) (h : Cud w base g L K p [] ys) :
    Calls Try.prog 120 #[.pointer (some ⟨g, 0, none⟩)] w fun e w' => e = .returned (.pointer none) ∧ ∃ k, w' = w.drewN k := by
  obtain ⟨A, cap, rfl⟩ := h.s.shape
  have c0 : w.cell? ⟨g, 0, none⟩ = some (.slice A 0 cap) := h.b.cell 0
  clear h
  go_enter Try.func120, Try.ntmps120
  go_wp2
  go_ret
  exact ⟨rfl, 0, rfl⟩

set_option maxHeartbeats 400000 in
theorem firstC1 (w : World) (base g : Nat) (b off cap n : Nat) (K : Value) (p : Cp) (x : Int × Int × Int) (t : List (Int × Int × Int)) (ys : List (Int × Int)) (h : Cud w base g (.slice (some ⟨b, off, none⟩) (t.length + 1) cap) K p (x :: t) ys) (hn : t.length ≤ 1000) :
    Calls Try.prog 120 #[.pointer (some ⟨g, 0, none⟩)] w fun e w' => e = .returned (.pointer (some ⟨b, off, none⟩)) ∧ ∃ k, w' = w.drewN k := by
  have c0 : w.cell? ⟨g, 0, none⟩ = some (.slice (some ⟨b, off, none⟩) (t.length + 1) cap) := h.b.cell 0
  have e0 : (((t.length + 1 : Nat) : Int) == 0) = false := beq_eq_false_iff_ne.2 (by omega)
  clear h
  go_enter Try.func120, Try.ntmps120
  go_wp2
  go_ret
  exact ⟨rfl, 0, rfl⟩

/-- A number of the first chunk. -/
theorem _root_.Go.Proofs.Ytcgefncddbbnlaa.SlR.set1 {w : World} {base b off cap : Nat} {ty : TypeId} {x y : Int × Int × Int} {t : List (Int × Int × Int)} (h : SlR encC w base ty 3 (.slice (some ⟨b, off, none⟩) (t.length + 1) cap) (x :: t)) (j : Nat) (hj : j < 3) (u : Value) (hy : encC y = (encC x).set j u) :
    SlR encC (w.setCell ⟨b, off + j, none⟩ u) base ty 3 (.slice (some ⟨b, off, none⟩) (t.length + 1) cap) (y :: t) := by
  have h1 := Sl.set_ h j (by show j < (t.length + 1) * 3; omega) u
  have e1 := rws_set encC_len (x :: t) 0 x y j u rfl hj hy
  unfold SlR
  rw [Nat.zero_mul, Nat.zero_add] at e1
  rw [e1] at h1
  exact h1

set_option maxRecDepth 100000 in
set_option maxHeartbeats 1600000 in
theorem useU (w : World) (base g : Nat) (s : St17) (L K : Value) (h : Cud w base g L K s.p s.xs s.ys) (hbase : base ≤ w.heap.size) (hf : FineC s) (bo : Bool) (hbo : decide (0 < s.xs.length) = bo) :
    Calls Try.prog 115 #[.pointer (some ⟨g, 0, none⟩)] w fun e w' => e = .returned (.bool bo) ∧ CSt w' base g s.use ∧ Upd (fun k => k = g ∨ slBlk L = some k ∨ slBlk K = some k) w w' := by
  obtain ⟨p, xs, ys⟩ := s
  cases xs with
  | nil =>
    have hb' : bo = false := by rw [← hbo]; rfl
    subst hb'
    clear hbo
    have HF := Lib.hid hf; clear hf
    have H := Lib.hid h; clear h
    go_enter Try.func115, Try.ntmps115
    go_wp2_with fail
    refine (noneC _ base g L K _ _ _ H.out HF.out.C1).mono ?_
    rintro e w1 ⟨rfl, k1, rfl⟩
    go_wp2_with fail
    refine (firstC0 _ base g L K _ _ (H.out.drewN _)).mono ?_
    rintro e w1 ⟨rfl, k2, rfl⟩
    go_wp2_with fail
    go_returns
    exact ⟨rfl, ⟨L, K, H.out.drewN _⟩, (Upd.refl _ w).drewN _⟩
  | cons x t =>
    have hb' : bo = true := by rw [← hbo]; simp
    subst hb'
    clear hbo
    have hx := hf.fx x (List.mem_cons_self ..)
    have hbd := hf.bound
    have hsum : x.2.1 + x.2.2 ≤ sumC (x :: t) := (sumC_pos _ hf.posC).2.2.2 x (List.mem_cons_self ..)
    have hle : x.2.1 + x.2.2 ≤ 1000 := by dsimp only at hbd; omega
    have htl : t.length ≤ 1000 := by have := hbd.2.2.2.2.1; simp at this; omega
    have hyl : ys.length ≤ 1000 := hbd.2.2.2.2.2.1
    have hT := hf.T1
    have hT1 : 1 ≤ p.T := by have := hf.C1; have := hf.CT; dsimp only at *; omega
    clear hbd hsum
    have HF := Lib.hid hf; clear hf
    obtain ⟨x0, x1, x2⟩ := x
    dsimp only at *
    obtain ⟨b, off, cap, rfl, hbb, hbw, hnc, hcm⟩ := h.s.form (by simp)
    rw [List.length_cons] at h hnc
    have hbg : b ≠ g := h.neL b rfl
    have c0 : w.cell? ⟨g, 0, none⟩ = some (.slice (some ⟨b, off, none⟩) (t.length + 1) cap) := h.b.cell 0
    have d0 : w.cell? ⟨b, off, none⟩ = some (.int .i64 x0) := h.s.cell encC_len 0 _ rfl 0 _ rfl
    have d1 : w.cell? ⟨b, off + 1, none⟩ = some (.int .i64 x1) := h.s.cell encC_len 0 _ rfl 1 _ rfl
    have d2 : w.cell? ⟨b, off + 2, none⟩ = some (.int .i64 x2) := h.s.cell encC_len 0 _ rfl 2 _ rfl
    have f1 := h.s.frozen (off + 1)
    have f2 := h.s.frozen (off + 2)
    have key : ∀ k, Cud (((w.drewN k).setCell ⟨b, off + 1, none⟩ (.int .i64 (x1 - 1))).setCell ⟨b, off + 2, none⟩ (.int .i64 (x2 + 1))) base g (.slice (some ⟨b, off, none⟩) (t.length + 1) cap) K p ((x0, x1 - 1, x2 + 1) :: t) ys ∧
        Upd (fun j => j = g ∨ slBlk (.slice (some ⟨b, off, none⟩) (t.length + 1) cap) = some j ∨ slBlk K = some j) w (((w.drewN k).setCell ⟨b, off + 1, none⟩ (.int .i64 (x1 - 1))).setCell ⟨b, off + 2, none⟩ (.int .i64 (x2 + 1))) := fun k => by
      have h := h.drewN k
      have hS1 := h.s.set1 (y := (x0, x1 - 1, x2)) 1 (by omega) (.int .i64 (x1 - 1)) rfl
      have hS2 := hS1.set1 (y := (x0, x1 - 1, x2 + 1)) 2 (by omega) (.int .i64 (x2 + 1)) rfl
      have hbk := (h.b.far (p := ⟨b, off + 1, none⟩) (Ne.symm hbg) (.int .i64 (x1 - 1))).far (p := ⟨b, off + 2, none⟩) (Ne.symm hbg) (.int .i64 (x2 + 1))
      have hneK : ∀ k, slBlk K = some k → ¬ (k = b) := fun k hk e => h.neLK b k rfl hk e.symm
      have hu := ((Upd.refl (fun k => k = b) (w.drewN k)).setCell (p := ⟨b, off + 1, none⟩) (fun _ => rfl) (.int .i64 (x1 - 1))).setCell (p := ⟨b, off + 2, none⟩) (fun _ => rfl) (.int .i64 (x2 + 1))
      exact ⟨⟨hbk, hS2, h.k.upd hu hneK, h.hg⟩, ((Upd.refl _ w).drewN k).trans (hu.mono (fun j _ e => .inr (.inl (by rw [e]; rfl))))⟩
    have KEY := Lib.hid key; clear key
    have H := Lib.hid h; clear h
    by_cases hx1 : x1 = 1
    · subst hx1
      have hu : St17.use ⟨p, (x0, 1, x2) :: t, ys⟩ = ⟨p, t, oweL p.T (x0, 0, x2 + 1) ys⟩ := by simp [St17.use]
      rw [hu]
      clear hu
      go_enter Try.func115, Try.ntmps115
      go_wp2_with fail
      refine (noneC _ base g _ K _ _ _ H.out HF.out.C1).mono ?_
      rintro e w1 ⟨rfl, k1, rfl⟩
      go_wp2_with fail
      refine (firstC1 _ base g b off cap 0 K _ _ _ _ (H.out.drewN _) htl).mono ?_
      rintro e w1 ⟨rfl, k2, rfl⟩
      go_wp2_with fail
      refine (oweU _ base g _ K p ((x0, 0, x2 + 1) :: t) ys (KEY.out _).1 hyl (Nat.le_trans hbase (KEY.out _).2.size) hT1 hT (x0, 0, x2 + 1) (by exact hx.1) (by exact hx.2.1)).mono ?_
      rintro e w3 ⟨rfl, ⟨K3, hC3⟩, hT3⟩
      have C3 := Lib.hid hC3
      have T3 := Lib.hid ((KEY.out _).2.trans (hT3.mono (fun j _ e => e.imp id .inr)))
      have c0' : w3.cell? ⟨g, 0, none⟩ = some (.slice (some ⟨b, off, none⟩) (t.length + 1) cap) := hC3.b.cell 0
      have f0' := hC3.b.frozen 0
      have hs3 := hC3.s
      clear hC3 hT3
      obtain ⟨v, hv, hvs, hvb⟩ := Sl.tailv (P := Try.prog) (ts := 139) Try.underlying139 sizeChunk hs3 (rws_drop1 encC_len _ _)
      obtain ⟨Av, cv, rfl⟩ := Sl.shape hvs
      have HVS := Lib.hid hvs; clear hvs hvb hs3
      go_wp2_with fail
      go_returns
      exact ⟨rfl, ⟨_, K3, Cud.setL C3.out.b HVS.out C3.out.k C3.out.hg⟩, T3.out.setCell (p := ⟨g, 0, none⟩) (fun _ => .inl rfl) _⟩
    · have e1 : (x1 - 1 == 0) = false := beq_eq_false_iff_ne.2 (by omega)
      have hu : St17.use ⟨p, (x0, x1, x2) :: t, ys⟩ = ⟨p, (x0, x1 - 1, x2 + 1) :: t, ys⟩ := by simp [St17.use, hx1]
      rw [hu]
      clear hu hx1
      go_enter Try.func115, Try.ntmps115
      go_wp2_with fail
      refine (noneC _ base g _ K _ _ _ H.out HF.out.C1).mono ?_
      rintro e w1 ⟨rfl, k1, rfl⟩
      go_wp2_with fail
      refine (firstC1 _ base g b off cap 0 K _ _ _ _ (H.out.drewN _) htl).mono ?_
      rintro e w1 ⟨rfl, k2, rfl⟩
      go_wp2_with fail
      go_returns
      exact ⟨rfl, ⟨_, K, (KEY.out _).1⟩, (KEY.out _).2⟩

theorem useC (w : World) (base g : Nat) (s : St17) (h : CSt w base g s) (hbase : base ≤ w.heap.size) (hf : FineC s) (bo : Bool) (hbo : decide (0 < s.xs.length) = bo) :
    Calls Try.prog 115 #[.pointer (some ⟨g, 0, none⟩)] w fun e w' => e = .returned (.bool bo) ∧ CSt w' base g s.use ∧ Tu base tsC w w' := by
  obtain ⟨L, K, h⟩ := h
  exact (useU w base g s L K h hbase hf bo hbo).mono fun _ _ ⟨h1, h2, h3⟩ => ⟨h1, h2, Tu.of h3 (fun k _ e => e.elim (fun e => by subst e; exact h.tyG) (fun e => e.elim (fun e => h.tyL k e) (fun e => h.tyK k e)))⟩
end Go.Proofs.Ytcgefncddbbnlaa.Ck
