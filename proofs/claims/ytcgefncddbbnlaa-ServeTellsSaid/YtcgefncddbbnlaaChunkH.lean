/-
  The walks of chunk.Budget: Done.
-/
import Derived.Test.YtcgefncddbbnlaaChunkG
namespace Go.Proofs.Ytcgefncddbbnlaa.Ck
open Go.RowKit Go.Proofs.Ytcgefncddbbnlaa.Cf
attribute [local go_sem ↓] Go.wp_at_zero Go.wp_at_succ

theorem leftC_append : ∀ xs ys : List (Int × Int × Int), leftC (xs ++ ys) = leftC xs + leftC ys
  | [], ys => by simp [leftC]
  | x :: t, ys => by simp [leftC, leftC_append t ys]; omega
theorem leftC_take (xs : List (Int × Int × Int)) (i : Nat) (x : Int × Int × Int) (h : xs[i]? = some x) : leftC (xs.take (i + 1)) = leftC (xs.take i) + x.2.1 := by
  rw [List.take_add_one, h, leftC_append]
  simp [leftC]
theorem doneY_take (T : Int) (xs : List (Int × Int × Int)) (ys : List (Int × Int)) (i : Nat) (x : Int × Int × Int) (h : xs[i]? = some x) : doneY T (xs.take (i + 1)) ys = oweL T x (doneY T (xs.take i) ys) := by
  rw [List.take_add_one, h]
  simp [doneY, List.foldl_append]
theorem oweL_len (T : Int) (x : Int × Int × Int) (ys : List (Int × Int)) : (oweL T x ys).length ≤ ys.length + 1 := by
  unfold oweL
  split <;> simp
theorem doneY_len (T : Int) : ∀ (xs : List (Int × Int × Int)) (ys : List (Int × Int)), (doneY T xs ys).length ≤ ys.length + xs.length
  | [], _ => by simp [doneY]
  | x :: t, ys => by
    have h1 := doneY_len T t (oweL T x ys)
    have h2 := oweL_len T x ys
    have e : doneY T (x :: t) ys = doneY T t (oweL T x ys) := rfl
    rw [e, List.length_cons]
    omega
theorem leftC_bound : ∀ xs : List (Int × Int × Int), (∀ x ∈ xs, 1 ≤ x.2.1 ∧ x.2.1 ≤ 1000) → 0 ≤ leftC xs ∧ leftC xs ≤ xs.length * 1000
  | [], _ => by simp [leftC]
  | x :: t, h => by
    have h1 := leftC_bound t (fun y hy => h y (List.mem_cons_of_mem _ hy))
    have h2 := h x (List.mem_cons_self ..)
    simp only [leftC, List.length_cons]
    omega

set_option maxHeartbeats 400000 in
theorem shutC (w : World) (base g : Nat) (L K : Value) (p : Cp) (xs : List (Int × Int × Int)) (ys : List (Int × Int)) (h : Cud w base g L K p xs ys) :
    Calls Try.prog 117 #[.pointer (some ⟨g, 0, none⟩)] w fun e w' => e = .returned L ∧ Cud w' base g (.slice none 0 0) K p [] ys ∧ Upd (fun k => k = g) w w' := by
  have c0 : w.cell? ⟨g, 0, none⟩ = some L := h.b.cell 0
  have f0 := h.b.frozen 0
  obtain ⟨A, cap, rfl⟩ := h.s.shape
  have H := Lib.hid h; clear h
  go_enter Try.func117, Try.ntmps117
  go_wp2
  go_ret
  exact ⟨rfl, Cud.setL H.out.b SlR.nil H.out.k H.out.hg, (Upd.refl (fun k => k = g) w).setCell (p := ⟨g, 0, none⟩) (fun _ => rfl) _⟩

set_option maxRecDepth 100000 in
set_option maxHeartbeats 3200000 in
theorem doneC (w : World) (base g : Nat) (s : St17) (h : CSt w base g s) (hbase : base ≤ w.heap.size) (hf : FineC s) :
    Calls Try.prog 112 #[.pointer (some ⟨g, 0, none⟩)] w fun e w' => e = .returned (.tuple #[]) ∧ CSt w' base g s.done ∧ Tu base tsO w w' := by
  obtain ⟨L, K, h⟩ := h
  obtain ⟨p, xs, ys⟩ := s
  dsimp only at h
  have hbd := hf.bound
  dsimp only at hbd
  have hT := hf.T1
  have hT1 : 1 ≤ p.T := by have := hf.C1; have := hf.CT; dsimp only at *; omega
  have hlx : ∀ x ∈ xs, 1 ≤ x.2.1 ∧ x.2.1 ≤ 1000 := fun x hx => by
    have h1 : x.2.1 + x.2.2 ≤ sumC xs := (sumC_pos _ hf.posC).2.2.2 x hx
    have h2 := hf.posC x hx
    omega
  have hxy : xs.length + ys.length ≤ 1000 := by
    have h1 : (xs.length : Int) ≤ sumC xs := (sumC_pos _ hf.posC).1
    have h2 : (ys.length : Int) ≤ sumB ys := (sumB_pos _ hf.fy).1
    omega
  have hpf := hf.free
  have hpf1 : p.free ≤ 1000 := hbd.2.1
  have hxl : xs.length ≤ 1000 := hbd.2.2.2.2.1
  have hyl : ys.length ≤ 1000 := hbd.2.2.2.2.2.1
  have HLX := Lib.hid hlx
  have HD : Hid (∀ (i : Nat) (x : Int × Int × Int), xs[i]? = some x → 0 ≤ x.1 ∧ x.1 ≤ 2305843009213693952) := Lib.hid (fun i x hx => by have := hf.fx x (List.mem_of_getElem? hx); exact ⟨this.1, this.2.1⟩)
  have HYL : Hid (∀ i, i < xs.length → (doneY p.T (xs.take i) ys).length ≤ 1000) := Lib.hid (fun i hi => by
    have h1 := doneY_len p.T (xs.take i) ys
    have h2 : (xs.take i).length ≤ i := List.length_take_le _ _
    omega)
  have HC := Lib.hid hf.C1
  clear hlx hbd hf hxy
  obtain ⟨A, cap, rfl⟩ := h.s.shape
  have H := Lib.hid h; clear h
  go_enter Try.func112, Try.ntmps112
  go_wp2_with fail
  refine (noneC _ base g _ K _ _ _ H.out HC.out).mono ?_
  rintro e w1 ⟨rfl, k1, rfl⟩
  go_wp2_with fail
  refine (shutC _ base g _ K _ _ _ (H.out.drewN _)).mono ?_
  rintro e w2 ⟨rfl, hC2, hU2⟩
  have C2 := Lib.hid hC2
  have U2 := Lib.hid (((Tu.refl base tsO w).drewN k1).upd1 hU2 (fun k _ e => by subst e; exact ⟨H.out.hg, _, _, H.out.b.drewN _, by decide⟩))
  have L2 : Hid (SlR encC w2 base 164 3 (.slice A xs.length cap) xs) := Lib.hid ((H.out.s.drewN _).upd hU2 (fun k hk e => H.out.neL k hk e))
  clear hC2 hU2
  go_wp2_with fail
  go_loopw [11] (fun vi wr => ∃ i : Nat, i ≤ xs.length ∧ vi = .int .i64 i ∧ (∃ K, Cud wr base g (.slice none 0 0) K { p with free := p.free + leftC (xs.take i) } [] (doneY p.T (xs.take i) ys)) ∧ SlR encC wr base 164 3 (.slice A xs.length cap) xs ∧ Tu base tsO w wr) (fun vi _ => xs.length - (intOf vi).toNat)
  case atStart => exact ⟨0, Nat.zero_le _, rfl, ⟨K, by have := C2.out; simpa [leftC, doneY] using this⟩, L2.out, U2.out⟩
  case round =>
    clear C2 U2 L2
    obtain ⟨i, hi, rfl, ⟨Kr, hC⟩, hL, hT9⟩ := hrel
    have CR := Lib.hid hC; have LR := Lib.hid hL; have TR := Lib.hid hT9
    clear hC hL hT9
    by_cases hlt : i < xs.length
    · obtain ⟨x, hx⟩ : ∃ x, xs[i]? = some x := ⟨_, List.getElem?_eq_getElem hlt⟩
      obtain ⟨b, off, cap', e, hbb, hb, _, _⟩ := LR.out.form (by omega)
      injection e with e1 e2 e3
      subst e1 e3
      have c0 : wr.cell? ⟨b, off + i * 3, none⟩ = some (.int .i64 x.1) := LR.out.cell encC_len i x hx 0 _ rfl
      have c1 : wr.cell? ⟨b, off + i * 3 + 1, none⟩ = some (.int .i64 x.2.1) := LR.out.cell encC_len i x hx 1 _ rfl
      have c2 : wr.cell? ⟨b, off + i * 3 + 2, none⟩ = some (.int .i64 x.2.2) := LR.out.cell encC_len i x hx 2 _ rfl
      have hx1 := HLX.out x (List.mem_of_getElem? hx)
      have hx0 := HD.out i x hx
      have hlb := leftC_bound (xs.take i) (fun y hy => HLX.out y (List.mem_of_mem_take hy))
      have hll : (xs.take i).length ≤ i := List.length_take_le _ _
      obtain ⟨lc, hlc⟩ : ∃ lc, leftC (xs.take i) = lc := ⟨_, rfl⟩
      rw [hlc] at hlb
      have hl0 := hlb.1
      have hl1 : lc ≤ 1000000 := by omega
      have HLC := Lib.hid hlc
      have HX := Lib.hid hx
      have hyi := HYL.out i hlt
      have hgw : g < wr.heap.size := CR.out.b.lt
      have g4 : wr.cell? ⟨g, 4, none⟩ = some (.int .i64 (p.free + leftC (xs.take i))) := CR.out.b.cell 4
      rw [hlc] at g4
      have gf := CR.out.b.frozen 4
      have hbg : Hid (b ≠ g) := Lib.hid (Sl.ne_ LR.out CR.out.b (by decide) b rfl)
      clear hlb hll hlc hx
      go_wp2_with fail
      go_region
      all_goals
        go_wp2_with fail
        have CN : Hid (Cud (((wr.setCell ⟨g, 4, none⟩ (.int .i64 (p.free + lc + x.2.1))).alloc (.cells #[.int .i64 x.1, .int .i64 x.2.1, .int .i64 x.2.2] 164)).drewN 1) base g (.slice none 0 0) Kr { p with free := p.free + lc + x.2.1 } [] (doneY p.T (xs.take i) ys)) := Lib.hid (((CR.out.setFree _).alloc _).drewN 1)
        have LN : Hid (SlR encC (((wr.setCell ⟨g, 4, none⟩ (.int .i64 (p.free + lc + x.2.1))).alloc (.cells #[.int .i64 x.1, .int .i64 x.2.1, .int .i64 x.2.2] 164)).drewN 1) base 164 3 (.slice (some ⟨b, off, none⟩) xs.length cap) xs) := Lib.hid (((LR.out.upd ((Upd.refl (fun k => k = g) wr).setCell (p := ⟨g, 4, none⟩) (fun _ => rfl) _) (fun k hk e => hbg.out ((slBlk_eq hk).trans e))).alloc _).drewN 1)
        have TN : Hid (Tu base tsO w (((wr.setCell ⟨g, 4, none⟩ (.int .i64 (p.free + lc + x.2.1))).alloc (.cells #[.int .i64 x.1, .int .i64 x.2.1, .int .i64 x.2.2] 164)).drewN 1)) := Lib.hid (((TR.out.set_ CR.out.hg CR.out.b (by decide) _).alloc _).drewN 1)
        refine (oweC _ base g _ Kr _ [] _ CN.out hyi (Nat.le_trans hbase TN.out.size) hT1 hT x hx0.1 hx0.2).mono ?_
        rintro e w3 ⟨rfl, ⟨K3, hC3⟩, hT3⟩
        have C3 := Lib.hid hC3
        have T3 := Lib.hid (TN.out.trans hT3)
        have L3 := Lib.hid (Sl.tu LN.out hT3 (by decide))
        clear hC3 hT3
        go_wp2_with fail
        go_roundw
        case rel =>
          refine ⟨i + 1, by omega, by go_num, ⟨K3, ?_⟩, L3.out, T3.out⟩
          rw [leftC_take xs i x HX.out, doneY_take p.T xs ys i x HX.out, HLC.out, ← Int.add_assoc]
          exact C3.out
        case measure => simp [intOf]; omega
    · have hii : i = xs.length := by omega
      subst hii
      go_wp2_with fail
      go_returns
      have := CR.out
      rw [List.take_length] at this
      exact ⟨rfl, ⟨_, Kr, this⟩, TR.out⟩
end Go.Proofs.Ytcgefncddbbnlaa.Ck
