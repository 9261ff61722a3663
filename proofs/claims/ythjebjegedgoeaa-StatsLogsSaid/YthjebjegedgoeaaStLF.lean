/-
  Stats: the jobs of a log; Of.
-/
import Derived.Test.YthjebjegedgoeaaStLE
namespace Go.Proofs.Ythjebjegedgoeaa
open Go.RowKit Go.Maps
attribute [local go_sem] max_ints min_ints

theorem makeMpI (w : World) : (Instr.makeMap 89 none).run Try.prog w = .ok (.map (some w.heap.size)) (w.alloc (.map #[] 0)) := run_makeMap _ w
theorem makeMpL (w : World) : (Instr.makeMap 90 none).run Try.prog w = .ok (.map (some w.heap.size)) (w.alloc (.map #[] 0)) := run_makeMap _ w
attribute [local go_sem] makeMpI makeMpL

set_option maxRecDepth 100000 in
set_option maxHeartbeats 1600000 in
theorem followC (w : World) :
    Calls Try.prog 40 #[] w fun e w' => ∃ f bo bl, e = .returned (.pointer (some ⟨f, 0, none⟩)) ∧ FoS w' f bo bl w.heap.size 0 (.slice none 0 0) false [] [] [] ∧ Upd (fun _ => False) w w' := by
  have hM1 := MpV.made w
  have hM2 := MpV.made (w.alloc (.map #[] 0))
  have hB := Blk.new ((w.alloc (.map #[] 0)).alloc (.map #[] 0)) 92 #[.slice none 0 0, .map (some w.heap.size), .bool false, .map (some (w.alloc (.map #[] 0)).heap.size)]
  have h12 : Upd (fun _ => False) (w.alloc (.map #[] 0)) (((w.alloc (.map #[] 0)).alloc (.map #[] 0)).alloc (.cells #[.slice none 0 0, .map (some w.heap.size), .bool false, .map (some (w.alloc (.map #[] 0)).heap.size)] 92)) := ((Upd.refl _ _).alloc _).alloc _
  have hF : FoS (((w.alloc (.map #[] 0)).alloc (.map #[] 0)).alloc (.cells #[.slice none 0 0, .map (some w.heap.size), .bool false, .map (some (w.alloc (.map #[] 0)).heap.size)] 92)) ((w.alloc (.map #[] 0)).alloc (.map #[] 0)).heap.size w.heap.size (w.alloc (.map #[] 0)).heap.size w.heap.size 0 (.slice none 0 0) false [] [] [] :=
    ⟨hB, SlR.nil, hM1.upd h12 (fun h => h), hM2.upd ((Upd.refl (fun _ => False) _).alloc _) (fun h => h), (by simp), (fun e he => (by cases he)), (fun t ht => absurd rfl ht), List.Pairwise.nil, (by simp; omega), Nat.le_refl _, (by simp), (by simp)⟩
  have HF := Lib.hid hF
  have HU : Hid (Upd (fun _ => False) w (((w.alloc (.map #[] 0)).alloc (.map #[] 0)).alloc (.cells #[.slice none 0 0, .map (some w.heap.size), .bool false, .map (some (w.alloc (.map #[] 0)).heap.size)] 92))) := Lib.hid (((Upd.refl _ w).alloc _).trans h12)
  clear hM1 hM2 hB h12 hF
  simp only [World.size_alloc] at HF HU
  go_enter Try.func40, Try.ntmps40
  go_wp2_with fail
  go_returns
  exact ⟨_, _, _, rfl, HF.out, HU.out⟩

theorem slr_ent {w : World} {base b off n cap : Nat} {t : TypeId} {l : List En} (h : SlR encN w base t 4 (.slice (some ⟨b, off, none⟩) n cap) l) (i : Nat) (e : En) (he : l[i]? = some e) :
    w.cell? ⟨b, off + i * 4, none⟩ = some (.int .i64 e.k) ∧ w.cell? ⟨b, off + i * 4 + 1, none⟩ = some (.int .i64 e.d) ∧ w.cell? ⟨b, off + i * 4 + 2, none⟩ = some (.int .i64 e.a) ∧ w.cell? ⟨b, off + i * 4 + 3, none⟩ = some (.int .i64 e.b) :=
  ⟨h.cell encN_len i e he 0 _ rfl, h.cell encN_len i e he 1 _ rfl, h.cell encN_len i e he 2 _ rfl, h.cell encN_len i e he 3 _ rfl⟩

set_option maxRecDepth 100000 in
set_option maxHeartbeats 3200000 in
theorem aJobsC (w : World) (v : Value) (l : List En) (hv : SlR encN w 0 52 4 v l) (hl : l.length ≤ 200) (hwf : ∀ e ∈ l, EnWf e) :
    Calls Try.prog 34 #[v] w fun e w' => ∃ v', e = .returned v' ∧ SlR encJ w' w.heap.size 58 5 v' (jobsE l) ∧ Upd (fun _ => False) w w' := by
  obtain ⟨A, cp, rfl⟩ := hv.shape
  have HV := Lib.hid hv; have HWF := Lib.hid hwf
  clear hv hwf
  go_enter Try.func34, Try.ntmps34
  go_wp2_with fail
  refine (followC w).mono ?_
  rintro e w1 ⟨f, bo, bl, rfl, hF, hU⟩
  have F1 := Lib.hid hF
  have U1 : Hid (Upd (fun q => w.heap.size ≤ q) w w1) := Lib.hid (hU.mono (fun _ _ h => h.elim))
  clear hF hU
  go_wp2_with fail
  go_loopw [5, 9] (fun v5 v9 wr => ∃ (i n : Nat) (jv : Value) (hi : Bool) (es ls : EsV), i ≤ l.length ∧ v9 = .int .i64 i ∧ n ≤ i ∧ FoS wr f bo bl w.heap.size n jv hi (jobsE (l.take i)) es ls ∧ Upd (fun q => w.heap.size ≤ q) w wr) (fun _ v9 _ => l.length - (intOf v9).toNat)
  case atStart => exact ⟨0, 0, _, _, _, _, Nat.zero_le _, rfl, Nat.le_refl _, F1.out, U1.out⟩
  case round =>
    obtain ⟨i, n, jv, hi, es, ls, hi', rfl, hn, hF, hU⟩ := hrel
    have FA := Lib.hid hF; have UA := Lib.hid hU
    clear hF
    by_cases hlt : i < l.length
    · obtain ⟨e, he⟩ : ∃ e, l[i]? = some e := ⟨_, List.getElem?_eq_getElem hlt⟩
      have V2 := HV.out.upd hU (fun q hq h => by have := (Sl.blk HV.out q hq).2.1; omega)
      obtain ⟨vb, vo, cv', e1, _, _, _, _⟩ := V2.form (by omega)
      injection e1 with e1 e1b e1c
      subst e1; subst e1c
      obtain ⟨c0, c1, c2, c3⟩ := slr_ent V2 i e he
      have HEW := Lib.hid (HWF.out e (List.mem_of_getElem? he))
      have HE := Lib.hid he
      have hjl : (jobsE (l.take i)).length ≤ 1000 := by have := jobsE_len (l.take i); rw [List.length_take] at this; omega
      have dl : decide ((i : Int) < (l.length : Int)) = true := decide_eq_true (by omega)
      have di : decide ((i : Int) < 0) = false := decide_eq_false (by omega)
      have FB := Lib.hid (FA.out.still ((Upd.refl _ wr).alloc (.cells #[.int .i64 e.k, .int .i64 e.d, .int .i64 e.a, .int .i64 e.b] 52)))
      have UB := Lib.hid (UA.out.alloc (.cells #[.int .i64 e.k, .int .i64 e.d, .int .i64 e.a, .int .i64 e.b] 52))
      clear V2 hU he e1b
      go_wp2_with fail
      refine (seeC _ f bo bl w.heap.size n jv hi (jobsE (l.take i)) es ls FB.out e HEW.out (by omega) hjl).mono ?_
      rintro r w3 ⟨rfl, ⟨n', jv', hi', es', ls', hn', hF3⟩, hU3⟩
      have F3 := Lib.hid (show FoS w3 f bo bl w.heap.size n' jv' hi' (jobsE (l.take (i + 1))) es' ls' by rw [take_succ_get HE.out, jobsE_snoc]; exact hF3)
      have U3 := Lib.hid (UB.out.trans hU3)
      clear hF3 hU3 FB UB
      go_wp2_with fail
      go_roundw
      case rel => exact ⟨i + 1, n', jv', hi', es', ls', by omega, by go_num, by omega, F3.out, U3.out⟩
      case measure => simp [intOf]; omega
    · have hie : i = l.length := by omega
      subst hie
      have f0 : wr.cell? ⟨f, 0, none⟩ = some jv := FA.out.b.cell 0
      have hJ := FA.out.j
      rw [List.take_length] at hJ
      have HJ := Lib.hid hJ
      obtain ⟨Aj, cj, rfl⟩ := hJ.shape
      clear hJ hU
      go_wp2_with fail
      go_returns
      exact ⟨_, rfl, HJ.out, UA.out.mono (fun q hq h => by omega)⟩

set_option maxRecDepth 100000 in
set_option maxHeartbeats 3200000 in
theorem ofLC (w : World) (v : Value) (l : List En) (hv : SlR encN w 0 52 4 v l) (hl : l.length ≤ 200) (hwf : ∀ e ∈ l, EnWf e) (b d : Int) :
    Calls Try.prog 20 #[v, .int .i64 b, .int .i64 d] w fun e w' => ∃ g bm ks N, e = .returned (.pointer (some ⟨g, 0, none⟩)) ∧ TabJ w' g bm (min (max b 1) 64).toNat (min (max d 1) 1000).toNat ks (jobsE l) N ∧ Upd (fun _ => False) w w' := by
  have HV := Lib.hid hv; have HWF := Lib.hid hwf
  clear hv hwf
  go_enter Try.func20, Try.ntmps20
  go_wp2_with fail
  refine (newS w b d).mono ?_
  rintro e w1 ⟨rfl, hT, hU1⟩
  obtain ⟨g, hg⟩ : ∃ g, w.heap.size + 1 = g := ⟨_, rfl⟩
  obtain ⟨bm, hbm⟩ : ∃ bm, w.heap.size = bm := ⟨_, rfl⟩
  rw [hg] at hT ⊢
  obtain ⟨B, hB⟩ : ∃ B : Nat, (min (max b 1) 64).toNat = B := ⟨_, rfl⟩
  obtain ⟨W, hW⟩ : ∃ W : Nat, (min (max d 1) 1000).toNat = W := ⟨_, rfl⟩
  have hBW : 1 ≤ B ∧ B ≤ 64 ∧ 1 ≤ W := by omega
  have HBW := Lib.hid hB; have HWW := Lib.hid hW
  have T1 : Hid (TabS w1 g bm B W [] (fun _ => Ln.zero) (fun _ => []) (fun k => k < w.heap.size)) := Lib.hid (by rw [← hB, ← hW, ← hbm]; exact hT)
  have U1 := Lib.hid hU1
  clear hT hU1 hg hbm hB hW
  go_wp2_with fail
  refine (aJobsC w1 v l (HV.out.upd U1.out (fun _ _ h => h)) hl HWF.out).mono ?_
  rintro e w2 ⟨v2, rfl, hv2, hU2⟩
  have V2 := Lib.hid hv2
  have T2 : Hid (TabJ w2 g bm B W [] [] (fun k => k < w.heap.size ∨ w1.heap.size ≤ k ∧ k < w2.heap.size)) := Lib.hid (TabJ.new (T1.out.more hU2 (fun k h1 h2 => by
    rcases h1 with h1 | h1
    · exact h1
    · omega)))
  have U2 := Lib.hid (U1.out.trans hU2)
  have hjl : (jobsE l).length ≤ 200 := by have := jobsE_len l; omega
  have HJW : Hid (∀ j ∈ jobsE l, j.Wf) := Lib.hid (fun j hj => by
    have h := jobsE_wf HWF.out j hj
    exact ⟨WalkArith.wf_i64 ⟨h.t0, by have := h.t1; omega⟩, h.f0, h.f1, h.o0, h.o1⟩)
  clear hv2 hU2 T1
  go_wp2_with fail
  refine (addC w2 g bm B W [] _ T2.out (fun k hk => by
    have := U2.out.size
    rcases hk with hk | hk <;> omega) hBW.1 hBW.2.1 hBW.2.2 v2 (jobsE l) (Sl.mono V2.out (Nat.zero_le _)) (fun k hk => .inr (by
      obtain ⟨h1, h2, _⟩ := Sl.blk V2.out k hk
      exact ⟨h1, h2⟩)) hjl HJW.out).mono ?_
  rintro e w3 ⟨rfl, ⟨ks, hT⟩, hU⟩
  have U3 : Hid (Upd (fun _ => False) w w3) := Lib.hid (((U2.out.mono (fun _ _ h => h.elim)).trans hU).mono (fun k hk h => h (.inl hk)))
  have T3 := Lib.hid hT
  clear hU hT T2 U2 V2 U1
  go_wp2_with fail
  go_returns
  exact ⟨g, bm, ks, _, rfl, by rw [HBW.out, HWW.out]; exact T3.out, U3.out⟩
end Go.Proofs.Ythjebjegedgoeaa
