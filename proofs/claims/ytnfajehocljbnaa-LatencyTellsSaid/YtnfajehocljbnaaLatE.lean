/-
  The walks of latency.Dark and Longest.
-/
import Derived.Test.YtnfajehocljbnaaLatD
import Derived.Test.YtnfajehocljbnaaLatQ
namespace Go.Proofs.Ytnfajehocljbnaa
open Go.RowKit
attribute [local go_sem] max_ints min_ints

def encS (x : Int × Int) : List Value := [.int .i64 x.1, .int .i64 x.2]
theorem encS_len (x : Int × Int) : (encS x).length = 2 := rfl
theorem infoS : (Try.prog.info? 53).map (fun i => (i.zero, i.size, i.bytes)) = some (some (.agg #[.int .i64 0, .int .i64 0]), 2, 16) := by kernel_rfl
theorem new_cellsW (w : World) (cs : List Value) (t : TypeId) : ∀ j u, cs[j]? = some u → (w.alloc (.cells cs.toArray t)).cell? ((⟨w.heap.size, 0, none⟩ : Addr).add j) = some u := by
  intro j u hu
  rw [add_at, (Blk.new _ _ _).cell j]
  simpa using hu

set_option maxRecDepth 100000 in
set_option maxHeartbeats 3200000 in
theorem darkL (w : World) (base g F : Nat) (M : Int) (ws : List W3) (h : TabS w base g F M ws) (p : Int) (o : Int) (ho : cntO M ws p F = o) :
    Calls Try.prog 21 #[.pointer (some ⟨g, 0, none⟩), .int .i64 p] w fun e w' => ∃ v, e = .returned v ∧ SlR encS w' w.heap.size 53 2 v (if o = 0 then [] else dkN M ws p F F) ∧ Upd (fun _ => False) w w' := by
  have hr := h.right
  have hF1 : 1 ≤ F := hr.1
  have hF2 : F ≤ 256 := hr.2.1
  have H := Lib.hid h; have HO := Lib.hid ho
  have ho1 := cntO_le M ws p F
  rw [ho] at ho1
  obtain ⟨i0, hi0, hz0, hz1, hz2⟩ := info_parts infoS
  clear h hr ho
  by_cases h0 : o = 0
  · rw [if_pos h0]
    subst h0
    go_enter Try.func21, Try.ntmps21
    go_wp2_with fail
    refine (offeredTc _ base g F M ws H.out p 0 HO.out).mono ?_
    rintro e w1 ⟨rfl, k1, rfl⟩
    go_wp2_with fail
    go_returns
    exact ⟨_, rfl, SlR.nil, (Upd.refl _ w).drewN _⟩
  · rw [if_neg h0]
    have d0 : (o == 0) = false := beq_eq_false_iff_ne.2 h0
    have hop : Hid (0 < cntO M ws p F) := Lib.hid (by rw [HO.out]; omega)
    go_enter Try.func21, Try.ntmps21
    go_wp2_with fail
    refine (offeredTc _ base g F M ws H.out p o HO.out).mono ?_
    rintro e w1 ⟨rfl, k1, rfl⟩
    go_wp2_with fail
    refine (frameT _ base g F M ws (H.out.drewN _)).mono ?_
    rintro e w2 ⟨rfl, k2, rfl⟩
    go_wp2_with fail
    go_loopw [5, 6, 7, 8, 15] (fun vx v6 v7 v8 vi wr => ∃ (i : Nat) (l : List (Int × Int)), i ≤ F ∧ vi = .int .i64 i ∧ dkN M ws p F i = l ∧ SlR encS wr w.heap.size 53 2 vx l ∧ Upd (fun _ => False) w wr) (fun _ _ _ _ vi _ => F - (intOf vi).toNat)
    case atStart => exact ⟨0, [], Nat.zero_le _, rfl, rfl, SlR.nil, (Upd.refl _ w).drewN _⟩
    case round =>
      obtain ⟨i, l, hi, rfl, hl, hS, hU⟩ := hrel
      have hll := dkN_len M ws p F i
      rw [hl] at hll
      have HL := Lib.hid hl; have HS := Lib.hid hS; have HU := Lib.hid hU
      obtain ⟨Ax, cx, hsh⟩ := hS.shape
      subst hsh
      clear hl hS hU
      by_cases hlt : i < F
      · obtain ⟨b, hb⟩ : ∃ b, isO M ws p ((i : Int) % F) = b := ⟨_, rfl⟩
        have HB := Lib.hid hb
        have hi1 := wrap_in ((i : Int) - 1) (by omega) (by omega)
        clear hb
        go_wp2_with fail
        refine (openL _ base g F M ws (H.out.still HU.out) p i b HB.out).mono ?_
        rintro e w3 ⟨rfl, k3, rfl⟩
        cases b
        · obtain ⟨c, hc⟩ : ∃ c, isO M ws p (((i : Int) - 1) % F) = c := ⟨_, rfl⟩
          have HC := Lib.hid hc
          clear hc
          go_wp2_with fail
          refine (openL _ base g F M ws (H.out.still (HU.out.drewN _)) p ((i : Int) - 1) c HC.out).mono ?_
          rintro e w4 ⟨rfl, k4, rfl⟩
          cases c
          · have HN : Hid (dkN M ws p F (i + 1) = l) := Lib.hid (by rw [dkN, darkB, HB.out, HC.out]; exact HL.out)
            go_wp2_with fail
            go_roundw
            case rel => exact ⟨i + 1, l, by omega, by go_num, HN.out, HS.out.drewN _, HU.out.drewN _⟩
            case measure => simp [intOf]; omega
          · have HN : Hid (dkN M ws p F (i + 1) = l ++ [((i : Int), (i : Int) + doneN M ws p F i 1 - 1)]) := Lib.hid (by rw [dkN, darkB, HB.out, HC.out, HL.out]; rfl)
            go_wp2_with fail
            refine (nextT _ base g F M ws (H.out.still (HU.out.drewN _)) p i i (by omega) (by omega)).mono ?_
            rintro e w5 ⟨x, t, rfl, hN, hU⟩
            obtain ⟨hx, ht⟩ := next_done hF1 hop.out hN
            subst ht
            have HX := Lib.hid hx
            have S5 := Lib.hid ((HS.out.drewN (k3 + k4)).still hU)
            have U5 := Lib.hid ((HU.out.drewN (k3 + k4)).trans hU)
            have hsz := U5.out.size
            clear hN hU hx
            go_wp2_with (
              at_builtin
              refine wpList_append_sl rfl (.tmp 37) (.tmp 41) 48 rfl w.heap.size 53 i0 _ 2 16 Try.underlying48 hi0 hz0 hz1 hz2 rfl (by decide) _ l.length (rws encS l) rfl (by exact Sl.alloc S5.out (.cells #[.int .i64 i, .int .i64 x] 53)) ⟨_, 0, none⟩ 1 [.int .i64 i, .int .i64 x] rfl rfl (new_cellsW _ _ _) (by simp [Value.oneCell']) (by unfold maxLen; omega) (by omega) (by simp; omega) ?_
              intro v' w7 hs7 hu7 hv7
              have FS7 : Hid (SlR encS w7 w.heap.size 53 2 v' (l ++ [((i : Int), x)])) := Lib.hid (by
                unfold SlR
                rw [List.length_append, rws_append]
                exact hs7)
              have U7 : Hid (Upd (fun _ => False) w w7) := Lib.hid (by
                have h1 := (U5.out.alloc (.cells #[.int .i64 i, .int .i64 x] 53)).mono (S' := fun k => w.heap.size ≤ k) (fun _ _ h => h.elim)
                exact (h1.trans (hu7.mono (fun k _ hk => (Sl.blk S5.out k hk).1))).mono (fun k hk h => absurd h (by omega)))
              obtain ⟨bz, oz, cz, rfl, _, _, _, _⟩ := hs7.form (by omega)
              clear hs7 hu7 hv7)
            go_roundw
            case rel => exact ⟨i + 1, l ++ [((i : Int), x)], by omega, by go_num, by rw [HN.out, HX.out], FS7.out, U7.out⟩
            case measure => simp [intOf]; omega
        · have HN : Hid (dkN M ws p F (i + 1) = l) := Lib.hid (by rw [dkN, darkB, HB.out]; exact HL.out)
          go_wp2_with fail
          go_roundw
          case rel => exact ⟨i + 1, l, by omega, by go_num, HN.out, HS.out.drewN _, HU.out.drewN _⟩
          case measure => simp [intOf]; omega
      · have hie : i = F := by omega
        subst hie
        go_wp2_with fail
        go_returns
        exact ⟨_, rfl, by rw [HL.out]; exact HS.out, HU.out⟩
end Go.Proofs.Ytnfajehocljbnaa
