/-
  The walk of the document's Gaps; PlanLooks.
-/
import Derived.Test.YtldbjoegfcmfkaaPlanK
namespace Go.Proofs.Ytldbjoegfcmfkaa
open Go.RowKit
attribute [local go_sem] max_ints min_ints

theorem ext_mem {o : List W3} {i : Int} (h0 : 0 ≤ i) (h : ∀ x ∈ o, 0 ≤ x.1 ∧ 1 ≤ x.2.1 ∧ x.1 + x.2.1 ≤ i) : ∀ x ∈ ext o i, 0 ≤ x.1 ∧ 1 ≤ x.2.1 ∧ x.1 + x.2.1 ≤ i + 1 := by
  rcases List.eq_nil_or_concat o with rfl | ⟨A, y, rfl⟩
  · intro x hx
    rw [ext_nil, List.mem_singleton] at hx
    subst hx
    dsimp only; omega
  · intro x hx
    rw [List.concat_eq_append] at h hx
    rw [ext_snoc] at hx
    split at hx
    · rcases List.mem_append.1 hx with hx | hx
      · have := h x (List.mem_append_left _ hx); omega
      · have := h y (List.mem_append_right _ (List.mem_singleton_self y))
        rw [List.mem_singleton] at hx
        subst hx
        dsimp only; omega
    · rcases List.mem_append.1 hx with hx | hx
      · have := h x hx; omega
      · rw [List.mem_singleton] at hx
        subst hx
        dsimp only; omega
theorem ext_len (o : List W3) (i : Int) : (ext o i).length ≤ o.length + 1 := by
  rcases List.eq_nil_or_concat o with rfl | ⟨A, y, rfl⟩
  · rw [ext_nil]; simp
  · rw [List.concat_eq_append, ext_snoc]
    split <;> simp
theorem gapsR_mem (ws : List W3) : ∀ i : Nat, (∀ x ∈ gapsR ws i, 0 ≤ x.1 ∧ 1 ≤ x.2.1 ∧ x.1 + x.2.1 ≤ i) ∧ (gapsR ws i).length ≤ i
  | 0 => ⟨(fun x hx => by cases hx), Nat.le_refl _⟩
  | i + 1 => by
    have ih := gapsR_mem ws i
    rw [gapsR]
    split
    · have h1 := ext_mem (by omega) ih.1
      have h2 := ext_len (gapsR ws i) i
      exact ⟨fun x hx => by have := h1 x hx; omega, by omega⟩
    · exact ⟨fun x hx => by have := ih.1 x hx; omega, by omega⟩

set_option maxRecDepth 100000 in
set_option maxHeartbeats 3200000 in
theorem gapsD (w : World) (n : Int) (v : Value) (ws : List W3) (hv : RdW w v ws) (gs : List W3) (hgs : (if rightB n 0 ws = true then gapsN n ws else []) = gs) :
    Calls Try.prog 33 #[.int .i64 n, v] w fun e w' => ∃ v', e = .returned v' ∧ SlR encW w' w.heap.size 40 3 v' gs ∧ Upd (fun _ => False) w w' := by
  have HV := Lib.hid hv
  obtain ⟨A, cap, rfl, _⟩ := hv
  by_cases hr : rightB n 0 ws = true
  · rw [if_pos hr] at hgs
    have HR := Lib.hid hr
    have hn1 : 1 ≤ n := by
      have := hr
      unfold rightB at this
      simp only [Bool.and_eq_true, decide_eq_true_eq] at this
      omega
    obtain ⟨F, rfl⟩ : ∃ F : Nat, n = F := ⟨n.toNat, by omega⟩
    obtain ⟨hF1, hF2, _, _, hl32, hfit⟩ := rightB_parts hr
    have HGS : Hid (gapsR ws F = gs) := Lib.hid ((gaps_same hfit).trans hgs)
    clear hr hgs hfit
    obtain ⟨i0, hi0, hz0, hz1, hz2⟩ := info_parts infoV
    go_enter Try.func33, Try.ntmps33
    go_wp2_with fail
    refine (rightR _ F 0 _ ws HV.out).mono ?_
    rintro e w1 ⟨rfl, hU⟩
    rw [HR.out]
    have U1 := Lib.hid hU
    clear hU
    go_wp2_with fail
    refine (refYes _ F 0 _ ws (HV.out.still U1.out) HR.out).mono ?_
    rintro e w2 ⟨g, rfl, hT, hU⟩
    have T2 := Lib.hid hT
    have U2 := Lib.hid (U1.out.trans hU)
    clear hU hT
    go_wp2_with fail
    go_loopw [6, 7] (fun vx vi wr => ∃ (i : Nat) (o : List W3), i ≤ F ∧ vi = .int .i64 i ∧ gapsR ws i = o ∧ SlR encW wr w2.heap.size 40 3 vx o ∧ Upd (fun _ => False) w2 wr) (fun _ vi _ => F - (intOf vi).toNat)
    case atStart => exact ⟨0, [], Nat.zero_le _, rfl, rfl, SlR.nil, Upd.refl _ w2⟩
    case round =>
      obtain ⟨i, o, hi, rfl, hst, hS, hU⟩ := hrel
      have hmem := gapsR_mem ws i
      rw [hst] at hmem
      have hol := hmem.2
      have HM := Lib.hid hmem.1
      have HST := Lib.hid hst; have HS := Lib.hid hS; have HU := Lib.hid hU
      obtain ⟨Ax, cx, hsh⟩ := hS.shape
      subst hsh
      clear hst hS hU hmem
      by_cases hlt : i < F
      · obtain ⟨⟨o1, o2⟩, hown⟩ : ∃ q, ownR 0 i ws = q := ⟨_, rfl⟩
        have HOW := Lib.hid hown
        clear hown
        go_wp2_with fail
        refine (ownerR _ g F 0 ws (T2.out.still HU.out) i).mono ?_
        rintro e w3 ⟨rfl, hU⟩
        rw [show (i : Int) % (F : Int) = i from Int.emod_eq_of_lt (by omega) (by omega), HOW.out]
        have S3 := Lib.hid (HS.out.still hU)
        have U3 := Lib.hid (HU.out.trans hU)
        have hsz := U3.out.size
        clear hU
        by_cases h2 : o2 = 0
        · subst h2
          have HE : Hid (gapsR ws (i + 1) = ext o i) := Lib.hid (by rw [gapsR, HOW.out, if_pos rfl, HST.out])
          rcases List.eq_nil_or_concat o with rfl | ⟨B, x, hcat⟩
          · rw [ext_nil] at HE
            go_wp2_with fail
            go_quiet (fail)
            go_wp2_with (
              at_builtin
              refine wpList_append_sl rfl (.tmp 59) (.tmp 62) 28 rfl w2.heap.size 40 i0 _ 3 24 Try.underlying28 hi0 hz0 hz1 hz2 rfl (by decide) _ (([] : List W3)).length (rws encW (([] : List W3))) rfl (by exact Sl.alloc (Sl.drewN S3.out _) (.cells #[.int .i64 i, .int .i64 1, .int .i64 0] 40)) ⟨_, 0, none⟩ 1 [.int .i64 i, .int .i64 1, .int .i64 0] rfl rfl (new_cellsW (w3.drewN _) _ _) (by simp [Value.oneCell']) (by unfold maxLen; simp) (by simp) (by show w2.heap.size ≤ ((w3.drewN _).alloc _).heap.size; exact Nat.le_trans hsz (by simp)) ?_
              intro v' w7 hs7 hu7 hv7
              have FS7 : Hid (SlR encW w7 w2.heap.size 40 3 v' (([] : List W3) ++ [((i : Int), (1 : Int), (0 : Int))])) := Lib.hid (by
                unfold SlR
                rw [List.length_append, rws_append]
                exact hs7)
              have U7 : Hid (Upd (fun _ => False) w2 w7) := Lib.hid (by
                have h1 := ((U3.out.drewN nq).alloc (.cells #[.int .i64 i, .int .i64 1, .int .i64 0] 40)).mono (S' := fun k => w2.heap.size ≤ k) (fun _ _ h => h.elim)
                exact (h1.trans (hu7.mono (fun k _ hk => (Sl.blk S3.out k hk).1))).mono (fun k hk h => absurd h (by omega)))
              obtain ⟨bz, oz, cz, rfl, _, _, _, _⟩ := hs7.form (by omega)
              clear hs7 hu7 hv7)
            go_roundw
            case rel => exact ⟨i + 1, ([] : List W3) ++ [((i : Int), (1 : Int), (0 : Int))], by omega, by go_num, HE.out, FS7.out, U7.out⟩
            case measure => simp [intOf]; omega
          · rw [List.concat_eq_append] at hcat
            subst hcat
            have hbl : (B ++ [x]).length = B.length + 1 := by simp
            obtain ⟨bo, oo, co, hsh, hbge, hbo, _, _⟩ := SlR.form S3.out (by omega)
            injection hsh with e1 _ e3
            subst e1 e3
            have hxat : (B ++ [x])[B.length]? = some x := by simp
            have hM := HM.out x (by simp)
            rw [ext_snoc] at HE
            have q0 := SlR.cell encW_len S3.out B.length x hxat 0 (.int .i64 x.1) rfl
            have q1 := SlR.cell encW_len S3.out B.length x hxat 1 (.int .i64 x.2.1) rfl
            have q1f := SlR.frozen S3.out (oo + B.length * 3 + 1)
            rw [Nat.add_zero] at q0
            obtain ⟨x0, x1, x2⟩ := x
            dsimp only at *
            have w1' := wrap_in (x0 + x1) (by omega) (by omega)
            have w2' := wrap_in (x1 + 1) (by omega) (by omega)
            have S4 : Hid (Sl w3 w2.heap.size 40 3 (.slice (some ⟨bo, oo, none⟩) (B.length + 1) cx) (B.length + 1) (rws encW (B ++ [(x0, x1, x2)]))) := Lib.hid (by have := S3.out; unfold SlR at this; rw [hbl] at this; exact this)
            rw [hbl] at hol ⊢
            have hk : ((B.length + 1 : Nat) : Int) - 1 = B.length := by omega
            by_cases he : x0 + x1 = i
            · rw [if_pos he] at HE
              go_wp2_with fail
              go_quiet (fail)
              go_wp2_with fail
              go_roundw
              case rel =>
                refine ⟨i + 1, B ++ [(x0, x1 + 1, x2)], by omega, by go_num, HE.out, ?_, ?_⟩
                · have h1 := Sl.set_ (S3.out.drewN nq) (B.length * 3 + 1) (by omega) (.int .i64 (x1 + 1))
                  rw [rws_set encW_len (B ++ [(x0, x1, x2)]) B.length (x0, x1, x2) (x0, x1 + 1, x2) 1 _ hxat (by omega) rfl, ← Nat.add_assoc] at h1
                  have e1 : (B ++ [(x0, x1, x2)]).set B.length (x0, x1 + 1, x2) = B ++ [(x0, x1 + 1, x2)] := by simp
                  have e2 : (B ++ [(x0, x1 + 1, x2)]).length = B.length + 1 := by simp
                  rw [e1] at h1
                  unfold SlR
                  rw [e2]
                  rw [hbl] at h1
                  exact h1
                · exact (((U3.out.drewN nq).mono (S' := fun k => w2.heap.size ≤ k) (fun _ _ h => h.elim)).setCell (fun _ => hbge) _).mono (fun k hk h => absurd h (by omega))
              case measure => simp [intOf]; omega
            · rw [if_neg he] at HE
              have en : (x0 + x1 == (i : Int)) = false := beq_eq_false_iff_ne.2 he
              go_wp2_with fail
              go_quiet (fail)
              go_wp2_with (
                at_builtin
                refine wpList_append_sl rfl (.tmp 59) (.tmp 62) 28 rfl w2.heap.size 40 i0 _ 3 24 Try.underlying28 hi0 hz0 hz1 hz2 rfl (by decide) _ (B.length + 1) (rws encW (B ++ [(x0, x1, x2)])) rfl (by exact Sl.alloc (Sl.drewN S4.out _) (.cells #[.int .i64 i, .int .i64 1, .int .i64 0] 40)) ⟨_, 0, none⟩ 1 [.int .i64 i, .int .i64 1, .int .i64 0] rfl rfl (new_cellsW (w3.drewN _) _ _) (by simp [Value.oneCell']) (by unfold maxLen; omega) (by omega) (by show w2.heap.size ≤ ((w3.drewN _).alloc _).heap.size; exact Nat.le_trans hsz (by simp)) ?_
                intro v' w7 hs7 hu7 hv7
                have FS7 : Hid (SlR encW w7 w2.heap.size 40 3 v' (B ++ [(x0, x1, x2)] ++ [((i : Int), (1 : Int), (0 : Int))])) := Lib.hid (by
                  unfold SlR
                  rw [List.length_append, rws_append, hbl]
                  exact hs7)
                have U7 : Hid (Upd (fun _ => False) w2 w7) := Lib.hid (by
                  have h1 := ((U3.out.drewN nq).alloc (.cells #[.int .i64 i, .int .i64 1, .int .i64 0] 40)).mono (S' := fun k => w2.heap.size ≤ k) (fun _ _ h => h.elim)
                  exact (h1.trans (hu7.mono (fun k _ hk => (Sl.blk S4.out k hk).1))).mono (fun k hk h => absurd h (by omega)))
                obtain ⟨bz, oz, cz, rfl, _, _, _, _⟩ := hs7.form (by omega)
                clear hs7 hu7 hv7)
              go_roundw
              case rel => exact ⟨i + 1, B ++ [(x0, x1, x2)] ++ [((i : Int), (1 : Int), (0 : Int))], by omega, by go_num, HE.out, FS7.out, U7.out⟩
              case measure => simp [intOf]; omega
        · have HE : Hid (gapsR ws (i + 1) = o) := Lib.hid (by rw [gapsR, HOW.out, if_neg h2, HST.out])
          have en : (o2 == 0) = false := beq_eq_false_iff_ne.2 h2
          go_wp2_with fail
          go_roundw
          case rel => exact ⟨i + 1, o, by omega, by go_num, HE.out, S3.out, U3.out⟩
          case measure => simp [intOf]; omega
      · have hie : i = F := by omega
        subst hie
        have hsz := U2.out.size
        have HE : Hid (gs = o) := Lib.hid (by rw [← HGS.out, HST.out])
        go_wp2_with fail
        go_returns
        exact ⟨_, rfl, by rw [HE.out]; exact HS.out.mono hsz, U2.out.trans HU.out⟩
  · rw [if_neg hr] at hgs
    subst hgs
    have HR := Lib.hid (Bool.eq_false_iff.2 hr)
    clear hr
    go_enter Try.func33, Try.ntmps33
    go_wp2_with fail
    refine (rightR _ n 0 _ ws HV.out).mono ?_
    rintro e w1 ⟨rfl, hU⟩
    rw [HR.out]
    have U1 := Lib.hid hU
    clear hU
    go_wp2_with fail
    go_returns
    exact ⟨_, rfl, SlR.nil, U1.out⟩
end Go.Proofs.Ytldbjoegfcmfkaa
