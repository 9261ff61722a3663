/-
  PlanGaps.
-/
import Derived.Test.YtldbjoegfcmfkaaPlanM
namespace Go.Proofs.Ytldbjoegfcmfkaa
open Go.RowKit
attribute [local go_sem] max_ints min_ints

/-- An array of 300 numbers. -/
def arrN (c : Int → Int) : Array Value := ((List.range 300).map (fun k : Nat => Value.int .i64 (c k))).toArray
theorem arrN_size (c : Int → Int) : (arrN c).size = 300 := by simp [arrN]
theorem arrN_at (c : Int → Int) (i : Nat) (h : i < 300) : (arrN c)[i]? = some (.int .i64 (c i)) := by
  unfold arrN
  rw [List.getElem?_toArray, List.getElem?_map, List.getElem?_range h]
  rfl
theorem arrN_set (c : Int → Int) (i : Nat) (h : i < 300) (u : Int) : (arrN c).setIfInBounds i (.int .i64 u) = arrN (fun k => if k = i then u else c k) := by
  apply Array.ext_getElem?
  intro j
  by_cases hj : j < 300
  · rw [arrN_at _ j hj]
    by_cases e : i = j
    · subst e
      rw [Array.getElem?_setIfInBounds_self_of_lt (by rw [arrN_size]; exact h)]
      simp
    · rw [Array.getElem?_setIfInBounds_ne e, arrN_at _ j hj, if_neg (by omega)]
  · rw [Array.getElem?_eq_none (by rw [Array.size_setIfInBounds, arrN_size]; omega), Array.getElem?_eq_none (by rw [arrN_size]; omega)]

theorem zero300 : ∀ w, (zeroValue 42).run Try.prog w = .ok (.agg (arrN fun _ => 0)) w := fun w => by kernel_rfl
theorem covN_le (i : Int) : ∀ ws : List W3, 0 ≤ covN i ws ∧ covN i ws ≤ ws.length
  | [] => by rw [covN_nil]; simp
  | x :: t => by
    have := covN_le i t
    rw [covN_cons, List.length_cons]
    split <;> omega
theorem covN_snoc (i : Int) (ws : List W3) (x : W3) : covN i (ws ++ [x]) = covN i ws + if x.1 ≤ i ∧ i < x.1 + x.2.1 then 1 else 0 := by
  rw [covN_app, covN_cons, covN_nil]; omega

set_option maxRecDepth 100000 in
set_option maxHeartbeats 3200000 in
theorem gapsS_any (w : World) (n : Int) (v : Value) (ws : List W3) (hv : RdW w v ws) :
    Calls Try.prog 4 #[.int .i64 n, v] w fun e w' => e = .returned (.bool true) ∧ Upd (fun _ => False) w w' := by
  have HV := Lib.hid hv
  obtain ⟨A, cap, rfl, _⟩ := hv
  by_cases hl : ws.length ≤ 60
  · have d0 : decide (60 < (ws.length : Int)) = false := decide_eq_false (by omega)
    have d0' : ¬ 60 < ws.length := by omega
    by_cases hr : rightB n 0 ws = true
    · have HR := Lib.hid hr
      have hn1 : 1 ≤ n := by
        have := hr
        unfold rightB at this
        simp only [Bool.and_eq_true, decide_eq_true_eq] at this
        omega
      obtain ⟨F, rfl⟩ : ∃ F : Nat, n = F := ⟨n.toNat, by omega⟩
      obtain ⟨hF1, hF2, _, _, hl32, hfit⟩ := rightB_parts hr
      have HF := Lib.hid hfit
      obtain ⟨gs, hgs⟩ : ∃ gs, (if rightB F 0 ws = true then gapsN F ws else []) = gs := ⟨_, rfl⟩
      have hgl := gaps_len F ws
      rw [hgs] at hgl
      have HGS := Lib.hid hgs
      have HGC : Hid (gs = gapsC F 0 ws) := Lib.hid (by rw [← hgs, if_pos hr, gapsN_eq hfit])
      clear hgs hr hfit
      obtain ⟨i0, hi0, hz0, hz1, hz2⟩ := info_parts infoW
      go_enter Try.func4, Try.ntmps4
      go_wp2_with fail
      refine (rightR _ F 0 _ ws HV.out).mono ?_
      rintro e w1 ⟨rfl, hU⟩
      rw [HR.out]
      have U1 := Lib.hid hU
      clear hU
      go_wp2_with fail
      refine (knowsP _).mono ?_
      rintro e w2 ⟨rfl, hU⟩
      have U2 := Lib.hid (U1.out.trans hU)
      clear hU
      go_wp2_with fail
      go_loopw [5, 6] (fun vx vi wr => ∃ i : Nat, i ≤ ws.length ∧ vi = .int .i64 i ∧ SlR encW wr w.heap.size 39 3 vx (ws.take i) ∧ Upd (fun _ => False) w wr) (fun _ vi _ => ws.length - (intOf vi).toNat)
      case atStart => exact ⟨0, Nat.zero_le _, rfl, SlR.nil, U2.out⟩
      case round =>
        obtain ⟨i, hi, rfl, hS, hU⟩ := hrel
        have HS := Lib.hid hS; have HU := Lib.hid hU
        obtain ⟨Ax, cx, hsh⟩ := hS.shape
        subst hsh
        have hlen : (ws.take i).length = i := by rw [List.length_take]; omega
        clear hS hU
        by_cases hlt : i < ws.length
        · obtain ⟨x, hx⟩ : ∃ x, ws[i]? = some x := ⟨_, List.getElem?_eq_getElem hlt⟩
          obtain ⟨A', cap', e, hcell⟩ := HV.out.still HU.out
          injection e with e1 e2 e3
          subst e1 e3
          obtain ⟨b, o, rfl, hb, q0, q1, q2⟩ := hcell i x hx
          have HX := Lib.hid (take_one hx)
          clear hcell hx
          obtain ⟨x0, x1, x2⟩ := x
          dsimp only at *
          rw [hlen] at HS ⊢
          have hsz := HU.out.size
          go_wp2_with (
            at_builtin
            refine wpList_append_sl rfl (.tmp 33) (.tmp 38) 24 rfl w.heap.size 39 i0 _ 3 24 Try.underlying24 hi0 hz0 hz1 hz2 rfl (by decide) _ i (rws encW (ws.take i)) rfl (by have := Sl.alloc HS.out (.cells #[.int .i64 x0, .int .i64 x1, .int .i64 x2] 39); rw [hlen] at this; exact this) ⟨_, 0, none⟩ 1 [.int .i64 x0, .int .i64 x1, .int .i64 x2] rfl rfl (new_cellsW _ _ _) (by simp [Value.oneCell']) (by unfold maxLen; omega) (by omega) (by simp; omega) ?_
            intro v' w6 hs6 hu6 hv6
            obtain ⟨bq, oq, cq, rfl, _, _, _, _⟩ := hs6.form (by omega)
            have FS6 := Lib.hid hs6
            have U6 := Lib.hid hu6
            clear hs6 hu6 hv6)
          go_roundw
          case rel =>
            refine ⟨i + 1, by omega, by go_num, ?_, ?_⟩
            · rw [HX.out]
              unfold SlR
              rw [List.length_append, rws_append, hlen]
              exact FS6.out
            · have h1 := (HU.out.alloc (.cells #[.int .i64 x0, .int .i64 x1, .int .i64 x2] 39)).mono (S' := fun k => w.heap.size ≤ k) (fun _ _ h => h.elim)
              exact (h1.trans (U6.out.mono (fun k _ hk => (Sl.blk HS.out k hk).1))).mono (fun k hk h => absurd h (by omega))
          case measure => simp [intOf]; omega
        · have hii : i = ws.length := by omega
          subst hii
          rw [List.take_length] at *
          go_wp2_with fail
          refine (gapsP _ w.heap.size F _ ws HS.out (by omega) gs HGS.out).mono ?_
          rintro e w4 ⟨v4, rfl, hS, hU⟩
          have hszq := hU.size
          have S4 := Lib.hid (HS.out.still hU)
          have U4 := Lib.hid (HU.out.trans hU)
          have G4 := Lib.hid hS
          obtain ⟨A4, c4, hsh⟩ := hS.shape
          subst hsh
          clear hS hU
          obtain ⟨wx, rfl⟩ : ∃ wx, wx = wr := ⟨wr, rfl⟩
          have hz8 := zero300
          go_wp2_with fail
          obtain ⟨w5, hw5⟩ : ∃ w5, w4.alloc (Obj.cells (arrN fun _ => 0) 42) = w5 := ⟨_, rfl⟩
          rw [hw5]
          have hsz4 := U4.out.size
          have hszr := HU.out.size
          obtain ⟨hb, hhb⟩ : ∃ hb, w4.heap.size = hb := ⟨_, rfl⟩
          rw [hhb]
          have hsz5 : w5.heap.size = hb + 1 := by rw [← hw5, ← hhb]; exact Array.size_push _
          have hszx : wx.heap.size ≤ hb := by rw [← hhb]; exact hszq
          have B5 : Hid (Blk w5 hb 42 (arrN fun _ => 0)) := Lib.hid (by rw [← hw5, ← hhb]; exact Blk.new _ _ _)
          have S5 : Hid (SlR encW w5 w.heap.size 39 3 (.slice Ax ws.length cx) ws) := Lib.hid (by rw [← hw5]; exact S4.out.alloc _)
          have G5 : Hid (SlR encW w5 wx.heap.size 39 3 (.slice A4 gs.length c4) gs) := Lib.hid (by rw [← hw5]; exact G4.out.alloc _)
          have U5 : Hid (Upd (fun _ => False) w w5) := Lib.hid (by rw [← hw5]; exact U4.out.alloc _)
          have X5 : Hid (∀ k, slBlk (.slice Ax ws.length cx) = some k → k < wx.heap.size ∨ w5.heap.size ≤ k) := Lib.hid (fun k hk => .inl (Sl.blk HS.out k hk).2.1)
          clear hw5 hhb hz8
          go_loopw [5, 9] (fun vx vi wq => ∃ i : Nat, i ≤ gs.length ∧ vi = .int .i64 i ∧ SlR encW wq w.heap.size 39 3 vx (ws ++ gs.take i) ∧ (∀ k, slBlk vx = some k → k < wx.heap.size ∨ w5.heap.size ≤ k) ∧ Upd (fun k => w.heap.size ≤ k ∧ k < wx.heap.size) w5 wq) (fun _ vi _ => gs.length - (intOf vi).toNat)
          case atStart => exact ⟨0, Nat.zero_le _, rfl, by rw [List.take_zero, List.append_nil]; exact S5.out, X5.out, Upd.refl _ _⟩
          case round =>
            obtain ⟨wq, rfl⟩ : ∃ wq, wq = wr := ⟨wr, rfl⟩
            obtain ⟨i, hi, rfl, hS, hX, hU⟩ := hrel
            obtain ⟨xs, hxs⟩ : ∃ xs, ws ++ gs.take i = xs := ⟨_, rfl⟩
            rw [hxs] at hS
            have hxl : xs.length ≤ 100 := by rw [← hxs, List.length_append, List.length_take]; omega
            have HXS := Lib.hid hxs
            have S6 := Lib.hid hS; have X6 := Lib.hid hX; have U6 := Lib.hid hU
            obtain ⟨Ay, cy, hsh⟩ := hS.shape
            subst hsh
            have hsz6 := hU.size
            have B6 : Hid (Blk wq hb 42 (arrN fun _ => 0)) := Lib.hid (B5.out.upd hU (fun h => by omega))
            clear hS hX hU hxs
            by_cases hlt : i < gs.length
            · obtain ⟨x, hx⟩ : ∃ x, gs[i]? = some x := ⟨_, List.getElem?_eq_getElem hlt⟩
              have hm := gapsC_mem ws 0 HF.out (Int.le_refl _) x (by rw [← HGC.out]; exact List.mem_of_getElem? hx)
              obtain ⟨A', cap', e, hcell⟩ := RdW.of (SlR.upd G5.out U6.out (fun k hk h => by have := (Sl.blk G5.out k hk).1; omega))
              injection e with e1 e2 e3
              subst e1 e3
              obtain ⟨b, o, rfl, hbb, q0, q1, q2⟩ := hcell i x hx
              have HX : Hid (ws ++ gs.take (i + 1) = xs ++ [x]) := Lib.hid (by rw [take_one hx, ← List.append_assoc, HXS.out])
              clear hcell hx
              obtain ⟨x0, x1, x2⟩ := x
              dsimp only at *
              obtain ⟨m1, m2, m3, rfl⟩ := hm
              have t1 : decide (x1 < 1) = false := decide_eq_false (by omega)
              have t2 : decide (x0 < 0) = false := decide_eq_false (by omega)
              have w1' := wrap_in (x0 + x1) (by omega) (by omega)
              have t3 : decide ((F : Int) < x0 + x1) = false := decide_eq_false (by omega)
              go_wp2_with fail
              go_quiet (fail)
              go_wp2_with (
                at_builtin
                refine wpList_append_sl rfl (.tmp 86) (.tmp 91) 24 rfl w.heap.size 39 i0 _ 3 24 Try.underlying24 hi0 hz0 hz1 hz2 rfl (by decide) _ xs.length (rws encW xs) rfl (by exact Sl.alloc (Sl.drewN S6.out nq) (.cells #[.int .i64 x0, .int .i64 x1, .int .i64 0] 39)) ⟨_, 0, none⟩ 1 [.int .i64 x0, .int .i64 x1, .int .i64 0] rfl rfl (new_cellsW _ _ _) (by simp [Value.oneCell']) (by unfold maxLen; omega) (by omega) (by simp; omega) ?_
                intro v' w7 hs7 hu7 hv7
                have FS7 : Hid (SlR encW w7 w.heap.size 39 3 v' (xs ++ [(x0, x1, 0)])) := Lib.hid (by
                  unfold SlR
                  rw [List.length_append, rws_append]
                  exact hs7)
                have U7 : Hid (Upd (fun k => w.heap.size ≤ k ∧ k < wx.heap.size) w5 w7) := Lib.hid (by
                  have h1 := ((U6.out.drewN nq).alloc (.cells #[.int .i64 x0, .int .i64 x1, .int .i64 0] 39)).mono (S' := fun k => w.heap.size ≤ k ∧ (k < wx.heap.size ∨ w5.heap.size ≤ k)) (fun _ _ h => ⟨h.1, .inl h.2⟩)
                  exact (h1.trans (hu7.mono (fun k _ hk => ⟨(Sl.blk S6.out k hk).1, X6.out k hk⟩))).mono (fun k hk h => ⟨h.1, h.2.resolve_right (by omega)⟩))
                have X7 : Hid (∀ k, slBlk v' = some k → k < wx.heap.size ∨ w5.heap.size ≤ k) := Lib.hid (fun k hk => by
                  rcases hv7 k hk with h | h
                  · exact X6.out k h
                  · have h' : wq.heap.size + 1 ≤ k := by simpa using h
                    exact .inr (by omega))
                obtain ⟨bz, oz, cz, rfl, _, _, _, _⟩ := hs7.form (by omega)
                clear hs7 hu7 hv7)
              go_roundw
              case rel => exact ⟨i + 1, by omega, by go_num, by rw [HX.out]; exact FS7.out, X7.out, U7.out⟩
              case measure => simp [intOf]; omega
            · have hie : i = gs.length := by omega
              subst hie
              rw [List.take_length] at HXS
              have hmem : ∀ x ∈ xs, 0 ≤ x.1 ∧ 0 ≤ x.2.1 ∧ x.1 + x.2.1 ≤ F := by
                intro x hx
                rw [← HXS.out] at hx
                rcases List.mem_append.1 hx with hx | hx
                · have := fitsB_mem HF.out x hx; omega
                · rw [HGC.out] at hx
                  have := gapsC_mem ws 0 HF.out (Int.le_refl _) x hx; omega
              have hcov : ∀ k : Int, 0 ≤ k → k < F → covN k xs = 1 := by
                intro k h0 h1
                rw [← HXS.out, HGC.out, covN_app, cov_gaps ws 0 HF.out (by omega), if_pos ⟨h0, h1⟩]
              have HMEM := Lib.hid hmem; have HCOV := Lib.hid hcov
              clear hmem hcov
              go_wp2_with fail
              go_loopw [10] (fun vi wp => ∃ i : Nat, i ≤ xs.length ∧ vi = .int .i64 i ∧ Blk wp hb 42 (arrN fun q => covN q (xs.take i)) ∧ Upd (fun k => k = hb) wq wp) (fun vi _ => xs.length - (intOf vi).toNat)
              case atStart => exact ⟨0, Nat.zero_le _, rfl, B6.out, Upd.refl _ _⟩
              case round =>
                obtain ⟨i, hi, rfl, hB, hU⟩ := hrel
                have B7 := Lib.hid hB; have U7 := Lib.hid hU
                have S7 := Lib.hid (SlR.upd S6.out hU (Sl.ne_ S6.out B6.out (by decide)))
                clear hB hU
                by_cases hlt2 : i < xs.length
                · obtain ⟨x, hx⟩ : ∃ x, xs[i]? = some x := ⟨_, List.getElem?_eq_getElem hlt2⟩
                  have hm := HMEM.out x (List.mem_of_getElem? hx)
                  have HX := Lib.hid (take_one hx)
                  have HXI := Lib.hid hx
                  clear hx
                  obtain ⟨x0, x1, x2⟩ := x
                  dsimp only at *
                  obtain ⟨m1, m2, m3⟩ := hm
                  obtain ⟨a, rfl⟩ : ∃ a : Nat, x0 = a := ⟨x0.toNat, by omega⟩
                  obtain ⟨l, rfl⟩ : ∃ l : Nat, x1 = l := ⟨x1.toNat, by omega⟩
                  go_wp2_with fail
                  go_loopw [11] (fun vk wp => ∃ k : Nat, k ≤ l ∧ vk = .int .i64 k ∧ Blk wp hb 42 (arrN fun q => covN q (xs.take i) + if (a : Int) ≤ q ∧ q < (a : Int) + k then 1 else 0) ∧ Upd (fun k => k = hb) wq wp) (fun vk _ => l - (intOf vk).toNat)
                  case atStart =>
                    refine ⟨0, Nat.zero_le _, rfl, ?_, U7.out⟩
                    have e : (fun q => covN q (xs.take i) + if (a : Int) ≤ q ∧ q < (a : Int) + (0 : Nat) then 1 else 0) = fun q => covN q (xs.take i) := by
                      funext q
                      rw [if_neg (by omega)]; omega
                    rw [e]
                    exact B7.out
                  case round =>
                    obtain ⟨k, hk, rfl, hB, hU⟩ := hrel
                    have B8 := Lib.hid hB; have U8 := Lib.hid hU
                    obtain ⟨A', cap', e, hcell⟩ := RdW.of (SlR.upd S6.out hU (Sl.ne_ S6.out B6.out (by decide)))
                    injection e with e1 e2 e3
                    subst e1 e3
                    obtain ⟨b, o, rfl, hbb, q0, q1, q2⟩ := hcell i _ HXI.out
                    clear hcell hB hU
                    dsimp only at q0 q1 q2
                    by_cases hlk : k < l
                    · obtain ⟨c, hc⟩ : ∃ c, covN ((a : Int) + k) (xs.take i) = c := ⟨_, rfl⟩
                      have hcb := covN_le ((a : Int) + k) (xs.take i)
                      rw [hc, List.length_take] at hcb
                      have HC := Lib.hid hc
                      have c0 : wr.cell? ⟨hb, a + k, none⟩ = some (.int .i64 c) := by
                        rw [B8.out.cell, arrN_at _ _ (by omega)]
                        congr 2
                        rw [Int.natCast_add, HC.out, if_neg (by omega)]
                        omega
                      have f0 := B8.out.frozen (a + k)
                      have w1' := wrap_in ((a : Int) + k) (by omega) (by omega)
                      have w2' := wrap_in (c + 1) (by omega) (by omega)
                      clear hc
                      go_wp2_with fail
                      go_roundw
                      case rel =>
                        refine ⟨k + 1, by omega, by go_num, ?_, U8.out.setCell (fun _ => rfl) _⟩
                        have h1 := B8.out.set_ (a + k) (.int .i64 (c + 1))
                        rw [arrN_set _ _ (by omega)] at h1
                        have e : (fun q : Int => if q = ((a + k : Nat) : Int) then c + 1 else covN q (xs.take i) + if (a : Int) ≤ q ∧ q < (a : Int) + k then 1 else 0) = fun q => covN q (xs.take i) + if (a : Int) ≤ q ∧ q < (a : Int) + (k + 1 : Nat) then 1 else 0 := by
                          funext q
                          by_cases hq : q = ((a + k : Nat) : Int)
                          · rw [if_pos hq, hq, Int.natCast_add, HC.out, if_pos (by omega)]
                          · rw [if_neg hq]
                            congr 1
                            by_cases h2 : (a : Int) ≤ q ∧ q < (a : Int) + k
                            · rw [if_pos h2, if_pos (by omega)]
                            · rw [if_neg h2, if_neg (by omega)]
                        rw [e] at h1
                        exact h1
                      case measure => simp [intOf]; omega
                    · have hke : k = l := by omega
                      subst hke
                      have e : (fun q => covN q (xs.take i) + if (a : Int) ≤ q ∧ q < (a : Int) + k then 1 else 0) = fun q => covN q (xs.take (i + 1)) := by
                        funext q
                        rw [HX.out, covN_snoc]
                      rw [e] at B8
                      go_wp2_with fail
                      go_roundw
                      case rel => exact ⟨i + 1, by omega, by go_num, B8.out, U8.out⟩
                      case measure => simp [intOf]; omega
                · have hie : i = xs.length := by omega
                  subst hie
                  rw [List.take_length] at B7
                  go_wp2_with fail
                  go_loopw [12] (fun vi wp => ∃ i : Nat, i ≤ F ∧ vi = .int .i64 i ∧ wp = wr) (fun vi _ => F - (intOf vi).toNat)
                  case atStart => exact ⟨0, Nat.zero_le _, rfl, rfl⟩
                  case round =>
                    obtain ⟨i, hi, rfl, rfl⟩ := hrel
                    by_cases hlf : i < F
                    · have c0 : wr.cell? ⟨hb, i, none⟩ = some (.int .i64 1) := by
                        rw [B7.out.cell, arrN_at _ _ (by omega), HCOV.out i (by omega) (by omega)]
                      go_wp2_with fail
                      go_roundw
                      case rel => exact ⟨i + 1, by omega, by go_num, by first | rfl | trivial⟩
                      case measure => simp [intOf]; omega
                    · go_wp2_with fail
                      go_returns
                      refine ⟨rfl, ?_⟩
                      have h1 := (U5.out.mono (S' := fun k => w.heap.size ≤ k) (fun _ _ h => h.elim)).trans (U6.out.mono (fun _ _ h => h.1))
                      exact (h1.trans (U7.out.mono (fun k _ hk => by omega))).mono (fun k hk h => absurd h (by omega))
    · have HR := Lib.hid (Bool.eq_false_iff.2 hr)
      clear hr
      go_enter Try.func4, Try.ntmps4
      go_wp2_with fail
      refine (rightR _ n 0 _ ws HV.out).mono ?_
      rintro e w1 ⟨rfl, hU⟩
      rw [HR.out]
      have U1 := Lib.hid hU
      clear hU
      go_wp2_with fail
      refine (knowsP _).mono ?_
      rintro e w2 ⟨rfl, hU⟩
      have U2 := Lib.hid (U1.out.trans hU)
      clear hU
      go_wp2_with fail
      go_returns
      exact ⟨rfl, U2.out⟩
  · have d0 : decide (60 < (ws.length : Int)) = true := decide_eq_true (by omega)
    have d0' : 60 < ws.length := by omega
    go_enter Try.func4, Try.ntmps4
    go_wp2_with fail
    refine (knowsP _).mono ?_
    rintro e w1 ⟨rfl, hU⟩
    have U1 := Lib.hid hU
    clear hU
    go_wp2_with fail
    go_returns
    exact ⟨rfl, U1.out⟩

theorem planGaps_any (w : World) (n : Int) (_ : (Lit.int .i64 n).wf = true) (A : Option Addr) (len cap : Nat) (xs : Nat → Nat → Int) (_ : ∀ k j, k < len → j < 3 → (Lit.int .i64 (xs k j)).wf = true) (hc : Row3 w A len xs) :
    Calls Try.prog 4 #[.int .i64 n, .slice A len cap] w fun e w' => e = .returned (.bool true) ∧ Below w.heap.size w w' :=
  (gapsS_any w n _ _ (rdW_of hc)).mono (fun _ _ ⟨h1, h2⟩ => ⟨h1, h2.below (Nat.le_refl _) (fun _ h => h.elim)⟩)
end Go.Proofs.Ytldbjoegfcmfkaa
