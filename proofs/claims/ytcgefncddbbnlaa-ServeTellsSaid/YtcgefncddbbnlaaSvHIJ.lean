/-
  Serve: Run, In.
  slices.Clone, of a list of structs.
  Serve: what is done, when all is; what was used; what must come; the asks.
  Serve: what must come; the asks; numbers.
-/
import Derived.Test.YtcgefncddbbnlaaSvEFG
import Derived.Test.YtcgefncddbbnlaaFrameL
namespace Go.Proofs.Ytcgefncddbbnlaa
open Go.RowKit
attribute [local go_sem] max_ints min_ints

def resX (rf : Bool) (C T : Int) (bad : Bool) (own : Int → Bool) (ticks : Int) (l : List (Int × Int)) : List An × Int :=
  if Cf.okS C T = false then ([], 23) else if fineX ticks l = false ∨ bad = true then ([], 1) else ((Rn.run own (Rn.new rf C T l) ticks.toNat).out, 0)
theorem resX_no (rf : Bool) (C T : Int) (bad : Bool) (own : Int → Bool) (ticks : Int) (l : List (Int × Int)) (h : Cf.okS C T = false) : resX rf C T bad own ticks l = ([], 23) := if_pos h
theorem resX_arg (rf : Bool) (C T : Int) (bad : Bool) (own : Int → Bool) (ticks : Int) (l : List (Int × Int)) (h : Cf.okS C T = true) (h2 : fineX ticks l = false ∨ bad = true) : resX rf C T bad own ticks l = ([], 1) := by
  unfold resX; rw [if_neg (by rw [h]; simp), if_pos h2]
theorem resX_yes (rf : Bool) (C T : Int) (own : Int → Bool) (n : Nat) (l : List (Int × Int)) (h : Cf.okS C T = true) (h2 : fineX n l = true) : resX rf C T false own n l = ((Rn.run own (Rn.new rf C T l) n).out, 0) := by
  unfold resX; rw [if_neg (by rw [h]; simp), if_neg (by rw [h2]; simp)]; rfl
theorem fineX_parts {ticks : Int} {l : List (Int × Int)} (h : fineX ticks l = true) : 0 ≤ ticks ∧ ticks ≤ 3000 ∧ l.length ≤ 500 ∧ fineA 0 l = true := by
  unfold fineX at h
  simp only [Bool.and_eq_true, decide_eq_true_eq] at h
  exact ⟨h.1.1, h.1.2.1, h.1.2.2, h.2⟩
theorem entRun (args : Array Value) (w : World) : (callFunc 24 args).run Try.prog w = .ok (.enter 24 args) w := by kernel_rfl
theorem entIn (args : Array Value) (w : World) : (callFunc 42 args).run Try.prog w = .ok (.enter 42 args) w := by kernel_rfl
theorem upd_under {w w' : World} {n : Nat} (h : Upd (fun q => n ≤ q) w w') (hn : w.heap.size ≤ n) : Upd (fun _ => False) w w' := h.mono (fun q hq e => by omega)

set_option maxRecDepth 100000 in
theorem ownRun (w : World) (now : Int) : Calls Try.prog 24 (#[.int .i64 now] ++ #[]) w fun e w2 => e = .returned (.bool true) ∧ Upd (fun _ => False) w w2 := by
  show Calls Try.prog 24 #[.int .i64 now] w _
  go_enter Try.func24, Try.ntmps24
  go_wp2_with fail
  go_returns
  exact ⟨rfl, Upd.refl _ w⟩
set_option maxRecDepth 100000 in
theorem ownIn (w : World) (now : Int) (b6 b7 base g F : Nat) (M : Int) (ws : List Fr.W3) (p : Int) (h : Fr.TabS w base g F M ws) (c6 : w.cell? ⟨b6, 0, none⟩ = some (.pointer (some ⟨g, 0, none⟩))) (c7 : w.cell? ⟨b7, 0, none⟩ = some (.int .i64 p)) :
    Calls Try.prog 42 (#[.int .i64 now] ++ #[.pointer (some ⟨b6, 0, none⟩), .pointer (some ⟨b7, 0, none⟩)]) w fun e w2 => e = .returned (.bool (decide (0 < Fr.cntF M ws p F now 1))) ∧ Upd (fun _ => False) w w2 := by
  show Calls Try.prog 42 #[.int .i64 now, .pointer (some ⟨b6, 0, none⟩), .pointer (some ⟨b7, 0, none⟩)] w _
  have H := Lib.hid h
  clear h
  go_enter Try.func42, Try.ntmps42
  go_wp2_with fail
  refine (Fr.countT w base g F M ws H.out p now 1 1 (by rfl)).mono ?_
  rintro e w2 ⟨rfl, k, hk⟩
  have HU : Hid (Upd (fun _ => False) w w2) := Lib.hid (by rw [hk]; exact (Upd.refl _ w).drewN k)
  clear hk
  generalize hc : Fr.cntF M ws p F now 1 = c
  have HC := Lib.hid hc
  clear hc
  go_wp2_with fail
  go_returns
  exact ⟨by rw [HC.out]; rfl, HU.out⟩

set_option maxRecDepth 100000 in
set_option maxHeartbeats 1600000 in
theorem runC (w : World) (rf : Bool) (C T ticks : Int) (v : Value) (l : List (Int × Int)) (hv : SlR encQ w 0 57 2 v l) (hl : l.length ≤ 1000) :
    Calls Try.prog 8 #[.agg #[.bool rf, .int .i64 C, .int .i64 T], .int .i64 ticks, v] w fun e w' => ∃ ov, e = .returned (.tuple #[ov, .int .i64 (resX rf C T false (fun _ => true) ticks l).2]) ∧ SlR encA w' w.heap.size 37 4 ov (resX rf C T false (fun _ => true) ticks l).1 ∧ Upd (fun _ => False) w w' := by
  have ua := (Upd.refl (fun _ => False) w).alloc (.cells #[.bool rf, .int .i64 C, .int .i64 T] 25)
  have b0 : (w.alloc (.cells #[.bool rf, .int .i64 C, .int .i64 T] 25)).cell? ⟨w.heap.size, 0, none⟩ = some (.bool rf) := (Blk.new w _ _).cell 0
  have BB := Lib.hid (Blk.new w 25 #[.bool rf, .int .i64 C, .int .i64 T])
  have U0 := Lib.hid ua
  have HV := Lib.hid (hv.upd ua (fun _ _ h => h))
  obtain ⟨ok, hok⟩ : ∃ t, Cf.okS C T = t := ⟨_, rfl⟩
  have HOK := Lib.hid hok
  clear ua hv hok b0
  generalize hw1 : w.alloc (.cells #[.bool rf, .int .i64 C, .int .i64 T] 25) = w1 at *
  have HW1 := Lib.hid hw1
  clear hw1
  go_enter Try.func8, Try.ntmps8
  go_upto_region 1 with fail
  rw [HW1.out]
  have b0 : w1.cell? ⟨w.heap.size, 0, none⟩ = some (.bool rf) := BB.out.cell 0
  have b1 : w1.cell? ⟨w.heap.size, 1, none⟩ = some (.int .i64 C) := BB.out.cell 1
  have b2 : w1.cell? ⟨w.heap.size, 2, none⟩ = some (.int .i64 T) := BB.out.cell 2
  go_wp2_with fail
  refine (Cf.rightS w1 rf C T ok HOK.out).mono ?_
  rintro e w2 ⟨rfl, hU⟩
  have B2 := Lib.hid (BB.out.upd hU (fun h => h)); have U2 := Lib.hid (U0.out.trans hU); have V2 := Lib.hid (HV.out.upd hU (fun _ _ h => h))
  clear hU U0 BB HV b0 b1 b2
  cases ok with
  | false =>
    go_wp2_with fail
    go_returns
    rw [resX_no rf C T false _ ticks l HOK.out]
    exact ⟨_, rfl, SlR.nil, U2.out⟩
  | true =>
    obtain ⟨fx, hfx⟩ : ∃ t, fineX ticks l = t := ⟨_, rfl⟩
    have HFX := Lib.hid hfx
    clear hfx
    go_wp2_with fail
    refine (fineC w2 ticks v l V2.out hl).mono ?_
    rintro e w3 ⟨rfl, hU⟩
    rw [HFX.out]
    have B3 := Lib.hid (B2.out.upd hU (fun h => h)); have U3 := Lib.hid (U2.out.trans hU); have V3 := Lib.hid (V2.out.upd hU (fun _ _ h => h))
    clear hU U2 B2 V2
    cases fx with
    | false =>
      go_wp2_with fail
      go_returns
      rw [resX_arg rf C T false _ ticks l HOK.out (.inl HFX.out)]
      exact ⟨_, rfl, SlR.nil, U3.out⟩
    | true =>
      obtain ⟨f1, f2, f3, f4⟩ := fineX_parts HFX.out
      obtain ⟨n, rfl⟩ : ∃ n : Nat, ticks = n := ⟨ticks.toNat, by omega⟩
      have b0 : w3.cell? ⟨w.heap.size, 0, none⟩ = some (.bool rf) := B3.out.cell 0
      have b1 : w3.cell? ⟨w.heap.size, 1, none⟩ = some (.int .i64 C) := B3.out.cell 1
      have b2 : w3.cell? ⟨w.heap.size, 2, none⟩ = some (.int .i64 T) := B3.out.cell 2
      have HP := Lib.hid (playC w3 rf C T n v l 24 #[] (fun _ => true) HOK.out (by omega) V3.out hl (fineA_work 0 l f4) entRun (fun now w' _ _ => ownRun w' now))
      have HSZ := Lib.hid U3.out.size
      clear f4
      go_wp2_with fail
      refine HP.out.mono ?_
      rintro e w4 ⟨ov, rfl, hS, hU⟩
      have S4 := Lib.hid (Sl.mono hS HSZ.out); have U4 := Lib.hid (U3.out.trans hU)
      clear hS hU
      go_wp2_with fail
      go_returns
      rw [resX_yes rf C T _ n l HOK.out HFX.out]
      exact ⟨ov, rfl, S4.out, U4.out⟩

set_option maxRecDepth 100000 in
set_option maxHeartbeats 3200000 in
theorem inC (w : World) (rf : Bool) (C T : Int) (base g F : Nat) (M : Int) (ws : List Fr.W3) (p ticks : Int) (v : Value) (l : List (Int × Int)) (hT : Fr.TabS w base g F M ws) (hv : SlR encQ w 0 57 2 v l) (hl : l.length ≤ 1000) :
    Calls Try.prog 16 #[.agg #[.bool rf, .int .i64 C, .int .i64 T], .pointer (some ⟨g, 0, none⟩), .int .i64 p, .int .i64 ticks, v] w fun e w' => ∃ ov, e = .returned (.tuple #[ov, .int .i64 (resX rf C T (decide (Fr.cntO M ws p F = 0)) (fun t => decide (0 < Fr.cntF M ws p F t 1)) ticks l).2]) ∧ SlR encA w' w.heap.size 37 4 ov (resX rf C T (decide (Fr.cntO M ws p F = 0)) (fun t => decide (0 < Fr.cntF M ws p F t 1)) ticks l).1 ∧ Upd (fun _ => False) w w' := by
  have u1 := (Upd.refl (fun _ => False) w).alloc (.cells #[.bool rf, .int .i64 C, .int .i64 T] 25)
  have BB := Lib.hid (Blk.new w 25 #[.bool rf, .int .i64 C, .int .i64 T])
  generalize hw1 : w.alloc (.cells #[.bool rf, .int .i64 C, .int .i64 T] 25) = wa at *
  have u2 := (Upd.refl (fun _ => False) wa).alloc (.cells #[.pointer (some ⟨g, 0, none⟩)] 50)
  have BG := Lib.hid (Blk.new wa 50 #[.pointer (some ⟨g, 0, none⟩)])
  generalize hw2 : wa.alloc (.cells #[.pointer (some ⟨g, 0, none⟩)] 50) = wb at *
  have u3 := (Upd.refl (fun _ => False) wb).alloc (.cells #[.int .i64 p] 3)
  have BP := Lib.hid (Blk.new wb 3 #[.int .i64 p])
  generalize hw3 : wb.alloc (.cells #[.int .i64 p] 3) = w1 at *
  have U0 := Lib.hid ((u1.trans u2).trans u3)
  have B0 := Lib.hid (BB.out.upd (u2.trans u3) (fun h => h))
  have G0 := Lib.hid (BG.out.upd u3 (fun h => h))
  have HV := Lib.hid (hv.upd U0.out (fun _ _ h => h))
  have HT := Lib.hid (hT.still U0.out)
  have HW1 : Hid (((w.alloc (.cells #[.bool rf, .int .i64 C, .int .i64 T] 25)).alloc (.cells #[.pointer (some ⟨g, 0, none⟩)] 50)).alloc (.cells #[.int .i64 p] 3) = w1) := Lib.hid (by rw [hw1, hw2, hw3])
  have hA : wa.heap.size = w.heap.size + 1 := by rw [← hw1]; simp
  have hB : wb.heap.size = w.heap.size + 1 + 1 := by rw [← hw2]; simp [hA]
  rw [hA] at G0
  rw [hB] at BP
  obtain ⟨ok, hok⟩ : ∃ t, Cf.okS C T = t := ⟨_, rfl⟩
  have HOK := Lib.hid hok
  clear u1 u2 u3 hv hT hok hw1 hw2 hw3 BB BG hA hB
  go_enter Try.func16, Try.ntmps16
  go_upto_region 1 with fail
  rw [HW1.out]
  have b0 : w1.cell? ⟨w.heap.size, 0, none⟩ = some (.bool rf) := B0.out.cell 0
  have b1 : w1.cell? ⟨w.heap.size, 1, none⟩ = some (.int .i64 C) := B0.out.cell 1
  have b2 : w1.cell? ⟨w.heap.size, 2, none⟩ = some (.int .i64 T) := B0.out.cell 2
  go_wp2_with fail
  refine (Cf.rightS w1 rf C T ok HOK.out).mono ?_
  rintro e w2 ⟨rfl, hU⟩
  have B2 := Lib.hid (B0.out.upd hU (fun h => h)); have U2 := Lib.hid (U0.out.trans hU); have V2 := Lib.hid (HV.out.upd hU (fun _ _ h => h))
  have G2 := Lib.hid (G0.out.upd hU (fun h => h)); have P2 := Lib.hid (BP.out.upd hU (fun h => h)); have T2 := Lib.hid (HT.out.still hU)
  clear hU U0 B0 HV b0 b1 b2 G0 BP HT
  cases ok with
  | false =>
    go_wp2_with fail
    go_returns
    rw [resX_no rf C T _ _ ticks l HOK.out]
    exact ⟨_, rfl, SlR.nil, U2.out⟩
  | true =>
    obtain ⟨fx, hfx⟩ : ∃ t, fineX ticks l = t := ⟨_, rfl⟩
    have HFX := Lib.hid hfx
    clear hfx
    go_wp2_with fail
    refine (fineC w2 ticks v l V2.out hl).mono ?_
    rintro e w3 ⟨rfl, hU⟩
    rw [HFX.out]
    have B3 := Lib.hid (B2.out.upd hU (fun h => h)); have U3 := Lib.hid (U2.out.trans hU); have V3 := Lib.hid (V2.out.upd hU (fun _ _ h => h))
    have G3 := Lib.hid (G2.out.upd hU (fun h => h)); have P3 := Lib.hid (P2.out.upd hU (fun h => h)); have T3 := Lib.hid (T2.out.still hU)
    clear hU U2 B2 V2 G2 P2 T2
    cases fx with
    | false =>
      go_wp2_with fail
      go_returns
      rw [resX_arg rf C T _ _ ticks l HOK.out (.inl HFX.out)]
      exact ⟨_, rfl, SlR.nil, U3.out⟩
    | true =>
      obtain ⟨f1, f2, f3, f4⟩ := fineX_parts HFX.out
      obtain ⟨n, rfl⟩ : ∃ n : Nat, ticks = n := ⟨ticks.toNat, by omega⟩
      obtain ⟨c, hc⟩ : ∃ c, Fr.cntO M ws p F = c := ⟨_, rfl⟩
      have HC := Lib.hid hc
      have HF4 := Lib.hid f4
      have g0 : w3.cell? ⟨w.heap.size + 1, 0, none⟩ = some (.pointer (some ⟨g, 0, none⟩)) := G3.out.cell 0
      have p0 : w3.cell? ⟨w.heap.size + 1 + 1, 0, none⟩ = some (.int .i64 p) := P3.out.cell 0
      clear hc f4
      go_wp2_with fail
      refine (Fr.offeredTc w3 base g F M ws T3.out p c HC.out).mono ?_
      rintro e w4 ⟨rfl, k4, hk⟩
      have hU : Upd (fun _ => False) w3 w4 := by rw [hk]; exact (Upd.refl _ w3).drewN k4
      have B4 := Lib.hid (B3.out.upd hU (fun h => h)); have U4 := Lib.hid (U3.out.trans hU); have V4 := Lib.hid (V3.out.upd hU (fun _ _ h => h))
      have G4 := Lib.hid (G3.out.upd hU (fun h => h)); have P4 := Lib.hid (P3.out.upd hU (fun h => h)); have T4 := Lib.hid (T3.out.still hU)
      clear hU hk U3 B3 V3 G3 P3 T3 g0 p0
      by_cases h0 : c = 0
      · have dz : (c == 0) = true := beq_iff_eq.2 h0
        have HB : Hid (decide (Fr.cntO M ws p F = 0) = true) := Lib.hid (by rw [HC.out]; exact decide_eq_true h0)
        clear h0
        go_wp2_with fail
        go_returns
        rw [resX_arg rf C T _ _ n l HOK.out (.inr HB.out)]
        exact ⟨_, rfl, SlR.nil, U4.out⟩
      · have dz : (c == 0) = false := beq_eq_false_iff_ne.2 h0
        have HB : Hid (decide (Fr.cntO M ws p F = 0) = false) := Lib.hid (by rw [HC.out]; exact decide_eq_false h0)
        clear h0
        have hmf : ∀ (fn : Fn) (first cap : Array Value) (w : World), (Instr.makeFunc fn first cap).run Try.prog w = .ok (.func fn first cap) w := fun _ _ _ _ => rfl
        have b0 : w4.cell? ⟨w.heap.size, 0, none⟩ = some (.bool rf) := B4.out.cell 0
        have b1 : w4.cell? ⟨w.heap.size, 1, none⟩ = some (.int .i64 C) := B4.out.cell 1
        have b2 : w4.cell? ⟨w.heap.size, 2, none⟩ = some (.int .i64 T) := B4.out.cell 2
        have HP := Lib.hid (playC w4 rf C T n v l 42 #[.pointer (some ⟨w.heap.size + 1, 0, none⟩), .pointer (some ⟨w.heap.size + 1 + 1, 0, none⟩)] (fun t => decide (0 < Fr.cntF M ws p F t 1)) HOK.out (by omega) V4.out hl (fineA_work 0 l HF4.out) entIn (fun now w' _ hU => by
          have hU' := upd_under hU (Nat.le_refl _)
          exact ownIn w' now _ _ base g F M ws p (T4.out.still hU') ((G4.out.upd hU' (fun h => h)).cell 0) ((P4.out.upd hU' (fun h => h)).cell 0)))
        have HSZ := Lib.hid U4.out.size
        go_wp2_with fail
        refine HP.out.mono ?_
        rintro e w5 ⟨ov, rfl, hS, hU⟩
        have S5 := Lib.hid (Sl.mono hS HSZ.out); have U5 := Lib.hid (U4.out.trans hU)
        clear hS hU
        go_wp2_with fail
        go_returns
        rw [HB.out, resX_yes rf C T _ n l HOK.out HFX.out]
        exact ⟨ov, rfl, S5.out, U5.out⟩
end Go.Proofs.Ytcgefncddbbnlaa

namespace Go.Proofs.Ytcgefncddbbnlaa
open Go.RowKit

theorem infocloneA : (Try.prog.info? 37).map (fun i => (i.zero, i.size, i.bytes)) = some (some (.agg #[.int .i64 0, .int .i64 0, .int .i64 0, .int .i64 0]), 4, 32) := by kernel_rfl
set_option maxRecDepth 100000 in
set_option maxHeartbeats 1600000 in
theorem cloneA (w : World) (base : Nat) (L : Value) (xs : List (An)) (h : SlR encA w base 37 4 L xs) (hn : xs.length ≤ 100000) :
    Calls Try.prog 69 #[L] w fun e w' => ∃ v, e = .returned v ∧ SlR encA w' w.heap.size 37 4 v xs ∧ Upd (fun _ => False) w w' := by
  obtain ⟨i0, hi0, hz0, hz1, hz2⟩ := info_parts infocloneA
  have hq : ∀ (w : World) (a : Option Addr) (n c : Nat), (binOp .eql 29 (.slice a n c) (.slice none 0 0)).run Try.prog w = .ok (.bool a.isNone) w := fun w a n c => Go.Lib.run_eql_slice_nil w _ _ a n c 0 0 Try.underlying29
  rcases h.2 with ⟨rfl, h0⟩ | ⟨b, off, cap, cur, rfl, _, _, _, _, _, _⟩
  · have hx : xs = [] := List.eq_nil_of_length_eq_zero h0
    subst hx
    clear h h0
    go_enter Try.func69, Try.ntmps69
    go_wp2
    go_ret
    exact ⟨_, rfl, SlR.nil, Upd.refl _ _⟩
  · have HC : Hid (∀ o j u, (rws encA xs)[j]? = some u → (w.alloc o).cell? ((⟨b, off, none⟩ : Addr).add j) = some u) := Lib.hid (fun o j u hu => by
      rw [Addr.add_lit]
      exact Sl.cell (h.alloc o) j u hu)
    clear h
    go_enter Try.func69, Try.ntmps69
    go_wp2_with (
      at_builtin
      refine wpList_append_own _ rfl (.tmp 5) (.tmp 6) 29 rfl w.heap.size 37 i0 _ 4 32 Try.underlying29 hi0 hz0 hz1 hz2 rfl (by decide) _ 0 [] rfl (World.ownsRow_lit (e := 37) (size := 4) w #[] 0 (Nat.le_refl _) (Nat.zero_le _) rfl) ⟨b, off, none⟩ xs.length cap (rws encA xs) rfl (rws_len encA_len xs) (HC.out _) (rws_one_cell encA_one xs) (by unfold maxLen; omega) (by omega) (by simp) ?_
      intro v' w1 hown' hgrow hnil
      clear hnil
      have hU : Upd (fun k => w.heap.size ≤ k) w w1 := ((Upd.refl (fun k => w.heap.size ≤ k) w).alloc _).grown hgrow (fun k hk hlt => by cases hk; exact Nat.le_refl _)
      rw [List.nil_append, Nat.zero_add] at hown'
      have HST := Lib.hid hown'; clear hown'
      have HU := Lib.hid hU; clear hU
      clear hgrow)
    go_ret
    exact ⟨_, rfl, Sl.own HST.out, HU.out.mono (fun k hk hle => absurd hle (Nat.not_le_of_lt hk))⟩
end Go.Proofs.Ytcgefncddbbnlaa

namespace Go.Proofs.Ytcgefncddbbnlaa
open Go.RowKit
attribute [local go_sem] max_ints min_ints

set_option maxRecDepth 100000 in
theorem done1 (w : World) (a : An) (h : 0 ≤ a.d) :
    Calls Try.prog 70 #[.agg #[.int .i64 a.t, .int .i64 a.w, .int .i64 a.b, .int .i64 a.d]] w fun e w' => e = .returned (.bool false) ∧ Upd (fun _ => False) w w' := by
  have ua := (Upd.refl (fun _ => False) w).alloc (.cells #[.int .i64 a.t, .int .i64 a.w, .int .i64 a.b, .int .i64 a.d] 37)
  have c3 : (w.alloc (.cells #[.int .i64 a.t, .int .i64 a.w, .int .i64 a.b, .int .i64 a.d] 37)).cell? ⟨w.heap.size, 3, none⟩ = some (.int .i64 a.d) := (Blk.new w _ _).cell 3
  have U := Lib.hid ua
  have d0 : decide (a.d < 0) = false := decide_eq_false (by omega)
  clear ua
  go_enter Try.func70, Try.ntmps70
  go_wp2_with fail
  go_returns
  exact ⟨rfl, U.out⟩

set_option maxRecDepth 100000 in
set_option maxHeartbeats 1600000 in
theorem indexN (w : World) (base : Nat) (v : Value) (l : List An) (hv : SlR encA w base 37 4 v l) (hl : l.length ≤ 1000) (hd : ∀ a ∈ l, 0 ≤ a.d) :
    Calls Try.prog 77 #[v, .func (.func 70) #[] #[]] w fun e w' => e = .returned (.int .i64 (-1)) ∧ Upd (fun _ => False) w w' := by
  obtain ⟨A, cap, rfl⟩ := hv.shape
  have HV := Lib.hid hv; have HD := Lib.hid hd
  clear hv hd
  go_enter Try.func77, Try.ntmps77
  go_wp2_with fail
  go_loopw [5, 8] (fun _ vi wr => ∃ (i : Nat), i ≤ l.length ∧ vi = .int .i64 i ∧ Upd (fun _ => False) w wr) (fun _ vi _ => l.length - (intOf vi).toNat)
  case atStart => exact ⟨0, Nat.zero_le _, rfl, Upd.refl _ _⟩
  case round =>
    obtain ⟨i, hi, rfl, hU⟩ := hrel
    have HU := Lib.hid hU
    by_cases hlt : i < l.length
    · obtain ⟨a, ha⟩ : ∃ a, l[i]? = some a := ⟨_, List.getElem?_eq_getElem hlt⟩
      have hv1 : SlR encA wr base 37 4 (.slice A l.length cap) l := HV.out.upd hU (fun _ _ h => h)
      obtain ⟨lb, lo, lc, e1, _, _, _, _⟩ := hv1.form (by omega)
      injection e1 with e1 e1b e1c
      subst e1; subst e1c
      have c0 : wr.cell? ⟨lb, lo + i * 4, none⟩ = some (.int .i64 a.t) := hv1.cell encA_len i a ha 0 _ rfl
      have c1 : wr.cell? ⟨lb, lo + i * 4 + 1, none⟩ = some (.int .i64 a.w) := hv1.cell encA_len i a ha 1 _ rfl
      have c2 : wr.cell? ⟨lb, lo + i * 4 + 2, none⟩ = some (.int .i64 a.b) := hv1.cell encA_len i a ha 2 _ rfl
      have c3 : wr.cell? ⟨lb, lo + i * 4 + 3, none⟩ = some (.int .i64 a.d) := hv1.cell encA_len i a ha 3 _ rfl
      have dl : decide ((i : Int) < (l.length : Int)) = true := decide_eq_true (by omega)
      have di : decide ((i : Int) < 0) = false := decide_eq_false (by omega)
      have dn : i < l.length := hlt
      have hda := Lib.hid (HD.out a (List.mem_of_getElem? ha))
      clear ha hv1 e1b hU
      go_wp2_with fail
      refine (done1 wr a hda.out).mono ?_
      rintro e w2 ⟨rfl, hU2⟩
      have U2 := Lib.hid (HU.out.trans hU2)
      clear hU2
      go_wp2_with fail
      go_roundw
      case rel => exact ⟨i + 1, by omega, by go_num, U2.out⟩
      case measure => simp [intOf]; omega
    · have hi' : i = l.length := by omega
      subst hi'
      clear hU
      go_wp2_with fail
      go_returns
      exact ⟨rfl, HU.out⟩

set_option maxRecDepth 100000 in
set_option maxHeartbeats 1600000 in
theorem doneC (w : World) (base : Nat) (v : Value) (l : List An) (hv : SlR encA w base 37 4 v l) (hl : l.length ≤ 1000) (hd : ∀ a ∈ l, 0 ≤ a.d) :
    Calls Try.prog 47 #[v] w fun e w' => ∃ v', e = .returned v' ∧ SlR encA w' w.heap.size 37 4 v' l ∧ Upd (fun _ => False) w w' := by
  have HC := Lib.hid (cloneA w base v l hv (by omega))
  have HD := Lib.hid hd
  clear hv hd
  go_enter Try.func47, Try.ntmps47
  go_wp2_with fail
  refine HC.out.mono ?_
  rintro e w1 ⟨v1, rfl, hS, hU⟩
  have S1 := Lib.hid hS; have U1 := Lib.hid hU
  clear hS hU HC
  have HN := Lib.hid (indexN w1 _ v1 l S1.out hl HD.out)
  go_wp2_with fail
  have hin : ∀ (Q : Ending → World → Prop), (∀ w2, Upd (fun _ => False) w1 w2 → Q (.returned v1) w2) → Calls Try.prog 68 #[v1, .func (.func 70) #[] #[]] w1 Q := by
    intro Q HQ
    have HQ' := Lib.hid HQ
    clear HQ
    go_enter Try.func68, Try.ntmps68
    go_wp2_with fail
    refine HN.out.mono ?_
    rintro e w2 ⟨rfl, hU⟩
    have U2 := Lib.hid hU
    clear hU
    go_wp2_with fail
    exact HQ'.out w2 U2.out
  refine hin _ fun w2 hU => ?_
  have S2 := Lib.hid (S1.out.upd hU (fun _ _ h => h)); have U2 := Lib.hid (U1.out.trans hU)
  clear hU hin HN
  go_wp2_with fail
  go_returns
  exact ⟨_, rfl, S2.out, U2.out⟩
theorem knowsR : resX false 2 10 false (fun _ => true) 30 [(0, 3)] = ([⟨0, 3, 0, 11⟩], 0) := by kernel_rfl

set_option maxRecDepth 100000 in
set_option maxHeartbeats 1600000 in
theorem usedK (w : World) (base : Nat) (v : Value) (hv : SlR encA w base 37 4 v [⟨0, 3, 0, 11⟩]) :
    Calls Try.prog 21 #[v] w fun e w' => e = .returned (.int .i64 3) ∧ Upd (fun _ => False) w w' := by
  have HC := Lib.hid (doneC w base v [⟨0, 3, 0, 11⟩] hv (by decide) (fun a ha => by simp at ha; subst ha; decide))
  clear hv
  go_enter Try.func21, Try.ntmps21
  go_wp2_with fail
  refine HC.out.mono ?_
  rintro e w1 ⟨v1, rfl, hS, hU⟩
  have S1 := Lib.hid hS; have U1 := Lib.hid hU
  obtain ⟨lb, lo, lc, e1, _, _, _, _⟩ := hS.form (by decide)
  subst e1
  clear hS hU HC
  go_wp2_with fail
  go_loopw [3, 5, 9] (fun v3 _ vi wr => ((vi = .int .i64 0 ∧ v3 = .int .i64 0) ∨ (vi = .int .i64 1 ∧ v3 = .int .i64 3)) ∧ Upd (fun _ => False) w1 wr) (fun _ _ vi _ => 1 - (intOf vi).toNat)
  case atStart => exact ⟨.inl ⟨rfl, rfl⟩, Upd.refl _ _⟩
  case round =>
    obtain ⟨hc, hU⟩ := hrel
    have HU := Lib.hid hU
    rcases hc with ⟨rfl, rfl⟩ | ⟨rfl, rfl⟩
    · have hv1 : SlR encA wr w.heap.size 37 4 (.slice (some ⟨lb, lo, none⟩) 1 lc) [⟨0, 3, 0, 11⟩] := S1.out.upd hU (fun _ _ h => h)
      have c0 : wr.cell? ⟨lb, lo, none⟩ = some (.int .i64 0) := by have := hv1.cell encA_len 0 _ rfl 0 _ rfl; simpa using this
      have c1 : wr.cell? ⟨lb, lo + 1, none⟩ = some (.int .i64 3) := by have := hv1.cell encA_len 0 _ rfl 1 _ rfl; simpa using this
      have c2 : wr.cell? ⟨lb, lo + 2, none⟩ = some (.int .i64 0) := by have := hv1.cell encA_len 0 _ rfl 2 _ rfl; simpa using this
      have c3 : wr.cell? ⟨lb, lo + 3, none⟩ = some (.int .i64 11) := by have := hv1.cell encA_len 0 _ rfl 3 _ rfl; simpa using this
      clear hv1 hU
      go_wp2_with fail
      go_roundw
      case rel => exact ⟨.inr ⟨rfl, by go_num⟩, by exact HU.out.alloc _⟩
      case measure => simp [intOf]
    · clear hU
      go_wp2_with fail
      go_returns
      exact ⟨rfl, U1.out.trans HU.out⟩
end Go.Proofs.Ytcgefncddbbnlaa

namespace Go.Proofs.Ytcgefncddbbnlaa
open Go.RowKit
attribute [local go_sem] max_ints min_ints

theorem infoAk : (Try.prog.info? 57).map (fun i => (i.zero, i.size, i.bytes)) = some (some (.agg #[.int .i64 0, .int .i64 0]), 2, 16) := by kernel_rfl
/-- Asks that came in. -/
def QRow (w : World) (A : Option Addr) (l : List (Int × Int)) : Prop := ∀ (i : Nat) (j : Int × Int), l[i]? = some j → ∃ b o, A = some ⟨b, o, none⟩ ∧ b < w.heap.size ∧ w.cell? ⟨b, o + i * 2, none⟩ = some (.int .i64 j.1) ∧ w.cell? ⟨b, o + i * 2 + 1, none⟩ = some (.int .i64 j.2)
theorem QRow.still {w w' : World} {A : Option Addr} {l : List (Int × Int)} (h : QRow w A l) (hu : Upd (fun _ => False) w w') : QRow w' A l := fun i j hj => by
  obtain ⟨b, o, rfl, hb, h0, h1⟩ := h i j hj
  have hc : ∀ p v, w.cell? ⟨b, p, none⟩ = some v → w'.cell? ⟨b, p, none⟩ = some v := fun p v h => (hu.cell (p := ⟨b, p, none⟩) hb (fun h => h)).trans h
  exact ⟨b, o, rfl, Nat.lt_of_lt_of_le hb hu.size, hc _ _ h0, hc _ _ h1⟩

set_option maxRecDepth 100000 in
theorem numC (w : World) (x : Int) : Calls Try.prog 10 #[.int .i64 x] w fun e w' => e = .returned (.int .i64 x) ∧ Upd (fun _ => False) w w' := by
  go_enter Try.func10, Try.ntmps10
  go_wp2_with fail
  go_returns
  exact ⟨rfl, Upd.refl _ w⟩

set_option maxRecDepth 100000 in
set_option maxHeartbeats 3200000 in
theorem asksC (w : World) (A : Option Addr) (cap : Nat) (l : List (Int × Int)) (hl : l.length ≤ 1000) (hc : QRow w A l) :
    Calls Try.prog 9 #[.slice A l.length cap] w fun e w' => ∃ v, e = .returned v ∧ SlR encQ w' w.heap.size 57 2 v l ∧ Upd (fun _ => False) w w' := by
  obtain ⟨i0, hi0, hz0, hz1, hz2⟩ := info_parts infoAk
  have HC := Lib.hid hc
  clear hc
  go_enter Try.func9, Try.ntmps9
  go_wp2_with fail
  go_loopw [3, 4] (fun v3 v4 wr => ∃ (i : Nat), i ≤ l.length ∧ v4 = .int .i64 i ∧ SlR encQ wr w.heap.size 57 2 v3 (l.take i) ∧ Upd (fun _ => False) w wr) (fun _ v4 _ => l.length - (intOf v4).toNat)
  case atStart => exact ⟨0, Nat.zero_le _, rfl, SlR.nil, Upd.refl _ w⟩
  case round =>
    obtain ⟨i, hi, rfl, hO, hU⟩ := hrel
    obtain ⟨Ao, co, rfl⟩ := hO.shape
    have O4 := Lib.hid hO; have U4 := Lib.hid hU
    have htl : (l.take i).length = i := by rw [List.length_take]; omega
    have HL := Lib.hid htl
    rw [HL.out] at O4 ⊢
    by_cases hlt : i < l.length
    · obtain ⟨j, hj⟩ : ∃ j, l[i]? = some j := ⟨_, List.getElem?_eq_getElem hlt⟩
      obtain ⟨b, o, rfl, hb, c0, c1⟩ := (HC.out.still hU) i j hj
      have HJ := Lib.hid hj
      have hsz := hU.size
      obtain ⟨x, y⟩ := j
      dsimp only at c0 c1
      have dl : decide ((i : Int) < (l.length : Int)) = true := decide_eq_true (by omega)
      have di : decide ((i : Int) < 0) = false := decide_eq_false (by omega)
      have hsz2 : w.heap.size ≤ (wr.alloc (.cells #[.int .i64 x, .int .i64 y] 57)).heap.size := Nat.le_trans hsz ((Upd.refl (fun _ => False) wr).alloc (.cells #[.int .i64 x, .int .i64 y] 57)).size
      clear hO hU hj hb htl
      go_wp2_with (
        at_builtin
        refine wpList_append_sl rfl (.tmp 11) (.tmp 16) 33 rfl w.heap.size 57 i0 _ 2 16 Try.underlying33 hi0 hz0 hz1 hz2 rfl (by decide) (.slice Ao i co) i (rws encQ (l.take i)) rfl (by have := O4.out; unfold SlR at this; rw [HL.out] at this; exact Sl.alloc this _) ⟨_, 0, none⟩ 1 [.int .i64 x, .int .i64 y] rfl rfl (fun j u hu => by rw [Ck.add_at, (Blk.new wr 57 #[.int .i64 x, .int .i64 y]).cell j]; simpa using hu) (by simp [Value.oneCell']) (by unfold maxLen; omega) (by omega) hsz2 ?_
        intro v9 wZ hs1 hu1 hv1
        obtain ⟨bz, oz, cz, hvz, _, _, _, _⟩ := hs1.form (by omega)
        subst hvz
        have NO : Hid (SlR encQ wZ w.heap.size 57 2 (.slice (some ⟨bz, oz, none⟩) (i + 1) cz) (l.take (i + 1))) := Lib.hid (by
          rw [take_succ_get HJ.out]
          unfold SlR
          rw [rws_append, List.length_append, HL.out, rws_one]
          exact hs1)
        have NU : Hid (Upd (fun _ => False) w wZ) := Lib.hid ((((U4.out.alloc _).mono (fun _ _ h => h.elim)).trans hu1).mono (fun q hq h => by have := (Sl.blk O4.out q h).1; omega))
        clear hs1 hu1 hv1)
      go_roundw
      case rel => exact ⟨i + 1, by omega, by go_num, NO.out, NU.out⟩
      case measure => simp [intOf]; omega
    · have hie : i = l.length := by omega
      subst hie
      have hO2 := O4.out
      rw [List.take_length] at hO2
      have OE := Lib.hid hO2
      clear hO hU hO2
      go_wp2_with fail
      go_returns
      exact ⟨_, rfl, OE.out, U4.out⟩

set_option maxRecDepth 100000 in
set_option maxHeartbeats 3200000 in
theorem knowsC (w : World) : Calls Try.prog 7 #[] w fun e w' => e = .returned (.bool true) ∧ Upd (fun _ => False) w w' := by
  have ua := (Upd.refl (fun _ => False) w).alloc (.cells #[.int .i64 0, .int .i64 3] 57)
  have U0 := Lib.hid ua
  have BN := Blk.new w 57 #[.int .i64 0, .int .i64 3]
  have hsl : SlR encQ (w.alloc (.cells #[.int .i64 0, .int .i64 3] 57)) 0 57 2 (.slice (some ⟨w.heap.size, 0, none⟩) 1 1) [(0, 3)] := by
    refine ⟨rfl, .inr ⟨w.heap.size, 0, 1, _, rfl, Nat.zero_le _, BN, Nat.le_refl _, by decide, by decide, fun j u hu => ?_⟩⟩
    simpa [rws, encQ] using hu
  have HR := Lib.hid (runC (w.alloc (.cells #[.int .i64 0, .int .i64 3] 57)) false 2 10 30 (.slice (some ⟨w.heap.size, 0, none⟩) 1 1) [(0, 3)] hsl (by decide))
  rw [knowsR] at HR
  clear ua BN hsl
  go_enter Try.func7, Try.ntmps7
  go_wp2_with fail
  refine HR.out.mono ?_
  rintro e w1 ⟨ov, rfl, hS, hU⟩
  have S1 := Lib.hid hS; have U1 := Lib.hid (U0.out.trans hU)
  obtain ⟨lb, lo, lc, e1, _, _, _, _⟩ := hS.form (by decide)
  subst e1
  clear hS hU HR U0
  go_wp2_with fail
  refine (numC w1 0).mono ?_
  rintro e w2 ⟨rfl, hU⟩
  have S2 := Lib.hid (S1.out.upd hU (fun _ _ h => h)); have U2 := Lib.hid (U1.out.trans hU)
  clear hU S1 U1
  have c0 : w2.cell? ⟨lb, lo, none⟩ = some (.int .i64 0) := by have := S2.out.cell encA_len 0 _ rfl 0 _ rfl; simpa using this
  have c1 : w2.cell? ⟨lb, lo + 1, none⟩ = some (.int .i64 3) := by have := S2.out.cell encA_len 0 _ rfl 1 _ rfl; simpa using this
  have c2 : w2.cell? ⟨lb, lo + 2, none⟩ = some (.int .i64 0) := by have := S2.out.cell encA_len 0 _ rfl 2 _ rfl; simpa using this
  have c3 : w2.cell? ⟨lb, lo + 3, none⟩ = some (.int .i64 11) := by have := S2.out.cell encA_len 0 _ rfl 3 _ rfl; simpa using this
  go_wp2_with fail
  refine (usedK w2 _ _ S2.out).mono ?_
  rintro e w3 ⟨rfl, hU⟩
  have U3 := Lib.hid (U2.out.trans hU)
  clear hU
  go_wp2_with fail
  go_returns
  exact ⟨rfl, U3.out⟩
end Go.Proofs.Ytcgefncddbbnlaa
