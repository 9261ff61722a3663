/-
  The answers of all beginnings in a frame: an iterator.
-/
import Derived.RangeFuncBox
import Derived.RangeFuncLeaves
import Derived.Shelf.Abstract
import Derived.OwnWalkIn
import Derived.TacticsInMore
import Derived.LoopNIn
import Derived.LoopIn
import Derived.Test.YtnfajehocljbnaaLatA
namespace Go.Proofs.Ytnfajehocljbnaa
open Go.RowKit Go.Shelf
attribute [local go_sem] max_ints min_ints
attribute [local go_sem] Oper.semAt_some

def upA (M : Int) (ws : List W3) (p : Int) (F m k : Nat) : List (Int × Int) := (List.range k).map (fun f : Nat => ((f : Int), (doneN M ws p F f m : Int)))
theorem upA_succ (M : Int) (ws : List W3) (p : Int) (F m k : Nat) : upA M ws p F m (k + 1) = upA M ws p F m k ++ [((k : Int), (doneN M ws p F k m : Int))] := by simp [upA, List.range_succ]
theorem upA_len (M : Int) (ws : List W3) (p : Int) (F m k : Nat) : (upA M ws p F m k).length = k := by simp [upA]
/-- What a round may turn: the loop's own boxes, and whatever is new. -/
def KpA (lo hi nW : Nat) (A B : World) : Prop := Upd (fun k => (lo ≤ k ∧ k < hi) ∨ nW ≤ k) A B
theorem KpA.t {lo hi nW : Nat} {A B C : World} (h : KpA lo hi nW A B) (k : KpA lo hi nW B C) : KpA lo hi nW A C := Upd.trans h k
theorem KpA.b {lo hi nW : Nat} (W : World) (l : Nat) (o o' : Obj) (hl : nW ≤ l) (_ : W.heap[l]? = some o) (_ : o.isCells = false) (_ : o.isWalk = false) : KpA lo hi nW W (W.putObj l o') := by
  have g := grownBy_putObj' W l o'
  exact ⟨g.os, g.tape, g.output, g.size, fun k hk hn => g.block k hk (fun e => hn (.inr (by injection e with e; omega)))⟩
theorem Upd.grownBy {w w' : World} (h : Upd (fun _ => False) w w') : w.grownBy w' none := ⟨h.os, h.tape, h.output, h.size, fun k hk _ => h.block k hk (fun h => h)⟩

set_option maxRecDepth 100000 in
set_option maxHeartbeats 2000000 in
theorem ansIt (n : Nat) (hn : 1 ≤ n) (w0 w : World) (base g F : Nat) (M : Int) (ws : List W3) (h : TabS w0 base g F M ws) (p work o : Int) (ho : cntO M ws p F = o) (m : Nat) (hm : min (max work 0) 1048576 = (m : Int))
    (lo hi b1 b2 b3 : Nat) (hlo : w0.heap.size ≤ lo) (hw0 : Upd (fun _ => False) w0 w) (hb1 : hi ≤ b1 ∧ b1 < w.heap.size) (hb2 : hi ≤ b2 ∧ b2 < w.heap.size) (hb3 : hi ≤ b3 ∧ b3 < w.heap.size)
    (c1 : w.cell? ⟨b1, 0, none⟩ = some (.pointer (some ⟨g, 0, none⟩))) (c2 : w.cell? ⟨b2, 0, none⟩ = some (.int .i64 p)) (c3 : w.cell? ⟨b3, 0, none⟩ = some (.int .i64 work)) :
    SeqStopsK Fence.wide n Try.prog 53 #[.pointer (some ⟨b1, 0, none⟩), .pointer (some ⟨b2, 0, none⟩), .pointer (some ⟨b3, 0, none⟩)] (fun x : Int × Int => #[Value.int .i64 x.1, Value.int .i64 x.2]) (KpA lo hi w.heap.size)
      (fun ys => ys = if o = 0 then [] else upA M ws p F m F) (fun pre => ∃ k, k ≤ F ∧ pre = upA M ws p F m k) F w := fun l J Jx W hW hJ hJx hY h0 => by
  have hr := h.right
  have hF1 : 1 ≤ F := hr.1
  have hF2 : F ≤ 256 := hr.2.1
  have H := Lib.hid h; have HO := Lib.hid ho; have HM := Lib.hid hm
  have hm2 : (m : Int) ≤ 1048576 := by omega
  have hWu : Upd (fun _ => False) w W := (Upd.of_below hW).mono (fun k hk h => by omega)
  have T : ∀ V, KpA lo hi w.heap.size W V → TabS V base g F M ws := fun V hV => H.out.still ((((hw0.trans hWu).mono (S' := fun k => w0.heap.size ≤ k) (fun _ _ h => h.elim)).trans (hV.mono (fun k _ h => by have := hw0.size; omega))).mono (fun k hk h => by omega))
  have C : ∀ V b v, KpA lo hi w.heap.size W V → hi ≤ b → b < w.heap.size → w.cell? ⟨b, 0, none⟩ = some v → V.cell? ⟨b, 0, none⟩ = some v := fun V b v hV h1 h2 hc => (hV.cell (p := ⟨b, 0, none⟩) (Nat.lt_of_lt_of_le h2 hWu.size) (fun h => by simp only at h; omega)).trans ((hWu.cell (p := ⟨b, 0, none⟩) h2 (fun h => h)).trans hc)
  have HT := Lib.hid T; have HC := Lib.hid C; have HW := Lib.hid hW; have HY := Lib.hid hY; have HJ := Lib.hid hJ; have H00 := Lib.hid h0
  have C1 := Lib.hid c1; have C2 := Lib.hid c2; have C3 := Lib.hid c3
  have x1 := C W b1 _ (Upd.refl _ W) hb1.1 hb1.2 c1
  clear h hr ho hm hWu T C hW hY hJ h0 c1 c2 c3 hJx
  refine callsIn_of_wp Try.func53 rfl trivial ?_ rfl
  simp only [Try.ntmps53, List.size_toArray, List.length_cons, List.length_nil, Nat.reduceAdd, Nat.reduceSub, Array.replicate_succ, Array.replicate_zero, List.push_toArray, List.append_toArray, List.nil_append, List.cons_append]
  gi_wp2_with fail
  refine ⟨trivial, (callsIn_wide.2 (frameT _ base g F M ws (HT.out _ (Upd.refl _ W)))).mono ?_⟩
  rintro e w1 ⟨rfl, k1, rfl⟩
  gi_wp2_with fail
  gi_loopw [10] (fun vi wr => ∃ k : Nat, k ≤ F ∧ (o = 0 → k = 0) ∧ vi = .int .i64 k ∧ J (upA M ws p F m k) wr ∧ KpA lo hi w.heap.size W wr) (fun vi _ => F - (intOf vi).toNat)
  case atStart => exact ⟨0, Nat.zero_le _, (fun _ => rfl), rfl, HJ.out _ _ _ none H00.out (((Upd.refl _ W).drewN k1).grownBy) (fun r e => by cases e), (Upd.refl _ W).drewN k1⟩
  case round =>
    obtain ⟨k, hk, hk0, rfl, hJs, hKp⟩ := hrel
    have HJs := Lib.hid hJs; have HKp := Lib.hid hKp
    have y1 := HC.out wr b1 _ hKp hb1.1 hb1.2 C1.out
    have y2 := HC.out wr b2 _ hKp hb2.1 hb2.2 C2.out
    have y3 := HC.out wr b3 _ hKp hb3.1 hb3.2 C3.out
    have T1 := Lib.hid (HT.out wr hKp)
    clear hJs hKp
    by_cases hlt : k < F
    · obtain ⟨d, hd⟩ : ∃ d, doneN M ws p F k m = d := ⟨_, rfl⟩
      have hfk : min (max (k : Int) 0) 1152921504606846976 = (k : Int) := by omega
      have hDC := doneL wr base g F M ws T1.out p k work o HO.out k hfk m HM.out
      rw [hd] at hDC
      have HDC := Lib.hid hDC
      have HD := Lib.hid hd
      clear hDC hd
      gi_wp2_with fail
      refine ⟨trivial, (callsIn_wide.2 HDC.out).mono ?_⟩
      rintro e w2 ⟨rfl, hU⟩
      have J2 : Hid (J (upA M ws p F m k) w2) := Lib.hid (HJ.out _ _ _ none HJs.out hU.grownBy (fun r e => by cases e))
      have K2 : Hid (KpA lo hi w.heap.size W w2) := Lib.hid (HKp.out.t (hU.mono (fun _ _ h => h.elim)))
      clear hU
      by_cases h0 : o = 0
      · have hkz := hk0 h0
        subst h0
        gi_wp2_with fail
        refine ⟨fun _ h => (by cases h), ?_⟩
        gi_wp2_with fail
        refine bodyPost_ret (results_none rfl _ _ _) rfl ?_
        exact ⟨⟨_, rfl⟩, .inl (by have := J2.out; rw [hkz] at this; exact this)⟩
      · have d0 : decide (0 < o) = true := decide_eq_true (by have := cntO_le M ws p F; rw [HO.out] at this; omega)
        have hdl := doneN_le (M := M) (ws := ws) (p := p) hF1 (by rw [HO.out]; exact of_decide_eq_true d0) k m
        rw [HD.out] at hdl
        have hdl2 : d ≤ 1048576 * 256 := Nat.le_trans hdl (Nat.mul_le_mul (by omega) hF2)
        have hw : IntKind.i64.wrap ((k : Int) + d - k) = (d : Int) := by rw [wrap_in _ (by omega) (by omega)]; omega
        have hw' : wrap64 ((k : Int) + d - k) = (d : Int) := by rw [wrap64_in _ (by omega) (by omega)]; omega
        obtain ⟨fn, tmps, assign, body, hy, hR⟩ := HY.out _ ((k : Int), (d : Int)) w2 J2.out (by rw [upA_len]; exact hlt)
        dsimp only at hy
        rw [if_neg h0, d0]
        gi_wp2_with fail
        refine hR.mono ?_
        rintro e W3 (⟨rfl, hJ3, hk3⟩ | ⟨rfl, hJx3⟩)
        · have J3 : Hid (J (upA M ws p F m (k + 1)) W3) := Lib.hid (by rw [upA_succ, HD.out]; exact hJ3)
          have K3 := Lib.hid (K2.out.t hk3)
          clear hJ3 hk3
          gi_wp2_with fail
          go_roundw
          case rel => exact ⟨k + 1, by omega, (fun h => absurd h h0), by go_num, J3.out, K3.out⟩
          case measure => simp [intOf]; omega
        · have J3 : Hid (Jx (upA M ws p F m (k + 1)) W3) := Lib.hid (by rw [upA_succ, HD.out]; exact hJx3)
          clear hJx3
          gi_wp2_with fail
          refine bodyPost_ret (results_none rfl _ _ _) rfl ?_
          exact ⟨⟨_, rfl⟩, .inr ⟨_, ⟨k + 1, by omega, rfl⟩, J3.out⟩⟩
    · have hke : k = F := by omega
      subst hke
      have ho0 : o ≠ 0 := fun h => by have := hk0 h; omega
      gi_wp2_with fail
      go_end0
      exact ⟨⟨_, rfl⟩, .inl HJs.out⟩

set_option maxHeartbeats 400000 in
theorem answersP (w : World) (g : Nat) (p work : Int) :
    Calls Try.prog 43 #[.pointer (some ⟨g, 0, none⟩), .int .i64 p, .int .i64 work] w fun e w' => e = .returned (.func (.func 53) #[] #[.pointer (some ⟨w.heap.size, 0, none⟩), .pointer (some ⟨w.heap.size + 1, 0, none⟩), .pointer (some ⟨w.heap.size + 1 + 1, 0, none⟩)]) ∧
      w' = ((w.alloc (.cells #[.pointer (some ⟨g, 0, none⟩)] 25)).alloc (.cells #[.int .i64 p] 3)).alloc (.cells #[.int .i64 work] 3) := by
  have hmf : ∀ (fn : Fn) (first cap : Array Value) (w : World), (Instr.makeFunc fn first cap).run Try.prog w = .ok (.func fn first cap) w := fun _ _ _ _ => rfl
  go_enter Try.func43, Try.ntmps43
  go_wp2_with fail
  go_returns
  exact ⟨rfl, rfl⟩
end Go.Proofs.Ytnfajehocljbnaa
