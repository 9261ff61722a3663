/-
  The wheel: the slots whose turn has come (an iterator).
-/
import Derived.RangeFuncBox
import Derived.RangeFuncLeaves
import Derived.RangeFuncFrom
import Derived.Shelf.Abstract
import Derived.OwnWalkIn
import Derived.TacticsInMore
import Derived.LoopNIn
import Derived.LoopIn
import Derived.Test.YtcljgejalacccaaWhG
import Derived.Test.YtcljgejalacccaaWhQ
namespace Go.Proofs.Ytcljgejalacccaa
open Go.RowKit Go.Shelf
attribute [local go_sem] max_ints min_ints
attribute [local go_sem] Oper.semAt_some

theorem wpListIn_append_sl {F : Fence} {nF : Nat} {P : Program} (w : World) {ops : Array Oper} {rest : List Oper} {o : Oper} {a : Act} {Q : Exit → Act → World → Prop} (hgd : o.guard = none) (s x : Operand) (ts : TypeId)
    (ho : o.op = .call { callee := .builtin .append, args := #[s, x], argTypes := #[ts, ts] })
    (base : Nat) (e : TypeId) (i : TypeInfo) (z : Value) (size bytes : Nat) (ht : P.underlying ts = some (.slice e)) (hi : P.info? e = some i) (hz : i.zero = some z)
    (hsize : i.size = size) (hby : i.bytes = bytes) (hzs : z.cells.size = size) (hsz : 0 < size)
    (v : Value) (n : Nat) (xs : List Value) (hs : a.eval s = v) (hown : Sl w base e size v n xs)
    (ad : Addr) (c : Nat) (news : List Value) (hx : a.eval x = .slice (some ad) 1 c) (hl : news.length = 1 * size) (hnews : ∀ j u, news[j]? = some u → w.cell? (ad.add j) = some u) (h1 : ∀ u ∈ news, u.oneCell' = true)
    (h63 : n + 1 ≤ maxLen) (hbytes : (n + 1) * bytes ≤ 140737488355328) (hbase : base ≤ w.heap.size)
    (h : ∀ v' w', Sl w' base e size v' (n + 1) (xs ++ news) → Upd (fun k => slBlk v = some k) w w' → (∀ k, slBlk v' = some k → slBlk v = some k ∨ w.heap.size ≤ k) → wpListIn F nF P ops Q rest (a.put o.dst v') w') : wpListIn F nF P ops Q (o :: rest) a w := by
  refine wpListIn_plain hgd fun K hK => ?_
  obtain ⟨v', w', hrun, r1, r2, r3⟩ := run_append_sl (P := P) w base ts o.type e i z size bytes ht hi hz hsize hby hzs hsz v n xs hown ad c news hl hnews h1 h63 hbytes hbase
  unfold Oper.wpIn
  refine ⟨by simp [Oper.about, ho, resolve, Target.leads, Sem.run_pure], ?_⟩
  rw [Oper.semAt_plain F _ _ (by rw [ho]; intro c hc'; cases hc')]
  simp [execOp, ho, resolve, invoke, builtin, hs, hx, hrun, Result.andThen]
  exact hK _ _ (h v' w' r1 r2 r3)

set_option maxHeartbeats 400000 in
theorem turnedC (w : World) (g : Nat) :
    Calls Try.prog 28 #[.pointer (some ⟨g, 0, none⟩)] w fun e w' => e = .returned (.func (.func 31) #[] #[.pointer (some ⟨w.heap.size, 0, none⟩)]) ∧ w' = w.alloc (.cells #[.pointer (some ⟨g, 0, none⟩)] 24) := by
  have hmf : ∀ (fn : Fn) (first cap : Array Value) (w : World), (Instr.makeFunc fn first cap).run Try.prog w = .ok (.func fn first cap) w := fun _ _ _ _ => rfl
  go_enter Try.func28, Try.ntmps28
  go_wp2_with fail
  go_returns
  exact ⟨rfl, rfl⟩

theorem Upd.grownBy {w w' : World} (h : Upd (fun _ => False) w w') : w.grownBy w' none := ⟨h.os, h.tape, h.output, h.size, fun k hk _ => h.block k hk (fun h => h)⟩
/-- What a round keeps. -/
def TurnF (g bB b : Nat) (W : World) : Prop := W.cell? ⟨bB, 0, none⟩ = some (.pointer (some ⟨g, 0, none⟩)) ∧ W.cell? ⟨g, 0, none⟩ = some (.int .i64 (b : Int))
def TurnK (g bB b : Nat) (A B : World) : Prop := TurnF g bB b A → TurnF g bB b B
theorem TurnK.t {g bB b : Nat} {A B C : World} (h : TurnK g bB b A B) (k : TurnK g bB b B C) : TurnK g bB b A C := fun x => k (h x)
theorem cell_put {W : World} {l x : Nat} {o o' : Obj} {v : Value} (h1 : W.heap[l]? = some o) (h2 : o.isCells = false) (hc : W.cell? ⟨x, 0, none⟩ = some v) : (W.putObj l o').cell? ⟨x, 0, none⟩ = some v :=
  cell_kept hc (grownBy_putObj' W l o') (fun r e => by cases e; exact ⟨o, h1, h2⟩)
theorem TurnK.b {g bB b : Nat} (W : World) (l : Nat) (o o' : Obj) (h1 : W.heap[l]? = some o) (h2 : o.isCells = false) : TurnK g bB b W (W.putObj l o') := fun h => ⟨cell_put h1 h2 h.1, cell_put h1 h2 h.2⟩
abbrev Lv := { L : Nat // L ≤ 15 }
def encL (b : Nat) (x : Lv) : Array Value := #[.int .i64 (x.1 : Int), .int .i64 (dig b x.1 : Int)]
def downS (h : Nat) (hh : h ≤ 15) : Nat → List Lv
  | 0 => []
  | k + 1 => downS h hh k ++ [⟨h - k, by omega⟩]
theorem downS_map (h : Nat) (hh : h ≤ 15) : ∀ k, (downS h hh k).map (·.1) = downT h k
  | 0 => rfl
  | k + 1 => by simp [downS, downT, downS_map h hh k]
theorem downS_len (h : Nat) (hh : h ≤ 15) (k : Nat) : (downS h hh k).length = k := by rw [← List.length_map (f := (·.1)), downS_map, downT_len]

set_option maxRecDepth 100000 in
set_option maxHeartbeats 2000000 in
theorem turnIt (n : Nat) (hn : 1 ≤ n) (w : World) (g bB b : Nat) (_ : b ≤ 4611686018427387904) (hF : TurnF g bB b w) (hlt : bB < w.heap.size) (hg : g < w.heap.size) :
    SeqStopsK Fence.wide n Try.prog 31 #[.pointer (some ⟨bB, 0, none⟩)] (encL b) (TurnK g bB b) (fun ys => ys = downS (hi b) (hi_le b) (hi b + 1)) (fun _ => True) (hi b + 1) w := fun l J Jx W hW hJ hJx hY h0 => by
  have hFW : TurnF g bB b W := ⟨(hW.cell (p := ⟨bB, 0, none⟩) hlt).trans hF.1, (hW.cell (p := ⟨g, 0, none⟩) hg).trans hF.2⟩
  have hh := hi_le b
  have HF := Lib.hid hFW
  have HY := Lib.hid hY; have HJ := Lib.hid hJ; have H00 := Lib.hid h0
  have x1 := hFW.1; have x2 := hFW.2
  clear hFW hW hY hJ hJx h0 hF hlt hg
  refine callsIn_of_wp Try.func31 rfl trivial ?_ rfl
  simp only [Try.ntmps31, List.size_toArray, List.length_cons, List.length_nil, Nat.reduceAdd, Nat.reduceSub, Array.replicate_succ, Array.replicate_zero, List.push_toArray, List.append_toArray, List.nil_append, List.cons_append]
  gi_wp2_with fail
  gi_loopw [3] (fun vi wr => ∃ k q : Nat, k ≤ hi b ∧ vi = .int .i64 k ∧ wr = W.drewN q) (fun vi _ => 15 - (intOf vi).toNat)
  case atStart => exact ⟨0, 0, Nat.zero_le _, rfl, rfl⟩
  case round =>
    obtain ⟨k, q, hk, rfl, rfl⟩ := hrel
    have y1 : (W.drewN q).cell? ⟨bB, 0, none⟩ = _ := x1
    have y2 : (W.drewN q).cell? ⟨g, 0, none⟩ = _ := x2
    by_cases hlt : k < hi b
    · have d0 : decide ((k : Int) < 15) = true := decide_eq_true (by omega)
      have dz : bits BinOp.and IntKind.i64 ((b : Int) / 2 ^ (4 * k)) 15 = 0 := by rw [and_dig, hi_below b k hlt]; rfl
      have dz1 : (bits BinOp.and IntKind.i64 ((b : Int) / 2 ^ (4 * k)) 15 == 0) = true := by rw [dz]; rfl
      have dz2 : decide (bits BinOp.and IntKind.i64 ((b : Int) / 2 ^ (4 * k)) 15 = 0) = true := decide_eq_true dz
      have hk15 : k ≤ 15 := by omega
      clear dz
      gi_wp2_with fail
      go_roundw
      case rel => exact ⟨k + 1, _, by omega, by go_num, rfl⟩
      case measure => simp [intOf]; omega
    · have hke : k = hi b := by omega
      have HKE := Lib.hid hke
      have hk15 : k ≤ 15 := by omega
      have key : ∀ (P : Prop), (decide ((k : Int) < 15) = false → P) → ((decide ((k : Int) < 15) = true ∧ (bits BinOp.and IntKind.i64 ((b : Int) / 2 ^ (4 * k)) 15 == 0) = false) → P) → P := fun P h1 h2 => by
        by_cases h : k < 15
        · refine h2 ⟨decide_eq_true (by omega), ?_⟩
          rw [and_dig]
          have := hi_at b (by omega)
          rw [← hke] at this
          exact beq_eq_false_iff_ne.2 (by omega)
        · exact h1 (decide_eq_false (by omega))
      clear hke hlt hk
      refine key _ (fun d0 => ?_) (fun ⟨d0, d1⟩ => ?_)
      all_goals
        clear key
        gi_wp2_with fail
        rw [HKE.out]
        gi_loopw [4] (fun vi wr => ∃ k : Nat, k ≤ hi b + 1 ∧ vi = .int .i64 ((hi b : Int) - k) ∧ J (downS (hi b) (hi_le b) k) wr ∧ TurnK g bB b W wr) (fun vi _ => (intOf vi + 1).toNat)
        case atStart => exact ⟨0, Nat.zero_le _, by simp, HJ.out _ _ _ none H00.out (((Upd.refl _ W).drewN q).grownBy) (fun r e => by cases e), fun h => h⟩
        case round =>
          obtain ⟨j, hj, rfl, hJs, hKp⟩ := hrel
          have z := hKp HF.out
          have z1 := z.1; have z2 := z.2
          have HJs := Lib.hid hJs; have HKp := Lib.hid hKp
          clear hJs hKp z
          by_cases hjl : j ≤ hi b
          · obtain ⟨L, hL⟩ : ∃ L : Nat, hi b = L + j := ⟨hi b - j, by omega⟩
            have hLz : ((hi b : Int) - j) = (L : Int) := by omega
            have hL15 : L ≤ 15 := by omega
            have dg : decide ((0 : Int) ≤ (L : Int)) = true := decide_eq_true (by omega)
            obtain ⟨fn, tmps, assign, body, hy, hR⟩ := HY.out _ (⟨L, hL15⟩ : Lv) wr HJs.out (by rw [downS_len]; omega)
            dsimp only [encL] at hy
            rw [← and_dig] at hy
            have HL := Lib.hid hL
            rw [hLz]
            clear hL hLz
            gi_wp2_with fail
            refine hR.mono ?_
            rintro e W3 (⟨rfl, hJ3, hk3⟩ | ⟨rfl, hJx3⟩)
            · have J3 : Hid (J (downS (hi b) (hi_le b) (j + 1)) W3) := Lib.hid (by
                have : downS (hi b) (hi_le b) (j + 1) = downS (hi b) (hi_le b) j ++ [⟨L, hL15⟩] := by
                  show downS (hi b) (hi_le b) j ++ [⟨hi b - j, _⟩] = _
                  congr 2
                  exact Subtype.ext (by have := HL.out; show hi b - j = L; omega)
                rw [this]; exact hJ3)
              have K3 := Lib.hid (HKp.out.t hk3)
              clear hJ3 hk3
              gi_wp2_with fail
              go_roundw
              case rel => exact ⟨j + 1, by omega, by have := HL.out; simp; omega, J3.out, K3.out⟩
              case measure => simp [intOf]
            · have J3 := Lib.hid hJx3
              clear hJx3
              gi_wp2_with fail
              refine bodyPost_ret (results_none rfl _ _ _) rfl ?_
              exact ⟨⟨_, rfl⟩, .inr ⟨_, trivial, J3.out⟩⟩
          · have hje : j = hi b + 1 := by omega
            have hLz : ((hi b : Int) - j) = -1 := by omega
            have HE := Lib.hid hje
            rw [hLz]
            clear hje hLz hjl
            gi_wp2_with fail
            go_end0
            have := HJs.out
            rw [HE.out] at this
            exact ⟨⟨_, rfl⟩, .inl ⟨_, rfl, this⟩⟩
end Go.Proofs.Ytcljgejalacccaa
