/-
  The walks of the ledger's reference: New, Charge, Count.
-/
import Derived.Test.YtfpigcjhonfcjaaLedgerO
namespace Go.Proofs.Ytfpigcjhonfcjaa
open Go.RowKit
attribute [local go_sem] max_ints min_ints

/-- A row that the call owns stays owned while other blocks are written. -/
theorem own_upd {w w' : World} {S : Nat → Prop} {base n size : Nat} {e : TypeId} {v : Value} {xs : List Value} (h : w.ownsRow base e size v n xs) (hu : Upd S w w') (hS : ∀ k, v.ownBlock = some k → ¬ S k) : w'.ownsRow base e size v n xs := by
  refine ⟨h.1, ?_⟩
  rcases h.2 with h2 | ⟨g, cap, cur, hv, hg, hh, r⟩
  · exact .inl h2
  · refine .inr ⟨g, cap, cur, hv, hg, ?_, r⟩
    have hlt : g < w.heap.size := by
      rcases Nat.lt_or_ge g w.heap.size with hlt | hge
      · exact hlt
      · rw [Array.getElem?_eq_none hge] at hh; cases hh
    rw [hu.block g hlt (hS g (by subst hv; rfl))]
    exact hh
theorem own_ne {w : World} {base n size g : Nat} {e t : TypeId} {v : Value} {xs : List Value} {cs : Array Value} (h : w.ownsRow base e size v n xs) (hg : Blk w g t cs) (hne : e ≠ t) : v.ownBlock ≠ some g := by
  rcases h.2 with ⟨rfl, _⟩ | ⟨g', cap, cur, rfl, _, hh, _⟩
  · simp [Value.ownBlock]
  · intro he
    have : g' = g := by simpa [Value.ownBlock] using he
    subst this
    exact Blk.ne_ (t := e) hh hg hne rfl
theorem own_ge {w : World} {base n size k : Nat} {e : TypeId} {v : Value} {xs : List Value} (h : w.ownsRow base e size v n xs) (hk : v.ownBlock = some k) : base ≤ k := by
  rcases h.2 with ⟨rfl, _⟩ | ⟨g', cap, cur, rfl, hg, _⟩
  · simp [Value.ownBlock] at hk
  · have : g' = k := by simpa [Value.ownBlock] using hk
    omega

abbrev Chg := Int × Int × Int
def oneCells : List Chg → List Value
  | [] => []
  | c :: l => .int .i64 c.1 :: .int .i64 c.2.1 :: .int .i64 c.2.2 :: oneCells l
theorem oneCells_snoc (l : List Chg) (c : Chg) : oneCells (l ++ [c]) = oneCells l ++ [.int .i64 c.1, .int .i64 c.2.1, .int .i64 c.2.2] := by
  induction l with
  | nil => rfl
  | cons d l ih => simp [oneCells, ih]
theorem oneCells_length (l : List Chg) : (oneCells l).length = l.length * 3 := by
  induction l with
  | nil => rfl
  | cons d l ih => simp [oneCells, ih]; omega
theorem oneCells_at (l : List Chg) (i : Nat) (c : Chg) (h : l[i]? = some c) : (oneCells l)[i * 3]? = some (.int .i64 c.1) ∧ (oneCells l)[i * 3 + 1]? = some (.int .i64 c.2.1) ∧ (oneCells l)[i * 3 + 2]? = some (.int .i64 c.2.2) := by
  induction l generalizing i with
  | nil => simp at h
  | cons d l ih =>
    cases i with
    | zero => simp at h; subst h; simp [oneCells]
    | succ i =>
      have := ih i (by simpa using h)
      rw [show (i + 1) * 3 = i * 3 + 3 from by omega, show i * 3 + 3 + 1 = i * 3 + 1 + 3 from by omega, show i * 3 + 3 + 2 = i * 3 + 2 + 3 from by omega]
      simpa [oneCells] using this

/-- A reference's ledger at block r: the charges l. -/
def RLed (w : World) (base r : Nat) (m : Nat) (l : List Chg) : Prop := ∃ v, Blk w r 84 #[.int .i64 m, v] ∧ w.ownsRow base 80 3 v l.length (oneCells l)
theorem RLed.drewN {w : World} {base r m : Nat} {l : List Chg} (h : RLed w base r m l) (k : Nat) : RLed (w.drewN k) base r m l := h
theorem RLed.upd {w w' : World} {S : Nat → Prop} {base r m : Nat} {l : List Chg} (h : RLed w base r m l) (hu : Upd S w w') (hr : ¬ S r) (hS : ∀ k, S k → ∃ cs, Blk w k 91 cs) : RLed w' base r m l := by
  obtain ⟨v, hb, ho⟩ := h
  refine ⟨v, hb.upd hu hr, own_upd ho hu (fun k hk hs => ?_)⟩
  obtain ⟨cs, hc⟩ := hS k hs
  exact own_ne ho hc (by decide) hk

theorem blk_grown {w w' : World} {g : Nat} {t : TypeId} {cs : Array Value} {row : Option Nat} (h : Blk w g t cs) (hg : w.grownBy w' row) (hne : row ≠ some g) : Blk w' g t cs :=
  (hg.block g h.lt (fun e => hne e.symm)).trans h
theorem own_form {w : World} {base n size : Nat} {e : TypeId} {v : Value} {xs : List Value} (h : w.ownsRow base e size v n xs) (hn : 0 < n) : ∃ g cap, v = .slice (some ⟨g, 0, none⟩) n cap ∧ base ≤ g ∧ g < w.heap.size := by
  rcases h.2 with ⟨_, h0⟩ | ⟨g, cap, cur, hv, hg, hh, _⟩
  · omega
  · exact ⟨g, cap, hv, hg, Blk.lt (t := e) hh⟩

/-- The cells of a new block. -/
theorem new_cells (w : World) (t : TypeId) (cs : List Value) : ∀ j u, cs[j]? = some u → (w.alloc (.cells cs.toArray t)).cell? ((⟨w.heap.size, 0, none⟩ : Addr).add j) = some u := by
  intro j u h
  have e : (⟨w.heap.size, 0, none⟩ : Addr).add j = ⟨w.heap.size, j, none⟩ := by unfold Addr.add; split <;> simp_all
  rw [e, (Blk.new w t cs.toArray).cell j]
  simpa using h

theorem infoOne : (Try.prog.info? 80).map (fun i => (i.zero, i.size, i.bytes)) = some (some (.agg #[.int .i64 0, .int .i64 0, .int .i64 0]), 3, 24) := by kernel_rfl

set_option maxRecDepth 100000 in
set_option maxHeartbeats 400000 in
theorem newRL (w : World) (base : Nat) (hb : base ≤ w.heap.size) (parts : Int) (m : Nat) (hm : min (max parts 0) 6 = m) :
    Calls Try.prog 47 #[.int .i64 parts] w fun e w' => ∃ r, e = .returned (.pointer (some ⟨r, 0, none⟩)) ∧ w.heap.size ≤ r ∧ RLed w' base r m [] ∧ Below w.heap.size w w' := by
  go_enter Try.func47, Try.ntmps47
  go_wp2
  go_ret
  exact ⟨_, rfl, Nat.le_refl _, ⟨_, Blk.new w _ _, rfl, .inl ⟨rfl, rfl⟩⟩, (Below.refl _ _).alloc (Nat.le_refl _) _⟩

set_option maxRecDepth 100000 in
set_option maxHeartbeats 800000 in
theorem chargeR_gap (w : World) (base r m : Nat) (l : List Chg) (h : RLed w base r m l) (hbase : base ≤ w.heap.size) (hl : l.length ≤ 1000) (p q : Int) :
    Calls Try.prog 50 #[.pointer (some ⟨r, 0, none⟩), .int .i64 4, .int .i64 p, .int .i64 q] w fun e w' => e = .returned (.int .i64 0) ∧
      RLed w' base r m (l ++ [(4, -1, -1)]) ∧ Upd (fun k => k = r ∨ base ≤ k) w w' := by
  obtain ⟨v, hb, ho⟩ := h
  obtain ⟨i0, hi, hz0, hz1, hz2⟩ := info_parts infoOne
  have c1 := hb.cell 1
  have f1 := hb.frozen 1
  simp at c1
  have HB := Lib.hid hb; clear hb
  have HO := Lib.hid ho; clear ho
  go_enter Try.func50, Try.ntmps50
  go_wp2_with (
    at_builtin
    refine wpList_append_own _ rfl (.tmp 21) (.tmp 23) 73 rfl base 80 i0 _ 3 24 Try.underlying73 hi hz0 hz1 hz2 rfl (by decide) v l.length (oneCells l) rfl (HO.out.alloc _) ⟨w.heap.size, 0, none⟩ 1 1 [.int .i64 4, .int .i64 (-1), .int .i64 (-1)] rfl rfl (new_cells w _ _) (by simp [Value.oneCell']) (by unfold maxLen; omega) (by omega) (by simp; omega) ?_
    intro v' w1 hown' hgrow hnil
    clear hnil
    obtain ⟨gv, cv, rfl, hgv, _⟩ := own_form hown' (by omega)
    have hbr := blk_grown (HB.out.alloc _) hgrow (own_ne HO.out HB.out (by decide))
    have c1' := hbr.cell 1
    have f1' := hbr.frozen 1
    simp at c1'
    have HBR := Lib.hid hbr; clear hbr
    have HOWN := Lib.hid hown'; clear hown'
    have HGR := Lib.hid hgrow; clear hgrow)
  go_ret
  refine ⟨rfl, ⟨.slice (some ⟨gv, 0, none⟩) (l.length + 1) cv, ?_, ?_⟩, ?_⟩
  · have := HBR.out.set_ 1 (.slice (some ⟨gv, 0, none⟩) (l.length + 1) cv)
    simpa using this
  · have h1 := own_upd HOWN.out ((Upd.refl (fun k => k = r) w1).setCell (p := ⟨r, 1, none⟩) (fun _ => rfl) (.slice (some ⟨gv, 0, none⟩) (l.length + 1) cv)) (fun k hk e => by subst e; exact own_ne HOWN.out HBR.out (by decide) hk)
    rw [oneCells_snoc, List.length_append]
    exact h1
  · exact (((Upd.refl (fun k => k = r ∨ base ≤ k) w).alloc _).grown HGR.out (fun k hk _ => .inr (own_ge HO.out hk))).setCell (fun _ => .inl rfl) _

set_option maxRecDepth 100000 in
set_option maxHeartbeats 1600000 in
theorem chargeR_one (w : World) (base r m : Nat) (l : List Chg) (h : RLed w base r m l) (hbase : base ≤ w.heap.size) (hl : l.length ≤ 1000) (kind p q : Int) (hk : kind = 0 ∨ kind = 2 ∨ kind = 3) (hp0 : 0 ≤ p) (hp1 : p < m) :
    Calls Try.prog 50 #[.pointer (some ⟨r, 0, none⟩), .int .i64 kind, .int .i64 p, .int .i64 q] w fun e w' => e = .returned (.int .i64 0) ∧
      RLed w' base r m (l ++ [(kind, p, -1)]) ∧ Upd (fun k => k = r ∨ base ≤ k) w w' := by
  obtain ⟨v, hb, ho⟩ := h
  obtain ⟨i0, hi, hz0, hz1, hz2⟩ := info_parts infoOne
  have c0 := hb.cell 0
  have c1 := hb.cell 1
  simp at c0 c1
  have HB := Lib.hid hb; clear hb
  have HO := Lib.hid ho; clear ho
  have e0 : decide (p < 0) = false := decide_eq_false (by omega)
  have e1 : decide ((m : Int) ≤ p) = false := decide_eq_false (by omega)
  rcases hk with rfl | rfl | rfl
  all_goals
    go_enter Try.func50, Try.ntmps50
    go_wp2_with (
      at_builtin
      refine wpList_append_own _ rfl (.tmp 64) (.tmp 69) 73 rfl base 80 i0 _ 3 24 Try.underlying73 hi hz0 hz1 hz2 rfl (by decide) v l.length (oneCells l) rfl (HO.out.alloc _) ⟨w.heap.size, 0, none⟩ 1 1 [.int .i64 _, .int .i64 p, .int .i64 (-1)] rfl rfl (new_cells w _ _) (by simp [Value.oneCell']) (by unfold maxLen; omega) (by omega) (by simp; omega) ?_
      intro v' w1 hown' hgrow hnil
      clear hnil
      obtain ⟨gv, cv, rfl, hgv, _⟩ := own_form hown' (by omega)
      have hbr := blk_grown (HB.out.alloc _) hgrow (own_ne HO.out HB.out (by decide))
      have c1' := hbr.cell 1
      have f1' := hbr.frozen 1
      simp at c1'
      have HBR := Lib.hid hbr; clear hbr
      have HOWN := Lib.hid hown'; clear hown'
      have HGR := Lib.hid hgrow; clear hgrow)
    go_ret
    refine ⟨rfl, ⟨.slice (some ⟨gv, 0, none⟩) (l.length + 1) cv, ?_, ?_⟩, ?_⟩
    · have := HBR.out.set_ 1 (.slice (some ⟨gv, 0, none⟩) (l.length + 1) cv)
      simpa using this
    · have h1 := own_upd HOWN.out ((Upd.refl (fun k => k = r) w1).setCell (p := ⟨r, 1, none⟩) (fun _ => rfl) (.slice (some ⟨gv, 0, none⟩) (l.length + 1) cv)) (fun k hk e => by subst e; exact own_ne HOWN.out HBR.out (by decide) hk)
      rw [oneCells_snoc, List.length_append]
      exact h1
    · exact (((Upd.refl (fun k => k = r ∨ base ≤ k) w).alloc _).grown HGR.out (fun k hk _ => .inr (own_ge HO.out hk))).setCell (fun _ => .inl rfl) _

set_option maxRecDepth 100000 in
set_option maxHeartbeats 1600000 in
theorem chargeR_given (w : World) (base r m : Nat) (l : List Chg) (h : RLed w base r m l) (hbase : base ≤ w.heap.size) (hl : l.length ≤ 1000) (p q : Int) (hp0 : 0 ≤ p) (hp1 : p < m) (hq0 : 0 ≤ q) (hq1 : q < m) (hpq : p ≠ q) :
    Calls Try.prog 50 #[.pointer (some ⟨r, 0, none⟩), .int .i64 1, .int .i64 p, .int .i64 q] w fun e w' => e = .returned (.int .i64 0) ∧
      RLed w' base r m (l ++ [(1, p, q)]) ∧ Upd (fun k => k = r ∨ base ≤ k) w w' := by
  obtain ⟨v, hb, ho⟩ := h
  obtain ⟨i0, hi, hz0, hz1, hz2⟩ := info_parts infoOne
  have c0 := hb.cell 0
  have c1 := hb.cell 1
  simp at c0 c1
  have HB := Lib.hid hb; clear hb
  have HO := Lib.hid ho; clear ho
  have e0 : decide (p < 0) = false := decide_eq_false (by omega)
  have e1 : decide ((m : Int) ≤ p) = false := decide_eq_false (by omega)
  have e2 : decide (q < 0) = false := decide_eq_false (by omega)
  have e3 : decide ((m : Int) ≤ q) = false := decide_eq_false (by omega)
  have e4 : (q == p) = false := beq_eq_false_iff_ne.2 (fun e => hpq e.symm)
  clear hpq
  go_enter Try.func50, Try.ntmps50
  go_wp2_with (
    at_builtin
    refine wpList_append_own _ rfl (.tmp 64) (.tmp 69) 73 rfl base 80 i0 _ 3 24 Try.underlying73 hi hz0 hz1 hz2 rfl (by decide) v l.length (oneCells l) rfl (HO.out.alloc _) ⟨w.heap.size, 0, none⟩ 1 1 [.int .i64 1, .int .i64 p, .int .i64 q] rfl rfl (new_cells w _ _) (by simp [Value.oneCell']) (by unfold maxLen; omega) (by omega) (by simp; omega) ?_
    intro v' w1 hown' hgrow hnil
    clear hnil
    obtain ⟨gv, cv, rfl, hgv, _⟩ := own_form hown' (by omega)
    have hbr := blk_grown (HB.out.alloc _) hgrow (own_ne HO.out HB.out (by decide))
    have c1' := hbr.cell 1
    have f1' := hbr.frozen 1
    simp at c1'
    have HBR := Lib.hid hbr; clear hbr
    have HOWN := Lib.hid hown'; clear hown'
    have HGR := Lib.hid hgrow; clear hgrow)
  go_ret
  refine ⟨rfl, ⟨.slice (some ⟨gv, 0, none⟩) (l.length + 1) cv, ?_, ?_⟩, ?_⟩
  · have := HBR.out.set_ 1 (.slice (some ⟨gv, 0, none⟩) (l.length + 1) cv)
    simpa using this
  · have h1 := own_upd HOWN.out ((Upd.refl (fun k => k = r) w1).setCell (p := ⟨r, 1, none⟩) (fun _ => rfl) (.slice (some ⟨gv, 0, none⟩) (l.length + 1) cv)) (fun k hk e => by subst e; exact own_ne HOWN.out HBR.out (by decide) hk)
    rw [oneCells_snoc, List.length_append]
    exact h1
  · exact (((Upd.refl (fun k => k = r ∨ base ≤ k) w).alloc _).grown HGR.out (fun k hk _ => .inr (own_ge HO.out hk))).setCell (fun _ => .inl rfl) _

set_option maxRecDepth 100000 in
set_option maxHeartbeats 1600000 in
theorem chargeR_no (w : World) (base r m : Nat) (l : List Chg) (h : RLed w base r m l) (kind p q : Int) (hf : fineB m kind p q = false) :
    Calls Try.prog 50 #[.pointer (some ⟨r, 0, none⟩), .int .i64 kind, .int .i64 p, .int .i64 q] w fun e w' => e = .returned (.int .i64 1) ∧ ∃ k, w' = w.drewN k := by
  obtain ⟨v, hb, _⟩ := h
  have c0 := hb.cell 0
  simp at c0
  clear hb
  unfold fineB at hf
  by_cases hk0 : kind < 0
  · have e0 : decide (kind < 0) = true := decide_eq_true hk0
    clear hf hk0
    go_enter Try.func50, Try.ntmps50
    go_wp2
    go_ret
    exact ⟨rfl, 0, rfl⟩
  · have e0 : decide (kind < 0) = false := decide_eq_false hk0
    by_cases hk4 : 4 < kind
    · have e1 : decide (4 < kind) = true := decide_eq_true hk4
      clear hf hk0 hk4
      go_enter Try.func50, Try.ntmps50
      go_wp2
      go_ret
      exact ⟨rfl, 0, rfl⟩
    · have hk5 : kind = 0 ∨ kind = 1 ∨ kind = 2 ∨ kind = 3 ∨ kind = 4 := by omega
      clear hk0 hk4 e0
      by_cases hp0 : p < 0
      · have e0 : decide (p < 0) = true := decide_eq_true hp0
        have hk6 : kind = 0 ∨ kind = 1 ∨ kind = 2 ∨ kind = 3 := by
          rcases hk5 with rfl | rfl | rfl | rfl | rfl <;> first | omega | (simp at hf)
        clear hf hk5 hp0
        rcases hk6 with rfl | rfl | rfl | rfl
        all_goals
          go_enter Try.func50, Try.ntmps50
          go_wp2
          go_ret
          exact ⟨rfl, 0, rfl⟩
      · have e0 : decide (p < 0) = false := decide_eq_false hp0
        by_cases hp1 : (m : Int) ≤ p
        · have e1 : decide ((m : Int) ≤ p) = true := decide_eq_true hp1
          have hk6 : kind = 0 ∨ kind = 1 ∨ kind = 2 ∨ kind = 3 := by
            rcases hk5 with rfl | rfl | rfl | rfl | rfl <;> first | omega | (simp at hf)
          clear hf hk5 hp0 hp1
          rcases hk6 with rfl | rfl | rfl | rfl
          all_goals
            go_enter Try.func50, Try.ntmps50
            go_wp2
            go_ret
            exact ⟨rfl, 0, rfl⟩
        · have e1 : decide ((m : Int) ≤ p) = false := decide_eq_false hp1
          have hk1 : kind = 1 := by
            rcases hk5 with rfl | rfl | rfl | rfl | rfl
            · rw [if_pos (by omega)] at hf; have := of_decide_eq_false hf; omega
            · rfl
            · rw [if_pos (by omega)] at hf; have := of_decide_eq_false hf; omega
            · rw [if_pos (by omega)] at hf; have := of_decide_eq_false hf; omega
            · simp at hf
          subst hk1
          rw [if_neg (by omega), if_pos rfl] at hf
          have hq : q < 0 ∨ (0 ≤ q ∧ (m : Int) ≤ q) ∨ (0 ≤ q ∧ q < m ∧ q = p) := by
            rcases Bool.and_eq_false_iff.1 hf with h | h
            · have := of_decide_eq_false h; omega
            · have := of_decide_eq_false h; omega
          clear hf hk5 hp0 hp1
          rcases hq with hq | ⟨hq0, hq1⟩ | ⟨hq0, hq1, rfl⟩
          · have e2 : decide (q < 0) = true := decide_eq_true hq
            clear hq
            go_enter Try.func50, Try.ntmps50
            go_wp2
            go_ret
            exact ⟨rfl, 0, rfl⟩
          · have e2 : decide (q < 0) = false := decide_eq_false (by omega)
            have e3 : decide ((m : Int) ≤ q) = true := decide_eq_true hq1
            clear hq0 hq1
            go_enter Try.func50, Try.ntmps50
            go_wp2
            go_ret
            exact ⟨rfl, 0, rfl⟩
          · clear hq0 hq1
            go_enter Try.func50, Try.ntmps50
            go_wp2
            go_ret
            exact ⟨rfl, 0, rfl⟩
end Go.Proofs.Ytfpigcjhonfcjaa
