/-
  The walks of frame.Table: at, Owner.
-/
import Derived.Test.YtldbjoegfcmfkaaFrameD
import Derived.Test.YtldbjoegfcmfkaaSearchA
namespace Go.Proofs.Ytldbjoegfcmfkaa
open Go.RowKit
attribute [local go_sem] max_ints min_ints

def atW (ws : List W3) (i : Nat) : W3 := ws[i]?.getD (0, 0, 0)
theorem atW_of {ws : List W3} {i : Nat} {x : W3} (h : ws[i]? = some x) : atW ws i = x := by simp [atW, h]

theorem set3 {w : World} {g : Nat} {t : TypeId} {a b c : Value} (h : Blk w g t #[a, b, c]) (x y z : Value) : Blk (((w.setCell ⟨g, 0, none⟩ x).setCell ⟨g, 1, none⟩ y).setCell ⟨g, 2, none⟩ z) g t #[x, y, z] :=
  ((h.set_ 0 x).set_ 1 y).set_ 2 z
theorem Upd.set3 {S : Nat → Prop} {w w' : World} (h : Upd S w w') {g : Nat} (hg : w.heap.size ≤ g) (x y z : Value) : Upd S w (((w'.setCell ⟨g, 0, none⟩ x).setCell ⟨g, 1, none⟩ y).setCell ⟨g, 2, none⟩ z) :=
  ((h.setCell (p := ⟨g, 0, none⟩) (fun e => by simp only at e; omega) x).setCell (p := ⟨g, 1, none⟩) (fun e => by simp only at e; omega) y).setCell (p := ⟨g, 2, none⟩) (fun e => by simp only at e; omega) z

set_option maxRecDepth 100000 in
set_option maxHeartbeats 800000 in
theorem atc (w : World) (L : Value) (ws : List W3) (hL : RdW w L ws) (pl : Int) (b1 b2 : Nat) (h1 : w.cell? ⟨b1, 0, none⟩ = some L) (h2 : w.cell? ⟨b2, 0, none⟩ = some (.int .i64 pl)) (n : Nat) (hn : n < ws.length) :
    Calls Try.prog 57 #[.int .i64 n, .pointer (some ⟨b1, 0, none⟩), .pointer (some ⟨b2, 0, none⟩)] w fun e w' => e = .returned (.bool (decide (pl < (atW ws n).1))) ∧ Upd (fun _ => False) w w' := by
  obtain ⟨x, hx⟩ : ∃ x, ws[n]? = some x := ⟨_, List.getElem?_eq_getElem hn⟩
  obtain ⟨A, cap, rfl, hcell⟩ := hL
  obtain ⟨b, o, rfl, hb, c0, c1, c2⟩ := hcell n x hx
  have HX := Lib.hid (atW_of hx)
  clear hcell hx
  obtain ⟨x0, x1, x2⟩ := x
  dsimp only at *
  rw [HX.out]
  dsimp only
  go_enter Try.func57, Try.ntmps57
  go_wp2_with fail
  go_quiet (fail)
  go_wp2_with fail
  go_returns
  exact ⟨rfl, (Upd.refl _ w).drewN _⟩

set_option maxRecDepth 100000 in
set_option maxHeartbeats 1600000 in
theorem atT (w : World) (F : Nat) (hF2 : F ≤ 256) (M : Int) (L : Value) (ws : List W3) (hL : RdW w L ws) (hl : ws.length ≤ 32) (hfit : fitsB F 0 ws = true) (pl : Int) (_ : 0 ≤ pl) (hp1 : pl < F) :
    Calls Try.prog 46 #[.agg #[L, .int .i64 M], .int .i64 pl] w fun e w' => ∃ x ok, e = .returned (.tuple #[.agg #[.int .i64 x.1, .int .i64 x.2.1, .int .i64 x.2.2], .bool ok]) ∧
      ((ok = true ∧ x ∈ ws ∧ x.1 ≤ pl ∧ pl - x.1 < x.2.1) ∨ (ok = false ∧ x = ((0, 0, 0) : W3) ∧ ∀ x ∈ ws, ¬ (x.1 ≤ pl ∧ pl - x.1 < x.2.1))) ∧ Upd (fun _ => False) w w' := by
  have hmf : ∀ (fn : Fn) (first cap : Array Value) (w : World), (Instr.makeFunc fn first cap).run Try.prog w = .ok (.func fn first cap) w := fun _ _ _ _ => rfl
  have HFIT := Lib.hid hfit
  clear hfit
  obtain ⟨W, hW⟩ : ∃ W, ((w.alloc (.cells #[L, .int .i64 M] 67)).alloc (.cells #[.int .i64 pl] 3)).alloc (.cells #[.int .i64 0, .int .i64 0, .int .i64 0] 39) = W := ⟨_, rfl⟩
  have UA : Upd (fun _ => False) w W := hW ▸ (((Upd.refl (fun _ => False) w).alloc (.cells #[L, .int .i64 M] 67)).alloc (.cells #[.int .i64 pl] 3)).alloc (.cells #[.int .i64 0, .int .i64 0, .int .i64 0] 39)
  have B1 : Blk W w.heap.size 67 #[L, .int .i64 M] := hW ▸ ((Blk.new w 67 #[L, .int .i64 M]).alloc (.cells #[.int .i64 pl] 3)).alloc (.cells #[.int .i64 0, .int .i64 0, .int .i64 0] 39)
  have B2 : Blk W (w.heap.size + 1) 3 #[.int .i64 pl] := by
    have := (Blk.new (w.alloc (.cells #[L, .int .i64 M] 67)) 3 #[.int .i64 pl]).alloc (.cells #[.int .i64 0, .int .i64 0, .int .i64 0] 39)
    rw [hW] at this
    simpa using this
  have B3 : Blk W (w.heap.size + 1 + 1) 39 #[.int .i64 0, .int .i64 0, .int .i64 0] := by
    have := Blk.new ((w.alloc (.cells #[L, .int .i64 M] 67)).alloc (.cells #[.int .i64 pl] 3)) 39 #[.int .i64 0, .int .i64 0, .int .i64 0]
    rw [hW] at this
    simpa using this
  have c1 : W.cell? ⟨w.heap.size, 0, none⟩ = some L := B1.cell 0
  obtain ⟨A, cap, rfl, _⟩ := id hL
  have HL := Lib.hid (hL.still UA)
  clear hL
  have B1 := Lib.hid B1; have B2 := Lib.hid B2; have B3 := Lib.hid B3; have UA := Lib.hid UA
  go_enter Try.func46, Try.ntmps46
  go_upto_region 1 with fail
  clear hW
  go_wp2_with fail
  refine (searchA W ws.length (by omega) _ _ (fun i => decide (pl < (atW ws i).1)) ?_ ?_).mono ?_
  · intro i j hij hj hi
    have h1 := of_decide_eq_true hi
    refine decide_eq_true ?_
    rcases Nat.lt_or_eq_of_le hij with h | h
    · have hxi : ws[i]? = some (ws[i]'(by omega)) := List.getElem?_eq_getElem (by omega)
      have hxj : ws[j]? = some (ws[j]'hj) := List.getElem?_eq_getElem hj
      rw [atW_of hxi] at h1
      rw [atW_of hxj]
      have h2 := fitsB_rise HFIT.out i j _ _ h hxi hxj
      have h3 := fitsB_mem HFIT.out _ (List.mem_of_getElem? hxi)
      omega
    · exact h ▸ h1
  · intro i wr hi hU
    exact atc wr _ ws (HL.out.still hU) pl _ _ ((B1.out.upd hU (fun h => h)).cell 0) ((B2.out.upd hU (fun h => h)).cell 0) i hi
  · rintro e w2 ⟨k, hk, rfl, hk1, hk2, hU⟩
    have X1 := Lib.hid (B1.out.upd hU (fun h => h)); have X2 := Lib.hid (B2.out.upd hU (fun h => h)); have X3 := Lib.hid (B3.out.upd hU (fun h => h))
    have UX := Lib.hid (UA.out.trans hU)
    have HK1 := Lib.hid hk1; have HK2 := Lib.hid hk2
    have HR := Lib.hid (HL.out.still hU)
    clear hk1 hk2 hU
    have c1 : w2.cell? ⟨w.heap.size, 0, none⟩ = some (.slice A ws.length cap) := X1.out.cell 0
    have c2 : w2.cell? ⟨w.heap.size + 1, 0, none⟩ = some (.int .i64 pl) := X2.out.cell 0
    have f0 := X3.out.frozen 0; have f1 := X3.out.frozen 1; have f2 := X3.out.frozen 2
    have z0 : w2.cell? ⟨w.heap.size + 1 + 1, 0, none⟩ = some (.int .i64 0) := X3.out.cell 0
    have z1 : w2.cell? ⟨w.heap.size + 1 + 1, 1, none⟩ = some (.int .i64 0) := X3.out.cell 1
    have z2 : w2.cell? ⟨w.heap.size + 1 + 1, 2, none⟩ = some (.int .i64 0) := X3.out.cell 2
    by_cases hk0 : k = 0
    · subst hk0
      have HNO : Hid (∀ x ∈ ws, ¬ (x.1 ≤ pl ∧ pl - x.1 < x.2.1)) := Lib.hid (fun x hx => by
        obtain ⟨i, hi, rfl⟩ := List.mem_iff_getElem.1 hx
        have := of_decide_eq_true (HK2.out i (Nat.zero_le _) hi)
        rw [atW_of (List.getElem?_eq_getElem hi)] at this
        omega)
      go_wp2_with fail
      go_quiet (fail)
      go_wp2_with fail
      have Y := set3 (X3.out.drewN nq) (.int .i64 0) (.int .i64 0) (.int .i64 0)
      have UY := (UX.out.drewN nq).set3 (g := w.heap.size + 1 + 1) (by omega) (.int .i64 0) (.int .i64 0) (.int .i64 0)
      clear z0 z1 z2
      generalize (((w2.drewN nq).setCell ⟨w.heap.size + 1 + 1, 0, none⟩ (.int .i64 0)).setCell ⟨w.heap.size + 1 + 1, 1, none⟩ (.int .i64 0)).setCell ⟨w.heap.size + 1 + 1, 2, none⟩ (.int .i64 0) = W3 at *
      have z0 : W3.cell? ⟨w.heap.size + 1 + 1, 0, none⟩ = some (.int .i64 0) := Y.cell 0
      have z1 : W3.cell? ⟨w.heap.size + 1 + 1, 1, none⟩ = some (.int .i64 0) := Y.cell 1
      have z2 : W3.cell? ⟨w.heap.size + 1 + 1, 2, none⟩ = some (.int .i64 0) := Y.cell 2
      exact bodyPost_ret (v := .tuple #[.agg #[.int .i64 0, .int .i64 0, .int .i64 0], .bool false]) (by simp [results, Try.results46, go_sem, z0, z1, z2]) rfl ⟨(0, 0, 0), false, rfl, .inr ⟨rfl, rfl, HNO.out⟩, UY⟩
    · obtain ⟨j, rfl⟩ : ∃ j, k = j + 1 := ⟨k - 1, by omega⟩
      have hj : j < ws.length := by omega
      obtain ⟨x, hx⟩ : ∃ x, ws[j]? = some x := ⟨_, List.getElem?_eq_getElem hj⟩
      obtain ⟨A', cap', e, hcell⟩ := HR.out
      injection e with e1 e2 e3
      subst e1 e3
      obtain ⟨b, o, rfl, hb, q0, q1, q2⟩ := hcell j x hx
      have hle : x.1 ≤ pl := by
        have := of_decide_eq_false (HK1.out j (by omega))
        rw [atW_of hx] at this
        omega
      have hfx := fitsB_mem HFIT.out x (List.mem_of_getElem? hx)
      have HIN : Hid (x ∈ ws) := Lib.hid (List.mem_of_getElem? hx)
      have HNO : Hid (¬ pl - x.1 < x.2.1 → ∀ y ∈ ws, ¬ (y.1 ≤ pl ∧ pl - y.1 < y.2.1)) := Lib.hid (fun hn y hy => by
        obtain ⟨i, hi, rfl⟩ := List.mem_iff_getElem.1 hy
        rcases Nat.lt_trichotomy i j with h | h | h
        · have := fitsB_rise HFIT.out i j _ _ h (List.getElem?_eq_getElem hi) hx
          omega
        · subst h
          have : ws[i] = x := by rw [List.getElem?_eq_getElem hi] at hx; injection hx
          rw [this]
          omega
        · have := of_decide_eq_true (HK2.out i (by omega) hi)
          rw [atW_of (List.getElem?_eq_getElem hi)] at this
          omega)
      clear hcell
      have HX := Lib.hid hx
      clear hx
      obtain ⟨x0, x1, x2⟩ := x
      dsimp only at *
      obtain ⟨k, hkj⟩ : ∃ k, j + 1 = k := ⟨_, rfl⟩
      have hw : IntKind.i64.wrap ((k : Int) - 1) = (j : Int) := by rw [wrap_in _ (by omega) (by omega)]; omega
      have hw' : wrap64 ((k : Int) - 1) = (j : Int) := by unfold wrap64; omega
      have hwp : IntKind.i64.wrap (pl - x0) = pl - x0 := wrap_in _ (by omega) (by omega)
      rw [hkj] at hk hk0 ⊢
      clear hkj
      by_cases hin : pl - x0 < x1
      · have d1 : decide (x1 ≤ pl - x0) = false := decide_eq_false (by omega)
        go_wp2_with fail
        go_quiet (fail)
        go_wp2_with fail
        have Y := set3 (X3.out.drewN nq) (.int .i64 x0) (.int .i64 x1) (.int .i64 x2)
        have UY := (UX.out.drewN nq).set3 (g := w.heap.size + 1 + 1) (by omega) (.int .i64 x0) (.int .i64 x1) (.int .i64 x2)
        clear z0 z1 z2
        generalize (((w2.drewN nq).setCell ⟨w.heap.size + 1 + 1, 0, none⟩ (.int .i64 x0)).setCell ⟨w.heap.size + 1 + 1, 1, none⟩ (.int .i64 x1)).setCell ⟨w.heap.size + 1 + 1, 2, none⟩ (.int .i64 x2) = W3 at *
        have z0 : W3.cell? ⟨w.heap.size + 1 + 1, 0, none⟩ = some (.int .i64 x0) := Y.cell 0
        have z1 : W3.cell? ⟨w.heap.size + 1 + 1, 1, none⟩ = some (.int .i64 x1) := Y.cell 1
        have z2 : W3.cell? ⟨w.heap.size + 1 + 1, 2, none⟩ = some (.int .i64 x2) := Y.cell 2
        exact bodyPost_ret (v := .tuple #[.agg #[.int .i64 x0, .int .i64 x1, .int .i64 x2], .bool true]) (by simp [results, Try.results46, go_sem, z0, z1, z2]) rfl ⟨(x0, x1, x2), true, rfl, .inl ⟨rfl, HIN.out, hle, hin⟩, UY⟩
      · have d1 : decide (x1 ≤ pl - x0) = true := decide_eq_true (by omega)
        go_wp2_with fail
        go_quiet (fail)
        go_wp2_with fail
        have Y := set3 (X3.out.drewN nq) (.int .i64 0) (.int .i64 0) (.int .i64 0)
        have UY := (UX.out.drewN nq).set3 (g := w.heap.size + 1 + 1) (by omega) (.int .i64 0) (.int .i64 0) (.int .i64 0)
        clear z0 z1 z2
        generalize (((w2.drewN nq).setCell ⟨w.heap.size + 1 + 1, 0, none⟩ (.int .i64 0)).setCell ⟨w.heap.size + 1 + 1, 1, none⟩ (.int .i64 0)).setCell ⟨w.heap.size + 1 + 1, 2, none⟩ (.int .i64 0) = W3 at *
        have z0 : W3.cell? ⟨w.heap.size + 1 + 1, 0, none⟩ = some (.int .i64 0) := Y.cell 0
        have z1 : W3.cell? ⟨w.heap.size + 1 + 1, 1, none⟩ = some (.int .i64 0) := Y.cell 1
        have z2 : W3.cell? ⟨w.heap.size + 1 + 1, 2, none⟩ = some (.int .i64 0) := Y.cell 2
        exact bodyPost_ret (v := .tuple #[.agg #[.int .i64 0, .int .i64 0, .int .i64 0], .bool false]) (by simp [results, Try.results46, go_sem, z0, z1, z2]) rfl ⟨(0, 0, 0), false, rfl, .inr ⟨rfl, rfl, HNO.out hin⟩, UY⟩
end Go.Proofs.Ytldbjoegfcmfkaa
