/-
  Stats: the document's jobs of a log. (Written by stlg.py.)
-/
import Derived.Test.YthjebjegedgoeaaStLF
namespace Go.Proofs.Ythjebjegedgoeaa
open Go.RowKit Go.Maps
attribute [local go_sem] max_ints min_ints

set_option maxRecDepth 100000 in
set_option maxHeartbeats 3200000 in
theorem rEndsC (w : World) (e : En) (t : Int) :
    Calls Try.prog 39 #[.agg #[.int .i64 e.k, .int .i64 e.d, .int .i64 e.a, .int .i64 e.b], .int .i64 t] w fun r w' => r = .returned (.int .i64 (endR e t)) ∧ Upd (fun _ => False) w w' := by
  obtain ⟨k, d, a, b⟩ := e
  have hU : Hid (Upd (fun _ => False) w (w.alloc (.cells #[.int .i64 k, .int .i64 d, .int .i64 a, .int .i64 b] 53))) := Lib.hid ((Upd.refl _ w).alloc _)
  dsimp only
  by_cases h1 : d = 13
  · have hr : endR ⟨k, d, a, b⟩ t = 5 := if_pos (.inl h1)
    rw [hr]
    clear hr
    subst h1
    go_enter Try.func39, Try.ntmps39
    go_wp2_with fail
    go_returns
    exact ⟨rfl, hU.out⟩
  · have n1 : (d == 13) = false := beq_eq_false_iff_ne.2 h1
    by_cases h2 : d = 12
    · by_cases h3 : b = 0
      · have hb : ¬ brkE ⟨k, d, a, b⟩ := fun h => by rcases h with h | h; exact h1 h; exact h.2 h3
        have hr : endR ⟨k, d, a, b⟩ t = 0 := by
          show (if brkE ⟨k, d, a, b⟩ then 5 else if a ≠ t then 0 else endK d) = 0
          rw [if_neg hb, h2]
          split <;> rfl
        rw [hr]
        clear hb hr n1 h1
        subst h2; subst h3
        by_cases ht : a = t
        · subst ht
          go_enter Try.func39, Try.ntmps39
          go_wp2_with fail
          go_returns
          exact ⟨rfl, hU.out⟩
        · have nt : (a != t) = true := bne_iff_ne.2 ht
          go_enter Try.func39, Try.ntmps39
          go_wp2_with fail
          go_returns
          exact ⟨rfl, hU.out⟩
      · have hr : endR ⟨k, d, a, b⟩ t = 5 := if_pos (.inr ⟨h2, h3⟩)
        have n3 : (b != 0) = true := bne_iff_ne.2 h3
        rw [hr]
        clear hr n1 h1
        subst h2
        go_enter Try.func39, Try.ntmps39
        go_wp2_with fail
        go_returns
        exact ⟨rfl, hU.out⟩
    · have hb : ¬ brkE ⟨k, d, a, b⟩ := fun h => by rcases h with h | h; exact h1 h; exact h2 h.1
      have n2 : (d == 12) = false := beq_eq_false_iff_ne.2 h2
      have hr : endR ⟨k, d, a, b⟩ t = if a ≠ t then 0 else endK d := if_neg hb
      rw [hr]
      clear hr hb
      by_cases ht : a = t
      · have hr : (if a ≠ t then 0 else endK d) = endK d := if_neg (fun q => q ht)
        rw [hr]
        subst ht
        clear hr h1 h2
        by_cases k4 : d = 4
        · subst k4
          go_enter Try.func39, Try.ntmps39
          go_wp2_with fail
          go_returns
          exact ⟨rfl, hU.out⟩
        · by_cases k5 : d = 5
          · subst k5
            go_enter Try.func39, Try.ntmps39
            go_wp2_with fail
            go_returns
            exact ⟨rfl, hU.out⟩
          · by_cases k6 : d = 6
            · subst k6
              go_enter Try.func39, Try.ntmps39
              go_wp2_with fail
              go_returns
              exact ⟨rfl, hU.out⟩
            · by_cases k8 : d = 8
              · subst k8
                go_enter Try.func39, Try.ntmps39
                go_wp2_with fail
                go_returns
                exact ⟨rfl, hU.out⟩
              · have hk : endK d = 0 := by unfold endK; rw [if_neg k4, if_neg k5, if_neg k6, if_neg k8]
                have m4 : (d == 4) = false := beq_eq_false_iff_ne.2 k4
                have m5 : (d == 5) = false := beq_eq_false_iff_ne.2 k5
                have m6 : (d == 6) = false := beq_eq_false_iff_ne.2 k6
                have m8 : (d == 8) = false := beq_eq_false_iff_ne.2 k8
                rw [hk]
                clear hk
                go_enter Try.func39, Try.ntmps39
                go_wp2_with fail
                go_returns
                exact ⟨rfl, hU.out⟩
      · have hr : (if a ≠ t then 0 else endK d) = 0 := if_pos ht
        have nt : (a != t) = true := bne_iff_ne.2 ht
        rw [hr]
        clear hr
        go_enter Try.func39, Try.ntmps39
        go_wp2_with fail
        go_returns
        exact ⟨rfl, hU.out⟩

/-- The entries that a slice holds, as they are read. -/
def ERow (w : World) (A : Option Addr) (l : List En) : Prop := ∀ i e, l[i]? = some e → ∃ b o, A = some ⟨b, o, none⟩ ∧ b < w.heap.size ∧ w.cell? ⟨b, o + i * 4, none⟩ = some (.int .i64 e.k) ∧ w.cell? ⟨b, o + i * 4 + 1, none⟩ = some (.int .i64 e.d) ∧ w.cell? ⟨b, o + i * 4 + 2, none⟩ = some (.int .i64 e.a) ∧ w.cell? ⟨b, o + i * 4 + 3, none⟩ = some (.int .i64 e.b)
theorem ERow.still {w w' : World} {A : Option Addr} {l : List En} (h : ERow w A l) (hu : Upd (fun _ => False) w w') : ERow w' A l := fun i e he => by
  obtain ⟨b, o, rfl, hb, h0, h1, h2, h3⟩ := h i e he
  have hc : ∀ p v, w.cell? ⟨b, p, none⟩ = some v → w'.cell? ⟨b, p, none⟩ = some v := fun p v h => (hu.cell (p := ⟨b, p, none⟩) hb (fun h => h)).trans h
  exact ⟨b, o, rfl, Nat.lt_of_lt_of_le hb hu.size, hc _ _ h0, hc _ _ h1, hc _ _ h2, hc _ _ h3⟩
theorem upJ_new (e2 : En) (e : En) : upJ (newJ e) e2 = if endR e2 e.a ≠ 0 then ⟨e.a, e.b, e.k, e2.k, endR e2 e.a⟩ else newJ e := if_pos rfl
theorem foldl_ended (l : List En) (j : J5) (h : j.e ≠ 0) : l.foldl upJ j = j := by
  induction l with
  | nil => rfl
  | cons e r ih => rw [List.foldl_cons, show upJ j e = j from if_neg h, ih]

set_option maxRecDepth 100000 in
set_option maxHeartbeats 6400000 in
theorem rJobC (w : World) (A : Option Addr) (cap : Nat) (l : List En) (hE : ERow w A l) (hl : l.length ≤ 1000) (i : Nat) (e : En) (he : l[i]? = some e) :
    Calls Try.prog 33 #[.slice A l.length cap, .int .i64 (i : Int)] w fun r w' => r = .returned (.agg (encJ ((l.drop (i + 1)).foldl upJ (newJ e))).toArray) ∧ Upd (fun _ => False) w w' := by
  have HE := Lib.hid hE
  have hil := (List.getElem?_eq_some_iff.1 he).1
  obtain ⟨vb, vo, rfl, hvb, c0, c1, c2, c3⟩ := hE i e he
  obtain ⟨k, d, a, b⟩ := e
  dsimp only at c0 c1 c2 c3
  have ua := (Upd.refl (fun _ => False) w).alloc (.cells #[.int .i64 0, .int .i64 0, .int .i64 0, .int .i64 0, .int .i64 0] 66)
  have U1 := Lib.hid ua
  have Z1 := Lib.hid (Blk.new w 66 #[.int .i64 0, .int .i64 0, .int .i64 0, .int .i64 0, .int .i64 0])
  have dl : decide ((i : Int) < (l.length : Int)) = true := decide_eq_true (by omega)
  have di : decide ((i : Int) < 0) = false := decide_eq_false (by omega)
  have HVB := Lib.hid hvb
  have HS1 : Hid (∀ w', Upd (fun _ => False) (w.alloc (.cells #[.int .i64 0, .int .i64 0, .int .i64 0, .int .i64 0, .int .i64 0] 66)) w' → (fun w' => w'.cell? ⟨vb, vo + i * 4, none⟩ = some (.int .i64 k) ∧ w'.cell? ⟨vb, vo + i * 4 + 2, none⟩ = some (.int .i64 a) ∧ w'.cell? ⟨vb, vo + i * 4 + 3, none⟩ = some (.int .i64 b)) w') := Lib.hid (fun w' hu => by
    obtain ⟨b', o', e', _, h0, _, h2, h3⟩ := (hE.still (ua.trans hu)) i _ he
    injection e' with e'
    injection e' with e1 e2
    subst e1; subst e2
    exact ⟨h0, h2, h3⟩)
  clear hE c0 c1 c2 c3 ua hvb he
  go_enter Try.func33, Try.ntmps33
  go_upto_region 1 with fail
  obtain ⟨b4, hb4⟩ : ∃ b4, w.heap.size = b4 := ⟨_, rfl⟩
  have HB4 := Lib.hid hb4
  rw [hb4] at Z1 ⊢
  clear hb4
  generalize w.alloc (.cells #[.int .i64 0, .int .i64 0, .int .i64 0, .int .i64 0, .int .i64 0] 66) = w1 at *
  refine wp_region_treeF (.q 0 (.q 1 (.q 2 (.q 3 (.q 4 (.q 5 (.q 6 (.q 7 (.q 8 (.q 9 (.q 10 (.q 11 (.q 12 (.q 13 (.q 14 (.q 15 (.l 16 (.l 17 .d)))))))))))))))))) (fun i => decide (i = 17)) (fun _ => false) (fun w' => w'.cell? ⟨vb, vo + i * 4, none⟩ = some (.int .i64 k) ∧ w'.cell? ⟨vb, vo + i * 4 + 2, none⟩ = some (.int .i64 a) ∧ w'.cell? ⟨vb, vo + i * 4 + 3, none⟩ = some (.int .i64 b))
    (by kernel_rfl) (by kernel_rfl) (by kernel_rfl) (fun t ht => by have := of_decide_eq_true ht; subst this; decide) (fun _ _ _ _ _ h => h) (by kernel_rfl) rfl (HS1.out _ (Upd.refl _ w1).drew) ?_
  iterate 16
    (refine' wpOF_q (by rfl) (by rfl) (by rfl) (fun w' hS' => ?_) ?_
     rotate_left
     · obtain ⟨s1, s2, s3⟩ := hS'
       go_simp
       try rfl)
    try simp only [Act.put, List.setIfInBounds_toArray, List.set_cons_zero, List.set_cons_succ]
  refine wpOF_l (by rfl) (by rfl) (fun KQ hKQ => ?_)
  go_simp
  have XA : Hid (Blk (w1.alloc (.cells #[.int .i64 0, .int .i64 0, .int .i64 0, .int .i64 0, .int .i64 0] 66)).drew w1.heap.size 66 #[.int .i64 0, .int .i64 0, .int .i64 0, .int .i64 0, .int .i64 0]) := Lib.hid (Blk.new w1 _ _)
  have UA : Hid (Upd (fun _ => False) w1 (w1.alloc (.cells #[.int .i64 0, .int .i64 0, .int .i64 0, .int .i64 0, .int .i64 0] 66)).drew) := Lib.hid ((Upd.refl _ w1).alloc _).drew
  refine hKQ _ _ (.inr (HS1.out _ UA.out)) ?_
  clear hKQ KQ
  try simp only [Act.put, List.setIfInBounds_toArray, List.set_cons_zero, List.set_cons_succ]
  generalize (w1.alloc (.cells #[.int .i64 0, .int .i64 0, .int .i64 0, .int .i64 0, .int .i64 0] 66)).drew = wA at *
  obtain ⟨bx, hbx⟩ : ∃ bx, w1.heap.size = bx := ⟨_, rfl⟩
  have HBX := Lib.hid hbx
  rw [hbx] at XA ⊢
  clear hbx
  have z0 : wA.cell? ⟨bx, 0, none⟩ = some (.int .i64 0) := XA.out.cell 0
  have z1 : wA.cell? ⟨bx, 1, none⟩ = some (.int .i64 0) := XA.out.cell 1
  have z2 : wA.cell? ⟨bx, 2, none⟩ = some (.int .i64 0) := XA.out.cell 2
  have z3 : wA.cell? ⟨bx, 3, none⟩ = some (.int .i64 0) := XA.out.cell 3
  have z4 : wA.cell? ⟨bx, 4, none⟩ = some (.int .i64 0) := XA.out.cell 4
  have zf := fun i => XA.out.frozen i
  refine wpOF_l (by rfl) (by rfl) (fun KQ hKQ => ?_)
  go_simp
  refine hKQ _ _ (.inl (by rfl)) ?_
  clear hKQ KQ
  try simp only [Act.put, List.setIfInBounds_toArray, List.set_cons_zero, List.set_cons_succ]
  refine wpOF_d ?_
  have hX : Blk (((((wA.setCell ⟨bx, 0, none⟩ (.int .i64 a)).setCell ⟨bx, 1, none⟩ (.int .i64 b)).setCell ⟨bx, 2, none⟩ (.int .i64 k)).setCell ⟨bx, 3, none⟩ (.int .i64 (-1))).setCell ⟨bx, 4, none⟩ (.int .i64 0)) bx 66 #[.int .i64 a, .int .i64 b, .int .i64 k, .int .i64 (-1), .int .i64 0] := ((((XA.out.set_ 0 _).set_ 1 _).set_ 2 _).set_ 3 _).set_ 4 _
  have hu : ∀ (W : World) (i : Nat) (u : Value), Upd (fun q => q = bx) W (W.setCell ⟨bx, i, none⟩ u) := fun W i u => (Upd.refl (fun q => q = bx) W).setCell (p := ⟨bx, i, none⟩) (fun _ => rfl) u
  have hU2 := ((((hu wA 0 (.int .i64 a)).trans (hu _ 1 (.int .i64 b))).trans (hu _ 2 (.int .i64 k))).trans (hu _ 3 (.int .i64 (-1)))).trans (hu _ 4 (.int .i64 0))
  have X2 := Lib.hid hX
  have U2 : Hid (Upd (fun _ => False) w1 (((((wA.setCell ⟨bx, 0, none⟩ (.int .i64 a)).setCell ⟨bx, 1, none⟩ (.int .i64 b)).setCell ⟨bx, 2, none⟩ (.int .i64 k)).setCell ⟨bx, 3, none⟩ (.int .i64 (-1))).setCell ⟨bx, 4, none⟩ (.int .i64 0))) := Lib.hid (((UA.out.mono (S' := fun q => q = bx) (fun _ _ h => h.elim)).trans hU2).mono (fun q hq e => by have := HBX.out; omega))
  clear hX hu hU2 z0 z1 z2 z3 z4 zf XA
  generalize ((((wA.setCell ⟨bx, 0, none⟩ (.int .i64 a)).setCell ⟨bx, 1, none⟩ (.int .i64 b)).setCell ⟨bx, 2, none⟩ (.int .i64 k)).setCell ⟨bx, 3, none⟩ (.int .i64 (-1))).setCell ⟨bx, 4, none⟩ (.int .i64 0) = w2 at *
  have Z2 := Lib.hid (Z1.out.upd U2.out (fun h => h))
  have UW2 := Lib.hid (U1.out.trans U2.out)
  have HBB : Hid (w.heap.size ≤ b4 ∧ w.heap.size ≤ bx ∧ bx ≠ b4) := Lib.hid (by
    have h1 := HB4.out
    have h2 := HBX.out
    have h3 := Z1.out.lt
    omega)
  clear U2 UA Z1 U1 HS1 HB4 HBX
  go_wp2_with fail
  go_loopw [6, 7] (fun v6 v7 wr => ∃ (q : Nat), i + 1 ≤ q ∧ q ≤ l.length ∧ v6 = .int .i64 q ∧ (l.drop (i + 1)).foldl upJ (newJ ⟨k, d, a, b⟩) = (l.drop q).foldl upJ (newJ ⟨k, d, a, b⟩) ∧ Blk wr bx 66 #[.int .i64 a, .int .i64 b, .int .i64 k, .int .i64 (-1), .int .i64 0] ∧ Blk wr b4 66 #[.int .i64 0, .int .i64 0, .int .i64 0, .int .i64 0, .int .i64 0] ∧ Upd (fun _ => False) w wr) (fun v6 _ _ => l.length - (intOf v6).toNat)
  case atStart => exact ⟨i + 1, Nat.le_refl _, by omega, by go_num, rfl, X2.out, Z2.out, UW2.out⟩
  case round =>
    obtain ⟨q, hq1, hq2, rfl, hfold, hX, hZ, hU⟩ := hrel
    have X3 := Lib.hid hX; have Z3 := Lib.hid hZ; have U4 := Lib.hid hU; have HFO := Lib.hid hfold
    clear hX hZ hfold
    by_cases hlt : q < l.length
    · obtain ⟨e2, he2⟩ : ∃ e2, l[q]? = some e2 := ⟨_, List.getElem?_eq_getElem hlt⟩
      have hdrop : l.drop q = e2 :: l.drop (q + 1) := by
        rw [List.drop_eq_getElem_cons hlt]
        congr 1
        rw [List.getElem?_eq_getElem hlt] at he2
        exact Option.some.inj he2
      have HDR := Lib.hid hdrop
      obtain ⟨k2, d2, a2, b2⟩ := e2
      have HS5 : Hid (∀ w', Upd (fun _ => False) wr w' → (fun w' => w'.cell? ⟨vb, vo + q * 4, none⟩ = some (.int .i64 k2) ∧ w'.cell? ⟨vb, vo + q * 4 + 1, none⟩ = some (.int .i64 d2) ∧ w'.cell? ⟨vb, vo + q * 4 + 2, none⟩ = some (.int .i64 a2) ∧ w'.cell? ⟨vb, vo + q * 4 + 3, none⟩ = some (.int .i64 b2) ∧ w'.cell? ⟨bx, 0, none⟩ = some (.int .i64 a)) w') := Lib.hid (fun w' hu => by
        obtain ⟨b', o', e', _, h0, h1, h2, h3⟩ := (HE.out.still (hU.trans hu)) q _ he2
        injection e' with e'
        injection e' with e1 e2
        subst e1; subst e2
        exact ⟨h0, h1, h2, h3, (X3.out.upd hu (fun h => h)).cell 0⟩)
      have dl : decide ((q : Int) < (l.length : Int)) = true := decide_eq_true (by omega)
      have di : decide ((q : Int) < 0) = false := decide_eq_false (by omega)
      have hql : q < 1000 := by omega
      clear hdrop he2 hU
      go_upto_region 5 with fail
      refine wp_region_treeF (.q 0 (.q 1 (.q 2 (.q 3 (.q 4 (.q 5 (.l 6 (.q 7 .d)))))))) (fun _ => false) (fun q => decide (q = 7)) (fun w' => w'.cell? ⟨vb, vo + q * 4, none⟩ = some (.int .i64 k2) ∧ w'.cell? ⟨vb, vo + q * 4 + 1, none⟩ = some (.int .i64 d2) ∧ w'.cell? ⟨vb, vo + q * 4 + 2, none⟩ = some (.int .i64 a2) ∧ w'.cell? ⟨vb, vo + q * 4 + 3, none⟩ = some (.int .i64 b2) ∧ w'.cell? ⟨bx, 0, none⟩ = some (.int .i64 a))
        (by kernel_rfl) (by kernel_rfl) (by kernel_rfl) (fun t ht => by cases ht) (fun _ _ _ _ _ h => h) (by kernel_rfl) rfl (HS5.out _ (Upd.refl _ wr).drew) ?_
      iterate 6
        (refine' wpOF_q (by rfl) (by rfl) (by rfl) (fun w' hS' => ?_) ?_
         rotate_left
         · obtain ⟨s1, s2, s3, s4, s5⟩ := hS'
           go_simp
           try rfl)
        try simp only [Act.put, List.setIfInBounds_toArray, List.set_cons_zero, List.set_cons_succ]
      refine wpOF_l (by rfl) (by rfl) (fun KQ hKQ => ?_)
      go_simp
      go_at_call 39
      refine (rEndsC wr.drew ⟨k2, d2, a2, b2⟩ a).mono ?_
      rintro r w3 ⟨rfl, hU3⟩
      have U3 : Hid (Upd (fun _ => False) wr w3) := Lib.hid ((Upd.refl (fun _ => False) wr).drew.trans hU3)
      clear hU3
      refine hKQ _ _ (.inr (HS5.out _ U3.out)) ?_
      clear hKQ KQ
      try simp only [Act.put, List.setIfInBounds_toArray, List.set_cons_zero, List.set_cons_succ]
      refine' wpOF_f (by rfl) (by rfl) (fun w' => ?_) ?_
      rotate_left
      · go_simp
        try rfl
      try simp only [Act.put, List.setIfInBounds_toArray, List.set_cons_zero, List.set_cons_succ]
      refine wpOF_d ?_
      have X4 := Lib.hid (X3.out.upd U3.out (fun h => h)); have Z4 := Lib.hid (Z3.out.upd U3.out (fun h => h)); have U5 := Lib.hid (U4.out.trans U3.out)
      have HS6 := HS5.out _ U3.out
      obtain ⟨x, hx⟩ : ∃ x, endR ⟨k2, d2, a2, b2⟩ a = x := ⟨_, rfl⟩
      rw [hx]
      have HX := Lib.hid hx
      clear hx X3 U4 HS5
      by_cases hx0 : x = 0
      · have nx : (x != 0) = false := by rw [hx0]; rfl
        have HF : Hid ((l.drop q).foldl upJ (newJ ⟨k, d, a, b⟩) = (l.drop (q + 1)).foldl upJ (newJ ⟨k, d, a, b⟩)) := Lib.hid (by
          rw [HDR.out, List.foldl_cons, upJ_new, if_neg (fun h => h (by rw [HX.out]; exact hx0))])
        clear hx0 Z3 U3 HS6
        go_wp2_with fail
        go_roundw
        case rel => exact ⟨q + 1, by omega, by omega, by go_num, by rw [HFO.out, HF.out], X4.out, Z4.out, U5.out⟩
        case measure => simp [intOf]; omega
      · have nx : (x != 0) = true := bne_iff_ne.2 hx0
        have HF : Hid ((l.drop q).foldl upJ (newJ ⟨k, d, a, b⟩) = ⟨a, b, k, k2, x⟩) := Lib.hid (by
          rw [HDR.out, List.foldl_cons, upJ_new, if_pos (by rw [HX.out]; exact hx0), foldl_ended]
          · rw [HX.out]
          · rw [HX.out]; exact hx0)
        have HRES : Hid ((Value.agg #[.int .i64 a, .int .i64 b, .int .i64 k, .int .i64 k2, .int .i64 x]) = .agg (encJ ((l.drop (i + 1)).foldl upJ (newJ ⟨k, d, a, b⟩))).toArray) := Lib.hid (by rw [HFO.out, HF.out]; rfl)
        obtain ⟨s0, _, _, _, _⟩ := HS6
        have x3 : w3.cell? ⟨bx, 3, none⟩ = some (.int .i64 (-1)) := X4.out.cell 3
        have x4 : w3.cell? ⟨bx, 4, none⟩ = some (.int .i64 0) := X4.out.cell 4
        have xf := fun i => X4.out.frozen i
        have hX5 := (X4.out.set_ 3 (.int .i64 k2)).set_ 4 (.int .i64 x)
        have hU5 : Upd (fun q => q = bx) w3 ((w3.setCell ⟨bx, 3, none⟩ (.int .i64 k2)).setCell ⟨bx, 4, none⟩ (.int .i64 x)) := ((Upd.refl (fun q => q = bx) w3).setCell (p := ⟨bx, 3, none⟩) (fun _ => rfl) _).setCell (p := ⟨bx, 4, none⟩) (fun _ => rfl) _
        have X5 := Lib.hid hX5
        have Z5 := Lib.hid (Z4.out.upd hU5 (fun e => HBB.out.2.2 e.symm))
        have U6 : Hid (Upd (fun _ => False) w ((w3.setCell ⟨bx, 3, none⟩ (.int .i64 k2)).setCell ⟨bx, 4, none⟩ (.int .i64 x))) := Lib.hid (((U5.out.mono (S' := fun q => q = bx) (fun _ _ h => h.elim)).trans hU5).mono (fun q hq e => by have := HBB.out; omega))
        clear hX5 hU5 hx0 Z3 U3 X4 Z4 U5
        go_upto_region 8 with fail
        clear s0 x3 x4 xf
        generalize (w3.setCell ⟨bx, 3, none⟩ (.int .i64 k2)).setCell ⟨bx, 4, none⟩ (.int .i64 x) = w5 at *
        have Z3 := Z5
        have x0 : w5.cell? ⟨bx, 0, none⟩ = some (.int .i64 a) := X5.out.cell 0
        have x1 : w5.cell? ⟨bx, 1, none⟩ = some (.int .i64 b) := X5.out.cell 1
        have x2 : w5.cell? ⟨bx, 2, none⟩ = some (.int .i64 k) := X5.out.cell 2
        have x3 : w5.cell? ⟨bx, 3, none⟩ = some (.int .i64 k2) := X5.out.cell 3
        have x4 : w5.cell? ⟨bx, 4, none⟩ = some (.int .i64 x) := X5.out.cell 4
        have z0 : w5.cell? ⟨b4, 0, none⟩ = some (.int .i64 0) := Z3.out.cell 0
        have z1 : w5.cell? ⟨b4, 1, none⟩ = some (.int .i64 0) := Z3.out.cell 1
        have z2 : w5.cell? ⟨b4, 2, none⟩ = some (.int .i64 0) := Z3.out.cell 2
        have z3 : w5.cell? ⟨b4, 3, none⟩ = some (.int .i64 0) := Z3.out.cell 3
        have z4 : w5.cell? ⟨b4, 4, none⟩ = some (.int .i64 0) := Z3.out.cell 4
        have zf := fun i => Z3.out.frozen i
        go_wp2_with fail
        have hB : Blk (((((w5.setCell ⟨b4, 0, none⟩ (.int .i64 a)).setCell ⟨b4, 1, none⟩ (.int .i64 b)).setCell ⟨b4, 2, none⟩ (.int .i64 k)).setCell ⟨b4, 3, none⟩ (.int .i64 k2)).setCell ⟨b4, 4, none⟩ (.int .i64 x)) b4 66 #[.int .i64 a, .int .i64 b, .int .i64 k, .int .i64 k2, .int .i64 x] := ((((Z3.out.set_ 0 _).set_ 1 _).set_ 2 _).set_ 3 _).set_ 4 _
        have hu : ∀ (W : World) (i : Nat) (u : Value), Upd (fun q => q = b4) W (W.setCell ⟨b4, i, none⟩ u) := fun W i u => (Upd.refl (fun q => q = b4) W).setCell (p := ⟨b4, i, none⟩) (fun _ => rfl) u
        have hU : Upd (fun q => q = b4) w5 (((((w5.setCell ⟨b4, 0, none⟩ (.int .i64 a)).setCell ⟨b4, 1, none⟩ (.int .i64 b)).setCell ⟨b4, 2, none⟩ (.int .i64 k)).setCell ⟨b4, 3, none⟩ (.int .i64 k2)).setCell ⟨b4, 4, none⟩ (.int .i64 x)) := ((((hu _ _ _).trans (hu _ _ _)).trans (hu _ _ _)).trans (hu _ _ _)).trans (hu _ _ _)
        clear hu z0 z1 z2 z3 z4 zf
        generalize (((((w5.setCell ⟨b4, 0, none⟩ (.int .i64 a)).setCell ⟨b4, 1, none⟩ (.int .i64 b)).setCell ⟨b4, 2, none⟩ (.int .i64 k)).setCell ⟨b4, 3, none⟩ (.int .i64 k2)).setCell ⟨b4, 4, none⟩ (.int .i64 x)) = wE at *
        have y0 : wE.cell? ⟨b4, 0, none⟩ = some (.int .i64 a) := hB.cell 0
        have y1 : wE.cell? ⟨b4, 1, none⟩ = some (.int .i64 b) := hB.cell 1
        have y2 : wE.cell? ⟨b4, 2, none⟩ = some (.int .i64 k) := hB.cell 2
        have y3 : wE.cell? ⟨b4, 3, none⟩ = some (.int .i64 k2) := hB.cell 3
        have y4 : wE.cell? ⟨b4, 4, none⟩ = some (.int .i64 x) := hB.cell 4
        exact bodyPost_ret (v := .agg #[.int .i64 a, .int .i64 b, .int .i64 k, .int .i64 k2, .int .i64 x]) (by simp [results, Try.results33, go_sem, y0, y1, y2, y3, y4]) rfl ⟨congrArg _ HRES.out, ((U6.out.mono (fun _ _ h => h.elim)).trans hU).mono (fun q hq h => by have := HBB.out; omega)⟩
    · have hie : q = l.length := by omega
      subst hie
      have HRES : Hid ((Value.agg #[.int .i64 a, .int .i64 b, .int .i64 k, .int .i64 (-1), .int .i64 0]) = .agg (encJ ((l.drop (i + 1)).foldl upJ (newJ ⟨k, d, a, b⟩))).toArray) := Lib.hid (by
        rw [HFO.out, List.drop_length]
        rfl)
      have x0 : wr.cell? ⟨bx, 0, none⟩ = some (.int .i64 a) := X3.out.cell 0
      have x1 : wr.cell? ⟨bx, 1, none⟩ = some (.int .i64 b) := X3.out.cell 1
      have x2 : wr.cell? ⟨bx, 2, none⟩ = some (.int .i64 k) := X3.out.cell 2
      have x3 : wr.cell? ⟨bx, 3, none⟩ = some (.int .i64 (-1)) := X3.out.cell 3
      have x4 : wr.cell? ⟨bx, 4, none⟩ = some (.int .i64 0) := X3.out.cell 4
      clear hU
      have z0 : wr.cell? ⟨b4, 0, none⟩ = some (.int .i64 0) := Z3.out.cell 0
      have z1 : wr.cell? ⟨b4, 1, none⟩ = some (.int .i64 0) := Z3.out.cell 1
      have z2 : wr.cell? ⟨b4, 2, none⟩ = some (.int .i64 0) := Z3.out.cell 2
      have z3 : wr.cell? ⟨b4, 3, none⟩ = some (.int .i64 0) := Z3.out.cell 3
      have z4 : wr.cell? ⟨b4, 4, none⟩ = some (.int .i64 0) := Z3.out.cell 4
      have zf := fun i => Z3.out.frozen i
      go_wp2_with fail
      have hB : Blk (((((wr.setCell ⟨b4, 0, none⟩ (.int .i64 a)).setCell ⟨b4, 1, none⟩ (.int .i64 b)).setCell ⟨b4, 2, none⟩ (.int .i64 k)).setCell ⟨b4, 3, none⟩ (.int .i64 (-1))).setCell ⟨b4, 4, none⟩ (.int .i64 0)) b4 66 #[.int .i64 a, .int .i64 b, .int .i64 k, .int .i64 (-1), .int .i64 0] := ((((Z3.out.set_ 0 _).set_ 1 _).set_ 2 _).set_ 3 _).set_ 4 _
      have hu : ∀ (W : World) (i : Nat) (u : Value), Upd (fun q => q = b4) W (W.setCell ⟨b4, i, none⟩ u) := fun W i u => (Upd.refl (fun q => q = b4) W).setCell (p := ⟨b4, i, none⟩) (fun _ => rfl) u
      have hU : Upd (fun q => q = b4) wr (((((wr.setCell ⟨b4, 0, none⟩ (.int .i64 a)).setCell ⟨b4, 1, none⟩ (.int .i64 b)).setCell ⟨b4, 2, none⟩ (.int .i64 k)).setCell ⟨b4, 3, none⟩ (.int .i64 (-1))).setCell ⟨b4, 4, none⟩ (.int .i64 0)) := ((((hu _ _ _).trans (hu _ _ _)).trans (hu _ _ _)).trans (hu _ _ _)).trans (hu _ _ _)
      clear hu z0 z1 z2 z3 z4 zf
      generalize (((((wr.setCell ⟨b4, 0, none⟩ (.int .i64 a)).setCell ⟨b4, 1, none⟩ (.int .i64 b)).setCell ⟨b4, 2, none⟩ (.int .i64 k)).setCell ⟨b4, 3, none⟩ (.int .i64 (-1))).setCell ⟨b4, 4, none⟩ (.int .i64 0)) = wE at *
      have y0 : wE.cell? ⟨b4, 0, none⟩ = some (.int .i64 a) := hB.cell 0
      have y1 : wE.cell? ⟨b4, 1, none⟩ = some (.int .i64 b) := hB.cell 1
      have y2 : wE.cell? ⟨b4, 2, none⟩ = some (.int .i64 k) := hB.cell 2
      have y3 : wE.cell? ⟨b4, 3, none⟩ = some (.int .i64 (-1)) := hB.cell 3
      have y4 : wE.cell? ⟨b4, 4, none⟩ = some (.int .i64 0) := hB.cell 4
      exact bodyPost_ret (v := .agg #[.int .i64 a, .int .i64 b, .int .i64 k, .int .i64 (-1), .int .i64 0]) (by simp [results, Try.results33, go_sem, y0, y1, y2, y3, y4]) rfl ⟨congrArg _ HRES.out, ((U4.out.mono (fun _ _ h => h.elim)).trans hU).mono (fun q hq h => by have := HBB.out; omega)⟩

set_option maxRecDepth 100000 in
set_option maxHeartbeats 3200000 in
theorem rJobsC (w : World) (A : Option Addr) (cap : Nat) (l : List En) (hE : ERow w A l) (hl : l.length ≤ 200) :
    Calls Try.prog 19 #[.slice A l.length cap] w fun e w' => ∃ v, e = .returned v ∧ SlR encJ w' w.heap.size 66 5 v (jobsE l) ∧ Upd (fun _ => False) w w' := by
  obtain ⟨i0, hi0, hz0, hz1, hz2⟩ := info_parts infoRJ
  have HE := Lib.hid hE
  have HJE := Lib.hid (jobsE_eq l)
  clear hE
  go_enter Try.func19, Try.ntmps19
  go_wp2_with fail
  go_loopw [3, 4] (fun v3 v4 wr => ∃ (i : Nat) (o : List J5), i ≤ l.length ∧ v4 = .int .i64 i ∧ o ++ jobsR (l.drop i) = jobsR l ∧ o.length ≤ i ∧ SlR encJ wr w.heap.size 66 5 v3 o ∧ Upd (fun _ => False) w wr) (fun _ v4 _ => l.length - (intOf v4).toNat)
  case atStart => exact ⟨0, [], Nat.zero_le _, rfl, rfl, Nat.zero_le _, SlR.nil, Upd.refl _ w⟩
  case round =>
    obtain ⟨i, o, hi', rfl, ho, hol, hO, hU⟩ := hrel
    obtain ⟨Ao, co, rfl⟩ := hO.shape
    have O4 := Lib.hid hO; have U4 := Lib.hid hU; have HOO := Lib.hid ho
    clear hO ho
    by_cases hlt : i < l.length
    · obtain ⟨e, he⟩ : ∃ e, l[i]? = some e := ⟨_, List.getElem?_eq_getElem hlt⟩
      have hdrop : l.drop i = e :: l.drop (i + 1) := by
        rw [List.drop_eq_getElem_cons hlt]
        congr 1
        rw [List.getElem?_eq_getElem hlt] at he
        exact Option.some.inj he
      have HD : Hid (jobsR (l.drop i) = (if e.d = 0 then [(l.drop (i + 1)).foldl upJ (newJ e)] else []) ++ jobsR (l.drop (i + 1))) := Lib.hid (by rw [hdrop]; rfl)
      obtain ⟨vb, vo, rfl, hvb, c0, c1, c2, c3⟩ := (HE.out.still hU) i e he
      have HJ := Lib.hid (rJobC wr _ cap l (HE.out.still hU) (by omega) i e he)
      have dl : decide ((i : Int) < (l.length : Int)) = true := decide_eq_true (by omega)
      have di : decide ((i : Int) < 0) = false := decide_eq_false (by omega)
      clear hdrop he hvb hU
      by_cases hd : e.d = 0
      · have nd : (e.d == 0) = true := beq_iff_eq.2 hd
        have HD2 : Hid (jobsR (l.drop i) = [(l.drop (i + 1)).foldl upJ (newJ e)] ++ jobsR (l.drop (i + 1))) := Lib.hid (by rw [HD.out, if_pos hd])
        clear hd
        go_wp2_with fail
        refine HJ.out.mono ?_
        rintro r w2 ⟨rfl, hU2⟩
        obtain ⟨j, hj⟩ : ∃ j, (l.drop (i + 1)).foldl upJ (newJ e) = j := ⟨_, rfl⟩
        have HJJ := Lib.hid hj
        rw [hj] at HD2 ⊢
        obtain ⟨t, k, f, to, en⟩ := j
        have hagg : (encJ ⟨t, k, f, to, en⟩).toArray = #[.int .i64 t, .int .i64 k, .int .i64 f, .int .i64 to, .int .i64 en] := rfl
        rw [hagg]
        have O5 := Lib.hid (O4.out.upd hU2 (fun _ _ h => h)); have U5 := Lib.hid (U4.out.trans hU2)
        have hsz2 : w.heap.size ≤ (w2.alloc (.cells #[.int .i64 t, .int .i64 k, .int .i64 f, .int .i64 to, .int .i64 en] 66)).heap.size := Nat.le_trans U5.out.size ((Upd.refl (fun _ => False) w2).alloc (.cells #[.int .i64 t, .int .i64 k, .int .i64 f, .int .i64 to, .int .i64 en] 66)).size
        clear hU2 hj hagg O4 U4 HJ
        go_wp2_with (
          at_builtin
          refine wpList_append_sl rfl (.tmp 17) (.tmp 21) 22 rfl w.heap.size 66 i0 _ 5 40 Try.underlying22 hi0 hz0 hz1 hz2 rfl (by decide) (.slice Ao o.length co) o.length (rws encJ o) rfl (Sl.alloc O5.out _) ⟨_, 0, none⟩ 1 [.int .i64 t, .int .i64 k, .int .i64 f, .int .i64 to, .int .i64 en] rfl rfl (fun j u hu => by rw [add_at]; refine ((Blk.new w2 66 #[.int .i64 t, .int .i64 k, .int .i64 f, .int .i64 to, .int .i64 en]).cell j).trans ?_; simpa using hu) (by simp [Value.oneCell']) (by unfold maxLen; omega) (by omega) hsz2 ?_
          intro v9 wZ hs1 hu1 hv1
          obtain ⟨bz, oz, cz, hvz, _, _, _, _⟩ := hs1.form (by omega)
          subst hvz
          have NO : Hid (SlR encJ wZ w.heap.size 66 5 (.slice (some ⟨bz, oz, none⟩) (o.length + 1) cz) (o ++ [⟨t, k, f, to, en⟩])) := Lib.hid (by
            unfold SlR
            rw [rws_append, List.length_append, rws_one]
            exact hs1)
          have NU : Hid (Upd (fun _ => False) w wZ) := Lib.hid ((((U5.out.alloc _).mono (fun _ _ h => h.elim)).trans hu1).mono (fun q hq h => by have := (Sl.blk O5.out q h).1; omega))
          clear hs1 hu1 hv1)
        go_roundw
        case rel => exact ⟨i + 1, o ++ [⟨t, k, f, to, en⟩], by omega, by go_num, by rw [← HOO.out, HD2.out, List.append_assoc], by rw [List.length_append]; simp; omega, NO.out, NU.out⟩
        case measure => simp [intOf]; omega
      · have nd : (e.d == 0) = false := beq_eq_false_iff_ne.2 hd
        have HD2 : Hid (jobsR (l.drop i) = jobsR (l.drop (i + 1))) := Lib.hid (by rw [HD.out, if_neg hd]; rfl)
        clear hd
        go_wp2_with fail
        go_roundw
        case rel => exact ⟨i + 1, o, by omega, by go_num, by rw [← HOO.out, HD2.out], by omega, O4.out, U4.out⟩
        case measure => simp [intOf]; omega
    · have hie : i = l.length := by omega
      subst hie
      have HO : Hid (o = jobsE l) := Lib.hid (by
        have h := HOO.out
        rw [List.drop_length] at h
        rw [HJE.out, ← h]
        simp [jobsR])
      clear hU
      go_wp2_with fail
      go_returns
      exact ⟨_, rfl, by rw [← HO.out]; exact O4.out, U4.out⟩
end Go.Proofs.Ythjebjegedgoeaa
