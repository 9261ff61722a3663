/-
  Stats: an entry: does it break all, what does it end; the follower's state.
-/
import Derived.Test.YthjebjegedgoeaaStY
import Derived.Test.YthjebjegedgoeaaStLP
import Derived.Test.YthjebjegedgoeaaMapV
namespace Go.Proofs.Ythjebjegedgoeaa
open Go.RowKit Go.Maps
attribute [local go_sem] max_ints min_ints

def encN (e : En) : List Value := [.int .i64 e.k, .int .i64 e.d, .int .i64 e.a, .int .i64 e.b]
theorem encN_len (e : En) : (encN e).length = 4 := rfl
theorem encN_one (e : En) : ∀ u ∈ encN e, u.oneCell' = true := by
  intro u hu
  simp [encN] at hu
  rcases hu with rfl | rfl | rfl | rfl <;> rfl

set_option maxRecDepth 100000 in
theorem breaksC (w : World) (e : En) :
    Calls Try.prog 45 #[.agg #[.int .i64 e.k, .int .i64 e.d, .int .i64 e.a, .int .i64 e.b]] w fun r w' => r = .returned (.bool (decide (brkE e))) ∧ Upd (fun _ => False) w w' := by
  obtain ⟨k, d, a, b⟩ := e
  have hU : Hid (Upd (fun _ => False) w (w.alloc (.cells #[.int .i64 k, .int .i64 d, .int .i64 a, .int .i64 b] 52))) := Lib.hid ((Upd.refl _ w).alloc _)
  dsimp only
  by_cases h1 : d = 13
  · have hb : decide (brkE ⟨k, d, a, b⟩) = true := decide_eq_true (.inl h1)
    rw [hb]
    clear hb
    subst h1
    go_enter Try.func45, Try.ntmps45
    go_wp2_with fail
    go_returns
    exact ⟨rfl, hU.out⟩
  · have n1 : (d == 13) = false := beq_eq_false_iff_ne.2 h1
    by_cases h2 : d = 12
    · by_cases h3 : b = 0
      · have hb : decide (brkE ⟨k, d, a, b⟩) = false := decide_eq_false (fun h => by rcases h with h | h; exact h1 h; exact h.2 h3)
        rw [hb]
        clear hb n1 h1
        subst h2; subst h3
        go_enter Try.func45, Try.ntmps45
        go_wp2_with fail
        go_returns
        exact ⟨rfl, hU.out⟩
      · have hb : decide (brkE ⟨k, d, a, b⟩) = true := decide_eq_true (.inr ⟨h2, h3⟩)
        have n3 : (b != 0) = true := bne_iff_ne.2 h3
        rw [hb]
        clear hb n1 h1
        subst h2
        go_enter Try.func45, Try.ntmps45
        go_wp2_with fail
        go_returns
        exact ⟨rfl, hU.out⟩
    · have hb : decide (brkE ⟨k, d, a, b⟩) = false := decide_eq_false (fun h => by rcases h with h | h; exact h1 h; exact h2 h.1)
      have n2 : (d == 12) = false := beq_eq_false_iff_ne.2 h2
      rw [hb]
      clear hb
      go_enter Try.func45, Try.ntmps45
      go_wp2_with fail
      go_returns
      exact ⟨rfl, hU.out⟩

set_option maxRecDepth 100000 in
theorem endsC (w : World) (e : En) :
    Calls Try.prog 47 #[.agg #[.int .i64 e.k, .int .i64 e.d, .int .i64 e.a, .int .i64 e.b]] w fun r w' => r = .returned (.int .i64 (endK e.d)) ∧ Upd (fun _ => False) w w' := by
  obtain ⟨k, d, a, b⟩ := e
  have hU : Hid (Upd (fun _ => False) w (w.alloc (.cells #[.int .i64 k, .int .i64 d, .int .i64 a, .int .i64 b] 52))) := Lib.hid ((Upd.refl _ w).alloc _)
  dsimp only
  by_cases h1 : d = 4
  · subst h1
    go_enter Try.func47, Try.ntmps47
    go_wp2_with fail
    go_returns
    exact ⟨rfl, hU.out⟩
  · by_cases h2 : d = 5
    · subst h2
      go_enter Try.func47, Try.ntmps47
      go_wp2_with fail
      go_returns
      exact ⟨rfl, hU.out⟩
    · by_cases h3 : d = 6
      · subst h3
        go_enter Try.func47, Try.ntmps47
        go_wp2_with fail
        go_returns
        exact ⟨rfl, hU.out⟩
      · by_cases h4 : d = 8
        · subst h4
          go_enter Try.func47, Try.ntmps47
          go_wp2_with fail
          go_returns
          exact ⟨rfl, hU.out⟩
        · have hk : endK d = 0 := by unfold endK; rw [if_neg h1, if_neg h2, if_neg h3, if_neg h4]
          have n1 : (d == 4) = false := beq_eq_false_iff_ne.2 h1
          have n2 : (d == 5) = false := beq_eq_false_iff_ne.2 h2
          have n3 : (d == 6) = false := beq_eq_false_iff_ne.2 h3
          have n4 : (d == 8) = false := beq_eq_false_iff_ne.2 h4
          rw [hk]
          clear hk
          go_enter Try.func47, Try.ntmps47
          go_wp2_with fail
          go_returns
          exact ⟨rfl, hU.out⟩

def idx (l : List Nat) : List Int := l.map (fun k : Nat => (k : Int))
theorem idx_len (l : List Nat) : (idx l).length = l.length := by simp [idx]
theorem idx_at {l : List Nat} {i k : Nat} (h : l[i]? = some k) : (idx l)[i]? = some (k : Int) := by simp [idx, h]
/-- A follower at f: its jobs in jv, its open jobs in the map bo, its lasts in the map bl. -/
structure FoS (w : World) (f bo bl base n : Nat) (jv : Value) (hi : Bool) (J : List J5) (es ls : EsV) : Prop where
  b : Blk w f 92 #[jv, .map (some bo), .bool hi, .map (some bl)]
  j : SlR encJ w base 58 5 jv J
  m : MpV w bo n es
  l : MpV w bl n ls
  n1 : (es.map Prod.fst).Nodup
  e : ∀ e ∈ es, SlR encI w base 3 1 e.2 (idx (openI J e.1)) ∧ openI J e.1 ≠ [] ∧ (Lit.int .i64 e.1).wf = true
  k : ∀ t, openI J t ≠ [] → t ∈ es.map Prod.fst
  ap : es.Pairwise (fun x y => ∀ q, slBlk x.2 = some q → slBlk y.2 ≠ some q)
  hf : base ≤ f
  ho : base ≤ bo
  hl : base ≤ bl
  ne : bo ≠ bl
theorem apart_of {es : EsV} (h : es.Pairwise (fun x y => ∀ q, slBlk x.2 = some q → slBlk y.2 ≠ some q)) {x y : Int × Value} (hx : x ∈ es) (hy : y ∈ es) (hne : x ≠ y) : ∀ q, slBlk x.2 = some q → slBlk y.2 = some q → False := by
  induction es with
  | nil => cases hx
  | cons z r ih =>
    obtain ⟨h1, h2⟩ := List.pairwise_cons.1 h
    intro q hq1 hq2
    rcases List.mem_cons.1 hx with e1 | e1 <;> rcases List.mem_cons.1 hy with e2 | e2
    · exact hne (e1.trans e2.symm)
    · rw [e1] at hq1; exact h1 y e2 q hq1 hq2
    · rw [e2] at hq2; exact h1 x e1 q hq2 hq1
    · exact ih h2 e1 e2 q hq1 hq2
section
variable {w w' : World} {f bo bl base n : Nat} {jv : Value} {hi : Bool} {J : List J5} {es ls : EsV} {S : Nat → Prop}
theorem FoS.upd (h : FoS w f bo bl base n jv hi J es ls) (hu : Upd S w w') (h1 : ¬ S f) (h2 : ∀ q, slBlk jv = some q → ¬ S q) (h3 : ¬ S bo) (h4 : ¬ S bl) (h5 : ∀ e ∈ es, ∀ q, slBlk e.2 = some q → ¬ S q) : FoS w' f bo bl base n jv hi J es ls :=
  ⟨h.b.upd hu h1, h.j.upd hu h2, h.m.upd hu h3, h.l.upd hu h4, h.n1, fun e he => ⟨(h.e e he).1.upd hu (h5 e he), (h.e e he).2⟩, h.k, h.ap, h.hf, h.ho, h.hl, h.ne⟩
theorem FoS.still (h : FoS w f bo bl base n jv hi J es ls) (hu : Upd (fun _ => False) w w') : FoS w' f bo bl base n jv hi J es ls :=
  h.upd hu (fun h => h) (fun _ _ h => h) (fun h => h) (fun h => h) (fun _ _ _ _ h => h)
/-- What a look-up of the open jobs says. -/
theorem FoS.lk (h : FoS w f bo bl base n jv hi J es ls) (t : Int) : SlR encI w base 3 1 (lkV es (.slice none 0 0) t) (idx (openI J t)) := by
  by_cases ht : t ∈ es.map Prod.fst
  · obtain ⟨⟨t', v⟩, he, rfl⟩ := List.mem_map.1 ht
    rw [lkV_mem h.n1 he]
    exact (h.e _ he).1
  · rw [lkV_none ht]
    have : openI J t = [] := Classical.byContradiction (fun hne => ht (h.k t hne))
    rw [this]
    exact SlR.nil
theorem FoS.lkB (h : FoS w f bo bl base n jv hi J es ls) (t : Int) (q : Nat) (hq : slBlk (lkV es (.slice none 0 0) t) = some q) : base ≤ q ∧ q < w.heap.size ∧ q ≠ f ∧ q ≠ bo ∧ q ≠ bl ∧ slBlk jv ≠ some q ∧ ∀ e ∈ es, e.1 ≠ t → slBlk e.2 ≠ some q := by
  have h0 := h.lk t
  obtain ⟨h1, h2, cur, hc⟩ := Sl.blk h0 q hq
  refine ⟨h1, h2, fun e => ?_, h.m.ne_ hc, h.l.ne_ hc, fun e => ?_, fun e he hne hs => ?_⟩
  · rw [e] at hc; exact hc.ne_ h.b (by decide) rfl
  · obtain ⟨_, _, cur2, hc2⟩ := Sl.blk h.j q e
    exact hc.ne_ hc2 (by decide) rfl
  · by_cases ht : t ∈ es.map Prod.fst
    · obtain ⟨⟨t', v⟩, he', rfl⟩ := List.mem_map.1 ht
      rw [lkV_mem h.n1 he'] at hq
      have hp := h.ap
      have := apart_of hp he he' (fun e => hne (congrArg Prod.fst e)) q hs hq
      exact this
    · rw [lkV_none ht] at hq
      cases hq
end
end Go.Proofs.Ythjebjegedgoeaa
