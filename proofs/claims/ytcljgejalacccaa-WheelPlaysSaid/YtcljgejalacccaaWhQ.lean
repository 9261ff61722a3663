/-
  The wheel: a tick as the program takes it, slot by slot. No program in sight.
-/
import Derived.Test.YtcljgejalacccaaWhM
namespace Go.Proofs.Ytcljgejalacccaa

structure GSt where
  at_ : Nat → Int
  sl : Nat → List Nat
  due : List Nat
  n : Nat
/-- One timer of a slot that turns. -/
def gStep (b : Nat) (s : GSt) (i : Nat) : GSt :=
  if s.at_ i = b then { s with at_ := fput s.at_ i (-1), due := s.due ++ [i], n := s.n - 1 }
  else { s with sl := fput s.sl (plc b (s.at_ i).toNat) (s.sl (plc b (s.at_ i).toNat) ++ [i]) }
def slotJ (b L : Nat) : Nat := L * 16 + dig b L
theorem slotJ_lt (b L : Nat) (h : L ≤ 15) : slotJ b L < 256 := by have := dig_lt b L; unfold slotJ; omega
def gOpen (b : Nat) (s : GSt) (L : Nat) : GSt := { s with sl := fput s.sl (slotJ b L) [] }
/-- One slot that turns. -/
def gProc (b : Nat) (s : GSt) (L : Nat) : GSt := (s.sl (slotJ b L)).foldl (gStep b) (gOpen b s L)

/-- What always holds; rest: those that are taken out, and not yet laid anew. -/
structure GG (b c : Nat) (s : GSt) (rest : List Nat) : Prop where
  hb : b ≤ 4611686018427387904
  m : ∀ j, j < 256 → ∀ i, i ∈ s.sl j → i < 256 ∧ (b : Int) ≤ s.at_ i ∧ s.at_ i ≤ 4611686018427387904
  r : ∀ i, i ∈ rest → i < 256 ∧ (b : Int) ≤ s.at_ i ∧ s.at_ i ≤ 4611686018427387904
  n : ∀ j, j < 256 → (s.sl j).Nodup
  nr : rest.Nodup
  d : ∀ i j j', j < 256 → j' < 256 → i ∈ s.sl j → i ∈ s.sl j' → j = j'
  dr : ∀ i j, j < 256 → i ∈ s.sl j → i ∉ rest
  cn : s.n = cntA s.at_ 256
  q : s.due.length + s.n = c
theorem GG.open_ {b c : Nat} {s : GSt} (h : GG b c s []) (L : Nat) (hL : L ≤ 15) : GG b c (gOpen b s L) (s.sl (slotJ b L)) := by
  have hJ := slotJ_lt b L hL
  have key : ∀ j i, i ∈ fput s.sl (slotJ b L) [] j → j ≠ slotJ b L ∧ i ∈ s.sl j := fun j i hi => by
    by_cases e : j = slotJ b L
    · subst e; rw [fput_eq] at hi; cases hi
    · rw [fput_ne _ _ e] at hi; exact ⟨e, hi⟩
  refine ⟨h.hb, fun j hj i hi => h.m j hj i (key j i hi).2, fun i hi => h.m _ hJ i hi, fun j hj => ?_, h.n _ hJ, fun i j j' hj hj' h1 h2 => h.d i j j' hj hj' (key j i h1).2 (key j' i h2).2, fun i j hj h1 h2 => (key j i h1).1 (h.d i j _ hj hJ (key j i h1).2 h2), h.cn, h.q⟩
  show (fput s.sl (slotJ b L) [] j).Nodup
  by_cases e : j = slotJ b L
  · subst e; rw [fput_eq]; exact List.nodup_nil
  · rw [fput_ne _ _ e]; exact h.n j hj
theorem GG.due_ {b c : Nat} {s : GSt} {i : Nat} {rest : List Nat} (h : GG b c s (i :: rest)) (hd : s.at_ i = b) : GG b c { s with at_ := fput s.at_ i (-1), due := s.due ++ [i], n := s.n - 1 } rest := by
  have hi := h.r i (by simp)
  have hnr := List.nodup_cons.1 h.nr
  have hcn := cntA_cancel s.at_ i 256 hi.1 (by omega)
  have ne : ∀ j x, j < 256 → x ∈ s.sl j → x ≠ i := fun j x hj hx e => h.dr x j hj hx (by rw [e]; simp)
  have hc := h.cn
  have hq := h.q
  refine ⟨h.hb, fun j hj x hx => ?_, fun x hx => ?_, h.n, hnr.2, h.d, fun x j hj hx hr => h.dr x j hj hx (by simp [hr]), ?_, ?_⟩
  · show x < 256 ∧ (b : Int) ≤ fput s.at_ i (-1) x ∧ fput s.at_ i (-1) x ≤ _
    rw [fput_ne _ _ (ne j x hj hx)]; exact h.m j hj x hx
  · show x < 256 ∧ (b : Int) ≤ fput s.at_ i (-1) x ∧ fput s.at_ i (-1) x ≤ _
    rw [fput_ne _ _ (fun e => hnr.1 (by rw [← e]; exact hx))]; exact h.r x (by simp [hx])
  · show s.n - 1 = cntA (fput s.at_ i (-1)) 256
    omega
  · show (s.due ++ [i]).length + (s.n - 1) = c
    rw [List.length_append]; simp; omega
theorem GG.lay_ {b c : Nat} {s : GSt} {i : Nat} {rest : List Nat} (h : GG b c s (i :: rest)) : GG b c { s with sl := fput s.sl (plc b (s.at_ i).toNat) (s.sl (plc b (s.at_ i).toNat) ++ [i]) } rest := by
  have hi := h.r i (by simp)
  have hnr := List.nodup_cons.1 h.nr
  have hJ := plc_lt b (s.at_ i).toNat
  generalize plc b (s.at_ i).toNat = J at *
  have ne : ∀ j x, j < 256 → x ∈ s.sl j → x ≠ i := fun j x hj hx e => h.dr x j hj hx (by rw [e]; simp)
  have key : ∀ j x, x ∈ fput s.sl J (s.sl J ++ [i]) j → x ∈ s.sl j ∨ (x = i ∧ j = J) := fun j x hx => by
    by_cases e : j = J
    · subst e; rw [fput_eq] at hx
      rcases List.mem_append.1 hx with hx | hx
      · exact .inl hx
      · exact .inr ⟨by simpa using hx, rfl⟩
    · rw [fput_ne _ _ e] at hx; exact .inl hx
  refine ⟨h.hb, fun j hj x hx => ?_, fun x hx => h.r x (by simp [hx]), fun j hj => ?_, hnr.2, fun x j j' hj hj' h1 h2 => ?_, fun x j hj hx hr => ?_, h.cn, h.q⟩
  · rcases key j x hx with h1 | ⟨rfl, _⟩
    · exact h.m j hj x h1
    · exact hi
  · show (fput s.sl J (s.sl J ++ [i]) j).Nodup
    by_cases e : j = J
    · subst e; rw [fput_eq]
      refine List.nodup_append.2 ⟨h.n j hj, by simp, fun a ha b' hb e => ?_⟩
      rw [List.mem_singleton] at hb
      exact ne j a hj ha (e.trans hb)
    · rw [fput_ne _ _ e]; exact h.n j hj
  · rcases key j x h1 with h1 | ⟨e1, e2⟩ <;> rcases key j' x h2 with h2 | ⟨e3, e4⟩
    · exact h.d x j j' hj hj' h1 h2
    · exact absurd e3 (ne j x hj h1)
    · exact absurd e1 (ne j' x hj' h2)
    · rw [e2, e4]
  · rcases key j x hx with h1 | ⟨rfl, _⟩
    · exact h.dr x j hj h1 (by simp [hr])
    · exact hnr.1 hr
theorem GG.step {b c : Nat} {s : GSt} {i : Nat} {rest : List Nat} (h : GG b c s (i :: rest)) : GG b c (gStep b s i) rest := by
  unfold gStep
  split
  · exact h.due_ ‹_›
  · exact h.lay_
theorem GG.fold {b c : Nat} : ∀ (l : List Nat) {s : GSt} {rest : List Nat}, GG b c s (l ++ rest) → GG b c (l.foldl (gStep b) s) rest
  | [], _, _, h => h
  | i :: l, s, _, h => GG.fold l (s := gStep b s i) h.step
theorem GG.proc {b c : Nat} {s : GSt} (h : GG b c s []) (L : Nat) (hL : L ≤ 15) : GG b c (gProc b s L) [] := GG.fold _ (by rw [List.append_nil]; exact h.open_ L hL)
theorem GG.len {b c : Nat} {s : GSt} {rest : List Nat} (h : GG b c s rest) (hc : c ≤ 256) : s.due.length ≤ 256 ∧ s.n ≤ 256 := by have := h.q; omega
theorem nodup_len' {l : List Nat} (hn : l.Nodup) (n : Nat) (h : ∀ i ∈ l, i < n) : l.length ≤ n := by
  have hp : l.Perm ((List.range n).filter (fun i => decide (i ∈ l))) := by
    refine (List.perm_ext_iff_of_nodup hn (List.nodup_range.filter _)).2 (fun i => ?_)
    simp only [List.mem_filter, List.mem_range, decide_eq_true_eq]
    exact ⟨fun hi => ⟨h i hi, hi⟩, fun hi => hi.2⟩
  rw [hp.length_eq]
  exact Nat.le_trans (List.length_filter_le _ _) (by simp)
theorem GG.sl_len {b c : Nat} {s : GSt} {rest : List Nat} (h : GG b c s rest) (j : Nat) (hj : j < 256) : (s.sl j).length ≤ 256 := nodup_len' (h.n j hj) 256 (fun i hi => (h.m j hj i hi).1)

/-! ### At the beginning, and at the end -/
theorem Inv.gg {a : Nat} {at_ : Nat → Int} {sl : Nat → List Nat} (h : Inv a at_ sl) (hb : a + 1 ≤ 4611686018427387904) : GG (a + 1) (cntA at_ 256) ⟨at_, sl, [], cntA at_ 256⟩ [] := by
  refine ⟨hb, fun j hj i hi => ?_, fun i hi => (by cases hi), h.n, List.nodup_nil, fun i j j' hj hj' h1 h2 => ?_, fun i j _ _ hr => (by cases hr), rfl, by simp⟩
  · obtain ⟨h1, h2, _⟩ := (h.m j hj i).1 hi
    have := (h.h i h1).resolve_left h2
    exact ⟨h1, by show ((a + 1 : Nat) : Int) ≤ at_ i; omega, this.2⟩
  · exact ((h.m j hj i).1 h1).2.2.symm.trans ((h.m j' hj' i).1 h2).2.2
/-- The slot that turns first: as many as k of it are through. -/
theorem ginv_fold {a : Nat} {at0 : Nat → Int} {l : List Nat} (hg : GIn a at0 l) : ∀ (k : Nat) (s0 : GSt), k ≤ l.length → GInv (a + 1) at0 l 0 s0.at_ s0.sl → s0.at_ = at0 → s0.due = [] →
    GInv (a + 1) at0 l k ((l.take k).foldl (gStep (a + 1)) s0).at_ ((l.take k).foldl (gStep (a + 1)) s0).sl ∧ ((l.take k).foldl (gStep (a + 1)) s0).due = dueL (a + 1) at0 (l.take k)
  | 0, s0, _, h, _, hd => by rw [List.take_zero]; exact ⟨h, hd⟩
  | k + 1, s0, hk, h, ha, hd => by
    obtain ⟨h1, h2⟩ := ginv_fold hg k s0 (by omega) h ha hd
    obtain ⟨i, hi⟩ : ∃ i, l[k]? = some i := ⟨_, List.getElem?_eq_getElem (by omega)⟩
    have ht : l.take (k + 1) = l.take k ++ [i] := by rw [List.take_add_one, hi]; rfl
    have hds := dueL_step (b := a + 1) (at0 := at0) hi
    rw [ht] at hds
    rw [ht, List.foldl_append]
    generalize (l.take k).foldl (gStep (a + 1)) s0 = s at *
    have hat := h1.at_ hg.n hi
    obtain ⟨hi1, hi2, _⟩ := (hg.m i).1 (List.mem_of_getElem? hi)
    simp only [List.foldl_cons, List.foldl_nil]
    unfold gStep
    rw [hat]
    by_cases e : at0 i = ((a + 1 : Nat) : Int)
    · rw [if_pos e, hds, if_pos e, ← h2]
      exact ⟨h1.due hg.n hi e, rfl⟩
    · rw [if_neg e, hds, if_neg e, List.append_nil, ← h2]
      exact ⟨h1.lay hg.n hi hi1 e hi2, rfl⟩
def gAll (b : Nat) (s : GSt) (Ls : List Nat) : GSt := Ls.foldl (gProc b) s
def downT (h : Nat) : Nat → List Nat
  | 0 => []
  | k + 1 => downT h k ++ [h - k]
theorem downT_len (h : Nat) : ∀ k, (downT h k).length = k
  | 0 => rfl
  | k + 1 => by simp [downT, downT_len h k]
theorem gg_all {b c : Nat} : ∀ (Ls : List Nat) {s : GSt}, GG b c s [] → (∀ L ∈ Ls, L ≤ 15) → GG b c (gAll b s Ls) []
  | [], _, h, _ => h
  | L :: Ls, s, h, hL => gg_all Ls (s := gProc b s L) (h.proc L (hL L (by simp))) (fun x hx => hL x (by simp [hx]))
theorem gAll_snoc (b : Nat) (s : GSt) (Ls : List Nat) (L : Nat) : gAll b s (Ls ++ [L]) = gProc b (gAll b s Ls) L := by unfold gAll; rw [List.foldl_append]; rfl
/-- The whole tick. -/
theorem tick_all {a : Nat} {at0 : Nat → Int} {sl : Nat → List Nat} (h : Inv a at0 sl) (hb : a + 1 ≤ 4611686018427387904) (n : Nat) (k : Nat) (hk : k ≤ hi (a + 1)) :
    Inv (a + 1) (goneA (a + 1) at0) (gAll (a + 1) ⟨at0, sl, [], n⟩ (downT (hi (a + 1)) (k + 1))).sl ∧ (∀ i, i < 256 → (gAll (a + 1) ⟨at0, sl, [], n⟩ (downT (hi (a + 1)) (k + 1))).at_ i = goneA (a + 1) at0 i) ∧
      (gAll (a + 1) ⟨at0, sl, [], n⟩ (downT (hi (a + 1)) (k + 1))).due = dueL (a + 1) at0 (sl (topS (a + 1))) := by
  induction k with
  | zero =>
    have e : gAll (a + 1) ⟨at0, sl, [], n⟩ (downT (hi (a + 1)) 1) = (sl (topS (a + 1))).foldl (gStep (a + 1)) ⟨at0, fput sl (topS (a + 1)) [], [], n⟩ := rfl
    have hg := h.gin hb
    obtain ⟨h1, h2⟩ := ginv_fold hg (sl (topS (a + 1))).length ⟨at0, fput sl (topS (a + 1)) [], [], n⟩ (Nat.le_refl _) (h.gstart hb) rfl rfl
    rw [List.take_length] at h1 h2
    rw [e]
    refine ⟨h1.done hg, fun i hi => ?_, h2⟩
    rw [h1.a i, List.take_length]
    unfold goneA
    by_cases e : at0 i = ((a + 1 : Nat) : Int)
    · rw [if_pos e, if_pos ⟨hg.due hi e, e⟩]
    · rw [if_neg e, if_neg (fun h => e h.2)]
  | succ k ih =>
    obtain ⟨h1, h2, h3⟩ := ih (by omega)
    have hlow := h1.low hb (hi (a + 1) - (k + 1)) (by have := hi_le (a + 1); omega)
    have e : downT (hi (a + 1)) (k + 1 + 1) = downT (hi (a + 1)) (k + 1) ++ [hi (a + 1) - (k + 1)] := rfl
    rw [e, gAll_snoc]
    generalize gAll (a + 1) ⟨at0, sl, [], n⟩ (downT (hi (a + 1)) (k + 1)) = s at *
    have hs : gProc (a + 1) s (hi (a + 1) - (k + 1)) = s := by
      unfold gProc
      rw [show slotJ (a + 1) (hi (a + 1) - (k + 1)) = (hi (a + 1) - (k + 1)) * 16 + dig (a + 1) (hi (a + 1) - (k + 1)) from rfl, hlow]
      unfold gOpen
      have : fput s.sl (slotJ (a + 1) (hi (a + 1) - (k + 1))) [] = s.sl := by
        funext j
        by_cases e : j = slotJ (a + 1) (hi (a + 1) - (k + 1))
        · rw [e, fput_eq]; exact hlow.symm
        · rw [fput_ne _ _ e]
      rw [this]
      rfl
    rw [hs]
    exact ⟨h1, h2, h3⟩
end Go.Proofs.Ytcljgejalacccaa
