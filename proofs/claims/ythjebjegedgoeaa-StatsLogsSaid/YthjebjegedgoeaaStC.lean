/-
  Stats: an answer; a task's line and buckets; Add.
-/
import Derived.Test.YthjebjegedgoeaaStB
namespace Go.Proofs.Ythjebjegedgoeaa
open Go.RowKit Go.Shelf Go.Maps Go.Sort
attribute [local go_sem] max_ints min_ints mapEq mapEqN makeMp

def encJ (j : J5) : List Value := [.int .i64 j.t, .int .i64 j.k, .int .i64 j.f, .int .i64 j.o, .int .i64 j.e]
theorem encJ_len (j : J5) : (encJ j).length = 5 := rfl
theorem encJ_one (j : J5) : ∀ u ∈ encJ j, u.oneCell' = true := by
  intro u hu
  simp [encJ] at hu
  rcases hu with rfl | rfl | rfl | rfl | rfl <;> rfl
structure J5.Wf (j : J5) : Prop where
  t : (Lit.int .i64 j.t).wf = true
  f0 : -9223372036854775808 ≤ j.f
  f1 : j.f < 9223372036854775808
  o0 : -9223372036854775808 ≤ j.o
  o1 : j.o < 9223372036854775808

theorem nodup_inj {α β : Type} {f : α → β} {l : List α} (h : (l.map f).Nodup) {a b : α} (ha : a ∈ l) (hb : b ∈ l) (e : f a = f b) : a = b := by
  induction l with
  | nil => cases ha
  | cons x r ih =>
    rw [List.map_cons, List.nodup_cons] at h
    rcases List.mem_cons.1 ha with h1 | h1 <;> rcases List.mem_cons.1 hb with h2 | h2
    · rw [h1, h2]
    · exact absurd (List.mem_map.2 ⟨b, h2, by rw [← e, h1]⟩) h.1
    · exact absurd (List.mem_map.2 ⟨a, h1, by rw [e, h2]⟩) h.1
    · exact ih h.2 h1 h2
def putF {α : Type} (f : Int → α) (t : Int) (x : α) : Int → α := fun s => if s = t then x else f s
theorem TabS.put {w w' : World} {g bm B W : Nat} {ks : KS} {ln : Int → Ln} {ct : Int → List Int} {N : Nat → Prop} (h : TabS w g bm B W ks ln ct N) {t : Int} {k c : Nat} (he : (t, k, c) ∈ ks) (hu : Upd (fun q => q = k ∨ q = c) w w')
    {x : Ln} {cs : List Int} (hk : Blk w' k 62 (encK t x c B)) (hc : SlR encI w' c 3 1 (.slice (some ⟨c, 0, none⟩) B B) cs) : TabS w' g bm B W ks (putF ln t x) (putF ct t cs) N := by
  have h1 := h.e _ he
  obtain ⟨_, _, cur, hcur⟩ := Sl.blk h1.cn _ rfl
  refine ⟨h.b.upd hu (fun e => ?_), h.m.upd hu (fun e => ?_), fun e he' => ?_, h.n1, h.n2, h.n3, h.ng, h.nm, h.nk⟩
  · rcases e with e | e
    · exact h.b.ne_ h1.kn (by decide) e
    · exact h.b.ne_ hcur (by decide) e
  · rcases e with e | e
    · exact h.m.ne_ h1.kn e.symm
    · exact h.m.ne_ hcur e.symm
  · by_cases ht : e.1 = t
    · have := nodup_inj h.n1 he' he ht
      subst this
      refine ⟨?_, ?_⟩
      · show Blk w' k _ (encK t (putF ln t x t) c B)
        unfold putF; rw [if_pos rfl]; exact hk
      · show SlR encI w' c _ 1 _ (putF ct t cs t)
        unfold putF; rw [if_pos rfl]; exact hc
    · have h2 := h.e e he'
      obtain ⟨_, _, cur2, hcur2⟩ := Sl.blk h2.cn _ rfl
      have e1 : putF ln t x e.1 = ln e.1 := by unfold putF; rw [if_neg ht]
      have e2 : putF ct t cs e.1 = ct e.1 := by unfold putF; rw [if_neg ht]
      have h3 := h2.upd hu (fun q => by
        rcases q with q | q
        · exact ht (congrArg Prod.fst (nodup_inj h.n2 he' he q))
        · exact h2.kn.ne_ hcur (by decide) q) (fun q => by
        rcases q with q | q
        · exact h1.kn.ne_ hcur2 (by decide) q.symm
        · exact ht (congrArg Prod.fst (nodup_inj h.n3 he' he q)))
      exact ⟨by rw [e1]; exact h3.kn, by rw [e2]; exact h3.cn⟩

theorem wrap_in (x : Int) (h0 : -9223372036854775808 ≤ x) (h1 : x ≤ 9223372036854775807) : IntKind.i64.wrap x = x := by rw [IntKind.wrap_i64]; omega
theorem add_at (B j : Nat) : (⟨B, 0, none⟩ : Addr).add j = ⟨B, j, none⟩ := by unfold Addr.add; split <;> simp_all
theorem wrap_far (x : Int) (h1 : 1048576 ≤ x) (h2 : x < 18446744073709551616) : IntKind.i64.wrap x < 0 ∨ 1048576 ≤ IntKind.i64.wrap x := by
  unfold IntKind.wrap
  simp [IntKind.bits, IntKind.signed]
  omega
set_option maxRecDepth 100000 in
set_option maxHeartbeats 1600000 in
theorem answerC (w : World) (j : J5) (hj : j.Wf) :
    Calls Try.prog 23 #[.agg (encJ j).toArray] w fun e w' => ∃ a, e = .returned (.tuple #[.int .i64 a, .bool (decide (0 < ansJ j))]) ∧ (0 < ansJ j → a = ansJ j) ∧ Upd (fun _ => False) w w' := by
  obtain ⟨t, k, f, o, e⟩ := j
  obtain ⟨_, f0, f1, o0, o1⟩ := hj
  dsimp only at f0 f1 o0 o1
  have hU : Hid (Upd (fun _ => False) w (w.alloc (.cells #[.int .i64 t, .int .i64 k, .int .i64 f, .int .i64 o, .int .i64 e] 58))) := Lib.hid ((Upd.refl _ w).alloc _)
  have hans : ansJ ⟨t, k, f, o, e⟩ = if e = 1 ∧ f ≤ o ∧ o - f < 1048576 then o - f + 1 else 0 := rfl
  have HA := Lib.hid hans
  have HE : (encJ ⟨t, k, f, o, e⟩).toArray = #[.int .i64 t, .int .i64 k, .int .i64 f, .int .i64 o, .int .i64 e] := rfl
  rw [HE]
  clear HE hans
  by_cases h1 : e = 1
  · have b1 : (e == 1) = true := by rw [h1]; rfl
    have b1' : decide (e = 1) = true := decide_eq_true h1
    by_cases h2 : f ≤ o
    · have g3 : decide (f ≤ o) = true := decide_eq_true h2
      by_cases h3 : o - f < 1048576
      · have hd : IntKind.i64.wrap (o - f) = o - f := wrap_in _ (by omega) (by omega)
        have g1 : decide (0 ≤ o - f) = true := decide_eq_true (by omega)
        have g2 : decide (o - f < 1048576) = true := decide_eq_true h3
        have ha : ansJ ⟨t, k, f, o, e⟩ = o - f + 1 := by rw [HA.out, if_pos ⟨h1, h2, h3⟩]
        have hq : decide (0 < ansJ ⟨t, k, f, o, e⟩) = true := decide_eq_true (by rw [ha]; omega)
        have HQ := Lib.hid ha
        rw [hq]
        clear hq ha HA h1
        go_enter Try.func23, Try.ntmps23
        go_wp2_with fail
        go_returns
        exact ⟨_, rfl, fun _ => HQ.out.symm, hU.out⟩
      · have ha : ansJ ⟨t, k, f, o, e⟩ = 0 := by rw [HA.out, if_neg (fun h => h3 h.2.2)]
        have hq : decide (0 < ansJ ⟨t, k, f, o, e⟩) = false := decide_eq_false (by rw [ha]; omega)
        have HQ : Hid (¬ 0 < ansJ ⟨t, k, f, o, e⟩) := Lib.hid (by rw [ha]; omega)
        rw [hq]
        obtain ⟨d, hd⟩ : ∃ d, IntKind.i64.wrap (o - f) = d := ⟨_, rfl⟩
        have hfar := wrap_far (o - f) (by omega) (by omega)
        rw [hd] at hfar
        obtain ⟨d1, hd1⟩ : ∃ d1, IntKind.i64.wrap (d + 1) = d1 := ⟨_, rfl⟩
        clear hq ha HA h1 h3
        rcases hfar with hneg | hpos
        · have g1 : decide (0 ≤ d) = false := decide_eq_false (by omega)
          go_enter Try.func23, Try.ntmps23
          go_wp2_with fail
          go_returns
          exact ⟨_, rfl, fun h => absurd h (Int.not_lt.2 HQ.out), hU.out⟩
        · have g1 : decide (0 ≤ d) = true := decide_eq_true (by omega)
          have g2 : decide (d < 1048576) = false := decide_eq_false (by omega)
          go_enter Try.func23, Try.ntmps23
          go_wp2_with fail
          go_returns
          exact ⟨_, rfl, fun h => absurd h (Int.not_lt.2 HQ.out), hU.out⟩
    · have g3 : decide (f ≤ o) = false := decide_eq_false h2
      have ha : ansJ ⟨t, k, f, o, e⟩ = 0 := by rw [HA.out, if_neg (fun h => h2 h.2.1)]
      have hq : decide (0 < ansJ ⟨t, k, f, o, e⟩) = false := decide_eq_false (by rw [ha]; omega)
      have HQ : Hid (¬ 0 < ansJ ⟨t, k, f, o, e⟩) := Lib.hid (by rw [ha]; omega)
      rw [hq]
      obtain ⟨d, hd⟩ : ∃ d, IntKind.i64.wrap (o - f) = d := ⟨_, rfl⟩
      obtain ⟨d1, hd1⟩ : ∃ d1, IntKind.i64.wrap (d + 1) = d1 := ⟨_, rfl⟩
      clear hq ha HA h1
      go_enter Try.func23, Try.ntmps23
      go_wp2_with fail
      go_returns
      exact ⟨_, rfl, fun h => absurd h (Int.not_lt.2 HQ.out), hU.out⟩
  · have b1 : (e == 1) = false := beq_eq_false_iff_ne.2 h1
    have b1' : decide (e = 1) = false := decide_eq_false h1
    have ha : ansJ ⟨t, k, f, o, e⟩ = 0 := by rw [HA.out, if_neg (fun h => h1 h.1)]
    have hq : decide (0 < ansJ ⟨t, k, f, o, e⟩) = false := decide_eq_false (by rw [ha]; omega)
    have HQ : Hid (¬ 0 < ansJ ⟨t, k, f, o, e⟩) := Lib.hid (by rw [ha]; omega)
    rw [hq]
    obtain ⟨d, hd⟩ : ∃ d, IntKind.i64.wrap (o - f) = d := ⟨_, rfl⟩
    obtain ⟨d1, hd1⟩ : ∃ d1, IntKind.i64.wrap (d + 1) = d1 := ⟨_, rfl⟩
    clear hq ha HA h1
    go_enter Try.func23, Try.ntmps23
    go_wp2_with fail
    go_returns
    exact ⟨_, rfl, fun h => absurd h (Int.not_lt.2 HQ.out), hU.out⟩
end Go.Proofs.Ythjebjegedgoeaa
