/-
  The walk of latency.Longest.
-/
import Derived.Test.YtnfajehocljbnaaLatE
namespace Go.Proofs.Ytnfajehocljbnaa
open Go.RowKit
attribute [local go_sem] max_ints min_ints

theorem SlR.rd {α : Type} {enc : α → List Value} {size : Nat} (he : ∀ x, (enc x).length = size) {w : World} {base : Nat} {t : TypeId} {A : Option Addr} {n cap : Nat} {xs : List α} (h : SlR enc w base t size (.slice A n cap) xs) (i : Nat) (x : α) (hx : xs[i]? = some x) :
    ∃ b o, A = some ⟨b, o, none⟩ ∧ b < w.heap.size ∧ ∀ (j : Nat) (u : Value), (enc x)[j]? = some u → w.cell? ⟨b, o + i * size + j, none⟩ = some u := by
  have hlt := (List.getElem?_eq_some_iff.1 hx).1
  obtain ⟨b, o, c, e, _, hb, _, _⟩ := SlR.form h (by omega)
  injection e with e1 e2 e3
  subst e1 e2 e3
  exact ⟨b, o, rfl, hb, fun j u hu => SlR.cell he h i x hx j u hu⟩

set_option maxRecDepth 100000 in
set_option maxHeartbeats 3200000 in
theorem longestL (w : World) (base : Nat) (v : Value) (l : List (Int × Int)) (h : SlR encS w base 53 2 v l) (hl : l.length ≤ 1000) (hb : ∀ s ∈ l, 0 ≤ s.1 ∧ s.1 ≤ 1000000 ∧ 0 ≤ s.2 ∧ s.2 ≤ 1000000) :
    Calls Try.prog 23 #[v] w fun e w' => e = .returned (.tuple #[.agg #[.int .i64 (lgN l).1, .int .i64 (lgN l).2], .bool (decide (l ≠ []))]) ∧ Upd (fun _ => False) w w' := by
  have HV := Lib.hid h; have HB := Lib.hid hb
  obtain ⟨A, cap, rfl⟩ := h.shape
  clear h hb
  obtain ⟨bR, hbR⟩ : ∃ bR, w.heap.size = bR := ⟨_, rfl⟩
  obtain ⟨W, hW⟩ : ∃ W, (w.alloc (.cells #[.int .i64 0, .int .i64 0] 53)).alloc (.cells #[.int .i64 0, .int .i64 0] 53) = W := ⟨_, rfl⟩
  have hB1 := (Blk.new w 53 #[.int .i64 0, .int .i64 0]).alloc (.cells #[.int .i64 0, .int .i64 0] 53)
  have hB2 := Blk.new (w.alloc (.cells #[.int .i64 0, .int .i64 0] 53)) 53 #[.int .i64 0, .int .i64 0]
  simp only [size_alloc] at hB2
  rw [hW, hbR] at hB1 hB2
  have hU : Upd (fun _ => False) w W := by rw [← hW]; exact ((Upd.refl _ w).alloc _).alloc _
  have B1 := Lib.hid hB1; have B2 := Lib.hid hB2; have UW := Lib.hid hU
  have HV1 := Lib.hid (HV.out.still hU)
  have hsz : bR + 1 < W.heap.size := hB2.lt
  clear hB1 hB2 hU
  go_enter Try.func23, Try.ntmps23
  go_upto_region 2 with fail
  clear hW
  have HBR := Lib.hid hbR
  clear hbR
  go_wp2_with fail
  go_loopw [5, 6, 9] (fun v5 v6 vi wr => ∃ (i : Nat) (q : Int × Int), i ≤ l.length ∧ vi = .int .i64 i ∧ lgN (l.take i) = q ∧ Blk wr (bR + 1) 53 #[.int .i64 q.1, .int .i64 q.2] ∧ Upd (fun k => k = bR + 1) W wr) (fun _ _ vi _ => l.length - (intOf vi).toNat)
  case atStart => exact ⟨0, (0, 0), Nat.zero_le _, rfl, rfl, B2.out, Upd.refl _ W⟩
  case round =>
    obtain ⟨i, q, hi, rfl, hq, hB, hU⟩ := hrel
    have HQ := Lib.hid hq; have BB := Lib.hid hB; have UU := Lib.hid hU
    have c0 : wr.cell? ⟨bR + 1, 0, none⟩ = some (.int .i64 q.1) := hB.cell 0
    have c1 : wr.cell? ⟨bR + 1, 1, none⟩ = some (.int .i64 q.2) := hB.cell 1
    have f0 := hB.frozen 0
    have f1 := hB.frozen 1
    have hszr := hU.size
    clear hq hB hU
    by_cases hlt : i < l.length
    · obtain ⟨x, hx⟩ : ∃ x, l[i]? = some x := ⟨_, List.getElem?_eq_getElem hlt⟩
      have hxb := HB.out x (List.mem_of_getElem? hx)
      have hV2 : SlR encS wr base 53 2 (.slice A l.length cap) l := HV1.out.upd UU.out (fun k hk h => by
        have h1 := (Sl.blk HV.out k hk).2.1
        have := HBR.out
        omega)
      obtain ⟨b, o, rfl, hbb, hcell⟩ := SlR.rd encS_len hV2 i x hx
      have x0 := hcell 0 _ rfl
      have x1 := hcell 1 _ rfl
      rw [Nat.add_zero] at x0
      have HX : Hid (lgN (l.take (i + 1)) = if l.take i = [] ∨ q.2 - q.1 < x.2 - x.1 then x else q) := Lib.hid (by rw [take_one hx, lgN_snoc, HQ.out])
      have hne : Hid (0 < i → (l.take i ≠ [] ∧ 0 ≤ q.1 ∧ q.1 ≤ 1000000 ∧ 0 ≤ q.2 ∧ q.2 ≤ 1000000)) := Lib.hid (fun h0 => by
        have hn : l.take i ≠ [] := by
          intro e
          have := congrArg List.length e
          rw [List.length_take, List.length_nil] at this
          omega
        have hm := (lgN_mem hn).1
        rw [HQ.out] at hm
        exact ⟨hn, HB.out q (List.mem_of_mem_take hm)⟩)
      clear hV2 hcell hx
      obtain ⟨s0, s1⟩ := x
      obtain ⟨q0, q1⟩ := q
      dsimp only at *
      have ca0 : ∀ o', (wr.alloc o').cell? ⟨bR + 1, 0, none⟩ = some (.int .i64 q0) := fun o' => (BB.out.alloc o').cell 0
      have ca1 : ∀ o', (wr.alloc o').cell? ⟨bR + 1, 1, none⟩ = some (.int .i64 q1) := fun o' => (BB.out.alloc o').cell 1
      have fa0 : ∀ o', (wr.alloc o').frozen? ⟨bR + 1, 0, none⟩ = false := fun o' => (BB.out.alloc o').frozen 0
      have fa1 : ∀ o', (wr.alloc o').frozen? ⟨bR + 1, 1, none⟩ = false := fun o' => (BB.out.alloc o').frozen 1
      have US : Hid (∀ u0 u1 : Value, Upd (fun k => k = bR + 1) W (((wr.alloc (.cells #[.int .i64 s0, .int .i64 s1] 53)).setCell ⟨bR + 1, 0, none⟩ u0).setCell ⟨bR + 1, 1, none⟩ u1)) := Lib.hid (fun u0 u1 => (((UU.out.alloc _).setCell (p := ⟨bR + 1, 0, none⟩) (fun _ => rfl) u0).setCell (p := ⟨bR + 1, 1, none⟩) (fun _ => rfl) u1))
      have BS : Hid (Blk (((wr.alloc (.cells #[.int .i64 s0, .int .i64 s1] 53)).setCell ⟨bR + 1, 0, none⟩ (.int .i64 s0)).setCell ⟨bR + 1, 1, none⟩ (.int .i64 s1)) (bR + 1) 53 #[.int .i64 s0, .int .i64 s1]) := Lib.hid (((BB.out.alloc _).set_ 0 (.int .i64 s0)).set_ 1 (.int .i64 s1))
      by_cases h0 : i = 0
      · subst h0
        simp only [Nat.zero_mul, Nat.add_zero, Nat.zero_add] at x0 x1
        have HX' : Hid (lgN (l.take 1) = (s0, s1)) := Lib.hid (by rw [HX.out, List.take_zero, if_pos (.inl rfl)])
        go_wp2_with fail
        go_roundw
        case rel => exact ⟨1, (s0, s1), by omega, by go_num, HX'.out, BS.out, US.out _ _⟩
        case measure => simp [intOf]; omega
      · obtain ⟨hn, b1, b2, b3, b4⟩ := hne.out (by omega)
        have e0 : ((i : Int) == 0) = false := beq_eq_false_iff_ne.2 (by omega)
        have w1' := wrap_in (s1 - s0) (by omega) (by omega)
        have w2' := wrap_in (q1 - q0) (by omega) (by omega)
        by_cases hg : q1 - q0 < s1 - s0
        · have HX' : Hid (lgN (l.take (i + 1)) = (s0, s1)) := Lib.hid (by rw [HX.out, if_pos (.inr hg)])
          have d1 : decide (q1 - q0 < s1 - s0) = true := decide_eq_true hg
          clear hn
          go_wp2_with fail
          go_roundw
          case rel => exact ⟨i + 1, (s0, s1), by omega, by go_num, HX'.out, BS.out, US.out _ _⟩
          case measure => simp [intOf]; omega
        · have HX' : Hid (lgN (l.take (i + 1)) = (q0, q1)) := Lib.hid (by rw [HX.out, if_neg (fun h => h.elim hn hg)])
          have d1 : decide (q1 - q0 < s1 - s0) = false := decide_eq_false hg
          clear hn
          go_wp2_with fail
          go_roundw
          case rel => exact ⟨i + 1, (q0, q1), by omega, by go_num, HX'.out, BB.out.alloc _, UU.out.alloc _⟩
          case measure => simp [intOf]; omega
    · have hie : i = l.length := by omega
      subst hie
      rw [List.take_length] at HQ
      have r0 : Blk wr bR 53 #[.int .i64 0, .int .i64 0] := B1.out.upd UU.out (by omega)
      have g0 : wr.cell? ⟨bR, 0, none⟩ = some (.int .i64 0) := r0.cell 0
      have g1 : wr.cell? ⟨bR, 1, none⟩ = some (.int .i64 0) := r0.cell 1
      have k0 := r0.frozen 0
      have k1 := r0.frozen 1
      have dl : decide (0 < (l.length : Int)) = decide (l ≠ []) := by
        cases l with
        | nil => rfl
        | cons y t => simp
      have DL := Lib.hid dl
      clear dl
      go_wp2_with fail
      have RB : Blk ((wr.setCell ⟨bR, 0, none⟩ (.int .i64 q.1)).setCell ⟨bR, 1, none⟩ (.int .i64 q.2)) bR 53 #[.int .i64 q.1, .int .i64 q.2] := (r0.set_ 0 (.int .i64 q.1)).set_ 1 (.int .i64 q.2)
      have z0 := RB.cell 0
      have z1 := RB.cell 1
      have UZ : Upd (fun _ => False) w ((wr.setCell ⟨bR, 0, none⟩ (.int .i64 q.1)).setCell ⟨bR, 1, none⟩ (.int .i64 q.2)) := by
        have h1 := ((UW.out.mono (S' := fun k => bR ≤ k) (fun _ _ h => h.elim)).trans (UU.out.mono (fun k _ hk => by omega)))
        exact ((h1.setCell (p := ⟨bR, 0, none⟩) (fun _ => Nat.le_refl _) _).setCell (p := ⟨bR, 1, none⟩) (fun _ => Nat.le_refl _) _).mono (fun k hk h => by have := HBR.out; omega)
      have dl2 : decide (0 < l.length) = decide (l ≠ []) := by
        have := DL.out
        simpa using this
      rw [← HQ.out] at z0 z1 UZ ⊢
      exact bodyPost_ret (v := .tuple #[.agg #[.int .i64 (lgN l).1, .int .i64 (lgN l).2], .bool (decide (l ≠ []))]) (by simp [results, Try.results23, go_sem, z0, z1, dl2]) rfl ⟨rfl, UZ⟩
end Go.Proofs.Ytnfajehocljbnaa
