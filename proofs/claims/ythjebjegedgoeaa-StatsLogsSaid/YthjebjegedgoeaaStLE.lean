/-
  Stats: see, of an entry that breaks all; of any entry. (Written by stle.py.)
-/
import Derived.Test.YthjebjegedgoeaaStLD
namespace Go.Proofs.Ythjebjegedgoeaa
open Go.RowKit Go.Maps
attribute [local go_sem] max_ints min_ints

theorem RgV.rneM {w : World} {b r n cnt : Nat} {es : EsV} {left : Lit → Bool} (h : RgV w b r n es left cnt) {bl m : Nat} {ls : EsV} (hl : MpV w bl m ls) : bl ≠ r := by
  rintro rfl
  obtain ⟨L, ⟨es, clock, since, seen, c0, hb, _, _, _, hr, _⟩, hp⟩ := h
  obtain ⟨L2, ⟨es2, clock2, hb2, _⟩, hp2⟩ := hl
  rw [hr] at hb2
  cases hb2
/-- The jobs, while all that are open are ended: those of the tasks that are left are not yet. -/
def brk1 (left : Lit → Bool) (tick : Int) (j : J5) : J5 := if j.e = 0 ∧ left (.int .i64 j.t) = false then { j with o := tick, e := 5 } else j
def brkL (J : List J5) (left : Lit → Bool) (tick : Int) : List J5 := J.map (brk1 left tick)
theorem brkL_len (J : List J5) (left : Lit → Bool) (tick : Int) : (brkL J left tick).length = J.length := by simp [brkL]
theorem sameI (a b : Int) : (Lit.int .i64 a).sameKey (.int .i64 b) = (a == b) := by
  rw [Bool.eq_iff_iff]
  simp [Lit.sameKey]
theorem brkL_shut (J : List J5) (left : Lit → Bool) (tick t : Int) (ht : left (.int .i64 t) = true) : shutJ (brkL J left tick) t 5 tick = brkL J (fun x => (left x && !x.sameKey (.int .i64 t)) && !x.sameKey (.int .i64 t)) tick := by
  unfold shutJ brkL
  rw [List.map_map]
  refine List.map_congr_left (fun j _ => ?_)
  show (if opJ (brk1 left tick j) t then { brk1 left tick j with o := tick, e := 5 } else brk1 left tick j) = brk1 (fun x => (left x && !x.sameKey (.int .i64 t)) && !x.sameKey (.int .i64 t)) tick j
  by_cases he : j.e = 0
  · by_cases hl : left (.int .i64 j.t) = false
    · have e1 : brk1 left tick j = { j with o := tick, e := 5 } := if_pos ⟨he, hl⟩
      have e2 : brk1 (fun x => (left x && !x.sameKey (.int .i64 t)) && !x.sameKey (.int .i64 t)) tick j = { j with o := tick, e := 5 } := if_pos ⟨he, by simp [hl]⟩
      have h1 : ¬ opJ { j with o := tick, e := 5 } t := fun q => absurd q.2 (show ¬ (5 : Int) = 0 by decide)
      rw [e1, e2, if_neg h1]
    · have hl' : left (.int .i64 j.t) = true := by simpa using hl
      have e1 : brk1 left tick j = j := if_neg (fun q => hl q.2)
      rw [e1]
      by_cases hjt : j.t = t
      · have h1 : opJ j t := ⟨hjt, he⟩
        have e2 : brk1 (fun x => (left x && !x.sameKey (.int .i64 t)) && !x.sameKey (.int .i64 t)) tick j = { j with o := tick, e := 5 } := if_pos ⟨he, by simp only [sameI]; rw [hjt]; simp⟩
        rw [if_pos h1, e2]
      · have h1 : ¬ opJ j t := fun q => hjt q.1
        have e2 : brk1 (fun x => (left x && !x.sameKey (.int .i64 t)) && !x.sameKey (.int .i64 t)) tick j = j := if_neg (fun q => by
          have := q.2
          simp only [sameI] at this
          rw [hl'] at this
          simp [hjt] at this)
        rw [if_neg h1, e2]
  · have e1 : brk1 left tick j = j := if_neg (fun q => he q.1)
    have e2 : brk1 (fun x => (left x && !x.sameKey (.int .i64 t)) && !x.sameKey (.int .i64 t)) tick j = j := if_neg (fun q => he q.1)
    have h1 : ¬ opJ j t := fun q => he q.2
    rw [e1, e2, if_neg h1]
theorem brkL_start {J : List J5} {es : EsV} (hk : ∀ t, openI J t ≠ [] → t ∈ es.map Prod.fst) {left : Lit → Bool} (hl : ∀ e ∈ es, left (.int .i64 e.1) = true) (tick : Int) : brkL J left tick = J := by
  unfold brkL
  have : ∀ j ∈ J, brk1 left tick j = j := fun j hj => by
    refine if_neg (fun q => ?_)
    obtain ⟨i, hi, hji⟩ := List.getElem_of_mem hj
    have ho : openI J j.t ≠ [] := fun e => by
      have := (openI_mem J j.t i).2 ⟨j, by rw [List.getElem?_eq_getElem hi, hji], rfl, q.1⟩
      rw [e] at this
      cases this
    obtain ⟨x, hx, hxt⟩ := List.mem_map.1 (hk _ ho)
    have := hl x hx
    rw [hxt, q.2] at this
    cases this
  rw [List.map_congr_left this, List.map_id']
theorem brkL_end (J : List J5) (left : Lit → Bool) (hl : ∀ kl, left kl = false) (tick : Int) : brkL J left tick = J.map (fun j => if j.e = 0 then { j with o := tick, e := 5 } else j) := by
  unfold brkL
  refine List.map_congr_left (fun j _ => ?_)
  unfold brk1
  by_cases he : j.e = 0
  · rw [if_pos ⟨he, hl _⟩, if_pos he]
  · rw [if_neg (fun q => he q.1), if_neg he]

set_option maxRecDepth 100000 in
set_option maxHeartbeats 6400000 in
theorem seeBrk (w : World) (f bo bl base n : Nat) (jv : Value) (hi : Bool) (J : List J5) (es ls : EsV) (h : FoS w f bo bl base n jv hi J es ls) (k d a b : Int) (hb : decide (brkE ⟨k, d, a, b⟩) = true) (hJ : J.length ≤ 1000) :
    Calls Try.prog 41 #[.pointer (some ⟨f, 0, none⟩), .agg #[.int .i64 k, .int .i64 d, .int .i64 a, .int .i64 b]] w fun e w' => e = .returned (.tuple #[]) ∧  (∃ es', FoS w' f bo bl base n jv false (J.map (fun j => if j.e = 0 then { j with o := k, e := 5 } else j)) es' ls) ∧ Upd (fun q => base ≤ q) w w' := by
  have HSTR : Hid (base ≤ w.heap.size) := Lib.hid (Nat.le_trans h.hf (Nat.le_of_lt h.b.lt))
  have F0 := Lib.hid (h.still ((Upd.refl _ w).alloc (.cells #[.int .i64 k, .int .i64 d, .int .i64 a, .int .i64 b] 52)))
  have X0 := Lib.hid (Blk.new w 52 #[.int .i64 k, .int .i64 d, .int .i64 a, .int .i64 b])
  have U0 := Lib.hid ((Upd.refl (fun _ => False) w).alloc (.cells #[.int .i64 k, .int .i64 d, .int .i64 a, .int .i64 b] 52))
  clear h
  go_enter Try.func41, Try.ntmps41
  go_wp2_with fail
  refine (breaksC _ ⟨k, d, a, b⟩).mono ?_
  rintro r w1 ⟨rfl, hU1⟩
  rw [hb]
  obtain ⟨be, hbe⟩ : ∃ be, w.heap.size = be := ⟨_, rfl⟩
  rw [hbe] at X0 ⊢
  have F1 := Lib.hid (F0.out.still hU1); have X1 := Lib.hid (X0.out.upd hU1 (fun h => h)); have U1 := Lib.hid (U0.out.trans hU1)
  have HBE : Hid (base ≤ be) := Lib.hid (by rw [← hbe]; exact HSTR.out)
  clear hU1 F0 X0 U0 hbe hb
  have x1 : w1.cell? ⟨be, 1, none⟩ = some (.int .i64 d) := X1.out.cell 1
  have x0 : w1.cell? ⟨be, 0, none⟩ = some (.int .i64 k) := X1.out.cell 0
  have f2 : w1.cell? ⟨f, 2, none⟩ = some (.bool hi) := F1.out.b.cell 2
  have z2 := F1.out.b.frozen 2
  have hS := F1.out.setHi false
  have F2 := Lib.hid hS.1
  have U2 := Lib.hid ((U1.out.mono (fun _ _ h => h.elim)).trans (hS.2.mono (S' := fun q => base ≤ q) (fun q _ e => by rw [e]; exact F1.out.hf)))
  have X2 := Lib.hid (X1.out.upd hS.2 (X1.out.ne_ F1.out.b (by decide)))
  have HBW : Hid (base ≤ w1.heap.size) := Lib.hid (Nat.le_trans HBE.out (Nat.le_of_lt X1.out.lt))
  clear hS F1 U1 X1
  go_upto_region 3 with fail
  clear x1 x0 f2 z2
  generalize w1.setCell ⟨f, 2, none⟩ (.bool false) = w2 at *
  have f1 : w2.cell? ⟨f, 1, none⟩ = some (.map (some bo)) := F2.out.b.cell 1
  obtain ⟨w3, left0, cnt0, hrg, hR, hl0, hU3⟩ := F2.out.m.range (T := 89) (E := 23) Try.underlying89
  obtain ⟨rr, hrr⟩ : ∃ rr, w2.heap.size = rr := ⟨_, rfl⟩
  rw [hrr] at hrg hR
  have HRR : Hid (base ≤ rr) := Lib.hid (by rw [← hrr]; exact Nat.le_trans F2.out.hf (Nat.le_of_lt F2.out.b.lt))
  have F3 := Lib.hid (F2.out.still hU3); have X3 := Lib.hid (X2.out.upd hU3 (fun h => h)); have U3 := Lib.hid (U2.out.trans (hU3.mono (fun _ _ h => h.elim)))
  have R3 := Lib.hid hR
  have HL3 := Lib.hid hl0
  clear hR hU3 hrr hl0 F2 X2 U2
  go_wp2_with fail
  clear hrg f1
  go_loopw [4] (fun _ wr => ∃ (es' : EsV) (left : Lit → Bool) (cnt : Nat), FoS wr f bo bl base n jv false (brkL J left k) es' ls ∧ RgV wr bo rr n es' left cnt ∧ (∀ e ∈ es', left (.int .i64 e.1) = true) ∧ Blk wr be 52 #[.int .i64 k, .int .i64 d, .int .i64 a, .int .i64 b] ∧ Upd (fun q => base ≤ q) w wr) (fun _ wr => wr.rangeLeft bo rr)
  case atStart => exact ⟨es, left0, cnt0, by rw [brkL_start F3.out.k HL3.out]; exact F3.out, R3.out, HL3.out, X3.out, U3.out⟩
  case round =>
    obtain ⟨es', left, cnt, hF, hR, hL, hX, hU⟩ := hrel
    have FA := Lib.hid hF; have RA := Lib.hid hR; have LA := Lib.hid hL; have XA := Lib.hid hX; have UA := Lib.hid hU
    have HCN := Lib.hid hR.left_eq
    rcases hR.next hF.n1 0 with ⟨h0, hl, hrun⟩ | ⟨t, v, w4, cnt', hm, htw, hlt, hrun, hR4, hc4, hU4, hen⟩
    · have HE : Hid (brkL J left k = J.map (fun j => if j.e = 0 then { j with o := k, e := 5 } else j)) := Lib.hid (brkL_end J left hl k)
      clear hF hR hL hX hU hl h0
      go_wp2_with fail
      go_returns
      refine ⟨rfl, ⟨es', ?_⟩, UA.out⟩
      rw [← HE.out]
      exact FA.out
    · have hbl := hR.rneM hF.l
      have F4 := Lib.hid (hF.upd hU4 (hR.rne_ hF.b) (fun q hq e => by
        obtain ⟨_, _, cur, hc⟩ := Sl.blk hF.j q hq
        exact hR.rne_ hc e) (fun e => hR.rne e.symm) hbl (fun e he q hq r => by
        obtain ⟨_, _, cur, hc⟩ := Sl.blk (hF.e e he).1 q hq
        exact hR.rne_ hc r))
      have X4 := Lib.hid (hX.upd hU4 (hR.rne_ hX))
      have U4 := Lib.hid (hU.trans (hU4.mono (S' := fun q => base ≤ q) (fun q _ e => by rw [e]; exact HRR.out)))
      have R4 := Lib.hid hR4
      have x0 : w4.cell? ⟨be, 0, none⟩ = some (.int .i64 k) := X4.out.cell 0
      have HBS : Hid (brkL J left k = brkL J left k) := Lib.hid rfl
      have HSH : Hid (shutJ (brkL J left k) t 5 k = brkL J (fun x => (left x && !x.sameKey (.int .i64 t)) && !x.sameKey (.int .i64 t)) k) := Lib.hid (brkL_shut J left k t hlt)
      have HC4 := Lib.hid hc4
      clear hF hR hL hX hU hm hbl hU4 hR4 hlt HBS hc4
      go_wp2_with fail
      refine (shutC w4 f bo bl base n jv false (brkL J left k) es' ls F4.out t htw 5 k (by rw [brkL_len]; exact hJ) (fun w' => FoS w' f bo bl base n jv false (shutJ (brkL J left k) t 5 k) (cutV es' t) ls ∧ (∃ cnt2, cnt2 ≤ cnt' ∧ RgV w' bo rr n (cutV es' t) (fun x => (left x && !x.sameKey (.int .i64 t)) && !x.sameKey (.int .i64 t)) cnt2) ∧ Blk w' be 52 #[.int .i64 k, .int .i64 d, .int .i64 a, .int .i64 b] ∧ Upd (fun q => base ≤ q) w w') (fun wj hj hu => by
        have hnb : ¬ slBlk jv = some bo := fun e => by
          obtain ⟨_, _, cur, hc⟩ := Sl.blk F4.out.j bo e
          exact F4.out.m.ne_ hc rfl
        have hnr : ¬ slBlk jv = some rr := fun e => by
          obtain ⟨_, _, cur, hc⟩ := Sl.blk F4.out.j rr e
          exact R4.out.rne_ hc rfl
        have hnx : ¬ slBlk jv = some be := fun e => by
          obtain ⟨_, _, cur, hc⟩ := Sl.blk F4.out.j be e
          exact X4.out.ne_ hc (by decide) rfl
        have hRj := R4.out.upd hu hnb hnr
        obtain ⟨w', cnt2, hr, hR', hle, hU'⟩ := hRj.drop (T := 89) (E := 23) Try.underlying89 t htw 0
        have hXj := X4.out.upd hu hnx
        exact ⟨w', hr, F4.out.cut (by decide) hj hu hR'.owns hU', ⟨cnt2, hle, hR'⟩, hXj.upd hU' (hRj.owns.ne_ hXj), (U4.out.trans (hu.mono (S' := fun q => base ≤ q) (fun q _ e => (Sl.blk F4.out.j q e).1))).trans (hU'.mono (fun q _ e => by rw [e]; exact F4.out.ho))⟩)).mono ?_
      rintro r w5 ⟨rfl, hF5, ⟨cnt2, hle2, hR5⟩, hX5, hU5⟩
      rw [HSH.out] at hF5
      have F5 := Lib.hid hF5; have R5 := Lib.hid hR5; have X5 := Lib.hid hX5; have U5 := Lib.hid hU5
      have HLE := Lib.hid hle2
      clear hF5 hR5 hX5 hU5 hle2 x0 hrun hen
      go_wp2_with fail
      go_roundw
      case rel => exact ⟨cutV es' t, _, cnt2, F5.out, R5.out, fun e he => by
        obtain ⟨h1, h2⟩ := (cutV_mem es' t e).1 he
        have h3 := LA.out e h1
        simp [sameI, h2, h3], X5.out, U5.out⟩
      case measure =>
        rw [R5.out.left_eq, HCN.out]
        have h1 := HC4.out
        have h2 := HLE.out
        omega

/-- An entry is seen. -/
theorem seeC (w : World) (f bo bl base n : Nat) (jv : Value) (hi : Bool) (J : List J5) (es ls : EsV) (h : FoS w f bo bl base n jv hi J es ls) (e : En) (he : EnWf e) (hn : n ≤ 1000) (hJ : J.length ≤ 1000) :
    Calls Try.prog 41 #[.pointer (some ⟨f, 0, none⟩), .agg #[.int .i64 e.k, .int .i64 e.d, .int .i64 e.a, .int .i64 e.b]] w fun r w' => r = .returned (.tuple #[]) ∧ (∃ n' jv' hi' es' ls', n' ≤ n + 1 ∧ FoS w' f bo bl base n' jv' hi' (stepE J e) es' ls') ∧ Upd (fun q => base ≤ q) w w' := by
  obtain ⟨k, d, a, b⟩ := e
  have hw : (Lit.int .i64 a).wf = true := WalkArith.wf_i64 ⟨he.a0, by have := he.a1; dsimp only at this ⊢; omega⟩
  dsimp only
  by_cases hb : brkE ⟨k, d, a, b⟩
  · rw [stepE_brk J _ hb]
    exact (seeBrk w f bo bl base n jv hi J es ls h k d a b (decide_eq_true hb) hJ).mono (fun r w' ⟨h1, ⟨es', h2⟩, h3⟩ => ⟨h1, ⟨n, jv, false, es', ls, Nat.le_succ _, h2⟩, h3⟩)
  · by_cases h0 : d = 0
    · rw [stepE_acc J _ h0]
      subst h0
      exact (seeAcc w f bo bl base n jv hi J es ls h k a b hw hn hJ).mono (fun r w' ⟨h1, ⟨jv', es', ls', h2⟩, h3⟩ => ⟨h1, ⟨n + 1, jv', hi, es', ls', Nat.le_refl _, h2⟩, h3⟩)
    · have hb' := decide_eq_false hb
      have d0 : (d == 0) = false := beq_eq_false_iff_ne.2 h0
      by_cases h7 : d = 7
      · rcases stepE_end J ⟨k, d, a, b⟩ h0 hb with ⟨hk, _⟩ | ⟨_, hs⟩
        · exact absurd (by rw [h7]; rfl) hk
        · rw [hs]
          subst h7
          exact (seeHigh w f bo bl base n jv hi J es ls h k a b).mono (fun r w' ⟨h1, h2, h3⟩ => ⟨h1, ⟨n, jv, true, es, ls, Nat.le_succ _, h2⟩, h3⟩)
      · by_cases h9 : d = 9
        · rcases stepE_end J ⟨k, d, a, b⟩ h0 hb with ⟨hk, _⟩ | ⟨_, hs⟩
          · exact absurd (by rw [h9]; rfl) hk
          · rw [hs]
            subst h9
            exact (seeLow w f bo bl base n jv hi J es ls h k a b).mono (fun r w' ⟨h1, h2, h3⟩ => ⟨h1, ⟨n, jv, false, es, ls, Nat.le_succ _, h2⟩, h3⟩)
        · have d7 : (d == 7) = false := beq_eq_false_iff_ne.2 h7
          have d9 : (d == 9) = false := beq_eq_false_iff_ne.2 h9
          rcases stepE_end J ⟨k, d, a, b⟩ h0 hb with ⟨hk, hs⟩ | ⟨hk, hs⟩
          · rw [hs]
            exact (seeEnd w f bo bl base n jv hi J es ls h k d a b hw hb' d0 d7 d9 hk hJ).mono (fun r w' ⟨h1, h2, h3⟩ => ⟨h1, ⟨n, jv, hi, _, ls, Nat.le_succ _, h2⟩, h3⟩)
          · rw [hs]
            exact (seeNone w f bo bl base n jv hi J es ls h k d a b hb' d0 d7 d9 hk).mono (fun r w' ⟨h1, h2, h3⟩ => ⟨h1, ⟨n, jv, hi, es, ls, Nat.le_succ _, h2⟩, h3⟩)
end Go.Proofs.Ythjebjegedgoeaa
