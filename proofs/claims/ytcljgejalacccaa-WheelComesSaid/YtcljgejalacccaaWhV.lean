/-
  WheelComes.
-/
import Derived.Test.YtcljgejalacccaaWhO
import Derived.Test.YtcljgejalacccaaArgs
import Derived.Test.YtcljgejalacccaaWhN
namespace Go.Proofs.Ytcljgejalacccaa
open Go.RowKit
attribute [local go_sem] max_ints min_ints

theorem row_at {W : World} {A : Option Addr} {len : Nat} {X : Nat → Int} (hc : Row W A len fun k => .int .i64 (X k)) (i : Nat) (hi : i < len) : ∃ b o, A = some ⟨b, o, none⟩ ∧ b < W.heap.size ∧ W.cell? ⟨b, o + i, none⟩ = some (.int .i64 (X i)) := by
  obtain ⟨a0, ha0, _, hc0⟩ := hc 0 (by omega)
  obtain ⟨a, ha, hb, hc1⟩ := hc i hi
  rw [ha] at ha0
  injection ha0 with ha0
  subst ha0
  have hs := World.cell?_spot hc0
  obtain ⟨b, o, sp⟩ := a
  have e0 : (⟨b, o, sp⟩ : Addr).add 0 = ⟨b, o, sp⟩ := by simp [Addr.add]
  rw [e0] at hs
  simp at hs
  subst hs
  rw [add_plain] at hc1
  exact ⟨b, o, ha, hb, hc1⟩

/-- When each timer is to come. -/
def tauN (s : Nat) (X : Nat → Int) (k : Nat) : Nat := s + 1 + ((X k).tmod 3000 % 3000).toNat
theorem tauN_eq (s : Nat) (X : Nat → Int) (k : Nat) : (s : Int) + 1 + (X k).tmod 3000 % 3000 = (tauN s X k : Int) ∧ s < tauN s X k ∧ tauN s X k ≤ s + 3000 := by unfold tauN; omega
def upW (s : Nat) (X : Nat → Int) (i k : Nat) : Int := if k < i then (tauN s X k : Int) else -1
def upA (s : Nat) (X : Nat → Int) (i k : Nat) : Int := if k < i then (tauN s X k : Int) else 0
theorem upW_step (s : Nat) (X : Nat → Int) (i : Nat) : fput (upW s X i) i (tauN s X i) = upW s X (i + 1) := by
  funext k
  unfold upW
  by_cases h : k = i
  · subst h; rw [fput_eq, if_pos (by omega)]
  · rw [fput_ne _ _ h]
    by_cases h2 : k < i
    · rw [if_pos h2, if_pos (by omega)]
    · rw [if_neg h2, if_neg (by omega)]
theorem upA_step (s : Nat) (X : Nat → Int) (i : Nat) : fput (upA s X i) i (tauN s X i) = upA s X (i + 1) := by
  funext k
  unfold upA
  by_cases h : k = i
  · subst h; rw [fput_eq, if_pos (by omega)]
  · rw [fput_ne _ _ h]
    by_cases h2 : k < i
    · rw [if_pos h2, if_pos (by omega)]
    · rw [if_neg h2, if_neg (by omega)]
/-- Behind n ticks. -/
def behindN (s len : Nat) (X : Nat → Int) (n k : Nat) : Int := if k < len ∧ s + n < tauN s X k then (tauN s X k : Int) else -1
theorem behind0 (s len : Nat) (X : Nat → Int) : behindN s len X 0 = upW s X len := by
  funext k
  unfold behindN upW
  by_cases h : k < len
  · rw [if_pos ⟨h, by have := (tauN_eq s X k).2.1; omega⟩, if_pos h]
  · rw [if_neg (fun e => h e.1), if_neg h]
def comeL (s len : Nat) (X : Nat → Int) (n : Nat) : List Nat := (List.range 256).filter (fun k => decide (behindN s len X n k = ((s + n + 1 : Nat) : Int)))
theorem behind_go (s len : Nat) (X : Nat → Int) (n : Nat) (h : s + n + 1 ≤ 4611686018427387904) : goLs (s + n) (behindN s len X n) = comeL s len X n ∧ goAt (s + n) (behindN s len X n) = behindN s len X (n + 1) ∧ goNow (s + n) = s + (n + 1) := by
  have hi : ¬ s + n = 4611686018427387904 := by omega
  refine ⟨by unfold goLs comeL; rw [if_neg hi], ?_, by unfold goNow; rw [if_neg hi]; omega⟩
  unfold goAt goneA
  rw [if_neg hi]
  funext k
  unfold behindN
  by_cases h1 : k < len ∧ s + n < tauN s X k
  · rw [if_pos h1]
    by_cases h2 : tauN s X k = s + n + 1
    · rw [if_pos (by omega), if_neg (by omega)]
    · rw [if_neg (by omega), if_pos (by omega)]
  · rw [if_neg h1, if_neg (by omega), if_neg (by omega)]
theorem come_mem (s len : Nat) (X : Nat → Int) (n k : Nat) (h : k ∈ comeL s len X n) : k < 256 ∧ k < len ∧ behindN s len X n k = ((s + n + 1 : Nat) : Int) := by
  unfold comeL at h
  rw [List.mem_filter, List.mem_range] at h
  have h2 := of_decide_eq_true h.2
  refine ⟨h.1, ?_, h2⟩
  unfold behindN at h2
  split at h2
  · rename_i h3; exact h3.1
  · omega
theorem come_is (s len : Nat) (X : Nat → Int) (n k : Nat) (hl : len ≤ 256) (h : behindN s len X n k = ((s + n + 1 : Nat) : Int)) : k ∈ comeL s len X n := by
  unfold comeL
  rw [List.mem_filter, List.mem_range]
  refine ⟨?_, decide_eq_true h⟩
  unfold behindN at h
  split at h
  · rename_i h3; omega
  · omega
/-- In the midst of a tick's list. -/
def midN (s len : Nat) (X : Nat → Int) (n i k : Nat) : Int := if k ∈ (comeL s len X n).take i then -1 else behindN s len X n k
theorem mid0 (s len : Nat) (X : Nat → Int) (n : Nat) : midN s len X n 0 = behindN s len X n := by funext k; unfold midN; rw [List.take_zero, if_neg (by simp)]
theorem mid_step (s len : Nat) (X : Nat → Int) (n i x : Nat) (h : (comeL s len X n)[i]? = some x) : fput (midN s len X n i) x (-1) = midN s len X n (i + 1) := by
  funext k
  unfold midN
  rw [List.take_add_one, h]
  by_cases e : k = x
  · subst e; rw [fput_eq, if_pos (by simp)]
  · rw [fput_ne _ _ e]
    by_cases h2 : k ∈ (comeL s len X n).take i
    · rw [if_pos h2, if_pos (by simp [h2])]
    · rw [if_neg h2, if_neg (by simp [h2, e])]
theorem mid_end (s len : Nat) (X : Nat → Int) (n : Nat) (hl : len ≤ 256) : midN s len X n (comeL s len X n).length = behindN s len X (n + 1) := by
  funext k
  unfold midN
  rw [List.take_length]
  by_cases h : k ∈ comeL s len X n
  · rw [if_pos h]
    have h2 := (come_mem s len X n k h).2.2
    unfold behindN at *
    split at h2
    · rw [if_neg (by omega)]
    · omega
  · rw [if_neg h]
    have h2 : ¬ behindN s len X n k = ((s + n + 1 : Nat) : Int) := fun e => h (come_is s len X n k hl e)
    unfold behindN at *
    by_cases h1 : k < len ∧ s + n < tauN s X k
    · rw [if_pos h1] at h2 ⊢
      rw [if_pos (by omega)]
    · rw [if_neg h1, if_neg (by omega)]
theorem come_sorted (s len : Nat) (X : Nat → Int) (n : Nat) : (comeL s len X n).Pairwise (· < ·) := List.pairwise_lt_range.filter _
theorem come_len (s len : Nat) (X : Nat → Int) (n : Nat) : (comeL s len X n).length ≤ 256 := Nat.le_trans (List.length_filter_le _ _) (by simp)
theorem behind_end (s len : Nat) (X : Nat → Int) : behindN s len X 3001 = fun _ => -1 := by
  funext k
  unfold behindN
  rw [if_neg (by have := (tauN_eq s X k).2.2; omega)]
theorem cnt_none : cntA (fun _ => -1) 256 = 0 := by kernel_rfl

set_option maxRecDepth 100000 in
set_option maxHeartbeats 6400000 in
theorem wheelComes_main (w : World) (s : Nat) (hs : s ≤ 2305843009213693952) (A : Option Addr) (len cap : Nat) (hlen : len ≤ 100) (X : Nat → Int) (hc : Row w A len fun k => .int .i64 (X k)) :
    Calls Try.prog 4 #[.int .i64 (s : Int), .slice A len cap] w fun e w' => e = .returned (.bool true) ∧ Upd (fun _ => False) w w' := by
  have d1 : decide ((100 : Int) < (len : Int)) = false := decide_eq_false (by omega)
  have d2 : decide ((s : Int) < 0) = false := decide_eq_false (by omega)
  have d3 : decide ((2305843009213693952 : Int) < (s : Int)) = false := decide_eq_false (by omega)
  have HC := Lib.hid (fun i hi => row_at hc i hi)
  have HMK := Lib.hid (makeI len (by omega))
  clear hc
  go_enter Try.func4, Try.ntmps4
  go_wp2_with fail
  refine (knowsW w).mono ?_
  rintro e w1 ⟨rfl, hU1⟩
  have U1 := Lib.hid hU1
  clear hU1
  go_wp2_with fail
  refine (newC w1 _).mono ?_
  rintro e w2 ⟨rfl, hS2, hU2⟩
  have hn0 : (min (max (s : Int) 0) 4611686018427387904).toNat = s := by omega
  rw [hn0] at hS2
  have hmk := HMK.out
  have hg2 : w1.heap.size < w2.heap.size := by obtain ⟨V, sl, n, h1, _⟩ := hS2; exact h1.b.lt
  have hgw : w.heap.size ≤ w1.heap.size := U1.out.size
  have U2 : Hid (Upd (fun _ => False) w w2) := Lib.hid (U1.out.trans hU2)
  generalize w1.heap.size = g at *
  have ua : Upd (fun _ => False) w2 (w2.alloc (.cells (madeCells #[.int .i64 0] len) 3)) := (Upd.refl _ w2).alloc _
  have S3 : Hid (WhS (w2.alloc (.cells (madeCells #[.int .i64 0] len) 3)) g s (upW s X 0) (fun k => k < g ∨ k = w2.heap.size)) := Lib.hid (by
    have := hS2.more ua (N' := fun k => k < g ∨ k = w2.heap.size) (fun k h1 h2 => by omega)
    exact this.congr (fun i _ => by unfold upW; rw [if_neg (by omega)]))
  have A3 : Hid (ArrI (w2.alloc (.cells (madeCells #[.int .i64 0] len) 3)) w2.heap.size len (upA s X 0)) := Lib.hid ((ArrI.new w2 len).congr (fun i _ => by unfold upA; rw [if_neg (by omega)]))
  have U3 : Hid (Upd (fun _ => False) w (w2.alloc (.cells (madeCells #[.int .i64 0] len) 3))) := Lib.hid (U2.out.alloc _)
  have HG : Hid (w.heap.size ≤ g) := Lib.hid hgw
  obtain ⟨ba, hba⟩ : ∃ ba, w2.heap.size = ba := ⟨_, rfl⟩
  have HBA : Hid (g < ba) := Lib.hid (by omega)
  rw [hba] at S3 A3
  clear hn0 hS2 hU2 hg2 hgw U1 ua
  go_wp2_with fail
  clear hmk hba
  go_loopw [7] (fun v7 wr => ∃ (i : Nat), i ≤ len ∧ v7 = .int .i64 i ∧ WhS wr g s (upW s X i) (fun k => k < g ∨ k = ba) ∧ ArrI wr ba len (upA s X i) ∧ Upd (fun _ => False) w wr) (fun v7 _ => len - (intOf v7).toNat)
  case atStart => exact ⟨0, Nat.zero_le _, rfl, S3.out, A3.out, U3.out⟩
  case round =>
    obtain ⟨i, hi, rfl, hS, hA, hU⟩ := hrel
    have S4 := Lib.hid hS; have A4 := Lib.hid hA; have U4 := Lib.hid hU
    have HNw : Hid (∀ k, k < g ∨ k = ba → k < wr.heap.size) := Lib.hid (fun k hk => by have := hA.lt; have := HBA.out; omega)
    clear hS hA hU
    by_cases hlt : i < len
    · obtain ⟨b, o, rfl, hb, hcx⟩ := HC.out i hlt
      have cx : wr.cell? ⟨b, o + i, none⟩ = some (.int .i64 (X i)) := (U4.out.cell (p := ⟨b, o + i, none⟩) hb (fun h => h)).trans hcx
      obtain ⟨h1, h2⟩ := rem_bound (X i) 3000 (by decide)
      obtain ⟨ht, ht1, ht2⟩ := tauN_eq s X i
      have ca := A4.out.cell i hlt
      have fa := A4.out.frozen i
      have A5 := Lib.hid (A4.out.set_ i hlt (tauN s X i))
      rw [upA_step] at A5
      have ca5 := A5.out.cell i hlt
      have huA : upA s X (i + 1) i = (tauN s X i : Int) := by unfold upA; rw [if_pos (by omega)]
      rw [huA] at ca5
      have hU5 : Upd (fun k => k = ba) wr (wr.setCell ⟨ba, i, none⟩ (.int .i64 (tauN s X i : Int))) := (Upd.refl (fun k => k = ba) wr).setCell (p := ⟨ba, i, none⟩) (fun _ => rfl) _
      have S5 := S4.out.upd hU5 (fun k e _ => .inr e)
      have HSet := Lib.hid (setC _ g s (upW s X i) _ S5 (fun k hk => Nat.lt_of_lt_of_le (HNw.out k hk) hU5.size) i (tauN s X i))
      have hE : setE s i (tauN s X i) = 0 := by unfold setE; rw [if_pos (by omega), if_pos (by omega)]
      have hW : setA s (upW s X i) i (tauN s X i) = upW s X (i + 1) := by unfold setA; rw [if_pos hE, Int.toNat_natCast, upW_step]
      rw [hE, hW] at HSet
      have U5 : Hid (Upd (fun _ => False) w (wr.setCell ⟨ba, i, none⟩ (.int .i64 (tauN s X i : Int)))) := Lib.hid ((U4.out.mono (S' := fun k => k = ba) (fun _ _ h => h.elim)).trans hU5 |>.mono (fun k hk e => by have := HBA.out; have := HG.out; omega))
      have dl : decide ((i : Int) < (len : Int)) = true := decide_eq_true (by omega)
      have di : decide ((i : Int) < 0) = false := decide_eq_false (by omega)
      clear ht1 ht2 huA hU5 S5 hE hW hcx hb
      generalize tauN s X i = t at *
      go_wp2_with fail
      refine HSet.out.mono ?_
      rintro e w6 ⟨rfl, hS6, hU6⟩
      have S6 := Lib.hid hS6
      have A6 := Lib.hid (A5.out.upd hU6 (fun h => h (.inr rfl)))
      have U6 : Hid (Upd (fun _ => False) w w6) := Lib.hid (((U5.out.mono (fun _ _ h => h.elim)).trans hU6).mono (fun k hk h => h (.inl (by have := HG.out; omega))))
      clear hS6 hU6
      go_wp2_with fail
      refine (numW _ 0).mono ?_
      rintro e w7 ⟨rfl, k7, rfl⟩
      go_wp2_with fail
      go_roundw
      case rel => exact ⟨i + 1, by omega, by go_num, S6.out.drewN _, A6.out.upd ((Upd.refl (fun _ => False) _).drewN _) (fun h => h), U6.out.drewN _⟩
      case measure => simp [intOf]; omega
    · have hie : i = len := by omega
      subst hie
      have hS := S4.out
      rw [← behind0 s i X] at hS
      have hA : ArrI wr ba i (behindN s i X 0) := A4.out.congr (fun k hk => by rw [behind0]; unfold upW upA; rw [if_pos hk, if_pos hk])
      have S5 := Lib.hid hS; have A5 := Lib.hid hA
      clear hS hA hlt hi
      go_wp2_with fail
      go_loopw [8] (fun v8 wr => ∃ (n : Nat), n ≤ 3001 ∧ v8 = .int .i64 n ∧ WhS wr g (s + n) (behindN s i X n) (fun k => k < g ∨ k = ba) ∧ ArrI wr ba i (behindN s i X n) ∧ Upd (fun _ => False) w wr) (fun v8 _ => 3001 - (intOf v8).toNat)
      case atStart => exact ⟨0, Nat.zero_le _, rfl, S5.out, A5.out, U4.out⟩
      case round =>
        obtain ⟨n, hn, rfl, hS, hA, hU⟩ := hrel
        have S6 := Lib.hid hS; have A6 := Lib.hid hA; have U6 := Lib.hid hU
        have hNw : ∀ k, k < g ∨ k = ba → k < wr.heap.size := fun k hk => by have := hA.lt; have := HBA.out; omega
        have hbaw := hA.lt
        by_cases hlt : n < 3001
        · have dl : decide ((n : Int) < 3001) = true := decide_eq_true (by omega)
          have HGo := Lib.hid (goC wr g (s + n) _ _ hS hNw)
          obtain ⟨e1, e2, e3⟩ := behind_go s i X n (by omega)
          rw [e1, e2, e3] at HGo
          clear e1 e2 e3 hS hA hU
          obtain ⟨l, hl⟩ : ∃ l, comeL s i X n = l := ⟨_, rfl⟩
          have HLe := Lib.hid hl
          have hll : l.length ≤ 256 := by rw [← hl]; exact come_len s i X n
          have HSo : Hid (l.Pairwise (· < ·)) := Lib.hid (by rw [← hl]; exact come_sorted s i X n)
          rw [hl] at HGo
          clear hl
          go_wp2_with fail
          refine HGo.out.mono ?_
          rintro e w7 ⟨lv, rfl, hv, hS7, hU7⟩
          obtain ⟨Al, cl, hsh⟩ := hv.shape
          subst hsh
          have HLB : Hid (∀ k, slBlk (.slice Al l.length cl) = some k → ba < k) := Lib.hid (fun k hk => by have := (Sl.blk hv k hk).1; omega)
          have V7 := Lib.hid (hv.mono (Nat.zero_le _))
          have S7 := Lib.hid (hS7.less (N' := fun k => k < g ∨ k = ba) (fun k hk => .inl hk))
          have A7 : Hid (ArrI w7 ba i (midN s i X n 0)) := Lib.hid (by rw [mid0]; exact A6.out.upd hU7 (fun h => h (.inr rfl)))
          have U7 : Hid (Upd (fun _ => False) w w7) := Lib.hid (((U6.out.mono (fun _ _ h => h.elim)).trans hU7).mono (fun k hk h => h (.inl (by have := HG.out; omega))))
          clear hv hS7 hU7
          go_wp2_with fail
          go_loopw [10, 11] (fun v10 v11 wq => ∃ (j : Nat) (last : Int), j ≤ l.length ∧ v11 = .int .i64 j ∧ v10 = .int .i64 last ∧ (∀ x, l[j]? = some x → last < (x : Int)) ∧ WhS wq g (s + (n + 1)) (behindN s i X (n + 1)) (fun k => k < g ∨ k = ba) ∧ ArrI wq ba i (midN s i X n j) ∧ SlR encN wq 0 3 1 (.slice Al l.length cl) l ∧ Upd (fun _ => False) w wq) (fun _ v11 _ => l.length - (intOf v11).toNat)
          case atStart => exact ⟨0, -1, Nat.zero_le _, rfl, rfl, fun x _ => by omega, S7.out, A7.out, V7.out, U7.out⟩
          case round =>
            obtain ⟨j, last, hj, rfl, rfl, hlast, hS, hA, hV, hU⟩ := hrel
            have S8 := Lib.hid hS; have A8 := Lib.hid hA; have V8 := Lib.hid hV; have U8 := Lib.hid hU
            by_cases hjl : j < l.length
            · obtain ⟨x, hx⟩ : ∃ x, l[j]? = some x := ⟨_, List.getElem?_eq_getElem hjl⟩
              have hmem : x ∈ comeL s i X n := by rw [HLe.out]; exact List.mem_of_getElem? hx
              obtain ⟨hx1, hx2, hx3⟩ := come_mem s i X n x hmem
              obtain ⟨bl, ol, cl', he, _, _, _, _⟩ := hV.form (by omega)
              injection he with he1 he2 he3
              subst he1
              have c1 : wr.cell? ⟨bl, ol + j, none⟩ = some (.int .i64 (x : Int)) := by
                have h := hV
                unfold SlR at h
                rw [rws_map] at h
                exact Sl.cell h j (encV x) (by rw [List.getElem?_map, hx]; rfl)
              have hnot : x ∉ l.take j := take_not (by have := HSo.out; exact this.imp (fun h => Nat.ne_of_lt h)) hx
              have c2 : wr.cell? ⟨ba, x, none⟩ = some (.int .i64 ((s + (n + 1) : Nat) : Int)) := by
                have := hA.cell x hx2
                unfold midN at this
                rw [HLe.out, if_neg hnot, hx3] at this
                exact this
              have f2 := hA.frozen x
              have A9 := Lib.hid (hA.set_ x hx2 (-1))
              rw [mid_step s i X n j x (by rw [HLe.out]; exact hx)] at A9
              have hU9 : Upd (fun k => k = ba) wr (wr.setCell ⟨ba, x, none⟩ (.int .i64 (-1))) := (Upd.refl (fun k => k = ba) wr).setCell (p := ⟨ba, x, none⟩) (fun _ => rfl) _
              have hnext : ∀ y, l[j + 1]? = some y → (x : Int) < (y : Int) := fun y hy => by
                have h1 := (List.getElem?_eq_some_iff.1 hx)
                have h2 := (List.getElem?_eq_some_iff.1 hy)
                have := List.pairwise_iff_getElem.1 HSo.out j (j + 1) h1.1 h2.1 (by omega)
                rw [h1.2, h2.2] at this
                omega
              have HNX := Lib.hid hnext
              have HU9 := Lib.hid hU9
              have dA : decide ((x : Int) ≤ last) = false := decide_eq_false (by have := hlast x hx; omega)
              have dB : decide ((i : Int) ≤ (x : Int)) = false := decide_eq_false (by omega)
              have dx0 : decide ((x : Int) < 0) = false := decide_eq_false (by omega)
              have dj0 : decide ((j : Int) < 0) = false := decide_eq_false (by omega)
              have dj : decide ((j : Int) < (l.length : Int)) = true := decide_eq_true (by omega)
              have HX := Lib.hid hx
              clear hmem hx1 hx3 he2 he3 hnot hU9 hnext hlast hS hA hV hU hx A9 HU9
              have hxz : (x : Int) < (i : Int) := by omega
              go_wp2_with fail
              go_quiet ((go_at_call 20; exact Calls.quiet_of (nowS _ g _ _ _ (S8.out.drewN _))))
              go_wp2_with fail
              go_roundw
              case rel =>
                have hd : Upd (fun _ => False) wr (wr.drewN nq) := (Upd.refl _ wr).drewN nq
                have hU9 : Upd (fun k => k = ba) wr ((wr.drewN nq).setCell ⟨ba, x, none⟩ (.int .i64 (-1))) := ((Upd.refl (fun k => k = ba) wr).drewN nq).setCell (p := ⟨ba, x, none⟩) (fun _ => rfl) _
                refine ⟨j + 1, x, by omega, by go_num, rfl, HNX.out, S8.out.upd hU9 (fun k e _ => .inr e), ?_, SlR.upd V8.out hU9 (fun k hk e => by have := HLB.out k hk; omega), ((U8.out.mono (S' := fun k => k = ba) (fun _ _ h => h.elim)).trans hU9).mono (fun k hk e => by have := HBA.out; have := HG.out; omega)⟩
                have h := (A8.out.upd hd (fun h => h)).set_ x hx2 (-1)
                rwa [mid_step s i X n j x (by rw [HLe.out]; exact HX.out)] at h
              case measure => simp [intOf]; omega
            · have hje : j = l.length := by omega
              subst hje
              have A9 : Hid (ArrI wr ba i (behindN s i X (n + 1))) := Lib.hid (hA.congr (fun k _ => by rw [← mid_end s i X n (by omega), HLe.out]))
              clear hS hA hV hU hlast
              go_wp2_with fail
              go_roundw
              case rel => exact ⟨n + 1, by omega, by go_num, S8.out, A9.out, U8.out⟩
              case measure => simp [intOf]; omega
        · have hne : n = 3001 := by omega
          subst hne
          rw [behind_end] at hS hA
          have S7 := Lib.hid hS; have A7 := Lib.hid hA
          clear hS hA hU hNw
          go_wp2_with fail
          go_loopw [12] (fun v12 wq => ∃ (j k : Nat), j ≤ i ∧ v12 = .int .i64 j ∧ wq = wr.drewN k) (fun v12 _ => i - (intOf v12).toNat)
          case atStart => exact ⟨0, 0, Nat.zero_le _, rfl, rfl⟩
          case round =>
            obtain ⟨j, k, hj, rfl, hwq⟩ := hrel
            have HWQ := Lib.hid hwq
            by_cases hjl : j < i
            · have cj : wr.cell? ⟨ba, j, none⟩ = some (.int .i64 (-1)) := by
                rw [hwq]
                exact A7.out.cell j hjl
              have dj : decide ((j : Int) < (i : Int)) = true := decide_eq_true (by omega)
              have dj0 : decide ((j : Int) < 0) = false := decide_eq_false (by omega)
              clear hwq
              go_wp2_with fail
              go_roundw
              case rel => exact ⟨j + 1, k, by omega, by go_num, HWQ.out⟩
              case measure => simp [intOf]; omega
            · have hje : j = i := by omega
              subst hje
              have S9 := S7.out.drewN k
              rw [← hwq] at S9
              have S9h := Lib.hid S9
              have HL := Lib.hid (lenS _ g _ _ _ S9)
              rw [cnt_none] at HL
              have U9 : Hid (Upd (fun _ => False) w wr) := Lib.hid (by rw [hwq]; exact U6.out.drewN k)
              clear S9 hwq
              go_wp2_with fail
              refine HL.out.mono ?_
              rintro e w9 ⟨rfl, k9, rfl⟩
              go_wp2_with fail
              refine (nowS _ g _ _ _ (S9h.out.drewN k9)).mono ?_
              rintro e w10 ⟨rfl, k10, rfl⟩
              go_wp2_with fail
              go_returns
              exact ⟨rfl, U9.out.drewN _⟩
theorem wheelComes_out (w : World) (t : Int) (A : Option Addr) (len cap : Nat) (h : 100 < len ∨ t < 0 ∨ 2305843009213693952 < t) : Calls Try.prog 4 #[.int .i64 t, .slice A len cap] w fun e w' => e = .returned (.bool true) ∧ Upd (fun _ => False) w w' := by
  by_cases h1 : 100 < len
  · have d1 : decide ((100 : Int) < (len : Int)) = true := decide_eq_true (by omega)
    clear h h1
    go_enter Try.func4, Try.ntmps4
    go_wp2_with fail
    refine (knowsW w).mono ?_
    rintro e w1 ⟨rfl, hU1⟩
    go_wp2_with fail
    go_returns
    exact ⟨rfl, hU1⟩
  · have d1 : decide ((100 : Int) < (len : Int)) = false := decide_eq_false (by omega)
    by_cases h2 : t < 0
    · have d2 : decide (t < 0) = true := decide_eq_true h2
      clear h h1 h2
      go_enter Try.func4, Try.ntmps4
      go_wp2_with fail
      refine (knowsW w).mono ?_
      rintro e w1 ⟨rfl, hU1⟩
      go_wp2_with fail
      go_returns
      exact ⟨rfl, hU1⟩
    · have d2 : decide (t < 0) = false := decide_eq_false h2
      have d3 : decide ((2305843009213693952 : Int) < t) = true := decide_eq_true (by omega)
      clear h h1 h2
      go_enter Try.func4, Try.ntmps4
      go_wp2_with fail
      refine (knowsW w).mono ?_
      rintro e w1 ⟨rfl, hU1⟩
      go_wp2_with fail
      go_returns
      exact ⟨rfl, hU1⟩
theorem wheelComes_any (w : World) (t : Int) (_ : (Lit.int .i64 t).wf = true) (A : Option Addr) (len cap : Nat) (X : Nat → Int) (_ : ∀ k, k < len → (Lit.int .i64 (X k)).wf = true) (hc : Row w A len fun k => .int .i64 (X k)) :
    Calls Try.prog 4 #[.int .i64 t, .slice A len cap] w fun e w' => e = .returned (.bool true) ∧ Below w.heap.size w w' := by
  have key : Calls Try.prog 4 #[.int .i64 t, .slice A len cap] w fun e w' => e = .returned (.bool true) ∧ Upd (fun _ => False) w w' := by
    by_cases h : 100 < len ∨ t < 0 ∨ 2305843009213693952 < t
    · exact wheelComes_out w t A len cap h
    · obtain ⟨s, rfl⟩ : ∃ s : Nat, t = s := ⟨t.toNat, by omega⟩
      exact wheelComes_main w s (by omega) A len cap (by omega) X hc
  exact key.mono (fun _ _ ⟨h1, h2⟩ => ⟨h1, h2.below (Nat.le_refl _) (fun _ h => h.elim)⟩)
end Go.Proofs.Ytcljgejalacccaa
