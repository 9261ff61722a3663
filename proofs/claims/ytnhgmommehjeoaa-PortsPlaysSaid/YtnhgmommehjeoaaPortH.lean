/-
  PortsOrder.
-/
import Derived.Test.YtnhgmommehjeoaaPortG
namespace Go.Proofs.Ytnhgmommehjeoaa
open Go.RowKit
attribute [local go_sem] max_ints min_ints

def encI (x : Int) : List Value := [.int .i64 x]
theorem encI_len (x : Int) : (encI x).length = 1 := rfl
theorem infoIn : (Try.prog.info? 3).map (fun i => (i.zero, i.size, i.bytes)) = some (some (.int .i64 0), 1, 8) := by kernel_rfl
theorem sizeIn : ∀ w, (sizeOf (Try.prog.elem 28)).run Try.prog w = .ok 1 w := fun _ => by kernel_rfl
theorem new_cellsO (w : World) (cs : List Value) (t : TypeId) : ∀ j u, cs[j]? = some u → (w.alloc (.cells cs.toArray t)).cell? ((⟨w.heap.size, 0, none⟩ : Addr).add j) = some u := by
  intro j u hu
  rw [add_at, (Blk.new _ _ _).cell j]
  simpa using hu

def oc (n : Nat) : Ch := { q := true, f := 0, t := 1, sz := n }
def om (n : Nat) (xs : List Int) (lost : Int) : PM := { c := oc n, xs := xs, lost := lost, at_ := 0 }
theorem size_alloc (w : World) (o : Obj) : (w.alloc o).heap.size = w.heap.size + 1 := by simp
theorem oc_room (n : Nat) (h : n ≤ 50) : (oc n).room = n := by unfold Ch.room oc; dsimp only; omega
theorem om_put_in {n : Nat} {xs : List Int} {lost v now : Int} (hn : n ≤ 50) (h : xs.length < n) : (om n xs lost).put v now = om n (xs ++ [v]) lost := by
  have e1 : (om n xs lost).c.room = n := oc_room n hn
  have e2 : (om n xs lost).xs = xs := rfl
  unfold PM.put
  rw [if_pos (show (om n xs lost).c.q = true from rfl), e1, e2, pushL, pushB, if_pos h, if_pos (decide_eq_true h)]
  rfl
theorem om_put_out {n : Nat} {xs : List Int} {lost v now : Int} (hn : n ≤ 50) (h : ¬ xs.length < n) : (om n xs lost).put v now = om n xs (lost + 1) := by
  have e1 : (om n xs lost).c.room = n := oc_room n hn
  have e2 : (om n xs lost).xs = xs := rfl
  unfold PM.put
  rw [if_pos (show (om n xs lost).c.q = true from rfl), e1, e2, pushL, pushB, if_neg h, if_neg (by simpa using h)]
  rfl

set_option maxRecDepth 100000 in
set_option maxHeartbeats 6400000 in
theorem portsOrder_main (w : World) (n : Nat) (hn1 : 1 ≤ n) (hn : n ≤ 50) (A : Option Addr) (len cap : Nat) (hl : len ≤ 200) (X : Nat → Int × Int × Int × Int × Int) (hc : Rowiiiii w A len X) :
    Calls Try.prog 3 #[.int .i64 n, .slice A len cap] w fun e w' => e = .returned (.bool true) ∧ Upd (fun _ => False) w w' := by
  have HC := Lib.hid hc
  have d1 : decide ((n : Int) < 1) = false := decide_eq_false (by omega)
  have d2 : decide (50 < (n : Int)) = false := decide_eq_false (by omega)
  have d3 : decide (200 < (len : Int)) = false := decide_eq_false (by omega)
  obtain ⟨i0, hi0, hz0, hz1, hz2⟩ := info_parts infoIn
  have HN : Hid (∀ W : World, Calls Try.prog 8 #[.slice (some ⟨W.heap.size, 0, none⟩) 1 1] (W.alloc (.cells #[.bool true, .int .i64 0, .int .i64 1, .int .i64 n] 27)) fun e w' => e = .returned (.pointer (some ⟨W.heap.size + 1, 0, none⟩)) ∧ PortsS w' (W.heap.size + 1) w'.heap.size (W.heap.size + 1) [om n [] 0] ∧ Upd (fun _ => False) W w') :=
    Lib.hid (fun W => (portsNew _ W.heap.size _ [oc n] (SlR.one W (oc n)) (by simp)).mono (fun e w' ⟨h1, h2, h3⟩ => by
      rw [size_alloc] at h1 h2
      exact ⟨h1, h2, ((Upd.refl _ W).alloc _).trans h3⟩))
  clear hc
  go_enter Try.func3, Try.ntmps3
  go_wp2_with fail
  refine (knowsO _).mono ?_
  rintro e w1 ⟨rfl, hU⟩
  have U1 := Lib.hid hU
  clear hU
  go_wp2_with fail
  refine (HN.out w1).mono ?_
  rintro e w2 ⟨rfl, hS, hU⟩
  have U2 : Hid (Upd (fun k => w.heap.size ≤ k) w w2) := Lib.hid ((U1.out.trans hU).mono (fun _ _ h => h.elim))
  have HP : Hid (w.heap.size ≤ w1.heap.size + 1) := Lib.hid (by have := U1.out.size; omega)
  obtain ⟨P, hP⟩ : ∃ P, w1.heap.size + 1 = P := ⟨_, rfl⟩
  obtain ⟨B, hB⟩ : ∃ B, w2.heap.size = B := ⟨_, rfl⟩
  rw [hP] at hS HP
  rw [hB] at hS
  have HB := Lib.hid hB
  have S2 := Lib.hid hS
  rw [hP]
  clear hS hU hP hB
  go_wp2_with fail
  go_loopw [6, 7, 8] (fun v6 v7 v8 wr => ∃ (i : Nat) (xs : List Int) (lost : Int), i ≤ len ∧ v8 = .int .i64 i ∧ v7 = .int .i64 lost ∧ SlR encI wr B 3 1 v6 xs ∧ PortsS wr P B P [om n xs lost] ∧ xs.length ≤ n ∧ (0 ≤ lost ∧ lost ≤ i) ∧ Upd (fun k => w.heap.size ≤ k) w wr ∧ B ≤ wr.heap.size) (fun _ _ v8 _ => len - (intOf v8).toNat)
  case atStart => exact ⟨0, [], 0, by omega, rfl, rfl, SlR.nil, S2.out, by simp, by omega, U2.out, by rw [HB.out]; exact Nat.le_refl _⟩
  case round =>
    obtain ⟨i, xs, lost, hi, rfl, rfl, hV, hS, hxn, hlo, hU, hBw⟩ := hrel
    have HV := Lib.hid hV; have HS := Lib.hid hS; have HU := Lib.hid hU
    have HLO := Lib.hid hlo
    obtain ⟨A6, c6, rfl⟩ := hV.shape
    clear hV hS hU hlo
    by_cases hlt : i < len
    · obtain ⟨b, o, rfl, hb, g0, g1, g2, g3, g4⟩ := HC.out i hlt
      obtain ⟨⟨x0, x1, x2, x3, x4⟩, hX⟩ : ∃ q, X i = q := ⟨_, rfl⟩
      rw [hX] at g0 g1 g2 g3 g4
      clear hX
      dsimp only at g0 g1 g2 g3 g4
      have KC : Hid (∀ wx, Upd (fun k => w.heap.size ≤ k) w wx → wx.cell? ⟨b, o + i * 5, none⟩ = some (.int .i64 x0) ∧ wx.cell? ⟨b, o + i * 5 + 3, none⟩ = some (.int .i64 x3)) := Lib.hid (fun wx hu =>
        ⟨(hu.cell (p := ⟨b, o + i * 5, none⟩) hb (by simp only; omega)).trans g0, (hu.cell (p := ⟨b, o + i * 5 + 3, none⟩) hb (by simp only; omega)).trans g3⟩)
      clear g0 g1 g2 g3 g4
      have c0 := (KC.out _ HU.out).1
      have c3 := (KC.out _ HU.out).2
      by_cases hk : x0 ≤ 2
      · have dk : decide (x0 ≤ 2) = true := decide_eq_true hk
        go_wp2_with fail
        refine (writeYes _ P B P _ HS.out 0 (om n xs lost) rfl (by have := HLO.out; show 0 ≤ lost ∧ lost ≤ 1000000; omega) x3 i).mono ?_
        rintro e w3 ⟨rfl, hS3, hU3⟩
        have U3 := Lib.hid (HU.out.trans (hU3.mono (fun k _ h => Nat.le_trans HP.out h.1)))
        have V3 := Lib.hid (HV.out.upd hU3 (fun k hk h => by have := (Sl.blk HV.out k hk).1; omega))
        have hB3 : B ≤ w3.heap.size := Nat.le_trans hBw hU3.size
        by_cases hf : xs.length < n
        · have S3 : Hid (PortsS w3 P B P [om n (xs ++ [x3]) lost]) := Lib.hid (by have := hS3; rw [om_put_in hn hf] at this; exact this)
          have df : decide ((xs.length : Int) < (n : Int)) = true := decide_eq_true (by omega)
          have c3' := (KC.out _ U3.out).2
          clear hS3 hU3 c0 c3
          go_wp2_with fail
          refine (numO _ 0).mono ?_
          rintro e w4 ⟨rfl, k4, rfl⟩
          go_wp2_with (
            at_builtin
            refine wpList_append_sl rfl (.tmp 58) (.tmp 64) 28 rfl B 3 i0 _ 1 8 Try.underlying28 hi0 hz0 hz1 hz2 rfl (by decide) _ xs.length (rws encI xs) rfl (by exact Sl.alloc (Sl.drewN V3.out k4) (.cells #[.int .i64 x3] 3)) ⟨_, 0, none⟩ 1 [.int .i64 x3] rfl rfl (new_cellsO _ _ _) (by simp [Value.oneCell']) (by unfold maxLen; omega) (by omega) (by simp; omega) ?_
            intro v' w7 hs7 hu7 hv7
            have FS7 : Hid (SlR encI w7 B 3 1 v' (xs ++ [x3])) := Lib.hid (by
              unfold SlR
              rw [List.length_append, rws_append]
              exact hs7)
            have U7 : Hid (Upd (fun k => w.heap.size ≤ k) w w7 ∧ B ≤ w7.heap.size) := Lib.hid (by
              have h1 := (U3.out.drewN k4).alloc (.cells #[.int .i64 x3] 3)
              have hsz := hu7.size
              simp only [size_alloc] at hsz
              have hw : w.heap.size ≤ B := by have := U2.out.size; rw [HB.out] at this; exact this
              exact ⟨h1.trans (hu7.mono (fun k _ hk => Nat.le_trans hw (Sl.blk V3.out k hk).1)), by have : (w3.drewN k4).heap.size = w3.heap.size := rfl; omega⟩)
            have S7 : Hid (PortsS w7 P B P [om n (xs ++ [x3]) lost]) := Lib.hid (((S3.out.drewN k4).still ((Upd.refl _ _).alloc (.cells #[.int .i64 x3] 3))).upd hu7 (fun k hk1 hk2 hk => by have := (Sl.blk V3.out k hk).1; omega))
            obtain ⟨bz, oz, cz, rfl, _, _, _, _⟩ := hs7.form (by omega)
            clear hs7 hu7 hv7)
          go_roundw
          case rel => exact ⟨i + 1, xs ++ [x3], lost, by omega, by go_num, rfl, by have := FS7.out; simpa using this, S7.out, by simp; omega, by have := HLO.out; omega, U7.out.1, U7.out.2⟩
          case measure => simp [intOf]; omega
        · have S3 : Hid (PortsS w3 P B P [om n xs (lost + 1)]) := Lib.hid (by have := hS3; rw [om_put_out hn hf] at this; exact this)
          have df : decide ((xs.length : Int) < (n : Int)) = false := decide_eq_false (by omega)
          have hw1 := wrap_in (lost + 1) (by have := HLO.out; omega) (by have := HLO.out; omega)
          clear hS3 hU3 c0 c3
          go_wp2_with fail
          refine (numO _ 0).mono ?_
          rintro e w4 ⟨rfl, k4, rfl⟩
          go_wp2_with fail
          go_roundw
          case rel => exact ⟨i + 1, xs, lost + 1, by omega, by go_num, rfl, V3.out.drewN _, S3.out.drewN _, hxn, by have := HLO.out; omega, U3.out.drewN _, hB3⟩
          case measure => simp [intOf]; omega
      · have dk : decide (x0 ≤ 2) = false := decide_eq_false hk
        go_wp2_with fail
        refine (readYes _ P B P _ HS.out 0 (om n xs lost) rfl i).mono ?_
        rintro e w3 ⟨he, hS3, hU3⟩
        have U3 := Lib.hid (HU.out.trans (hU3.mono (fun k _ h => Nat.le_trans HP.out h.1)))
        have V3 := Lib.hid (HV.out.upd hU3 (fun k hk h => by have := (Sl.blk HV.out k hk).1; omega))
        have hB3 : B ≤ w3.heap.size := Nat.le_trans hBw hU3.size
        cases xs with
        | nil =>
          have he' : e = .returned (.tuple #[.int .i64 0, .int .i64 0, .int .i64 6]) := he
          clear he
          subst he'
          have S3 : Hid (PortsS w3 P B P [om n [] lost]) := Lib.hid hS3
          clear hS3 hU3 c0 c3
          go_wp2_with fail
          refine (numO _ 6).mono ?_
          rintro e w4 ⟨rfl, k4, rfl⟩
          go_wp2_with fail
          go_roundw
          case rel => exact ⟨i + 1, [], lost, by omega, by go_num, rfl, V3.out.drewN _, S3.out.drewN _, hxn, by have := HLO.out; omega, U3.out.drewN _, hB3⟩
          case measure => simp [intOf]; omega
        | cons x t =>
          have he' : e = .returned (.tuple #[.int .i64 x, .int .i64 lost, .int .i64 0]) := he
          clear he
          subst he'
          have S3 : Hid (PortsS w3 P B P [om n t 0]) := Lib.hid hS3
          clear hS3 hU3 c0 c3
          have dl : decide ((0 : Int) < ((t.length + 1 : Nat) : Int)) = true := decide_eq_true (by omega)
          have dl' : decide ((0 : Int) < (t.length : Int) + 1) = true := decide_eq_true (by omega)
          obtain ⟨b6, o6, c6', he6, _, _, _, _⟩ := V3.out.form (by simp)
          injection he6 with he6 _ he7
          subst he6
          subst he7
          have cx := V3.out.cell encI_len 0 x rfl 0 _ rfl
          rw [Nat.zero_mul, Nat.add_zero] at cx
          have HVS : Hid (SlR encI w3 B 3 1 (.slice (if c6 = 1 then some ⟨b6, o6, none⟩ else some ⟨b6, o6 + 1, none⟩) t.length (c6 - 1)) t) := Lib.hid (by
            have hV3 : Sl w3 B 3 1 (.slice (some ⟨b6, o6, none⟩) (t.length + 1) c6) (t.length + 1) (rws encI (x :: t)) := V3.out
            by_cases e : c6 = 1
            · subst e
              obtain ⟨h1, h2, h3⟩ := Sl.tail1 hV3
              obtain rfl : t = [] := List.eq_nil_of_length_eq_zero h1
              rw [if_pos rfl]
              exact h3
            · rw [if_neg e]
              exact Sl.tail hV3 (rws_drop1 encI_len _ _) e)
          go_wp2_with fail
          refine (numO _ 0).mono ?_
          rintro e w4 ⟨rfl, k4, rfl⟩
          go_wp2_with fail
          go_roundw
          case rel => exact ⟨i + 1, t, 0, by omega, by go_num, rfl, Sl.drewN HVS.out _, S3.out.drewN _, by simp at hxn; omega, by omega, U3.out.drewN _, hB3⟩
          case measure => simp [intOf]; omega
    · have hie : i = len := by omega
      subst hie
      go_wp2_with fail
      refine (waitYes _ P B P _ HS.out 0 (om n xs lost) rfl).mono ?_
      rintro e w3 ⟨rfl, hU3⟩
      go_wp2_with fail
      go_returns
      refine ⟨?_, (HU.out.trans (hU3.mono (fun _ _ h => h.elim))).mono (fun k hk h => by omega)⟩
      first | (simp [om]; done) | (show Ending.returned (.bool _) = _; simp [om])
end Go.Proofs.Ytnhgmommehjeoaa
