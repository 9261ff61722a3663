/-
  The document's wheel: New, Go.
-/
import Derived.Test.YtcljgejalacccaaWhW
namespace Go.Proofs.Ytcljgejalacccaa
open Go.RowKit
attribute [local go_sem] max_ints min_ints

set_option maxRecDepth 100000 in
set_option maxHeartbeats 3200000 in
theorem rNewC (w : World) (s : Int) :
    Calls Try.prog 9 #[.int .i64 s] w fun e w' => e = .returned (.pointer (some ⟨w.heap.size, 0, none⟩)) ∧ (∃ rb o cap, RWh w' w.heap.size rb o cap (min (max s 0) 4611686018427387904).toNat (fun _ => -1) ∧ w.heap.size ≤ rb) ∧ Upd (fun _ => False) w w' := by
  obtain ⟨x, hx⟩ : ∃ x : Nat, min (max s 0) 4611686018427387904 = (x : Int) := ⟨(min (max s 0) 4611686018427387904).toNat, by omega⟩
  have HXT : Hid ((min (max s 0) 4611686018427387904).toNat = x) := Lib.hid (by omega)
  obtain ⟨i0, hi0, hz0, hz1, hz2⟩ := info_parts infoIn
  go_enter Try.func9, Try.ntmps9
  go_wp2_with fail
  have B0 := Lib.hid (Blk.new w 32 #[.int .i64 (x : Int), .slice none 0 0])
  have U0 := Lib.hid ((Upd.refl (fun _ => False) w).alloc (.cells #[.int .i64 (x : Int), .slice none 0 0] 32))
  obtain ⟨r, hr⟩ : ∃ r, w.heap.size = r := ⟨_, rfl⟩
  have HR := Lib.hid hr
  rw [hr] at B0 ⊢
  clear hr hx
  go_loopw [4] (fun vi wr => ∃ (i : Nat) (v : Value), i ≤ 256 ∧ vi = .int .i64 i ∧ Blk wr r 32 #[.int .i64 (x : Int), v] ∧ Sl wr r 3 1 v i (List.replicate i (.int .i64 (-1))) ∧ Upd (fun _ => False) w wr) (fun vi _ => 256 - (intOf vi).toNat)
  case atStart => exact ⟨0, _, Nat.zero_le _, rfl, B0.out, Sl.nil _ _ _ _, U0.out⟩
  case round =>
    obtain ⟨i, v, hi, rfl, hB, hS, hU⟩ := hrel
    obtain ⟨A, c, rfl⟩ := hS.shape
    have HB := Lib.hid hB; have HS := Lib.hid hS; have HU := Lib.hid hU
    by_cases hlt : i < 256
    · have d0 : decide ((i : Int) < 256) = true := decide_eq_true (by omega)
      have c1 : wr.cell? ⟨r, 1, none⟩ = some (.slice A i c) := hB.cell 1
      have hsz : r ≤ (wr.alloc (.cells #[.int .i64 (-1)] 3)).heap.size := by have := hB.lt; have := ((Upd.refl (fun _ => False) wr).alloc (.cells #[.int .i64 (-1)] 3)).size; omega
      clear hB hS hU
      go_wp2_with (
        at_builtin
        refine wpList_append_sl rfl (.tmp 18) (.tmp 19) 30 rfl r 3 i0 _ 1 8 Try.underlying30 hi0 hz0 hz1 hz2 rfl (by decide) (.slice A i c) i (List.replicate i (.int .i64 (-1))) rfl (Sl.alloc HS.out _) ⟨_, 0, none⟩ 1 [.int .i64 (-1)] rfl rfl (fun j u hu => by rw [add_at, (Blk.new _ _ _).cell j]; simpa using hu) (by simp [Value.oneCell']) (by unfold maxLen; omega) (by omega) hsz ?_
        intro v9 wZ hs1 hu1 hv1
        obtain ⟨bz, oz, cz, hvz, _, _, _, _⟩ := hs1.form (by omega)
        subst hvz
        have hBa := HB.out.alloc (.cells #[.int .i64 (-1)] 3)
        have hBz := hBa.upd hu1 (fun e => Sl.ne_ (Sl.alloc HS.out (.cells #[.int .i64 (-1)] 3)) hBa (by decide) _ e rfl)
        have cz1 := hBz.cell 1
        have fz1 := hBz.frozen 1
        have hU2 : Upd (fun k => k = r) wZ (wZ.setCell ⟨r, 1, none⟩ (.slice (some ⟨bz, oz, none⟩) (i + 1) cz)) := (Upd.refl (fun k => k = r) wZ).setCell (p := ⟨r, 1, none⟩) (fun _ => rfl) _
        have NB : Hid (Blk (wZ.setCell ⟨r, 1, none⟩ (.slice (some ⟨bz, oz, none⟩) (i + 1) cz)) r 32 #[.int .i64 (x : Int), .slice (some ⟨bz, oz, none⟩) (i + 1) cz]) := Lib.hid (by simpa using hBz.set_ 1 (.slice (some ⟨bz, oz, none⟩) (i + 1) cz))
        have NS : Hid (Sl (wZ.setCell ⟨r, 1, none⟩ (.slice (some ⟨bz, oz, none⟩) (i + 1) cz)) r 3 1 (.slice (some ⟨bz, oz, none⟩) (i + 1) cz) (i + 1) (List.replicate (i + 1) (.int .i64 (-1)))) := Lib.hid (by
          rw [List.replicate_succ']
          exact Sl.upd hs1 hU2 (fun k hk e => Sl.ne_ hs1 hBz (by decide) k hk e))
        have NU : Hid (Upd (fun _ => False) w (wZ.setCell ⟨r, 1, none⟩ (.slice (some ⟨bz, oz, none⟩) (i + 1) cz))) := Lib.hid (((((HU.out.alloc (.cells #[.int .i64 (-1)] 3)).mono (S' := fun k => r ≤ k) (fun _ _ h => h.elim)).trans (hu1.mono (fun k _ e => (Sl.blk HS.out k e).1))).trans (hU2.mono (fun k _ e => by omega))).mono (fun k hk h => by have := HR.out; omega))
        have cz1' : wZ.cell? ⟨r, 1, none⟩ = some (.slice A i c) := cz1
        clear hs1 hu1 hv1 hBa hBz cz1 hU2)
      go_roundw
      case rel => exact ⟨i + 1, _, by omega, by go_num, NB.out, NS.out, NU.out⟩
      case measure => simp [intOf]; omega
    · have hie : i = 256 := by omega
      subst hie
      obtain ⟨rb, o, cp, he, hge, _, _, _⟩ := hS.form (by decide)
      injection he with he1 he2 he3
      subst he1; subst he3
      obtain ⟨_, _, _, _, cur, hcb, hcs, hcx⟩ := hS.parts
      have hA : ArrO wr rb o 256 (fun _ => -1) := ⟨cur, hcb, by have := hS.parts; omega, fun j hj => hcx j _ (by rw [List.getElem?_replicate, if_pos hj])⟩
      have HA := Lib.hid hA
      have HGE := Lib.hid hge
      clear hB hS hU hA hcb hcs hcx he2
      go_wp2_with fail
      go_returns
      rw [HXT.out]
      rw [HR.out]
      exact ⟨rfl, ⟨rb, o, c, ⟨HB.out, HA.out⟩, HGE.out⟩, HU.out⟩

def midR (now : Nat) (at_ : Nat → Int) (i k : Nat) : Int := if k < i ∧ at_ k = ((now + 1 : Nat) : Int) then -1 else at_ k
theorem midR0 (now : Nat) (at_ : Nat → Int) : midR now at_ 0 = at_ := by funext k; unfold midR; rw [if_neg (by omega)]
theorem midR_no (now : Nat) (at_ : Nat → Int) (i : Nat) (h : at_ i ≠ ((now + 1 : Nat) : Int)) : midR now at_ (i + 1) = midR now at_ i := by
  funext k
  unfold midR
  by_cases e : k < i ∧ at_ k = ((now + 1 : Nat) : Int)
  · rw [if_pos e, if_pos ⟨by omega, e.2⟩]
  · rw [if_neg e, if_neg (fun e2 => ?_)]
    by_cases hk : k = i
    · subst hk; exact h e2.2
    · exact e ⟨by omega, e2.2⟩
theorem midR_yes (now : Nat) (at_ : Nat → Int) (i : Nat) (h : at_ i = ((now + 1 : Nat) : Int)) : fput (midR now at_ i) i (-1) = midR now at_ (i + 1) := by
  funext k
  by_cases hk : k = i
  · subst hk; rw [fput_eq]; unfold midR; rw [if_pos ⟨by omega, h⟩]
  · rw [fput_ne _ _ hk]
    unfold midR
    by_cases e : k < i ∧ at_ k = ((now + 1 : Nat) : Int)
    · rw [if_pos e, if_pos ⟨by omega, e.2⟩]
    · rw [if_neg e, if_neg (fun e2 => e ⟨by omega, e2.2⟩)]
theorem midR_at (now : Nat) (at_ : Nat → Int) (i : Nat) : midR now at_ i i = at_ i := by unfold midR; rw [if_neg (by omega)]
def outR (now : Nat) (at_ : Nat → Int) (i : Nat) : List Nat := (List.range i).filter (fun k => decide (at_ k = ((now + 1 : Nat) : Int)))
theorem outR_succ (now : Nat) (at_ : Nat → Int) (i : Nat) : outR now at_ (i + 1) = outR now at_ i ++ if at_ i = ((now + 1 : Nat) : Int) then [i] else [] := by
  unfold outR
  rw [List.range_succ, List.filter_append]
  congr 1
  by_cases h : at_ i = ((now + 1 : Nat) : Int)
  · rw [if_pos h]; exact List.filter_cons_of_pos (decide_eq_true h)
  · rw [if_neg h]; exact List.filter_cons_of_neg (by rw [decide_eq_false h]; exact Bool.false_ne_true)
theorem outR_len (now : Nat) (at_ : Nat → Int) (i : Nat) : (outR now at_ i).length ≤ i := Nat.le_trans (List.length_filter_le _ _) (by simp)

set_option maxRecDepth 100000 in
set_option maxHeartbeats 3200000 in
theorem rGoC (w : World) (r rb o cap now : Nat) (at_ : Nat → Int) (h : RWh w r rb o cap now at_) (hn : now ≤ 4611686018427387904) :
    Calls Try.prog 17 #[.pointer (some ⟨r, 0, none⟩)] w fun e w' => ∃ v, e = .returned v ∧ SlR encN w' w.heap.size 3 1 v (goLs now at_) ∧ RWh w' r rb o cap (goNow now) (goAt now at_) ∧ Upd (fun k => k = r ∨ k = rb) w w' := by
  have c0 : w.cell? ⟨r, 0, none⟩ = some (.int .i64 (now : Int)) := h.b.cell 0
  have H := Lib.hid h
  have hlr := h.b.lt
  have hlrb := h.a.lt
  by_cases hmax : now = 4611686018427387904
  · have dN : ((now : Int) == 4611686018427387904) = true := by rw [hmax]; rfl
    have dN2 : decide ((now : Int) = 4611686018427387904) = true := decide_eq_true (by omega)
    have HM := Lib.hid hmax
    clear h hmax
    go_enter Try.func17, Try.ntmps17
    go_wp2_with fail
    go_returns
    refine ⟨_, rfl, ?_, ?_, Upd.refl _ w⟩
    · unfold goLs; rw [if_pos HM.out]; exact SlR.nil
    · unfold goNow goAt; rw [if_pos HM.out, if_pos HM.out]; exact H.out
  · have dN : ((now : Int) == 4611686018427387904) = false := beq_eq_false_iff_ne.2 (by omega)
    have dN2 : decide ((now : Int) = 4611686018427387904) = false := decide_eq_false (by omega)
    have HM := Lib.hid hmax
    have hlt' : now < 4611686018427387904 := by omega
    obtain ⟨i0, hi0, hz0, hz1, hz2⟩ := info_parts infoIn
    have f0 := h.b.frozen 0
    have hcast : ((now + 1 : Nat) : Int) = (now : Int) + 1 := by omega
    have hU1 : Upd (fun k => k = r) w (w.setCell ⟨r, 0, none⟩ (.int .i64 ((now : Int) + 1))) := (Upd.refl (fun k => k = r) w).setCell (p := ⟨r, 0, none⟩) (fun _ => rfl) _
    have hB1 : Blk (w.setCell ⟨r, 0, none⟩ (.int .i64 ((now : Int) + 1))) r 32 #[.int .i64 ((now + 1 : Nat) : Int), .slice (some ⟨rb, o, none⟩) 256 cap] := by rw [hcast]; simpa using h.b.set_ 0 (.int .i64 ((now : Int) + 1))
    have R1 : Hid (RWh (w.setCell ⟨r, 0, none⟩ (.int .i64 ((now : Int) + 1))) r rb o cap (now + 1) at_) := Lib.hid ⟨hB1, h.a.upd hU1 (fun e => h.ne_ e.symm)⟩
    have U1 := Lib.hid hU1
    have HNE := Lib.hid h.ne_
    clear h hmax hcast hU1 hB1
    go_enter Try.func17, Try.ntmps17
    go_wp2_with fail
    go_loopw [3, 4] (fun v3 v4 wr => ∃ (i : Nat), i ≤ 256 ∧ v4 = .int .i64 i ∧ RWh wr r rb o cap (now + 1) (midR now at_ i) ∧ SlR encN wr w.heap.size 3 1 v3 (outR now at_ i) ∧ Upd (fun k => k = r ∨ k = rb) w wr) (fun _ v4 _ => 256 - (intOf v4).toNat)
    case atStart => exact ⟨0, Nat.zero_le _, rfl, by rw [midR0]; exact R1.out, SlR.nil, U1.out.mono (fun k _ e => .inl e)⟩
    case round =>
      obtain ⟨i, hi, rfl, hR, hS, hU⟩ := hrel
      obtain ⟨A, c, rfl⟩ := hS.shape
      have HR := Lib.hid hR; have HS := Lib.hid hS; have HU := Lib.hid hU
      have hol := outR_len now at_ i
      by_cases hlt : i < 256
      · have d0 : decide ((i : Int) < 256) = true := decide_eq_true (by omega)
        have di : decide ((i : Int) < 0) = false := decide_eq_false (by omega)
        have hiz : (i : Int) < 256 := by omega
        have c1 : wr.cell? ⟨r, 0, none⟩ = some (.int .i64 ((now + 1 : Nat) : Int)) := hR.b.cell 0
        have c2 : wr.cell? ⟨r, 1, none⟩ = some (.slice (some ⟨rb, o, none⟩) 256 cap) := hR.b.cell 1
        have ca := hR.a.cell i hlt
        rw [midR_at] at ca
        have hsz := hU.size
        have hos := outR_succ now at_ i
        by_cases hd : at_ i = ((now + 1 : Nat) : Int)
        · rw [if_pos hd] at hos
          have hyes := midR_yes now at_ i hd
          rw [hd] at ca
          have HY := Lib.hid hyes
          have HOS := Lib.hid hos
          obtain ⟨ol, hol'⟩ : ∃ l, outR now at_ i = l := ⟨_, rfl⟩
          rw [hol'] at HS HOS hol
          obtain ⟨m, hm⟩ : ∃ m, ol.length = m := ⟨_, rfl⟩
          have HML := Lib.hid hm
          rw [hol', hm]
          rw [hm] at HS hol
          clear hR hS hU hos hyes hd hol' hm
          go_wp2_with fail
          go_quiet (fail)
          have hsz2 : w.heap.size ≤ ((wr.drewN nq).alloc (.cells #[.int .i64 (i : Int)] 3)).heap.size := by have := ((Upd.refl (fun _ => False) wr).drewN nq).alloc (.cells #[.int .i64 (i : Int)] 3) |>.size; omega
          go_wp2_with (
            at_builtin
            refine wpList_append_sl rfl (.tmp 33) (.tmp 35) 30 rfl w.heap.size 3 i0 _ 1 8 Try.underlying30 hi0 hz0 hz1 hz2 rfl (by decide) (.slice A m c) m (rws encN ol) rfl (by have := HS.out; unfold SlR at this; rw [HML.out] at this; exact Sl.alloc (Sl.drewN this nq) _) ⟨_, 0, none⟩ 1 [.int .i64 (i : Int)] rfl rfl (fun j u hu => by rw [add_at]; refine ((Blk.new (wr.drewN nq) 3 #[.int .i64 (i : Int)]).cell j).trans ?_; simpa using hu) (by simp [Value.oneCell']) (by unfold maxLen; omega) (by omega) hsz2 ?_
            intro v9 wZ hs1 hu1 hv1
            obtain ⟨bz, oz, cz, hvz, _, _, _, _⟩ := hs1.form (by omega)
            subst hvz
            have hSl : Sl ((wr.drewN nq).alloc (.cells #[.int .i64 (i : Int)] 3)) w.heap.size 3 1 (.slice A m c) m (rws encN ol) := by have := HS.out; unfold SlR at this; rw [HML.out] at this; exact Sl.alloc (Sl.drewN this nq) _
            have hge : ∀ k, slBlk (.slice A m c) = some k → w.heap.size ≤ k := fun k hk => (Sl.blk hSl k hk).1
            have hRa := (HR.out.drewN nq).still ((Upd.refl _ _).alloc (.cells #[.int .i64 (i : Int)] 3))
            have hRz := hRa.upd hu1 (fun e => by have := hge _ e; omega) (fun e => by have := hge _ e; omega)
            have cz1 := hRz.b.cell 1
            have cza := hRz.a.cell i hlt
            have fza := hRz.a.frozen (o + i)
            have hput := hRz.put i hlt (-1)
            rw [HY.out] at hput
            have cz1' : wZ.cell? ⟨r, 1, none⟩ = some (.slice (some ⟨rb, o, none⟩) 256 cap) := cz1
            have PR := Lib.hid hput.1
            have PS : Hid (SlR encN (wZ.setCell ⟨rb, o + i, none⟩ (.int .i64 (-1))) w.heap.size 3 1 (.slice (some ⟨bz, oz, none⟩) (m + 1) cz) (outR now at_ (i + 1))) := Lib.hid (by
              rw [HOS.out]
              unfold SlR
              rw [List.length_append, rws_append, HML.out]
              exact Sl.upd hs1 hput.2 (fun k hk e => by have := (Sl.blk hs1 k hk).1; omega))
            have PU : Hid (Upd (fun k => k = r ∨ k = rb) w (wZ.setCell ⟨rb, o + i, none⟩ (.int .i64 (-1)))) := Lib.hid (by
              have h1 := ((HU.out.drewN nq).alloc (.cells #[.int .i64 (i : Int)] 3)).mono (S' := fun k => (k = r ∨ k = rb) ∨ w.heap.size ≤ k) (fun _ _ h => .inl h)
              exact ((h1.trans (hu1.mono (fun k _ e => .inr (hge k e)))).trans (hput.2.mono (fun k _ e => .inl (.inr e)))).mono (fun k hk h => h.resolve_right (by omega)))
            clear hs1 hu1 hv1 hSl hge hRa hRz cz1 hput)
          go_roundw
          case rel => exact ⟨i + 1, by omega, by go_num, PR.out, PS.out, PU.out⟩
          case measure => simp [intOf]; omega
        · rw [if_neg hd, List.append_nil] at hos
          have hno := midR_no now at_ i hd
          have HNO := Lib.hid hno
          have HOS := Lib.hid hos
          obtain ⟨t, ht⟩ : ∃ t, at_ i = t := ⟨_, rfl⟩
          rw [ht] at ca hd
          have dq : (t == ((now + 1 : Nat) : Int)) = false := beq_eq_false_iff_ne.2 hd
          have dq2 : decide (t = ((now + 1 : Nat) : Int)) = false := decide_eq_false hd
          clear hR hS hU hos hno ht hd
          go_wp2_with fail
          go_quiet (fail)
          go_wp2_with fail
          go_roundw
          case rel => exact ⟨i + 1, by omega, by go_num, by rw [HNO.out]; exact HR.out.drewN _, by rw [HOS.out]; exact HS.out.drewN _, HU.out.drewN _⟩
          case measure => simp [intOf]; omega
      · have hie : i = 256 := by omega
        subst hie
        clear hR hS hU
        go_wp2_with fail
        go_returns
        refine ⟨_, rfl, ?_, ?_, HU.out⟩
        · unfold goLs; rw [if_neg HM.out]; exact HS.out
        · unfold goNow goAt
          rw [if_neg HM.out, if_neg HM.out]
          exact HR.out.congr (fun k hk => by unfold goneA midR; by_cases e : at_ k = ((now + 1 : Nat) : Int) <;> simp [e, hk])
end Go.Proofs.Ytcljgejalacccaa
