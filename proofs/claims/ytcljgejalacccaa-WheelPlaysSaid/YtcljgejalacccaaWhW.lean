/-
  The document's wheel: what it is; Set, When, Cancel, Len.
-/
import Derived.Test.YtcljgejalacccaaWhK
namespace Go.Proofs.Ytcljgejalacccaa
open Go.RowKit
attribute [local go_sem] max_ints min_ints

def ArrO (w : World) (b o n : Nat) (c : Nat → Int) : Prop := ∃ cs, Blk w b 3 cs ∧ o + n ≤ cs.size ∧ ∀ i, i < n → cs[o + i]? = some (.int .i64 (c i))
section
variable {w w' : World} {b o n : Nat} {c c' : Nat → Int} {S : Nat → Prop}
theorem ArrO.lt (h : ArrO w b o n c) : b < w.heap.size := by obtain ⟨cs, h, _⟩ := h; exact h.lt
theorem ArrO.cell (h : ArrO w b o n c) (i : Nat) (hi : i < n) : w.cell? ⟨b, o + i, none⟩ = some (.int .i64 (c i)) := by obtain ⟨cs, h, _, h1⟩ := h; rw [h.cell]; exact h1 i hi
theorem ArrO.frozen (h : ArrO w b o n c) (i : Nat) : w.frozen? ⟨b, i, none⟩ = false := by obtain ⟨cs, h, _⟩ := h; exact h.frozen i
theorem ArrO.upd (h : ArrO w b o n c) (hu : Upd S w w') (hb : ¬ S b) : ArrO w' b o n c := by obtain ⟨cs, h, h'⟩ := h; exact ⟨cs, h.upd hu hb, h'⟩
theorem ArrO.congr (h : ArrO w b o n c) (e : ∀ i, i < n → c' i = c i) : ArrO w b o n c' := by obtain ⟨cs, h, h1, h2⟩ := h; exact ⟨cs, h, h1, fun i hi => by rw [e i hi]; exact h2 i hi⟩
theorem ArrO.set_ (h : ArrO w b o n c) (i : Nat) (hi : i < n) (v : Int) : ArrO (w.setCell ⟨b, o + i, none⟩ (.int .i64 v)) b o n (fput c i v) := by
  obtain ⟨cs, h, h1, h2⟩ := h
  refine ⟨_, h.set_ (o + i) _, by simpa using h1, fun j hj => ?_⟩
  by_cases e : j = i
  · subst e; rw [fput_eq, Array.getElem?_setIfInBounds_self_of_lt (by omega)]
  · rw [fput_ne _ _ e, Array.getElem?_setIfInBounds_ne (by omega)]; exact h2 j hj
theorem ArrO.ne_ (h : ArrO w b o n c) {k : Nat} {t : TypeId} {cs : Array Value} (hB : Blk w k t cs) (ht : t ≠ 3) : k ≠ b := by obtain ⟨cs', h, _⟩ := h; exact hB.ne_ h ht
end
/-- The document's wheel at r, its numbers in block rb. -/
structure RWh (w : World) (r rb o cap now : Nat) (at_ : Nat → Int) : Prop where
  b : Blk w r 32 #[.int .i64 (now : Int), .slice (some ⟨rb, o, none⟩) 256 cap]
  a : ArrO w rb o 256 at_
section
variable {w w' : World} {r rb o cap now : Nat} {at_ at' : Nat → Int} {S : Nat → Prop}
theorem RWh.upd (h : RWh w r rb o cap now at_) (hu : Upd S w w') (h1 : ¬ S r) (h2 : ¬ S rb) : RWh w' r rb o cap now at_ := ⟨h.b.upd hu h1, h.a.upd hu h2⟩
theorem RWh.still (h : RWh w r rb o cap now at_) (hu : Upd (fun _ => False) w w') : RWh w' r rb o cap now at_ := h.upd hu (fun h => h) (fun h => h)
theorem RWh.drewN (h : RWh w r rb o cap now at_) (k : Nat) : RWh (w.drewN k) r rb o cap now at_ := h.still ((Upd.refl _ w).drewN k)
theorem RWh.ne_ (h : RWh w r rb o cap now at_) : r ≠ rb := h.a.ne_ h.b (by decide)
theorem RWh.put (h : RWh w r rb o cap now at_) (i : Nat) (hi : i < 256) (v : Int) : RWh (w.setCell ⟨rb, o + i, none⟩ (.int .i64 v)) r rb o cap now (fput at_ i v) ∧ Upd (fun k => k = rb) w (w.setCell ⟨rb, o + i, none⟩ (.int .i64 v)) := by
  have hU : Upd (fun k => k = rb) w (w.setCell ⟨rb, o + i, none⟩ (.int .i64 v)) := (Upd.refl (fun k => k = rb) w).setCell (p := ⟨rb, o + i, none⟩) (fun _ => rfl) _
  exact ⟨⟨h.b.upd hU h.ne_, h.a.set_ i hi v⟩, hU⟩
theorem RWh.congr (h : RWh w r rb o cap now at_) (e : ∀ i, i < 256 → at' i = at_ i) : RWh w r rb o cap now at' := ⟨h.b, h.a.congr e⟩
end

set_option maxHeartbeats 1600000 in
theorem rSetC (w : World) (r rb o cap now : Nat) (at_ : Nat → Int) (h : RWh w r rb o cap now at_) (id t : Int) :
    Calls Try.prog 12 #[.pointer (some ⟨r, 0, none⟩), .int .i64 id, .int .i64 t] w fun e w' => e = .returned (.int .i64 (setE now id t)) ∧ RWh w' r rb o cap now (setA now at_ id t) ∧ Upd (fun k => k = rb) w w' := by
  have H := Lib.hid h
  have c0 : w.cell? ⟨r, 0, none⟩ = some (.int .i64 (now : Int)) := h.b.cell 0
  have c1 : w.cell? ⟨r, 1, none⟩ = some (.slice (some ⟨rb, o, none⟩) 256 cap) := h.b.cell 1
  clear h
  by_cases hid : 0 ≤ id ∧ id < 256
  · obtain ⟨i, rfl⟩ : ∃ i : Nat, id = i := ⟨id.toNat, by omega⟩
    have hi : i < 256 := by omega
    have d0 : decide ((i : Int) < 0) = false := decide_eq_false (by omega)
    have d1 : decide ((256 : Int) ≤ (i : Int)) = false := decide_eq_false (by omega)
    by_cases ht : (now : Int) < t ∧ t ≤ 4611686018427387904
    · have HE : Hid (setE now (i : Int) t = 0) := Lib.hid (by unfold setE; rw [if_pos hid, if_pos ht])
      have HA : Hid (setA now at_ (i : Int) t = fput at_ i t) := Lib.hid (by unfold setA; rw [if_pos HE.out, Int.toNat_natCast])
      have d2 : decide (t ≤ (now : Int)) = false := decide_eq_false (by omega)
      have d3 : decide ((4611686018427387904 : Int) < t) = false := decide_eq_false (by omega)
      have ca := H.out.a.cell i hi
      have fa := H.out.a.frozen (o + i)
      have HP := Lib.hid (H.out.put i hi t)
      have hiz : (i : Int) < 256 := by omega
      clear hid ht
      go_enter Try.func12, Try.ntmps12
      go_wp2_with fail
      go_returns
      rw [HE.out, HA.out]
      exact ⟨rfl, HP.out⟩
    · have HE : Hid (setE now (i : Int) t = 2) := Lib.hid (by unfold setE; rw [if_pos hid, if_neg ht])
      have HA : Hid (setA now at_ (i : Int) t = at_) := Lib.hid (by unfold setA; rw [HE.out, if_neg (by decide)])
      by_cases ht1 : t ≤ (now : Int)
      · have d2 : decide (t ≤ (now : Int)) = true := decide_eq_true ht1
        clear hid ht ht1
        go_enter Try.func12, Try.ntmps12
        go_wp2_with fail
        go_returns
        rw [HE.out, HA.out]
        exact ⟨rfl, H.out, Upd.refl _ w⟩
      · have d2 : decide (t ≤ (now : Int)) = false := decide_eq_false ht1
        have d3 : decide ((4611686018427387904 : Int) < t) = true := decide_eq_true (by omega)
        clear hid ht ht1
        go_enter Try.func12, Try.ntmps12
        go_wp2_with fail
        go_returns
        rw [HE.out, HA.out]
        exact ⟨rfl, H.out, Upd.refl _ w⟩
  · have HE : Hid (setE now id t = 1) := Lib.hid (by unfold setE; rw [if_neg hid])
    have HA : Hid (setA now at_ id t = at_) := Lib.hid (by unfold setA; rw [HE.out, if_neg (by decide)])
    by_cases h0 : 0 ≤ id
    · have d0 : decide (id < 0) = false := decide_eq_false (by omega)
      have d1 : decide ((256 : Int) ≤ id) = true := decide_eq_true (by omega)
      clear hid h0
      go_enter Try.func12, Try.ntmps12
      go_wp2_with fail
      go_returns
      rw [HE.out, HA.out]
      exact ⟨rfl, H.out, Upd.refl _ w⟩
    · have d0 : decide (id < 0) = true := decide_eq_true (by omega)
      clear hid h0
      go_enter Try.func12, Try.ntmps12
      go_wp2_with fail
      go_returns
      rw [HE.out, HA.out]
      exact ⟨rfl, H.out, Upd.refl _ w⟩

set_option maxHeartbeats 1600000 in
theorem rWhenC (w : World) (r rb o cap now : Nat) (at_ : Nat → Int) (h : RWh w r rb o cap now at_) (hok : ∀ i, i < 256 → okT now (at_ i)) (id : Int) :
    Calls Try.prog 19 #[.pointer (some ⟨r, 0, none⟩), .int .i64 id] w fun e w' => e = .returned (whenV (whenE at_ id)) ∧ ∃ k, w' = w.drewN k := by
  have c1 : w.cell? ⟨r, 1, none⟩ = some (.slice (some ⟨rb, o, none⟩) 256 cap) := h.b.cell 1
  by_cases hid : 0 ≤ id ∧ id < 256
  · obtain ⟨i, rfl⟩ : ∃ i : Nat, id = i := ⟨id.toNat, by omega⟩
    have hi : i < 256 := by omega
    have hc := h.a.cell i hi
    have d0 : decide ((i : Int) < 0) = false := decide_eq_false (by omega)
    have d1 : decide ((256 : Int) ≤ (i : Int)) = false := decide_eq_false (by omega)
    have hiz : (i : Int) < 256 := by omega
    have HE : Hid (whenE at_ (i : Int) = if at_ i = -1 then (0, false) else (at_ i, true)) := Lib.hid (by unfold whenE; rw [if_pos hid, Int.toNat_natCast])
    have hoki := hok i hi
    clear h hid hok
    obtain ⟨t, ht⟩ : ∃ t, at_ i = t := ⟨_, rfl⟩
    rw [ht] at hc HE hoki
    clear ht
    by_cases hs : t = -1
    · subst hs
      rw [if_pos rfl] at HE
      clear hoki
      go_enter Try.func19, Try.ntmps19
      go_wp2_with fail
      go_returns
      rw [HE.out]
      exact ⟨rfl, 0, rfl⟩
    · have d2 : decide (t < 0) = false := decide_eq_false (by have := hoki.resolve_left hs; omega)
      rw [if_neg hs] at HE
      clear hs hoki
      go_enter Try.func19, Try.ntmps19
      go_wp2_with fail
      go_returns
      rw [HE.out]
      exact ⟨rfl, 0, rfl⟩
  · have HE : Hid (whenE at_ id = (0, false)) := Lib.hid (by unfold whenE; rw [if_neg hid])
    by_cases h0 : 0 ≤ id
    · have d0 : decide (id < 0) = false := decide_eq_false (by omega)
      have d1 : decide ((256 : Int) ≤ id) = true := decide_eq_true (by omega)
      clear h hid h0 hok
      go_enter Try.func19, Try.ntmps19
      go_wp2_with fail
      go_returns
      rw [HE.out]
      exact ⟨rfl, 0, rfl⟩
    · have d0 : decide (id < 0) = true := decide_eq_true (by omega)
      clear h hid h0 hok
      go_enter Try.func19, Try.ntmps19
      go_wp2_with fail
      go_returns
      rw [HE.out]
      exact ⟨rfl, 0, rfl⟩

set_option maxRecDepth 100000 in
set_option maxHeartbeats 1600000 in
theorem rCancelC (w : World) (r rb o cap now : Nat) (at_ : Nat → Int) (h : RWh w r rb o cap now at_) (hok : ∀ i, i < 256 → okT now (at_ i)) (id : Int) :
    Calls Try.prog 14 #[.pointer (some ⟨r, 0, none⟩), .int .i64 id] w fun e w' => e = .returned (.bool (whenE at_ id).2) ∧ RWh w' r rb o cap now (if (whenE at_ id).2 = true then fput at_ id.toNat (-1) else at_) ∧ Upd (fun k => k = rb) w w' := by
  have HW := Lib.hid (rWhenC w r rb o cap now at_ h hok id)
  have c1 : ∀ q, (w.drewN q).cell? ⟨r, 1, none⟩ = some (.slice (some ⟨rb, o, none⟩) 256 cap) := fun q => h.b.cell 1
  have H := Lib.hid h
  clear h hok
  cases hw : (whenE at_ id).2 with
  | false =>
    have HE := Lib.hid (whenE_no hw)
    clear hw
    go_enter Try.func14, Try.ntmps14
    go_wp2_with fail
    refine HW.out.mono ?_
    rintro e w2 ⟨he, k1, rfl⟩
    rw [HE.out] at he
    have he' : e = .returned (.tuple #[.int .i64 0, .bool false]) := he
    clear he
    subst he'
    go_wp2_with fail
    go_returns
    exact ⟨rfl, H.out.drewN _, (Upd.refl _ w).drewN _⟩
  | true =>
    obtain ⟨i, rfl, hi, hs, hE⟩ := whenE_yes hw
    have HE := Lib.hid hE
    have ca := H.out.a.cell i hi
    have fa := H.out.a.frozen (o + i)
    have HP : Hid (∀ q, RWh ((w.drewN q).setCell ⟨rb, o + i, none⟩ (.int .i64 (-1))) r rb o cap now (fput at_ i (-1)) ∧ Upd (fun k => k = rb) w ((w.drewN q).setCell ⟨rb, o + i, none⟩ (.int .i64 (-1)))) := Lib.hid (fun q => ⟨((H.out.drewN q).put i hi (-1)).1, ((Upd.refl _ w).drewN q).trans ((H.out.drewN q).put i hi (-1)).2⟩)
    have hiz : (i : Int) < 256 := by omega
    have di : decide ((i : Int) < 0) = false := decide_eq_false (by omega)
    clear hw hs hE
    go_enter Try.func14, Try.ntmps14
    go_wp2_with fail
    refine HW.out.mono ?_
    rintro e w2 ⟨he, k1, rfl⟩
    rw [HE.out] at he
    have he' : e = .returned (.tuple #[.int .i64 (at_ i), .bool true]) := he
    clear he
    subst he'
    go_wp2_with fail
    go_returns
    exact ⟨rfl, HP.out _⟩

set_option maxRecDepth 100000 in
set_option maxHeartbeats 1600000 in
theorem rLenC (w : World) (r rb o cap now : Nat) (at_ : Nat → Int) (h : RWh w r rb o cap now at_) (hok : ∀ i, i < 256 → okT now (at_ i)) :
    Calls Try.prog 22 #[.pointer (some ⟨r, 0, none⟩)] w fun e w' => e = .returned (.int .i64 (cntA at_ 256 : Int)) ∧ ∃ k, w' = w.drewN k := by
  have H := Lib.hid h
  have HOK := Lib.hid hok
  clear h hok
  go_enter Try.func22, Try.ntmps22
  go_wp2_with fail
  go_loopw [3, 4] (fun v3 v4 wr => ∃ (i k : Nat), i ≤ 256 ∧ v4 = .int .i64 i ∧ v3 = .int .i64 (cntA at_ i : Nat) ∧ wr = w.drewN k) (fun _ v4 _ => 256 - (intOf v4).toNat)
  case atStart => exact ⟨0, 0, Nat.zero_le _, rfl, rfl, rfl⟩
  case round =>
    obtain ⟨i, k, hi, rfl, rfl, hwr⟩ := hrel
    have HWR := Lib.hid hwr
    have hn := cntA_le at_ i
    by_cases hlt : i < 256
    · have c1 : wr.cell? ⟨r, 1, none⟩ = some (.slice (some ⟨rb, o, none⟩) 256 cap) := by rw [hwr]; exact H.out.b.cell 1
      have ca : wr.cell? ⟨rb, o + i, none⟩ = some (.int .i64 (at_ i)) := by rw [hwr]; exact H.out.a.cell i hlt
      have hok := HOK.out i hlt
      have hsucc := cntA_succ at_ i
      have hsucc := cntA_succ at_ i
      have d0 : decide ((i : Int) < 256) = true := decide_eq_true (by omega)
      have di : decide ((i : Int) < 0) = false := decide_eq_false (by omega)
      have hiz : (i : Int) < 256 := by omega
      obtain ⟨t, ht⟩ : ∃ t, at_ i = t := ⟨_, rfl⟩
      rw [ht] at ca hok hsucc
      clear ht
      by_cases hs : t = -1
      · rw [if_pos hs] at hsucc
        have HS := Lib.hid hsucc
        have dt : decide ((0 : Int) ≤ t) = false := decide_eq_false (by omega)
        clear hsucc hs hok hwr
        go_wp2_with fail
        go_roundw
        case rel => exact ⟨i + 1, k, by omega, by go_num, by rw [HS.out, Nat.add_zero], HWR.out⟩
        case measure => simp [intOf]; omega
      · rw [if_neg hs] at hsucc
        have HS := Lib.hid hsucc
        have dt : decide ((0 : Int) ≤ t) = true := decide_eq_true (by have := hok.resolve_left hs; omega)
        clear hsucc hs hok hwr
        obtain ⟨m, hm⟩ : ∃ m, cntA at_ i = m := ⟨_, rfl⟩
        rw [hm] at HS hn ⊢
        have HMM := Lib.hid hm
        clear hm
        go_wp2_with fail
        go_roundw
        case rel => exact ⟨i + 1, k, by omega, by go_num, by rw [HS.out]; simp, HWR.out⟩
        case measure => simp [intOf]; omega
    · have hie : i = 256 := by omega
      subst hie
      clear hwr
      go_wp2_with fail
      go_returns
      exact ⟨rfl, k, HWR.out⟩
end Go.Proofs.Ytcljgejalacccaa
