/-
  The walk of frame.Table: tally.
-/
import Derived.Test.YtcgefncddbbnlaaFrameF
import Derived.Laws.MakeOwn
namespace Go.Proofs.Ytcgefncddbbnlaa.Fr
open Go.RowKit
attribute [local go_sem] max_ints min_ints

def fl (F : Nat) (f : Nat → Int) : List Int := (List.range (F + 1)).map f
def flc (F : Nat) (f : Nat → Int) : Array Value := ((fl F f).map (Value.int .i64)).toArray
theorem flc_at (F : Nat) (f : Nat → Int) (q : Nat) (h : q ≤ F) : (flc F f)[q]? = some (.int .i64 (f q)) := by
  simp only [flc, fl, List.getElem?_toArray, List.getElem?_map]
  rw [List.getElem?_range (by omega)]
  rfl
theorem flc_size (F : Nat) (f : Nat → Int) : (flc F f).size = F + 1 := by simp [flc, fl]
theorem flc_congr {F : Nat} {f g : Nat → Int} (h : ∀ q, q ≤ F → f q = g q) : flc F f = flc F g := by
  unfold flc fl
  congr 2
  exact List.map_congr_left (fun q hq => h q (by have := List.mem_range.1 hq; omega))
theorem flc_set (F : Nat) (f : Nat → Int) (q : Nat) (u : Int) : (flc F f).setIfInBounds q (.int .i64 u) = flc F (fun x => if x = q then u else f x) := by
  apply Array.ext_getElem?
  intro i
  by_cases hi : i ≤ F
  · rw [flc_at _ _ i hi, Array.getElem?_setIfInBounds, flc_size]
    by_cases e : q = i
    · subst e
      simp
      omega
    · rw [if_neg e, flc_at _ _ i hi, if_neg (Ne.symm e)]
  · rw [Array.getElem?_eq_none (by simp [flc_size]; omega), Array.getElem?_eq_none (by rw [flc_size]; omega)]
theorem flc_made (F : Nat) : madeCells #[.int .i64 0] ((F + 1) * 1) = flc F (fun _ => 0) := by
  apply Array.ext_getElem?
  intro i
  by_cases hi : i ≤ F
  · rw [flc_at _ _ i hi, Array.getElem?_eq_getElem (by rw [size_madeCells]; omega)]
    simp [madeCells, Nat.mod_one]
  · rw [Array.getElem?_eq_none (by rw [size_madeCells]; omega), Array.getElem?_eq_none (by rw [flc_size]; omega)]
theorem rws_encI : ∀ xs : List Int, rws encI xs = xs.map (Value.int .i64)
  | [] => rfl
  | x :: xs => by rw [rws_cons, rws_encI xs]; rfl
theorem flc_sl {w : World} {b base : Nat} {t : TypeId} {F : Nat} {f : Nat → Int} (h : Blk w b t (flc F f)) (hb : base ≤ b) (hF : F ≤ 1000) : SlR encI w base t 1 (.slice (some ⟨b, 0, none⟩) (F + 1) (F + 1)) (fl F f) := by
  have hl : (fl F f).length = F + 1 := by simp [fl]
  unfold SlR Sl
  rw [hl]
  refine ⟨by rw [rws_encI, List.length_map, hl]; omega, .inr ⟨b, 0, F + 1, _, rfl, hb, h, Nat.le_refl _, by unfold maxLen; omega, by rw [flc_size]; omega, fun j u hu => ?_⟩⟩
  rw [rws_encI] at hu
  rw [Nat.zero_add]
  simpa [flc] using hu

/-- Is a place open to p, by these windows? -/
def anyO (M : Int) (ws : List W3) (p q : Int) : Bool := ws.any (fun x => x.2.2 == p && decide (x.1 + min M x.2.1 ≤ q ∧ q < x.1 + x.2.1))
theorem anyO_take (M : Int) (ws : List W3) (p q : Int) (i : Nat) (x : W3) (hx : ws[i]? = some x) : anyO M (ws.take (i + 1)) p q = (anyO M (ws.take i) p q || (x.2.2 == p && decide (x.1 + min M x.2.1 ≤ q ∧ q < x.1 + x.2.1))) := by
  unfold anyO
  rw [List.take_add_one, hx, List.any_append]
  simp
theorem anyO_eq {F M : Int} {ws : List W3} (h : fitsB F 0 ws = true) (hM : 0 ≤ M) (p q : Int) : anyO M ws p q = isO M ws p q := by
  have hi := isO_iff h hM p q
  rw [Bool.eq_iff_iff, hi]
  unfold anyO
  rw [List.any_eq_true]
  constructor
  · rintro ⟨x, hx, h1⟩
    simp only [Bool.and_eq_true, beq_iff_eq, decide_eq_true_eq] at h1
    exact ⟨x, hx, h1.1, by omega, h1.2.2⟩
  · rintro ⟨x, hx, h1, h2, h3⟩
    refine ⟨x, hx, ?_⟩
    simp only [Bool.and_eq_true, beq_iff_eq, decide_eq_true_eq]
    exact ⟨h1, by omega, h3⟩
def mk1 (P : Nat → Bool) : Nat → Int
  | 0 => 0
  | q + 1 => if P q = true then 1 else 0
theorem flc_mk {F : Nat} {P P' : Nat → Bool} (h : ∀ q, q < F → P q = P' q) : flc F (mk1 P) = flc F (mk1 P') := flc_congr (fun q hq => by
  cases q with
  | zero => rfl
  | succ q => simp only [mk1, h q (by omega)])
theorem flc_mk_set {F : Nat} (P : Nat → Bool) (k : Nat) (hk : k < F) : (flc F (mk1 P)).setIfInBounds (k + 1) (.int .i64 1) = flc F (mk1 (fun q => P q || decide (q = k))) := by
  rw [flc_set]
  refine flc_congr (fun q hq => ?_)
  cases q with
  | zero => rfl
  | succ q =>
    simp only [mk1]
    by_cases e : q = k
    · subst e; simp
    · rw [if_neg (by omega)]
      simp [e]
/-- Sums up to j. -/
def sm1 (P : Nat → Bool) (C : Nat → Int) (j q : Nat) : Int := if q < j then C q else mk1 P q
theorem flc_sm_set {F : Nat} (P : Nat → Bool) (C : Nat → Int) (j : Nat) (u : Int) (hu : u = C j) : (flc F (sm1 P C j)).setIfInBounds j (.int .i64 u) = flc F (sm1 P C (j + 1)) := by
  subst hu
  rw [flc_set]
  refine flc_congr (fun q hq => ?_)
  unfold sm1
  by_cases e : q = j
  · subst e; simp
  · rw [if_neg e]
    by_cases h : q < j
    · rw [if_pos h, if_pos (by omega)]
    · rw [if_neg h, if_neg (by omega)]

theorem infoI : (Try.prog.info? 3).map (fun i => (i.zero, i.size, i.bytes)) = some (some (.int .i64 0), 1, 8) := by kernel_rfl

set_option maxRecDepth 100000 in
set_option maxHeartbeats 3200000 in
theorem tallyT (w : World) (g F : Nat) (M : Int) (ws : List W3) (L : Value) (cs : Array Value) (hB : Blk w g 87 cs) (hc0 : cs[0]? = some L) (hc1 : cs[1]? = some (.int .i64 M)) (hc2 : cs[2]? = some (.int .i64 F)) (hL : RdW w L ws)
    (hr : rightB F M ws = true) (p : Nat) (_ : p < 6) :
    Calls Try.prog 64 #[.pointer (some ⟨g, 0, none⟩), .int .i64 p] w fun e w' => ∃ v, e = .returned v ∧ SlR encI w' w.heap.size 3 1 v (aheadL M ws p F) ∧ Upd (fun _ => False) w w' := by
  obtain ⟨hF1, hF2, hM, hM8, hl, hfit⟩ := rightB_parts hr
  obtain ⟨i0, hi0, hz0, hz1, hz2⟩ := info_parts infoI
  have HFIT := Lib.hid hfit
  have hmk : ∀ w : World, (Instr.makeSlice 38 (.int .i64 ((F : Int) + 1)) (.int .i64 ((F : Int) + 1))).run Try.prog w = .ok (.slice (some ⟨w.heap.size, 0, none⟩) (F + 1) (F + 1)) (w.alloc (.cells (flc F (fun _ => 0)) 3)) := fun w => by
    have := run_makeSlice (P := Try.prog) w 38 3 i0 _ Try.underlying38 hi0 hz0 .i64 .i64 ((F : Int) + 1) ((F : Int) + 1) (by omega) (Int.le_refl _) (by rw [hz1]; omega) (by rw [hz2]; omega) (by omega)
    rw [this]
    have e : ((F : Int) + 1).toNat = F + 1 := by omega
    rw [e, hz1]
    exact congrArg (fun c => Result.ok _ (w.alloc (.cells c 3))) (flc_made F)
  clear hi0 hz0 hz1 hz2 hfit hr
  have HB := Lib.hid hB
  have HL := Lib.hid hL
  have c0 : w.cell? ⟨g, 0, none⟩ = some L := (hB.cell 0).trans hc0
  have c1 : w.cell? ⟨g, 1, none⟩ = some (.int .i64 M) := (hB.cell 1).trans hc1
  have c2 : w.cell? ⟨g, 2, none⟩ = some (.int .i64 F) := (hB.cell 2).trans hc2
  have hgw : g < w.heap.size := hB.lt
  obtain ⟨A, cap, hLe, _⟩ := hL
  subst hLe
  clear hB
  go_enter Try.func64, Try.ntmps64
  go_wp2_with fail
  obtain ⟨B, hBe⟩ : ∃ B, w.heap.size = B := ⟨_, rfl⟩
  have h00 : Blk (w.alloc (.cells (flc F (fun _ => 0)) 3)) B 3 (flc F (mk1 (fun q => anyO M (ws.take 0) p q))) := by
    have := Blk.new w 3 (flc F (fun _ => 0))
    rw [hBe] at this
    rw [show flc F (mk1 (fun q => anyO M (ws.take 0) p q)) = flc F (fun _ => 0) from flc_congr (fun q _ => by cases q <;> rfl)]
    exact this
  have H00 := Lib.hid h00
  have HS : Hid (w.heap.size ≤ B) := Lib.hid (by omega)
  clear h00 hmk
  rw [hBe]
  go_loopw [24] (fun vi wr => ∃ i : Nat, i ≤ ws.length ∧ vi = .int .i64 i ∧ Blk wr B 3 (flc F (mk1 (fun q => anyO M (ws.take i) p q))) ∧ Upd (fun _ => False) w wr) (fun vi _ => ws.length - (intOf vi).toNat)
  case atStart => exact ⟨0, Nat.zero_le _, rfl, H00.out, (Upd.refl _ w).alloc _⟩
  case round =>
    obtain ⟨i, hi, rfl, hBi, hU⟩ := hrel
    have BI := Lib.hid hBi
    have HU := Lib.hid hU
    clear hBi hU
    by_cases hlt : i < ws.length
    · obtain ⟨x, hx⟩ : ∃ x, ws[i]? = some x := ⟨_, List.getElem?_eq_getElem hlt⟩
      obtain ⟨A', cap', e, hcell⟩ := HL.out.still HU.out
      injection e with e1 e2 e3
      subst e1 e3
      obtain ⟨b, o, rfl, hb, q0, q1, q2⟩ := hcell i x hx
      have hfx := fitsB_mem HFIT.out x (List.mem_of_getElem? hx)
      have HX : Hid (∀ q : Int, anyO M (ws.take (i + 1)) p q = (anyO M (ws.take i) p q || (x.2.2 == (p : Int) && decide (x.1 + min M x.2.1 ≤ q ∧ q < x.1 + x.2.1)))) := Lib.hid (fun q => anyO_take M ws p q i x hx)
      clear hcell hx
      obtain ⟨x0, x1, x2⟩ := x
      dsimp only at *
      by_cases hxp : x2 = (p : Int)
      · subst hxp
        have e1 : ((p : Int) == (p : Int)) = true := beq_iff_eq.2 rfl
        obtain ⟨a, ha⟩ : ∃ a : Nat, x0 + min M x1 = a := ⟨(x0 + min M x1).toNat, by omega⟩
        obtain ⟨b', hb'⟩ : ∃ b : Nat, x0 + x1 = b := ⟨(x0 + x1).toNat, by omega⟩
        have hab : a ≤ b' := by omega
        have hbF : b' ≤ F := by omega
        rw [e1, ha, hb'] at HX
        have HA := Lib.hid ha; have HB' := Lib.hid hb'
        have U1 := Lib.hid (HU.out.alloc (.cells #[.int .i64 x0, .int .i64 x1, .int .i64 p] 79))
        have BX := Lib.hid (Blk.new wr 79 #[.int .i64 x0, .int .i64 x1, .int .i64 p])
        have B1 := Lib.hid (BI.out.alloc (.cells #[.int .i64 x0, .int .i64 x1, .int .i64 p] 79))
        go_upto_region 6 with fail
        generalize hW : wr.alloc (.cells #[.int .i64 x0, .int .i64 x1, .int .i64 p] 79) = W at *
        generalize hsz : wr.heap.size = G at *
        clear hW hsz
        have RL := Lib.hid (HL.out.still U1.out)
        have RB := Lib.hid (HB.out.upd U1.out (fun h => h))
        have c0' : W.cell? ⟨g, 0, none⟩ = some (.slice (some ⟨b, o, none⟩) ws.length cap) := (RB.out.cell 0).trans hc0
        have c1' : W.cell? ⟨g, 1, none⟩ = some (.int .i64 M) := (RB.out.cell 1).trans hc1
        have x0c : W.cell? ⟨G, 0, none⟩ = some (.int .i64 x0) := BX.out.cell 0
        have x1c : W.cell? ⟨G, 1, none⟩ = some (.int .i64 x1) := BX.out.cell 1
        have x2c : W.cell? ⟨G, 2, none⟩ = some (.int .i64 p) := BX.out.cell 2
        refine wp_region_seq (fun i => decide (i ≠ 5)) (fun i => decide (11 ≤ i ∧ i < 11)) (fun w' => w'.cell? ⟨g, 0, none⟩ = some (.slice (some ⟨b, o, none⟩) ws.length cap) ∧ w'.cell? ⟨g, 1, none⟩ = some (.int .i64 M) ∧ w'.cell? ⟨G, 0, none⟩ = some (.int .i64 x0) ∧ w'.cell? ⟨G, 1, none⟩ = some (.int .i64 x1) ∧ w'.cell? ⟨G, 2, none⟩ = some (.int .i64 p))
          (by kernel_rfl) (by kernel_rfl) (fun t ht => (of_decide_eq_true ht).2) (fun _ _ _ _ _ h => h) (by kernel_rfl) ⟨c0', c1', x0c, x1c, x2c⟩ ?_
        iterate 5
          refine' wpSeq_q (by rfl) (by rfl) (fun w' hS' => ?_) ?_
          rotate_left
          · obtain ⟨s0, s1, s2, s3, s4⟩ := hS'
            go_simp
            try rfl
          try simp only [Act.put, List.setIfInBounds_toArray, List.set_cons_zero, List.set_cons_succ]
        refine wpSeq_l (by rfl) (by rfl) (fun KQ hKQ => ?_)
        go_simp
        go_at_call 80
        refine (openW _ _ ⟨_, _, _, rfl⟩ M hM hM8 x0 x1 p (by omega) (by omega) (by omega) (by omega)).mono ?_
        rintro e w9 ⟨rfl, hU9⟩
        rw [HA.out, HB'.out]
        have RB2 := Lib.hid ((RB.out.drewN 1).upd hU9 (fun h => h))
        have BX2 := Lib.hid ((BX.out.drewN 1).upd hU9 (fun h => h))
        have BI2 := Lib.hid ((B1.out.drewN 1).upd hU9 (fun h => h))
        have U2 := Lib.hid ((U1.out.drewN 1).trans hU9)
        clear hU9 c0' c1' x0c x1c x2c ha hb' q0 q1 q2
        refine hKQ _ _ (.inr ⟨(RB2.out.cell 0).trans hc0, (RB2.out.cell 1).trans hc1, BX2.out.cell 0, BX2.out.cell 1, BX2.out.cell 2⟩) ?_
        clear hKQ KQ
        try simp only [Act.put, List.setIfInBounds_toArray, List.set_cons_zero, List.set_cons_succ]
        iterate 5
          refine' wpSeq_q (by rfl) (by rfl) (fun w' hS' => ?_) ?_
          rotate_left
          · obtain ⟨s0, s1, s2, s3, s4⟩ := hS'
            go_simp
            try rfl
          try simp only [Act.put, List.setIfInBounds_toArray, List.set_cons_zero, List.set_cons_succ]
        refine wpSeq_nil ?_
        go_wp2_with fail
        go_loopw [10] (fun vk wk => ∃ k : Nat, a ≤ k ∧ k ≤ b' ∧ vk = .int .i64 k ∧ Blk wk B 3 (flc F (mk1 (fun q => anyO M (ws.take i) p q || decide (a ≤ q ∧ q < k)))) ∧ Upd (fun _ => False) w wk) (fun vk _ => b' - (intOf vk).toNat)
        case atStart =>
          refine ⟨a, Nat.le_refl _, hab, rfl, ?_, U2.out⟩
          rw [flc_mk (P' := fun q => anyO M (ws.take i) p q) (fun q _ => by rw [decide_eq_false (by omega)]; simp)]
          exact BI2.out
        case round =>
          obtain ⟨k, hk1, hk2, rfl, hBk, hUk⟩ := hrel
          have BK := Lib.hid hBk
          have UK := Lib.hid hUk
          clear hBk hUk
          by_cases hkb : k < b'
          · have hkF : k < F := by omega
            have ck := (BK.out.cell (k + 1)).trans (flc_at _ _ _ (by omega))
            have fk := BK.out.frozen (k + 1)
            go_wp2_with fail
            go_roundw
            case rel =>
              refine ⟨k + 1, by omega, by omega, by go_num, ?_, UK.out.setCell (p := ⟨B, _, none⟩) (fun h => by have := HS.out; simp only at h; omega) _⟩
              have := BK.out.set_ (k + 1) (.int .i64 1)
              rw [flc_mk_set _ _ hkF, flc_mk (P' := fun q => anyO M (ws.take i) p q || decide (a ≤ q ∧ q < k + 1)) (fun q _ => by
                rw [Bool.or_assoc]
                congr 1
                rw [Bool.eq_iff_iff]
                simp only [Bool.or_eq_true, decide_eq_true_eq]
                omega)] at this
              exact this
            case measure => simp [intOf]; omega
          · have hkk : k = b' := by omega
            subst hkk
            go_wp2_with fail
            go_roundw
            case rel =>
              refine ⟨i + 1, by omega, by go_num, ?_, UK.out⟩
              rw [flc_mk (P' := fun q => anyO M (ws.take i) p q || decide (a ≤ q ∧ q < k)) (fun q _ => by
                rw [HX.out, Bool.true_and]
                congr 1
                rw [Bool.eq_iff_iff]
                simp only [decide_eq_true_eq]
                omega)]
              exact BK.out
            case measure => simp [intOf]; omega
      · have e1 : (x2 == (p : Int)) = false := beq_eq_false_iff_ne.2 hxp
        go_wp2_with fail
        go_roundw
        case rel =>
          refine ⟨i + 1, by omega, by go_num, ?_, HU.out.alloc _⟩
          have := BI.out.alloc (.cells #[.int .i64 x0, .int .i64 x1, .int .i64 x2] 79)
          rw [flc_mk (P' := fun q => anyO M (ws.take i) p q) (fun q _ => by rw [HX.out, e1]; simp)]
          exact this
        case measure => simp [intOf]; omega
    · have hii : i = ws.length := by omega
      go_wp2_with fail
      go_loopw [11] (fun vj wj => ∃ j : Nat, 1 ≤ j ∧ j ≤ F + 1 ∧ vj = .int .i64 j ∧ Blk wj B 3 (flc F (sm1 (fun q => isO M ws p q) (fun q => cntO M ws p q) j)) ∧ Upd (fun _ => False) w wj) (fun vj _ => F + 1 - (intOf vj).toNat)
      case atStart =>
        refine ⟨1, Nat.le_refl _, by omega, rfl, ?_, HU.out⟩
        have := BI.out
        rw [hii, List.take_length] at this
        rw [flc_congr (g := mk1 (fun q => anyO M ws p q)) (fun q _ => by
          unfold sm1
          cases q with
          | zero => rfl
          | succ q => rw [if_neg (by omega)]; simp only [mk1, anyO_eq HFIT.out hM])]
        exact this
      case round =>
        obtain ⟨j, hj1, hj2, rfl, hBj, hUj⟩ := hrel
        have BJ := Lib.hid hBj
        have UJ := Lib.hid hUj
        have d2 := ((HB.out.upd hUj (fun h => h)).cell 2).trans hc2
        clear hBj hUj
        by_cases hjF : j ≤ F
        · obtain ⟨jp, hjp⟩ : ∃ jp, j = jp + 1 := ⟨j - 1, by omega⟩
          have cj := (BJ.out.cell j).trans (flc_at _ _ _ hjF)
          have cp := (BJ.out.cell jp).trans (flc_at _ _ _ (by omega))
          have fj := BJ.out.frozen j
          obtain ⟨v1, hv1⟩ : ∃ v, sm1 (fun q => isO M ws p q) (fun q => cntO M ws p q) j j = v := ⟨_, rfl⟩
          obtain ⟨v2, hv2⟩ : ∃ v, sm1 (fun q => isO M ws p q) (fun q => cntO M ws p q) j jp = v := ⟨_, rfl⟩
          rw [hv1] at cj
          rw [hv2] at cp
          have hv : v1 + v2 = cntO M ws p j := by
            rw [← hv1, ← hv2]
            unfold sm1
            rw [if_neg (by omega), if_pos (by omega), hjp]
            simp only [mk1, cntO]
            omega
          have hvb := cntO_le M ws p j
          rw [← hv] at hvb
          have hb0 := hvb.1
          have hb1 := hvb.2
          have HV := Lib.hid hv
          have hw : IntKind.i64.wrap ((j : Int) - 1) = (jp : Int) := by rw [wrap_in _ (by omega) (by omega)]; omega
          have hw2 := wrap_in (v1 + v2) (by omega) (by omega)
          have HJP := Lib.hid hjp
          clear hv1 hv2 hv hvb hjp
          have hjp0 : jp ≤ F := by have := HJP.out; omega
          go_wp2_with fail
          go_region
          go_wp2_with fail
          go_roundw
          case rel =>
            refine ⟨j + 1, by omega, by omega, by go_num, ?_, (UJ.out.setCell (p := ⟨B, _, none⟩) (fun h => by have := HS.out; simp only at h; omega) _).drew⟩
            have := BJ.out.set_ j (.int .i64 (v1 + v2))
            rw [flc_sm_set _ _ _ _ HV.out] at this
            exact this.drew
          case measure => simp [intOf]; omega
        · have hje : j = F + 1 := by omega
          go_wp2_with fail
          go_returns
          refine ⟨_, rfl, ?_, UJ.out⟩
          have := BJ.out
          rw [flc_congr (g := fun q => cntO M ws p q) (fun q hq => by unfold sm1; rw [if_pos (by omega)])] at this
          exact flc_sl this HS.out (by omega)
end Go.Proofs.Ytcgefncddbbnlaa.Fr
