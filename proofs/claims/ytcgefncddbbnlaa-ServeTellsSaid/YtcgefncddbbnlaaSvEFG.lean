/-
  Serve: the answers and what is left, laid anew.
  Serve: play.
  Serve: may it be asked so.
-/
import Derived.Test.YtcgefncddbbnlaaSvBCD
namespace Go.Proofs.Ytcgefncddbbnlaa
open Go.RowKit
attribute [local go_sem] max_ints min_ints

def encQ (a : Int × Int) : List Value := [.int .i64 a.1, .int .i64 a.2]
theorem encQ_len (a : Int × Int) : (encQ a).length = 2 := rfl
def mkA (a : Int × Int) : An := ⟨a.1, a.2, -1, -1⟩
theorem take_succ_get {α : Type} {l : List α} {i : Nat} {a : α} (h : l[i]? = some a) : l.take (i + 1) = l.take i ++ [a] := by rw [List.take_add_one, h]; rfl
theorem infoAn : (Try.prog.info? 37).map (fun i => (i.zero, i.size, i.bytes)) = some (some (.agg #[.int .i64 0, .int .i64 0, .int .i64 0, .int .i64 0]), 4, 32) := by kernel_rfl
theorem infoIn : (Try.prog.info? 3).map (fun i => (i.zero, i.size, i.bytes)) = some (some (.int .i64 0), 1, 8) := by kernel_rfl

theorem BuS.base {w : World} {base base' : Nat} {bv : Value} {b : Bs} (h : BuS w base bv b) (hb : base' ≤ base) : BuS w base' bv b := by
  cases b with
  | ch s =>
    obtain ⟨g, e, L, K, h⟩ := h
    exact ⟨g, e, L, K, h.b, Sl.mono h.s hb, Sl.mono h.k hb, Nat.le_trans hb h.hg⟩
  | re p xs =>
    obtain ⟨g, L, e, hg, h⟩ := h
    exact ⟨g, L, e, Nat.le_trans hb hg, h.b, Sl.mono h.s hb⟩
theorem BuS.iface {w : World} {base : Nat} {bv : Value} {b : Bs} (h : BuS w base bv b) : ∃ ty g, bv = .iface ty (.pointer (some ⟨g, 0, none⟩)) := by
  cases b with
  | ch s =>
    obtain ⟨g, e, _⟩ := h
    exact ⟨_, g, e⟩
  | re p xs =>
    obtain ⟨g, L, e, _⟩ := h
    exact ⟨_, g, e⟩
theorem upd_below {w w' : World} (h : Below w.heap.size w w') : Upd (fun _ => False) w w' := by
  exact ⟨h.os, h.tape, h.output, h.size, fun k hk _ => h.block k hk⟩
section
variable {w w' : World} {base r g d : Nat} {bv lv ov : Value} {s : Rn}
theorem RnS.cell3 (h : RnS w base r bv g d lv ov s) {ov' : Value} {out' : List An} (ho : SlR encA w base 37 4 ov' out') :
    RnS (w.setCell ⟨r, 3, none⟩ ov') base r bv g d lv ov' { s with out := out' } := by
  obtain ⟨hU, h1, h2, h3, _⟩ := h.cells 3 ov'
  have ht : Tu base [99] w (w.setCell ⟨r, 3, none⟩ ov') := Tu.of hU (fun k _ e => by rw [e]; exact ⟨h.hr, _, _, h.b, by decide⟩)
  exact ⟨h.b.set_ 3 _, h1, h2, h3, Sl.tu ho ht (by decide), h.dl, h.hr, h.hg, h.hd⟩
theorem RnS.setOutV (h : RnS w base r bv g d lv ov s) (hu : Upd (fun q => slBlk ov = some q) w w') {ov' : Value} {out' : List An} (ho : SlR encA w' base 37 4 ov' out') :
    Blk w' r 99 #[bv, .pointer (some ⟨g, 0, none⟩), lv, ov, .int .i64 (s.next : Int)] ∧ RnS (w'.setCell ⟨r, 3, none⟩ ov') base r bv g d lv ov' { s with out := out' } ∧ Upd (fun q => base ≤ q) w (w'.setCell ⟨r, 3, none⟩ ov') := by
  have ht : Tu base [37] w w' := Tu.of hu (fun q _ e => by
    obtain ⟨h0, _, cur, hc⟩ := Sl.blk h.o q e
    exact ⟨h0, _, _, hc, by decide⟩)
  obtain ⟨⟨c1, hb1⟩, c2, hb2⟩ := RSt.blks h.ri
  have hb := h.b.tu ht (by decide)
  have hri : Rg.RSt w' g d 8 (idx s.wait) := h.ri.upd hu (fun e => by
    obtain ⟨_, _, cur, hc⟩ := Sl.blk h.o _ e
    exact hb1.ne_ hc (by decide) rfl) (fun e => by
    obtain ⟨_, _, cur, hc⟩ := Sl.blk h.o _ e
    exact hb2.ne_ hc (by decide) rfl)
  have hbu := h.bu.tu ht (by decide)
  have hl := Sl.tu h.l ht (by decide)
  have hU : Upd (fun q => q = r) w' (w'.setCell ⟨r, 3, none⟩ ov') := (Upd.refl (fun q => q = r) w').setCell (p := ⟨r, 3, none⟩) (fun _ => rfl) _
  have ht2 : Tu base [99] w' (w'.setCell ⟨r, 3, none⟩ ov') := Tu.of hU (fun k _ e => by rw [e]; exact ⟨h.hr, _, _, hb, by decide⟩)
  refine ⟨hb, ⟨hb.set_ 3 _, hbu.tu ht2 (by decide), hri.upd hU (fun e => ?_) (fun e => ?_), Sl.tu hl ht2 (by decide), Sl.tu ho ht2 (by decide), h.dl, h.hr, h.hg, h.hd⟩, ?_⟩
  · exact hb1.ne_ h.b (by decide) e
  · exact hb2.ne_ h.b (by decide) e
  · exact (hu.mono (S' := fun q => base ≤ q) (fun q _ e => (Sl.blk h.o q e).1)).trans (hU.mono (fun q _ e => by rw [e]; exact h.hr))
theorem RnS.setLeftV (h : RnS w base r bv g d lv ov s) (hu : Upd (fun q => slBlk lv = some q) w w') {lv' : Value} {left' : List Int} (ho : SlR encI w' base 3 1 lv' left') (hf : ∀ q, slBlk lv' = some q → slBlk lv = some q ∨ w.heap.size ≤ q) :
    Blk w' r 99 #[bv, .pointer (some ⟨g, 0, none⟩), lv, ov, .int .i64 (s.next : Int)] ∧ RnS (w'.setCell ⟨r, 2, none⟩ lv') base r bv g d lv' ov { s with left := left' } ∧ Upd (fun q => base ≤ q) w (w'.setCell ⟨r, 2, none⟩ lv') := by
  have ht : Tu base [3] w w' := Tu.of hu (fun q _ e => by
    obtain ⟨h0, _, cur, hc⟩ := Sl.blk h.l q e
    exact ⟨h0, _, _, hc, by decide⟩)
  obtain ⟨⟨c1, hb1⟩, c2, hb2⟩ := RSt.blks h.ri
  have hb := h.b.tu ht (by decide)
  have hri : Rg.RSt w' g d 8 (idx s.wait) := h.ri.upd hu (fun e => by
    obtain ⟨_, _, cur, hc⟩ := Sl.blk h.l _ e
    exact hb1.ne_ hc (by decide) rfl) (fun e => h.dl d e rfl)
  have hbu := h.bu.tu ht (by decide)
  have hl := Sl.tu h.o ht (by decide)
  have hU : Upd (fun q => q = r) w' (w'.setCell ⟨r, 2, none⟩ lv') := (Upd.refl (fun q => q = r) w').setCell (p := ⟨r, 2, none⟩) (fun _ => rfl) _
  have ht2 : Tu base [99] w' (w'.setCell ⟨r, 2, none⟩ lv') := Tu.of hU (fun k _ e => by rw [e]; exact ⟨h.hr, _, _, hb, by decide⟩)
  refine ⟨hb, ⟨hb.set_ 2 _, hbu.tu ht2 (by decide), hri.upd hU (fun e => ?_) (fun e => ?_), Sl.tu ho ht2 (by decide), Sl.tu hl ht2 (by decide), ?_, h.hr, h.hg, h.hd⟩, ?_⟩
  · exact hb1.ne_ h.b (by decide) e
  · exact hb2.ne_ h.b (by decide) e
  · intro q hq e
    rcases hf q hq with h1 | h1
    · exact h.dl q h1 e
    · have := hb2.lt
      omega
  · exact (hu.mono (S' := fun q => base ≤ q) (fun q _ e => (Sl.blk h.l q e).1)).trans (hU.mono (fun q _ e => by rw [e]; exact h.hr))
end
/-- A run that is new. -/
theorem RnS.new (w : World) (base : Nat) (bv : Value) (bs : Bs) (g d : Nat) (hb : BuS w base bv bs) (hr : Rg.RSt w g d 8 []) (hg : base ≤ g) (hd : base ≤ d) (hbase : base ≤ w.heap.size) :
    RnS (w.alloc (.cells #[bv, .pointer (some ⟨g, 0, none⟩), .slice none 0 0, .slice none 0 0, .int .i64 0] 99)) base w.heap.size bv g d (.slice none 0 0) (.slice none 0 0) ⟨bs, [], [], [], 0⟩ := by
  have hu := (Upd.refl (fun _ => False) w).alloc (.cells #[bv, .pointer (some ⟨g, 0, none⟩), .slice none 0 0, .slice none 0 0, .int .i64 0] 99)
  exact ⟨Blk.new _ _ _, hb.still hu, hr.upd hu (fun h => h) (fun h => h), SlR.nil, SlR.nil, (fun q hq => by cases hq), hbase, hg, hd⟩
theorem RnOk.new (rf : Bool) (C T : Int) (l : List (Int × Int)) (h : Cf.okS C T = true) (hw : ∀ a ∈ l, 1 ≤ a.2 ∧ a.2 ≤ 1048576) : RnOk (Rn.new rf C T l) l.length := by
  refine ⟨by simp [Rn.new], by simp [Rn.new], Nat.zero_le _, (fun k hk => by cases hk), List.Pairwise.nil, Nat.zero_le _, FineBs.new rf C T h, fun x hx => ?_, fun k _ x hx => ?_⟩
  · obtain ⟨a, ha, rfl⟩ := List.mem_map.1 hx
    have := hw a ha
    omega
  · obtain ⟨a, ha, rfl⟩ := List.mem_map.1 (List.mem_of_getElem? hx)
    exact (hw a ha).1
end Go.Proofs.Ytcgefncddbbnlaa

namespace Go.Proofs.Ytcgefncddbbnlaa
open Go.RowKit
attribute [local go_sem] max_ints min_ints

set_option maxRecDepth 100000 in
set_option maxHeartbeats 12800000 in
theorem playC (w : World) (rf : Bool) (C T : Int) (n : Nat) (v : Value) (l : List (Int × Int)) (f : FuncId) (caps : Array Value) (own : Int → Bool)
    (hok : Cf.okS C T = true) (hn : n ≤ 1000000) (hv : SlR encQ w 0 57 2 v l) (hl : l.length ≤ 1000) (hw : ∀ a ∈ l, 1 ≤ a.2 ∧ a.2 ≤ 1048576)
    (hent : ∀ args w', (callFunc f args).run Try.prog w' = .ok (.enter f args) w')
    (hown : ∀ (now : Nat) (w' : World), now < n → Upd (fun q => w.heap.size ≤ q) w w' → Calls Try.prog f (#[.int .i64 now] ++ caps) w' fun e w2 => e = .returned (.bool (own now)) ∧ Upd (fun _ => False) w' w2) :
    Calls Try.prog 23 #[.agg #[.bool rf, .int .i64 C, .int .i64 T], .int .i64 n, v, .func (.func f) #[] caps] w fun e w' => ∃ ov, e = .returned ov ∧ SlR encA w' w.heap.size 37 4 ov (Rn.run own (Rn.new rf C T l) n).out ∧ Upd (fun _ => False) w w' := by
  obtain ⟨i0, hi0, hz0, hz1, hz2⟩ := info_parts infoAn
  obtain ⟨j0, hj0, hy0, hy1, hy2⟩ := info_parts infoIn
  have ua := (Upd.refl (fun _ => False) w).alloc (.cells #[.bool rf, .int .i64 C, .int .i64 T] 25)
  have U0 := Lib.hid ua
  have hsz : w.heap.size ≤ (w.alloc (.cells #[.bool rf, .int .i64 C, .int .i64 T] 25)).heap.size := ua.size
  have HSZ := Lib.hid hsz
  have HB := Lib.hid (budgetOfC (w.alloc (.cells #[.bool rf, .int .i64 C, .int .i64 T] 25)) rf C T hok)
  obtain ⟨A, cap, rfl⟩ := hv.shape
  have HV := Lib.hid hv; have HW := Lib.hid hw; have HOWN := Lib.hid hown; have HOK := Lib.hid hok
  have b0 : (w.alloc (.cells #[.bool rf, .int .i64 C, .int .i64 T] 25)).cell? ⟨w.heap.size, 0, none⟩ = some (.bool rf) := (Blk.new w _ _).cell 0
  clear ua hsz hv hw hown hok
  go_enter Try.func23, Try.ntmps23
  go_wp2_with fail
  refine HB.out.mono ?_
  rintro e w1 ⟨bv, rfl, hB, hU⟩
  obtain ⟨ty, gb, rfl⟩ := hB.iface
  have B1 := Lib.hid (hB.base HSZ.out); have U1 := Lib.hid (U0.out.trans hU)
  clear hB hU b0 HB
  go_wp2_with fail
  refine (Rg.newI_any w1 8 8 rfl).mono ?_
  rintro e w2 ⟨g, d, rfl, hg, hd, hR, hBel⟩
  have u2 := upd_below hBel
  have B2 := Lib.hid (B1.out.still u2); have U2 := Lib.hid (U1.out.trans u2)
  have hsz1 := U1.out.size
  have hsz2 := U2.out.size
  have R3 := Lib.hid (RnS.new w2 w.heap.size _ _ g d B2.out hR (Nat.le_trans hsz1 hg) (Nat.le_trans hsz1 hd) hsz2)
  have U3 := Lib.hid (U2.out.alloc (.cells #[.iface ty (.pointer (some ⟨gb, 0, none⟩)), .pointer (some ⟨g, 0, none⟩), .slice none 0 0, .slice none 0 0, .int .i64 0] 99))
  clear u2 hg hd hR hBel B1 U1 B2 U2 hsz1 hsz2
  go_wp2_with fail
  go_loopw [20] (fun v20 wr => ∃ (i : Nat) (lv ov : Value), i ≤ l.length ∧ v20 = .int .i64 i ∧ RnS wr w.heap.size w2.heap.size (.iface ty (.pointer (some ⟨gb, 0, none⟩))) g d lv ov ⟨Bs.new rf C T, [], (l.take i).map Prod.snd, (l.take i).map mkA, 0⟩ ∧ Upd (fun _ => False) w wr) (fun v20 _ => l.length - (intOf v20).toNat)
  case atStart => exact ⟨0, _, _, Nat.zero_le _, rfl, R3.out, U3.out⟩
  case round =>
    obtain ⟨i, lv, ov, hi, rfl, hR, hU⟩ := hrel
    have R4 := Lib.hid hR; have U4 := Lib.hid hU
    by_cases hlt : i < l.length
    · obtain ⟨a, ha⟩ : ∃ a, l[i]? = some a := ⟨_, List.getElem?_eq_getElem hlt⟩
      have HA := Lib.hid ha
      have hv1 : SlR encQ wr 0 57 2 (.slice A l.length cap) l := HV.out.upd hU (fun _ _ h => h)
      obtain ⟨lb, lo, lc, e1, _, _, _, _⟩ := hv1.form (by omega)
      injection e1 with e1 e1b e1c
      subst e1; subst e1c
      have c0 : wr.cell? ⟨lb, lo + i * 2, none⟩ = some (.int .i64 a.1) := hv1.cell encQ_len i a ha 0 _ rfl
      have c1 : wr.cell? ⟨lb, lo + i * 2 + 1, none⟩ = some (.int .i64 a.2) := hv1.cell encQ_len i a ha 1 _ rfl
      have dl : decide ((i : Int) < (l.length : Int)) = true := decide_eq_true (by omega)
      have di : decide ((i : Int) < 0) = false := decide_eq_false (by omega)
      have dn : i < l.length := hlt
      obtain ⟨x, y⟩ := a
      dsimp only at *
      clear hR hU ha hv1 e1b
      go_upto_region 5 with fail
      have ub := (Upd.refl (fun _ => False) wr).alloc (.cells #[.int .i64 x, .int .i64 y] 57)
      have BA := Lib.hid (Blk.new wr 57 #[.int .i64 x, .int .i64 y])
      have R5 := Lib.hid (R4.out.still ub); have U5 := Lib.hid (U4.out.trans ub)
      have hba : w.heap.size ≤ wr.heap.size := U4.out.size
      have HBA := Lib.hid hba
      have htl : (l.take i).length = i := by rw [List.length_take]; omega
      have HTL := Lib.hid htl
      have HIL := Lib.hid hi
      clear ub c0 c1 dl di dn R4 U4 hba htl hi
      generalize wr.alloc (.cells #[.int .i64 x, .int .i64 y] 57) = w3 at *
      generalize wr.heap.size = ba at *
      refine wp_region_treeF (.q 0 (.q 1 (.q 2 (.q 3 (.q 4 (.q 5 (.q 6 (.q 7 (.q 8 (.q 9 (.l 10 (.l 11 (.q 12 (.q 13 (.l 14 .d))))))))))))))) (fun i => decide (i = 14)) (fun _ => false) (fun w' => w'.cell? ⟨w2.heap.size, 3, none⟩ = some ov ∧ w'.cell? ⟨ba, 0, none⟩ = some (.int .i64 x) ∧ w'.cell? ⟨ba, 1, none⟩ = some (.int .i64 y))
        (by kernel_rfl) (by kernel_rfl) (by kernel_rfl) (fun t ht => by have := of_decide_eq_true ht; subst this; decide) (fun _ _ _ _ _ h => h) (by kernel_rfl) rfl ⟨R5.out.b.cell 3, BA.out.cell 0, BA.out.cell 1⟩ ?_
      iterate 10
        (refine' wpOF_q (by rfl) (by rfl) (by rfl) (fun w' hS' => ?_) ?_
         rotate_left
         · obtain ⟨s1, s2, s3⟩ := hS'
           go_simp
           try rfl)
        try simp only [Act.put, List.setIfInBounds_toArray, List.set_cons_zero, List.set_cons_succ]
      refine wpOF_l (by rfl) (by rfl) (fun KQ hKQ => ?_)
      go_simp
      have ud := ((Upd.refl (fun _ => False) w3).alloc (.cells #[.int .i64 x, .int .i64 y, .int .i64 (-1), .int .i64 (-1)] 37)).drew
      have BN := Lib.hid ((Blk.new w3 37 #[.int .i64 x, .int .i64 y, .int .i64 (-1), .int .i64 (-1)]).drewN 1)
      have R6 := Lib.hid (R5.out.still ud); have U6 := Lib.hid (U5.out.trans ud)
      have BA6 := Lib.hid (BA.out.upd ud (fun h => h))
      clear ud
      refine hKQ _ _ (.inr ⟨R6.out.b.cell 3, BA6.out.cell 0, BA6.out.cell 1⟩) ?_
      clear hKQ KQ
      try simp only [Act.put, List.setIfInBounds_toArray, List.set_cons_zero, List.set_cons_succ]
      have hdr : ∀ z : World, z.drewN 1 = z.drew := fun _ => rfl
      rw [hdr] at BN
      clear hdr
      generalize (w3.alloc (.cells #[.int .i64 x, .int .i64 y, .int .i64 (-1), .int .i64 (-1)] 37)).drew = w4 at *
      generalize w3.heap.size = bn at *
      have SR6 : Hid (Sl w4 w.heap.size 37 4 ov i (rws encA ((l.take i).map mkA))) := Lib.hid (by
        have h := R6.out.o
        unfold SlR at h
        dsimp only at h
        rw [List.length_map, HTL.out] at h
        exact h)
      refine wpOF_l (by rfl) (by rfl) (fun KQ hKQ => ?_)
      refine wp_append_sl (.tmp 28) (.tmp 34) 29 rfl w.heap.size 37 i0 _ 4 32 Try.underlying29 hi0 hz0 hz1 hz2 rfl (by decide) ov i (rws encA ((l.take i).map mkA)) rfl SR6.out ⟨bn, 0, none⟩ 1 [.int .i64 x, .int .i64 y, .int .i64 (-1), .int .i64 (-1)] rfl rfl (fun j u hu => by rw [Ck.add_at, BN.out.cell j]; simpa using hu) (by simp [Value.oneCell']) (by unfold maxLen; omega) (by omega) (by exact U6.out.size) ?_
      intro v' w5 hs1 hu1 hv1
      obtain ⟨bq, oq, cq, hvz, _, _, _, _⟩ := hs1.form (by omega)
      subst hvz
      have SO : Hid (SlR encA w5 w.heap.size 37 4 (.slice (some ⟨bq, oq, none⟩) (i + 1) cq) ((l.take (i + 1)).map mkA)) := Lib.hid (by
        rw [take_succ_get HA.out, List.map_append]
        unfold SlR
        rw [rws_append, List.length_append, List.length_map, HTL.out]
        exact hs1)
      have hS := R6.out.setOutV hu1 SO.out
      have RB := Lib.hid hS.1; have R7 := Lib.hid hS.2.1
      have U7 := Lib.hid (((U6.out.mono (S' := fun q => w.heap.size ≤ q) (fun _ _ h => h.elim)).trans hS.2.2).mono (S' := fun _ => False) (fun q hq h => by omega))
      have BA7 := Lib.hid (BA6.out.upd hu1 (fun hk => by
        obtain ⟨_, _, cur, hc⟩ := Sl.blk R6.out.o _ hk
        exact hc.ne_ BA6.out (by decide) rfl))
      have BA8 := Lib.hid (BA7.out.upd ((Upd.refl (fun q => q = w2.heap.size) w5).setCell (p := ⟨w2.heap.size, 3, none⟩) (fun _ => rfl) (.slice (some ⟨bq, oq, none⟩) (i + 1) cq)) (fun e => BA7.out.ne_ RB.out (by decide) e))
      have c3 : w5.cell? ⟨w2.heap.size, 3, none⟩ = some ov := RB.out.cell 3
      have f3 : w5.frozen? ⟨w2.heap.size, 3, none⟩ = false := RB.out.frozen 3
      clear hs1 hu1 hv1 hS
      refine hKQ _ _ (.inr ⟨c3, BA7.out.cell 0, BA7.out.cell 1⟩) ?_
      clear hKQ KQ
      try simp only [Act.put, List.setIfInBounds_toArray, List.set_cons_zero, List.set_cons_succ]
      iterate 2
        (refine' wpOF_q (by rfl) (by rfl) (by rfl) (fun w' hS' => ?_) ?_
         rotate_left
         · obtain ⟨s1, s2, s3⟩ := hS'
           go_simp
           try rfl)
        try simp only [Act.put, List.setIfInBounds_toArray, List.set_cons_zero, List.set_cons_succ]
      refine wpOF_l (by rfl) (by rfl) (fun KQ hKQ => ?_)
      go_simp
      refine hKQ _ _ (.inl (by rfl)) ?_
      clear hKQ KQ
      try simp only [Act.put, List.setIfInBounds_toArray, List.set_cons_zero, List.set_cons_succ]
      refine wpOF_d ?_
      clear c3 f3 R5 U5 BA R6 U6 BA6 BN SO RB BA7
      generalize w5.setCell ⟨w2.heap.size, 3, none⟩ (.slice (some ⟨bq, oq, none⟩) (i + 1) cq) = w6 at *
      go_upto_region 6 with fail
      refine wp_region_treeF (.q 0 (.q 1 (.q 2 (.q 3 (.q 4 (.q 5 (.q 6 (.l 7 (.l 8 (.q 9 (.q 10 (.l 11 .d)))))))))))) (fun i => decide (i = 11)) (fun _ => false) (fun w' => w'.cell? ⟨w2.heap.size, 2, none⟩ = some lv ∧ w'.cell? ⟨ba, 1, none⟩ = some (.int .i64 y))
        (by kernel_rfl) (by kernel_rfl) (by kernel_rfl) (fun t ht => by have := of_decide_eq_true ht; subst this; decide) (fun _ _ _ _ _ h => h) (by kernel_rfl) rfl ⟨R7.out.b.cell 2, BA8.out.cell 1⟩ ?_
      iterate 7
        (refine' wpOF_q (by rfl) (by rfl) (by rfl) (fun w' hS' => ?_) ?_
         rotate_left
         · obtain ⟨s1, s2⟩ := hS'
           go_simp
           try rfl)
        try simp only [Act.put, List.setIfInBounds_toArray, List.set_cons_zero, List.set_cons_succ]
      refine wpOF_l (by rfl) (by rfl) (fun KQ hKQ => ?_)
      go_simp
      have ud := ((Upd.refl (fun _ => False) w6).alloc (.cells #[.int .i64 y] 3)).drew
      have BN := Lib.hid ((Blk.new w6 3 #[.int .i64 y]).drewN 1)
      have R8 := Lib.hid (R7.out.still ud); have U8 := Lib.hid (U7.out.trans ud)
      have BA9 := Lib.hid (BA8.out.upd ud (fun h => h))
      clear ud
      refine hKQ _ _ (.inr ⟨R8.out.b.cell 2, BA9.out.cell 1⟩) ?_
      clear hKQ KQ
      try simp only [Act.put, List.setIfInBounds_toArray, List.set_cons_zero, List.set_cons_succ]
      have hdr : ∀ z : World, z.drewN 1 = z.drew := fun _ => rfl
      rw [hdr] at BN
      clear hdr
      generalize (w6.alloc (.cells #[.int .i64 y] 3)).drew = w7 at *
      generalize w6.heap.size = bm at *
      have SR8 : Hid (Sl w7 w.heap.size 3 1 lv i (rws encI ((l.take i).map Prod.snd))) := Lib.hid (by
        have h := R8.out.l
        unfold SlR at h
        dsimp only at h
        rw [List.length_map, HTL.out] at h
        exact h)
      refine wpOF_l (by rfl) (by rfl) (fun KQ hKQ => ?_)
      refine wp_append_sl (.tmp 42) (.tmp 45) 38 rfl w.heap.size 3 j0 _ 1 8 Try.underlying38 hj0 hy0 hy1 hy2 rfl (by decide) lv i (rws encI ((l.take i).map Prod.snd)) rfl SR8.out ⟨bm, 0, none⟩ 1 [.int .i64 y] rfl rfl (fun j u hu => by rw [Ck.add_at, BN.out.cell j]; simpa using hu) (by simp [Value.oneCell']) (by unfold maxLen; omega) (by omega) (by exact U8.out.size) ?_
      intro v' w8 hs1 hu1 hv1
      obtain ⟨br, orr, cr, hvz, _, _, _, _⟩ := hs1.form (by omega)
      subst hvz
      have SO : Hid (SlR encI w8 w.heap.size 3 1 (.slice (some ⟨br, orr, none⟩) (i + 1) cr) ((l.take (i + 1)).map Prod.snd)) := Lib.hid (by
        rw [take_succ_get HA.out, List.map_append]
        unfold SlR
        rw [rws_append, List.length_append, List.length_map, HTL.out]
        exact hs1)
      have hS := R8.out.setLeftV hu1 SO.out hv1
      have RB := Lib.hid hS.1; have R9 := Lib.hid hS.2.1
      have U9 := Lib.hid (((U8.out.mono (S' := fun q => w.heap.size ≤ q) (fun _ _ h => h.elim)).trans hS.2.2).mono (S' := fun _ => False) (fun q hq h => by omega))
      have BA10 := Lib.hid (BA9.out.upd hu1 (fun hk => by
        obtain ⟨_, _, cur, hc⟩ := Sl.blk R8.out.l _ hk
        exact hc.ne_ BA9.out (by decide) rfl))
      have c2 : w8.cell? ⟨w2.heap.size, 2, none⟩ = some lv := RB.out.cell 2
      have f2 : w8.frozen? ⟨w2.heap.size, 2, none⟩ = false := RB.out.frozen 2
      clear hs1 hu1 hv1 hS
      refine hKQ _ _ (.inr ⟨c2, BA10.out.cell 1⟩) ?_
      clear hKQ KQ
      try simp only [Act.put, List.setIfInBounds_toArray, List.set_cons_zero, List.set_cons_succ]
      iterate 2
        (refine' wpOF_q (by rfl) (by rfl) (by rfl) (fun w' hS' => ?_) ?_
         rotate_left
         · obtain ⟨s1, s2⟩ := hS'
           go_simp
           try rfl)
        try simp only [Act.put, List.setIfInBounds_toArray, List.set_cons_zero, List.set_cons_succ]
      refine wpOF_l (by rfl) (by rfl) (fun KQ hKQ => ?_)
      go_simp
      refine hKQ _ _ (.inl (by rfl)) ?_
      clear hKQ KQ
      try simp only [Act.put, List.setIfInBounds_toArray, List.set_cons_zero, List.set_cons_succ]
      refine wpOF_d ?_
      clear c2 f2 R7 U7 R8 U8 BA8 BA9 BN SO RB BA10
      go_wp2_with fail
      go_roundw
      case rel => exact ⟨i + 1, _, _, by omega, by go_num, R9.out, U9.out⟩
      case measure => simp [intOf]; omega
    · have hie : i = l.length := by omega
      subst hie
      have e1 : l.take l.length = l := List.take_length
      rw [e1] at R4
      clear hR hU e1
      have R5 : Hid (RnS wr w.heap.size w2.heap.size (.iface ty (.pointer (some ⟨gb, 0, none⟩))) g d lv ov (Rn.new rf C T l)) := Lib.hid R4.out
      have HO := Lib.hid (RnOk.new rf C T l HOK.out HW.out)
      have UW := U4
      clear R4 U4
      go_wp2_with fail
      go_loopw [12, 51] (fun _ v51 wq => ∃ (i : Nat), i ≤ n ∧ v51 = .int .i64 i ∧ RnS wq w.heap.size w2.heap.size (.iface ty (.pointer (some ⟨gb, 0, none⟩))) g d lv ov (Rn.run own (Rn.new rf C T l) i) ∧ Upd (fun _ => False) w wq) (fun _ v51 _ => n - (intOf v51).toNat)
      case atStart => exact ⟨0, Nat.zero_le _, rfl, R5.out, UW.out⟩
      case round =>
        obtain ⟨i, hi, rfl, hR, hU⟩ := hrel
        have R6 := Lib.hid hR; have U6 := Lib.hid hU
        by_cases hlt : i < n
        · have O6 := Lib.hid (HO.out.run own i (by omega))
          have dl : decide ((i : Int) < (n : Int)) = true := decide_eq_true (by omega)
          clear hR hU R5 UW R3 U3
          go_wp2_with fail
          obtain ⟨s, hs⟩ : ∃ s, Rn.run own (Rn.new rf C T l) i = s := ⟨_, rfl⟩
          rw [hs] at R6 O6
          have HS := Lib.hid hs
          clear hs
          refine (comeC wr w.heap.size w2.heap.size g d _ lv ov s l.length R6.out O6.out hl (i : Int)).mono ?_
          rintro e w3 ⟨rfl, hR, hU⟩
          have O7 := Lib.hid (O6.out.come (i : Int) s.out.length)
          have R7 := Lib.hid hR
          have U7 := Lib.hid (((U6.out.mono (S' := fun q => w.heap.size ≤ q) (fun _ _ h => h.elim)).trans hU).mono (S' := fun _ => False) (fun q hq h => by omega))
          have HTK : Hid (Rn.run own (Rn.new rf C T l) (i + 1) = if own (i : Int) = true then ((Rn.come (i : Int) s.out.length s).go (i : Int)).use (i : Int) else (Rn.come (i : Int) s.out.length s).go (i : Int)) := Lib.hid (by rw [Rn.run, HS.out]; rfl)
          generalize Rn.come (i : Int) s.out.length s = s1 at *
          clear hR hU R6 U6 O6 HS
          go_upto_region 12 with fail
          refine wp_region_treeF (.q 0 (.q 1 (.q 2 (.q 3 (.q 4 (.q 5 (.q 6 (.q 7 (.q 8 (.q 11 (.q 12 (.l 9 (.q 10 (.l 13 .d)))))))))))))) (fun i => decide (i = 13)) (fun _ => false) (fun w' => w'.cell? ⟨w2.heap.size, 0, none⟩ = some (.iface ty (.pointer (some ⟨gb, 0, none⟩))) ∧ w'.cell? ⟨w2.heap.size, 1, none⟩ = some (.pointer (some ⟨g, 0, none⟩)))
            (by kernel_rfl) (by kernel_rfl) (by kernel_rfl) (fun t ht => by have := of_decide_eq_true ht; subst this; decide) (fun _ _ _ _ _ h => h) (by kernel_rfl) rfl ⟨R7.out.b.cell 0, R7.out.b.cell 1⟩ ?_
          have R8 : Hid (RnS w3.drew w.heap.size w2.heap.size (.iface ty (.pointer (some ⟨gb, 0, none⟩))) g d lv ov s1) := Lib.hid (R7.out.still (Upd.refl (fun _ => False) w3).drew)
          have U8 := Lib.hid (U7.out.drew)
          clear R7 U7
          generalize w3.drew = w4 at *
          iterate 11
            (refine' wpOF_q (by rfl) (by rfl) (by rfl) (fun w' hS' => ?_) ?_
             rotate_left
             · obtain ⟨s1, s2⟩ := hS'
               go_simp
               try rfl)
            try simp only [Act.put, List.setIfInBounds_toArray, List.set_cons_zero, List.set_cons_succ]
          refine wpOF_l (by rfl) (by rfl) (fun KQ hKQ => ?_)
          go_simp
          go_at_call 53
          refine (Rg.lenI_any w4 g d 8 (idx s1.wait) R8.out.ri).mono ?_
          rintro e w5 ⟨rfl, k5, h5⟩
          rw [idx_len]
          have u5 : Upd (fun _ => False) w4 w5 := by rw [h5]; exact (Upd.refl _ w4).drewN k5
          have R9 := Lib.hid (R8.out.still u5); have U9 := Lib.hid (U8.out.trans u5)
          clear u5 h5 R8 U8
          refine hKQ _ _ (.inr ⟨R9.out.b.cell 0, R9.out.b.cell 1⟩) ?_
          clear hKQ KQ
          try simp only [Act.put, List.setIfInBounds_toArray, List.set_cons_zero, List.set_cons_succ]
          iterate 1
            (refine' wpOF_q (by rfl) (by rfl) (by rfl) (fun w' hS' => ?_) ?_
             rotate_left
             · obtain ⟨s1, s2⟩ := hS'
               go_simp
               try rfl)
            try simp only [Act.put, List.setIfInBounds_toArray, List.set_cons_zero, List.set_cons_succ]
          refine wpOF_l (by rfl) (by rfl) (fun KQ hKQ => ?_)
          have hsz5 := U9.out.size
          obtain ⟨ty2, gb2, fG, hbe, mG, cG, hGo⟩ := R9.out.bu.goC hsz5 O7.out.bs (i : Int) (by omega) (by omega) (decide (0 < s1.wait.length))
          injection hbe with e1 e2
          injection e2 with e2
          injection e2 with e2
          injection e2 with e2
          subst e1; subst e2
          have HGo := Lib.hid hGo
          clear hGo
          go_simp
          refine HGo.out.mono ?_
          rintro e w6 ⟨rfl, hB6, hT6⟩
          have R10 : Hid (RnS w6 w.heap.size w2.heap.size (.iface ty (.pointer (some ⟨gb, 0, none⟩))) g d lv ov (s1.go (i : Int))) := Lib.hid (R9.out.budget hB6 hT6)
          have U10 := Lib.hid (((U9.out.mono (S' := fun q => w.heap.size ≤ q) (fun _ _ h => h.elim)).trans (hT6.mono2 (S' := fun q => w.heap.size ≤ q) (fun q h => h.1))).mono (S' := fun _ => False) (fun q hq h => by omega))
          have O10 := Lib.hid (O7.out.go (i : Int) (by omega) (by omega))
          clear hB6 hT6 HGo R9 U9 O7 mG cG hsz5
          generalize s1.go (i : Int) = s2 at *
          refine hKQ _ _ (.inl (by rfl)) ?_
          clear hKQ KQ
          try simp only [Act.put, List.setIfInBounds_toArray, List.set_cons_zero, List.set_cons_succ]
          refine wpOF_d ?_
          have HO1 := Lib.hid (HOWN.out i w6 hlt (U10.out.mono (fun _ _ h => h.elim)))
          go_wp2_with fail
          refine HO1.out.mono ?_
          rintro e w7 ⟨rfl, h7⟩
          have R11 := Lib.hid (R10.out.still h7); have U11 := Lib.hid (U10.out.trans h7)
          obtain ⟨ob, hob⟩ : ∃ ob, own (i : Int) = ob := ⟨_, rfl⟩
          rw [hob] at HTK ⊢
          clear h7 HO1 hob R10 U10
          cases ob with
          | true =>
            go_wp2_with fail
            refine (useC w7 w.heap.size w2.heap.size g d _ lv ov s2 l.length R11.out O10.out hl (i : Int) (by omega) (by omega)).mono ?_
            rintro e w8 ⟨rfl, hR, hU⟩
            have R12 := Lib.hid hR
            have U12 := Lib.hid (((U11.out.mono (S' := fun q => w.heap.size ≤ q) (fun _ _ h => h.elim)).trans hU).mono (S' := fun _ => False) (fun q hq h => by omega))
            clear hR hU R11 U11
            go_wp2_with fail
            go_roundw
            case rel => exact ⟨i + 1, by omega, by go_num, by rw [HTK.out]; exact R12.out, U12.out⟩
            case measure => simp [intOf]; omega
          | false =>
            go_wp2_with fail
            go_roundw
            case rel => exact ⟨i + 1, by omega, by go_num, by rw [HTK.out]; exact R11.out, U11.out⟩
            case measure => simp [intOf]; omega
        · have hie : i = n := by omega
          subst hie
          have c3 := R6.out.b.cell 3
          clear hR hU
          go_wp2_with fail
          go_returns
          exact ⟨_, rfl, R6.out.o, U6.out⟩
end Go.Proofs.Ytcgefncddbbnlaa

namespace Go.Proofs.Ytcgefncddbbnlaa
open Go.RowKit
attribute [local go_sem] max_ints min_ints

def oddA (last : Int) (a : Int × Int) : Bool := decide (a.2 < 1) || decide (1048576 < a.2) || decide (a.1 < last)
def fineA : Int → List (Int × Int) → Bool
  | _, [] => true
  | last, a :: t => !oddA last a && fineA a.1 t
def fineX (ticks : Int) (l : List (Int × Int)) : Bool := decide (0 ≤ ticks ∧ ticks ≤ 3000 ∧ l.length ≤ 500) && fineA 0 l
theorem fineA_work : ∀ (last : Int) (l : List (Int × Int)), fineA last l = true → ∀ a ∈ l, 1 ≤ a.2 ∧ a.2 ≤ 1048576
  | _, [], _, a, ha => by cases ha
  | last, b :: t, h, a, ha => by
    unfold fineA oddA at h
    simp only [Bool.and_eq_true, Bool.not_eq_true', Bool.or_eq_false_iff, decide_eq_false_iff_not] at h
    rcases List.mem_cons.1 ha with rfl | ha
    · omega
    · exact fineA_work _ t h.2 a ha

set_option maxRecDepth 100000 in
set_option maxHeartbeats 1600000 in
theorem fine1 (w : World) (gs : Nat) (last x y : Int) (hs : Blk w gs 3 #[.int .i64 last]) :
    Calls Try.prog 49 #[.agg #[.int .i64 x, .int .i64 y], .pointer (some ⟨gs, 0, none⟩)] w fun e w' => e = .returned (.bool (oddA last (x, y))) ∧ Blk w' gs 3 #[.int .i64 x] ∧ Upd (fun k => k = gs) w w' := by
  have ua := (Upd.refl (fun k => k = gs) w).alloc (.cells #[.int .i64 x, .int .i64 y] 57)
  have HS := Lib.hid (hs.alloc (.cells #[.int .i64 x, .int .i64 y] 57))
  have U0 := Lib.hid ua
  have R : Hid (Blk ((w.alloc (.cells #[.int .i64 x, .int .i64 y] 57)).setCell ⟨gs, 0, none⟩ (.int .i64 x)) gs 3 #[.int .i64 x]) := Lib.hid (HS.out.set_ 0 _)
  have UR := Lib.hid (U0.out.setCell (p := ⟨gs, 0, none⟩) (fun _ => rfl) (.int .i64 x))
  have a0 : (w.alloc (.cells #[.int .i64 x, .int .i64 y] 57)).cell? ⟨w.heap.size, 0, none⟩ = some (.int .i64 x) := (Blk.new w _ _).cell 0
  have a1 : (w.alloc (.cells #[.int .i64 x, .int .i64 y] 57)).cell? ⟨w.heap.size, 1, none⟩ = some (.int .i64 y) := (Blk.new w _ _).cell 1
  have cs : (w.alloc (.cells #[.int .i64 x, .int .i64 y] 57)).cell? ⟨gs, 0, none⟩ = some (.int .i64 last) := HS.out.cell 0
  have fs : (w.alloc (.cells #[.int .i64 x, .int .i64 y] 57)).frozen? ⟨gs, 0, none⟩ = false := HS.out.frozen 0
  clear ua hs
  unfold oddA
  dsimp only
  by_cases h1 : y < 1
  · have d1 : decide (y < 1) = true := decide_eq_true h1
    rw [d1]
    go_enter Try.func49, Try.ntmps49
    go_wp2_with fail
    go_returns
    exact ⟨rfl, R.out, UR.out⟩
  · have d1 : decide (y < 1) = false := decide_eq_false h1
    by_cases h2 : 1048576 < y
    · have d2 : decide (1048576 < y) = true := decide_eq_true h2
      rw [d1, d2]
      go_enter Try.func49, Try.ntmps49
      go_wp2_with fail
      go_returns
      exact ⟨rfl, R.out, UR.out⟩
    · have d2 : decide (1048576 < y) = false := decide_eq_false h2
      rw [d1, d2]
      go_enter Try.func49, Try.ntmps49
      go_wp2_with fail
      go_returns
      exact ⟨by simp, R.out, UR.out⟩

set_option maxRecDepth 100000 in
set_option maxHeartbeats 1600000 in
theorem indexA (w : World) (v : Value) (l : List (Int × Int)) (hv : SlR encQ w 0 57 2 v l) (gs : Nat) (hs : Blk w gs 3 #[.int .i64 0]) (hl : l.length ≤ 1000) :
    Calls Try.prog 71 #[v, .func (.func 49) #[] #[.pointer (some ⟨gs, 0, none⟩)]] w fun e w' =>
      ∃ z : Int, e = .returned (.int .i64 z) ∧ decide (0 ≤ z) = !fineA 0 l ∧ Upd (fun k => k = gs) w w' := by
  obtain ⟨A, cap, rfl⟩ := hv.shape
  have HV := Lib.hid hv; have HS := Lib.hid hs
  have HG := Lib.hid hs.lt
  clear hv hs
  go_enter Try.func71, Try.ntmps71
  go_wp2_with fail
  go_loopw [5, 8] (fun _ vi wr => ∃ (i : Nat) (last : Int), i ≤ l.length ∧ vi = .int .i64 i ∧ fineA 0 l = fineA last (l.drop i) ∧ Blk wr gs 3 #[.int .i64 last] ∧ Upd (fun k => k = gs) w wr) (fun _ vi _ => l.length - (intOf vi).toNat)
  case atStart => exact ⟨0, 0, Nat.zero_le _, rfl, rfl, HS.out, Upd.refl _ _⟩
  case round =>
    obtain ⟨i, last, hi, rfl, h1, h3, hU⟩ := hrel
    have H1 := Lib.hid h1; have H3 := Lib.hid h3; have HU := Lib.hid hU
    clear h1 h3 hU
    by_cases hlt : i < l.length
    · obtain ⟨a, ha⟩ : ∃ a, l[i]? = some a := ⟨_, List.getElem?_eq_getElem hlt⟩
      have hv1 : SlR encQ wr 0 57 2 (.slice A l.length cap) l := HV.out.upd HU.out (fun k hk e => by
        obtain ⟨_, _, cur, hc⟩ := Sl.blk HV.out k hk
        exact hc.ne_ HS.out (by decide) e)
      obtain ⟨lb, lo, lc, e1, _, _, _, _⟩ := hv1.form (by omega)
      injection e1 with e1 e1b e1c
      subst e1; subst e1c
      have c0 : wr.cell? ⟨lb, lo + i * 2, none⟩ = some (.int .i64 a.1) := hv1.cell encQ_len i a ha 0 _ rfl
      have c1 : wr.cell? ⟨lb, lo + i * 2 + 1, none⟩ = some (.int .i64 a.2) := hv1.cell encQ_len i a ha 1 _ rfl
      have dl : decide ((i : Int) < (l.length : Int)) = true := decide_eq_true (by omega)
      have di : decide ((i : Int) < 0) = false := decide_eq_false (by omega)
      have dn : i < l.length := hlt
      have hd : l.drop i = a :: l.drop (i + 1) := by
        rw [List.drop_eq_getElem_cons hlt]
        have := (List.getElem?_eq_some_iff.1 ha).2
        rw [this]
      have HD : Hid (fineA 0 l = (!oddA last a && fineA a.1 (l.drop (i + 1)))) := Lib.hid (by rw [H1.out, hd]; rfl)
      obtain ⟨x, y⟩ := a
      dsimp only at *
      clear ha hv1 e1b hd
      go_wp2_with fail
      refine (fine1 wr gs last x y H3.out).mono ?_
      rintro e w2 ⟨rfl, hs2, hU2⟩
      have S2 := Lib.hid hs2
      have U2 := Lib.hid (HU.out.trans hU2)
      obtain ⟨t, ht⟩ : ∃ t, oddA last (x, y) = t := ⟨_, rfl⟩
      rw [ht] at HD ⊢
      clear hs2 hU2 ht
      cases t
      · go_wp2_with fail
        go_roundw
        case rel => exact ⟨i + 1, x, by omega, by go_num, by rw [HD.out]; rfl, S2.out, U2.out⟩
        case measure => simp [intOf]; omega
      · go_wp2_with fail
        go_returns
        exact ⟨i, rfl, by rw [HD.out]; simp, U2.out⟩
    · have hi' : i = l.length := by omega
      subst hi'
      have HD : Hid (fineA 0 l = true) := Lib.hid (by rw [H1.out, List.drop_length]; rfl)
      go_wp2_with fail
      go_returns
      exact ⟨-1, rfl, by rw [HD.out]; rfl, HU.out⟩

set_option maxRecDepth 100000 in
set_option maxHeartbeats 1600000 in
theorem hasA (w : World) (v : Value) (l : List (Int × Int)) (hv : SlR encQ w 0 57 2 v l) (gs : Nat) (hs : Blk w gs 3 #[.int .i64 0]) (hl : l.length ≤ 1000) :
    Calls Try.prog 48 #[v, .func (.func 49) #[] #[.pointer (some ⟨gs, 0, none⟩)]] w fun e w' => e = .returned (.bool (!fineA 0 l)) ∧ Upd (fun k => k = gs) w w' := by
  have HI := Lib.hid (indexA w v l hv gs hs hl)
  clear hv hs
  go_enter Try.func48, Try.ntmps48
  go_wp2_with fail
  refine HI.out.mono ?_
  rintro e w2 ⟨z, rfl, hz, hU⟩
  have HU := Lib.hid hU; have HZ := Lib.hid hz
  clear hU HI hz
  go_wp2_with fail
  go_returns
  exact ⟨by rw [HZ.out]; rfl, HU.out⟩

set_option maxRecDepth 100000 in
set_option maxHeartbeats 1600000 in
theorem fineC (w : World) (ticks : Int) (v : Value) (l : List (Int × Int)) (hv : SlR encQ w 0 57 2 v l) (hl : l.length ≤ 1000) :
    Calls Try.prog 22 #[.int .i64 ticks, v] w fun e w' => e = .returned (.bool (fineX ticks l)) ∧ Upd (fun _ => False) w w' := by
  obtain ⟨A, cap, rfl⟩ := hv.shape
  have hmf : ∀ (fn : Fn) (first cap : Array Value) (w : World), (Instr.makeFunc fn first cap).run Try.prog w = .ok (.func fn first cap) w := fun _ _ _ _ => rfl
  have ua := (Upd.refl (fun _ => False) w).alloc (.cells #[.int .i64 0] 3)
  have U0 := Lib.hid ua
  have HI := Lib.hid (hasA (w.alloc (.cells #[.int .i64 0] 3)) (.slice A l.length cap) l (hv.upd ua (fun _ _ h => h)) w.heap.size (Blk.new w _ _) hl)
  clear hv ua
  unfold fineX
  by_cases h1 : ticks < 0
  · have d1 : decide (ticks < 0) = true := decide_eq_true h1
    have e1 : decide (0 ≤ ticks ∧ ticks ≤ 3000 ∧ l.length ≤ 500) = false := decide_eq_false (by omega)
    rw [e1]
    go_enter Try.func22, Try.ntmps22
    go_wp2_with fail
    go_returns
    exact ⟨rfl, Upd.refl _ w⟩
  · have d1 : decide (ticks < 0) = false := decide_eq_false h1
    by_cases h2 : 3000 < ticks
    · have d2 : decide (3000 < ticks) = true := decide_eq_true h2
      have e1 : decide (0 ≤ ticks ∧ ticks ≤ 3000 ∧ l.length ≤ 500) = false := decide_eq_false (by omega)
      rw [e1]
      go_enter Try.func22, Try.ntmps22
      go_wp2_with fail
      go_returns
      exact ⟨rfl, Upd.refl _ w⟩
    · have d2 : decide (3000 < ticks) = false := decide_eq_false h2
      by_cases h3 : 500 < l.length
      · have d3 : decide (500 < (l.length : Int)) = true := decide_eq_true (by omega)
        have e1 : decide (0 ≤ ticks ∧ ticks ≤ 3000 ∧ l.length ≤ 500) = false := decide_eq_false (by omega)
        rw [e1]
        go_enter Try.func22, Try.ntmps22
        go_wp2_with fail
        go_returns
        exact ⟨rfl, Upd.refl _ w⟩
      · have d3 : decide (500 < (l.length : Int)) = false := decide_eq_false (by omega)
        have e1 : decide (0 ≤ ticks ∧ ticks ≤ 3000 ∧ l.length ≤ 500) = true := decide_eq_true (by omega)
        rw [e1]
        go_enter Try.func22, Try.ntmps22
        go_wp2_with fail
        refine HI.out.mono ?_
        rintro e w2 ⟨rfl, hU⟩
        have HU := Lib.hid ((U0.out.mono (S' := fun k => k = w.heap.size) (fun _ _ h => h.elim)).trans hU)
        clear hU HI
        go_wp2_with fail
        go_returns
        exact ⟨by simp, HU.out.mono (fun k hk e => by omega)⟩
end Go.Proofs.Ytcgefncddbbnlaa
