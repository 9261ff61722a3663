/-
  The document's budget of layer 18: what it is; period, left, Due, Done, New.
  The document's budget of layer 18: Go, Use.
  The document's server: may it be asked so; what it holds.
  The document's server, walked.
  Serve: the statement of what is told, walked, at every input.
-/
import Derived.Test.YtcgefncddbbnlaaSvEFG
import Derived.Test.YtcgefncddbbnlaaSeqF
import Derived.Test.YtcgefncddbbnlaaSvLM
import Derived.Test.YtcgefncddbbnlaaRefNew
import Derived.Test.YtcgefncddbbnlaaArgs2
namespace Go.Proofs.Ytcgefncddbbnlaa
open Go.RowKit
attribute [local go_sem] max_ints min_ints

theorem encQ_one (a : Int × Int) : ∀ u ∈ encQ a, u.oneCell' = true := by
  intro u hu
  simp [encQ] at hu
  rcases hu with rfl | rfl <;> rfl
def bpR (p : Rf.Bp) (L : Value) : Array Value := #[.bool p.rf, .int .i64 p.C, .int .i64 p.T, .int .i64 p.start, .int .i64 p.now, .int .i64 p.free, L, .bool p.still]
def tsQ : List TypeId := [110, 116]
structure Qud (w : World) (base r : Nat) (L : Value) (p : Rf.Bp) (xs : List (Int × Int)) : Prop where
  b : Blk w r 110 (bpR p L)
  s : SlR encQ w base 116 2 L xs
  hr : base ≤ r
def QSt (w : World) (base r : Nat) (p : Rf.Bp) (xs : List (Int × Int)) : Prop := ∃ L, Qud w base r L p xs
section
variable {w w' : World} {base r : Nat} {L L' : Value} {p : Rf.Bp} {xs xs' : List (Int × Int)} {S : Nat → Prop}
theorem Qud.upd (h : Qud w base r L p xs) (hu : Upd S w w') (hg : ¬ S r) (hl : ∀ k, slBlk L = some k → ¬ S k) : Qud w' base r L p xs := ⟨h.b.upd hu hg, h.s.upd hu hl, h.hr⟩
theorem Qud.still (h : Qud w base r L p xs) (hu : Upd (fun _ => False) w w') : Qud w' base r L p xs := h.upd hu (fun h => h) (fun _ _ h => h)
theorem Qud.drewN (h : Qud w base r L p xs) (n : Nat) : Qud (w.drewN n) base r L p xs := h.still ((Upd.refl _ w).drewN n)
theorem Qud.alloc (h : Qud w base r L p xs) (o : Obj) : Qud (w.alloc o) base r L p xs := h.still ((Upd.refl _ w).alloc o)
theorem Qud.lt (h : Qud w base r L p xs) : r < w.heap.size ∧ (∀ k, slBlk L = some k → k < w.heap.size) := ⟨h.b.lt, fun k hk => (Sl.blk h.s k hk).2.1⟩
theorem Qud.old (h : Qud w base r L p xs) (hu : Upd (fun k => w.heap.size ≤ k) w w') : Qud w' base r L p xs :=
  h.upd hu (fun e => by have := h.lt.1; omega) (fun k hk e => by have := h.lt.2 k hk; omega)
theorem Qud.neL (h : Qud w base r L p xs) : ∀ k, slBlk L = some k → k ≠ r := Sl.ne_ h.s h.b (by decide)
theorem Qud.tyR (h : Qud w base r L p xs) : Tys base tsQ w r := ⟨h.hr, _, _, h.b, by decide⟩
theorem Qud.setNow (h : Qud w base r L p xs) (f : Int) : Qud (w.setCell ⟨r, 4, none⟩ (.int .i64 f)) base r L { p with now := f } xs := by
  have hu := (Upd.refl (fun k => k = r) w).setCell (p := ⟨r, 4, none⟩) (fun _ => rfl) (.int .i64 f)
  exact ⟨by simpa [bpR] using h.b.set_ 4 (.int .i64 f), h.s.upd hu (fun k hk e => h.neL k hk e), h.hr⟩
theorem Qud.setFree (h : Qud w base r L p xs) (f : Int) : Qud (w.setCell ⟨r, 5, none⟩ (.int .i64 f)) base r L { p with free := f } xs := by
  have hu := (Upd.refl (fun k => k = r) w).setCell (p := ⟨r, 5, none⟩) (fun _ => rfl) (.int .i64 f)
  exact ⟨by simpa [bpR] using h.b.set_ 5 (.int .i64 f), h.s.upd hu (fun k hk e => h.neL k hk e), h.hr⟩
theorem Qud.setL (hb : Blk w r 110 (bpR p L)) (hs : SlR encQ w base 116 2 L' xs) (hr : base ≤ r) : Qud (w.setCell ⟨r, 6, none⟩ L') base r L' p xs := by
  have hu := (Upd.refl (fun k => k = r) w).setCell (p := ⟨r, 6, none⟩) (fun _ => rfl) L'
  exact ⟨by simpa [bpR] using hb.set_ 6 L', hs.upd hu (fun k hk e => Sl.ne_ hs hb (by decide) k hk e), hr⟩
theorem QSt.still (h : QSt w base r p xs) (hu : Upd (fun _ => False) w w') : QSt w' base r p xs := let ⟨L, h⟩ := h; ⟨L, h.still hu⟩
theorem QSt.tu {ts : List TypeId} (h : QSt w base r p xs) (hu : Tu base ts w w') (h1 : 110 ∉ ts) (h2 : 116 ∉ ts) : QSt w' base r p xs :=
  let ⟨L, h⟩ := h; ⟨L, h.b.tu hu h1, Sl.tu h.s hu h2, h.hr⟩
end
theorem infoQR : (Try.prog.info? 116).map (fun i => (i.zero, i.size, i.bytes)) = some (some (.agg #[.int .i64 0, .int .i64 0]), 2, 16) := by kernel_rfl
theorem sizeQR : ∀ w, (sizeOf (Try.prog.elem 108)).run Try.prog w = .ok 2 w := fun w => by kernel_rfl

set_option maxRecDepth 100000 in
theorem floorQ (w : World) (d T : Int) (hd : 0 ≤ d) (hd2 : d ≤ 4611686018427387904) (hT : 1 ≤ T) (hT2 : T ≤ 1000) :
    Calls Try.prog 78 #[.int .i64 d, .int .i64 T] w fun e w' => e = .returned (.int .i64 (d / T)) ∧ ∃ k, w' = w.drewN k := by
  have e0 : decide (T < 1) = false := decide_eq_false (by omega)
  have e1 : (T == 0) = false := beq_eq_false_iff_ne.2 (by omega)
  obtain ⟨q, hq⟩ : ∃ q, d / T = q := ⟨_, rfl⟩
  have e2 : d.tdiv T = q := by rw [Int.tdiv_eq_ediv_of_nonneg hd]; exact hq
  have e4 : d.tmod T = d % T := Int.tmod_eq_emod_of_nonneg hd
  have e3 : decide (d % T < 0) = false := decide_eq_false (by have := Int.emod_nonneg d (show T ≠ 0 by omega); omega)
  have hq0 : 0 ≤ q := by rw [← hq]; exact Int.ediv_nonneg hd (by omega)
  have hq1 : q ≤ d := by rw [← hq]; exact Int.ediv_le_self _ hd
  rw [hq]
  clear hq
  go_enter Try.func78, Try.ntmps78
  go_wp2_with fail
  go_returns
  exact ⟨rfl, 0, rfl⟩

set_option maxRecDepth 100000 in
theorem periodQ (w : World) (base r : Nat) (L : Value) (p : Rf.Bp) (xs : List (Int × Int)) (h : Qud w base r L p xs) (hT : 1 ≤ p.T) (hT2 : p.T ≤ 1000) (tick : Int) (hs : p.start = 0) (h0 : 0 ≤ tick) (h1 : tick ≤ 4611686018427387904) :
    Calls Try.prog 59 #[.pointer (some ⟨r, 0, none⟩), .int .i64 tick] w fun e w' => e = .returned (.int .i64 (tick / p.T)) ∧ ∃ k, w' = w.drewN k := by
  have c2 : w.cell? ⟨r, 2, none⟩ = some (.int .i64 p.T) := h.b.cell 2
  have c3 : w.cell? ⟨r, 3, none⟩ = some (.int .i64 p.start) := h.b.cell 3
  rw [hs] at c3
  clear h hs
  have HA := Lib.hid h0; have HB := Lib.hid h1; have HC := Lib.hid hT; have HD := Lib.hid hT2
  have e1 : IntKind.i64.wrap (tick - 0) = tick := by rw [Int.sub_zero]; exact Ck.wrap_in _ (by omega) (by omega)
  go_enter Try.func59, Try.ntmps59
  go_wp2_with fail
  go_quiet ((go_at_call 78; exact Calls.quiet_of (floorQ _ tick p.T HA.out HB.out HC.out HD.out)))
  go_wp2_with fail
  go_returns
  exact ⟨rfl, _, rfl⟩

set_option maxRecDepth 100000 in
set_option maxHeartbeats 800000 in
theorem leftQ (w : World) (base r : Nat) (L : Value) (p : Rf.Bp) (xs : List (Int × Int)) (h : Qud w base r L p xs) (hf : Rf.fineL xs) (hl : xs.length ≤ 1000) :
    Calls Try.prog 60 #[.pointer (some ⟨r, 0, none⟩)] w fun e w' => e = .returned (.int .i64 (Rf.sumL xs)) ∧ ∃ k, w' = w.drewN k := by
  obtain ⟨A, cap, rfl⟩ := h.s.shape
  have c6 : w.cell? ⟨r, 6, none⟩ = some (.slice A xs.length cap) := h.b.cell 6
  have H := Lib.hid h; have HF := Lib.hid hf
  clear h hf
  go_enter Try.func60, Try.ntmps60
  go_wp2_with fail
  go_loopw [3, 4] (fun v3 v4 wr => wr = w ∧ ∃ i : Nat, i ≤ xs.length ∧ v3 = .int .i64 (Rf.sumL (xs.take i)) ∧ v4 = .int .i64 i) (fun _ v4 _ => xs.length - (intOf v4).toNat)
  case atStart => exact ⟨rfl, 0, Nat.zero_le _, rfl, rfl⟩
  case round =>
    obtain ⟨rfl, i, hi, rfl, rfl⟩ := hrel
    by_cases hlt : i < xs.length
    · obtain ⟨x, hx⟩ : ∃ x, xs[i]? = some x := ⟨_, List.getElem?_eq_getElem hlt⟩
      obtain ⟨b, o, cap', e, _, _, _, _⟩ := H.out.s.form (by omega)
      injection e with e1 e2 e3
      subst e1 e3
      have c1 : wr.cell? ⟨b, o + i * 2 + 1, none⟩ = some (.int .i64 x.2) := H.out.s.cell encQ_len i x hx 1 _ rfl
      have hx1 := HF.out x (List.mem_of_getElem? hx)
      have hb := Rf.sumL_bound (xs.take i) (fun y hy => HF.out y (List.mem_of_mem_take hy))
      have hb2 : (xs.take i).length ≤ i := List.length_take_le _ _
      obtain ⟨sm, hsm⟩ : ∃ sm, Rf.sumL (xs.take i) = sm := ⟨_, rfl⟩
      rw [hsm] at hb ⊢
      have hn : Rf.sumL (xs.take (i + 1)) = sm + x.2 := by rw [take_succ_get hx, Rf.sumL_append, hsm]; simp [Rf.sumL]
      have HN := Lib.hid hn
      have hs0 : 0 ≤ sm ∧ sm ≤ 1000000000 := by omega
      have hs00 := hs0.1; have hs01 := hs0.2; have hx10 := hx1.1; have hx11 := hx1.2
      have dl : decide ((i : Int) < (xs.length : Int)) = true := decide_eq_true (by omega)
      have di : decide ((i : Int) < 0) = false := decide_eq_false (by omega)
      obtain ⟨x0, x1⟩ := x
      dsimp only at *
      clear hx hb hb2 hsm hn hs0 hx1
      go_wp2_with fail
      go_roundw
      case rel => exact ⟨by first | rfl | trivial, i + 1, by omega, by rw [HN.out]; try go_num, by go_num⟩
      case measure => simp [intOf]; omega
    · have hie : i = xs.length := by omega
      subst hie
      rw [List.take_length]
      go_wp2_with fail
      go_returns
      exact ⟨rfl, 0, rfl⟩

set_option maxRecDepth 100000 in
set_option maxHeartbeats 800000 in
theorem dueQ (w : World) (base r : Nat) (p : Rf.Bp) (xs : List (Int × Int)) (h : QSt w base r p xs) :
    Calls Try.prog 35 #[.pointer (some ⟨r, 0, none⟩)] w fun e w' => ∃ n, e = .returned (.tuple #[.int .i64 n, .bool (decide (0 < xs.length))]) ∧ ∃ k, w' = w.drewN k := by
  obtain ⟨L, h⟩ := h
  cases xs with
  | nil =>
    obtain ⟨A, cap, rfl⟩ := h.s.shape
    have c6 : w.cell? ⟨r, 6, none⟩ = some (.slice A 0 cap) := h.b.cell 6
    clear h
    go_enter Try.func35, Try.ntmps35
    go_wp2_with fail
    exact bodyPost_ret (v := .tuple #[.int .i64 0, .bool false]) (by simp [results, Try.results35, go_sem]) rfl ⟨0, rfl, 0, rfl⟩
  | cons x t =>
    obtain ⟨b, o, cap, rfl, _, _, _, _⟩ := h.s.form (by simp)
    have c6 : w.cell? ⟨r, 6, none⟩ = some (.slice (some ⟨b, o, none⟩) (t.length + 1) cap) := h.b.cell 6
    have c2 : w.cell? ⟨r, 2, none⟩ = some (.int .i64 p.T) := h.b.cell 2
    have d0 : w.cell? ⟨b, o, none⟩ = some (.int .i64 x.1) := by have := h.s.cell encQ_len 0 x rfl 0 _ rfl; simpa using this
    have e0 : (((t.length + 1 : Nat) : Int) == 0) = false := beq_eq_false_iff_ne.2 (by omega)
    obtain ⟨z, hz⟩ : ∃ z, IntKind.i64.wrap (x.1 + p.T) = z := ⟨_, rfl⟩
    clear h
    go_enter Try.func35, Try.ntmps35
    go_wp2_with fail
    go_quiet (fail)
    go_wp2_with fail
    exact bodyPost_ret (v := .tuple #[.int .i64 z, .bool true]) (by simp [results, Try.results35, go_sem, hz]) rfl ⟨z, by simp, _, rfl⟩

set_option maxRecDepth 100000 in
set_option maxHeartbeats 1600000 in
theorem doneQ (w : World) (base r : Nat) (p : Rf.Bp) (xs : List (Int × Int)) (h : QSt w base r p xs) (hf : FineR p xs) :
    Calls Try.prog 40 #[.pointer (some ⟨r, 0, none⟩)] w fun e w' => e = .returned (.tuple #[]) ∧ QSt w' base r { p with free := p.free + Rf.sumL xs } [] ∧ Tu base tsQ w w' := by
  obtain ⟨L, h⟩ := h
  have c5 : w.cell? ⟨r, 5, none⟩ = some (.int .i64 p.free) := h.b.cell 5
  have hl := hf.len
  have hp := hf.pos; have hsum := hf.sum; have hfr := hf.free; have hCT := hf.CT; have hT1 := hf.T1
  have hw : IntKind.i64.wrap (p.free + Rf.sumL xs) = p.free + Rf.sumL xs := Ck.wrap_in _ (by omega) (by omega)
  have H := Lib.hid h
  have HF := Lib.hid hf.fine
  have fz := h.b.frozen 5
  have UA : Hid (∀ k, Qud (w.drewN k) base r L p xs) := Lib.hid (fun k => h.drewN k)
  clear h hf hp hsum hfr hCT hT1
  go_enter Try.func40, Try.ntmps40
  go_upto_region 0 with fail
  refine wp_region_treeF (.q 0 (.q 1 (.q 2 (.q 3 (.q 4 (.q 5 (.l 6 (.q 7 (.q 8 (.q 9 (.l 10 .d))))))))))) (fun i => decide (10 ≤ i ∧ i < 11)) (fun _ => false) (fun w' => w'.cell? ⟨r, 5, none⟩ = some (.int .i64 p.free))
    (by kernel_rfl) (by kernel_rfl) (by kernel_rfl) (fun t ht => by have := of_decide_eq_true ht; exact this.2) (fun _ _ _ _ _ h => h) (by kernel_rfl) rfl ((H.out.drewN 1).b.cell 5) ?_
  iterate 6
    first
    | refine wpOF_skip (by rfl) (by rfl) ?_
    | (refine' wpOF_q (by rfl) (by rfl) (by rfl) (fun w' hS' => ?_) ?_
       rotate_left
       · obtain s1 := hS'
         go_simp
         try rfl)
    try simp only [Act.put, List.setIfInBounds_toArray, List.set_cons_zero, List.set_cons_succ]
  refine wpOF_l (by rfl) (by rfl) (fun KQ hKQ => ?_)
  go_simp
  go_at_call 60
  refine (leftQ _ base r L p xs (H.out.drewN 1) HF.out hl).mono ?_
  rintro e w2 ⟨rfl, k, hk⟩
  have hU : Upd (fun _ => False) w w2 := by rw [hk]; exact (Upd.refl _ _).drew.drewN k
  have H2 := Lib.hid (H.out.still hU); have U2 := Lib.hid hU
  clear hU hk
  refine hKQ _ _ (.inr (H2.out.b.cell 5)) ?_
  clear hKQ KQ
  try simp only [Act.put, List.setIfInBounds_toArray, List.set_cons_zero, List.set_cons_succ]
  iterate 3
    first
    | refine wpOF_skip (by rfl) (by rfl) ?_
    | (refine' wpOF_q (by rfl) (by rfl) (by rfl) (fun w' hS' => ?_) ?_
       rotate_left
       · obtain s1 := hS'
         go_simp
         try rfl)
    try simp only [Act.put, List.setIfInBounds_toArray, List.set_cons_zero, List.set_cons_succ]
  have fz := H2.out.b.frozen 5
  have c5' : w2.cell? ⟨r, 5, none⟩ = some (.int .i64 p.free) := H2.out.b.cell 5
  refine wpOF_l (by rfl) (by rfl) (fun KQ hKQ => ?_)
  go_simp
  refine hKQ _ _ (.inl (by rfl)) ?_
  clear hKQ KQ
  try simp only [Act.put, List.setIfInBounds_toArray, List.set_cons_zero, List.set_cons_succ]
  refine wpOF_d ?_
  try rw [hw]
  have H3 := Lib.hid (H2.out.setFree (p.free + Rf.sumL xs))
  have T3 : Hid (Tu base tsQ w (w2.setCell ⟨r, 5, none⟩ (.int .i64 (p.free + Rf.sumL xs)))) := Lib.hid ((Tu.of (ts := tsQ) (base := base) U2.out (fun k hk e => e.elim)).set_ H2.out.hr H2.out.b (by decide) _)
  generalize w2.setCell ⟨r, 5, none⟩ (.int .i64 (p.free + Rf.sumL xs)) = w3 at *
  have fz := H3.out.b.frozen 6
  have c6 : w3.cell? ⟨r, 6, none⟩ = some L := H3.out.b.cell 6
  have HL := Lib.hid (Qud.setL H3.out.b (SlR.nil (enc := encQ) (t := 116) (size := 2) (base := base)) H3.out.hr)
  have TL : Hid (Tu base tsQ w (w3.setCell ⟨r, 6, none⟩ (.slice none 0 0))) := Lib.hid (T3.out.set_ H3.out.hr H3.out.b (by decide) _)
  go_wp2_with fail
  go_returns
  exact ⟨rfl, ⟨_, HL.out⟩, TL.out⟩

set_option maxRecDepth 100000 in
set_option maxHeartbeats 800000 in
theorem newQ (w : World) (base : Nat) (hbase : base ≤ w.heap.size) (rf : Bool) (C T : Int) (h : Cf.okS C T = true) :
    Calls Try.prog 31 #[.agg #[.bool rf, .int .i64 C, .int .i64 T], .int .i64 0] w fun e w' => ∃ g, e = .returned (.pointer (some ⟨g, 0, none⟩)) ∧ w.heap.size ≤ g ∧ QSt w' base g (Rf.Bp.new rf C T 0) [] ∧ Upd (fun _ => False) w w' := by
  have HT := Lib.hid h; clear h
  have hx := Blk.new w 23 #[.bool rf, .int .i64 C, .int .i64 T]
  have HX := Lib.hid hx; clear hx
  go_enter Try.func31, Try.ntmps31
  go_wp2_with fail
  refine (Ck.rightR _ rf C T true HT.out).mono ?_
  rintro e w1 ⟨rfl, hU⟩
  have hb := HX.out.upd hU (fun h => h)
  have c0 : w1.cell? ⟨w.heap.size, 0, none⟩ = some (.bool rf) := hb.cell 0
  have c1 : w1.cell? ⟨w.heap.size, 1, none⟩ = some (.int .i64 C) := hb.cell 1
  have c2 : w1.cell? ⟨w.heap.size, 2, none⟩ = some (.int .i64 T) := hb.cell 2
  clear hb
  have hsz := hU.size
  simp at hsz
  have HU := Lib.hid hU; clear hU
  go_wp2_with fail
  go_returns
  refine ⟨_, rfl, by omega, ⟨_, Blk.new _ _ _, SlR.nil, by omega⟩, (((Upd.refl _ w).alloc _).trans HU.out).alloc _⟩
end Go.Proofs.Ytcgefncddbbnlaa

namespace Go.Proofs.Ytcgefncddbbnlaa
open Go.RowKit
attribute [local go_sem] max_ints min_ints

set_option maxRecDepth 100000 in
set_option maxHeartbeats 6400000 in
theorem goQ (w : World) (base r : Nat) (p : Rf.Bp) (xs : List (Int × Int)) (h : QSt w base r p xs) (hbase : base ≤ w.heap.size) (hf : FineR p xs) (now : Int) (h0 : 0 ≤ now) (h1 : now ≤ 1000000) (hx1000 : xs.length + 1 ≤ 1001) (busy : Bool) :
    Calls Try.prog 33 #[.pointer (some ⟨r, 0, none⟩), .int .i64 now, .bool busy] w fun e w' => e = .returned (.tuple #[]) ∧ QSt w' base r (Rf.goP p xs now busy).1 (Rf.goP p xs now busy).2 ∧ Tu base tsQ w w' := by
  obtain ⟨L, h⟩ := h
  have hT : 1 ≤ p.T := by have := hf.C1; have := hf.CT; omega
  have hT1 := hf.T1
  have hst := hf.start
  have hn0 := hf.now
  have hn1 := hf.now2
  have hl := hf.len
  have hp := hf.pos; have hsum := hf.sum; have hfr := hf.free; have hCT := hf.CT; have hC1 := hf.C1
  have hsm0 := hp.1
  have hwC : IntKind.i64.wrap (p.C - Rf.sumL xs) = p.C - Rf.sumL xs := Ck.wrap_in _ (by omega) (by omega)
  have HFR := hf.fr now
  have HF := Lib.hid hf.fine
  have H := Lib.hid h
  have HK : Hid (1 ≤ p.T ∧ p.T ≤ 1000 ∧ p.start = 0 ∧ 0 ≤ p.now ∧ p.now ≤ 2305843009213693952) := Lib.hid ⟨hT, hT1, hst, hn0, hn1⟩
  have HN := Lib.hid h0; have HN1 := Lib.hid h1
  obtain ⟨f1, hf1⟩ : ∃ f1, Rf.goFree p xs now = f1 := ⟨_, rfl⟩
  rw [hf1] at HFR
  have hf10 := HFR.1
  have hf11 : f1 ≤ 1000 := by omega
  have HF1 := Lib.hid hf1
  have HGF : Hid (f1 = if p.now / p.T < now / p.T then p.C - Rf.sumL xs else p.free) := Lib.hid (by rw [← hf1]; unfold Rf.goFree; rw [hst, Int.sub_zero, Int.sub_zero])
  have c4 : (w.drewN 1).cell? ⟨r, 4, none⟩ = some (.int .i64 p.now) := (h.drewN 1).b.cell 4
  obtain ⟨qn, hqn⟩ : ∃ q, now / p.T = q := ⟨_, rfl⟩
  obtain ⟨qp, hqp⟩ : ∃ q, p.now / p.T = q := ⟨_, rfl⟩
  have HQN := Lib.hid hqn; have HQP := Lib.hid hqp
  rw [hqn, hqp] at HGF
  clear hqn hqp
  clear h hf hT hT1 hst hn0 hn1 hp hsum hfr hCT hC1 hsm0 HFR hf1
  go_enter Try.func33, Try.ntmps33
  go_upto_region 0 with fail
  refine wp_region_treeF (.q 0 (.q 1 (.q 3 (.q 4 (.q 5 (.q 6 (.q 7 (.l 2 (.l 8 (.q 9 .d)))))))))) (fun _ => false) (fun _ => false) (fun w' => w'.cell? ⟨r, 4, none⟩ = some (.int .i64 p.now))
    (by kernel_rfl) (by kernel_rfl) (by kernel_rfl) (fun t ht => by cases ht) (fun _ _ _ _ _ h => h) (by kernel_rfl) rfl c4 ?_
  iterate 7
    first
    | refine wpOF_skip (by rfl) (by rfl) ?_
    | (refine' wpOF_q (by rfl) (by rfl) (by rfl) (fun w' hS' => ?_) ?_
       rotate_left
       · obtain s1 := hS'
         go_simp
         try rfl)
    try simp only [Act.put, List.setIfInBounds_toArray, List.set_cons_zero, List.set_cons_succ]
  refine wpOF_l (by rfl) (by rfl) (fun KQ hKQ => ?_)
  go_simp
  go_at_call 59
  refine (periodQ _ base r L p xs (H.out.drewN 1) HK.out.1 HK.out.2.1 now HK.out.2.2.1 HN.out (by have := HN1.out; omega)).mono ?_
  rintro e w1 ⟨rfl, k1, hk1⟩
  rw [HQN.out]
  have u1 : Upd (fun _ => False) w w1 := by rw [hk1]; exact (Upd.refl _ _).drew.drewN k1
  have H1 := Lib.hid (H.out.still u1); have U1 := Lib.hid u1
  clear u1 hk1 c4
  refine hKQ _ _ (.inr (H1.out.b.cell 4)) ?_
  clear hKQ KQ
  try simp only [Act.put, List.setIfInBounds_toArray, List.set_cons_zero, List.set_cons_succ]
  refine wpOF_l (by rfl) (by rfl) (fun KQ hKQ => ?_)
  go_simp
  go_at_call 59
  refine (periodQ _ base r L p xs H1.out HK.out.1 HK.out.2.1 p.now HK.out.2.2.1 HK.out.2.2.2.1 (by have := HK.out.2.2.2.2; omega)).mono ?_
  rintro e w2 ⟨rfl, k1, hk1⟩
  rw [HQP.out]
  have u1 : Upd (fun _ => False) w1 w2 := by rw [hk1]; exact (Upd.refl _ _).drewN k1
  have H2 := Lib.hid (H1.out.still u1); have U2 := Lib.hid (U1.out.trans u1)
  clear u1 hk1 H1 U1
  refine hKQ _ _ (.inr (H2.out.b.cell 4)) ?_
  clear hKQ KQ
  try simp only [Act.put, List.setIfInBounds_toArray, List.set_cons_zero, List.set_cons_succ]
  iterate 1
    first
    | refine wpOF_skip (by rfl) (by rfl) ?_
    | (refine' wpOF_q (by rfl) (by rfl) (by rfl) (fun w' hS' => ?_) ?_
       rotate_left
       · obtain s1 := hS'
         go_simp
         try rfl)
    try simp only [Act.put, List.setIfInBounds_toArray, List.set_cons_zero, List.set_cons_succ]
  refine wpOF_d ?_
  obtain ⟨gt, hgt⟩ : ∃ gt, decide (qp < qn) = gt := ⟨_, rfl⟩
  have HGT := Lib.hid hgt
  have fr2 : w2.cell? ⟨r, 5, none⟩ = some (.int .i64 p.free) := H2.out.b.cell 5
  have fC2 : w2.cell? ⟨r, 1, none⟩ = some (.int .i64 p.C) := H2.out.b.cell 1
  have TW0 := Lib.hid (Tu.of (ts := tsQ) (base := base) U2.out (fun k hk e => e.elim))
  rw [hgt]
  cases gt
  · have hff : p.free = f1 := by rw [HGF.out, if_neg (of_decide_eq_false HGT.out)]
    have HW : Hid (Qud w2 base r L { p with free := f1 } xs) := Lib.hid (by rw [← hff]; exact H2.out)
    have TW : Hid (Tu base tsQ w w2) := TW0
    clear fr2 fC2 hff TW0 U2 H2 H HGT HGF
    generalize w2 = W at *
    skip
    have c4 : W.cell? ⟨r, 4, none⟩ = some (.int .i64 p.now) := HW.out.b.cell 4
    have fz := HW.out.b.frozen 4
    have HW1 := Lib.hid (HW.out.setNow now)
    have TW1 : Hid (Tu base tsQ w (W.setCell ⟨r, 4, none⟩ (.int .i64 now))) := Lib.hid (TW.out.set_ HW.out.hr HW.out.b (by decide) _)
    clear HW TW
    go_upto_region 3 with fail
    try rw [hwC]
    generalize W.setCell ⟨r, 4, none⟩ (.int .i64 now) = W at *
    clear c4 fz
    have FIN : Hid (∀ b, busy = b → ¬ (b = true ∧ p.still = false ∧ 0 < f1) → QSt W base r (Rf.goP p xs now busy).1 (Rf.goP p xs now busy).2) := Lib.hid (fun b hb hn => by
      unfold Rf.goP
      rw [HF1.out, hb, if_neg hn]
      exact ⟨L, HW1.out⟩)
    have HN9 : Hid (base ≤ W.heap.size) := Lib.hid (Nat.le_trans hbase TW1.out.size)
    have c5 : W.cell? ⟨r, 5, none⟩ = some (.int .i64 f1) := HW1.out.b.cell 5
    have c7 : W.cell? ⟨r, 7, none⟩ = some (.bool p.still) := HW1.out.b.cell 7
    cases busy
    · go_wp2_with fail
      go_returns
      exact ⟨rfl, FIN.out false rfl (fun h => by cases h.1), TW1.out⟩
    · obtain ⟨sb, hsb⟩ : ∃ sb, p.still = sb := ⟨_, rfl⟩
      rw [hsb] at c7
      have HSB := Lib.hid hsb; clear hsb
      cases sb
      · by_cases hpos : 0 < f1
        · have e0 : decide (0 < f1) = true := decide_eq_true hpos
          have HP := Lib.hid hpos
          obtain ⟨i0, hi0, hz0, hz1, hz2⟩ := info_parts infoQR
          obtain ⟨AL, cL, rfl⟩ := HW1.out.s.shape
          have HS : Hid (∀ wx, Upd (fun k => W.heap.size ≤ k) W wx → wx.cell? ⟨r, 5, none⟩ = some (.int .i64 f1) ∧ wx.cell? ⟨r, 6, none⟩ = some (.slice AL xs.length cL)) := Lib.hid (fun wx hu => ⟨(HW1.out.old hu).b.cell 5, (HW1.out.old hu).b.cell 6⟩)
          have HFz : Hid (∀ wx, Upd (fun k => W.heap.size ≤ k) W wx → wx.frozen? ⟨r, 6, none⟩ = false) := Lib.hid (fun wx hu => (HW1.out.old hu).b.frozen 6)
          have HL := Lib.hid HW1.out.s
          clear hpos
          go_upto_region 4 with fail
          refine wp_region_tree (.q 0 (.q 2 (.q 3 (.q 4 (.q 5 (.q 7 (.q 8 (.q 9 (.q 10 (.q 11 (.q 12 (.b 1 (.b 6 (.l 13 (.l 14 (.l 15 (.l 16 (.l 17 .d))))) 13 (.l 6 (.l 14 (.l 15 (.l 16 (.l 17 .d)))))) 13 (.l 1 (.l 6 (.l 14 (.l 15 (.l 16 (.l 17 .d)))))))))))))))))) (fun i => decide (17 ≤ i ∧ i < 18)) (fun w' => w'.cell? ⟨r, 5, none⟩ = some (.int .i64 f1) ∧ w'.cell? ⟨r, 6, none⟩ = some (.slice AL xs.length cL))
            (by kernel_rfl) (by kernel_rfl) (fun t ht => by have := of_decide_eq_true ht; exact this.2) (fun _ _ _ _ _ h => h) (by kernel_rfl) rfl (HS.out _ ((Upd.refl _ _).drew)) ?_
          iterate 11
            refine' wpOT_q (by rfl) (by rfl) (fun w' hS' => ?_) ?_
            rotate_left
            · obtain ⟨s0, s1⟩ := hS'
              go_simp
              try rfl
            try simp only [Act.put, List.setIfInBounds_toArray, List.set_cons_zero, List.set_cons_succ]
          have U0 : Hid (Upd (fun k => W.heap.size ≤ k) W W.drew) := Lib.hid ((Upd.refl _ W).drew)
          generalize W.drew = Wd at *
          refine wpOT_b ?_ ?_
          refine wpOT_loud (by rfl) (by rfl) (fun KQ hKQ => ?_)
          go_simp
          have UA := Lib.hid (U0.out.alloc (.cells #[] 116))
          have hA : W.heap.size ≤ Wd.heap.size := U0.out.size
          have EA : Hid (Blk (Wd.alloc (.cells #[] 116)) Wd.heap.size 116 #[]) := Lib.hid (Blk.new Wd _ _)
          refine hKQ _ _ (.inr (HS.out _ UA.out)) ?_
          clear hKQ KQ
          try simp only [Act.put, List.setIfInBounds_toArray, List.set_cons_zero, List.set_cons_succ]
          generalize Wd.alloc (.cells #[] 116) = wA at *
          generalize Wd.heap.size = bA at *
          refine wpOT_b ?_ ?_
          refine wpOT_loud (by rfl) (by rfl) (fun KQ hKQ => ?_)
          refine wp_append_copy (.tmp 47) (.tmp 51) 108 rfl W.heap.size _ 116 i0 _ 2 16 Try.underlying108 hi0 hz0 hz1 hz2 rfl (by decide) _ rfl EA.out hA (.slice AL xs.length cL) xs.length (rws encQ xs) rfl (Sl.upd HL.out UA.out (fun k hk e => by have := (Sl.blk HL.out k hk).2.1; omega)) (rws_one_cell encQ_one _) (by unfold maxLen; omega) (by omega) UA.out.size ?_
          intro v' wB hs1 hu1
          obtain ⟨AB, cB, rfl⟩ := Sl.shape hs1
          have SB := Lib.hid hs1
          have UB := Lib.hid (UA.out.trans (hu1.mono (fun k _ e => by rw [e]; exact hA)))
          clear hs1 hu1 EA
          refine hKQ _ _ (.inr (HS.out _ UB.out)) ?_
          clear hKQ KQ
          try simp only [Act.put, List.setIfInBounds_toArray, List.set_cons_zero, List.set_cons_succ]
          refine wpOT_l (by rfl) (by rfl) (fun KQ hKQ => ?_)
          go_simp
          have UC := Lib.hid (UB.out.alloc (.cells #[.int .i64 now, .int .i64 f1] 116))
          have hC : W.heap.size ≤ wB.heap.size := UB.out.size
          have SB := Lib.hid (SB.out.alloc (.cells #[.int .i64 now, .int .i64 f1] 116))
          have CC : Hid (Blk (wB.alloc (.cells #[.int .i64 now, .int .i64 f1] 116)) wB.heap.size 116 #[.int .i64 now, .int .i64 f1]) := Lib.hid (Blk.new wB _ _)
          refine hKQ _ _ (.inr (HS.out _ UC.out)) ?_
          clear hKQ KQ
          try simp only [Act.put, List.setIfInBounds_toArray, List.set_cons_zero, List.set_cons_succ]
          generalize wB.alloc (.cells #[.int .i64 now, .int .i64 f1] 116) = wC at *
          generalize wB.heap.size = bC at *
          refine wpOT_l (by rfl) (by rfl) (fun KQ hKQ => ?_)
          refine wp_append_sl (.tmp 52) (.tmp 59) 108 rfl W.heap.size 116 i0 _ 2 16 Try.underlying108 hi0 hz0 hz1 hz2 rfl (by decide) (.slice AB xs.length cB) xs.length (rws encQ xs) rfl SB.out ⟨bC, 0, none⟩ 1 [.int .i64 now, .int .i64 f1] rfl rfl (fun j u hu => by rw [Ck.add_at, CC.out.cell j]; simpa using hu) (by simp [Value.oneCell']) (by unfold maxLen; omega) (by omega) UC.out.size ?_
          intro v9 wZ hs1 hu1 hv1
          obtain ⟨bz, oz, cz, rfl, _, _, _, _⟩ := hs1.form (by omega)
          have SZ := Lib.hid hs1
          have UZ := Lib.hid (UC.out.trans (hu1.mono (fun k _ hk => (Sl.blk SB.out k hk).1)))
          clear hs1 hu1 hv1
          refine hKQ _ _ (.inr (HS.out _ UZ.out)) ?_
          clear hKQ KQ
          try simp only [Act.put, List.setIfInBounds_toArray, List.set_cons_zero, List.set_cons_succ]
          iterate 2
            refine wpOT_l (by rfl) (by rfl) (fun KQ hKQ => ?_)
            go_simp
            refine hKQ _ _ (.inr (HS.out _ UZ.out)) ?_
            clear hKQ KQ
            try simp only [Act.put, List.setIfInBounds_toArray, List.set_cons_zero, List.set_cons_succ]
          have hfz := HFz.out _ UZ.out
          have hSz := HS.out _ UZ.out
          obtain ⟨s0, s1⟩ := hSz
          refine wpOT_l (by rfl) (by rfl) (fun KQ hKQ => ?_)
          go_simp
          refine hKQ _ _ (.inl (by rfl)) ?_
          clear hKQ KQ
          try simp only [Act.put, List.setIfInBounds_toArray, List.set_cons_zero, List.set_cons_succ]
          refine wpOT_d ?_
          rotate_left
          refine wpOT_loud (by rfl) (by rfl) (fun KQ hKQ => ?_)
          go_simp
          have UC := Lib.hid (UA.out.alloc (.cells #[.int .i64 now, .int .i64 f1] 116))
          have hC : W.heap.size ≤ wA.heap.size := UA.out.size
          have hAC : wA.heap.size ≠ bA := by have := EA.out.lt; omega
          have EA := Lib.hid (EA.out.alloc (.cells #[.int .i64 now, .int .i64 f1] 116))
          have CC : Hid (Blk (wA.alloc (.cells #[.int .i64 now, .int .i64 f1] 116)) wA.heap.size 116 #[.int .i64 now, .int .i64 f1]) := Lib.hid (Blk.new wA _ _)
          refine hKQ _ _ (.inr (HS.out _ UC.out)) ?_
          clear hKQ KQ
          try simp only [Act.put, List.setIfInBounds_toArray, List.set_cons_zero, List.set_cons_succ]
          generalize wA.alloc (.cells #[.int .i64 now, .int .i64 f1] 116) = wC at *
          generalize wA.heap.size = bC at *
          refine wpOT_l (by rfl) (by rfl) (fun KQ hKQ => ?_)
          refine wp_append_copy (.tmp 47) (.tmp 51) 108 rfl W.heap.size _ 116 i0 _ 2 16 Try.underlying108 hi0 hz0 hz1 hz2 rfl (by decide) _ rfl EA.out hA (.slice AL xs.length cL) xs.length (rws encQ xs) rfl (Sl.upd HL.out UC.out (fun k hk e => by have := (Sl.blk HL.out k hk).2.1; omega)) (rws_one_cell encQ_one _) (by unfold maxLen; omega) (by omega) UC.out.size ?_
          intro v' wB hs1 hu1
          obtain ⟨AB, cB, rfl⟩ := Sl.shape hs1
          have SB := Lib.hid hs1
          have UB := Lib.hid (UC.out.trans (hu1.mono (fun k _ e => by rw [e]; exact hA)))
          have CC := Lib.hid (CC.out.upd hu1 (fun e => hAC e))
          clear hs1 hu1 EA
          refine hKQ _ _ (.inr (HS.out _ UB.out)) ?_
          clear hKQ KQ
          try simp only [Act.put, List.setIfInBounds_toArray, List.set_cons_zero, List.set_cons_succ]
          refine wpOT_l (by rfl) (by rfl) (fun KQ hKQ => ?_)
          refine wp_append_sl (.tmp 52) (.tmp 59) 108 rfl W.heap.size 116 i0 _ 2 16 Try.underlying108 hi0 hz0 hz1 hz2 rfl (by decide) (.slice AB xs.length cB) xs.length (rws encQ xs) rfl SB.out ⟨bC, 0, none⟩ 1 [.int .i64 now, .int .i64 f1] rfl rfl (fun j u hu => by rw [Ck.add_at, CC.out.cell j]; simpa using hu) (by simp [Value.oneCell']) (by unfold maxLen; omega) (by omega) UB.out.size ?_
          intro v9 wZ hs1 hu1 hv1
          obtain ⟨bz, oz, cz, rfl, _, _, _, _⟩ := hs1.form (by omega)
          have SZ := Lib.hid hs1
          have UZ := Lib.hid (UB.out.trans (hu1.mono (fun k _ hk => (Sl.blk SB.out k hk).1)))
          clear hs1 hu1 hv1
          refine hKQ _ _ (.inr (HS.out _ UZ.out)) ?_
          clear hKQ KQ
          try simp only [Act.put, List.setIfInBounds_toArray, List.set_cons_zero, List.set_cons_succ]
          iterate 2
            refine wpOT_l (by rfl) (by rfl) (fun KQ hKQ => ?_)
            go_simp
            refine hKQ _ _ (.inr (HS.out _ UZ.out)) ?_
            clear hKQ KQ
            try simp only [Act.put, List.setIfInBounds_toArray, List.set_cons_zero, List.set_cons_succ]
          have hfz := HFz.out _ UZ.out
          have hSz := HS.out _ UZ.out
          obtain ⟨s0, s1⟩ := hSz
          refine wpOT_l (by rfl) (by rfl) (fun KQ hKQ => ?_)
          go_simp
          refine hKQ _ _ (.inl (by rfl)) ?_
          clear hKQ KQ
          try simp only [Act.put, List.setIfInBounds_toArray, List.set_cons_zero, List.set_cons_succ]
          refine wpOT_d ?_
          rotate_left
          refine wpOT_loud (by rfl) (by rfl) (fun KQ hKQ => ?_)
          go_simp
          have UC := Lib.hid (U0.out.alloc (.cells #[.int .i64 now, .int .i64 f1] 116))
          have hC : W.heap.size ≤ Wd.heap.size := U0.out.size
          have CC : Hid (Blk (Wd.alloc (.cells #[.int .i64 now, .int .i64 f1] 116)) Wd.heap.size 116 #[.int .i64 now, .int .i64 f1]) := Lib.hid (Blk.new Wd _ _)
          refine hKQ _ _ (.inr (HS.out _ UC.out)) ?_
          clear hKQ KQ
          try simp only [Act.put, List.setIfInBounds_toArray, List.set_cons_zero, List.set_cons_succ]
          generalize Wd.alloc (.cells #[.int .i64 now, .int .i64 f1] 116) = wC at *
          generalize Wd.heap.size = bC at *
          refine wpOT_l (by rfl) (by rfl) (fun KQ hKQ => ?_)
          go_simp
          have UA := Lib.hid (UC.out.alloc (.cells #[] 116))
          have hA : W.heap.size ≤ wC.heap.size := UC.out.size
          have hAC : bC ≠ wC.heap.size := by have := CC.out.lt; omega
          have CC := Lib.hid (CC.out.alloc (.cells #[] 116))
          have EA : Hid (Blk (wC.alloc (.cells #[] 116)) wC.heap.size 116 #[]) := Lib.hid (Blk.new wC _ _)
          refine hKQ _ _ (.inr (HS.out _ UA.out)) ?_
          clear hKQ KQ
          try simp only [Act.put, List.setIfInBounds_toArray, List.set_cons_zero, List.set_cons_succ]
          generalize wC.alloc (.cells #[] 116) = wA at *
          generalize wC.heap.size = bA at *
          refine wpOT_l (by rfl) (by rfl) (fun KQ hKQ => ?_)
          refine wp_append_copy (.tmp 47) (.tmp 51) 108 rfl W.heap.size _ 116 i0 _ 2 16 Try.underlying108 hi0 hz0 hz1 hz2 rfl (by decide) _ rfl EA.out hA (.slice AL xs.length cL) xs.length (rws encQ xs) rfl (Sl.upd HL.out UA.out (fun k hk e => by have := (Sl.blk HL.out k hk).2.1; omega)) (rws_one_cell encQ_one _) (by unfold maxLen; omega) (by omega) UA.out.size ?_
          intro v' wB hs1 hu1
          obtain ⟨AB, cB, rfl⟩ := Sl.shape hs1
          have SB := Lib.hid hs1
          have UB := Lib.hid (UA.out.trans (hu1.mono (fun k _ e => by rw [e]; exact hA)))
          have CC := Lib.hid (CC.out.upd hu1 (fun e => hAC e))
          clear hs1 hu1 EA
          refine hKQ _ _ (.inr (HS.out _ UB.out)) ?_
          clear hKQ KQ
          try simp only [Act.put, List.setIfInBounds_toArray, List.set_cons_zero, List.set_cons_succ]
          refine wpOT_l (by rfl) (by rfl) (fun KQ hKQ => ?_)
          refine wp_append_sl (.tmp 52) (.tmp 59) 108 rfl W.heap.size 116 i0 _ 2 16 Try.underlying108 hi0 hz0 hz1 hz2 rfl (by decide) (.slice AB xs.length cB) xs.length (rws encQ xs) rfl SB.out ⟨bC, 0, none⟩ 1 [.int .i64 now, .int .i64 f1] rfl rfl (fun j u hu => by rw [Ck.add_at, CC.out.cell j]; simpa using hu) (by simp [Value.oneCell']) (by unfold maxLen; omega) (by omega) UB.out.size ?_
          intro v9 wZ hs1 hu1 hv1
          obtain ⟨bz, oz, cz, rfl, _, _, _, _⟩ := hs1.form (by omega)
          have SZ := Lib.hid hs1
          have UZ := Lib.hid (UB.out.trans (hu1.mono (fun k _ hk => (Sl.blk SB.out k hk).1)))
          clear hs1 hu1 hv1
          refine hKQ _ _ (.inr (HS.out _ UZ.out)) ?_
          clear hKQ KQ
          try simp only [Act.put, List.setIfInBounds_toArray, List.set_cons_zero, List.set_cons_succ]
          iterate 2
            refine wpOT_l (by rfl) (by rfl) (fun KQ hKQ => ?_)
            go_simp
            refine hKQ _ _ (.inr (HS.out _ UZ.out)) ?_
            clear hKQ KQ
            try simp only [Act.put, List.setIfInBounds_toArray, List.set_cons_zero, List.set_cons_succ]
          have hfz := HFz.out _ UZ.out
          have hSz := HS.out _ UZ.out
          obtain ⟨s0, s1⟩ := hSz
          refine wpOT_l (by rfl) (by rfl) (fun KQ hKQ => ?_)
          go_simp
          refine hKQ _ _ (.inl (by rfl)) ?_
          clear hKQ KQ
          try simp only [Act.put, List.setIfInBounds_toArray, List.set_cons_zero, List.set_cons_succ]
          refine wpOT_d ?_
          rotate_left
          all_goals
            have hB9 := (HW1.out.old UZ.out).b
            have hL9 : SlR encQ wZ base 116 2 (.slice (some ⟨bz, oz, none⟩) (xs.length + 1) cz) (xs ++ [(now, f1)]) := by
              unfold SlR
              rw [List.length_append, rws_append]
              exact Sl.mono SZ.out HN9.out
            have hN9 := Qud.setL hB9 hL9 HW1.out.hr
            have c5' : (wZ.setCell ⟨r, 6, none⟩ (.slice (some ⟨bz, oz, none⟩) (xs.length + 1) cz)).cell? ⟨r, 5, none⟩ = some (.int .i64 f1) := hN9.b.cell 5
            have f5' := hN9.b.frozen 5
            have N9 := Lib.hid hN9
            have B9 := Lib.hid hB9
            clear hN9 hB9 hL9
            go_wp2_with fail
            go_returns
            have hgo : Rf.goP p xs now true = ({ p with now := now, free := 0 }, xs ++ [(now, f1)]) := by
              unfold Rf.goP
              rw [HF1.out, if_pos ⟨rfl, HSB.out, HP.out⟩]
            rw [hgo]
            refine ⟨rfl, ⟨_, N9.out.setFree 0⟩, ?_⟩
            exact ((TW1.out.trans (Tu.of UZ.out (fun k hk e => by omega))).set_ HW1.out.hr B9.out (by decide) _).set_ HW1.out.hr N9.out.b (by decide) _
        · have e0 : decide (0 < f1) = false := decide_eq_false hpos
          have HP := Lib.hid hpos; clear hpos
          go_wp2_with fail
          go_returns
          exact ⟨rfl, FIN.out true rfl (fun h => by have := HP.out; have := h.2.2; omega), TW1.out⟩
      · go_wp2_with fail
        go_returns
        exact ⟨rfl, FIN.out true rfl (fun h => by rw [HSB.out] at h; cases h.2.1), TW1.out⟩
  · have HFF : Hid (p.C - Rf.sumL xs = f1) := Lib.hid (by rw [HGF.out, if_pos (of_decide_eq_true HGT.out)])
    go_upto_region 1 with fail
    refine wp_region_treeF (.q 0 (.q 1 (.q 2 (.q 3 (.q 4 (.q 5 (.q 6 (.l 7 (.q 8 (.q 9 (.q 10 (.l 11 .d)))))))))))) (fun i => decide (11 ≤ i ∧ i < 12)) (fun _ => false) (fun w' => w'.cell? ⟨r, 1, none⟩ = some (.int .i64 p.C))
      (by kernel_rfl) (by kernel_rfl) (by kernel_rfl) (fun t ht => by have := of_decide_eq_true ht; exact this.2) (fun _ _ _ _ _ h => h) (by kernel_rfl) rfl ((H2.out.drewN 1).b.cell 1) ?_
    iterate 7
      first
      | refine wpOF_skip (by rfl) (by rfl) ?_
      | (refine' wpOF_q (by rfl) (by rfl) (by rfl) (fun w' hS' => ?_) ?_
         rotate_left
         · obtain s1 := hS'
           go_simp
           try rfl)
      try simp only [Act.put, List.setIfInBounds_toArray, List.set_cons_zero, List.set_cons_succ]
    refine wpOF_l (by rfl) (by rfl) (fun KQ hKQ => ?_)
    go_simp
    go_at_call 60
    refine (leftQ _ base r L p xs (H2.out.drewN 1) HF.out hl).mono ?_
    rintro e w3 ⟨rfl, k, hk⟩
    have hU : Upd (fun _ => False) w2 w3 := by rw [hk]; exact (Upd.refl _ _).drew.drewN k
    have H3 := Lib.hid (H2.out.still hU); have T3 := Lib.hid (TW0.out.still hU)
    clear hU hk fr2 fC2
    refine hKQ _ _ (.inr (H3.out.b.cell 1)) ?_
    clear hKQ KQ
    try simp only [Act.put, List.setIfInBounds_toArray, List.set_cons_zero, List.set_cons_succ]
    iterate 3
      first
      | refine wpOF_skip (by rfl) (by rfl) ?_
      | (refine' wpOF_q (by rfl) (by rfl) (by rfl) (fun w' hS' => ?_) ?_
         rotate_left
         · obtain s1 := hS'
           go_simp
           try rfl)
      try simp only [Act.put, List.setIfInBounds_toArray, List.set_cons_zero, List.set_cons_succ]
    have fz := H3.out.b.frozen 5
    have c5' : w3.cell? ⟨r, 5, none⟩ = some (.int .i64 p.free) := H3.out.b.cell 5
    refine wpOF_l (by rfl) (by rfl) (fun KQ hKQ => ?_)
    go_simp
    refine hKQ _ _ (.inl (by rfl)) ?_
    clear hKQ KQ
    try simp only [Act.put, List.setIfInBounds_toArray, List.set_cons_zero, List.set_cons_succ]
    refine wpOF_d ?_
    try rw [hwC]
    have HW : Hid (Qud (w3.setCell ⟨r, 5, none⟩ (.int .i64 (p.C - Rf.sumL xs))) base r L { p with free := f1 } xs) := Lib.hid (by rw [← HFF.out]; exact H3.out.setFree _)
    have TW : Hid (Tu base tsQ w (w3.setCell ⟨r, 5, none⟩ (.int .i64 (p.C - Rf.sumL xs)))) := Lib.hid (T3.out.set_ H3.out.hr H3.out.b (by decide) _)
    generalize w3.setCell ⟨r, 5, none⟩ (.int .i64 (p.C - Rf.sumL xs)) = W at *
    clear fz c5' TW0 U2 H2 H HGT HGF H3 T3
    have c4 : W.cell? ⟨r, 4, none⟩ = some (.int .i64 p.now) := HW.out.b.cell 4
    have fz := HW.out.b.frozen 4
    have HW1 := Lib.hid (HW.out.setNow now)
    have TW1 : Hid (Tu base tsQ w (W.setCell ⟨r, 4, none⟩ (.int .i64 now))) := Lib.hid (TW.out.set_ HW.out.hr HW.out.b (by decide) _)
    clear HW TW
    go_upto_region 3 with fail
    try rw [hwC]
    generalize W.setCell ⟨r, 4, none⟩ (.int .i64 now) = W at *
    clear c4 fz
    have FIN : Hid (∀ b, busy = b → ¬ (b = true ∧ p.still = false ∧ 0 < f1) → QSt W base r (Rf.goP p xs now busy).1 (Rf.goP p xs now busy).2) := Lib.hid (fun b hb hn => by
      unfold Rf.goP
      rw [HF1.out, hb, if_neg hn]
      exact ⟨L, HW1.out⟩)
    have HN9 : Hid (base ≤ W.heap.size) := Lib.hid (Nat.le_trans hbase TW1.out.size)
    have c5 : W.cell? ⟨r, 5, none⟩ = some (.int .i64 f1) := HW1.out.b.cell 5
    have c7 : W.cell? ⟨r, 7, none⟩ = some (.bool p.still) := HW1.out.b.cell 7
    cases busy
    · go_wp2_with fail
      go_returns
      exact ⟨rfl, FIN.out false rfl (fun h => by cases h.1), TW1.out⟩
    · obtain ⟨sb, hsb⟩ : ∃ sb, p.still = sb := ⟨_, rfl⟩
      rw [hsb] at c7
      have HSB := Lib.hid hsb; clear hsb
      cases sb
      · by_cases hpos : 0 < f1
        · have e0 : decide (0 < f1) = true := decide_eq_true hpos
          have HP := Lib.hid hpos
          obtain ⟨i0, hi0, hz0, hz1, hz2⟩ := info_parts infoQR
          obtain ⟨AL, cL, rfl⟩ := HW1.out.s.shape
          have HS : Hid (∀ wx, Upd (fun k => W.heap.size ≤ k) W wx → wx.cell? ⟨r, 5, none⟩ = some (.int .i64 f1) ∧ wx.cell? ⟨r, 6, none⟩ = some (.slice AL xs.length cL)) := Lib.hid (fun wx hu => ⟨(HW1.out.old hu).b.cell 5, (HW1.out.old hu).b.cell 6⟩)
          have HFz : Hid (∀ wx, Upd (fun k => W.heap.size ≤ k) W wx → wx.frozen? ⟨r, 6, none⟩ = false) := Lib.hid (fun wx hu => (HW1.out.old hu).b.frozen 6)
          have HL := Lib.hid HW1.out.s
          clear hpos
          go_upto_region 4 with fail
          refine wp_region_tree (.q 0 (.q 2 (.q 3 (.q 4 (.q 5 (.q 7 (.q 8 (.q 9 (.q 10 (.q 11 (.q 12 (.b 1 (.b 6 (.l 13 (.l 14 (.l 15 (.l 16 (.l 17 .d))))) 13 (.l 6 (.l 14 (.l 15 (.l 16 (.l 17 .d)))))) 13 (.l 1 (.l 6 (.l 14 (.l 15 (.l 16 (.l 17 .d)))))))))))))))))) (fun i => decide (17 ≤ i ∧ i < 18)) (fun w' => w'.cell? ⟨r, 5, none⟩ = some (.int .i64 f1) ∧ w'.cell? ⟨r, 6, none⟩ = some (.slice AL xs.length cL))
            (by kernel_rfl) (by kernel_rfl) (fun t ht => by have := of_decide_eq_true ht; exact this.2) (fun _ _ _ _ _ h => h) (by kernel_rfl) rfl (HS.out _ ((Upd.refl _ _).drew)) ?_
          iterate 11
            refine' wpOT_q (by rfl) (by rfl) (fun w' hS' => ?_) ?_
            rotate_left
            · obtain ⟨s0, s1⟩ := hS'
              go_simp
              try rfl
            try simp only [Act.put, List.setIfInBounds_toArray, List.set_cons_zero, List.set_cons_succ]
          have U0 : Hid (Upd (fun k => W.heap.size ≤ k) W W.drew) := Lib.hid ((Upd.refl _ W).drew)
          generalize W.drew = Wd at *
          refine wpOT_b ?_ ?_
          refine wpOT_loud (by rfl) (by rfl) (fun KQ hKQ => ?_)
          go_simp
          have UA := Lib.hid (U0.out.alloc (.cells #[] 116))
          have hA : W.heap.size ≤ Wd.heap.size := U0.out.size
          have EA : Hid (Blk (Wd.alloc (.cells #[] 116)) Wd.heap.size 116 #[]) := Lib.hid (Blk.new Wd _ _)
          refine hKQ _ _ (.inr (HS.out _ UA.out)) ?_
          clear hKQ KQ
          try simp only [Act.put, List.setIfInBounds_toArray, List.set_cons_zero, List.set_cons_succ]
          generalize Wd.alloc (.cells #[] 116) = wA at *
          generalize Wd.heap.size = bA at *
          refine wpOT_b ?_ ?_
          refine wpOT_loud (by rfl) (by rfl) (fun KQ hKQ => ?_)
          refine wp_append_copy (.tmp 47) (.tmp 51) 108 rfl W.heap.size _ 116 i0 _ 2 16 Try.underlying108 hi0 hz0 hz1 hz2 rfl (by decide) _ rfl EA.out hA (.slice AL xs.length cL) xs.length (rws encQ xs) rfl (Sl.upd HL.out UA.out (fun k hk e => by have := (Sl.blk HL.out k hk).2.1; omega)) (rws_one_cell encQ_one _) (by unfold maxLen; omega) (by omega) UA.out.size ?_
          intro v' wB hs1 hu1
          obtain ⟨AB, cB, rfl⟩ := Sl.shape hs1
          have SB := Lib.hid hs1
          have UB := Lib.hid (UA.out.trans (hu1.mono (fun k _ e => by rw [e]; exact hA)))
          clear hs1 hu1 EA
          refine hKQ _ _ (.inr (HS.out _ UB.out)) ?_
          clear hKQ KQ
          try simp only [Act.put, List.setIfInBounds_toArray, List.set_cons_zero, List.set_cons_succ]
          refine wpOT_l (by rfl) (by rfl) (fun KQ hKQ => ?_)
          go_simp
          have UC := Lib.hid (UB.out.alloc (.cells #[.int .i64 now, .int .i64 f1] 116))
          have hC : W.heap.size ≤ wB.heap.size := UB.out.size
          have SB := Lib.hid (SB.out.alloc (.cells #[.int .i64 now, .int .i64 f1] 116))
          have CC : Hid (Blk (wB.alloc (.cells #[.int .i64 now, .int .i64 f1] 116)) wB.heap.size 116 #[.int .i64 now, .int .i64 f1]) := Lib.hid (Blk.new wB _ _)
          refine hKQ _ _ (.inr (HS.out _ UC.out)) ?_
          clear hKQ KQ
          try simp only [Act.put, List.setIfInBounds_toArray, List.set_cons_zero, List.set_cons_succ]
          generalize wB.alloc (.cells #[.int .i64 now, .int .i64 f1] 116) = wC at *
          generalize wB.heap.size = bC at *
          refine wpOT_l (by rfl) (by rfl) (fun KQ hKQ => ?_)
          refine wp_append_sl (.tmp 52) (.tmp 59) 108 rfl W.heap.size 116 i0 _ 2 16 Try.underlying108 hi0 hz0 hz1 hz2 rfl (by decide) (.slice AB xs.length cB) xs.length (rws encQ xs) rfl SB.out ⟨bC, 0, none⟩ 1 [.int .i64 now, .int .i64 f1] rfl rfl (fun j u hu => by rw [Ck.add_at, CC.out.cell j]; simpa using hu) (by simp [Value.oneCell']) (by unfold maxLen; omega) (by omega) UC.out.size ?_
          intro v9 wZ hs1 hu1 hv1
          obtain ⟨bz, oz, cz, rfl, _, _, _, _⟩ := hs1.form (by omega)
          have SZ := Lib.hid hs1
          have UZ := Lib.hid (UC.out.trans (hu1.mono (fun k _ hk => (Sl.blk SB.out k hk).1)))
          clear hs1 hu1 hv1
          refine hKQ _ _ (.inr (HS.out _ UZ.out)) ?_
          clear hKQ KQ
          try simp only [Act.put, List.setIfInBounds_toArray, List.set_cons_zero, List.set_cons_succ]
          iterate 2
            refine wpOT_l (by rfl) (by rfl) (fun KQ hKQ => ?_)
            go_simp
            refine hKQ _ _ (.inr (HS.out _ UZ.out)) ?_
            clear hKQ KQ
            try simp only [Act.put, List.setIfInBounds_toArray, List.set_cons_zero, List.set_cons_succ]
          have hfz := HFz.out _ UZ.out
          have hSz := HS.out _ UZ.out
          obtain ⟨s0, s1⟩ := hSz
          refine wpOT_l (by rfl) (by rfl) (fun KQ hKQ => ?_)
          go_simp
          refine hKQ _ _ (.inl (by rfl)) ?_
          clear hKQ KQ
          try simp only [Act.put, List.setIfInBounds_toArray, List.set_cons_zero, List.set_cons_succ]
          refine wpOT_d ?_
          rotate_left
          refine wpOT_loud (by rfl) (by rfl) (fun KQ hKQ => ?_)
          go_simp
          have UC := Lib.hid (UA.out.alloc (.cells #[.int .i64 now, .int .i64 f1] 116))
          have hC : W.heap.size ≤ wA.heap.size := UA.out.size
          have hAC : wA.heap.size ≠ bA := by have := EA.out.lt; omega
          have EA := Lib.hid (EA.out.alloc (.cells #[.int .i64 now, .int .i64 f1] 116))
          have CC : Hid (Blk (wA.alloc (.cells #[.int .i64 now, .int .i64 f1] 116)) wA.heap.size 116 #[.int .i64 now, .int .i64 f1]) := Lib.hid (Blk.new wA _ _)
          refine hKQ _ _ (.inr (HS.out _ UC.out)) ?_
          clear hKQ KQ
          try simp only [Act.put, List.setIfInBounds_toArray, List.set_cons_zero, List.set_cons_succ]
          generalize wA.alloc (.cells #[.int .i64 now, .int .i64 f1] 116) = wC at *
          generalize wA.heap.size = bC at *
          refine wpOT_l (by rfl) (by rfl) (fun KQ hKQ => ?_)
          refine wp_append_copy (.tmp 47) (.tmp 51) 108 rfl W.heap.size _ 116 i0 _ 2 16 Try.underlying108 hi0 hz0 hz1 hz2 rfl (by decide) _ rfl EA.out hA (.slice AL xs.length cL) xs.length (rws encQ xs) rfl (Sl.upd HL.out UC.out (fun k hk e => by have := (Sl.blk HL.out k hk).2.1; omega)) (rws_one_cell encQ_one _) (by unfold maxLen; omega) (by omega) UC.out.size ?_
          intro v' wB hs1 hu1
          obtain ⟨AB, cB, rfl⟩ := Sl.shape hs1
          have SB := Lib.hid hs1
          have UB := Lib.hid (UC.out.trans (hu1.mono (fun k _ e => by rw [e]; exact hA)))
          have CC := Lib.hid (CC.out.upd hu1 (fun e => hAC e))
          clear hs1 hu1 EA
          refine hKQ _ _ (.inr (HS.out _ UB.out)) ?_
          clear hKQ KQ
          try simp only [Act.put, List.setIfInBounds_toArray, List.set_cons_zero, List.set_cons_succ]
          refine wpOT_l (by rfl) (by rfl) (fun KQ hKQ => ?_)
          refine wp_append_sl (.tmp 52) (.tmp 59) 108 rfl W.heap.size 116 i0 _ 2 16 Try.underlying108 hi0 hz0 hz1 hz2 rfl (by decide) (.slice AB xs.length cB) xs.length (rws encQ xs) rfl SB.out ⟨bC, 0, none⟩ 1 [.int .i64 now, .int .i64 f1] rfl rfl (fun j u hu => by rw [Ck.add_at, CC.out.cell j]; simpa using hu) (by simp [Value.oneCell']) (by unfold maxLen; omega) (by omega) UB.out.size ?_
          intro v9 wZ hs1 hu1 hv1
          obtain ⟨bz, oz, cz, rfl, _, _, _, _⟩ := hs1.form (by omega)
          have SZ := Lib.hid hs1
          have UZ := Lib.hid (UB.out.trans (hu1.mono (fun k _ hk => (Sl.blk SB.out k hk).1)))
          clear hs1 hu1 hv1
          refine hKQ _ _ (.inr (HS.out _ UZ.out)) ?_
          clear hKQ KQ
          try simp only [Act.put, List.setIfInBounds_toArray, List.set_cons_zero, List.set_cons_succ]
          iterate 2
            refine wpOT_l (by rfl) (by rfl) (fun KQ hKQ => ?_)
            go_simp
            refine hKQ _ _ (.inr (HS.out _ UZ.out)) ?_
            clear hKQ KQ
            try simp only [Act.put, List.setIfInBounds_toArray, List.set_cons_zero, List.set_cons_succ]
          have hfz := HFz.out _ UZ.out
          have hSz := HS.out _ UZ.out
          obtain ⟨s0, s1⟩ := hSz
          refine wpOT_l (by rfl) (by rfl) (fun KQ hKQ => ?_)
          go_simp
          refine hKQ _ _ (.inl (by rfl)) ?_
          clear hKQ KQ
          try simp only [Act.put, List.setIfInBounds_toArray, List.set_cons_zero, List.set_cons_succ]
          refine wpOT_d ?_
          rotate_left
          refine wpOT_loud (by rfl) (by rfl) (fun KQ hKQ => ?_)
          go_simp
          have UC := Lib.hid (U0.out.alloc (.cells #[.int .i64 now, .int .i64 f1] 116))
          have hC : W.heap.size ≤ Wd.heap.size := U0.out.size
          have CC : Hid (Blk (Wd.alloc (.cells #[.int .i64 now, .int .i64 f1] 116)) Wd.heap.size 116 #[.int .i64 now, .int .i64 f1]) := Lib.hid (Blk.new Wd _ _)
          refine hKQ _ _ (.inr (HS.out _ UC.out)) ?_
          clear hKQ KQ
          try simp only [Act.put, List.setIfInBounds_toArray, List.set_cons_zero, List.set_cons_succ]
          generalize Wd.alloc (.cells #[.int .i64 now, .int .i64 f1] 116) = wC at *
          generalize Wd.heap.size = bC at *
          refine wpOT_l (by rfl) (by rfl) (fun KQ hKQ => ?_)
          go_simp
          have UA := Lib.hid (UC.out.alloc (.cells #[] 116))
          have hA : W.heap.size ≤ wC.heap.size := UC.out.size
          have hAC : bC ≠ wC.heap.size := by have := CC.out.lt; omega
          have CC := Lib.hid (CC.out.alloc (.cells #[] 116))
          have EA : Hid (Blk (wC.alloc (.cells #[] 116)) wC.heap.size 116 #[]) := Lib.hid (Blk.new wC _ _)
          refine hKQ _ _ (.inr (HS.out _ UA.out)) ?_
          clear hKQ KQ
          try simp only [Act.put, List.setIfInBounds_toArray, List.set_cons_zero, List.set_cons_succ]
          generalize wC.alloc (.cells #[] 116) = wA at *
          generalize wC.heap.size = bA at *
          refine wpOT_l (by rfl) (by rfl) (fun KQ hKQ => ?_)
          refine wp_append_copy (.tmp 47) (.tmp 51) 108 rfl W.heap.size _ 116 i0 _ 2 16 Try.underlying108 hi0 hz0 hz1 hz2 rfl (by decide) _ rfl EA.out hA (.slice AL xs.length cL) xs.length (rws encQ xs) rfl (Sl.upd HL.out UA.out (fun k hk e => by have := (Sl.blk HL.out k hk).2.1; omega)) (rws_one_cell encQ_one _) (by unfold maxLen; omega) (by omega) UA.out.size ?_
          intro v' wB hs1 hu1
          obtain ⟨AB, cB, rfl⟩ := Sl.shape hs1
          have SB := Lib.hid hs1
          have UB := Lib.hid (UA.out.trans (hu1.mono (fun k _ e => by rw [e]; exact hA)))
          have CC := Lib.hid (CC.out.upd hu1 (fun e => hAC e))
          clear hs1 hu1 EA
          refine hKQ _ _ (.inr (HS.out _ UB.out)) ?_
          clear hKQ KQ
          try simp only [Act.put, List.setIfInBounds_toArray, List.set_cons_zero, List.set_cons_succ]
          refine wpOT_l (by rfl) (by rfl) (fun KQ hKQ => ?_)
          refine wp_append_sl (.tmp 52) (.tmp 59) 108 rfl W.heap.size 116 i0 _ 2 16 Try.underlying108 hi0 hz0 hz1 hz2 rfl (by decide) (.slice AB xs.length cB) xs.length (rws encQ xs) rfl SB.out ⟨bC, 0, none⟩ 1 [.int .i64 now, .int .i64 f1] rfl rfl (fun j u hu => by rw [Ck.add_at, CC.out.cell j]; simpa using hu) (by simp [Value.oneCell']) (by unfold maxLen; omega) (by omega) UB.out.size ?_
          intro v9 wZ hs1 hu1 hv1
          obtain ⟨bz, oz, cz, rfl, _, _, _, _⟩ := hs1.form (by omega)
          have SZ := Lib.hid hs1
          have UZ := Lib.hid (UB.out.trans (hu1.mono (fun k _ hk => (Sl.blk SB.out k hk).1)))
          clear hs1 hu1 hv1
          refine hKQ _ _ (.inr (HS.out _ UZ.out)) ?_
          clear hKQ KQ
          try simp only [Act.put, List.setIfInBounds_toArray, List.set_cons_zero, List.set_cons_succ]
          iterate 2
            refine wpOT_l (by rfl) (by rfl) (fun KQ hKQ => ?_)
            go_simp
            refine hKQ _ _ (.inr (HS.out _ UZ.out)) ?_
            clear hKQ KQ
            try simp only [Act.put, List.setIfInBounds_toArray, List.set_cons_zero, List.set_cons_succ]
          have hfz := HFz.out _ UZ.out
          have hSz := HS.out _ UZ.out
          obtain ⟨s0, s1⟩ := hSz
          refine wpOT_l (by rfl) (by rfl) (fun KQ hKQ => ?_)
          go_simp
          refine hKQ _ _ (.inl (by rfl)) ?_
          clear hKQ KQ
          try simp only [Act.put, List.setIfInBounds_toArray, List.set_cons_zero, List.set_cons_succ]
          refine wpOT_d ?_
          rotate_left
          all_goals
            have hB9 := (HW1.out.old UZ.out).b
            have hL9 : SlR encQ wZ base 116 2 (.slice (some ⟨bz, oz, none⟩) (xs.length + 1) cz) (xs ++ [(now, f1)]) := by
              unfold SlR
              rw [List.length_append, rws_append]
              exact Sl.mono SZ.out HN9.out
            have hN9 := Qud.setL hB9 hL9 HW1.out.hr
            have c5' : (wZ.setCell ⟨r, 6, none⟩ (.slice (some ⟨bz, oz, none⟩) (xs.length + 1) cz)).cell? ⟨r, 5, none⟩ = some (.int .i64 f1) := hN9.b.cell 5
            have f5' := hN9.b.frozen 5
            have N9 := Lib.hid hN9
            have B9 := Lib.hid hB9
            clear hN9 hB9 hL9
            go_wp2_with fail
            go_returns
            have hgo : Rf.goP p xs now true = ({ p with now := now, free := 0 }, xs ++ [(now, f1)]) := by
              unfold Rf.goP
              rw [HF1.out, if_pos ⟨rfl, HSB.out, HP.out⟩]
            rw [hgo]
            refine ⟨rfl, ⟨_, N9.out.setFree 0⟩, ?_⟩
            exact ((TW1.out.trans (Tu.of UZ.out (fun k hk e => by omega))).set_ HW1.out.hr B9.out (by decide) _).set_ HW1.out.hr N9.out.b (by decide) _
        · have e0 : decide (0 < f1) = false := decide_eq_false hpos
          have HP := Lib.hid hpos; clear hpos
          go_wp2_with fail
          go_returns
          exact ⟨rfl, FIN.out true rfl (fun h => by have := HP.out; have := h.2.2; omega), TW1.out⟩
      · go_wp2_with fail
        go_returns
        exact ⟨rfl, FIN.out true rfl (fun h => by rw [HSB.out] at h; cases h.2.1), TW1.out⟩

theorem setQ1 {w : World} {base b off cap : Nat} {ty : TypeId} {x y : Int × Int} {t : List (Int × Int)} (h : SlR encQ w base ty 2 (.slice (some ⟨b, off, none⟩) (t.length + 1) cap) (x :: t)) (j : Nat) (hj : j < 2) (u : Value) (hy : encQ y = (encQ x).set j u) :
    SlR encQ (w.setCell ⟨b, off + j, none⟩ u) base ty 2 (.slice (some ⟨b, off, none⟩) (t.length + 1) cap) (y :: t) := by
  have h1 := Sl.set_ h j (by show j < (t.length + 1) * 2; omega) u
  have e1 := rws_set encQ_len (x :: t) 0 x y j u rfl hj hy
  unfold SlR
  rw [Nat.zero_mul, Nat.zero_add] at e1
  rw [e1] at h1
  exact h1

set_option maxRecDepth 100000 in
set_option maxHeartbeats 6400000 in
theorem useQ (w : World) (base r : Nat) (p : Rf.Bp) (xs : List (Int × Int)) (h : QSt w base r p xs) (hbase : base ≤ w.heap.size) (hf : FineR p xs) :
    Calls Try.prog 38 #[.pointer (some ⟨r, 0, none⟩)] w fun e w' => e = .returned (.bool (decide (0 < xs.length))) ∧ QSt w' base r p (Rf.takeL xs) ∧ Tu base tsQ w w' := by
  obtain ⟨L, h⟩ := h
  obtain ⟨AL, cL, rfl⟩ := h.s.shape
  have HR := Lib.hid h
  have hl := hf.len
  have c6 : w.cell? ⟨r, 6, none⟩ = some (.slice AL xs.length cL) := h.b.cell 6
  clear h
  cases xs with
  | nil =>
    clear hf
    go_enter Try.func38, Try.ntmps38
    go_wp2_with fail
    go_returns
    exact ⟨rfl, ⟨_, HR.out⟩, Tu.refl _ _ _⟩
  | cons x t =>
    have hx := hf.fine x (List.mem_cons_self ..)
    clear hf
    have htl : t.length ≤ 1000 := by simp at hl; omega
    clear hl
    obtain ⟨x0, x1⟩ := x
    dsimp only at *
    have hx1 := hx.1; have hx2 := hx.2
    clear hx
    rw [List.length_cons] at c6
    have e0 : (((t.length + 1 : Nat) : Int) == 0) = false := beq_eq_false_iff_ne.2 (by omega)
    have el : decide (0 < ((x0, x1) :: t).length) = true := by simp
    rw [el]
    obtain ⟨i0, hi0, hz0, hz1, hz2⟩ := info_parts infoQR
    have HS0 : Hid (SlR encQ w base 116 2 (.slice AL (t.length + 1) cL) ((x0, x1) :: t)) := Lib.hid HR.out.s
    have cA : ∀ o, (w.alloc o).cell? ⟨r, 6, none⟩ = some (.slice AL (t.length + 1) cL) := fun o => (HR.out.alloc o).b.cell 6
    have HT0 : Hid (∀ wx, Upd (fun k => w.heap.size ≤ k) w wx → Tu base tsQ w wx) := Lib.hid (fun wx hu => Tu.of hu (fun k hk e => by omega))
    have e1 : ((x1 - 1) == 0) = decide (x1 = 1) := by
      by_cases e : x1 = 1
      · subst e; rfl
      · rw [decide_eq_false e]; exact beq_eq_false_iff_ne.2 (by omega)
    obtain ⟨q1, hq1⟩ : ∃ q1, decide (x1 = 1) = q1 := ⟨_, rfl⟩
    rw [hq1] at e1
    have HQ1 := Lib.hid hq1
    have wx1 : IntKind.i64.wrap (x1 - 1) = x1 - 1 := Ck.wrap_in _ (by omega) (by omega)
    clear hq1
    go_enter Try.func38, Try.ntmps38
    go_upto_region 5 with (
      at_builtin
      refine wpList_append_copy rfl (.tmp 10) (.tmp 14) 108 rfl w.heap.size _ 116 i0 _ 2 16 Try.underlying108 hi0 hz0 hz1 hz2 rfl (by decide) w.heap.size rfl (Blk.new w _ _) (Nat.le_refl _) (.slice AL (t.length + 1) cL) (t.length + 1) (rws encQ ((x0, x1) :: t)) rfl (Sl.alloc HS0.out _) (rws_one_cell encQ_one _) (by unfold maxLen; omega) (by omega) (by simp) ?_
      intro v' wB hs1 hu1
      obtain ⟨bv, ov, cv, rfl, _, hbv, hncv, hcmv⟩ := hs1.form (by omega)
      have UB := Lib.hid (((Upd.refl (fun k => w.heap.size ≤ k) w).alloc (.cells #[] 116)).trans (hu1.mono (fun k _ e => by rw [e]; exact Nat.le_refl _)))
      have SB : Hid (SlR encQ wB w.heap.size 116 2 (.slice (some ⟨bv, ov, none⟩) (t.length + 1) cv) ((x0, x1) :: t)) := Lib.hid hs1
      have d1 : wB.cell? ⟨bv, ov + 1, none⟩ = some (.int .i64 x1) := SB.out.cell encQ_len 0 _ rfl 1 _ rfl
      have g1 := SB.out.frozen (ov + 1)
      have S1 := setQ1 (y := (x0, x1 - 1)) SB.out 1 (by omega) (.int .i64 (x1 - 1)) rfl
      have hu2 := (Upd.refl (fun k => w.heap.size ≤ k) wB).setCell (p := ⟨bv, ov + 1, none⟩) (fun _ => (Sl.blk hs1 bv rfl).1) (.int .i64 (x1 - 1))
      have UC := Lib.hid (UB.out.trans hu2)
      have SC := Lib.hid S1
      have RC := Lib.hid (HR.out.old UC.out)
      clear hs1 hu1 S1 hu2)
    generalize wB.setCell ⟨bv, ov + 1, none⟩ (.int .i64 (x1 - 1)) = wC at *
    have d1 : wC.cell? ⟨bv, ov + 1, none⟩ = some (.int .i64 (x1 - 1)) := SC.out.cell encQ_len 0 _ rfl 1 _ rfl
    have g6 := RC.out.b.frozen 6
    have c6 : wC.cell? ⟨r, 6, none⟩ = some (.slice AL (t.length + 1) cL) := RC.out.b.cell 6
    cases q1
    · have hne : ¬ x1 = 1 := of_decide_eq_false HQ1.out
      have ht : Rf.takeL ((x0, x1) :: t) = (x0, x1 - 1) :: t := by rw [Rf.takeL_cons, if_neg hne]
      have RN := Lib.hid (Qud.setL RC.out.b (SC.out.mono hbase) RC.out.hr)
      have TN : Hid (Tu base tsQ w (wC.setCell ⟨r, 6, none⟩ (.slice (some ⟨bv, ov, none⟩) (t.length + 1) cv))) := Lib.hid ((HT0.out _ UC.out).set_ RC.out.hr RC.out.b (by decide) _)
      have HTT := Lib.hid ht
      clear SB UB hne ht
      go_wp2_with fail
      go_returns
      rw [HTT.out]
      exact ⟨rfl, ⟨_, RN.out⟩, TN.out⟩
    · have hne : x1 = 1 := of_decide_eq_true HQ1.out
      have ht : Rf.takeL ((x0, x1) :: t) = t := by rw [Rf.takeL_cons, if_pos hne]
      obtain ⟨v, hv, hvs, hvb⟩ := Sl.tailv (P := Try.prog) (ts := 108) Try.underlying108 sizeQR (show Sl wC w.heap.size 116 2 (.slice (some ⟨bv, ov, none⟩) (t.length + 1) cv) (t.length + 1) (rws encQ ((x0, x1 - 1) :: t)) from SC.out) (rws_drop1 encQ_len _ _)
      obtain ⟨Av, cav, rfl⟩ := Sl.shape hvs
      have RN := Lib.hid (Qud.setL RC.out.b ((show SlR encQ wC w.heap.size 116 2 (.slice Av t.length cav) t from hvs).mono hbase) RC.out.hr)
      have TN : Hid (Tu base tsQ w (wC.setCell ⟨r, 6, none⟩ (.slice Av t.length cav))) := Lib.hid ((HT0.out _ UC.out).set_ RC.out.hr RC.out.b (by decide) _)
      have HTT := Lib.hid ht
      clear SB UB hne ht hvs hvb
      go_wp2_with fail
      go_returns
      rw [HTT.out]
      exact ⟨rfl, ⟨_, RN.out⟩, TN.out⟩
end Go.Proofs.Ytcgefncddbbnlaa

namespace Go.Proofs.Ytcgefncddbbnlaa
open Go.RowKit
attribute [local go_sem] max_ints min_ints

set_option maxRecDepth 100000 in
set_option maxHeartbeats 3200000 in
theorem fineD (w : World) (ticks : Int) (A : Option Addr) (cap : Nat) (l : List (Int × Int)) (hc : QRow w A l) (hl : l.length ≤ 1000) :
    Calls Try.prog 28 #[.int .i64 ticks, .slice A l.length cap] w fun e w' => e = .returned (.bool (fineX ticks l)) ∧ w' = w := by
  have HC := Lib.hid hc
  clear hc
  unfold fineX
  by_cases h1 : ticks < 0
  · have d1 : decide (ticks < 0) = true := decide_eq_true h1
    have e1 : decide (0 ≤ ticks ∧ ticks ≤ 3000 ∧ l.length ≤ 500) = false := decide_eq_false (by omega)
    rw [e1, Bool.false_and]
    clear h1
    go_enter Try.func28, Try.ntmps28
    go_wp2_with fail
    go_returns
    exact ⟨rfl, rfl⟩
  · have d1 : decide (ticks < 0) = false := decide_eq_false h1
    by_cases h2 : 3000 < ticks
    · have d2 : decide (3000 < ticks) = true := decide_eq_true h2
      have e1 : decide (0 ≤ ticks ∧ ticks ≤ 3000 ∧ l.length ≤ 500) = false := decide_eq_false (by omega)
      rw [e1, Bool.false_and]
      clear h1 h2
      go_enter Try.func28, Try.ntmps28
      go_wp2_with fail
      go_returns
      exact ⟨rfl, rfl⟩
    · have d2 : decide (3000 < ticks) = false := decide_eq_false h2
      by_cases h3 : 500 < l.length
      · have d3 : decide (500 < (l.length : Int)) = true := decide_eq_true (by omega)
        have e1 : decide (0 ≤ ticks ∧ ticks ≤ 3000 ∧ l.length ≤ 500) = false := decide_eq_false (by omega)
        rw [e1, Bool.false_and]
        clear h1 h2
        go_enter Try.func28, Try.ntmps28
        go_wp2_with fail
        go_returns
        exact ⟨rfl, rfl⟩
      · have d3 : decide (500 < (l.length : Int)) = false := decide_eq_false (by omega)
        have e1 : decide (0 ≤ ticks ∧ ticks ≤ 3000 ∧ l.length ≤ 500) = true := decide_eq_true (by omega)
        rw [e1, Bool.true_and]
        clear h1 h2
        go_enter Try.func28, Try.ntmps28
        go_wp2_with fail
        go_loopw [5, 6] (fun v5 v6 wr => wr = w ∧ ∃ (i : Nat) (last : Int), i ≤ l.length ∧ v5 = .int .i64 last ∧ v6 = .int .i64 i ∧ fineA 0 l = fineA last (l.drop i)) (fun _ v6 _ => l.length - (intOf v6).toNat)
        case atStart => exact ⟨rfl, 0, 0, Nat.zero_le _, rfl, rfl, rfl⟩
        case round =>
          obtain ⟨rfl, i, last, hi, rfl, rfl, hask⟩ := hrel
          have HASK := Lib.hid hask
          clear hask
          by_cases hlt : i < l.length
          · obtain ⟨a, ha⟩ : ∃ a, l[i]? = some a := ⟨_, List.getElem?_eq_getElem hlt⟩
            obtain ⟨b, o, rfl, hb, c0, c1⟩ := HC.out i a ha
            have hd : l.drop i = a :: l.drop (i + 1) := by
              rw [List.drop_eq_getElem_cons hlt]
              have := (List.getElem?_eq_some_iff.1 ha).2
              rw [this]
            have HD : Hid (fineA 0 l = (!oddA last a && fineA a.1 (l.drop (i + 1)))) := Lib.hid (by rw [HASK.out, hd]; rfl)
            have dlt : decide ((i : Int) < (l.length : Int)) = true := decide_eq_true (by omega)
            have di : decide ((i : Int) < 0) = false := decide_eq_false (by omega)
            obtain ⟨x, y⟩ := a
            dsimp only at *
            clear ha hd hb
            by_cases g1 : y < 1
            · have q1 : decide (y < 1) = true := decide_eq_true g1
              have HN : Hid (fineA 0 l = false) := Lib.hid (by rw [HD.out]; unfold oddA; rw [q1]; rfl)
              go_wp2_with fail
              go_returns
              exact ⟨by rw [HN.out]; rfl, rfl⟩
            · have q1 : decide (y < 1) = false := decide_eq_false g1
              by_cases g2 : 1048576 < y
              · have q2 : decide (1048576 < y) = true := decide_eq_true g2
                have HN : Hid (fineA 0 l = false) := Lib.hid (by rw [HD.out]; unfold oddA; rw [q1, q2]; rfl)
                go_wp2_with fail
                go_returns
                exact ⟨by rw [HN.out]; rfl, rfl⟩
              · have q2 : decide (1048576 < y) = false := decide_eq_false g2
                by_cases g3 : x < last
                · have q3 : decide (x < last) = true := decide_eq_true g3
                  have HN : Hid (fineA 0 l = false) := Lib.hid (by rw [HD.out]; unfold oddA; rw [q1, q2, q3]; rfl)
                  go_wp2_with fail
                  go_returns
                  exact ⟨by rw [HN.out]; rfl, rfl⟩
                · have q3 : decide (x < last) = false := decide_eq_false g3
                  have HN : Hid (fineA 0 l = fineA x (l.drop (i + 1))) := Lib.hid (by rw [HD.out]; unfold oddA; rw [q1, q2, q3]; rfl)
                  clear g1 g2 g3
                  go_wp2_with fail
                  go_roundw
                  case rel => exact ⟨by first | rfl | trivial, i + 1, x, by omega, rfl, by go_num, HN.out⟩
                  case measure => simp [intOf]; omega
          · have hie : i = l.length := by omega
            subst hie
            go_wp2_with fail
            go_returns
            exact ⟨by rw [HASK.out, List.drop_length]; rfl, rfl⟩

def lfs (wt : List Nat) (lf : List Int) : List Int := wt.map (fun k => (lf[k]?).getD 0)
theorem lfs_len (wt : List Nat) (lf : List Int) : (lfs wt lf).length = wt.length := by simp [lfs]
theorem lfs_push (wt : List Nat) (lf : List Int) (n : Nat) (x : Int) (h : lf[n]? = some x) : lfs (wt ++ [n]) lf = lfs wt lf ++ [x] := by simp [lfs, h]
theorem lfs_cons (k : Nat) (t : List Nat) (lf : List Int) (x : Int) (h : lf[k]? = some x) : lfs (k :: t) lf = x :: lfs t lf := by simp [lfs, h]
theorem lfs_set (k : Nat) (t : List Nat) (lf : List Int) (u : Int) (h : k ∉ t) : lfs t (lf.set k u) = lfs t lf := by
  unfold lfs
  refine List.map_congr_left (fun j hj => ?_)
  rw [List.getElem?_set_ne (fun e => h (by rw [e]; exact hj))]

/-- What the document's server holds. -/
structure InW (w : World) (base ga gb : Nat) (wv lv ov : Value) (wt : List Nat) (lf : List Int) (out : List An) (sa : Ck.St17) (pb : Rf.Bp) (xb : List (Int × Int)) : Prop where
  a : Ck.RSt w base ga sa
  b : QSt w base gb pb xb
  q : SlR encI w base 3 1 wv (idx wt)
  l : SlR encI w base 3 1 lv lf
  o : SlR encA w base 66 4 ov out
  dl : ∀ k, slBlk wv = some k → slBlk lv ≠ some k
section
variable {w w' : World} {base ga gb : Nat} {wv lv ov v' : Value} {wt : List Nat} {lf : List Int} {out : List An} {sa sa' : Ck.St17} {pb pb' : Rf.Bp} {xb xb' : List (Int × Int)}
theorem InW.still (h : InW w base ga gb wv lv ov wt lf out sa pb xb) (hu : Upd (fun _ => False) w w') : InW w' base ga gb wv lv ov wt lf out sa pb xb :=
  ⟨h.a.still hu, h.b.still hu, h.q.upd hu (fun _ _ h => h), h.l.upd hu (fun _ _ h => h), h.o.upd hu (fun _ _ h => h), h.dl⟩
theorem InW.turnA (h : InW w base ga gb wv lv ov wt lf out sa pb xb) (ha : Ck.RSt w' base ga sa') (ht : Tu base Ck.tsR w w') : InW w' base ga gb wv lv ov wt lf out sa' pb xb :=
  ⟨ha, h.b.tu ht (by decide) (by decide), Sl.tu h.q ht (by decide), Sl.tu h.l ht (by decide), Sl.tu h.o ht (by decide), h.dl⟩
theorem InW.turnB (h : InW w base ga gb wv lv ov wt lf out sa pb xb) (hb : QSt w' base gb pb' xb') (ht : Tu base tsQ w w') : InW w' base ga gb wv lv ov wt lf out sa pb' xb' :=
  ⟨h.a.tu ht (by decide) (by decide) (by decide), hb, Sl.tu h.q ht (by decide), Sl.tu h.l ht (by decide), Sl.tu h.o ht (by decide), h.dl⟩
/-- The row of what waits has turned, in its own block, or lies in a new one. -/
theorem InW.turnW (h : InW w base ga gb wv lv ov wt lf out sa pb xb) {wt' : List Nat} (hs : SlR encI w' base 3 1 v' (idx wt')) (hu : Upd (fun k => slBlk wv = some k) w w') (hv : ∀ k, slBlk v' = some k → slBlk wv = some k ∨ w.heap.size ≤ k) :
    InW w' base ga gb v' lv ov wt' lf out sa pb xb := by
  have ht : Tu base [3] w w' := Tu.of hu (fun k _ e => by
    obtain ⟨h1, _, cur, hc⟩ := Sl.blk h.q k e
    exact ⟨h1, _, _, hc, by decide⟩)
  refine ⟨h.a.tu ht (by decide) (by decide) (by decide), h.b.tu ht (by decide) (by decide), hs, h.l.upd hu (fun k hk e => h.dl k e hk), Sl.tu h.o ht (by decide), fun k hk e => ?_⟩
  rcases hv k hk with h1 | h1
  · exact h.dl k h1 e
  · have := (Sl.blk h.l k e).2.1
    omega
theorem InW.turnL (h : InW w base ga gb wv lv ov wt lf out sa pb xb) {lf' : List Int} (hs : SlR encI w' base 3 1 v' lf') (hu : Upd (fun k => slBlk lv = some k) w w') (hv : ∀ k, slBlk v' = some k → slBlk lv = some k ∨ w.heap.size ≤ k) :
    InW w' base ga gb wv v' ov wt lf' out sa pb xb := by
  have ht : Tu base [3] w w' := Tu.of hu (fun k _ e => by
    obtain ⟨h1, _, cur, hc⟩ := Sl.blk h.l k e
    exact ⟨h1, _, _, hc, by decide⟩)
  refine ⟨h.a.tu ht (by decide) (by decide) (by decide), h.b.tu ht (by decide) (by decide), h.q.upd hu (fun k hk e => h.dl k hk e), hs, Sl.tu h.o ht (by decide), fun k hk e => ?_⟩
  rcases hv k e with h1 | h1
  · exact h.dl k hk h1
  · have := (Sl.blk h.q k hk).2.1
    omega
theorem InW.outSet {ob oo n c : Nat} (h : InW w base ga gb wv lv (.slice (some ⟨ob, oo, none⟩) n c) wt lf out sa pb xb) (k : Nat) (a : An) (hk : out[k]? = some a) (i : Nat) (hi : i < 4) (u : Int) (a' : An) (ha : encA a' = (encA a).set i (.int .i64 u)) :
    InW (w.setCell ⟨ob, oo + k * 4 + i, none⟩ (.int .i64 u)) base ga gb wv lv (.slice (some ⟨ob, oo, none⟩) n c) wt lf (out.set k a') sa pb xb ∧ Upd (fun q => base ≤ q) w (w.setCell ⟨ob, oo + k * 4 + i, none⟩ (.int .i64 u)) := by
  have hU : Upd (fun q => q = ob) w (w.setCell ⟨ob, oo + k * 4 + i, none⟩ (.int .i64 u)) := (Upd.refl (fun q => q = ob) w).setCell (p := ⟨ob, oo + k * 4 + i, none⟩) (fun _ => rfl) _
  obtain ⟨hb0, _, cur, hc⟩ := Sl.blk h.o ob rfl
  have ht : Tu base [66] w (w.setCell ⟨ob, oo + k * 4 + i, none⟩ (.int .i64 u)) := Tu.of hU (fun q _ e => by rw [e]; exact ⟨hb0, _, _, hc, by decide⟩)
  refine ⟨⟨h.a.tu ht (by decide) (by decide) (by decide), h.b.tu ht (by decide) (by decide), Sl.tu h.q ht (by decide), Sl.tu h.l ht (by decide), ?_, h.dl⟩, hU.mono (fun q _ e => by rw [e]; exact hb0)⟩
  have ho := h.o
  obtain ⟨A, cp, he⟩ := ho.shape
  injection he with _ e _
  subst e
  have hlt := (List.getElem?_eq_some_iff.1 hk).1
  unfold SlR at ho ⊢
  rw [List.length_set, ← rws_set encA_len out k a a' i (.int .i64 u) hk hi ha, show oo + k * 4 + i = oo + (k * 4 + i) by omega]
  exact Sl.set_ ho (k * 4 + i) (by omega) _
theorem InW.leftSet {lb lo n c : Nat} {x : Int} {lt : List Int} (h : InW w base ga gb wv (.slice (some ⟨lb, lo, none⟩) n c) ov wt (x :: lt) out sa pb xb) (u : Int) :
    InW (w.setCell ⟨lb, lo, none⟩ (.int .i64 u)) base ga gb wv (.slice (some ⟨lb, lo, none⟩) n c) ov wt (u :: lt) out sa pb xb ∧ Upd (fun q => base ≤ q) w (w.setCell ⟨lb, lo, none⟩ (.int .i64 u)) := by
  have hU : Upd (fun q => q = lb) w (w.setCell ⟨lb, lo, none⟩ (.int .i64 u)) := (Upd.refl (fun q => q = lb) w).setCell (p := ⟨lb, lo, none⟩) (fun _ => rfl) _
  obtain ⟨hb0, _, cur, hc⟩ := Sl.blk h.l lb rfl
  refine ⟨h.turnL (lf' := u :: lt) ?_ (hU.mono (fun q _ e => by rw [e]; rfl)) (fun k hk => .inl hk), hU.mono (fun q _ e => by rw [e]; exact hb0)⟩
  have hl := h.l
  obtain ⟨A, cp, he⟩ := hl.shape
  injection he with _ e _
  subst e
  unfold SlR at hl ⊢
  have h3 := Sl.set_ hl 0 (by simp) (.int .i64 u)
  exact h3
end
end Go.Proofs.Ytcgefncddbbnlaa

namespace Go.Proofs.Ytcgefncddbbnlaa
open Go.RowKit
attribute [local go_sem] max_ints min_ints

/-- A table, or none: whose ticks are its own; does nothing offer? -/
def TArg (w : World) (tv : Value) (p : Int) (own : Int → Bool) (bad : Bool) : Prop := (tv = .pointer none ∧ bad = false ∧ ∀ n, own n = true) ∨ ∃ (g F : Nat) (M : Int) (ws : List Fr.W3), tv = .pointer (some ⟨g, 0, none⟩) ∧ Fr.RTb w g F M ws ∧ bad = decide (Fr.cntO M ws p F = 0) ∧ ∀ n : Int, own n = Fr.isO M ws p (n % F)
theorem TArg.still {w w' : World} {tv : Value} {p : Int} {own : Int → Bool} {bad : Bool} (h : TArg w tv p own bad) (hu : Upd (fun _ => False) w w') : TArg w' tv p own bad := by
  rcases h with h | ⟨g, F, M, ws, h1, h2, h3⟩
  · exact .inl h
  · exact .inr ⟨g, F, M, ws, h1, h2.still hu, h3⟩
def Sel (rf : Bool) (sa : Ck.St17) (pb : Rf.Bp) (xb : List (Int × Int)) : Bs := if rf = true then .re pb xb else .ch sa
theorem Sel.go (rf : Bool) (sa : Ck.St17) (pb : Rf.Bp) (xb : List (Int × Int)) (n : Int) (u : Bool) : Sel rf (sa.go n u) (Rf.goP pb xb n u).1 (Rf.goP pb xb n u).2 = (Sel rf sa pb xb).go n u := by cases rf <;> rfl
theorem Sel.use (rf : Bool) (sa : Ck.St17) (pb : Rf.Bp) (xb : List (Int × Int)) : Sel rf sa.use pb (Rf.takeL xb) = (Sel rf sa pb xb).use := by cases rf <;> rfl
theorem Sel.done (rf : Bool) (sa : Ck.St17) (pb : Rf.Bp) (xb : List (Int × Int)) : Sel rf sa.done { pb with free := pb.free + Rf.sumL xb } [] = (Sel rf sa pb xb).done := by cases rf <;> rfl
theorem Sel.live (rf : Bool) (sa : Ck.St17) (pb : Rf.Bp) (xb : List (Int × Int)) : (Sel rf sa pb xb).live = if rf = true then decide (0 < xb.length) else decide (0 < sa.xs.length) := by cases rf <;> rfl
theorem infoRA : (Try.prog.info? 66).map (fun i => (i.zero, i.size, i.bytes)) = some (some (.agg #[.int .i64 0, .int .i64 0, .int .i64 0, .int .i64 0]), 4, 32) := by kernel_rfl
theorem sizeIntR : ∀ w, (sizeOf (Try.prog.elem 38)).run Try.prog w = .ok 1 w := fun w => by kernel_rfl
theorem dueA (w : World) (base r : Nat) (s : Ck.St17) (h : Ck.RSt w base r s) (hf : Ck.FineC s) :
    Calls Try.prog 34 #[.pointer (some ⟨r, 0, none⟩)] w fun e w' => ∃ n, e = .returned (.tuple #[.int .i64 n, .bool (decide (0 < s.xs.length))]) ∧ ∃ k, w' = w.drewN k := by
  cases hx : s.xs with
  | nil => exact (Ck.dueR0 w base r s h hx).mono (fun e w' ⟨h1, h2⟩ => ⟨0, by rw [h1]; rfl, h2⟩)
  | cons x t => exact (Ck.dueR1 w base r s h hf x t hx).mono (fun e w' ⟨h1, h2⟩ => ⟨x.1 + s.p.T, by rw [h1]; simp, h2⟩)

theorem upd_ge {w w1 w2 : World} (h : Upd (fun _ => False) w w1) (hu : Upd (fun q => w.heap.size ≤ q) w1 w2) : Upd (fun _ => False) w w2 :=
  ((h.mono (S' := fun q => w.heap.size ≤ q) (fun _ _ h => h.elim)).trans hu).mono (S' := fun _ => False) (fun q hq h => by omega)
theorem upd_tu {w w1 w2 : World} {ts : List TypeId} (h : Upd (fun _ => False) w w1) (ht : Tu w.heap.size ts w1 w2) : Upd (fun _ => False) w w2 :=
  upd_ge h (Upd.mono ht (fun q _ h => h.1))
theorem tick_skip {own : Int → Bool} {s : Rn} {now : Int} (h : own now = false ∨ (Rn.come now s.out.length s).wait = [] ∨ ((Rn.come now s.out.length s).go now).bs.live = false) : s.tick own now = (Rn.come now s.out.length s).go now := by
  unfold Rn.tick
  dsimp only
  split
  next ho =>
    rcases h with h | h | h
    · rw [ho] at h; cases h
    · unfold Rn.use
      have h : ((Rn.come now s.out.length s).go now).wait = [] := h
      rw [h]
    · unfold Rn.use
      split
      · rfl
      · rw [h]; rfl
  next => rfl
theorem tick_use {own : Int → Bool} {s : Rn} {now : Int} (h1 : own now = true) : s.tick own now = ((Rn.come now s.out.length s).go now).use now := by
  unfold Rn.tick
  dsimp only
  rw [if_pos h1]
theorem use_more {s : Rn} {now : Int} {k : Nat} {t : List Nat} {a : An} {x : Int} (hw : s.wait = k :: t) (hl : s.bs.live = true) (ha : s.out[k]? = some a) (hx : s.left[k]? = some x) (h1 : 1 < x) :
    s.use now = { s with bs := s.bs.use, left := s.left.set k (x - 1), out := s.out.set k (a.begin now) } := by
  unfold Rn.use
  rw [hw]
  dsimp only
  rw [if_pos hl, ha, hx]
  dsimp only
  rw [if_pos (by omega)]
theorem use_last {s : Rn} {now : Int} {k : Nat} {t : List Nat} {a : An} (hw : s.wait = k :: t) (hl : s.bs.live = true) (ha : s.out[k]? = some a) (hx : s.left[k]? = some 1) :
    s.use now = { s with bs := if t = [] then s.bs.use.done else s.bs.use, wait := t, left := s.left.set k 0, out := s.out.set k { a.begin now with d := now + 1 } } := by
  unfold Rn.use
  rw [hw]
  dsimp only
  rw [if_pos hl, ha, hx]
  rfl

set_option maxRecDepth 100000 in
set_option maxHeartbeats 12800000 in
theorem docInC (w : World) (rf : Bool) (C T : Int) (tv : Value) (p ticks : Int) (A : Option Addr) (cap : Nat) (l : List (Int × Int)) (hc : QRow w A l) (own : Int → Bool) (bad : Bool) (hT : TArg w tv p own bad) (hl : l.length ≤ 1000) :
    Calls Try.prog 13 #[.agg #[.bool rf, .int .i64 C, .int .i64 T], tv, .int .i64 p, .int .i64 ticks, .slice A l.length cap] w fun e w' => ∃ ov, e = .returned (.tuple #[ov, .int .i64 (resX rf C T bad own ticks l).2]) ∧ SlR encA w' w.heap.size 66 4 ov (resX rf C T bad own ticks l).1 ∧ Upd (fun _ => False) w w' := by
  have ua := (Upd.refl (fun _ => False) w).alloc (.cells #[.bool rf, .int .i64 C, .int .i64 T] 23)
  have BB := Lib.hid (Blk.new w 23 #[.bool rf, .int .i64 C, .int .i64 T])
  have hsz0 : w.heap.size ≤ (w.alloc (.cells #[.bool rf, .int .i64 C, .int .i64 T] 23)).heap.size := by simp
  generalize hw0 : w.alloc (.cells #[.bool rf, .int .i64 C, .int .i64 T] 23) = w0 at *
  have HW0 := Lib.hid hw0
  have U0 := Lib.hid ua; have Q0 := Lib.hid (hc.still ua); have T0 := Lib.hid (hT.still ua)
  have HLL := Lib.hid hl; have HC0 := Lib.hid hc; have HT0 := Lib.hid hT
  obtain ⟨ok, hok⟩ : ∃ ok, Cf.okS C T = ok := ⟨_, rfl⟩
  have HOK := Lib.hid hok
  have b0 : w0.cell? ⟨w.heap.size, 0, none⟩ = some (.bool rf) := BB.out.cell 0
  have b1 : w0.cell? ⟨w.heap.size, 1, none⟩ = some (.int .i64 C) := BB.out.cell 1
  have b2 : w0.cell? ⟨w.heap.size, 2, none⟩ = some (.int .i64 T) := BB.out.cell 2
  clear ua hc hT hok hw0 hsz0
  go_enter Try.func13, Try.ntmps13
  go_upto_region 1 with fail
  rw [HW0.out]
  go_wp2_with fail
  refine (Ck.rightR w0 rf C T ok HOK.out).mono ?_
  rintro e w1 ⟨rfl, hU⟩
  have B1 := Lib.hid (BB.out.upd hU (fun h => h)); have U1 := Lib.hid (U0.out.trans hU); have Q1 := Lib.hid (Q0.out.still hU); have T1 := Lib.hid (T0.out.still hU)
  clear hU b0 b1 b2 BB U0 Q0 T0 HW0
  cases ok with
  | false =>
    go_wp2_with fail
    refine bodyPost_ret (v := .tuple #[.slice none 0 0, .int .i64 23]) (by simp [results, Try.results13, go_sem]) rfl ⟨.slice none 0 0, ?_, ?_, U1.out⟩
    · rw [resX_no rf C T bad own ticks l HOK.out]
    · rw [resX_no rf C T bad own ticks l HOK.out]; exact SlR.nil
  | true =>
    obtain ⟨fx, hfx⟩ : ∃ t, fineX ticks l = t := ⟨_, rfl⟩
    have HFX := Lib.hid hfx
    clear hfx
    go_upto_region 3 with fail
    go_cut [39] from 26 to 39 (fun s39 wx => s39 = .bool (!fx || bad) ∧ Upd (fun _ => False) w1 wx)
    case first =>
      go_wp2_with fail
      refine (fineD w1 ticks A cap l Q1.out (by have := HLL.out; omega)).mono ?_
      rintro e w2 ⟨rfl, rfl⟩
      rw [HFX.out]
      cases fx with
      | false =>
        go_wp2_with fail
        go_meet
        exact ⟨rfl, Upd.refl _ _⟩
      | true =>
        rcases T1.out with ⟨rfl, rfl, _⟩ | ⟨g, F, M, ws, rfl, hR, rfl, _⟩
        · go_wp2_with fail
          go_meet
          exact ⟨rfl, Upd.refl _ _⟩
        · obtain ⟨c, hc⟩ : ∃ c, Fr.cntO M ws p F = c := ⟨_, rfl⟩
          have HR := Lib.hid hR; have HC := Lib.hid hc
          clear hR hc
          go_wp2_with fail
          refine (Fr.offR w2 g F M ws HR.out p c HC.out).mono ?_
          rintro e w3 ⟨rfl, hU⟩
          have HU := Lib.hid hU
          have e0 : (c == 0) = decide (c = 0) := by
            by_cases h : c = 0
            · subst h; rfl
            · rw [decide_eq_false h]; exact beq_eq_false_iff_ne.2 h
          clear hU
          go_wp2_with fail
          go_meet
          exact ⟨by rw [HC.out]; simp [e0], HU.out⟩
    obtain ⟨rfl, hU⟩ := hcut
    have B2 := Lib.hid (B1.out.upd hU (fun h => h)); have U2 := Lib.hid (U1.out.trans hU); have Q2 := Lib.hid (Q1.out.still hU); have T2 := Lib.hid (T1.out.still hU)
    clear hU B1 U1 Q1 T1
    obtain ⟨no, hno⟩ : ∃ no, (!fx || bad) = no := ⟨_, rfl⟩
    rw [hno]
    have HNO := Lib.hid hno
    clear hno
    cases no with
    | true =>
      have HRS : Hid (resX rf C T bad own ticks l = ([], 1)) := Lib.hid (resX_arg rf C T bad own ticks l HOK.out (by
        have h := HNO.out
        cases fx with
        | false => exact .inl HFX.out
        | true => exact .inr (by simpa using h)))
      go_wp2_with fail
      refine bodyPost_ret (v := .tuple #[.slice none 0 0, .int .i64 1]) (by simp [results, Try.results13, go_sem]) rfl ⟨.slice none 0 0, ?_, ?_, U2.out⟩
      · rw [HRS.out]
      · rw [HRS.out]; exact SlR.nil
    | false =>
      have hfb : fx = true ∧ bad = false := by have h := HNO.out; cases fx <;> cases bad <;> simp_all
      obtain ⟨rfl, rfl⟩ := hfb
      obtain ⟨f1, f2, f3, f4⟩ := fineX_parts HFX.out
      obtain ⟨n, rfl⟩ : ∃ n : Nat, ticks = n := ⟨ticks.toNat, by omega⟩
      have HF4 := Lib.hid f4
      have HNN : Hid (n ≤ 3000) := Lib.hid (by omega)
      clear f1 f2 f3 f4 HNO
      go_wp2_with fail
      obtain ⟨i0, hi0, hz0, hz1, hz2⟩ := info_parts infoRA
      go_loopw [12, 13] (fun v12 v13 wr => ∃ (i : Nat), i ≤ l.length ∧ v13 = .int .i64 i ∧ SlR encA wr w.heap.size 66 4 v12 ((l.take i).map mkA) ∧ Upd (fun _ => False) w wr ∧ Blk wr w.heap.size 23 #[.bool rf, .int .i64 C, .int .i64 T]) (fun _ v13 _ => l.length - (intOf v13).toNat)
      case atStart => exact ⟨0, Nat.zero_le _, rfl, SlR.nil, U2.out, B2.out⟩
      case round =>
        obtain ⟨i, hi, rfl, hO, hU, hBS⟩ := hrel
        have UR := Lib.hid hU; have BR := Lib.hid hBS
        clear hBS
        have htl : ((l.take i).map mkA).length = i := by rw [List.length_map, List.length_take]; omega
        have HTL := Lib.hid htl
        obtain ⟨Ao, co, rfl⟩ := hO.shape
        have OR := Lib.hid hO
        rw [htl] at OR ⊢
        by_cases hlt : i < l.length
        · obtain ⟨a, ha⟩ : ∃ a, l[i]? = some a := ⟨_, List.getElem?_eq_getElem hlt⟩
          have HA := Lib.hid ha
          have dl : decide ((i : Int) < (l.length : Int)) = true := decide_eq_true (by omega)
          have di : decide ((i : Int) < 0) = false := decide_eq_false (by omega)
          have hll := HLL.out
          obtain ⟨qb, qo, hqe, hqb, q0, q1⟩ := HC0.out i a ha
          subst hqe
          obtain ⟨x, y⟩ := a
          dsimp only at *
          have HS : Hid (∀ wx, Upd (fun _ => False) w wx → wx.cell? ⟨qb, qo + i * 2, none⟩ = some (.int .i64 x) ∧ wx.cell? ⟨qb, qo + i * 2 + 1, none⟩ = some (.int .i64 y)) := Lib.hid (fun wx hu => ⟨(hu.cell (p := ⟨qb, qo + i * 2, none⟩) hqb (fun h => h)).trans q0, (hu.cell (p := ⟨qb, qo + i * 2 + 1, none⟩) hqb (fun h => h)).trans q1⟩)
          clear hO hU ha htl q0 q1 hqb
          go_upto_region 9 with fail
          refine wp_region_treeF (.q 0 (.q 1 (.q 2 (.q 3 (.q 4 (.q 5 (.q 6 (.q 7 (.q 8 (.q 9 (.q 10 (.q 11 (.l 12 (.l 13 (.q 14 .d))))))))))))))) (fun _ => false) (fun _ => false) (fun w' => w'.cell? ⟨qb, qo + i * 2, none⟩ = some (.int .i64 x) ∧ w'.cell? ⟨qb, qo + i * 2 + 1, none⟩ = some (.int .i64 y))
            (by kernel_rfl) (by kernel_rfl) (by kernel_rfl) (fun t ht => by cases ht) (fun _ _ _ _ _ h => h) (by kernel_rfl) rfl (HS.out _ UR.out.drew) ?_
          have UD := Lib.hid (UR.out.drew)
          have OD := Lib.hid (OR.out.upd ((Upd.refl (fun _ => False) wr).drew) (fun _ _ h => h))
          have BD := Lib.hid (BR.out.upd ((Upd.refl (fun _ => False) wr).drew) (fun h => h))
          clear OR UR BR
          generalize wr.drew = w4 at *
          iterate 12
            first
            | refine wpOF_skip (by rfl) (by rfl) ?_
            | (refine' wpOF_q (by rfl) (by rfl) (by rfl) (fun w' hS' => ?_) ?_
               rotate_left
               · obtain ⟨s1, s2⟩ := hS'
                 go_simp
                 try rfl)
            try simp only [Act.put, List.setIfInBounds_toArray, List.set_cons_zero, List.set_cons_succ]
          refine wpOF_l (by rfl) (by rfl) (fun KQ hKQ => ?_)
          go_simp
          have ub := (Upd.refl (fun _ => False) w4).alloc (.cells #[.int .i64 x, .int .i64 y, .int .i64 (-1), .int .i64 (-1)] 66)
          have BN := Lib.hid (Blk.new w4 66 #[.int .i64 x, .int .i64 y, .int .i64 (-1), .int .i64 (-1)])
          have UN := Lib.hid (UD.out.trans ub); have ON := Lib.hid (OD.out.upd ub (fun _ _ h => h)); have BS := Lib.hid (BD.out.upd ub (fun h => h))
          clear ub UD OD BD
          refine hKQ _ _ (.inr (HS.out _ UN.out)) ?_
          clear hKQ KQ
          try simp only [Act.put, List.setIfInBounds_toArray, List.set_cons_zero, List.set_cons_succ]
          generalize w4.alloc (.cells #[.int .i64 x, .int .i64 y, .int .i64 (-1), .int .i64 (-1)] 66) = w5 at *
          generalize w4.heap.size = bn at *
          refine wpOF_l (by rfl) (by rfl) (fun KQ hKQ => ?_)
          refine wp_append_sl (.tmp 46) (.tmp 58) 43 rfl w.heap.size 66 i0 _ 4 32 Try.underlying43 hi0 hz0 hz1 hz2 rfl (by decide) (.slice Ao i co) i (rws encA ((l.take i).map mkA)) rfl (by have h := ON.out; unfold SlR at h; rw [HTL.out] at h; exact h) ⟨bn, 0, none⟩ 1 [.int .i64 x, .int .i64 y, .int .i64 (-1), .int .i64 (-1)] rfl rfl (fun j u hu => by rw [Ck.add_at, BN.out.cell j]; simpa using hu) (by simp [Value.oneCell']) (by unfold maxLen; omega) (by omega) (by exact UN.out.size) ?_
          intro v9 wZ hs1 hu1 hv1
          obtain ⟨bz, oz, cz, hvz, _, _, _, _⟩ := hs1.form (by omega)
          subst hvz
          have NO : Hid (SlR encA wZ w.heap.size 66 4 (.slice (some ⟨bz, oz, none⟩) (i + 1) cz) ((l.take (i + 1)).map mkA)) := Lib.hid (by
            rw [take_succ_get HA.out, List.map_append]
            unfold SlR
            rw [rws_append, List.length_append, HTL.out]
            exact hs1)
          have hsz5 := UN.out.size
          have NU : Hid (Upd (fun _ => False) w wZ) := Lib.hid (((UN.out.mono (S' := fun q => w.heap.size ≤ q) (fun _ _ h => h.elim)).trans (hu1.mono (fun q hq h => (Sl.blk ON.out q h).1))).mono (fun q hq h => by omega))
          have BZ := Lib.hid (BS.out.upd hu1 (fun hk => by
            obtain ⟨_, _, cur, hc⟩ := Sl.blk ON.out _ hk
            exact hc.ne_ BS.out (by decide) rfl))
          clear hs1 hu1 hv1 hsz5
          refine hKQ _ _ (.inr (HS.out _ NU.out)) ?_
          clear hKQ KQ
          try simp only [Act.put, List.setIfInBounds_toArray, List.set_cons_zero, List.set_cons_succ]
          iterate 1
            first
            | refine wpOF_skip (by rfl) (by rfl) ?_
            | (refine' wpOF_q (by rfl) (by rfl) (by rfl) (fun w' hS' => ?_) ?_
               rotate_left
               · obtain ⟨s1, s2⟩ := hS'
                 go_simp
                 try rfl)
            try simp only [Act.put, List.setIfInBounds_toArray, List.set_cons_zero, List.set_cons_succ]
          refine wpOF_d ?_
          go_wp2_with fail
          go_roundw
          case rel => exact ⟨i + 1, by omega, by go_num, NO.out, NU.out, BZ.out⟩
          case measure => simp [intOf]; omega
        · have hie : i = l.length := by omega
          subst hie
          have e1 : l.take l.length = l := List.take_length
          rw [e1] at OR
          clear hO hU htl HTL e1
          have B3 := BR
          clear BR
          have b0 : wr.cell? ⟨w.heap.size, 0, none⟩ = some (.bool rf) := B3.out.cell 0
          have b1 : wr.cell? ⟨w.heap.size, 1, none⟩ = some (.int .i64 C) := B3.out.cell 1
          have b2 : wr.cell? ⟨w.heap.size, 2, none⟩ = some (.int .i64 T) := B3.out.cell 2
          go_wp2_with fail
          refine (Ck.newR_yes wr w.heap.size UR.out.size rf C T HOK.out).mono ?_
          rintro e w3 ⟨ga, rfl, hga, hra, hU⟩
          have B4 := Lib.hid (B3.out.upd hU (fun h => h)); have U4 := Lib.hid (UR.out.trans hU); have RA := Lib.hid hra
          have O4 := Lib.hid (OR.out.upd hU (fun _ _ h => h))
          clear hU hra hga b0 b1 b2 B3 UR OR
          have b0 : w3.cell? ⟨w.heap.size, 0, none⟩ = some (.bool rf) := B4.out.cell 0
          have b1 : w3.cell? ⟨w.heap.size, 1, none⟩ = some (.int .i64 C) := B4.out.cell 1
          have b2 : w3.cell? ⟨w.heap.size, 2, none⟩ = some (.int .i64 T) := B4.out.cell 2
          go_wp2_with fail
          refine (newQ w3 w.heap.size U4.out.size rf C T HOK.out).mono ?_
          rintro e w4 ⟨gb, rfl, hgb, hrb, hU⟩
          have B5 := Lib.hid (B4.out.upd hU (fun h => h)); have U5 := Lib.hid (U4.out.trans hU)
          have I5 : Hid (InW w4 w.heap.size ga gb (.slice none 0 0) (.slice none 0 0) (.slice Ao l.length co) [] [] (l.map mkA) (Ck.St17.new rf C T) (Rf.Bp.new rf C T 0) []) := Lib.hid ⟨RA.out.still hU, hrb, SlR.nil, SlR.nil, O4.out.upd hU (fun _ _ h => h), fun k hk => by cases hk⟩
          clear hU hrb hgb b0 b1 b2 B4 U4 O4 RA
          have HR0 : Hid (RnOk (Rn.new rf C T l) l.length) := Lib.hid (RnOk.new rf C T l HOK.out (fineA_work 0 l HF4.out))
          have HD0 : Hid (OrdOk l own (Rn.new rf C T l) 0) := Lib.hid (OrdOk.new rf C T l)
          obtain ⟨c1, c2, c3⟩ : 1 ≤ C ∧ C ≤ T ∧ T ≤ 1000 := of_decide_eq_true HOK.out
          have HFA : Hid (Ck.FineC (Ck.St17.new rf C T)) := Lib.hid (Ck.FineC.new rf C T c1 c2 c3)
          have HFB : Hid (FineR (Rf.Bp.new rf C T 0) []) := Lib.hid ⟨c1, c2, c3, rfl, Int.le_refl _, (by decide : (0 : Int) ≤ 2305843009213693952), (by show 0 ≤ C; omega), (fun x hx => by cases hx), (by show C + 0 ≤ C; omega)⟩
          have HSEL : Hid (Sel rf (Ck.St17.new rf C T) (Rf.Bp.new rf C T 0) [] = (Rn.new rf C T l).bs) := Lib.hid (by cases rf <;> rfl)
          clear c1 c2 c3
          obtain ⟨j0, hj0, hy0, hy1, hy2⟩ := info_parts infoInt
          go_wp2_with fail
          go_loopw [16, 17, 18, 19] (fun v16 v17 v18 v19 wr => ∃ (i : Nat) (s : Rn) (sa : Ck.St17) (pb : Rf.Bp) (xb : List (Int × Int)), i ≤ n ∧ s = Rn.run own (Rn.new rf C T l) i ∧ v19 = .int .i64 i ∧ v18 = .int .i64 (s.next : Int) ∧ InW wr w.heap.size ga gb v16 v17 (.slice Ao l.length co) s.wait (lfs s.wait s.left) s.out sa pb xb ∧ Sel rf sa pb xb = s.bs ∧ Ck.FineC sa ∧ FineR pb xb ∧ Upd (fun _ => False) w wr ∧ Blk wr w.heap.size 23 #[.bool rf, .int .i64 C, .int .i64 T]) (fun _ _ _ v19 _ => n - (intOf v19).toNat)
          case atStart => exact ⟨0, _, _, _, _, Nat.zero_le _, rfl, rfl, rfl, I5.out, HSEL.out, HFA.out, HFB.out, U5.out, B5.out⟩
          case round =>
            obtain ⟨i, s, sa, pb, xb, hi, hs, rfl, rfl, hI, hsel, hfa, hfb, hU, hB⟩ := hrel
            have IR := Lib.hid hI; have SELR := Lib.hid hsel; have FA := Lib.hid hfa; have FB := Lib.hid hfb; have UW := Lib.hid hU; have BW := Lib.hid hB; have HS0 := Lib.hid hs
            have OK0 : Hid (RnOk s l.length) := Lib.hid (by rw [hs]; exact HR0.out.run own i (by have := HNN.out; omega))
            have OD0 : Hid (OrdOk l own s i) := Lib.hid (by rw [hs]; exact HD0.out.run HR0.out i (by have := HNN.out; omega))
            clear hI hsel hfa hfb hU hB hs
            by_cases hin : i < n
            · have dln : decide ((i : Int) < (n : Int)) = true := decide_eq_true (by omega)
              have dlm : decide (i < n) = true := decide_eq_true hin
              have HIN := Lib.hid hin
              have HST : Hid (Rn.run own (Rn.new rf C T l) (i + 1) = s.tick own i) := Lib.hid (by rw [HS0.out]; rfl)
              have HLN : Hid (s.out.length = l.length) := Lib.hid OK0.out.out
              clear hin I5 U5 B5 HR0 HD0 HFA HFB HSEL
              go_upto_block 4 with fail
              go_cut [16, 17, 18] from 69 to 98 (fun v16 v17 v18 wx => ∃ s' : Rn, Rn.come i l.length s = s' ∧ v18 = .int .i64 (s'.next : Int) ∧ InW wx w.heap.size ga gb v16 v17 (.slice Ao l.length co) s'.wait (lfs s'.wait s'.left) s'.out sa pb xb ∧ s'.out = s.out ∧ s'.left = s.left ∧ s'.bs = s.bs ∧ RnOk s' l.length ∧ OrdOk l own s' i ∧ Upd (fun _ => False) w wx ∧ Blk wx w.heap.size 23 #[.bool rf, .int .i64 C, .int .i64 T])
              case first =>
                go_wp2_with fail
                go_loopw [16, 17, 18] (fun v16 v17 v18 wr => ∃ (m : Nat) (s' : Rn), s'.next + m ≥ l.length ∧ Rn.come i l.length s = Rn.come i m s' ∧ v18 = .int .i64 (s'.next : Int) ∧ InW wr w.heap.size ga gb v16 v17 (.slice Ao l.length co) s'.wait (lfs s'.wait s'.left) s'.out sa pb xb ∧ s'.out = s.out ∧ s'.left = s.left ∧ s'.bs = s.bs ∧ RnOk s' l.length ∧ OrdOk l own s' i ∧ Upd (fun _ => False) w wr ∧ Blk wr w.heap.size 23 #[.bool rf, .int .i64 C, .int .i64 T]) (fun _ _ v18 _ => l.length - (intOf v18).toNat)
                case atStart => exact ⟨l.length, s, by omega, rfl, rfl, IR.out, rfl, rfl, rfl, OK0.out, OD0.out, UW.out, BW.out⟩
                case round =>
                  obtain ⟨m, s', hm1, hcome, rfl, hI, ho1, hl1, hb1, hok, hod, hU, hB⟩ := hrel
                  have IR' := Lib.hid hI; have UW' := Lib.hid hU; have BW' := Lib.hid hB; have HCO := Lib.hid hcome
                  have EO := Lib.hid ho1; have EL := Lib.hid hl1; have EB := Lib.hid hb1; have OK' := Lib.hid hok; have OD' := Lib.hid hod
                  obtain ⟨Aw, cw, rfl⟩ := hI.q.shape
                  obtain ⟨Al, cl, rfl⟩ := hI.l.shape
                  have hwl := hok.few
                  have hnx := hok.next
                  have hol := hok.out
                  rw [idx_len, lfs_len] at IR' ⊢
                  clear hI hU hB hcome ho1 hl1 hb1 hok hod IR OK0 OD0 UW BW
                  obtain ⟨sb, wt, lf, ou, nx⟩ := s'
                  dsimp only at *
                  by_cases hlt : nx < l.length
                  · obtain ⟨q, hq⟩ : ∃ q, l[nx]? = some q := ⟨_, List.getElem?_eq_getElem hlt⟩
                    obtain ⟨qb, qo, hqe, hqb, q0, q1⟩ := HC0.out nx q hq
                    subst hqe
                    have c0 : wr.cell? ⟨qb, qo + nx * 2, none⟩ = some (.int .i64 q.1) := (UW'.out.cell (p := ⟨qb, qo + nx * 2, none⟩) hqb (fun h => h)).trans q0
                    have HC1 : Hid (∀ wx, Upd (fun _ => False) w wx → wx.cell? ⟨qb, qo + nx * 2 + 1, none⟩ = some (.int .i64 q.2)) := Lib.hid (fun wx hu => (hu.cell (p := ⟨qb, qo + nx * 2 + 1, none⟩) hqb (fun h => h)).trans q1)
                    have dl : decide ((nx : Int) < (l.length : Int)) = true := decide_eq_true (by omega)
                    have di : decide ((nx : Int) < 0) = false := decide_eq_false (by omega)
                    obtain ⟨a, ha⟩ : ∃ a, ou[nx]? = some a := ⟨_, List.getElem?_eq_getElem (by omega)⟩
                    obtain ⟨q', hq', hat, haw⟩ := OD'.out.tw nx a ha
                    rw [hq] at hq'
                    injection hq' with hq'
                    subst hq'
                    have HCM : Hid (Rn.comes ⟨sb, wt, lf, ou, nx⟩ (i : Int) = (q.1 == (i : Int))) := Lib.hid (by
                      show (match ou[nx]? with | some a => a.t == (i : Int) | none => false) = _
                      rw [ha, ← hat])
                    obtain ⟨y, hy⟩ : ∃ y, lf[nx]? = some y := ⟨_, List.getElem?_eq_getElem (by have := OK'.out.left; dsimp only at this; omega)⟩
                    have hyq : y = q.2 := by
                      have h1 := OD'.out.lf nx a y ha hy (OD'.out.nx nx (Nat.le_refl _) a ha).1
                      rw [h1, haw]
                    have HY : Hid (lf[nx]? = some q.2) := Lib.hid (by rw [hy, hyq])
                    obtain ⟨x, y'⟩ := q
                    dsimp only at *
                    clear hq q0 q1 hqb ha hat haw hy hyq
                    by_cases ht : x = (i : Int)
                    · have dt : (x == (i : Int)) = true := beq_iff_eq.2 ht
                      have HC2 : Hid (Rn.comes ⟨sb, wt, lf, ou, nx⟩ (i : Int) = true) := Lib.hid (by rw [HCM.out]; exact dt)
                      have HST2 : Hid (Rn.come i m ⟨sb, wt, lf, ou, nx⟩ = Rn.come i (m - 1) (Rn.push ⟨sb, wt, lf, ou, nx⟩)) := Lib.hid (by
                        obtain ⟨m', rfl⟩ : ∃ m', m = m' + 1 := ⟨m - 1, by omega⟩
                        rw [Rn.come, if_pos HC2.out]
                        rfl)
                      clear ht
                      by_cases h8 : wt.length < 8
                      · have d8 : decide ((wt.length : Int) < 8) = true := decide_eq_true (by omega)
                        have HP : Hid (Rn.push ⟨sb, wt, lf, ou, nx⟩ = ⟨sb, wt ++ [nx], lf, ou, nx + 1⟩) := Lib.hid (by unfold Rn.push; dsimp only; rw [if_pos h8])
                        have HSQ : Hid (Sl wr w.heap.size 3 1 (.slice Aw wt.length cw) wt.length (rws encI (idx wt))) := Lib.hid (by have h := IR'.out.q; unfold SlR at h; rw [idx_len] at h; exact h)
                        have hszr := UW'.out.size
                        go_wp2_with (
                          at_builtin
                          first
                          | (
                                refine wpList_append_sl rfl (.tmp 85) (.tmp 87) 38 rfl w.heap.size 3 j0 _ 1 8 Try.underlying38 hj0 hy0 hy1 hy2 rfl (by decide) (.slice Aw wt.length cw) wt.length (rws encI (idx wt)) rfl (Sl.alloc HSQ.out _) ⟨_, 0, none⟩ 1 [.int .i64 (nx : Int)] rfl rfl (fun j u hu => by rw [Ck.add_at, (Blk.new wr 3 #[.int .i64 (nx : Int)]).cell j]; simpa using hu) (by simp [Value.oneCell']) (by unfold maxLen; omega) (by omega) (by simp; omega) ?_
                                intro v9 wZ hs1 hu1 hv1
                                obtain ⟨bz, oz, cz, hvz, _, _, _, _⟩ := hs1.form (by omega)
                                subst hvz
                                have IA := IR'.out.still ((Upd.refl (fun _ => False) wr).alloc (.cells #[.int .i64 (nx : Int)] 3))
                                have S2 : SlR encI wZ w.heap.size 3 1 (.slice (some ⟨bz, oz, none⟩) (wt.length + 1) cz) (idx (wt ++ [nx])) := by
                                  unfold SlR
                                  rw [idx_len, List.length_append]
                                  have e2 : rws encI (idx (wt ++ [nx])) = rws encI (idx wt) ++ [.int .i64 (nx : Int)] := by
                                    rw [show idx (wt ++ [nx]) = idx wt ++ [(nx : Int)] by simp [idx], rws_append, rws_one]
                                    rfl
                                  rw [e2]
                                  exact hs1
                                have I2 := Lib.hid (IA.turnW S2 hu1 hv1)
                                have U2' := Lib.hid (upd_ge ((UW'.out.alloc (.cells #[.int .i64 (nx : Int)] 3))) (hu1.mono (fun q _ h => (Sl.blk IA.q q h).1)))
                                have B2' := Lib.hid ((BW'.out.alloc (.cells #[.int .i64 (nx : Int)] 3)).upd hu1 (fun hk => by
                                  obtain ⟨_, _, cur, hc⟩ := Sl.blk IA.q _ hk
                                  exact hc.ne_ (BW'.out.alloc (.cells #[.int .i64 (nx : Int)] 3)) (by decide) rfl))
                                have c1' := HC1.out wZ U2'.out
                                have HNE : Hid (wt.length + 1 ≤ 8) := Lib.hid (by omega)
                                have hsz2 := U2'.out.size
                                have HSL : Hid (Sl wZ w.heap.size 3 1 (.slice Al wt.length cl) wt.length (rws encI (lfs wt lf))) := Lib.hid (by have h := I2.out.l; unfold SlR at h; rw [lfs_len] at h; exact h)
                                clear hs1 hu1 hv1 IA S2)
                          | (
                                refine wpList_append_sl rfl (.tmp 89) (.tmp 95) 38 rfl w.heap.size 3 j0 _ 1 8 Try.underlying38 hj0 hy0 hy1 hy2 rfl (by decide) (.slice Al wt.length cl) wt.length (rws encI (lfs wt lf)) rfl (Sl.alloc HSL.out _) ⟨_, 0, none⟩ 1 [.int .i64 y'] rfl rfl (fun j u hu => by rw [Ck.add_at, (Blk.new wZ 3 #[.int .i64 y']).cell j]; simpa using hu) (by simp [Value.oneCell']) (by unfold maxLen; omega) (by omega) (by simp; omega) ?_
                                intro v9 wY hs1 hu1 hv1
                                obtain ⟨by_, oy, cy, hvz, _, _, _, _⟩ := hs1.form (by omega)
                                subst hvz
                                have IA := I2.out.still ((Upd.refl (fun _ => False) wZ).alloc (.cells #[.int .i64 y'] 3))
                                have S3 : SlR encI wY w.heap.size 3 1 (.slice (some ⟨by_, oy, none⟩) (wt.length + 1) cy) (lfs (wt ++ [nx]) lf) := by
                                  unfold SlR
                                  rw [lfs_len, List.length_append, lfs_push _ _ _ _ HY.out, rws_append, rws_one]
                                  exact hs1
                                have I3 := Lib.hid (IA.turnL S3 hu1 hv1)
                                have U3' := Lib.hid (upd_ge ((U2'.out.alloc (.cells #[.int .i64 y'] 3))) (hu1.mono (fun q _ h => (Sl.blk IA.l q h).1)))
                                have B3' := Lib.hid ((B2'.out.alloc (.cells #[.int .i64 y'] 3)).upd hu1 (fun hk => by
                                  obtain ⟨_, _, cur, hc⟩ := Sl.blk IA.l _ hk
                                  exact hc.ne_ (B2'.out.alloc (.cells #[.int .i64 y'] 3)) (by decide) rfl))
                                clear hs1 hu1 hv1 IA S3))
                        go_roundw
                        case rel => exact ⟨m - 1, Rn.push ⟨sb, wt, lf, ou, nx⟩, by rw [HP.out]; show nx + 1 + (m - 1) ≥ l.length; omega, by rw [HCO.out, HST2.out], by rw [HP.out]; go_num, by rw [HP.out]; exact I3.out, by rw [HP.out]; exact EO.out, by rw [HP.out]; exact EL.out, by rw [HP.out]; exact EB.out, OK'.out.push hlt, OD'.out.push HC2.out OK'.out, U3'.out, B3'.out⟩
                        case measure => simp [intOf]; omega
                      · have d8 : decide ((wt.length : Int) < 8) = false := decide_eq_false (by omega)
                        have HP : Hid (Rn.push ⟨sb, wt, lf, ou, nx⟩ = ⟨sb, wt, lf, ou, nx + 1⟩) := Lib.hid (by unfold Rn.push; dsimp only; rw [if_neg h8])
                        go_wp2_with fail
                        go_roundw
                        case rel => exact ⟨m - 1, Rn.push ⟨sb, wt, lf, ou, nx⟩, by rw [HP.out]; show nx + 1 + (m - 1) ≥ l.length; omega, by rw [HCO.out, HST2.out], by rw [HP.out]; go_num, by rw [HP.out]; exact IR'.out, by rw [HP.out]; exact EO.out, by rw [HP.out]; exact EL.out, by rw [HP.out]; exact EB.out, OK'.out.push hlt, OD'.out.push HC2.out OK'.out, UW'.out, BW'.out⟩
                        case measure => simp [intOf]; omega
                    · have dt : (x == (i : Int)) = false := beq_eq_false_iff_ne.2 ht
                      have HEX : Hid (Rn.come i l.length s = ⟨sb, wt, lf, ou, nx⟩) := Lib.hid (by
                        rw [HCO.out]
                        cases m with
                        | zero => rfl
                        | succ m => unfold Rn.come; rw [if_neg (by rw [HCM.out, dt]; simp)])
                      clear ht
                      go_wp2_with fail
                      go_meet
                      exact ⟨_, HEX.out, rfl, IR'.out, EO.out, EL.out, EB.out, OK'.out, OD'.out, UW'.out, BW'.out⟩
                  · have dl : decide ((nx : Int) < (l.length : Int)) = false := decide_eq_false (by omega)
                    have HEX : Hid (Rn.come i l.length s = ⟨sb, wt, lf, ou, nx⟩) := Lib.hid (by
                      rw [HCO.out]
                      cases m with
                      | zero => rfl
                      | succ m =>
                        unfold Rn.come
                        rw [if_neg]
                        · show ¬ (match ou[nx]? with | some a => a.t == (i : Int) | none => false) = true
                          rw [List.getElem?_eq_none (by omega)]
                          simp)
                    go_wp2_with fail
                    go_meet
                    exact ⟨_, HEX.out, rfl, IR'.out, EO.out, EL.out, EB.out, OK'.out, OD'.out, UW'.out, BW'.out⟩
              obtain ⟨s', hcome, rfl, hI, ho1, hl1, hb1, hok, hod, hU, hB⟩ := hcut
              have IR' := Lib.hid hI; have UW' := Lib.hid hU; have BW' := Lib.hid hB; have HEX := Lib.hid hcome
              have EO := Lib.hid ho1; have EL := Lib.hid hl1; have EB := Lib.hid hb1; have OK' := Lib.hid hok; have OD' := Lib.hid hod
              obtain ⟨Aw, cw, rfl⟩ := hI.q.shape
              obtain ⟨Al, cl, rfl⟩ := hI.l.shape
              have hwl := hok.few
              have hnx := hok.next
              have hol := hok.out
              rw [idx_len, lfs_len] at IR' ⊢
              clear hI hU hB hcome ho1 hl1 hb1 hok hod IR OK0 OD0 UW BW
              obtain ⟨sb, wt, lf, ou, nx⟩ := s'
              dsimp only at *
              have SELB : Hid (Sel rf sa pb xb = sb) := Lib.hid (SELR.out.trans EB.out.symm)
              have HCE : Hid (Rn.come i s.out.length s = ⟨sb, wt, lf, ou, nx⟩) := Lib.hid (by rw [HLN.out]; exact HEX.out)
              obtain ⟨ub, hub⟩ : ∃ ub, decide (0 < wt.length) = ub := ⟨_, rfl⟩
              have hub2 : decide (0 < (wt.length : Int)) = ub := by
                rw [← hub]
                by_cases h : 0 < wt.length
                · rw [decide_eq_true h]; exact decide_eq_true (by omega)
                · rw [decide_eq_false h]; exact decide_eq_false (by omega)
              have HUB := Lib.hid hub
              have HNI : Hid ((i : Int) ≤ 3000) := Lib.hid (by have := HNN.out; have := HIN.out; omega)
              clear SELR EB
              go_wp2_with fail
              refine (Ck.goR wc w.heap.size ga sa IR'.out.a UW'.out.size FA.out (i : Int) ub).mono ?_
              rintro e w5 ⟨rfl, hr, ht⟩
              have I5 := Lib.hid (IR'.out.turnA hr ht); have U5 := Lib.hid (upd_tu UW'.out ht); have B5 := Lib.hid (BW'.out.tu ht (by decide))
              have FA5 := Lib.hid (Ck.FineC.go FA.out (i : Int) (by omega) (by have := HNI.out; omega) ub)
              clear hr ht IR' UW' BW'
              go_wp2_with fail
              refine (goQ w5 w.heap.size gb pb xb I5.out.b U5.out.size FB.out (i : Int) (by omega) (by have := HNI.out; omega) (by have := FB.out.len; omega) ub).mono ?_
              rintro e w6 ⟨rfl, hr, ht⟩
              have I6 := Lib.hid (I5.out.turnB hr ht); have U6 := Lib.hid (upd_tu U5.out ht); have B6 := Lib.hid (B5.out.tu ht (by decide))
              have FB6 := Lib.hid (FB.out.go (i : Int) (by omega) (by have := HNI.out; omega) ub)
              have SEL6 : Hid (Sel rf (sa.go i ub) (Rf.goP pb xb i ub).1 (Rf.goP pb xb i ub).2 = sb.go i (decide (0 < wt.length))) := Lib.hid (by rw [Sel.go, SELB.out, HUB.out])
              clear hr ht I5 U5 B5 FA FB SELB
              generalize sa.go i ub = sa6 at *
              generalize (Rf.goP pb xb i ub).1 = pb6 at *
              generalize (Rf.goP pb xb i ub).2 = xb6 at *
              go_wp2_with fail
              refine (dueA w6 w.heap.size ga sa6 I6.out.a FA5.out).mono ?_
              rintro e w7 ⟨nd, rfl, kd, hkd⟩
              have u7 : Upd (fun _ => False) w6 w7 := by rw [hkd]; exact (Upd.refl _ _).drewN kd
              have I7 := Lib.hid (I6.out.still u7); have U7 := Lib.hid (U6.out.trans u7); have B7 := Lib.hid (B6.out.upd u7 (fun h => h))
              obtain ⟨la, hla⟩ : ∃ la, decide (0 < sa6.xs.length) = la := ⟨_, rfl⟩
              obtain ⟨lb, hlb⟩ : ∃ lb, decide (0 < xb6.length) = lb := ⟨_, rfl⟩
              obtain ⟨lv, hlv⟩ : ∃ lv, (if rf = true then lb else la) = lv := ⟨_, rfl⟩
              have HLV := Lib.hid hlv; have HLB := Lib.hid hlb
              have LIVE : Hid ((sb.go i (decide (0 < wt.length))).live = lv) := Lib.hid (by rw [← SEL6.out, Sel.live, hla, hlb, hlv])
              rw [hla]
              clear u7 hkd I6 U6 B6 hla hlb hlv hub hub2
              have b0 : w7.cell? ⟨w.heap.size, 0, none⟩ = some (.bool rf) := B7.out.cell 0
              go_upto_if 117 with fail
              go_cut [21] from 118 to 122 (fun s21 wx => s21 = .bool lv ∧ Upd (fun _ => False) w7 wx)
              case first =>
                cases rf with
                | false =>
                  go_wp2_with fail
                  go_meet
                  exact ⟨by rw [← HLV.out]; rfl, Upd.refl _ _⟩
                | true =>
                  go_wp2_with fail
                  refine (dueQ w7 w.heap.size gb pb6 xb6 I7.out.b).mono ?_
                  rintro e w8 ⟨ne, rfl, ke, hke⟩
                  have u8 : Hid (Upd (fun _ => False) w7 w8) := Lib.hid (by rw [hke]; exact (Upd.refl _ _).drewN ke)
                  clear hke
                  rw [HLB.out]
                  go_wp2_with fail
                  go_meet
                  exact ⟨by rw [← HLV.out]; rfl, u8.out⟩
              obtain ⟨rfl, u8⟩ := hcut
              have I8 := Lib.hid (I7.out.still u8); have U8 := Lib.hid (U7.out.trans u8); have B8 := Lib.hid (B7.out.upd u8 (fun h => h))
              clear u8 I7 U7 B7 b0
              obtain ⟨ow, how⟩ : ∃ ow, own (i : Int) = ow := ⟨_, rfl⟩
              have HOW := Lib.hid how
              have HT8 := Lib.hid (HT0.out.still U8.out)
              have lz : ((wt.length : Int) == 0) = decide (wt.length = 0) := by
                by_cases h : wt.length = 0
                · rw [h]; rfl
                · rw [decide_eq_false h]; exact beq_eq_false_iff_ne.2 (by omega)
              obtain ⟨wz, hwz⟩ : ∃ wz, decide (wt.length = 0) = wz := ⟨_, rfl⟩
              rw [hwz] at lz
              have HWZ := Lib.hid hwz
              clear how hwz
              go_upto_region 28 with fail
              go_cut [140] from 123 to 140 (fun s140 wx => s140 = .bool (!ow || wz || !lv) ∧ Upd (fun _ => False) wc wx)
              case first =>
                rcases HT8.out with ⟨rfl, hbad, hall⟩ | ⟨g, F, M, ws, rfl, hR, hbad, hall⟩
                · obtain rfl : true = ow := by rw [← HOW.out]; exact (hall _).symm
                  cases wz <;> cases lv <;> (go_wp2_with fail; go_meet; exact ⟨rfl, Upd.refl _ _⟩)
                · have HRT := Lib.hid hR
                  have HIS : Hid (Fr.isO M ws p ((i : Int) % F) = ow) := Lib.hid (by rw [← HOW.out]; exact (hall _).symm)
                  clear hall hR hbad
                  go_wp2_with fail
                  refine (Fr.isR _ g F M ws HRT.out p (i : Int) ow HIS.out).mono ?_
                  rintro e w9 ⟨rfl, hU⟩
                  have HU := Lib.hid hU
                  clear hU
                  cases ow <;> cases wz <;> cases lv <;> (go_wp2_with fail; go_meet; exact ⟨rfl, HU.out⟩)
              obtain ⟨rfl, u9⟩ := hcut
              have I9 := Lib.hid (I8.out.still u9); have U9 := Lib.hid (U8.out.trans u9); have B9 := Lib.hid (B8.out.upd u9 (fun h => h))
              clear u9 I8 U8 B8 HT8
              obtain ⟨sk, hsk⟩ : ∃ sk, (!ow || wz || !lv) = sk := ⟨_, rfl⟩
              rw [hsk]
              cases sk with
              | true =>
                have HTK : Hid (s.tick own i = ⟨sb.go i (decide (0 < wt.length)), wt, lf, ou, nx⟩) := Lib.hid (by
                  rw [tick_skip, HCE.out]
                  · rfl
                  · rw [HCE.out]
                    cases ow with
                    | false => exact .inl HOW.out
                    | true =>
                      cases wz with
                      | true => exact .inr (.inl (List.length_eq_zero_iff.1 (of_decide_eq_true HWZ.out)))
                      | false =>
                        right; right
                        show (sb.go i (decide (0 < wt.length))).live = false
                        rw [LIVE.out]
                        simpa using hsk)
                clear hsk
                have hni := HNI.out
                go_wp2_with fail
                go_roundw
                case rel => exact ⟨i + 1, ⟨sb.go i (decide (0 < wt.length)), wt, lf, ou, nx⟩, sa6, pb6, xb6, by have := HIN.out; omega, by rw [HST.out, HTK.out], by go_num, rfl, I9.out, SEL6.out, FA5.out, FB6.out, U9.out, B9.out⟩
                case measure => simp [intOf]; have := HIN.out; omega
              | false =>
                obtain ⟨rfl, hwz0, rfl⟩ : ow = true ∧ wz = false ∧ lv = true := by cases ow <;> cases wz <;> cases lv <;> simp_all
                have hnz : wt ≠ [] := fun e => by have h := of_decide_eq_false (hwz0 ▸ HWZ.out); rw [e] at h; exact h rfl
                obtain ⟨k, t, hkt⟩ : ∃ k t, wt = k :: t := by
                  cases wt with
                  | nil => exact absurd rfl hnz
                  | cons k t => exact ⟨k, t, rfl⟩
                subst hkt
                clear hsk hnz lz
                have hkn := OK'.out.wait k (by show k ∈ k :: t; simp)
                have hup := OK'.out.up
                have hkt : k ∉ t := fun h => by have := (List.pairwise_cons.1 hup).1 k h; omega
                have HKT := Lib.hid hkt
                obtain ⟨a, ha⟩ : ∃ a, ou[k]? = some a := ⟨_, List.getElem?_eq_getElem (by dsimp only at hkn; omega)⟩
                obtain ⟨x, hx⟩ : ∃ x, lf[k]? = some x := ⟨_, List.getElem?_eq_getElem (by have := OK'.out.left; dsimp only at this hkn; omega)⟩
                have hx1 : 1 ≤ x := OK'.out.pos k (.inl (by show k ∈ k :: t; simp)) x hx
                have hx2 : x ≤ 1048576 := (OK'.out.ls x (List.mem_of_getElem? hx)).2
                have hab := OD'.out.bg k a ha
                have HA := Lib.hid ha; have HX := Lib.hid hx
                have hka : k < ou.length := by dsimp only at hkn; omega
                have hk1000 : (k : Int) ≤ 1000 := by have := HLL.out; omega
                have hlfs := lfs_cons k t lf x hx
                rw [hlfs] at I9
                have HGO : Hid (s.tick own i = ({ bs := sb.go i (decide (0 < (k :: t).length)), wait := k :: t, left := lf, out := ou, next := nx } : Rn).use i) := Lib.hid (by rw [tick_use HOW.out, HCE.out]; rfl)
                have LV2 : Hid (({ bs := sb.go i (decide (0 < (k :: t).length)), wait := k :: t, left := lf, out := ou, next := nx } : Rn).bs.live = true) := LIVE
                have htl8 : t.length ≤ 7 := by have := OK'.out.few; dsimp only at this; simp at this; omega
                clear hkn hup hkt ha hx hlfs hwz0 HWZ hwl
                go_wp2_with fail
                refine (Ck.useR wc w.heap.size ga sa6 I9.out.a U9.out.size FA5.out _ rfl).mono ?_
                rintro e w10 ⟨rfl, hr, ht⟩
                have I10 := Lib.hid (I9.out.turnA hr ht); have U10 := Lib.hid (upd_tu U9.out ht); have B10 := Lib.hid (B9.out.tu ht (by decide))
                have FA10 := Lib.hid FA5.out.use
                clear hr ht I9 U9 B9 FA5
                go_wp2_with fail
                refine (useQ w10 w.heap.size gb pb6 xb6 I10.out.b U10.out.size FB6.out).mono ?_
                rintro e w11 ⟨rfl, hr, ht⟩
                have I11 := Lib.hid (I10.out.turnB hr ht); have U11 := Lib.hid (upd_tu U10.out ht); have B11 := Lib.hid (B10.out.tu ht (by decide))
                have FB11 := Lib.hid FB6.out.use
                have SEL11 : Hid (Sel rf sa6.use pb6 (Rf.takeL xb6) = (sb.go i (decide (0 < (k :: t).length))).use) := Lib.hid (by rw [Sel.use, SEL6.out])
                clear hr ht I10 U10 B10 FB6 SEL6
                generalize sa6.use = sa7 at *
                generalize Rf.takeL xb6 = xb7 at *
                obtain ⟨bw, ow_, cw', hew, _, _, _, _⟩ := I11.out.q.form (by simp [idx])
                obtain ⟨bo, oo, co', heo, _, _, _, _⟩ := I11.out.o.form (by omega)
                obtain ⟨bl, ol, cl', hel, _, _, _, _⟩ := I11.out.l.form (by simp)
                injection hew with hew1 hew2 hew3
                injection heo with heo1 heo2 heo3
                injection hel with hel1 hel2 hel3
                subst hew1 heo1 hel1 hew3 heo3 hel3
                clear hew2 heo2 hel2
                have cq0 : w11.cell? ⟨bw, ow_, none⟩ = some (.int .i64 (k : Int)) := by have h := I11.out.q.cell encI_len 0 _ rfl 0 _ rfl; simpa using h
                have co2 : w11.cell? ⟨bo, oo + k * 4 + 2, none⟩ = some (.int .i64 a.b) := I11.out.o.cell encA_len k a HA.out 2 _ rfl
                have di : decide ((k : Int) < 0) = false := decide_eq_false (by omega)
                have dkl : decide ((k : Int) < (l.length : Int)) = true := decide_eq_true (by omega)
                have dkm : k < l.length := by omega
                have fo2 := I11.out.o.frozen (oo + k * 4 + 2)
                have hni := HNI.out
                obtain ⟨bb, hbb⟩ : ∃ bb, decide (a.b < 0) = bb := ⟨_, rfl⟩
                have HBB := Lib.hid hbb
                go_upto_if 153 with fail
                clear hbb
                go_cut [] from 154 to 158 (fun wx => InW wx w.heap.size ga gb (.slice (some ⟨bw, ow_, none⟩) (k :: t).length cw) (.slice (some ⟨bl, ol, none⟩) (k :: t).length cl) (.slice (some ⟨bo, oo, none⟩) l.length co) (k :: t) (x :: lfs t lf) (ou.set k (a.begin i)) sa7 pb6 xb7 ∧ Upd (fun _ => False) w wx ∧ Blk wx w.heap.size 23 #[.bool rf, .int .i64 C, .int .i64 T])
                case first =>
                  cases bb with
                  | true =>
                    have hb : a.b = -1 := by have h := of_decide_eq_true HBB.out; omega
                    obtain ⟨hI, hU⟩ := I11.out.outSet k a HA.out 2 (by decide) (i : Int) (a.begin i) (by unfold An.begin; rw [if_pos hb]; rfl)
                    have I12 := Lib.hid hI; have U12 := Lib.hid (upd_ge U11.out hU)
                    have B12 : Hid (Blk (w11.setCell ⟨bo, oo + k * 4 + 2, none⟩ (.int .i64 (i : Int))) w.heap.size 23 #[.bool rf, .int .i64 C, .int .i64 T]) := Lib.hid (B11.out.upd ((Upd.refl (fun q => q = bo) w11).setCell (p := ⟨bo, oo + k * 4 + 2, none⟩) (fun _ => rfl) _) (fun e => by
                      obtain ⟨_, _, cur, hc⟩ := Sl.blk I11.out.o bo rfl
                      exact hc.ne_ B11.out (by decide) e.symm))
                    clear hI hU hb hab
                    go_wp2_with fail
                    go_meet
                    exact ⟨I12.out, U12.out, B12.out⟩
                  | false =>
                    have hb : ¬ a.b = -1 := by have h := of_decide_eq_false HBB.out; omega
                    have hse : ou.set k (a.begin i) = ou := by
                      have e1 : a.begin i = a := by unfold An.begin; rw [if_neg hb]
                      rw [e1]
                      have := (List.getElem?_eq_some_iff.1 HA.out).2
                      rw [← this]
                      exact List.set_getElem_self _
                    have I12 : Hid (InW w11 w.heap.size ga gb (.slice (some ⟨bw, ow_, none⟩) (k :: t).length cw) (.slice (some ⟨bl, ol, none⟩) (k :: t).length cl) (.slice (some ⟨bo, oo, none⟩) l.length co) (k :: t) (x :: lfs t lf) (ou.set k (a.begin i)) sa7 pb6 xb7) := Lib.hid (by rw [hse]; exact I11.out)
                    clear hse hb hab
                    go_wp2_with fail
                    go_meet
                    exact ⟨I12.out, U11.out, B11.out⟩
                obtain ⟨hI, hU, hB⟩ := hcut
                have I12 := Lib.hid hI; have U12 := Lib.hid hU; have B12 := Lib.hid hB
                clear hI hU hB I11 U11 B11 cq0 co2 fo2
                have cl0 : wc.cell? ⟨bl, ol, none⟩ = some (.int .i64 x) := by have h := I12.out.l.cell encI_len 0 _ rfl 0 _ rfl; simpa using h
                have fl0 : wc.frozen? ⟨bl, ol, none⟩ = false := by have h := I12.out.l.frozen ol; simpa using h
                obtain ⟨hI, hU⟩ := I12.out.leftSet (x - 1)
                have B13 : Hid (Blk (wc.setCell ⟨bl, ol, none⟩ (.int .i64 (x - 1))) w.heap.size 23 #[.bool rf, .int .i64 C, .int .i64 T]) := Lib.hid (B12.out.upd ((Upd.refl (fun q => q = bl) wc).setCell (p := ⟨bl, ol, none⟩) (fun _ => rfl) _) (fun e => by
                  obtain ⟨_, _, cur, hc⟩ := Sl.blk I12.out.l bl rfl
                  exact hc.ne_ B12.out (by decide) e.symm))
                have I13 := Lib.hid hI; have U13 := Lib.hid (upd_ge U12.out hU)
                clear hI hU I12 U12 B12
                have wx1 : IntKind.i64.wrap (x - 1) = x - 1 := Ck.wrap_in _ (by omega) (by omega)
                go_upto_region 35 with fail
                generalize wc.setCell ⟨bl, ol, none⟩ (.int .i64 (x - 1)) = w13 at *
                clear cl0 fl0
                have HRN : Hid (({ bs := sb.go i (decide (0 < (k :: t).length)), wait := k :: t, left := lf, out := ou, next := nx } : Rn).bs.live = true) := LV2
                by_cases hx1' : x = 1
                · subst hx1'
                  have cl0 : w13.cell? ⟨bl, ol, none⟩ = some (.int .i64 0) := by have h := I13.out.l.cell encI_len 0 _ rfl 0 _ rfl; simpa using h
                  have HUS : Hid (s.tick own i = { bs := if t = [] then (sb.go i (decide (0 < (k :: t).length))).use.done else (sb.go i (decide (0 < (k :: t).length))).use, wait := t, left := lf.set k 0, out := ou.set k { a.begin i with d := (i : Int) + 1 }, next := nx }) := Lib.hid (by
                    rw [HGO.out, use_last rfl LV2.out HA.out HX.out])
                  have hoa : (ou.set k (a.begin i))[k]? = some (a.begin i) := List.getElem?_set_self hka
                  obtain ⟨hI, hU⟩ := I13.out.outSet k (a.begin i) hoa 3 (by decide) ((i : Int) + 1) { a.begin i with d := (i : Int) + 1 } rfl
                  rw [List.set_set] at hI
                  have fo3 := I13.out.o.frozen (oo + k * 4 + 3)
                  have co3 : w13.cell? ⟨bo, oo + k * 4 + 3, none⟩ = some (.int .i64 (a.begin i).d) := I13.out.o.cell encA_len k (a.begin i) hoa 3 _ rfl
                  have B14 : Hid (Blk (w13.setCell ⟨bo, oo + k * 4 + 3, none⟩ (.int .i64 ((i : Int) + 1))) w.heap.size 23 #[.bool rf, .int .i64 C, .int .i64 T]) := Lib.hid (B13.out.upd ((Upd.refl (fun q => q = bo) w13).setCell (p := ⟨bo, oo + k * 4 + 3, none⟩) (fun _ => rfl) _) (fun e => by
                    obtain ⟨_, _, cur, hc⟩ := Sl.blk I13.out.o bo rfl
                    exact hc.ne_ B13.out (by decide) e.symm))
                  have I14 := Lib.hid hI; have U14 := Lib.hid (upd_ge U13.out hU)
                  clear hI hU hoa I13 U13 B13
                  go_upto_region 37 with fail
                  generalize w13.setCell ⟨bo, oo + k * 4 + 3, none⟩ (.int .i64 ((i : Int) + 1)) = w14 at *
                  clear cl0 fo3 co3
                  obtain ⟨vq, hvq, hqs, hqb⟩ := Sl.tailv (P := Try.prog) (ts := 38) (m := t.length) (ys := rws encI (idx t)) Try.underlying38 sizeIntR (by have h := I14.out.q; unfold SlR at h; rw [idx_len] at h; exact h) (rws_drop1 encI_len _ _)
                  obtain ⟨vl, hvl, hls, hlb⟩ := Sl.tailv (P := Try.prog) (ts := 38) (m := t.length) (ys := rws encI (lfs t lf)) Try.underlying38 sizeIntR (show Sl w14 w.heap.size 3 1 (.slice (some ⟨bl, ol, none⟩) (t.length + 1) cl) (t.length + 1) (rws encI ((1 - 1) :: lfs t lf)) by have h := I14.out.l; unfold SlR at h; simp only [List.length_cons, lfs_len] at h; exact h) (rws_drop1 encI_len _ _)
                  obtain ⟨Aq, cq, rfl⟩ := Sl.shape hqs
                  obtain ⟨Av, cv, rfl⟩ := Sl.shape hls
                  have hvq' : ∀ w', (Instr.sliceAt 38 (.slice (some ⟨bw, ow_, none⟩) (k :: t).length cw) (some (.int .i64 1)) none none).run Try.prog w' = .ok (.slice Aq t.length cq) w' := hvq
                  have hvl' : ∀ w', (Instr.sliceAt 38 (.slice (some ⟨bl, ol, none⟩) (k :: t).length cl) (some (.int .i64 1)) none none).run Try.prog w' = .ok (.slice Av t.length cv) w' := hvl
                  rw [List.length_cons] at hvq' hvl'
                  have J1 := I14.out.turnW (wt' := t) (w' := w14) (v' := .slice Aq t.length cq) (by unfold SlR; rw [idx_len]; exact hqs) (Upd.refl _ _) (fun q hq => .inl (by rw [hqb] at hq; exact hq))
                  have J2 := J1.turnL (lf' := lfs t lf) (w' := w14) (v' := .slice Av t.length cv) (by unfold SlR; rw [lfs_len]; exact hls) (Upd.refl _ _) (fun q hq => .inl (by rw [hlb] at hq; exact hq))
                  have I15 : Hid (InW w14 w.heap.size ga gb (.slice Aq t.length cq) (.slice Av t.length cv) (.slice (some ⟨bo, oo, none⟩) l.length co) t (lfs t (lf.set k 0)) (ou.set k { a.begin i with d := (i : Int) + 1 }) sa7 pb6 xb7) := Lib.hid (by rw [lfs_set _ _ _ _ HKT.out]; exact J2)
                  clear hvq hvl hqs hls hqb hlb J1 J2 I14
                  go_quiet (fail)
                  have I16 := Lib.hid (I15.out.still ((Upd.refl (fun _ => False) w14).drewN nq)); have U16 := Lib.hid (U14.out.drewN nq); have B16 := Lib.hid (B14.out.drewN nq)
                  clear I15 U14 B14 hvq' hvl'
                  generalize w14.drewN nq = w15 at *
                  cases t with
                  | nil =>
                    go_wp2_with fail
                    refine (Ck.doneR w15 w.heap.size ga sa7 I16.out.a U16.out.size FA10.out).mono ?_
                    rintro e w16 ⟨rfl, hr, ht⟩
                    have I17 := Lib.hid (I16.out.turnA hr ht); have U17 := Lib.hid (upd_tu U16.out ht); have B17 := Lib.hid (B16.out.tu ht (by decide))
                    clear hr ht I16 U16 B16
                    go_wp2_with fail
                    refine (doneQ w16 w.heap.size gb pb6 xb7 I17.out.b FB11.out).mono ?_
                    rintro e w17 ⟨rfl, hr, ht⟩
                    have I18 := Lib.hid (I17.out.turnB hr ht); have U18 := Lib.hid (upd_tu U17.out ht); have B18 := Lib.hid (B17.out.tu ht (by decide))
                    have SEL18 : Hid (Sel rf sa7.done { pb6 with free := pb6.free + Rf.sumL xb7 } [] = (sb.go i (decide (0 < [k].length))).use.done) := Lib.hid (by rw [Sel.done, SEL11.out])
                    clear hr ht I17 U17 B17
                    go_wp2_with fail
                    go_roundw
                    case rel => exact ⟨i + 1, _, _, _, _, by have := HIN.out; omega, rfl, by go_num, by rw [HST.out, HUS.out], by rw [HST.out, HUS.out]; exact I18.out, by rw [HST.out, HUS.out]; exact SEL18.out, FA10.out.done, FB11.out.done, U18.out, B18.out⟩
                    case measure => simp [intOf]; have := HIN.out; omega
                  | cons k2 t2 =>
                    go_wp2_with fail
                    go_roundw
                    case rel => exact ⟨i + 1, _, _, _, _, by have := HIN.out; omega, rfl, by go_num, by rw [HST.out, HUS.out], by rw [HST.out, HUS.out]; exact I16.out, by rw [HST.out, HUS.out]; exact SEL11.out, FA10.out, FB11.out, U16.out, B16.out⟩
                    case measure => simp [intOf]; have := HIN.out; omega
                · have cl0 : w13.cell? ⟨bl, ol, none⟩ = some (.int .i64 (x - 1)) := by have h := I13.out.l.cell encI_len 0 _ rfl 0 _ rfl; simpa using h
                  have e0 : ((x - 1) == 0) = false := beq_eq_false_iff_ne.2 (by omega)
                  have HUS : Hid (s.tick own i = { bs := (sb.go i (decide (0 < (k :: t).length))).use, wait := k :: t, left := lf.set k (x - 1), out := ou.set k (a.begin i), next := nx }) := Lib.hid (by
                    rw [HGO.out, use_more rfl LV2.out HA.out HX.out (by omega)])
                  have I14 : Hid (InW w13 w.heap.size ga gb (.slice (some ⟨bw, ow_, none⟩) (k :: t).length cw) (.slice (some ⟨bl, ol, none⟩) (k :: t).length cl) (.slice (some ⟨bo, oo, none⟩) l.length co) (k :: t) (lfs (k :: t) (lf.set k (x - 1))) (ou.set k (a.begin i)) sa7 pb6 xb7) := Lib.hid (by
                    rw [lfs_cons k t (lf.set k (x - 1)) (x - 1) (List.getElem?_set_self (List.getElem?_eq_some_iff.1 HX.out).1), lfs_set _ _ _ _ HKT.out]
                    exact I13.out)
                  have e8 : (((t.length + 1 : Nat) : Int) == 0) = false := beq_eq_false_iff_ne.2 (by omega)
                  go_wp2_with fail
                  go_roundw
                  case rel => exact ⟨i + 1, _, _, _, _, by have := HIN.out; omega, rfl, by go_num, by rw [HST.out, HUS.out], by rw [HST.out, HUS.out]; exact I14.out, by rw [HST.out, HUS.out]; exact SEL11.out, FA10.out, FB11.out, U13.out, B13.out⟩
                  case measure => simp [intOf]; have := HIN.out; omega
            · have hie : i = n := by omega
              subst hie
              go_wp2_with fail
              refine bodyPost_ret (v := .tuple #[.slice Ao l.length co, .int .i64 0]) (by simp [results, Try.results13, go_sem]) rfl ⟨.slice Ao l.length co, ?_, ?_, UW.out⟩
              · rw [resX_yes rf C T own i l HOK.out HFX.out]
              · rw [resX_yes rf C T own i l HOK.out HFX.out, ← HS0.out]
                exact IR.out.o
end Go.Proofs.Ytcgefncddbbnlaa

namespace Go.Proofs.Ytcgefncddbbnlaa
open Go.RowKit
attribute [local go_sem] max_ints min_ints

theorem resX_len (rf : Bool) (C T : Int) (bad : Bool) (own : Int → Bool) (n : Int) (hn : n ≤ 600) (l : List (Int × Int)) : (resX rf C T bad own n l).1.length ≤ l.length := by
  unfold resX
  split
  · simp
  · split
    · simp
    next h1 h2 =>
      have hok : Cf.okS C T = true := by simpa using h1
      have hf : fineX n l = true := by
        cases h : fineX n l with
        | true => rfl
        | false => exact absurd (.inl h) h2
      have hk := (RnOk.new rf C T l hok (fineA_work 0 l (fineX_parts hf).2.2.2)).run own n.toNat (by omega)
      show (Rn.run own (Rn.new rf C T l) n.toNat).out.length ≤ l.length
      rw [hk.out]
      exact Nat.le_refl _

set_option maxRecDepth 100000 in
set_option maxHeartbeats 3200000 in
theorem sameC (w : World) (b1 b2 : Nat) (v1 v2 : Value) (L : List An) (h1 : SlR encA w b1 37 4 v1 L) (h2 : SlR encA w b2 66 4 v2 L) (hl : L.length ≤ 1000) :
    Calls Try.prog 14 #[v1, v2] w fun e w' => e = .returned (.bool true) ∧ Upd (fun _ => False) w w' := by
  obtain ⟨A1, c1, rfl⟩ := h1.shape
  obtain ⟨A2, c2, rfl⟩ := h2.shape
  have H1 := Lib.hid h1; have H2 := Lib.hid h2
  clear h1 h2
  go_enter Try.func14, Try.ntmps14
  go_wp2_with fail
  go_loopw [5] (fun v5 wr => ∃ (i : Nat), i ≤ L.length ∧ v5 = .int .i64 i ∧ Upd (fun _ => False) w wr) (fun v5 _ => L.length - (intOf v5).toNat)
  case atStart => exact ⟨0, Nat.zero_le _, rfl, Upd.refl _ _⟩
  case round =>
    obtain ⟨i, hi, rfl, hU⟩ := hrel
    have UR := Lib.hid hU
    by_cases hlt : i < L.length
    · obtain ⟨a, ha⟩ : ∃ a, L[i]? = some a := ⟨_, List.getElem?_eq_getElem hlt⟩
      have g1 : SlR encA wr b1 37 4 (.slice A1 L.length c1) L := H1.out.upd hU (fun _ _ h => h)
      have g2 : SlR encA wr b2 66 4 (.slice A2 L.length c2) L := H2.out.upd hU (fun _ _ h => h)
      obtain ⟨lb, lo, lc, e1, _, _, _, _⟩ := g1.form (by omega)
      injection e1 with e1 e1b e1c
      subst e1; subst e1c
      obtain ⟨mb, mo, mc, e2, _, _, _, _⟩ := g2.form (by omega)
      injection e2 with e2 e2b e2c
      subst e2; subst e2c
      have c0 : wr.cell? ⟨lb, lo + i * 4, none⟩ = some (.int .i64 a.t) := g1.cell encA_len i a ha 0 _ rfl
      have c1 : wr.cell? ⟨lb, lo + i * 4 + 1, none⟩ = some (.int .i64 a.w) := g1.cell encA_len i a ha 1 _ rfl
      have c2 : wr.cell? ⟨lb, lo + i * 4 + 2, none⟩ = some (.int .i64 a.b) := g1.cell encA_len i a ha 2 _ rfl
      have c3 : wr.cell? ⟨lb, lo + i * 4 + 3, none⟩ = some (.int .i64 a.d) := g1.cell encA_len i a ha 3 _ rfl
      have d0 : wr.cell? ⟨mb, mo + i * 4, none⟩ = some (.int .i64 a.t) := g2.cell encA_len i a ha 0 _ rfl
      have d1 : wr.cell? ⟨mb, mo + i * 4 + 1, none⟩ = some (.int .i64 a.w) := g2.cell encA_len i a ha 1 _ rfl
      have d2 : wr.cell? ⟨mb, mo + i * 4 + 2, none⟩ = some (.int .i64 a.b) := g2.cell encA_len i a ha 2 _ rfl
      have d3 : wr.cell? ⟨mb, mo + i * 4 + 3, none⟩ = some (.int .i64 a.d) := g2.cell encA_len i a ha 3 _ rfl
      have dl : decide ((i : Int) < (L.length : Int)) = true := decide_eq_true (by omega)
      have di : decide ((i : Int) < 0) = false := decide_eq_false (by omega)
      clear ha g1 g2 e1b e2b hU
      go_upto_region 6 with fail
      go_quiet (fail)
      go_wp2_with fail
      go_roundw
      case rel => exact ⟨i + 1, by omega, by go_num, UR.out.drewN _⟩
      case measure => simp [intOf]; omega
    · have hie : i = L.length := by omega
      subst hie
      go_wp2_with fail
      go_returns
      exact ⟨rfl, UR.out⟩

set_option maxRecDepth 100000 in
set_option maxHeartbeats 12800000 in
theorem tellsC (w : World) (rf : Bool) (C T ticks : Int) (A : Option Addr) (cap : Nat) (l : List (Int × Int)) (hc : QRow w A l) (n M : Int) (Aw : Option Addr) (capw : Nat) (ws : List Fr.W3) (hw : Fr.RdW w (.slice Aw ws.length capw) ws) (p : Int) :
    Calls Try.prog 4 #[.agg #[.bool rf, .int .i64 C, .int .i64 T], .int .i64 ticks, .slice A l.length cap, .int .i64 n, .int .i64 M, .slice Aw ws.length capw, .int .i64 p] w fun e w' => e = .returned (.bool true) ∧ Upd (fun _ => False) w w' := by
  have ua := (Upd.refl (fun _ => False) w).alloc (.cells #[.bool rf, .int .i64 C, .int .i64 T] 23)
  have BB := Lib.hid (Blk.new w 23 #[.bool rf, .int .i64 C, .int .i64 T])
  generalize hw0 : w.alloc (.cells #[.bool rf, .int .i64 C, .int .i64 T] 23) = w0 at *
  have HW0 := Lib.hid hw0
  have U0 := Lib.hid ua; have Q0 := Lib.hid (hc.still ua); have W0 := Lib.hid (hw.still ua)
  clear ua hc hw hw0
  obtain ⟨no, hno⟩ : ∃ no, (decide (600 < ticks) || decide (60 < l.length) || decide (60 < ws.length)) = no := ⟨_, rfl⟩
  have HNO := Lib.hid hno
  clear hno
  go_enter Try.func4, Try.ntmps4
  go_upto_region 1 with fail
  rw [HW0.out]
  have KN : Hid (∀ wk, Upd (fun _ => False) w wk → Calls Try.prog 7 #[] wk fun e w' => e = .returned (.bool true) ∧ Upd (fun _ => False) w w') := Lib.hid (fun wk hu => (knowsC wk).mono (fun e w' ⟨h1, h2⟩ => ⟨h1, hu.trans h2⟩))
  go_cut [35] from 24 to 35 (fun s35 wx => s35 = .bool no ∧ wx = w0)
  case first =>
    by_cases h1 : 600 < ticks
    · have d1 : decide (600 < ticks) = true := decide_eq_true h1
      obtain rfl : true = no := by rw [← HNO.out, d1]; rfl
      clear h1
      go_wp2_with fail
      go_meet
      exact ⟨rfl, rfl⟩
    · have d1 : decide (600 < ticks) = false := decide_eq_false h1
      by_cases h2 : 60 < l.length
      · have d2 : decide (60 < (l.length : Int)) = true := decide_eq_true (by omega)
        have d2n : decide (60 < l.length) = true := decide_eq_true h2
        obtain rfl : true = no := by rw [← HNO.out, d1, d2n]; rfl
        clear h1
        go_wp2_with fail
        go_meet
        exact ⟨rfl, rfl⟩
      · have d2 : decide (60 < (l.length : Int)) = false := decide_eq_false (by omega)
        have d2n : decide (60 < l.length) = false := decide_eq_false h2
        by_cases h3 : 60 < ws.length
        · have d3 : decide (60 < (ws.length : Int)) = true := decide_eq_true (by omega)
          have d3n : decide (60 < ws.length) = true := decide_eq_true h3
          obtain rfl : true = no := by rw [← HNO.out, d1, d2n, d3n]; rfl
          clear h1
          go_wp2_with fail
          go_meet
          exact ⟨rfl, rfl⟩
        · have d3 : decide (60 < (ws.length : Int)) = false := decide_eq_false (by omega)
          have d3n : decide (60 < ws.length) = false := decide_eq_false h3
          obtain rfl : false = no := by rw [← HNO.out, d1, d2n, d3n]; rfl
          clear h1
          go_wp2_with fail
          go_meet
          exact ⟨rfl, rfl⟩
  obtain ⟨rfl, rfl⟩ := hcut
  cases no with
  | true =>
    go_wp2_with fail
    refine (KN.out _ U0.out).mono ?_
    rintro e w1 ⟨rfl, hU⟩
    have U1 := Lib.hid hU
    clear hU
    go_wp2_with fail
    go_returns
    exact ⟨rfl, U1.out⟩
  | false =>
    have hh := HNO.out
    simp only [Bool.or_eq_false_iff, decide_eq_false_iff_not] at hh
    have HT6 : Hid (ticks ≤ 600) := Lib.hid (by omega)
    have HL6 : Hid (l.length ≤ 60) := Lib.hid (by omega)
    clear hh HNO
    go_upto_region 3 with fail
    refine wp_region_treeF (.q 0 (.q 1 (.q 2 (.l 3 (.l 4 (.q 5 (.q 6 (.q 7 (.q 8 (.q 9 .d)))))))))) (fun _ => false) (fun _ => false) (fun w' => w'.cell? ⟨w.heap.size, 0, none⟩ = some (.bool rf) ∧ w'.cell? ⟨w.heap.size, 1, none⟩ = some (.int .i64 C) ∧ w'.cell? ⟨w.heap.size, 2, none⟩ = some (.int .i64 T))
      (by kernel_rfl) (by kernel_rfl) (by kernel_rfl) (fun t ht => by cases ht) (fun _ _ _ _ _ h => h) (by kernel_rfl) rfl ⟨(BB.out.drewN 1).cell 0, (BB.out.drewN 1).cell 1, (BB.out.drewN 1).cell 2⟩ ?_
    iterate 3
      first
      | refine wpOF_skip (by rfl) (by rfl) ?_
      | (refine' wpOF_q (by rfl) (by rfl) (by rfl) (fun w' hS' => ?_) ?_
         rotate_left
         · obtain ⟨s1, s2, s3⟩ := hS'
           go_simp
           try rfl)
      try simp only [Act.put, List.setIfInBounds_toArray, List.set_cons_zero, List.set_cons_succ]
    have ud := (Upd.refl (fun _ => False) wc).drew
    have B1 := Lib.hid (BB.out.upd ud (fun h => h)); have U1 := Lib.hid (U0.out.trans ud); have Q1 := Lib.hid (Q0.out.still ud); have W1 := Lib.hid (W0.out.still ud)
    clear ud BB U0 Q0 W0
    generalize wc.drew = w1 at *
    refine wpOF_l (by rfl) (by rfl) (fun KQ hKQ => ?_)
    go_simp
    go_at_call 9
    refine (asksC w1 A cap l (by have := HL6.out; omega) Q1.out).mono ?_
    rintro e w2 ⟨vq, rfl, hS, hU⟩
    have B2 := Lib.hid (B1.out.upd hU (fun h => h)); have U2 := Lib.hid (U1.out.trans hU); have Q2 := Lib.hid (Q1.out.still hU); have W2 := Lib.hid (W1.out.still hU)
    have S2 := Lib.hid (Sl.mono hS (Nat.zero_le _))
    clear hU hS B1 U1 Q1 W1
    refine hKQ _ _ (.inr ⟨B2.out.cell 0, B2.out.cell 1, B2.out.cell 2⟩) ?_
    clear hKQ KQ
    try simp only [Act.put, List.setIfInBounds_toArray, List.set_cons_zero, List.set_cons_succ]
    refine wpOF_l (by rfl) (by rfl) (fun KQ hKQ => ?_)
    go_simp
    go_at_call 8
    refine (runC w2 rf C T ticks vq l S2.out (by have := HL6.out; omega)).mono ?_
    rintro e w3 ⟨ov, rfl, hS, hU⟩
    obtain ⟨L, er, hLe⟩ : ∃ L er, resX rf C T false (fun _ => true) ticks l = (L, er) := ⟨_, _, rfl⟩
    have HLE := Lib.hid hLe
    have HLL : Hid (L.length ≤ 1000) := Lib.hid (by have h := resX_len rf C T false (fun _ => true) ticks HT6.out l; rw [hLe] at h; dsimp only at h; have := HL6.out; omega)
    rw [hLe] at hS ⊢
    have B3 := Lib.hid (B2.out.upd hU (fun h => h)); have U3 := Lib.hid (U2.out.trans hU); have Q3 := Lib.hid (Q2.out.still hU); have W3' := Lib.hid (W2.out.still hU)
    have S3 : Hid (SlR encA w3 w2.heap.size 37 4 ov L) := Lib.hid hS
    clear hU hS B2 U2 Q2 W2 S2 hLe
    refine hKQ _ _ (.inr ⟨B3.out.cell 0, B3.out.cell 1, B3.out.cell 2⟩) ?_
    clear hKQ KQ
    try simp only [Act.put, List.setIfInBounds_toArray, List.set_cons_zero, List.set_cons_succ]
    iterate 5
      first
      | refine wpOF_skip (by rfl) (by rfl) ?_
      | (refine' wpOF_q (by rfl) (by rfl) (by rfl) (fun w' hS' => ?_) ?_
         rotate_left
         · obtain ⟨s1, s2, s3⟩ := hS'
           go_simp
           try rfl)
      try simp only [Act.put, List.setIfInBounds_toArray, List.set_cons_zero, List.set_cons_succ]
    refine wpOF_d ?_
    have b0 : w3.cell? ⟨w.heap.size, 0, none⟩ = some (.bool rf) := B3.out.cell 0
    have b1 : w3.cell? ⟨w.heap.size, 1, none⟩ = some (.int .i64 C) := B3.out.cell 1
    have b2 : w3.cell? ⟨w.heap.size, 2, none⟩ = some (.int .i64 T) := B3.out.cell 2
    go_wp2_with fail
    refine (docInC w3 rf C T (.pointer none) 0 ticks A cap l Q3.out (fun _ => true) false (.inl ⟨rfl, rfl, fun _ => rfl⟩) (by have := HL6.out; omega)).mono ?_
    rintro e w4 ⟨dv, rfl, hS, hU⟩
    rw [HLE.out] at hS ⊢
    have B4 := Lib.hid (B3.out.upd hU (fun h => h)); have U4 := Lib.hid (U3.out.trans hU); have Q4 := Lib.hid (Q3.out.still hU); have W4 := Lib.hid (W3'.out.still hU); have S4 := Lib.hid (S3.out.upd hU (fun _ _ h => h))
    have D4 : Hid (SlR encA w4 w3.heap.size 66 4 dv L) := Lib.hid hS
    clear hU hS B3 U3 Q3 W3' S3 b0 b1 b2
    go_wp2_with fail
    refine (sameC w4 _ _ ov dv L S4.out D4.out HLL.out).mono ?_
    rintro e w5 ⟨rfl, hU⟩
    have B5 := Lib.hid (B4.out.upd hU (fun h => h)); have U5 := Lib.hid (U4.out.trans hU); have Q5 := Lib.hid (Q4.out.still hU); have W5 := Lib.hid (W4.out.still hU)
    clear hU B4 U4 Q4 W4 S4 D4
    go_wp2_with fail
    refine (numC w5 er).mono ?_
    rintro e w6 ⟨rfl, hU⟩
    have B6 := Lib.hid (B5.out.upd hU (fun h => h)); have U6 := Lib.hid (U5.out.trans hU); have Q6 := Lib.hid (Q5.out.still hU); have W6 := Lib.hid (W5.out.still hU)
    clear hU B5 U5 Q5 W5
    have hbn : (er != er) = false := by simp
    cases hr : Fr.rightB n M ws with
    | false =>
      have HR := Lib.hid hr
      clear hr
      go_wp2_with fail
      refine (Fr.refNo w6 n M _ ws W6.out HR.out).mono ?_
      rintro e w7 ⟨rfl, hU⟩
      have U7 := Lib.hid (U6.out.trans hU)
      clear hU
      go_wp2_with fail
      refine (KN.out _ U7.out).mono ?_
      rintro e w8 ⟨rfl, hU⟩
      have U8 := Lib.hid hU
      clear hU
      go_wp2_with fail
      go_returns
      exact ⟨rfl, U8.out⟩
    | true =>
      obtain ⟨f1, f2⟩ : 1 ≤ n ∧ n ≤ 256 := by
        have hr := hr
        unfold Fr.rightB at hr
        simp only [Bool.and_eq_true, decide_eq_true_eq] at hr
        exact ⟨hr.1.1, hr.1.2.1⟩
      obtain ⟨F, rfl⟩ : ∃ F : Nat, n = F := ⟨n.toNat, by omega⟩
      have HR := Lib.hid hr
      clear hr f1 f2
      go_wp2_with fail
      refine (Fr.refYes w6 F M _ ws W6.out HR.out).mono ?_
      rintro e w7 ⟨gr, rfl, hT, hU⟩
      have B7 := Lib.hid (B6.out.upd hU (fun h => h)); have U7 := Lib.hid (U6.out.trans hU); have Q7 := Lib.hid (Q6.out.still hU); have W7 := Lib.hid (W6.out.still hU); have R7 := Lib.hid hT
      clear hU hT B6 U6 Q6 W6
      go_upto_region 10 with fail
      refine wp_region_treeF (.q 0 (.q 1 (.q 2 (.q 3 (.q 5 (.q 6 (.q 7 (.l 4 (.l 8 (.l 9 (.q 10 (.q 11 (.q 12 (.q 13 (.q 14 .d))))))))))))))) (fun _ => false) (fun _ => false) (fun w' => w'.cell? ⟨w.heap.size, 0, none⟩ = some (.bool rf) ∧ w'.cell? ⟨w.heap.size, 1, none⟩ = some (.int .i64 C) ∧ w'.cell? ⟨w.heap.size, 2, none⟩ = some (.int .i64 T))
        (by kernel_rfl) (by kernel_rfl) (by kernel_rfl) (fun t ht => by cases ht) (fun _ _ _ _ _ h => h) (by kernel_rfl) rfl ⟨(B7.out.drewN 1).cell 0, (B7.out.drewN 1).cell 1, (B7.out.drewN 1).cell 2⟩ ?_
      iterate 7
        first
        | refine wpOF_skip (by rfl) (by rfl) ?_
        | (refine' wpOF_q (by rfl) (by rfl) (by rfl) (fun w' hS' => ?_) ?_
           rotate_left
           · obtain ⟨s1, s2, s3⟩ := hS'
             go_simp
             try rfl)
        try simp only [Act.put, List.setIfInBounds_toArray, List.set_cons_zero, List.set_cons_succ]
      have ud := (Upd.refl (fun _ => False) w7).drew
      have B8 := Lib.hid (B7.out.upd ud (fun h => h)); have U8 := Lib.hid (U7.out.trans ud); have Q8 := Lib.hid (Q7.out.still ud); have W8 := Lib.hid (W7.out.still ud); have R8 := Lib.hid (R7.out.still ud)
      clear ud B7 U7 Q7 W7 R7
      generalize w7.drew = w8 at *
      refine wpOF_l (by rfl) (by rfl) (fun KQ hKQ => ?_)
      go_simp
      go_at_call 17
      refine (Fr.ownYes w8 F M _ ws W8.out HR.out).mono ?_
      rintro e w9 ⟨bt, gt, rfl, hg, hT, hU⟩
      have B9 := Lib.hid (B8.out.upd hU (fun h => h)); have U9 := Lib.hid (U8.out.trans hU); have Q9 := Lib.hid (Q8.out.still hU); have R9 := Lib.hid (R8.out.still hU); have T9 := Lib.hid hT
      clear hU hT hg B8 U8 Q8 W8 R8
      refine hKQ _ _ (.inr ⟨B9.out.cell 0, B9.out.cell 1, B9.out.cell 2⟩) ?_
      clear hKQ KQ
      try simp only [Act.put, List.setIfInBounds_toArray, List.set_cons_zero, List.set_cons_succ]
      refine wpOF_l (by rfl) (by rfl) (fun KQ hKQ => ?_)
      go_simp
      go_at_call 9
      refine (asksC w9 A cap l (by have := HL6.out; omega) Q9.out).mono ?_
      rintro e wa ⟨vq, rfl, hS, hU⟩
      have Ba := Lib.hid (B9.out.upd hU (fun h => h)); have Ua := Lib.hid (U9.out.trans hU); have Qa := Lib.hid (Q9.out.still hU); have Ra := Lib.hid (R9.out.still hU); have Ta := Lib.hid (T9.out.still hU)
      have Sa := Lib.hid (Sl.mono hS (Nat.zero_le _))
      clear hU hS B9 U9 Q9 R9 T9
      refine hKQ _ _ (.inr ⟨Ba.out.cell 0, Ba.out.cell 1, Ba.out.cell 2⟩) ?_
      clear hKQ KQ
      try simp only [Act.put, List.setIfInBounds_toArray, List.set_cons_zero, List.set_cons_succ]
      refine wpOF_l (by rfl) (by rfl) (fun KQ hKQ => ?_)
      go_simp
      go_at_call 16
      refine (inC wa rf C T bt gt F M ws p ticks vq l Ta.out Sa.out (by have := HL6.out; omega)).mono ?_
      rintro e wb ⟨ov, rfl, hS, hU⟩
      obtain ⟨ow, how⟩ : ∃ ow : Int → Bool, (fun t => decide (0 < Fr.cntF M ws p F t 1)) = ow := ⟨_, rfl⟩
      obtain ⟨bd, hbd⟩ : ∃ bd, decide (Fr.cntO M ws p F = 0) = bd := ⟨_, rfl⟩
      rw [how, hbd] at hS ⊢
      obtain ⟨K, ek, hKe⟩ : ∃ K ek, resX rf C T bd ow ticks l = (K, ek) := ⟨_, _, rfl⟩
      have HKE := Lib.hid hKe
      have HKL : Hid (K.length ≤ 1000) := Lib.hid (by have h := resX_len rf C T bd ow ticks HT6.out l; rw [hKe] at h; dsimp only at h; have := HL6.out; omega)
      rw [hKe] at hS ⊢
      have HOW : Hid (∀ t : Int, ow t = Fr.isO M ws p (t % F)) := Lib.hid (fun t => by
        rw [← how]
        have e : Fr.cntF M ws p F t 1 = if Fr.isO M ws p (t % F) then 1 else 0 := by
          show 0 + (if Fr.isO M ws p ((t + ((0 : Nat) : Int)) % F) then 1 else 0) = _
          rw [show t + ((0 : Nat) : Int) = t by omega]
          omega
        dsimp only
        rw [e]
        cases Fr.isO M ws p (t % F) <;> simp)
      have HBD := Lib.hid hbd
      have Bb := Lib.hid (Ba.out.upd hU (fun h => h)); have Ub := Lib.hid (Ua.out.trans hU); have Qb := Lib.hid (Qa.out.still hU); have Rb := Lib.hid (Ra.out.still hU)
      have Sb : Hid (SlR encA wb wa.heap.size 37 4 ov K) := Lib.hid hS
      clear hU hS Ba Ua Qa Ra Ta Sa how hbd hKe
      refine hKQ _ _ (.inr ⟨Bb.out.cell 0, Bb.out.cell 1, Bb.out.cell 2⟩) ?_
      clear hKQ KQ
      try simp only [Act.put, List.setIfInBounds_toArray, List.set_cons_zero, List.set_cons_succ]
      iterate 5
        first
        | refine wpOF_skip (by rfl) (by rfl) ?_
        | (refine' wpOF_q (by rfl) (by rfl) (by rfl) (fun w' hS' => ?_) ?_
           rotate_left
           · obtain ⟨s1, s2, s3⟩ := hS'
             go_simp
             try rfl)
        try simp only [Act.put, List.setIfInBounds_toArray, List.set_cons_zero, List.set_cons_succ]
      refine wpOF_d ?_
      have b0 : wb.cell? ⟨w.heap.size, 0, none⟩ = some (.bool rf) := Bb.out.cell 0
      have b1 : wb.cell? ⟨w.heap.size, 1, none⟩ = some (.int .i64 C) := Bb.out.cell 1
      have b2 : wb.cell? ⟨w.heap.size, 2, none⟩ = some (.int .i64 T) := Bb.out.cell 2
      go_wp2_with fail
      refine (docInC wb rf C T (.pointer (some ⟨gr, 0, none⟩)) p ticks A cap l Qb.out ow bd (.inr ⟨gr, F, M, ws, rfl, Rb.out, HBD.out.symm, HOW.out⟩) (by have := HL6.out; omega)).mono ?_
      rintro e wd ⟨dw, rfl, hS, hU⟩
      rw [HKE.out] at hS ⊢
      have Ud := Lib.hid (Ub.out.trans hU); have Sd := Lib.hid (Sb.out.upd hU (fun _ _ h => h))
      have Dd : Hid (SlR encA wd wb.heap.size 66 4 dw K) := Lib.hid hS
      clear hU hS Bb Ub Qb Rb Sb b0 b1 b2
      go_wp2_with fail
      refine (sameC wd _ _ ov dw K Sd.out Dd.out HKL.out).mono ?_
      rintro e we ⟨rfl, hU⟩
      have Ue := Lib.hid (Ud.out.trans hU)
      clear hU Ud Sd Dd
      go_wp2_with fail
      refine (numC we ek).mono ?_
      rintro e wf ⟨rfl, hU⟩
      have Uf := Lib.hid (Ue.out.trans hU)
      clear hU Ue
      have hbk : (ek == ek) = true := by simp
      go_wp2_with fail
      refine (KN.out _ Uf.out).mono ?_
      rintro e wg ⟨rfl, hU⟩
      have Ug := Lib.hid hU
      clear hU
      go_wp2_with fail
      go_returns
      exact ⟨rfl, Ug.out⟩
theorem serveTells_any (w : World) (s : Bool × Int × Int) (_ : (Lit.int .i64 s.2.1).wf = true ∧ (Lit.int .i64 s.2.2).wf = true) (ticks : Int) (_ : (Lit.int .i64 ticks).wf = true) (A : Option Addr) (len cap : Nat) (ks : Nat → Nat → Int) (_ : ∀ k j, k < len → j < 2 → (Lit.int .i64 (ks k j)).wf = true) (hc : Row2 w A len ks)
    (n : Int) (_ : (Lit.int .i64 n).wf = true) (M : Int) (_ : (Lit.int .i64 M).wf = true) (Aw : Option Addr) (lenw capw : Nat) (xs : Nat → Nat → Int) (_ : ∀ k j, k < lenw → j < 3 → (Lit.int .i64 (xs k j)).wf = true) (hx : Row3 w Aw lenw xs) (p : Int) (_ : (Lit.int .i64 p).wf = true) :
    Calls Try.prog 4 #[.agg #[.bool s.1, .int .i64 s.2.1, .int .i64 s.2.2], .int .i64 ticks, .slice A len cap, .int .i64 n, .int .i64 M, .slice Aw lenw capw, .int .i64 p] w fun e w' => e = .returned (.bool true) ∧ Below w.heap.size w w' := by
  have hR := row3_of (cap := capw) hx
  have h := tellsC w s.1 s.2.1 s.2.2 ticks A cap _ (row2_of hc) n M Aw capw ((List.range lenw).map (fun k => (xs k 0, xs k 1, xs k 2))) (by simpa using hR) p
  rw [List.length_map, List.length_range, List.length_map, List.length_range] at h
  exact h.mono (fun _ _ ⟨h1, h2⟩ => ⟨h1, h2.below (Nat.le_refl _) (fun _ h => h.elim)⟩)
end Go.Proofs.Ytcgefncddbbnlaa
