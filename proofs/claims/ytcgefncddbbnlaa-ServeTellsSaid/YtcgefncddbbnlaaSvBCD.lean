/-
  Serve: a budget of either kind, where it lies.
  Serve: a run where it lies; what comes. (Written by svc.py.)
  Serve: use. (Written by svd.py.)
-/
import Derived.Test.YtcgefncddbbnlaaSvPK
import Derived.Test.YtcgefncddbbnlaaRingC
import Derived.Test.YtcgefncddbbnlaaInts
import Derived.Test.YtcgefncddbbnlaaSeqF
namespace Go.Proofs.Ytcgefncddbbnlaa
open Go.RowKit
attribute [local go_sem] max_ints min_ints

def tsB : List TypeId := [144, 164, 169, 138, 161]
def BuS (w : World) (base : Nat) (bv : Value) (b : Bs) : Prop := match b with
  | .ch s => ∃ g, bv = .iface 127 (.pointer (some ⟨g, 0, none⟩)) ∧ Ck.CSt w base g s
  | .re p xs => ∃ g L, bv = .iface 125 (.pointer (some ⟨g, 0, none⟩)) ∧ base ≤ g ∧ Rf.Bud w base g L p xs
theorem Ck.CSt.tuH {w w' : World} {base g : Nat} {s : Ck.St17} {ts : List TypeId} (h : Ck.CSt w base g s) (hu : Tu base ts w w') (h1 : 144 ∉ ts) (h2 : 164 ∉ ts) (h3 : 169 ∉ ts) : Ck.CSt w' base g s :=
  let ⟨L, K, h⟩ := h; ⟨L, K, h.b.tu hu h1, Sl.tu h.s hu h2, Sl.tu h.k hu h3, h.hg⟩
section
variable {w w' : World} {base : Nat} {bv : Value} {b : Bs}
theorem BuS.tu {ts : List TypeId} (h : BuS w base bv b) (hu : Tu base ts w w') (hs : ∀ t ∈ ts, t ∉ tsB) : BuS w' base bv b := by
  have hn : ∀ t, t ∈ tsB → t ∉ ts := fun t ht hh => hs t hh ht
  cases b with
  | ch s =>
    obtain ⟨g, e, h⟩ := h
    exact ⟨g, e, h.tuH hu (hn _ (by decide)) (hn _ (by decide)) (hn _ (by decide))⟩
  | re p xs =>
    obtain ⟨g, L, e, hg, h⟩ := h
    exact ⟨g, L, e, hg, h.b.tu hu (hn _ (by decide)), Sl.tu h.s hu (hn _ (by decide))⟩
theorem BuS.still (h : BuS w base bv b) (hu : Upd (fun _ => False) w w') : BuS w' base bv b := h.tu (ts := []) (Tu.same hu) (fun t ht => by cases ht)
end
theorem entgo_c (args : Array Value) (w : World) : (callFunc 114 args).run Try.prog w = .ok (.enter 114 args) w := by kernel_rfl
theorem mgo_c (s : Nat) (w : World) : (method 274 127 (.pointer (some ⟨s, 0, none⟩)) "Go").run Try.prog w = .ok (114, .pointer (some ⟨s, 0, none⟩)) w := by kernel_rfl
theorem entgo_r (args : Array Value) (w : World) : (callFunc 105 args).run Try.prog w = .ok (.enter 105 args) w := by kernel_rfl
theorem mgo_r (s : Nat) (w : World) : (method 274 125 (.pointer (some ⟨s, 0, none⟩)) "Go").run Try.prog w = .ok (105, .pointer (some ⟨s, 0, none⟩)) w := by kernel_rfl
theorem entuse_c (args : Array Value) (w : World) : (callFunc 115 args).run Try.prog w = .ok (.enter 115 args) w := by kernel_rfl
theorem muse_c (s : Nat) (w : World) : (method 274 127 (.pointer (some ⟨s, 0, none⟩)) "Use").run Try.prog w = .ok (115, .pointer (some ⟨s, 0, none⟩)) w := by kernel_rfl
theorem entuse_r (args : Array Value) (w : World) : (callFunc 106 args).run Try.prog w = .ok (.enter 106 args) w := by kernel_rfl
theorem muse_r (s : Nat) (w : World) : (method 274 125 (.pointer (some ⟨s, 0, none⟩)) "Use").run Try.prog w = .ok (106, .pointer (some ⟨s, 0, none⟩)) w := by kernel_rfl
theorem entdone_c (args : Array Value) (w : World) : (callFunc 112 args).run Try.prog w = .ok (.enter 112 args) w := by kernel_rfl
theorem mdone_c (s : Nat) (w : World) : (method 274 127 (.pointer (some ⟨s, 0, none⟩)) "Done").run Try.prog w = .ok (112, .pointer (some ⟨s, 0, none⟩)) w := by kernel_rfl
theorem entdone_r (args : Array Value) (w : World) : (callFunc 103 args).run Try.prog w = .ok (.enter 103 args) w := by kernel_rfl
theorem mdone_r (s : Nat) (w : World) : (method 274 125 (.pointer (some ⟨s, 0, none⟩)) "Done").run Try.prog w = .ok (103, .pointer (some ⟨s, 0, none⟩)) w := by kernel_rfl

theorem tyR {w : World} {base g : Nat} {L : Value} {p : Rf.Bp} {xs : List (Int × Int)} (h : Rf.Bud w base g L p xs) (hg : base ≤ g) : ∀ k, (k = g ∨ slBlk L = some k) → Tys base tsB w k := fun k hk => by
  rcases hk with rfl | hk
  · exact ⟨hg, _, _, h.b, by decide⟩
  · obtain ⟨h1, _, cur, hc⟩ := Sl.blk h.s k hk
    exact ⟨h1, _, _, hc, by decide⟩
/-- Go, through the interface. -/
theorem BuS.goC {w : World} {base : Nat} {bv : Value} {b : Bs} (h : BuS w base bv b) (hbase : base ≤ w.heap.size) (hf : FineBs b) (now : Int) (h0 : 0 ≤ now) (h1 : now ≤ 2305843009213693952) (busy : Bool) :
    ∃ ty g f, bv = .iface ty (.pointer (some ⟨g, 0, none⟩)) ∧ (∀ w', (method 274 ty (.pointer (some ⟨g, 0, none⟩)) "Go").run Try.prog w' = .ok (f, .pointer (some ⟨g, 0, none⟩)) w') ∧ (∀ args w', (callFunc f args).run Try.prog w' = .ok (.enter f args) w') ∧
      Calls Try.prog f #[.pointer (some ⟨g, 0, none⟩), .int .i64 now, .bool busy] w fun e w' => e = .returned (.tuple #[]) ∧ BuS w' base bv (b.go now busy) ∧ Tu base tsB w w' := by
  cases b with
  | ch s =>
    obtain ⟨g, e, h⟩ := h
    refine ⟨_, g, _, e, mgo_c g, entgo_c, (Ck.goC w base g s h hbase hf now busy).mono ?_⟩
    rintro e' w' ⟨rfl, h2, h3⟩
    exact ⟨rfl, ⟨g, e, h2⟩, h3.mono (Nat.le_refl _) (by decide)⟩
  | re p xs =>
    obtain ⟨g, L, e, hg, h⟩ := h
    have hp := hf.pos
    refine ⟨_, g, _, e, mgo_r g, entgo_r, (Rf.goB w base g L p xs h hbase hf.fine hf.len hf.C1 (by have := hf.CT; have := hf.T1; omega) (by have := hf.C1; have := hf.CT; omega) hf.T1 (by rw [hf.start]; exact Int.le_refl _) (by rw [hf.start]; exact hf.now) now (by rw [hf.start]; exact h0) (by omega) (by have := hf.now2; omega) busy).mono ?_⟩
    rintro e' w' ⟨rfl, ⟨L', h2, h3, h4⟩⟩
    exact ⟨rfl, ⟨g, L', e, hg, h2⟩, Tu.of h4 (fun k _ hk => tyR h hg k hk)⟩
/-- Use. -/
theorem BuS.useC {w : World} {base : Nat} {bv : Value} {b : Bs} (h : BuS w base bv b) (hbase : base ≤ w.heap.size) (hf : FineBs b) :
    ∃ ty g f, bv = .iface ty (.pointer (some ⟨g, 0, none⟩)) ∧ (∀ w', (method 274 ty (.pointer (some ⟨g, 0, none⟩)) "Use").run Try.prog w' = .ok (f, .pointer (some ⟨g, 0, none⟩)) w') ∧ (∀ args w', (callFunc f args).run Try.prog w' = .ok (.enter f args) w') ∧
      Calls Try.prog f #[.pointer (some ⟨g, 0, none⟩)] w fun e w' => e = .returned (.bool b.live) ∧ BuS w' base bv b.use ∧ Tu base tsB w w' := by
  cases b with
  | ch s =>
    obtain ⟨g, e, h⟩ := h
    refine ⟨_, g, _, e, muse_c g, entuse_c, (Ck.useC w base g s h hbase hf _ rfl).mono ?_⟩
    rintro e' w' ⟨rfl, h2, h3⟩
    exact ⟨rfl, ⟨g, e, h2⟩, h3.mono (Nat.le_refl _) (by decide)⟩
  | re p xs =>
    obtain ⟨g, L, e, hg, h⟩ := h
    refine ⟨_, g, _, e, muse_r g, entuse_r, (Rf.useB w base g L p xs h hf.C1 hf.fine hf.len _ rfl).mono ?_⟩
    rintro e' w' ⟨rfl, ⟨L', h2, h3, h4⟩⟩
    exact ⟨rfl, ⟨g, L', e, hg, h2⟩, Tu.of h4 (fun k _ hk => tyR h hg k hk)⟩
/-- Done. -/
theorem BuS.doneC {w : World} {base : Nat} {bv : Value} {b : Bs} (h : BuS w base bv b) (hbase : base ≤ w.heap.size) (hf : FineBs b) :
    ∃ ty g f, bv = .iface ty (.pointer (some ⟨g, 0, none⟩)) ∧ (∀ w', (method 274 ty (.pointer (some ⟨g, 0, none⟩)) "Done").run Try.prog w' = .ok (f, .pointer (some ⟨g, 0, none⟩)) w') ∧ (∀ args w', (callFunc f args).run Try.prog w' = .ok (.enter f args) w') ∧
      Calls Try.prog f #[.pointer (some ⟨g, 0, none⟩)] w fun e w' => e = .returned (.tuple #[]) ∧ BuS w' base bv b.done ∧ Tu base tsB w w' := by
  cases b with
  | ch s =>
    obtain ⟨g, e, h⟩ := h
    refine ⟨_, g, _, e, mdone_c g, entdone_c, (Ck.doneC w base g s h hbase hf).mono ?_⟩
    rintro e' w' ⟨rfl, h2, h3⟩
    exact ⟨rfl, ⟨g, e, h2⟩, h3.mono (Nat.le_refl _) (by decide)⟩
  | re p xs =>
    obtain ⟨g, L, e, hg, h⟩ := h
    have h1 := hf.pos
    have h2 := hf.free
    have h3 := hf.sum
    have h4 := hf.CT
    have h5 := hf.T1
    refine ⟨_, g, _, e, mdone_r g, entdone_r, (Rf.doneB w base g L p xs h hf.C1 hf.fine hf.len (by omega) (by omega)).mono ?_⟩
    rintro e' w' ⟨rfl, h2, h3⟩
    exact ⟨rfl, ⟨g, _, e, hg, h2⟩, Tu.of h3 (fun k _ hk => tyR h hg k (.inl hk))⟩

set_option maxRecDepth 100000 in
set_option maxHeartbeats 1600000 in
theorem budgetOfC (w : World) (rf : Bool) (C T : Int) (h : Cf.okS C T = true) :
    Calls Try.prog 50 #[.agg #[.bool rf, .int .i64 C, .int .i64 T]] w fun e w' => ∃ bv, e = .returned bv ∧ BuS w' w.heap.size bv (Bs.new rf C T) ∧ Upd (fun _ => False) w w' := by
  have ua := (Upd.refl (fun _ => False) w).alloc (.cells #[.bool rf, .int .i64 C, .int .i64 T] 25)
  have U0 := Lib.hid ua
  have hsz : w.heap.size ≤ (w.alloc (.cells #[.bool rf, .int .i64 C, .int .i64 T] 25)).heap.size := ua.size
  cases rf with
  | true =>
    have HN := Lib.hid (Rf.newB_yes (w.alloc (.cells #[.bool true, .int .i64 C, .int .i64 T] 25)) w.heap.size true C T 0 h (Int.le_refl _) (by decide))
    clear ua h
    go_enter Try.func50, Try.ntmps50
    go_wp2_with fail
    refine HN.out.mono ?_
    rintro e w1 ⟨g, rfl, hg, hB, hU⟩
    have B1 := Lib.hid hB; have U1 := Lib.hid (U0.out.trans hU)
    clear hB hU
    go_wp2_with fail
    go_returns
    exact ⟨_, rfl, ⟨g, _, rfl, Nat.le_trans hsz hg, B1.out⟩, U1.out⟩
  | false =>
    have HN := Lib.hid (Ck.newC_yes (w.alloc (.cells #[.bool false, .int .i64 C, .int .i64 T] 25)) w.heap.size hsz false C T h)
    clear ua h
    go_enter Try.func50, Try.ntmps50
    go_wp2_with fail
    refine HN.out.mono ?_
    rintro e w1 ⟨g, rfl, hg, hB, hU⟩
    have B1 := Lib.hid hB; have U1 := Lib.hid (U0.out.trans hU)
    clear hB hU
    go_wp2_with fail
    go_returns
    exact ⟨_, rfl, ⟨g, rfl, B1.out⟩, U1.out⟩
end Go.Proofs.Ytcgefncddbbnlaa

namespace Go.Proofs.Ytcgefncddbbnlaa
open Go.RowKit
attribute [local go_sem] max_ints min_ints

def encA (a : An) : List Value := [.int .i64 a.t, .int .i64 a.w, .int .i64 a.b, .int .i64 a.d]
theorem encA_len (a : An) : (encA a).length = 4 := rfl
theorem encA_one (a : An) : ∀ u ∈ encA a, u.oneCell' = true := by
  intro u hu
  simp [encA] at hu
  rcases hu with rfl | rfl | rfl | rfl <;> rfl
def idx (l : List Nat) : List Int := l.map (fun k : Nat => (k : Int))
theorem idx_len (l : List Nat) : (idx l).length = l.length := by simp [idx]
theorem pushIdx (l : List Nat) (n : Nat) : Rg.pushL 8 (idx l) (n : Int) = idx (if l.length < 8 then l ++ [n] else l) := by
  unfold Rg.pushL
  rw [idx_len]
  split <;> simp [idx]
/-- A run at r: its budget bv, its row (g, d), what is left in lv, the answers in ov. -/
structure RnS (w : World) (base r : Nat) (bv : Value) (g d : Nat) (lv ov : Value) (s : Rn) : Prop where
  b : Blk w r 99 #[bv, .pointer (some ⟨g, 0, none⟩), lv, ov, .int .i64 (s.next : Int)]
  bu : BuS w base bv s.bs
  ri : Rg.RSt w g d 8 (idx s.wait)
  l : SlR encI w base 3 1 lv s.left
  o : SlR encA w base 37 4 ov s.out
  dl : ∀ q, slBlk lv = some q → q ≠ d
  hr : base ≤ r
  hg : base ≤ g
  hd : base ≤ d
theorem RSt.tys {w : World} {g d room base : Nat} {l : List Int} (h : Rg.RSt w g d room l) (hg : base ≤ g) (hd : base ≤ d) : ∀ k, (k = g ∨ k = d) → Tys base [130, 3] w k := fun k hk => by
  obtain ⟨arr, first, n, h1, _⟩ := h
  rcases hk with rfl | rfl
  · exact ⟨hg, _, _, h1.st, by decide⟩
  · exact ⟨hd, _, _, h1.ar, by decide⟩
theorem RSt.blks {w : World} {g d room : Nat} {l : List Int} (h : Rg.RSt w g d room l) : (∃ cs, Blk w g 130 cs) ∧ ∃ cs, Blk w d 3 cs := by
  obtain ⟨arr, first, n, h1, _⟩ := h
  exact ⟨⟨_, h1.st⟩, _, h1.ar⟩
section
variable {w w' : World} {base r g d : Nat} {bv lv ov : Value} {s : Rn}
theorem RnS.still (h : RnS w base r bv g d lv ov s) (hu : Upd (fun _ => False) w w') : RnS w' base r bv g d lv ov s :=
  ⟨h.b.upd hu (fun h => h), h.bu.still hu, h.ri.upd hu (fun h => h) (fun h => h), h.l.upd hu (fun _ _ h => h), h.o.upd hu (fun _ _ h => h), h.dl, h.hr, h.hg, h.hd⟩
/-- The row has turned. -/
theorem RnS.ring (h : RnS w base r bv g d lv ov s) {wt : List Nat} (hR : Rg.RSt w' g d 8 (idx wt)) (hu : Upd (fun k => k = g ∨ k = d) w w') : RnS w' base r bv g d lv ov { s with wait := wt } := by
  have ht : Tu base [130, 3] w w' := Tu.of hu (fun k _ hk => RSt.tys h.ri h.hg h.hd k hk)
  obtain ⟨⟨c1, hb1⟩, c2, hb2⟩ := RSt.blks h.ri
  refine ⟨h.b.tu ht (by decide), h.bu.tu ht (by decide), hR, h.l.upd hu (fun q hq e => ?_), Sl.tu h.o ht (by decide), h.dl, h.hr, h.hg, h.hd⟩
  rcases e with e | e
  · obtain ⟨_, _, cur, hc⟩ := Sl.blk h.l q hq
    rw [e] at hc
    exact hc.ne_ hb1 (by decide) rfl
  · exact h.dl q hq e
/-- The budget has turned. -/
theorem RnS.budget (h : RnS w base r bv g d lv ov s) {b' : Bs} (hb : BuS w' base bv b') (ht : Tu base tsB w w') : RnS w' base r bv g d lv ov { s with bs := b' } := by
  refine ⟨h.b.tu ht (by decide), hb, ?_, Sl.tu h.l ht (by decide), Sl.tu h.o ht (by decide), h.dl, h.hr, h.hg, h.hd⟩
  obtain ⟨arr, first, n, h1, h2⟩ := h.ri
  have e1 := h1.st.tu ht (by decide)
  have e2 := h1.ar.tu ht (by decide)
  exact ⟨arr, first, n, ⟨e1, e2, h1.hn, h1.hf, h1.hl, h1.hs⟩, h2⟩
/-- A cell of the run's own is written. -/
theorem RnS.cells (h : RnS w base r bv g d lv ov s) (i : Nat) (u : Value) : Upd (fun q => q = r) w (w.setCell ⟨r, i, none⟩ u) ∧ BuS (w.setCell ⟨r, i, none⟩ u) base bv s.bs ∧ Rg.RSt (w.setCell ⟨r, i, none⟩ u) g d 8 (idx s.wait) ∧ SlR encI (w.setCell ⟨r, i, none⟩ u) base 3 1 lv s.left ∧ SlR encA (w.setCell ⟨r, i, none⟩ u) base 37 4 ov s.out := by
  have hU : Upd (fun q => q = r) w (w.setCell ⟨r, i, none⟩ u) := (Upd.refl (fun q => q = r) w).setCell (p := ⟨r, i, none⟩) (fun _ => rfl) _
  have ht : Tu base [99] w (w.setCell ⟨r, i, none⟩ u) := Tu.of hU (fun k _ e => by rw [e]; exact ⟨h.hr, _, _, h.b, by decide⟩)
  obtain ⟨⟨c1, hb1⟩, c2, hb2⟩ := RSt.blks h.ri
  exact ⟨hU, h.bu.tu ht (by decide), h.ri.upd hU (hb1.ne_ h.b (by decide)) (hb2.ne_ h.b (by decide)), Sl.tu h.l ht (by decide), Sl.tu h.o ht (by decide)⟩
theorem RnS.setNext (h : RnS w base r bv g d lv ov s) (n : Nat) : RnS (w.setCell ⟨r, 4, none⟩ (.int .i64 (n : Int))) base r bv g d lv ov { s with next := n } ∧ Upd (fun q => q = r) w (w.setCell ⟨r, 4, none⟩ (.int .i64 (n : Int))) := by
  obtain ⟨hU, h1, h2, h3, h4⟩ := h.cells 4 (.int .i64 (n : Int))
  exact ⟨⟨h.b.set_ 4 _, h1, h2, h3, h4, h.dl, h.hr, h.hg, h.hd⟩, hU⟩
end

set_option maxRecDepth 100000 in
set_option maxHeartbeats 6400000 in
theorem comeC (w : World) (base r g d : Nat) (bv lv ov : Value) (s : Rn) (N : Nat) (h : RnS w base r bv g d lv ov s) (hok : RnOk s N) (hN : N ≤ 1000) (now : Int) :
    Calls Try.prog 52 #[.pointer (some ⟨r, 0, none⟩), .int .i64 now] w fun e w' => e = .returned (.tuple #[]) ∧ RnS w' base r bv g d lv ov (Rn.come now s.out.length s) ∧ Upd (fun q => base ≤ q) w w' := by
  have H := Lib.hid h; have HO := Lib.hid hok
  rw [hok.out]
  clear h hok
  go_enter Try.func52, Try.ntmps52
  go_wp2_with fail
  go_loopw [28] (fun _ wr => ∃ (m : Nat) (s' : Rn), s'.next + m ≥ N ∧ Rn.come now N s = Rn.come now m s' ∧ RnS wr base r bv g d lv ov s' ∧ RnOk s' N ∧ Upd (fun q => base ≤ q) w wr) (fun _ wr => N - (intOf ((wr.cell? ⟨r, 4, none⟩).getD (.int .i64 0))).toNat)
  case atStart => exact ⟨N, s, by omega, rfl, H.out, HO.out, Upd.refl _ w⟩
  case round =>
    obtain ⟨m, s', hm1, hcome, hR, hok, hU⟩ := hrel
    have R0 := Lib.hid hR; have O0 := Lib.hid hok; have U0 := Lib.hid hU; have HC := Lib.hid hcome
    have HEX : Hid (s'.comes now = false → Rn.come now m s' = s') := Lib.hid (fun hc => by
      cases m with
      | zero => rfl
      | succ m => unfold Rn.come; rw [if_neg (by rw [hc]; simp)])
    have hout := hok.out
    have c4 : wr.cell? ⟨r, 4, none⟩ = some (.int .i64 (s'.next : Int)) := hR.b.cell 4
    have c3 : wr.cell? ⟨r, 3, none⟩ = some ov := hR.b.cell 3
    have HC4 := Lib.hid c4
    obtain ⟨Ao, co, rfl⟩ := hR.o.shape
    rw [hout] at c3
    obtain ⟨bs, wt, lf, ou, nx⟩ := s'
    dsimp only at *
    clear hcome
    by_cases hlt : nx < N
    · obtain ⟨a, ha⟩ : ∃ a, ou[nx]? = some a := ⟨_, List.getElem?_eq_getElem (by omega)⟩
      obtain ⟨ob, oo, co', e1, _, _, _, _⟩ := hR.o.form (by dsimp only; omega)
      injection e1 with e1 e1b e1c
      subst e1; subst e1c
      have ca : wr.cell? ⟨ob, oo + nx * 4, none⟩ = some (.int .i64 a.t) := hR.o.cell encA_len nx a ha 0 _ rfl
      have dl : decide ((nx : Int) < (N : Int)) = true := decide_eq_true (by omega)
      have di : decide ((nx : Int) < 0) = false := decide_eq_false (by omega)
      clear hR hok hU e1b
      by_cases ht : a.t = now
      · have dt : (a.t == now) = true := beq_iff_eq.2 ht
        have HCT : Hid (Rn.comes ⟨bs, wt, lf, ou, nx⟩ now = true) := Lib.hid (by
          show (match ou[nx]? with | some a => a.t == now | none => false) = true
          rw [ha]
          exact dt)
        have HST : Hid (Rn.come now m ⟨bs, wt, lf, ou, nx⟩ = Rn.come now (m - 1) (Rn.push ⟨bs, wt, lf, ou, nx⟩)) := Lib.hid (by
          obtain ⟨m', rfl⟩ : ∃ m', m = m' + 1 := ⟨m - 1, by omega⟩
          rw [Rn.come, if_pos HCT.out]
          rfl)
        clear ha ht hout
        go_wp2_with fail
        go_quiet (fail)
        have R2 := Lib.hid (R0.out.still ((Upd.refl (fun _ => False) wr).drewN nq)); have U2 := Lib.hid (U0.out.drewN nq)
        clear c4 c3 ca R0 U0
        generalize wr.drewN nq = w2 at *
        have c1 : w2.cell? ⟨r, 1, none⟩ = some (.pointer (some ⟨g, 0, none⟩)) := R2.out.b.cell 1
        have c4 : w2.cell? ⟨r, 4, none⟩ = some (.int .i64 (nx : Int)) := R2.out.b.cell 4
        go_upto_region 1 with fail
        refine wp_region_treeF (.q 0 (.q 1 (.q 2 (.q 3 (.q 4 (.q 5 (.q 6 (.q 7 (.l 8 .d))))))))) (fun i => decide (i = 8)) (fun _ => false) (fun w' => w'.cell? ⟨r, 1, none⟩ = some (.pointer (some ⟨g, 0, none⟩)) ∧ w'.cell? ⟨r, 4, none⟩ = some (.int .i64 (nx : Int)))
          (by kernel_rfl) (by kernel_rfl) (by kernel_rfl) (fun t ht => by have := of_decide_eq_true ht; subst this; decide) (fun _ _ _ _ _ h => h) (by kernel_rfl) rfl ⟨c1, c4⟩ ?_
        iterate 8
          (refine' wpOF_q (by rfl) (by rfl) (by rfl) (fun w' hS' => ?_) ?_
           rotate_left
           · obtain ⟨s1, s2⟩ := hS'
             go_simp
             try rfl)
          try simp only [Act.put, List.setIfInBounds_toArray, List.set_cons_zero, List.set_cons_succ]
        refine wpOF_l (by rfl) (by rfl) (fun KQ hKQ => ?_)
        go_simp
        go_at_call 74
        refine (Rg.pushI_any w2.drew g d 8 (idx wt) (R2.out.still ((Upd.refl (fun _ => False) w2).drew)).ri (nx : Int) _ rfl _ rfl).mono ?_
        rintro r3 w3 ⟨rfl, hR3, hU3⟩
        have hS := (R2.out.still ((Upd.refl (fun _ => False) w2).drew)).ring (by rw [pushIdx] at hR3; exact hR3) hU3
        have U3 := Lib.hid (U2.out.trans ((((Upd.refl (fun _ => False) w2).drew).mono (S' := fun q => base ≤ q) (fun _ _ h => h.elim)).trans (hU3.mono (fun q _ e => e.elim (fun e => by rw [e]; exact R2.out.hg) (fun e => by rw [e]; exact R2.out.hd)))))
        have R3 := Lib.hid hS
        clear hR3 hU3 hS
        refine hKQ _ _ (.inl (by rfl)) ?_
        clear hKQ KQ
        try simp only [Act.put, List.setIfInBounds_toArray, List.set_cons_zero, List.set_cons_succ]
        refine wpOF_d ?_
        have c4' : w3.cell? ⟨r, 4, none⟩ = some (.int .i64 (nx : Int)) := R3.out.b.cell 4
        have f4 := R3.out.b.frozen 4
        have hN4 := R3.out.setNext (nx + 1)
        have e1 : (((nx + 1 : Nat) : Int)) = (nx : Int) + 1 := by omega
        rw [e1] at hN4
        have R4 : Hid (RnS (w3.setCell ⟨r, 4, none⟩ (.int .i64 ((nx : Int) + 1))) base r bv g d lv (.slice (some ⟨ob, oo, none⟩) ou.length co) (Rn.push ⟨bs, wt, lf, ou, nx⟩)) := Lib.hid hN4.1
        have U4 := Lib.hid (U3.out.trans (hN4.2.mono (S' := fun q => base ≤ q) (fun q _ e => by rw [e]; exact R3.out.hr)))
        clear hN4 e1 R3 U3
        go_wp2_with fail
        go_roundw
        case rel => exact ⟨m - 1, Rn.push ⟨bs, wt, lf, ou, nx⟩, by show nx + 1 + (m - 1) ≥ N; omega, by rw [HC.out, HST.out], R4.out, O0.out.push hlt, U4.out⟩
        case measure =>
          rw [R4.out.b.cell 4, HC4.out]
          show N - (((nx + 1 : Nat) : Int)).toNat < N - ((nx : Nat) : Int).toNat
          omega
      · have dt : (a.t == now) = false := beq_eq_false_iff_ne.2 ht
        have HCT : Hid (Rn.comes ⟨bs, wt, lf, ou, nx⟩ now = false) := Lib.hid (by
          show (match ou[nx]? with | some a => a.t == now | none => false) = false
          rw [ha]
          exact dt)
        clear ha ht hout
        go_wp2_with fail
        go_quiet (fail)
        go_wp2_with fail
        go_returns
        exact ⟨rfl, by rw [HC.out, HEX.out HCT.out]; exact R0.out.still ((Upd.refl (fun _ => False) wr).drewN _), U0.out.drewN _⟩
    · have dl : decide ((nx : Int) < (N : Int)) = false := decide_eq_false (by omega)
      have HCT : Hid (Rn.comes ⟨bs, wt, lf, ou, nx⟩ now = false) := Lib.hid (by
        show (match ou[nx]? with | some a => a.t == now | none => false) = false
        rw [List.getElem?_eq_none (by omega)])
      clear hR hok hU hout
      go_wp2_with fail
      go_quiet (fail)
      go_wp2_with fail
      go_returns
      exact ⟨rfl, by rw [HC.out, HEX.out HCT.out]; exact R0.out.still ((Upd.refl (fun _ => False) wr).drewN _), U0.out.drewN _⟩
end Go.Proofs.Ytcgefncddbbnlaa

namespace Go.Proofs.Ytcgefncddbbnlaa
open Go.RowKit
attribute [local go_sem] max_ints min_ints

theorem at0 (w : World) (g d room : Nat) (l : List Int) (h : Rg.RSt w g d room l) :
    Calls Try.prog 75 #[.pointer (some ⟨g, 0, none⟩), .int .i64 0] w fun e w' => e = .returned (.tuple #[.int .i64 (Rg.popX l), .bool (Rg.popB l)]) ∧ ∃ k, w' = w.drewN k := by
  obtain ⟨arr, first, n, h1, h2, h3⟩ := h
  have hn : l.length = n := by have := h2.1; simpa [Rg.intVals] using this
  cases l with
  | nil =>
    have h0 : n = 0 := by simpa using hn.symm
    exact Rg.atI_no w g d arr first n h1 0 (by omega)
  | cons y t =>
    have hlen : t.length + 1 = n := by simpa using hn
    have h4 := h1.hn
    have hf := h1.hl (by omega)
    have h2' : Rg.IsList arr first n (.int .i64 y :: Rg.intVals t) := h2
    have hx := h2'.head hf
    refine (Rg.atI_yes w g d arr first n h1 0 first y (Int.le_refl _) (by omega) ?_ hx).mono ?_
    · rw [Int.add_zero]; exact Int.emod_eq_of_lt (by omega) (by omega)
    · rintro e w' ⟨rfl, h4⟩
      exact ⟨by simp [Rg.popX, Rg.popB], h4⟩
theorem Tu.mono2 {base : Nat} {ts : List TypeId} {w w' : World} {S' : Nat → Prop} (h : Tu base ts w w') (hs : ∀ q, Tys base ts w q → S' q) : Upd S' w w' := Upd.mono h (fun q _ hq => hs q hq)
section
variable {w w' : World} {base r g d : Nat} {bv lv ov : Value} {s : Rn}
theorem RnS.outSet {ob oo n c : Nat} (h : RnS w base r bv g d lv (.slice (some ⟨ob, oo, none⟩) n c) s) (k : Nat) (a : An) (hk : s.out[k]? = some a) (i : Nat) (hi : i < 4) (u : Int) (a' : An) (ha : encA a' = (encA a).set i (.int .i64 u)) :
    RnS (w.setCell ⟨ob, oo + k * 4 + i, none⟩ (.int .i64 u)) base r bv g d lv (.slice (some ⟨ob, oo, none⟩) n c) { s with out := s.out.set k a' } ∧ Upd (fun q => q = ob) w (w.setCell ⟨ob, oo + k * 4 + i, none⟩ (.int .i64 u)) := by
  have hU : Upd (fun q => q = ob) w (w.setCell ⟨ob, oo + k * 4 + i, none⟩ (.int .i64 u)) := (Upd.refl (fun q => q = ob) w).setCell (p := ⟨ob, oo + k * 4 + i, none⟩) (fun _ => rfl) _
  obtain ⟨hb0, _, cur, hc⟩ := Sl.blk h.o ob rfl
  have ht : Tu base [37] w (w.setCell ⟨ob, oo + k * 4 + i, none⟩ (.int .i64 u)) := Tu.of hU (fun q _ e => by rw [e]; exact ⟨hb0, _, _, hc, by decide⟩)
  obtain ⟨⟨c1, hb1⟩, c2, hb2⟩ := RSt.blks h.ri
  refine ⟨⟨h.b.tu ht (by decide), h.bu.tu ht (by decide), h.ri.upd hU (hb1.ne_ hc (by decide)) (hb2.ne_ hc (by decide)), Sl.tu h.l ht (by decide), ?_, h.dl, h.hr, h.hg, h.hd⟩, hU⟩
  have ho := h.o
  obtain ⟨A, cp, he⟩ := ho.shape
  injection he with _ e _
  subst e
  have hlt := (List.getElem?_eq_some_iff.1 hk).1
  unfold SlR at ho ⊢
  rw [List.length_set, ← rws_set encA_len s.out k a a' i (.int .i64 u) hk hi ha, show oo + k * 4 + i = oo + (k * 4 + i) by omega]
  exact Sl.set_ ho (k * 4 + i) (by omega) _
theorem RnS.leftSet {lb lo n c : Nat} (h : RnS w base r bv g d (.slice (some ⟨lb, lo, none⟩) n c) ov s) (k : Nat) (x : Int) (hk : s.left[k]? = some x) (u : Int) :
    RnS (w.setCell ⟨lb, lo + k, none⟩ (.int .i64 u)) base r bv g d (.slice (some ⟨lb, lo, none⟩) n c) ov { s with left := s.left.set k u } ∧ Upd (fun q => q = lb) w (w.setCell ⟨lb, lo + k, none⟩ (.int .i64 u)) := by
  have hU : Upd (fun q => q = lb) w (w.setCell ⟨lb, lo + k, none⟩ (.int .i64 u)) := (Upd.refl (fun q => q = lb) w).setCell (p := ⟨lb, lo + k, none⟩) (fun _ => rfl) _
  obtain ⟨hb0, _, cur, hc⟩ := Sl.blk h.l lb rfl
  have ht : Tu base [3] w (w.setCell ⟨lb, lo + k, none⟩ (.int .i64 u)) := Tu.of hU (fun q _ e => by rw [e]; exact ⟨hb0, _, _, hc, by decide⟩)
  obtain ⟨⟨c1, hb1⟩, c2, hb2⟩ := RSt.blks h.ri
  refine ⟨⟨h.b.tu ht (by decide), h.bu.tu ht (by decide), h.ri.upd hU (hb1.ne_ hc (by decide)) (fun e => h.dl lb rfl e.symm), ?_, Sl.tu h.o ht (by decide), h.dl, h.hr, h.hg, h.hd⟩, hU⟩
  have ho := h.l
  obtain ⟨A, cp, he⟩ := ho.shape
  injection he with _ e _
  subst e
  have hlt := (List.getElem?_eq_some_iff.1 hk).1
  unfold SlR at ho ⊢
  have h3 := rws_set encI_len s.left k x u 0 (.int .i64 u) hk (by decide) rfl
  rw [Nat.mul_one, Nat.add_zero] at h3
  rw [List.length_set, ← h3]
  exact Sl.set_ ho k (by omega) _
end
theorem use_dead {b : Bs} (h : b.live = false) : b.use = b := by
  cases b with
  | ch s =>
    have : s.xs = [] := List.eq_nil_of_length_eq_zero (by have := of_decide_eq_false h; omega)
    show Bs.ch s.use = .ch s
    unfold Ck.St17.use
    rw [this]
  | re p xs =>
    have : xs = [] := List.eq_nil_of_length_eq_zero (by have := of_decide_eq_false h; omega)
    rw [this]
    rfl

theorem set_same {α : Type} {l : List α} {k : Nat} {a : α} (h : l[k]? = some a) : l.set k a = l := by
  apply List.ext_getElem?
  intro i
  by_cases e : i = k
  · subst e
    rw [List.getElem?_set_self (List.getElem?_eq_some_iff.1 h).1, h]
  · rw [List.getElem?_set_ne (fun q => e q.symm)]
theorem use_eq (bs : Bs) (k : Nat) (t : List Nat) (lf : List Int) (ou : List An) (nx : Nat) (now : Int) (a : An) (l : Int) (hlive : bs.live = true) (ha : ou[k]? = some a) (hl : lf[k]? = some l) :
    Rn.use ⟨bs, k :: t, lf, ou, nx⟩ now = if 0 < l - 1 then ⟨bs.use, k :: t, lf.set k (l - 1), ou.set k (a.begin now), nx⟩ else ⟨if t = [] then bs.use.done else bs.use, t, lf.set k (l - 1), ou.set k { a.begin now with d := now + 1 }, nx⟩ := by
  unfold Rn.use
  simp only [hlive, ha, hl]
  rfl

set_option maxRecDepth 100000 in
set_option maxHeartbeats 12800000 in
theorem useC (w : World) (base r g d : Nat) (bv lv ov : Value) (s : Rn) (N : Nat) (h : RnS w base r bv g d lv ov s) (hok : RnOk s N) (hN : N ≤ 1000) (now : Int) (hn0 : 0 ≤ now) (hn1 : now ≤ 1000000) :
    Calls Try.prog 54 #[.pointer (some ⟨r, 0, none⟩), .int .i64 now] w fun e w' => e = .returned (.tuple #[]) ∧ RnS w' base r bv g d lv ov (s.use now) ∧ Upd (fun q => base ≤ q) w w' := by
  have H := Lib.hid h; have HO := Lib.hid hok
  have c1 : w.cell? ⟨r, 1, none⟩ = some (.pointer (some ⟨g, 0, none⟩)) := h.b.cell 1
  obtain ⟨bs, wt, lf, ou, nx⟩ := s
  cases wt with
  | nil =>
    have HA := Lib.hid (at0 w g d 8 (idx []) h.ri)
    clear h hok
    go_enter Try.func54, Try.ntmps54
    go_wp2_with fail
    refine HA.out.mono ?_
    rintro e w1 ⟨rfl, k1, h1⟩
    have u1 : Upd (fun _ => False) w w1 := by rw [h1]; exact (Upd.refl _ w).drewN k1
    have U1 := Lib.hid u1
    have eX : Rg.popX (idx []) = 0 := rfl
    have eB : Rg.popB (idx []) = false := rfl
    rw [eX, eB]
    clear u1 h1 eX eB
    go_wp2_with fail
    go_returns
    exact ⟨rfl, H.out.still U1.out, U1.out.mono (fun _ _ h => h.elim)⟩
  | cons k t =>
    have HA := Lib.hid (at0 w g d 8 (idx (k :: t)) h.ri)
    have hkx : k < nx := hok.wait k (by simp)
    have hxN : nx ≤ N := hok.next
    have hkN : k < N := by omega
    have hlo := hok.out
    have hll := hok.left
    have HLL := Lib.hid hll
    dsimp only at hlo hll
    obtain ⟨a, ha⟩ : ∃ a, ou[k]? = some a := ⟨_, List.getElem?_eq_getElem (by omega)⟩
    obtain ⟨l, hl⟩ : ∃ l, lf[k]? = some l := ⟨_, List.getElem?_eq_getElem (by omega)⟩
    have hlb : 0 ≤ l ∧ l ≤ 1048576 := hok.ls l (List.mem_of_getElem? hl)
    obtain ⟨ob, oo, oc, eo, hob, _, _, _⟩ := h.o.form (by dsimp only; omega)
    obtain ⟨lb, lo, lc, el, hlbb, _, _, _⟩ := h.l.form (by dsimp only; omega)
    subst eo; subst el
    have HFine := Lib.hid hok.bs
    have HL := Lib.hid hl; have HAA := Lib.hid ha; have HOB := Lib.hid hob; have HLB := Lib.hid hlbb
    have HFU : Hid (FineBs bs.use) := Lib.hid hok.bs.use
    dsimp only at *
    rw [hlo, hll] at H ⊢
    have HLO := Lib.hid hlo
    clear h hok hob hlbb
    go_enter Try.func54, Try.ntmps54
    go_wp2_with fail
    refine HA.out.mono ?_
    rintro e w1 ⟨rfl, k1, h1⟩
    have u1 : Upd (fun _ => False) w w1 := by rw [h1]; exact (Upd.refl _ w).drewN k1
    have U1 := Lib.hid u1
    have R1 := Lib.hid (H.out.still u1)
    have eX : Rg.popX (idx (k :: t)) = (k : Int) := rfl
    have eB : Rg.popB (idx (k :: t)) = true := by simp [Rg.popB, idx]
    rw [eX, eB]
    clear u1 h1 eX eB c1
    obtain ⟨ty, gb, fU, hbe, mU, cU, hUse⟩ := R1.out.bu.useC (Nat.le_trans R1.out.hr (Nat.le_of_lt R1.out.b.lt)) HFine.out
    subst hbe
    have HUse := Lib.hid hUse
    have c0 : w1.cell? ⟨r, 0, none⟩ = some (.iface ty (.pointer (some ⟨gb, 0, none⟩))) := R1.out.b.cell 0
    clear hUse
    obtain ⟨lv, hlive⟩ : ∃ lv, bs.live = lv := ⟨_, rfl⟩
    have HLIVE := Lib.hid hlive
    rw [hlive] at HUse
    clear hlive
    cases lv with
    | false =>
      go_wp2_with fail
      refine HUse.out.mono ?_
      rintro e w2 ⟨rfl, hB2, hT2⟩
      rw [use_dead HLIVE.out] at hB2
      have R2 := Lib.hid (R1.out.budget hB2 hT2)
      have U2 := Lib.hid ((U1.out.mono (S' := fun q => base ≤ q) (fun _ _ h => h.elim)).trans (hT2.mono2 (S' := fun q => base ≤ q) (fun q h => h.1)))
      have HD : Hid (Rn.use ⟨bs, k :: t, lf, ou, nx⟩ now = ⟨bs, k :: t, lf, ou, nx⟩) := Lib.hid (by
        show (if bs.live = true then _ else _) = _
        rw [HLIVE.out]
        rfl)
      clear hB2 hT2
      go_wp2_with fail
      go_returns
      exact ⟨rfl, by rw [HD.out]; exact R2.out, U2.out⟩
    | true =>
      go_wp2_with fail
      refine HUse.out.mono ?_
      rintro e w2 ⟨rfl, hB2, hT2⟩
      have R2 := Lib.hid (R1.out.budget hB2 hT2)
      have U2 := Lib.hid ((U1.out.mono (S' := fun q => base ≤ q) (fun _ _ h => h.elim)).trans (hT2.mono2 (S' := fun q => base ≤ q) (fun q h => h.1)))
      have HEQ := Lib.hid (use_eq bs k t lf ou nx now a l HLIVE.out ha hl)
      have c3 : w2.cell? ⟨r, 3, none⟩ = some (.slice (some ⟨ob, oo, none⟩) N oc) := R2.out.b.cell 3
      have ca : w2.cell? ⟨ob, oo + k * 4 + 2, none⟩ = some (.int .i64 a.b) := R2.out.o.cell encA_len k a ha 2 _ rfl
      have dk : decide ((k : Int) < (N : Int)) = true := decide_eq_true (by omega)
      have dk0 : decide ((k : Int) < 0) = false := decide_eq_false (by omega)
      clear hB2 hT2 R1 U1 c0 ha hl
      by_cases hb : a.b = -1
      · have db : (a.b == -1) = true := beq_iff_eq.2 hb
        have fa : w2.frozen? ⟨ob, oo + k * 4 + 2, none⟩ = false := R2.out.o.frozen _
        have hS := R2.out.outSet k a HAA.out 2 (by decide) now { a with b := now } rfl
        have RX := Lib.hid hS.1
        have UX := Lib.hid (U2.out.trans (hS.2.mono (S' := fun q => base ≤ q) (fun q _ e => by rw [e]; exact HOB.out)))
        have hbeg : a.begin now = { a with b := now } := if_pos hb
        have HUSE : Hid ((0 < l - 1 → Rn.use ⟨bs, k :: t, lf, ou, nx⟩ now = ⟨bs.use, k :: t, lf.set k (l - 1), ou.set k { a with b := now }, nx⟩) ∧ (l - 1 ≤ 0 → Rn.use ⟨bs, k :: t, lf, ou, nx⟩ now = ⟨if t = [] then bs.use.done else bs.use, t, lf.set k (l - 1), (ou.set k { a with b := now }).set k { a with b := now, d := now + 1 }, nx⟩)) := Lib.hid
          ⟨fun hp => by rw [HEQ.out, if_pos hp, hbeg], fun hp => by rw [HEQ.out, if_neg (Int.not_lt.2 hp), hbeg, List.set_set]⟩
        have HA2 : Hid ((ou.set k { a with b := now })[k]? = some { a with b := now }) := Lib.hid (List.getElem?_set_self (by rw [hlo]; exact hkN))
        clear hS hb hbeg HEQ
        go_upto_region 4 with fail
        clear c3 ca fa R2 U2
        generalize w2.setCell ⟨ob, oo + k * 4 + 2, none⟩ (.int .i64 now) = w2 at *
        have R2 := RX; have U2 := UX
        clear RX UX
        have c2 : w2.cell? ⟨r, 2, none⟩ = some (.slice (some ⟨lb, lo, none⟩) N lc) := R2.out.b.cell 2
        have cl : w2.cell? ⟨lb, lo + k, none⟩ = some (.int .i64 l) := by have h := R2.out.l.cell encI_len k l HL.out 0 _ rfl; simpa using h
        have fl : w2.frozen? ⟨lb, lo + k, none⟩ = false := R2.out.l.frozen _
        have hS := R2.out.leftSet k l HL.out (l - 1)
        have R3 := Lib.hid hS.1
        have U3 := Lib.hid (U2.out.trans (hS.2.mono (S' := fun q => base ≤ q) (fun q _ e => by rw [e]; exact HLB.out)))
        clear hS
        go_upto_region 5 with fail
        clear c2 cl fl R2 U2
        generalize w2.setCell ⟨lb, lo + k, none⟩ (.int .i64 (l - 1)) = w3 at *
        have c2 : w3.cell? ⟨r, 2, none⟩ = some (.slice (some ⟨lb, lo, none⟩) N lc) := R3.out.b.cell 2
        have cl : w3.cell? ⟨lb, lo + k, none⟩ = some (.int .i64 (l - 1)) := by
          have h := R3.out.l.cell encI_len k (l - 1) (List.getElem?_set_self (by rw [HLL.out]; exact hkN)) 0 _ rfl
          simpa using h
        by_cases hp : 0 < l - 1
        · have HU := Lib.hid (HUSE.out.1 hp)
          have dp : decide (0 < l - 1) = true := decide_eq_true hp
          go_wp2_with fail
          go_returns
          exact ⟨rfl, by rw [HU.out]; exact R3.out, U3.out⟩
        · have HU := Lib.hid (HUSE.out.2 (Int.not_lt.1 hp))
          have dp : decide (0 < l - 1) = false := decide_eq_false hp
          have c3 : w3.cell? ⟨r, 3, none⟩ = some (.slice (some ⟨ob, oo, none⟩) N oc) := R3.out.b.cell 3
          have c1 : w3.cell? ⟨r, 1, none⟩ = some (.pointer (some ⟨g, 0, none⟩)) := R3.out.b.cell 1
          have ca : w3.cell? ⟨ob, oo + k * 4 + 3, none⟩ = some (.int .i64 a.d) := R3.out.o.cell encA_len k { a with b := now } HA2.out 3 _ rfl
          have fa : w3.frozen? ⟨ob, oo + k * 4 + 3, none⟩ = false := R3.out.o.frozen _
          have hS := R3.out.outSet k { a with b := now } HA2.out 3 (by decide) (now + 1) { a with b := now, d := now + 1 } rfl
          have R4 := Lib.hid hS.1
          have U4 := Lib.hid (U3.out.trans (hS.2.mono (S' := fun q => base ≤ q) (fun q _ e => by rw [e]; exact HOB.out)))
          clear hS
          go_upto_region 7 with fail
          clear c2 cl c3 c1 ca fa R3 U3
          generalize w3.setCell ⟨ob, oo + k * 4 + 3, none⟩ (.int .i64 (now + 1)) = w4 at *
          have c1 : w4.cell? ⟨r, 1, none⟩ = some (.pointer (some ⟨g, 0, none⟩)) := R4.out.b.cell 1
          go_wp2_with fail
          refine (Rg.popI_any w4 g d 8 (idx (k :: t)) R4.out.ri (k : Int) rfl true (by simp [Rg.popB, idx]) (idx t) rfl).mono ?_
          rintro e w5 ⟨rfl, hR5, hU5⟩
          have hS := R4.out.ring (wt := t) hR5 hU5
          have R5 := Lib.hid hS
          have U5 := Lib.hid (U4.out.trans (hU5.mono (S' := fun q => base ≤ q) (fun q _ e => e.elim (fun e => by rw [e]; exact R4.out.hg) (fun e => by rw [e]; exact R4.out.hd))))
          clear hS hR5 hU5 c1 R4 U4
          have c1 : w5.cell? ⟨r, 1, none⟩ = some (.pointer (some ⟨g, 0, none⟩)) := R5.out.b.cell 1
          go_wp2_with fail
          refine (Rg.lenI_any w5 g d 8 (idx t) R5.out.ri).mono ?_
          rintro e w6 ⟨rfl, k6, h6⟩
          rw [idx_len]
          have u6 : Upd (fun _ => False) w5 w6 := by rw [h6]; exact (Upd.refl _ w5).drewN k6
          have R6 := Lib.hid (R5.out.still u6)
          have U6 := Lib.hid (U5.out.trans (u6.mono (fun _ _ h => h.elim)))
          clear u6 h6 c1 R5 U5
          by_cases ht : t = []
          · have HU2 := HU.out
            rw [if_pos ht] at HU2
            have HU2 := Lib.hid HU2
            have HF6 : Hid (base ≤ w6.heap.size) := Lib.hid (Nat.le_trans R6.out.hr (Nat.le_of_lt R6.out.b.lt))
            obtain ⟨ty2, gb2, fD, hbe2, mD, cD, hDone⟩ := R6.out.bu.doneC HF6.out HFU.out
            injection hbe2 with e1 e2
            injection e2 with e2
            injection e2 with e2
            injection e2 with e2
            subst e1; subst e2
            have HDone := Lib.hid hDone
            have c0 : w6.cell? ⟨r, 0, none⟩ = some (.iface ty (.pointer (some ⟨gb, 0, none⟩))) := R6.out.b.cell 0
            have hl0 : t.length = 0 := by rw [ht]; rfl
            have dz : ((t.length : Int) == 0) = true := by rw [hl0]; rfl
            clear hDone ht hl0
            go_wp2_with fail
            refine HDone.out.mono ?_
            rintro e w7 ⟨rfl, hB7, hT7⟩
            have R7 := Lib.hid (R6.out.budget hB7 hT7)
            have U7 := Lib.hid (U6.out.trans (hT7.mono2 (S' := fun q => base ≤ q) (fun q h => h.1)))
            clear hB7 hT7 c0 R6 U6
            go_wp2_with fail
            go_returns
            exact ⟨rfl, by rw [HU2.out]; exact R7.out, U7.out⟩
          · have HU2 := HU.out
            rw [if_neg ht] at HU2
            have HU2 := Lib.hid HU2
            have hl0 : t.length ≠ 0 := fun e => ht (List.eq_nil_of_length_eq_zero e)
            have dz : ((t.length : Int) == 0) = false := beq_eq_false_iff_ne.2 (by omega)
            clear ht hl0
            go_wp2_with fail
            go_returns
            exact ⟨rfl, by rw [HU2.out]; exact R6.out, U6.out⟩
      · have db : (a.b == -1) = false := beq_eq_false_iff_ne.2 hb
        have hbeg : a.begin now = a := if_neg hb
        have HUSE : Hid ((0 < l - 1 → Rn.use ⟨bs, k :: t, lf, ou, nx⟩ now = ⟨bs.use, k :: t, lf.set k (l - 1), ou, nx⟩) ∧ (l - 1 ≤ 0 → Rn.use ⟨bs, k :: t, lf, ou, nx⟩ now = ⟨if t = [] then bs.use.done else bs.use, t, lf.set k (l - 1), ou.set k { a with d := now + 1 }, nx⟩)) := Lib.hid
          ⟨fun hp => by rw [HEQ.out, if_pos hp, hbeg, set_same HAA.out], fun hp => by rw [HEQ.out, if_neg (Int.not_lt.2 hp), hbeg]⟩
        have HA2 := HAA
        clear hb hbeg HEQ
        go_upto_region 4 with fail
        clear c3 ca
        have c2 : w2.cell? ⟨r, 2, none⟩ = some (.slice (some ⟨lb, lo, none⟩) N lc) := R2.out.b.cell 2
        have cl : w2.cell? ⟨lb, lo + k, none⟩ = some (.int .i64 l) := by have h := R2.out.l.cell encI_len k l HL.out 0 _ rfl; simpa using h
        have fl : w2.frozen? ⟨lb, lo + k, none⟩ = false := R2.out.l.frozen _
        have hS := R2.out.leftSet k l HL.out (l - 1)
        have R3 := Lib.hid hS.1
        have U3 := Lib.hid (U2.out.trans (hS.2.mono (S' := fun q => base ≤ q) (fun q _ e => by rw [e]; exact HLB.out)))
        clear hS
        go_upto_region 5 with fail
        clear c2 cl fl R2 U2
        generalize w2.setCell ⟨lb, lo + k, none⟩ (.int .i64 (l - 1)) = w3 at *
        have c2 : w3.cell? ⟨r, 2, none⟩ = some (.slice (some ⟨lb, lo, none⟩) N lc) := R3.out.b.cell 2
        have cl : w3.cell? ⟨lb, lo + k, none⟩ = some (.int .i64 (l - 1)) := by
          have h := R3.out.l.cell encI_len k (l - 1) (List.getElem?_set_self (by rw [HLL.out]; exact hkN)) 0 _ rfl
          simpa using h
        by_cases hp : 0 < l - 1
        · have HU := Lib.hid (HUSE.out.1 hp)
          have dp : decide (0 < l - 1) = true := decide_eq_true hp
          go_wp2_with fail
          go_returns
          exact ⟨rfl, by rw [HU.out]; exact R3.out, U3.out⟩
        · have HU := Lib.hid (HUSE.out.2 (Int.not_lt.1 hp))
          have dp : decide (0 < l - 1) = false := decide_eq_false hp
          have c3 : w3.cell? ⟨r, 3, none⟩ = some (.slice (some ⟨ob, oo, none⟩) N oc) := R3.out.b.cell 3
          have c1 : w3.cell? ⟨r, 1, none⟩ = some (.pointer (some ⟨g, 0, none⟩)) := R3.out.b.cell 1
          have ca : w3.cell? ⟨ob, oo + k * 4 + 3, none⟩ = some (.int .i64 a.d) := R3.out.o.cell encA_len k a HA2.out 3 _ rfl
          have fa : w3.frozen? ⟨ob, oo + k * 4 + 3, none⟩ = false := R3.out.o.frozen _
          have hS := R3.out.outSet k a HA2.out 3 (by decide) (now + 1) { a with d := now + 1 } rfl
          have R4 := Lib.hid hS.1
          have U4 := Lib.hid (U3.out.trans (hS.2.mono (S' := fun q => base ≤ q) (fun q _ e => by rw [e]; exact HOB.out)))
          clear hS
          go_upto_region 7 with fail
          clear c2 cl c3 c1 ca fa R3 U3
          generalize w3.setCell ⟨ob, oo + k * 4 + 3, none⟩ (.int .i64 (now + 1)) = w4 at *
          have c1 : w4.cell? ⟨r, 1, none⟩ = some (.pointer (some ⟨g, 0, none⟩)) := R4.out.b.cell 1
          go_wp2_with fail
          refine (Rg.popI_any w4 g d 8 (idx (k :: t)) R4.out.ri (k : Int) rfl true (by simp [Rg.popB, idx]) (idx t) rfl).mono ?_
          rintro e w5 ⟨rfl, hR5, hU5⟩
          have hS := R4.out.ring (wt := t) hR5 hU5
          have R5 := Lib.hid hS
          have U5 := Lib.hid (U4.out.trans (hU5.mono (S' := fun q => base ≤ q) (fun q _ e => e.elim (fun e => by rw [e]; exact R4.out.hg) (fun e => by rw [e]; exact R4.out.hd))))
          clear hS hR5 hU5 c1 R4 U4
          have c1 : w5.cell? ⟨r, 1, none⟩ = some (.pointer (some ⟨g, 0, none⟩)) := R5.out.b.cell 1
          go_wp2_with fail
          refine (Rg.lenI_any w5 g d 8 (idx t) R5.out.ri).mono ?_
          rintro e w6 ⟨rfl, k6, h6⟩
          rw [idx_len]
          have u6 : Upd (fun _ => False) w5 w6 := by rw [h6]; exact (Upd.refl _ w5).drewN k6
          have R6 := Lib.hid (R5.out.still u6)
          have U6 := Lib.hid (U5.out.trans (u6.mono (fun _ _ h => h.elim)))
          clear u6 h6 c1 R5 U5
          by_cases ht : t = []
          · have HU2 := HU.out
            rw [if_pos ht] at HU2
            have HU2 := Lib.hid HU2
            have HF6 : Hid (base ≤ w6.heap.size) := Lib.hid (Nat.le_trans R6.out.hr (Nat.le_of_lt R6.out.b.lt))
            obtain ⟨ty2, gb2, fD, hbe2, mD, cD, hDone⟩ := R6.out.bu.doneC HF6.out HFU.out
            injection hbe2 with e1 e2
            injection e2 with e2
            injection e2 with e2
            injection e2 with e2
            subst e1; subst e2
            have HDone := Lib.hid hDone
            have c0 : w6.cell? ⟨r, 0, none⟩ = some (.iface ty (.pointer (some ⟨gb, 0, none⟩))) := R6.out.b.cell 0
            have hl0 : t.length = 0 := by rw [ht]; rfl
            have dz : ((t.length : Int) == 0) = true := by rw [hl0]; rfl
            clear hDone ht hl0
            go_wp2_with fail
            refine HDone.out.mono ?_
            rintro e w7 ⟨rfl, hB7, hT7⟩
            have R7 := Lib.hid (R6.out.budget hB7 hT7)
            have U7 := Lib.hid (U6.out.trans (hT7.mono2 (S' := fun q => base ≤ q) (fun q h => h.1)))
            clear hB7 hT7 c0 R6 U6
            go_wp2_with fail
            go_returns
            exact ⟨rfl, by rw [HU2.out]; exact R7.out, U7.out⟩
          · have HU2 := HU.out
            rw [if_neg ht] at HU2
            have HU2 := Lib.hid HU2
            have hl0 : t.length ≠ 0 := fun e => ht (List.eq_nil_of_length_eq_zero e)
            have dz : ((t.length : Int) == 0) = false := beq_eq_false_iff_ne.2 (by omega)
            clear ht hl0
            go_wp2_with fail
            go_returns
            exact ⟨rfl, by rw [HU2.out]; exact R6.out, U6.out⟩
end Go.Proofs.Ytcgefncddbbnlaa
