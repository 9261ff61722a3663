/-
  The document's budget of layer 17: what it is; Go.
-/
import Derived.Test.YtcgefncddbbnlaaChunkK
import Derived.Test.YtcgefncddbbnlaaSeqT
import Derived.Test.YtcgefncddbbnlaaInts
namespace Go.Proofs.Ytcgefncddbbnlaa.Ck
open Go.RowKit Go.Proofs.Ytcgefncddbbnlaa.Cf

def Cp.cellsR (p : Cp) (L K : Value) : Array Value := #[.bool p.rf, .int .i64 p.C, .int .i64 p.T, .int .i64 p.free, L, K, .bool p.still]
def tsR : List TypeId := [107, 114, 112]

structure Rud (w : World) (base r : Nat) (L K : Value) (p : Cp) (xs : List (Int × Int × Int)) (ys : List (Int × Int)) : Prop where
  b : Blk w r 107 (p.cellsR L K)
  s : SlR encC w base 114 3 L xs
  k : SlR encB w base 112 2 K ys
  hr : base ≤ r
def RSt (w : World) (base r : Nat) (s : St17) : Prop := ∃ L K, Rud w base r L K s.p s.xs s.ys

section
variable {w w' : World} {base r : Nat} {L K L' K' : Value} {p : Cp} {xs xs' : List (Int × Int × Int)} {ys ys' : List (Int × Int)} {S : Nat → Prop}
theorem Rud.upd (h : Rud w base r L K p xs ys) (hu : Upd S w w') (hg : ¬ S r) (hl : ∀ k, slBlk L = some k → ¬ S k) (hk : ∀ k, slBlk K = some k → ¬ S k) : Rud w' base r L K p xs ys := ⟨h.b.upd hu hg, h.s.upd hu hl, h.k.upd hu hk, h.hr⟩
theorem Rud.still (h : Rud w base r L K p xs ys) (hu : Upd (fun _ => False) w w') : Rud w' base r L K p xs ys := h.upd hu (fun h => h) (fun _ _ h => h) (fun _ _ h => h)
theorem Rud.drewN (h : Rud w base r L K p xs ys) (n : Nat) : Rud (w.drewN n) base r L K p xs ys := h.still ((Upd.refl _ w).drewN n)
theorem Rud.alloc (h : Rud w base r L K p xs ys) (o : Obj) : Rud (w.alloc o) base r L K p xs ys := h.still ((Upd.refl _ w).alloc o)
theorem Rud.lt (h : Rud w base r L K p xs ys) : r < w.heap.size ∧ (∀ k, slBlk L = some k → k < w.heap.size) ∧ (∀ k, slBlk K = some k → k < w.heap.size) := ⟨h.b.lt, fun k hk => (Sl.blk h.s k hk).2.1, fun k hk => (Sl.blk h.k k hk).2.1⟩
/-- Nothing old is turned. -/
theorem Rud.old (h : Rud w base r L K p xs ys) (hu : Upd (fun k => w.heap.size ≤ k) w w') : Rud w' base r L K p xs ys :=
  h.upd hu (fun e => by have := h.lt.1; omega) (fun k hk e => by have := h.lt.2.1 k hk; omega) (fun k hk e => by have := h.lt.2.2 k hk; omega)
theorem Rud.neL (h : Rud w base r L K p xs ys) : ∀ k, slBlk L = some k → k ≠ r := Sl.ne_ h.s h.b (by decide)
theorem Rud.neK (h : Rud w base r L K p xs ys) : ∀ k, slBlk K = some k → k ≠ r := Sl.ne_ h.k h.b (by decide)
theorem Rud.tyR (h : Rud w base r L K p xs ys) : Tys base tsR w r := ⟨h.hr, _, _, h.b, by decide⟩
theorem Rud.setFree (h : Rud w base r L K p xs ys) (f : Int) : Rud (w.setCell ⟨r, 3, none⟩ (.int .i64 f)) base r L K { p with free := f } xs ys := by
  have hu := (Upd.refl (fun k => k = r) w).setCell (p := ⟨r, 3, none⟩) (fun _ => rfl) (.int .i64 f)
  exact ⟨by simpa [Cp.cellsR] using h.b.set_ 3 (.int .i64 f), h.s.upd hu (fun k hk e => h.neL k hk e), h.k.upd hu (fun k hk e => h.neK k hk e), h.hr⟩
theorem Rud.setStill (h : Rud w base r L K p xs ys) (f : Bool) : Rud (w.setCell ⟨r, 6, none⟩ (.bool f)) base r L K { p with still := f } xs ys := by
  have hu := (Upd.refl (fun k => k = r) w).setCell (p := ⟨r, 6, none⟩) (fun _ => rfl) (.bool f)
  exact ⟨by simpa [Cp.cellsR] using h.b.set_ 6 (.bool f), h.s.upd hu (fun k hk e => h.neL k hk e), h.k.upd hu (fun k hk e => h.neK k hk e), h.hr⟩
theorem Rud.setL (hb : Blk w r 107 (p.cellsR L K)) (hs : SlR encC w base 114 3 L' xs) (hk : SlR encB w base 112 2 K ys) (hr : base ≤ r) : Rud (w.setCell ⟨r, 4, none⟩ L') base r L' K p xs ys := by
  have hu := (Upd.refl (fun k => k = r) w).setCell (p := ⟨r, 4, none⟩) (fun _ => rfl) L'
  exact ⟨by simpa [Cp.cellsR] using hb.set_ 4 L', hs.upd hu (fun k hk e => Sl.ne_ hs hb (by decide) k hk e), hk.upd hu (fun k hk' e => Sl.ne_ hk hb (by decide) k hk' e), hr⟩
theorem Rud.setK (hb : Blk w r 107 (p.cellsR L K)) (hs : SlR encC w base 114 3 L xs) (hk : SlR encB w base 112 2 K' ys) (hr : base ≤ r) : Rud (w.setCell ⟨r, 5, none⟩ K') base r L K' p xs ys := by
  have hu := (Upd.refl (fun k => k = r) w).setCell (p := ⟨r, 5, none⟩) (fun _ => rfl) K'
  exact ⟨by simpa [Cp.cellsR] using hb.set_ 5 K', hs.upd hu (fun k hk e => Sl.ne_ hs hb (by decide) k hk e), hk.upd hu (fun k hk' e => Sl.ne_ hk hb (by decide) k hk' e), hr⟩
theorem RSt.drewN {s : St17} (h : RSt w base r s) (k : Nat) : RSt (w.drewN k) base r s := let ⟨L, K, h⟩ := h; ⟨L, K, h.drewN k⟩
theorem RSt.still {s : St17} (h : RSt w base r s) (hu : Upd (fun _ => False) w w') : RSt w' base r s := let ⟨L, K, h⟩ := h; ⟨L, K, h.still hu⟩
theorem RSt.tu {s : St17} {ts : List TypeId} (h : RSt w base r s) (hu : Tu base ts w w') (h1 : 107 ∉ ts) (h2 : 114 ∉ ts) (h3 : 112 ∉ ts) : RSt w' base r s :=
  let ⟨L, K, h⟩ := h; ⟨L, K, h.b.tu hu h1, Sl.tu h.s hu h2, Sl.tu h.k hu h3, h.hr⟩
end
theorem infoCR : (Try.prog.info? 114).map (fun i => (i.zero, i.size, i.bytes)) = some (some (.agg #[.int .i64 0, .int .i64 0, .int .i64 0]), 3, 24) := by kernel_rfl
theorem infoBR : (Try.prog.info? 112).map (fun i => (i.zero, i.size, i.bytes)) = some (some (.agg #[.int .i64 0, .int .i64 0]), 2, 16) := by kernel_rfl

theorem free_take {s : St17} (h : FineC s) (now : Int) (i : Nat) : 0 ≤ s.p.free + ripeN now (s.ys.take i) ∧ s.p.free + ripeN now (s.ys.take i) ≤ 1001000 := by
  have h1 := ripeN_bound now _ (fineB_take h.fineB i)
  have h2 := h.bound
  have h3 : (s.ys.take i).length ≤ s.ys.length := by rw [List.length_take]; omega
  have := h.free
  omega

set_option maxRecDepth 100000 in
set_option maxHeartbeats 6400000 in
theorem goR (w : World) (base r : Nat) (s : St17) (h : RSt w base r s) (hbase : base ≤ w.heap.size) (hf : FineC s) (now : Int) (busy : Bool) :
    Calls Try.prog 32 #[.pointer (some ⟨r, 0, none⟩), .int .i64 now, .bool busy] w fun e w' => e = .returned (.tuple #[]) ∧ RSt w' base r (s.go now busy) ∧ Tu base tsR w w' := by
  obtain ⟨L, K, h⟩ := h
  have hxl : s.xs.length ≤ 1000 := by have := hf.bound; omega
  have hyl : s.ys.length ≤ 1000 := by have := hf.bound; omega
  obtain ⟨AK, cK, rfl⟩ := h.k.shape
  have H := Lib.hid h; clear h
  have HF := Lib.hid hf; clear hf
  go_enter Try.func32, Try.ntmps32
  go_wp2_with fail
  go_loopw [6, 7] (fun vl vi wr => ∃ i : Nat, i ≤ s.ys.length ∧ vi = .int .i64 i ∧ Rud wr base r L (.slice AK s.ys.length cK) { s.p with free := s.p.free + ripeN now (s.ys.take i) } s.xs s.ys ∧ SlR encB wr w.heap.size 112 2 vl (keepB now (s.ys.take i)) ∧ Upd (fun k => k = r ∨ w.heap.size ≤ k) w wr) (fun _ vi _ => s.ys.length - (intOf vi).toNat)
  case atStart => exact ⟨0, Nat.zero_le _, rfl, by simpa [ripeN] using H.out, SlR.nil, Upd.refl _ _⟩
  case round =>
    obtain ⟨i, hi, rfl, hR, hL, hU⟩ := hrel
    have RR := Lib.hid hR; have LL := Lib.hid hL; have UU := Lib.hid hU
    clear hR hL hU
    have c5 : wr.cell? ⟨r, 5, none⟩ = some (.slice AK s.ys.length cK) := RR.out.b.cell 5
    by_cases hlt : i < s.ys.length
    · obtain ⟨y, hy⟩ : ∃ y, s.ys[i]? = some y := ⟨_, List.getElem?_eq_getElem hlt⟩
      obtain ⟨bk, ok_, ck', e, _, hbk, _, _⟩ := RR.out.k.form (by omega)
      injection e with e1 e2 e3
      subst e1 e3
      have d0 := (RR.out.k.cellB i y hy).1
      have d1 := (RR.out.k.cellB i y hy).2
      have hyb := HF.out.fineB y (List.mem_of_getElem? hy)
      have hft := free_take HF.out now i
      obtain ⟨f0, hf0⟩ : ∃ f0, s.p.free + ripeN now (s.ys.take i) = f0 := ⟨_, rfl⟩
      rw [hf0] at hft
      have c3 : wr.cell? ⟨r, 3, none⟩ = some (.int .i64 f0) := by rw [← hf0]; exact RR.out.b.cell 3
      have HF0 := Lib.hid hf0
      have hft0 := hft.1; have hft1 := hft.2
      have hyb0 := hyb.1; have hyb1 := hyb.2
      have HY := Lib.hid hy
      have hrw : r < wr.heap.size := RR.out.b.lt
      have hbkr : Hid (bk ≠ r) := Lib.hid (RR.out.neK bk rfl)
      clear hf0 hft hyb hy
      obtain ⟨by_, hby⟩ : ∃ b, decide (y.1 ≤ now) = b := ⟨_, rfl⟩
      have HBY := Lib.hid hby
      cases by_
      rotate_left
      · have hle := Lib.hid (of_decide_eq_true HBY.out)
        have f3 := RR.out.b.frozen 3
        go_wp2_with fail
        refine wp_region_seq (fun i => decide (i < 14)) (fun i => decide (14 ≤ i ∧ i < 17)) (fun w' => w'.cell? ⟨r, 3, none⟩ = some (.int .i64 f0) ∧ w'.cell? ⟨r, 5, none⟩ = some (.slice (some ⟨bk, ok_, none⟩) s.ys.length cK) ∧ w'.cell? ⟨bk, ok_ + i * 2 + 1, none⟩ = some (.int .i64 y.2))
          (by kernel_rfl) (by kernel_rfl) (fun t ht => (of_decide_eq_true ht).2) (fun _ _ _ _ _ h => h) (by kernel_rfl) ⟨c3, c5, d1⟩ ?_
        iterate 14
          refine' wpSeq_q (by rfl) (by rfl) (fun w' hS' => ?_) ?_
          rotate_left
          · obtain ⟨s0, s1, s2⟩ := hS'
            go_simp
            try rfl
          try simp only [Act.put, List.setIfInBounds_toArray, List.set_cons_zero, List.set_cons_succ]
        have hwr := wrap_in (f0 + y.2) (by omega) (by omega)
        rw [hwr]
        clear hwr
        iterate 3
          refine wpSeq_l (by rfl) (by rfl) (fun KQ hKQ => ?_)
          go_simp
          refine hKQ _ _ (.inl (by rfl)) ?_
          clear hKQ KQ
          try simp only [Act.put, List.setIfInBounds_toArray, List.set_cons_zero, List.set_cons_succ]
        refine wpSeq_nil ?_
        have hfw : Hid (Upd (fun k => k = r) wr (wr.drew.setCell ⟨r, 3, none⟩ (.int .i64 (f0 + y.2)))) := Lib.hid (((Upd.refl (fun k => k = r) wr).drew).setCell (p := ⟨r, 3, none⟩) (fun _ => rfl) _)
        go_wp2_with fail
        go_roundw
        case rel =>
          refine ⟨i + 1, by omega, by go_num, ?_, ?_, UU.out.trans (hfw.out.mono (fun k _ e => .inl e))⟩
          · have h1 := (RR.out.drewN 1).setFree (f0 + y.2)
            rw [ripeN_take now s.ys i y HY.out, if_pos hle.out, ← Int.add_assoc, HF0.out]
            exact h1
          · rw [keepB_take now s.ys i y HY.out, if_pos hle.out, List.append_nil]
            exact LL.out.upd hfw.out (fun k hk e => by have := (Sl.blk LL.out k hk).1; have := H.out.lt.1; omega)
        case measure => simp [intOf]; omega
      · have hle := Lib.hid (Int.not_le.1 (of_decide_eq_false HBY.out))
        have hln : (keepB now (s.ys.take i)).length ≤ 1000 := by have := keepB_len now (s.ys.take i); rw [List.length_take] at this; omega
        have hszw : w.heap.size ≤ wr.heap.size := UU.out.size
        obtain ⟨i0, hi0, hz0, hz1, hz2⟩ := info_parts infoBR
        obtain ⟨Al, cl, rfl⟩ := LL.out.shape
        go_wp2_with (
          at_builtin
          refine wpList_append_sl rfl (.tmp 43) (.tmp 51) 105 rfl w.heap.size 112 i0 _ 2 16 Try.underlying105 hi0 hz0 hz1 hz2 rfl (by decide) _ (keepB now (s.ys.take i)).length (rws encB (keepB now (s.ys.take i))) rfl (Sl.alloc LL.out _) ⟨_, 0, none⟩ 1 [.int .i64 y.1, .int .i64 y.2] rfl rfl (fun j u hu => by rw [add_at, (Blk.new _ _ _).cell j]; simpa using hu) (by simp [Value.oneCell']) (by unfold maxLen; omega) (by omega) (by simp; omega) ?_
          intro v' w6 hs6 hu6 hv6
          obtain ⟨bq, oq, cq, rfl, _, _, _, _⟩ := hs6.form (by omega)
          have S6 := Lib.hid hs6
          have hUn : Upd (fun k => w.heap.size ≤ k) (wr.alloc (.cells #[.int .i64 y.1, .int .i64 y.2] 112)) w6 := hu6.mono (fun k _ hk => (Sl.blk (Sl.alloc LL.out (.cells #[.int .i64 y.1, .int .i64 y.2] 112)) k hk).1)
          have U6 := Lib.hid (((Upd.refl (fun k => w.heap.size ≤ k) wr).alloc (.cells #[.int .i64 y.1, .int .i64 y.2] 112)).trans hUn)
          clear hs6 hu6 hv6 hUn)
        go_roundw
        case rel =>
          refine ⟨i + 1, by omega, by go_num, ?_, ?_, UU.out.trans (U6.out.mono (fun k _ e => .inr e))⟩
          · rw [ripeN_take now s.ys i y HY.out, if_neg (Int.not_le.2 hle.out), Int.add_zero]
            exact RR.out.upd U6.out (fun e => by have := H.out.lt.1; omega) (fun k hk e => by have := H.out.lt.2.1 k hk; omega) (fun k hk e => by have := H.out.lt.2.2 k hk; omega)
          · rw [keepB_take now s.ys i y HY.out, if_neg (Int.not_le.2 hle.out)]
            unfold SlR
            rw [List.length_append, rws_append]
            exact S6.out
        case measure => simp [intOf]; omega
    · have hii : i = s.ys.length := by omega
      subst hii
      have hR9 := RR.out; have hL9 := LL.out
      rw [List.take_length] at hR9 hL9
      have R9 := Lib.hid hR9; have L9 := Lib.hid hL9
      clear hR9 hL9
      obtain ⟨Al, cl, rfl⟩ := L9.out.shape
      have hft := (HF.out.ripe now)
      have hfr := hft.free
      have hfr1 := hft.bound.2.1
      obtain ⟨f1, hf1⟩ : ∃ f, (s.ripe now).p.free = f := ⟨_, rfl⟩
      have HF1 := Lib.hid hf1
      rw [hf1] at hfr hfr1
      have f5 := RR.out.b.frozen 5
      have KL : Hid (SlR encB wr base 112 2 (.slice Al (keepB now s.ys).length cl) (keepB now s.ys)) := Lib.hid (L9.out.mono hbase)
      have hNB : Hid (Blk wr r 107 (Cp.cellsR { s.p with free := f1 } L (.slice AK s.ys.length cK))) := Lib.hid (by have := R9.out.b; rw [← hf1]; exact this)
      clear hf1 hft
      have HN : Hid (Rud (wr.setCell ⟨r, 5, none⟩ (.slice Al (keepB now s.ys).length cl)) base r L (.slice Al (keepB now s.ys).length cl) { s.p with free := f1 } s.xs (keepB now s.ys)) := Lib.hid (Rud.setK hNB.out R9.out.s KL.out R9.out.hr)
      have TN : Hid (Tu base tsR w (wr.setCell ⟨r, 5, none⟩ (.slice Al (keepB now s.ys).length cl))) := Lib.hid (Tu.of (UU.out.setCell (p := ⟨r, 5, none⟩) (fun _ => .inl rfl) _) (fun k hk e => e.elim (fun e => by subst e; exact H.out.tyR) (fun e => by omega)))
      have FIN : Hid (∀ b, busy = b → ¬ (b = true ∧ s.p.still = false ∧ 0 < f1) → ∀ W L K, Rud W base r L K { s.p with free := f1 } s.xs (keepB now s.ys) → RSt W base r (s.go now busy)) := Lib.hid (fun b hb hn W L K hC => by
        unfold St17.go
        rw [HF1.out, hb, if_neg hn]
        refine ⟨L, K, ?_⟩
        have e : (s.ripe now).p = { s.p with free := f1 } := by rw [← HF1.out]; rfl
        rw [e]
        exact hC)
      have c4 : (wr.setCell ⟨r, 5, none⟩ (.slice Al (keepB now s.ys).length cl)).cell? ⟨r, 4, none⟩ = some L := HN.out.b.cell 4
      have c3 : (wr.setCell ⟨r, 5, none⟩ (.slice Al (keepB now s.ys).length cl)).cell? ⟨r, 3, none⟩ = some (.int .i64 f1) := HN.out.b.cell 3
      have c6 : (wr.setCell ⟨r, 5, none⟩ (.slice Al (keepB now s.ys).length cl)).cell? ⟨r, 6, none⟩ = some (.bool s.p.still) := HN.out.b.cell 6
      clear hlt RR LL UU L9 R9
      go_upto_region 8 with fail
      generalize wr.setCell ⟨r, 5, none⟩ (.slice Al (keepB now s.ys).length cl) = W at *
      have hszW : base ≤ W.heap.size := Nat.le_trans hbase TN.out.size
      cases busy
      · go_wp2_with fail
        go_returns
        exact ⟨rfl, FIN.out false rfl (fun h => by cases h.1) _ _ _ HN.out, TN.out⟩
      · obtain ⟨sb, hsb⟩ : ∃ sb, s.p.still = sb := ⟨_, rfl⟩
        rw [hsb] at c6
        have HSB := Lib.hid hsb; clear hsb
        cases sb
        · by_cases hpos : 0 < f1
          · have e0 : decide (0 < f1) = true := decide_eq_true hpos
            have HP := Lib.hid hpos
            obtain ⟨i0, hi0, hz0, hz1, hz2⟩ := info_parts infoCR
            have HS : Hid (∀ wx, Upd (fun k => W.heap.size ≤ k) W wx → wx.cell? ⟨r, 3, none⟩ = some (.int .i64 f1) ∧ wx.cell? ⟨r, 4, none⟩ = some L) := Lib.hid (fun wx hu => ⟨(HN.out.old hu).b.cell 3, (HN.out.old hu).b.cell 4⟩)
            have HFz : Hid (∀ wx, Upd (fun k => W.heap.size ≤ k) W wx → wx.frozen? ⟨r, 4, none⟩ = false) := Lib.hid (fun wx hu => (HN.out.old hu).b.frozen 4)
            have HL := Lib.hid HN.out.s
            obtain ⟨AL, cL, rfl⟩ := HN.out.s.shape
            go_wp2_with fail
            refine wp_region_tree (.q 0 (.q 2 (.q 3 (.q 4 (.q 5 (.q 7 (.q 8 (.q 9 (.q 10 (.q 11 (.q 12 (.b 1 (.b 6 (.l 13 (.l 14 (.l 15 (.l 16 (.l 17 .d))))) 13 (.l 6 (.l 14 (.l 15 (.l 16 (.l 17 .d)))))) 13 (.l 1 (.l 6 (.l 14 (.l 15 (.l 16 (.l 17 .d)))))))))))))))))) (fun i => decide (17 ≤ i ∧ i < 18)) (fun w' => w'.cell? ⟨r, 3, none⟩ = some (.int .i64 f1) ∧ w'.cell? ⟨r, 4, none⟩ = some (.slice AL s.xs.length cL))
              (by kernel_rfl) (by kernel_rfl) (fun t ht => by have := of_decide_eq_true ht; exact this.2) (fun _ _ _ _ _ h => h) (by kernel_rfl) rfl (HS.out _ ((Upd.refl _ _).drew)) ?_
            iterate 11
              refine' wpOT_q (by rfl) (by rfl) (fun w' hS' => ?_) ?_
              rotate_left
              · obtain ⟨s0, s1⟩ := hS'
                go_simp
                try rfl
              try simp only [Act.put, List.setIfInBounds_toArray, List.set_cons_zero, List.set_cons_succ]
            have U0 : Hid (Upd (fun k => W.heap.size ≤ k) W W.drew) := Lib.hid ((Upd.refl _ W).drew)
            generalize W.drew = Wd at *
            refine wpOT_b ?_ ?_
            refine wpOT_loud (by rfl) (by rfl) (fun KQ hKQ => ?_)
            go_simp
            have UA := Lib.hid (U0.out.alloc (.cells #[] 114))
            have hA : W.heap.size ≤ Wd.heap.size := U0.out.size
            have EA : Hid (Blk (Wd.alloc (.cells #[] 114)) Wd.heap.size 114 #[]) := Lib.hid (Blk.new Wd _ _)
            refine hKQ _ _ (.inr (HS.out _ UA.out)) ?_
            clear hKQ KQ
            try simp only [Act.put, List.setIfInBounds_toArray, List.set_cons_zero, List.set_cons_succ]
            generalize Wd.alloc (.cells #[] 114) = wA at *
            generalize Wd.heap.size = bA at *
            refine wpOT_b ?_ ?_
            refine wpOT_loud (by rfl) (by rfl) (fun KQ hKQ => ?_)
            refine wp_append_copy (.tmp 73) (.tmp 77) 104 rfl W.heap.size _ 114 i0 _ 3 24 Try.underlying104 hi0 hz0 hz1 hz2 rfl (by decide) _ rfl EA.out hA (.slice AL s.xs.length cL) s.xs.length (rws encC s.xs) rfl (Sl.upd HL.out UA.out (fun k hk e => by have := (Sl.blk HL.out k hk).2.1; omega)) (rws_one_cell encC_one _) (by unfold maxLen; omega) (by omega) UA.out.size ?_
            intro v' wB hs1 hu1
            obtain ⟨AB, cB, rfl⟩ := Sl.shape hs1
            have SB := Lib.hid hs1
            have UB := Lib.hid (UA.out.trans (hu1.mono (fun k _ e => by rw [e]; exact hA)))
            clear hs1 hu1 EA
            refine hKQ _ _ (.inr (HS.out _ UB.out)) ?_
            clear hKQ KQ
            try simp only [Act.put, List.setIfInBounds_toArray, List.set_cons_zero, List.set_cons_succ]
            refine wpOT_l (by rfl) (by rfl) (fun KQ hKQ => ?_)
            go_simp
            have UC := Lib.hid (UB.out.alloc (.cells #[.int .i64 now, .int .i64 f1, .int .i64 0] 114))
            have hC : W.heap.size ≤ wB.heap.size := UB.out.size
            have SB := Lib.hid (SB.out.alloc (.cells #[.int .i64 now, .int .i64 f1, .int .i64 0] 114))
            have CC : Hid (Blk (wB.alloc (.cells #[.int .i64 now, .int .i64 f1, .int .i64 0] 114)) wB.heap.size 114 #[.int .i64 now, .int .i64 f1, .int .i64 0]) := Lib.hid (Blk.new wB _ _)
            refine hKQ _ _ (.inr (HS.out _ UC.out)) ?_
            clear hKQ KQ
            try simp only [Act.put, List.setIfInBounds_toArray, List.set_cons_zero, List.set_cons_succ]
            generalize wB.alloc (.cells #[.int .i64 now, .int .i64 f1, .int .i64 0] 114) = wC at *
            generalize wB.heap.size = bC at *
            refine wpOT_l (by rfl) (by rfl) (fun KQ hKQ => ?_)
            refine wp_append_sl (.tmp 78) (.tmp 85) 104 rfl W.heap.size 114 i0 _ 3 24 Try.underlying104 hi0 hz0 hz1 hz2 rfl (by decide) (.slice AB s.xs.length cB) s.xs.length (rws encC s.xs) rfl SB.out ⟨bC, 0, none⟩ 1 [.int .i64 now, .int .i64 f1, .int .i64 0] rfl rfl (fun j u hu => by rw [add_at, CC.out.cell j]; simpa using hu) (by simp [Value.oneCell']) (by unfold maxLen; omega) (by omega) UC.out.size ?_
            intro v9 wZ hs1 hu1 hv1
            obtain ⟨bz, oz, cz, rfl, _, _, _, _⟩ := hs1.form (by omega)
            have SZ := Lib.hid hs1
            have UZ := Lib.hid (UC.out.trans (hu1.mono (fun k _ hk => (Sl.blk SB.out k hk).1)))
            clear hs1 hu1 hv1
            refine hKQ _ _ (.inr (HS.out _ UZ.out)) ?_
            clear hKQ KQ
            try simp only [Act.put, List.setIfInBounds_toArray, List.set_cons_zero, List.set_cons_succ]
            iterate 2
              refine wpOT_l (by rfl) (by rfl) (fun KQ hKQ => ?_)
              go_simp
              refine hKQ _ _ (.inr (HS.out _ UZ.out)) ?_
              clear hKQ KQ
              try simp only [Act.put, List.setIfInBounds_toArray, List.set_cons_zero, List.set_cons_succ]
            have hfz := HFz.out _ UZ.out
            have hSz := HS.out _ UZ.out
            obtain ⟨s0, s1⟩ := hSz
            refine wpOT_l (by rfl) (by rfl) (fun KQ hKQ => ?_)
            go_simp
            refine hKQ _ _ (.inl (by rfl)) ?_
            clear hKQ KQ
            try simp only [Act.put, List.setIfInBounds_toArray, List.set_cons_zero, List.set_cons_succ]
            refine wpOT_d ?_
            rotate_left
            refine wpOT_loud (by rfl) (by rfl) (fun KQ hKQ => ?_)
            go_simp
            have UC := Lib.hid (UA.out.alloc (.cells #[.int .i64 now, .int .i64 f1, .int .i64 0] 114))
            have hC : W.heap.size ≤ wA.heap.size := UA.out.size
            have hAC : wA.heap.size ≠ bA := by have := EA.out.lt; omega
            have EA := Lib.hid (EA.out.alloc (.cells #[.int .i64 now, .int .i64 f1, .int .i64 0] 114))
            have CC : Hid (Blk (wA.alloc (.cells #[.int .i64 now, .int .i64 f1, .int .i64 0] 114)) wA.heap.size 114 #[.int .i64 now, .int .i64 f1, .int .i64 0]) := Lib.hid (Blk.new wA _ _)
            refine hKQ _ _ (.inr (HS.out _ UC.out)) ?_
            clear hKQ KQ
            try simp only [Act.put, List.setIfInBounds_toArray, List.set_cons_zero, List.set_cons_succ]
            generalize wA.alloc (.cells #[.int .i64 now, .int .i64 f1, .int .i64 0] 114) = wC at *
            generalize wA.heap.size = bC at *
            refine wpOT_l (by rfl) (by rfl) (fun KQ hKQ => ?_)
            refine wp_append_copy (.tmp 73) (.tmp 77) 104 rfl W.heap.size _ 114 i0 _ 3 24 Try.underlying104 hi0 hz0 hz1 hz2 rfl (by decide) _ rfl EA.out hA (.slice AL s.xs.length cL) s.xs.length (rws encC s.xs) rfl (Sl.upd HL.out UC.out (fun k hk e => by have := (Sl.blk HL.out k hk).2.1; omega)) (rws_one_cell encC_one _) (by unfold maxLen; omega) (by omega) UC.out.size ?_
            intro v' wB hs1 hu1
            obtain ⟨AB, cB, rfl⟩ := Sl.shape hs1
            have SB := Lib.hid hs1
            have UB := Lib.hid (UC.out.trans (hu1.mono (fun k _ e => by rw [e]; exact hA)))
            have CC := Lib.hid (CC.out.upd hu1 (fun e => hAC e))
            clear hs1 hu1 EA
            refine hKQ _ _ (.inr (HS.out _ UB.out)) ?_
            clear hKQ KQ
            try simp only [Act.put, List.setIfInBounds_toArray, List.set_cons_zero, List.set_cons_succ]
            refine wpOT_l (by rfl) (by rfl) (fun KQ hKQ => ?_)
            refine wp_append_sl (.tmp 78) (.tmp 85) 104 rfl W.heap.size 114 i0 _ 3 24 Try.underlying104 hi0 hz0 hz1 hz2 rfl (by decide) (.slice AB s.xs.length cB) s.xs.length (rws encC s.xs) rfl SB.out ⟨bC, 0, none⟩ 1 [.int .i64 now, .int .i64 f1, .int .i64 0] rfl rfl (fun j u hu => by rw [add_at, CC.out.cell j]; simpa using hu) (by simp [Value.oneCell']) (by unfold maxLen; omega) (by omega) UB.out.size ?_
            intro v9 wZ hs1 hu1 hv1
            obtain ⟨bz, oz, cz, rfl, _, _, _, _⟩ := hs1.form (by omega)
            have SZ := Lib.hid hs1
            have UZ := Lib.hid (UB.out.trans (hu1.mono (fun k _ hk => (Sl.blk SB.out k hk).1)))
            clear hs1 hu1 hv1
            refine hKQ _ _ (.inr (HS.out _ UZ.out)) ?_
            clear hKQ KQ
            try simp only [Act.put, List.setIfInBounds_toArray, List.set_cons_zero, List.set_cons_succ]
            iterate 2
              refine wpOT_l (by rfl) (by rfl) (fun KQ hKQ => ?_)
              go_simp
              refine hKQ _ _ (.inr (HS.out _ UZ.out)) ?_
              clear hKQ KQ
              try simp only [Act.put, List.setIfInBounds_toArray, List.set_cons_zero, List.set_cons_succ]
            have hfz := HFz.out _ UZ.out
            have hSz := HS.out _ UZ.out
            obtain ⟨s0, s1⟩ := hSz
            refine wpOT_l (by rfl) (by rfl) (fun KQ hKQ => ?_)
            go_simp
            refine hKQ _ _ (.inl (by rfl)) ?_
            clear hKQ KQ
            try simp only [Act.put, List.setIfInBounds_toArray, List.set_cons_zero, List.set_cons_succ]
            refine wpOT_d ?_
            rotate_left
            refine wpOT_loud (by rfl) (by rfl) (fun KQ hKQ => ?_)
            go_simp
            have UC := Lib.hid (U0.out.alloc (.cells #[.int .i64 now, .int .i64 f1, .int .i64 0] 114))
            have hC : W.heap.size ≤ Wd.heap.size := U0.out.size
            have CC : Hid (Blk (Wd.alloc (.cells #[.int .i64 now, .int .i64 f1, .int .i64 0] 114)) Wd.heap.size 114 #[.int .i64 now, .int .i64 f1, .int .i64 0]) := Lib.hid (Blk.new Wd _ _)
            refine hKQ _ _ (.inr (HS.out _ UC.out)) ?_
            clear hKQ KQ
            try simp only [Act.put, List.setIfInBounds_toArray, List.set_cons_zero, List.set_cons_succ]
            generalize Wd.alloc (.cells #[.int .i64 now, .int .i64 f1, .int .i64 0] 114) = wC at *
            generalize Wd.heap.size = bC at *
            refine wpOT_l (by rfl) (by rfl) (fun KQ hKQ => ?_)
            go_simp
            have UA := Lib.hid (UC.out.alloc (.cells #[] 114))
            have hA : W.heap.size ≤ wC.heap.size := UC.out.size
            have hAC : bC ≠ wC.heap.size := by have := CC.out.lt; omega
            have CC := Lib.hid (CC.out.alloc (.cells #[] 114))
            have EA : Hid (Blk (wC.alloc (.cells #[] 114)) wC.heap.size 114 #[]) := Lib.hid (Blk.new wC _ _)
            refine hKQ _ _ (.inr (HS.out _ UA.out)) ?_
            clear hKQ KQ
            try simp only [Act.put, List.setIfInBounds_toArray, List.set_cons_zero, List.set_cons_succ]
            generalize wC.alloc (.cells #[] 114) = wA at *
            generalize wC.heap.size = bA at *
            refine wpOT_l (by rfl) (by rfl) (fun KQ hKQ => ?_)
            refine wp_append_copy (.tmp 73) (.tmp 77) 104 rfl W.heap.size _ 114 i0 _ 3 24 Try.underlying104 hi0 hz0 hz1 hz2 rfl (by decide) _ rfl EA.out hA (.slice AL s.xs.length cL) s.xs.length (rws encC s.xs) rfl (Sl.upd HL.out UA.out (fun k hk e => by have := (Sl.blk HL.out k hk).2.1; omega)) (rws_one_cell encC_one _) (by unfold maxLen; omega) (by omega) UA.out.size ?_
            intro v' wB hs1 hu1
            obtain ⟨AB, cB, rfl⟩ := Sl.shape hs1
            have SB := Lib.hid hs1
            have UB := Lib.hid (UA.out.trans (hu1.mono (fun k _ e => by rw [e]; exact hA)))
            have CC := Lib.hid (CC.out.upd hu1 (fun e => hAC e))
            clear hs1 hu1 EA
            refine hKQ _ _ (.inr (HS.out _ UB.out)) ?_
            clear hKQ KQ
            try simp only [Act.put, List.setIfInBounds_toArray, List.set_cons_zero, List.set_cons_succ]
            refine wpOT_l (by rfl) (by rfl) (fun KQ hKQ => ?_)
            refine wp_append_sl (.tmp 78) (.tmp 85) 104 rfl W.heap.size 114 i0 _ 3 24 Try.underlying104 hi0 hz0 hz1 hz2 rfl (by decide) (.slice AB s.xs.length cB) s.xs.length (rws encC s.xs) rfl SB.out ⟨bC, 0, none⟩ 1 [.int .i64 now, .int .i64 f1, .int .i64 0] rfl rfl (fun j u hu => by rw [add_at, CC.out.cell j]; simpa using hu) (by simp [Value.oneCell']) (by unfold maxLen; omega) (by omega) UB.out.size ?_
            intro v9 wZ hs1 hu1 hv1
            obtain ⟨bz, oz, cz, rfl, _, _, _, _⟩ := hs1.form (by omega)
            have SZ := Lib.hid hs1
            have UZ := Lib.hid (UB.out.trans (hu1.mono (fun k _ hk => (Sl.blk SB.out k hk).1)))
            clear hs1 hu1 hv1
            refine hKQ _ _ (.inr (HS.out _ UZ.out)) ?_
            clear hKQ KQ
            try simp only [Act.put, List.setIfInBounds_toArray, List.set_cons_zero, List.set_cons_succ]
            iterate 2
              refine wpOT_l (by rfl) (by rfl) (fun KQ hKQ => ?_)
              go_simp
              refine hKQ _ _ (.inr (HS.out _ UZ.out)) ?_
              clear hKQ KQ
              try simp only [Act.put, List.setIfInBounds_toArray, List.set_cons_zero, List.set_cons_succ]
            have hfz := HFz.out _ UZ.out
            have hSz := HS.out _ UZ.out
            obtain ⟨s0, s1⟩ := hSz
            refine wpOT_l (by rfl) (by rfl) (fun KQ hKQ => ?_)
            go_simp
            refine hKQ _ _ (.inl (by rfl)) ?_
            clear hKQ KQ
            try simp only [Act.put, List.setIfInBounds_toArray, List.set_cons_zero, List.set_cons_succ]
            refine wpOT_d ?_
            rotate_left
            all_goals
              have hB9 := (HN.out.old UZ.out).b
              have hK9 := (HN.out.old UZ.out).k
              have hL9 : SlR encC wZ base 114 3 (.slice (some ⟨bz, oz, none⟩) (s.xs.length + 1) cz) (s.xs ++ [(now, f1, 0)]) := by
                unfold SlR
                rw [List.length_append, rws_append]
                exact Sl.mono SZ.out hszW
              have hN9 := Rud.setL hB9 hL9 hK9 HN.out.hr
              have c3' : (wZ.setCell ⟨r, 4, none⟩ (.slice (some ⟨bz, oz, none⟩) (s.xs.length + 1) cz)).cell? ⟨r, 3, none⟩ = some (.int .i64 f1) := hN9.b.cell 3
              have f3' := hN9.b.frozen 3
              have N9 := Lib.hid hN9
              have B9 := Lib.hid hB9
              clear hN9 hB9 hK9 hL9
              go_wp2_with fail
              go_returns
              have hgo : s.go now true = { p := { s.p with free := 0 }, xs := s.xs ++ [(now, f1, 0)], ys := keepB now s.ys } := by
                unfold St17.go
                rw [HF1.out, if_pos ⟨rfl, HSB.out, HP.out⟩]
              rw [hgo]
              refine ⟨rfl, ⟨_, _, N9.out.setFree 0⟩, ?_⟩
              exact ((TN.out.trans (Tu.of UZ.out (fun k hk e => by omega))).set_ HN.out.hr B9.out (by decide) _).set_ HN.out.hr N9.out.b (by decide) _
          · have e0 : decide (0 < f1) = false := decide_eq_false hpos
            have HP := Lib.hid hpos; clear hpos
            go_wp2_with fail
            go_returns
            exact ⟨rfl, FIN.out true rfl (fun h => by have := HP.out; have := h.2.2; omega) _ _ _ HN.out, TN.out⟩
        · go_wp2_with fail
          go_returns
          exact ⟨rfl, FIN.out true rfl (fun h => by rw [HSB.out] at h; cases h.2.1) _ _ _ HN.out, TN.out⟩
end Go.Proofs.Ytcgefncddbbnlaa.Ck
