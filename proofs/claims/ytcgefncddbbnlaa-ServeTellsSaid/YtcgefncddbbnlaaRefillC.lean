/-
  refill.Budget: Go.
-/
import Derived.Test.YtcgefncddbbnlaaRefillB
import Derived.Deep.Cut
import Derived.Deep.RegionLaw
import Derived.Deep.CutRange
namespace Go.Proofs.Ytcgefncddbbnlaa.Rf
open Go.RowKit Go.Proofs.Ytcgefncddbbnlaa.Cf

theorem infoChunk : (Try.prog.info? 161).map (fun i => (i.zero, i.size, i.bytes)) = some (some (.agg #[.int .i64 0, .int .i64 0]), 2, 16) := by kernel_rfl

def goFree (p : Bp) (xs : List (Int × Int)) (now : Int) : Int := if (p.now - p.start) / p.T < (now - p.start) / p.T then p.C - sumL xs else p.free
def goP (p : Bp) (xs : List (Int × Int)) (now : Int) (busy : Bool) : Bp × List (Int × Int) :=
  if busy = true ∧ p.still = false ∧ 0 < goFree p xs now then ({ p with now := now, free := 0 }, xs ++ [(now, goFree p xs now)]) else ({ p with now := now, free := goFree p xs now }, xs)

theorem Bud.setFree {w : World} {base g : Nat} {L : Value} {p : Bp} {xs : List (Int × Int)} (h : Bud w base g L p xs) (f : Int) : Bud (w.setCell ⟨g, 6, none⟩ (.int .i64 f)) base g L { p with free := f } xs := by
  refine ⟨?_, h.s.upd ((Upd.refl (fun k => k = g) w).setCell (p := ⟨g, 6, none⟩) (fun _ => rfl) _) (fun k hk e => h.s.ne_ h.b (by decide) k hk e)⟩
  have := h.b.set_ 6 (.int .i64 f)
  simpa [Bp.cells] using this
theorem Bud.setNow {w : World} {base g : Nat} {L : Value} {p : Bp} {xs : List (Int × Int)} (h : Bud w base g L p xs) (f : Int) : Bud (w.setCell ⟨g, 5, none⟩ (.int .i64 f)) base g L { p with now := f } xs := by
  refine ⟨?_, h.s.upd ((Upd.refl (fun k => k = g) w).setCell (p := ⟨g, 5, none⟩) (fun _ => rfl) _) (fun k hk e => h.s.ne_ h.b (by decide) k hk e)⟩
  have := h.b.set_ 5 (.int .i64 f)
  simpa [Bp.cells] using this
theorem Bud.setStill {w : World} {base g : Nat} {L : Value} {p : Bp} {xs : List (Int × Int)} (h : Bud w base g L p xs) (f : Bool) : Bud (w.setCell ⟨g, 7, none⟩ (.bool f)) base g L { p with still := f } xs := by
  refine ⟨?_, h.s.upd ((Upd.refl (fun k => k = g) w).setCell (p := ⟨g, 7, none⟩) (fun _ => rfl) _) (fun k hk e => h.s.ne_ h.b (by decide) k hk e)⟩
  have := h.b.set_ 7 (.bool f)
  simpa [Bp.cells] using this
theorem Bud.setL {w : World} {base g : Nat} {L L' : Value} {p : Bp} {ys : List (Int × Int)} (hb : Blk w g 138 (p.cells L)) (hs : Sl w base 161 2 L' ys.length (chk ys)) : Bud (w.setCell ⟨g, 0, none⟩ L') base g L' p ys := by
  refine ⟨?_, hs.upd ((Upd.refl (fun k => k = g) w).setCell (p := ⟨g, 0, none⟩) (fun _ => rfl) _) (fun k hk e => hs.ne_ hb (by decide) k hk e)⟩
  have := hb.set_ 0 L'
  simpa [Bp.cells] using this
theorem Bud.ne_ {w : World} {base g : Nat} {L : Value} {p : Bp} {xs : List (Int × Int)} (h : Bud w base g L p xs) : ∀ k, slBlk L = some k → k ≠ g := h.s.ne_ h.b (by decide)

set_option maxRecDepth 100000 in
set_option maxHeartbeats 3200000 in
theorem goB (w : World) (base g : Nat) (L : Value) (p : Bp) (xs : List (Int × Int)) (h : Bud w base g L p xs) (hbase : base ≤ w.heap.size) (hf : fineL xs) (hn : xs.length ≤ 1000) (hC : 1 ≤ p.C) (hC2 : p.C ≤ 1000) (hT : 1 ≤ p.T) (hT2 : p.T ≤ 1000)
    (hst : 0 ≤ p.start) (hn0 : p.start ≤ p.now) (now : Int) (hn1 : p.start ≤ now) (hn2 : now ≤ 4611686018427387904) (hn3 : p.now ≤ 4611686018427387904) (busy : Bool) :
    Calls Try.prog 105 #[.pointer (some ⟨g, 0, none⟩), .int .i64 now, .bool busy] w fun e w' => e = .returned (.tuple #[]) ∧ ∃ L', Bud w' base g L' (goP p xs now busy).1 (goP p xs now busy).2 ∧
      (∀ k, slBlk L' = some k → slBlk L = some k ∨ w.heap.size ≤ k) ∧ Upd (fun k => k = g ∨ slBlk L = some k) w w' := by
  obtain ⟨i0, hi0, hz0, hz1, hz2⟩ := info_parts infoChunk
  have H := Lib.hid h; clear h
  have HF := Lib.hid hf
  have hs0 : 0 ≤ sumL xs := by have := sumL_bound xs hf; omega
  have hs1 : sumL xs ≤ 1000000 := by have := sumL_bound xs hf; omega
  obtain ⟨f1, hf1⟩ : ∃ f, goFree p xs now = f := ⟨_, rfl⟩
  have HF1 := Lib.hid hf1; clear hf1
  clear hf
  have c5 := H.out.b.cell 5
  simp [Bp.cells] at c5
  go_enter Try.func105, Try.ntmps105
  go_wp2_with fail
  refine (noneB _ base g L p xs H.out hC).mono ?_
  rintro e w1 ⟨rfl, k1, rfl⟩
  have hbase' : base ≤ (w.drewN k1).heap.size := hbase
  have U1 := Lib.hid ((Upd.refl (fun k => k = g) w).drewN k1)
  have H1 := Lib.hid (H.out.drewN k1)
  clear H c5
  have H := H1; clear H1
  have c5 := H.out.b.cell 5
  have HSZ : Hid (w.heap.size = (w.drewN k1).heap.size) := Lib.hid rfl
  have CC : Hid ((w.drewN k1).cell? ⟨g, 5, none⟩ = some (.int .i64 p.now)) := Lib.hid c5
  clear c5
  generalize w.drewN k1 = W at *
  have c5 := CC.out
  obtain ⟨r, hr⟩ : ∃ r, decide ((p.now - p.start) / p.T < (now - p.start) / p.T) = r := ⟨_, rfl⟩
  have HR := Lib.hid hr
  go_wp2_with fail
  go_quiet ((go_at_call 109; exact Calls.quiet_of (periodB _ base g L p xs (H.out.drewN _) hT hT2 _ hst (by omega) (by omega) _ rfl)))
  go_upto_if 17 with fail
  clear hr
  go_cut [] from 18 to 30 (fun wx => Bud wx base g L { p with free := f1 } xs ∧ Upd (fun k => k = g) w wx)
  case first =>
    cases r
    rotate_left
    · have hq := of_decide_eq_true HR.out
      have hff : f1 = p.C - sumL xs := by
        rw [← HF1.out]
        unfold goFree
        rw [if_pos hq]
      have c2 := H.out.b.cell 2
      have f6 := H.out.b.frozen 6
      simp [Bp.cells] at c2
      clear hq c5
      go_wp2_with fail
      go_region_held3 (fun w' => w'.cell? ⟨g, 2, none⟩ = some (.int .i64 p.C))
        (first
          | exact c2
          | exact K2.out
          | exact K3.out _)
        (first
          | (go_at_call 108
             refine (leftB _ base g L p xs (H.out.drewN _) HF.out (by omega)).mono ?_
             rintro e w3 ⟨rfl, hU3⟩
             have H3 := Lib.hid ((H.out.drewN _).still' hU3)
             have K2 := Lib.hid ((hU3.cell (p := ⟨g, 2, none⟩) (block_lt_of_cell c2) (fun h => h)).trans c2)
             have f6' := H3.out.b.frozen 6
             have c6' : w3.cell? ⟨g, 6, none⟩ = some (.int .i64 p.free) := H3.out.b.cell 6
             have K3 : Hid (∀ u, (w3.setCell ⟨g, 6, none⟩ u).cell? ⟨g, 2, none⟩ = some (.int .i64 p.C)) := Lib.hid (fun u => by
               have := (H3.out.b.set_ 6 u).cell 2
               simpa [Bp.cells] using this)
             have U3 := Lib.hid hU3
             clear hU3))
      go_wp2_with fail
      go_meet
      subst hff
      have hw : IntKind.i64.wrap (p.C - sumL xs) = p.C - sumL xs := by rw [IntKind.wrap_i64]; omega
      rw [hw]
      exact ⟨H3.out.setFree _, ((U1.out.drewN _).trans (U3.out.mono (fun _ _ h => h.elim))).setCell (p := ⟨g, 6, none⟩) (fun _ => rfl) _⟩
    · have hq := of_decide_eq_false HR.out
      have hff : f1 = p.free := by
        rw [← HF1.out]
        unfold goFree
        rw [if_neg hq]
      subst hff
      clear hq
      go_wp2_with fail
      go_meet
      exact ⟨H.out.drewN _, U1.out.drewN _⟩
  case rest =>
    obtain ⟨H2, U2⟩ := hcut
    have c0 : wc.cell? ⟨g, 0, none⟩ = some L := H2.b.cell 0
    have c5 : wc.cell? ⟨g, 5, none⟩ = some (.int .i64 p.now) := H2.b.cell 5
    have c6 : wc.cell? ⟨g, 6, none⟩ = some (.int .i64 f1) := H2.b.cell 6
    have c7 : wc.cell? ⟨g, 7, none⟩ = some (.bool p.still) := H2.b.cell 7
    have f5 := H2.b.frozen 5
    have H3 := Lib.hid (H2.setNow now)
    have U3 := Lib.hid (U2.setCell (p := ⟨g, 5, none⟩) (fun _ => rfl) (.int .i64 now))
    clear H2 U2
    have FIN : Hid (∀ b, busy = b → ¬ (b = true ∧ p.still = false ∧ 0 < f1) → goP p xs now busy = ({ p with now := now, free := f1 }, xs)) := Lib.hid (fun b hb hn => by
      unfold goP
      rw [HF1.out, hb, if_neg hn])
    have U4 : Hid (Upd (fun k => k = g ∨ slBlk L = some k) w (wc.setCell ⟨g, 5, none⟩ (.int .i64 now))) := Lib.hid (U3.out.mono (fun _ _ h => .inl h))
    cases busy
    · go_wp2_with fail
      go_returns
      rw [FIN.out false rfl (fun h => by cases h.1)]
      exact ⟨rfl, L, H3.out, fun _ h => .inl h, U4.out⟩
    · obtain ⟨sb, hsb⟩ : ∃ sb, p.still = sb := ⟨_, rfl⟩
      rw [hsb] at c7
      have HSB := Lib.hid hsb; clear hsb
      cases sb
      · by_cases hpos : 0 < f1
        · have e0 : decide (0 < f1) = true := decide_eq_true hpos
          go_wp2_with fail
          have c0' : (wc.setCell ⟨g, 5, none⟩ (.int .i64 now)).cell? ⟨g, 0, none⟩ = some L := H3.out.b.cell 0
          have c6' : (wc.setCell ⟨g, 5, none⟩ (.int .i64 now)).cell? ⟨g, 6, none⟩ = some (.int .i64 f1) := H3.out.b.cell 6
          have C0 := Lib.hid c0'; have C6 := Lib.hid c6'
          have HS : Hid (∀ o, Sl ((wc.setCell ⟨g, 5, none⟩ (.int .i64 now)).drew.alloc o) base 161 2 L xs.length (chk xs)) := Lib.hid (fun o => (H3.out.drewN 1).s.alloc o)
          have HN : Hid (∀ j u, [Value.int .i64 now, .int .i64 f1][j]? = some u → ((wc.setCell ⟨g, 5, none⟩ (.int .i64 now)).drew.alloc (.cells [Value.int .i64 now, .int .i64 f1].toArray 161)).cell? ((⟨(wc.setCell ⟨g, 5, none⟩ (.int .i64 now)).drew.heap.size, 0, none⟩ : Addr).add j) = some u) := Lib.hid (fun j u hu => by
            have hadd : ∀ B : Nat, (⟨B, 0, none⟩ : Addr).add j = ⟨B, j, none⟩ := fun B => by unfold Addr.add; split <;> simp_all
            rw [hadd, (Blk.new _ _ _).cell j]
            simpa using hu)
          have hbs : base ≤ (wc.setCell ⟨g, 5, none⟩ (.int .i64 now)).heap.size := Nat.le_trans hbase U4.out.size
          have CA : Hid (∀ o, ((wc.setCell ⟨g, 5, none⟩ (.int .i64 now)).alloc o).cell? ⟨g, 0, none⟩ = some L) := Lib.hid (fun o => (H3.out.b.alloc o).cell 0)
          clear c0 c5 c6 c7 f5 c0' c6'
          generalize wc.setCell ⟨g, 5, none⟩ (.int .i64 now) = W' at *
          have c0 := C0.out; have c6 := C6.out; have cA := CA.out
          go_region_law (refine step_append_sl rfl (.tmp 55) (.tmp 62) 134 rfl base 161 i0 _ 2 16 Try.underlying134 hi0 hz0 hz1 hz2 rfl (by decide) L xs.length (chk xs) (by simp [Act.eval, Act.put]) (HS.out _) ⟨_, 0, none⟩ 1 [.int .i64 now, .int .i64 f1] (by simp [Act.eval, Act.put]) rfl HN.out (by simp [Value.oneCell']) (by unfold maxLen; omega) (by omega) (by simp; omega) ?_
                         intro v' w1 hs1 hu1 hv1
                         have B1 := Lib.hid (((H3.out.b.drewN 1).alloc _).upd hu1 (fun hk => H3.out.ne_ g hk rfl))
                         have c0w : w1.cell? ⟨g, 0, none⟩ = some L := B1.out.cell 0
                         have f0w := B1.out.frozen 0
                         have c6w : w1.cell? ⟨g, 6, none⟩ = some (.int .i64 f1) := B1.out.cell 6
                         have f6w := B1.out.frozen 6
                         obtain ⟨bq, oq, cq, rfl, _, _, _, _⟩ := hs1.form (by omega)
                         have S1 := Lib.hid hs1
                         have V1 := Lib.hid hv1
                         have X1 := Lib.hid hu1
                         clear hs1 hu1 hv1)
          all_goals
            go_wp2_with fail
            go_returns
            have hgo : goP p xs now true = ({ p with now := now, free := 0 }, xs ++ [(now, f1)]) := by
              unfold goP
              rw [HF1.out, if_pos ⟨rfl, HSB.out, hpos⟩]
            rw [hgo]
            have hb4 := Bud.setL (p := { p with now := now, free := f1 }) (ys := xs ++ [(now, f1)]) B1.out (by rw [chk_append, List.length_append]; exact S1.out)
            have hsz := U4.out.size
            refine ⟨rfl, _, hb4.setFree 0, fun k hk => ?_, ?_⟩
            · rcases V1.out k hk with h | h
              · exact .inl h
              · refine .inr (Nat.le_trans hsz ?_)
                simp at h
                omega
            · exact ((((U4.out.drew).alloc _).trans (X1.out.mono (fun k _ hk => .inr hk))).setCell (p := ⟨g, 0, none⟩) (fun _ => .inl rfl) _).setCell (p := ⟨g, 6, none⟩) (fun _ => .inl rfl) _
        · have e0 : decide (0 < f1) = false := decide_eq_false hpos
          go_wp2_with fail
          go_returns
          rw [FIN.out true rfl (fun h => absurd h.2.2 (Int.not_lt.2 hpos))]
          exact ⟨rfl, L, H3.out, fun _ h => .inl h, U4.out⟩
      · go_wp2_with fail
        go_returns
        rw [FIN.out true rfl (fun h => by rw [HSB.out] at h; cases h.2.1)]
        exact ⟨rfl, L, H3.out, fun _ h => .inl h, U4.out⟩
end Go.Proofs.Ytcgefncddbbnlaa.Rf
