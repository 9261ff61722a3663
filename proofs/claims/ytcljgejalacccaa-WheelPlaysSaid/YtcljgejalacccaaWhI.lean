/-
  The wheel: Go.
-/
import Derived.Test.YtcljgejalacccaaWhJ
import Derived.Test.YtcljgejalacccaaSeqI
namespace Go.Proofs.Ytcljgejalacccaa
open Go.RowKit Go.Shelf
attribute [local go_sem] max_ints min_ints
attribute [local go_sem] Oper.semAt_some

def goLs (now : Nat) (at_ : Nat → Int) : List Nat := if now = 4611686018427387904 then [] else (List.range 256).filter (fun i => decide (at_ i = ((now + 1 : Nat) : Int)))
def goNow (now : Nat) : Nat := if now = 4611686018427387904 then now else now + 1
def goAt (now : Nat) (at_ : Nat → Int) : Nat → Int := if now = 4611686018427387904 then at_ else goneA (now + 1) at_

set_option maxRecDepth 100000 in
set_option maxHeartbeats 3200000 in
theorem goC (w : World) (g now : Nat) (at_ : Nat → Int) (N : Nat → Prop) (h : WhS w g now at_ N) (hN : ∀ k, N k → k < w.heap.size) :
    Calls Try.prog 16 #[.pointer (some ⟨g, 0, none⟩)] w fun e w' => ∃ v, e = .returned v ∧ SlR encN w' w.heap.size 3 1 v (goLs now at_) ∧ WhS w' g (goNow now) (goAt now at_) (fun k => N k ∨ slBlk v = some k) ∧ Upd (fun k => ¬ N k) w w' := by
  obtain ⟨V, sl, n, h1, h2, h3, h4⟩ := h
  have U1 : Hid (Upd (fun _ => False) w (w.alloc (.cells #[.pointer (some ⟨g, 0, none⟩)] 24))) := Lib.hid ((Upd.refl _ w).alloc _)
  have B1 : Hid (Blk (w.alloc (.cells #[.pointer (some ⟨g, 0, none⟩)] 24)) w.heap.size 24 #[.pointer (some ⟨g, 0, none⟩)]) := Lib.hid (Blk.new w _ _)
  have R1 : Hid (WhR (w.alloc (.cells #[.pointer (some ⟨g, 0, none⟩)] 24)) g now V at_ n sl (fun k => N k ∨ k = w.heap.size)) := Lib.hid (h1.more U1.out (fun k h h' => by rcases h with h | h; exact h; omega))
  have HI := Lib.hid h2; have H3 := Lib.hid h3; have H4 := Lib.hid h4; have HN := Lib.hid hN
  have HW1 : Hid ((w.alloc (.cells #[.pointer (some ⟨g, 0, none⟩)] 24)).heap.size = w.heap.size + 1) := Lib.hid (by simp)
  obtain ⟨bR, hbR⟩ : ∃ bR, w.heap.size = bR := ⟨_, rfl⟩
  have HBR := Lib.hid hbR
  rw [hbR] at B1 R1 HW1
  clear h1 h2 h3 h4 hN
  refine (callsIn_wide (n := 3)).1 ?_
  refine callsIn_of_wp_marks Try.func16 rfl trivial ?_ rfl
  simp only [Try.ntmps16, List.size_toArray, List.length_cons, List.length_nil, Nat.reduceAdd, Nat.reduceSub, Array.replicate_succ, Array.replicate_zero, List.push_toArray, List.append_toArray, List.nil_append, List.cons_append]
  obtain ⟨w1, hw1⟩ : ∃ w1, w.alloc (.cells #[.pointer (some ⟨g, 0, none⟩)] 24) = w1 := ⟨_, rfl⟩
  rw [hw1] at U1 B1 R1 HW1
  have HWE := Lib.hid hw1
  have cR : ∀ k, (w1.drewN k).cell? ⟨bR, 0, none⟩ = some (.pointer (some ⟨g, 0, none⟩)) := fun k => B1.out.cell 0
  have cN : ∀ k, (w1.drewN k).cell? ⟨g, 0, none⟩ = some (.int .i64 (now : Int)) := fun k => R1.out.b.cnow
  have cR0 := cR 0
  have cN0 := cN 0
  rw [World.drewN_zero] at cR0 cN0
  gi_wp2_with fail
  refine ⟨trivial, (callsIn_wide.2 (noneC w1 g R1.out.b.cmade)).mono ?_⟩
  rintro e w2 ⟨rfl, k1, rfl⟩
  by_cases hmax : now = 4611686018427387904
  · have HM := Lib.hid hmax
    have dN : ((now : Int) == 4611686018427387904) = true := by rw [hmax]; rfl
    have dN2 : decide ((now : Int) = 4611686018427387904) = true := decide_eq_true (by omega)
    clear hmax hbR hw1
    gi_wp2_with fail
    refine ⟨_, results_tmp rfl _ _ _, .slice none 0 0, rfl, ?_, ?_, (U1.out.drewN k1).mono (fun _ _ h => h.elim)⟩
    · unfold goLs
      rw [if_pos HM.out]
      exact SlR.nil
    · unfold goNow goAt
      rw [if_pos HM.out, if_pos HM.out]
      exact ⟨V, sl, n, (R1.out.drewN k1).less (fun k h => by rcases h with h | h; exact .inl h; cases h), HI.out, H3.out, H4.out⟩
  · have HM := Lib.hid hmax
    have dN : ((now : Int) == 4611686018427387904) = false := beq_eq_false_iff_ne.2 (by omega)
    have dN2 : decide ((now : Int) = 4611686018427387904) = false := decide_eq_false (by omega)
    have hb : now + 1 ≤ 4611686018427387904 := by have := H4.out; omega
    have hcast : ((now + 1 : Nat) : Int) = (now : Int) + 1 := by omega
    have hR3 := (R1.out.drewN k1).setNow (now + 1)
    have hf0 : w1.frozen? ⟨g, 0, none⟩ = false := R1.out.b.frozen 0
    have hB3 := (B1.out.drewN k1).upd hR3.2 (fun h => h (.inr rfl))
    rw [hcast] at hR3 hB3
    have R3 := Lib.hid hR3
    have B3 := Lib.hid hB3
    have HB := Lib.hid hb
    have c3 : ((w1.drewN k1).setCell ⟨g, 0, none⟩ (.int .i64 ((now : Int) + 1))).cell? ⟨bR, 0, none⟩ = some (.pointer (some ⟨g, 0, none⟩)) := hB3.cell 0
    have c4 : (((w1.drewN k1).setCell ⟨g, 0, none⟩ (.int .i64 ((now : Int) + 1))).alloc (.cells #[.slice none 0 0] 30)).cell? ⟨bR, 0, none⟩ = some (.pointer (some ⟨g, 0, none⟩)) := (hB3.alloc _).cell 0
    have hD : w1.heap.size = bR + 1 := HW1.out
    clear hmax hbR hw1 hcast hR3 hB3
    gi_wp2_with fail
    refine ⟨trivial, (callsIn_wide.2 (turnedC _ g)).mono ?_⟩
    rintro e Vw ⟨rfl, hV⟩
    have hW4 : (((w1.drewN k1).setCell ⟨g, 0, none⟩ (.int .i64 ((now : Int) + 1))).alloc (.cells #[.slice none 0 0] 30)).heap.size = bR + 2 := by simp [hD]
    have hW3 : ((w1.drewN k1).setCell ⟨g, 0, none⟩ (.int .i64 ((now : Int) + 1))).heap.size = bR + 1 := by simp [hD]
    have hBR := ((B3.out.alloc (.cells #[.slice none 0 0] 30)).alloc (.cells #[.pointer (some ⟨g, 0, none⟩)] 24))
    have hBD := (Blk.new ((w1.drewN k1).setCell ⟨g, 0, none⟩ (.int .i64 ((now : Int) + 1))) 30 #[.slice none 0 0]).alloc (.cells #[.pointer (some ⟨g, 0, none⟩)] 24)
    have hBI := Blk.new (((w1.drewN k1).setCell ⟨g, 0, none⟩ (.int .i64 ((now : Int) + 1))).alloc (.cells #[.slice none 0 0] 30)) 24 #[.pointer (some ⟨g, 0, none⟩)]
    have hUn : Upd (fun _ => False) ((w1.drewN k1).setCell ⟨g, 0, none⟩ (.int .i64 ((now : Int) + 1))) Vw := by rw [hV]; exact ((Upd.refl _ _).alloc _).alloc _
    rw [hW3] at hBD
    rw [hW4] at hBI
    rw [← hV] at hBR hBD hBI
    have hRV : WhR Vw g (now + 1) V at_ n sl (fun k => (N k ∨ Bx bR k) ∨ slBlk (.slice none 0 0) = some k) := R3.out.1.more hUn (fun k hk hlt => by
      rw [hW3] at hlt
      rcases hk with (hk | hk) | hk
      · exact .inl hk
      · exact .inr (by unfold Bx at hk; omega)
      · cases hk)
    have hUV : Upd (fun k => ¬ N k) w Vw := (((U1.out.mono (fun _ _ h => h.elim)).drewN k1).trans (R3.out.2.mono (fun k _ h e => h (.inl e)))).trans (hUn.mono (fun _ _ h => h.elim))
    have hVs : Vw.heap.size = bR + 3 := by rw [hV, World.size_alloc, hW4]
    have hgl : g < Vw.heap.size := hRV.b.lt
    have hI0 : GoI w N g (now + 1) bR ⟨at_, sl, [], n⟩ Vw := ⟨V, _, hRV, hBR, hBD, hBI, SlR.nil, hUV⟩
    rw [hW4]
    clear hW3 hW4 hV hUn c3 c4 cR cN cR0 cN0 hf0 R3 B3 B1 R1 U1 HWE HW1 hD hBR hBD hBI hRV hUV
    have hGG := HI.out.gg hb
    rw [← H3.out] at hGG
    have hwB : w.heap.size = bR := HBR.out
    have hnb : n ≤ 256 := by rw [H3.out]; exact cntA_le _ _
    gi_wp2_with fail
    refine wpIn_rangeFunc_ownF rfl (by decide) (gf := 31) (lb := #[.pointer (some ⟨bR + 2, 0, none⟩)]) rfl trivial (enters_of Try.func31 (by kernel_rfl) rfl)
      (turnIt 2 (by decide) Vw g (bR + 2) (now + 1) hb hI0.turn (by omega) hgl)
      (fun h k => TurnK.t h k) (fun W l o o' hl h1 h2 h3 => TurnK.b W l o o' h1 h2) (Below.refl _ _) (fun _ => rfl)
      (fun (pre : List Lv) (W : World) => GoI w N g (now + 1) bR (gAll (now + 1) ⟨at_, sl, [], n⟩ (pre.map (fun x : Lv => x.1))) W)
      (fun _ _ _ => False)
      (fun s A B row hs hg hr => hs.kept hg (fun r e => ⟨by have := (hr r e).1; omega, (hr r e).2⟩))
      (fun _ _ _ _ _ hs _ _ => hs)
      hI0
      (fun x : Lv => { tmps := #[.pointer (some ⟨g, 0, none⟩), .pointer (some ⟨bR, 0, none⟩), .slice none 0 0, .pointer (some ⟨bR + 1, 0, none⟩), .int .i64 (x.1 : Int), .int .i64 (dig (now + 1) x.1 : Int), undef, undef, undef, .pointer (some ⟨g, 0, none⟩), .bool false, .bool false, .pointer (some ⟨g, 0, none⟩), .pointer (some ⟨g, 0, none⟩), .pointer (some ⟨g, 0, none⟩), .int .i64 (now : Int), .bool false, .bool false, .pointer (some ⟨g, 0, none⟩), .pointer (some ⟨g, 0, none⟩), .pointer (some ⟨g, 0, none⟩), .int .i64 (now : Int), .int .i64 ((now : Int) + 1), .pointer (some ⟨g, 0, none⟩), .pointer (some ⟨g, 0, none⟩), .pointer (some ⟨g, 0, none⟩), .func (.func 31) #[] #[.pointer (some ⟨bR + 2, 0, none⟩)], .int .i64 (x.1 : Int), .int .i64 (dig (now + 1) x.1 : Int), undef, undef, undef, undef, undef, undef, undef, undef, undef, undef, undef, undef, undef, undef, undef, undef, undef, undef, undef, undef, undef, undef, undef, undef, undef, undef, undef, undef, undef, undef, undef, undef, undef, undef, undef, undef, undef, undef, undef, undef, undef, undef, undef, undef, undef, undef, undef, undef, undef, undef, undef, undef, undef, undef, undef], defers := [] }) ?assign ?body ?done ?stop
    case assign =>
      intro l x W K hK
      dsimp only [encL]
      gi_wp2_with fail
      exact hK
    case body =>
      rintro l pre x W hI hpre
      obtain ⟨L, hL15⟩ := x
      have hGs : GG (now + 1) n (gAll (now + 1) ⟨at_, sl, [], n⟩ (pre.map (fun x : Lv => x.1))) [] := gg_all _ hGG (fun y hy => by
        obtain ⟨z, _, rfl⟩ := List.mem_map.1 hy
        exact z.2)
      have hSN : Hid (gAll (now + 1) ⟨at_, sl, [], n⟩ ((pre ++ [(⟨L, hL15⟩ : Lv)]).map (fun x : Lv => x.1)) = gProc (now + 1) (gAll (now + 1) ⟨at_, sl, [], n⟩ (pre.map (fun x : Lv => x.1))) L) := Lib.hid (by
        rw [List.map_append]; exact gAll_snoc _ _ _ _)
      generalize gAll (now + 1) ⟨at_, sl, [], n⟩ (pre.map (fun x : Lv => x.1)) = s at *
      have HI1 := Lib.hid hI
      obtain ⟨Vf, dv, hR, hBR, hBD, hBI, hDu, hU⟩ := hI
      have hJ := slotJ_lt (now + 1) L hL15
      have hDg := dig_lt (now + 1) L
      obtain ⟨D, hD⟩ : ∃ D, dig (now + 1) L = D := ⟨_, rfl⟩
      have HJe : Hid (1 + slotJ (now + 1) L = 1 + L * 16 + D) := Lib.hid (by rw [← hD]; unfold slotJ; omega)
      rw [hD] at hDg
      obtain ⟨J, hJJ⟩ : ∃ J, slotJ (now + 1) L = J := ⟨_, rfl⟩
      have HJJ := Lib.hid hJJ
      rw [hJJ] at hJ HJe
      obtain ⟨lst, hlst⟩ : ∃ lst, s.sl J = lst := ⟨_, rfl⟩
      have hGo := hGs.open_ L hL15
      rw [hJJ, hlst] at hGo
      have hsJ := hR.s J hJ
      rw [hlst] at hsJ
      obtain ⟨AJ, cJ, hVJ⟩ := hsJ.shape
      rw [hVJ] at hsJ
      have cS : W.cell? ⟨g, 1 + L * 16 + D, none⟩ = some (.slice AJ lst.length cJ) := by rw [← HJe.out, ← hVJ]; exact hR.b.cslot J hJ
      have fS : W.frozen? ⟨g, 1 + L * 16 + D, none⟩ = false := hR.b.frozen _
      have cR : W.cell? ⟨bR, 0, none⟩ = some (.pointer (some ⟨g, 0, none⟩)) := hBR.cell 0
      have hlen : lst.length ≤ 256 := by rw [← hlst]; exact hGs.sl_len J hJ
      -- the slot is emptied
      have hNs : ∀ k, ((N k ∨ Bx bR k) ∨ slBlk dv = some k) ∨ NonC W k → k < W.heap.size := fun k hk => by
        rcases hk with ((hk | hk) | hk) | hk
        · exact Nat.lt_of_lt_of_le (HN.out k hk) hU.size
        · unfold Bx at hk
          rcases hk with rfl | rfl | rfl
          · exact hBR.lt
          · exact hBD.lt
          · exact hBI.lt
        · exact (Sl.blk hDu k hk).2.1
        · exact hk.lt
      have hE := hR.plusC.putSlot (w' := W) J hJ (.slice none 0 0) [] (Upd.refl _ W) SlR.nil (fun k hk => by cases hk) hNs
      rw [HJe.out] at hE
      have hgs : W.heap.size ≤ (W.setCell ⟨g, 1 + L * 16 + D, none⟩ (.slice none 0 0)).heap.size := hE.2.size
      obtain ⟨W1, hW1⟩ : ∃ W1, W.setCell ⟨g, 1 + L * 16 + D, none⟩ (.slice none 0 0) = W1 := ⟨_, rfl⟩
      have hE1 := hE
      rw [hW1] at hE1
      have hKO1 : KeepsOthers W W1 := by rw [← hW1]; exact KeepsOthers.setCell _ _ _
      -- the list that was in it, and the wheel apart from it
      have hJg : ∀ k, slBlk (.slice AJ lst.length cJ) = some k → k ≠ g := fun k hk => hR.far J hJ k (by rw [hVJ]; exact hk)
      have hU1g : Upd (fun k => k = g) W W1 := by rw [← hW1]; exact (Upd.refl (fun k => k = g) W).setCell (p := ⟨g, 1 + L * 16 + D, none⟩) (fun _ => rfl) _
      have hLst1 : SlR encN W1 0 3 1 (.slice AJ lst.length cJ) lst := SlR.upd hsJ hU1g (fun k hk e => hJg k hk e)
      have hBR1 := hBR.upd hU1g (fun e => hR.b.ne_ hBR (by decide) e)
      have hBD1 := hBD.upd hU1g (fun e => hR.b.ne_ hBD (by decide) e)
      have hBI1 := hBI.upd hU1g (fun e => hR.b.ne_ hBI (by decide) e)
      have hDu1 : SlR encN W1 bR 3 1 dv s.due := SlR.upd hDu hU1g (fun k hk e => by
        obtain ⟨_, _, cur, hc⟩ := Sl.blk hDu k hk
        exact hR.b.ne_ hc (by decide) e)
      have hUw1 : Upd (fun k => ¬ N k) w W1 := hU.trans (hU1g.mono (fun k _ e => by subst e; exact fun h => hR.ng (.inl (.inl h))))
      have hDuJ : ∀ k, slBlk dv = some k → slBlk (.slice AJ lst.length cJ) ≠ some k := fun k hk hk2 => hR.nk J hJ k (by rw [hVJ]; exact hk2) (.inr hk)
      have hR1 : WhR W1 g (now + 1) (fput Vf J (.slice none 0 0)) (gOpen (now + 1) s L).at_ (gOpen (now + 1) s L).n (gOpen (now + 1) s L).sl (fun k => ((N k ∨ Bx bR k) ∨ slBlk dv = some k) ∨ slBlk (.slice AJ lst.length cJ) = some k) := by
        have h0 : WhR W1 g (now + 1) (fput Vf J (.slice none 0 0)) s.at_ s.n (fput s.sl J []) _ := hE1.1
        have e : (gOpen (now + 1) s L).sl = fput s.sl J [] := by unfold gOpen; rw [hJJ]
        rw [e]
        refine h0.setN (fun hk => ?_) (fun i hi k hk hk2 => ?_)
        · rcases hk with hk | hk
          · exact hR.ng hk
          · exact hJg g hk rfl
        · by_cases ei : i = J
          · subst ei; rw [fput_eq] at hk; cases hk
          · rw [fput_ne _ _ ei] at hk
            rcases hk2 with hk2 | hk2
            · exact hR.nk i hi k hk hk2
            · exact hR.d i J hi hJ ei k hk (by rw [hVJ]; exact hk2)
      have R1 := Lib.hid hR1; have BR1 := Lib.hid hBR1; have BD1 := Lib.hid hBD1; have BI1 := Lib.hid hBI1; have DU1 := Lib.hid hDu1; have LS1 := Lib.hid hLst1; have UW1 := Lib.hid hUw1; have KO1 := Lib.hid hKO1; have GO := Lib.hid hGo; have DJ := Lib.hid hDuJ
      have HW1 := Lib.hid hW1
      have HLS := Lib.hid hlst
      have dL0 : decide ((L : Int) < 0) = false := decide_eq_false (by omega)
      have dD0 : decide ((D : Int) < 0) = false := decide_eq_false (by omega)
      have hLz : (L : Int) < 16 := by omega
      have hDz : (D : Int) < 16 := by omega
      have cR1 : (W.setCell ⟨g, 1 + L * 16 + D, none⟩ (.slice none 0 0)).cell? ⟨bR, 0, none⟩ = some (.pointer (some ⟨g, 0, none⟩)) := by rw [hW1]; exact hBR1.cell 0
      rw [hD]
      clear hGs hR hBR hBD hBI hDu hU hD hJJ hlst hGo hsJ hVJ hNs hE hE1 hgs hKO1 hJg hU1g hLst1 hBR1 hBD1 hBI1 hDu1 hUw1 hDuJ hR1 hW1 hJ HI1
      obtain ⟨i0, hi0, hz0, hz1, hz2⟩ := info_parts infoIn
      gi_wp2_with fail
      rw [HW1.out]
      gi_loopw [46] (fun vi wr => ∃ (k : Nat) (dv' : Value) (Vk' : Nat → Value), k ≤ lst.length ∧ vi = .int .i64 k ∧ GoP w N g (now + 1) bR lst (.slice AJ lst.length cJ) ((lst.take k).foldl (gStep (now + 1)) (gOpen (now + 1) s L)).at_ ((lst.take k).foldl (gStep (now + 1)) (gOpen (now + 1) s L)).n ((lst.take k).foldl (gStep (now + 1)) (gOpen (now + 1) s L)).sl ((lst.take k).foldl (gStep (now + 1)) (gOpen (now + 1) s L)).due dv' Vk' wr ∧ KeepsOthers W wr) (fun vi _ => lst.length - (intOf vi).toNat)
      case atStart => exact ⟨0, dv, _, Nat.zero_le _, rfl, ⟨R1.out, BR1.out, BD1.out, BI1.out, DU1.out, DJ.out, LS1.out, UW1.out⟩, KO1.out⟩
      case round =>
        obtain ⟨k, dv', Vk', hk, rfl, hP, hKO⟩ := hrel
        have HKO := Lib.hid hKO
        have hgk := GG.fold (lst.take k) (s := gOpen (now + 1) s L) (rest := lst.drop k) (by rw [List.take_append_drop]; exact GO.out)
        by_cases hlt : k < lst.length
        · obtain ⟨id, hid⟩ : ∃ id, lst[k]? = some id := ⟨_, List.getElem?_eq_getElem hlt⟩
          have hnext : (lst.take (k + 1)).foldl (gStep (now + 1)) (gOpen (now + 1) s L) = gStep (now + 1) ((lst.take k).foldl (gStep (now + 1)) (gOpen (now + 1) s L)) id := by
            have e : lst.take (k + 1) = lst.take k ++ [id] := by rw [List.take_add_one, hid]; rfl
            rw [e, List.foldl_append]; rfl
          have HNX := Lib.hid hnext
          clear hnext
          rw [drop_step hid] at hgk
          generalize (lst.take k).foldl (gStep (now + 1)) (gOpen (now + 1) s L) = s1 at *
          obtain ⟨hid2, hb1, hb2⟩ := hgk.r id (by simp)
          obtain ⟨t, ht⟩ : ∃ t : Nat, s1.at_ id = t := ⟨(s1.at_ id).toNat, by omega⟩
          have ht2 : t ≤ 4611686018427387904 := by omega
          have htn : (s1.at_ id).toNat = t := by omega
          have hdl := (hgk.len hnb).1
          obtain ⟨bl, ol, cl, he, _, _, _, _⟩ := hP.ls.form (by omega)
          injection he with he1 he2 he3
          subst he1
          have cE : wr.cell? ⟨bl, ol + k, none⟩ = some (.int .i64 (id : Int)) := by
            have h0 := hP.ls
            unfold SlR at h0
            rw [rws_map] at h0
            exact Sl.cell h0 k (encV id) (by rw [List.getElem?_map, hid]; rfl)
          have cA := hP.r.b.cat id hid2
          rw [ht] at cA
          have cN := hP.r.b.cnow
          have cR := hP.b1.cell 0
          have cR' : wr.cell? ⟨bR, 0, none⟩ = some (.pointer (some ⟨g, 0, none⟩)) := cR
          have HGK := Lib.hid hgk
          have HP := Lib.hid hP
          have HT := Lib.hid ht
          have HTN := Lib.hid htn
          have hidz : (id : Int) < 256 := by omega
          have did : decide ((id : Int) < 0) = false := decide_eq_false (by omega)
          have dk : decide ((k : Int) < (lst.length : Int)) = true := decide_eq_true (by omega)
          have dk0 : decide ((k : Int) < 0) = false := decide_eq_false (by omega)
          clear hP hgk hKO hb1 hb2 ht htn he2 he3 cR hid
          by_cases hd : t = now + 1
          · have dq : ((t : Int) == ((now + 1 : Nat) : Int)) = true := by rw [hd]; simp
            have dq2 : decide ((t : Int) = ((now + 1 : Nat) : Int)) = true := decide_eq_true (by omega)
            gi_wp2_with fail
            refine wpIn_region_treeT (.q 0 (.q 1 (.q 2 (.q 3 (.q 4 (.q 5 (.q 6 (.q 7 (.q 8 (.q 9 (.q 10 .d))))))))))) (fun _ => false) (fun w' => w'.cell? ⟨bR, 0, none⟩ = some (.pointer (some ⟨g, 0, none⟩)) ∧ w'.cell? ⟨g, 257 + id, none⟩ = some (.int .i64 (t : Int)) ∧ w'.cell? ⟨g, 0, none⟩ = some (.int .i64 ((now + 1 : Nat) : Int)))
              (by kernel_rfl) (by kernel_rfl) (by kernel_rfl) (by kernel_rfl) (fun t ht => by cases ht) (by kernel_rfl) rfl ⟨cR', cA, cN⟩ ?_
            iterate 11
              refine' wpOT_q (by rfl) (by rfl) (fun w' hS' => ?_) ?_
              rotate_left
              · obtain ⟨s0, s1, s2⟩ := hS'
                go_simp
                try rfl
              try simp only [Act.put, List.setIfInBounds_toArray, List.set_cons_zero, List.set_cons_succ]
            refine wpOT_d ⟨rfl, ?_⟩
            have hPd := HP.out.drewN 1
            have HKd := Lib.hid (HKO.out.trans (KeepsOthers.drew wr))
            obtain ⟨Ad, cd, hsh⟩ := hPd.du.shape
            subst hsh
            have hPd : GoP w N g (now + 1) bR lst (.slice (some ⟨bl, ol, none⟩) lst.length cJ) s1.at_ s1.n s1.sl s1.due (.slice Ad s1.due.length cd) Vk' wr.drew := hPd
            have HPd := Lib.hid hPd
            clear hPd cA cN cR' cE HP
            generalize wr.drew = wd at *
            have c14 : wd.cell? ⟨bR + 1, 0, none⟩ = some (.slice Ad s1.due.length cd) := HPd.out.b2.cell 0
            obtain ⟨m, hm⟩ : ∃ m, s1.n = m + 1 := ⟨s1.n - 1, by
              have h1 := cntA_cancel s1.at_ id 256 hid2 (by have := HT.out; omega)
              have h2 := HGK.out.cn
              omega⟩
            have hm2 : m ≤ 256 := by have := (HGK.out.len hnb).2; omega
            have HM2 := Lib.hid hm
            clear hm
            have hbRs : bR ≤ (wd.alloc (.cells #[.int .i64 (id : Int)] 3)).heap.size := by
              have h1 := HPd.out.u.size
              have h2 := ((Upd.refl (fun _ => False) wd).alloc (.cells #[.int .i64 (id : Int)] 3)).size
              have h3 := HBR.out
              omega
            gi_wp2_with (
              gi_at_builtin
              refine wpListIn_append_sl _ rfl (.tmp 61) (.tmp 63) 30 rfl bR 3 i0 _ 1 8 Try.underlying30 hi0 hz0 hz1 hz2 rfl (by decide) (.slice Ad s1.due.length cd) s1.due.length (rws encN s1.due) rfl (Sl.alloc HPd.out.du _) ⟨wd.heap.size, 0, none⟩ 1 [.int .i64 (id : Int)] rfl rfl (fun j u hu => by rw [add_at, (Blk.new _ _ _).cell j]; simpa using hu) (by simp [Value.oneCell']) (by unfold maxLen; omega) (by omega) hbRs ?_
              intro v9 wZ hs1 hu1 hv1
              obtain ⟨bz, oz, cz, hvz, _, _, _, _⟩ := hs1.form (by omega)
              subst hvz
              obtain ⟨hP2, hK2, c9, f9⟩ := HPd.out.app HBR.out HN.out _ id hs1 hu1 hv1
              have hP3 := hP2.wh (hP2.r.setAt id hid2 (-1)).1 (hP2.r.setAt id hid2 (-1)).2
              have hP4 := hP3.wh (hP3.r.setCnt m).1 (hP3.r.setCnt m).2
              have cR2 := hP2.b1.cell 0
              have cA2 := hP2.r.b.cat id hid2
              have fA2 := hP2.r.b.frozen (257 + id)
              have cR3 := hP3.b1.cell 0
              have cC3 := hP3.r.b.cset
              have fC3 := hP3.r.b.frozen 513
              rw [HM2.out] at cC3
              have cR2' : (wZ.setCell ⟨bR + 1, 0, none⟩ (.slice (some ⟨bz, oz, none⟩) (s1.due.length + 1) cz)).cell? ⟨bR, 0, none⟩ = some (.pointer (some ⟨g, 0, none⟩)) := cR2
              have cR3' : ((wZ.setCell ⟨bR + 1, 0, none⟩ (.slice (some ⟨bz, oz, none⟩) (s1.due.length + 1) cz)).setCell ⟨g, 257 + id, none⟩ (.int .i64 (-1))).cell? ⟨bR, 0, none⟩ = some (.pointer (some ⟨g, 0, none⟩)) := cR3
              have P4 := Lib.hid hP4
              have K2 := Lib.hid hK2
              clear hs1 hu1 hv1 hP2 hP3 hP4 hK2 cR2 cR3)
            go_roundw
            case rel =>
              have e : gStep (now + 1) s1 id = { s1 with at_ := fput s1.at_ id (-1), due := s1.due ++ [id], n := s1.n - 1 } := by unfold gStep; rw [if_pos (by rw [HT.out, hd])]
              refine ⟨k + 1, .slice (some ⟨bz, oz, none⟩) (s1.due.length + 1) cz, Vk', by omega, by go_num, ?_, ((HKd.out.trans K2.out).trans (KeepsOthers.setCell _ _ _)).trans (KeepsOthers.setCell _ _ _)⟩
              rw [HNX.out, e]
              have en : s1.n - 1 = m := by have := HM2.out; omega
              dsimp only
              rw [en]
              exact P4.out
            case measure => simp [intOf]; omega
          · have dq : ((t : Int) == ((now + 1 : Nat) : Int)) = false := beq_eq_false_iff_ne.2 (by omega)
            have dq2 : decide ((t : Int) = ((now + 1 : Nat) : Int)) = false := decide_eq_false (by omega)
            gi_wp2_with fail
            refine wpIn_region_treeT (.q 0 (.q 1 (.q 2 (.q 3 (.q 4 (.q 5 (.q 6 (.q 7 (.q 8 (.q 9 (.q 10 .d))))))))))) (fun _ => false) (fun w' => w'.cell? ⟨bR, 0, none⟩ = some (.pointer (some ⟨g, 0, none⟩)) ∧ w'.cell? ⟨g, 257 + id, none⟩ = some (.int .i64 (t : Int)) ∧ w'.cell? ⟨g, 0, none⟩ = some (.int .i64 ((now + 1 : Nat) : Int)))
              (by kernel_rfl) (by kernel_rfl) (by kernel_rfl) (by kernel_rfl) (fun t ht => by cases ht) (by kernel_rfl) rfl ⟨cR', cA, cN⟩ ?_
            iterate 11
              refine' wpOT_q (by rfl) (by rfl) (fun w' hS' => ?_) ?_
              rotate_left
              · obtain ⟨s0, s1, s2⟩ := hS'
                go_simp
                try rfl
              try simp only [Act.put, List.setIfInBounds_toArray, List.set_cons_zero, List.set_cons_succ]
            refine wpOT_d ⟨rfl, ?_⟩
            have hPd := HP.out.drewN 1
            have HKd := Lib.hid (HKO.out.trans (KeepsOthers.drew wr))
            obtain ⟨Ad, cd, hsh⟩ := hPd.du.shape
            subst hsh
            have hPd : GoP w N g (now + 1) bR lst (.slice (some ⟨bl, ol, none⟩) lst.length cJ) s1.at_ s1.n s1.sl s1.due (.slice Ad s1.due.length cd) Vk' wr.drew := hPd
            have HPd := Lib.hid hPd
            clear hPd cA cN cR' cE HP
            generalize wr.drew = wd at *
            have cR5 : wd.cell? ⟨bR, 0, none⟩ = some (.pointer (some ⟨g, 0, none⟩)) := HPd.out.b1.cell 0
            have HLay := Lib.hid (layC wd g (now + 1) s1.n Vk' s1.at_ s1.sl _ HPd.out.r.plusC (fun k hk => by
              rcases hk with hk | hk
              · exact HPd.out.lt HN.out k hk
              · exact hk.lt) id t hid2 HT.out ht2 hb (fun j hj => by have := HGK.out.sl_len j hj; omega))
            gi_wp2_with fail
            refine ⟨trivial, (CallsIn.inRound l (callsIn_wide.2 HLay.out)).mono ?_⟩
            rintro e w5 ⟨rfl, ⟨V', hR5⟩, hU5⟩
            have P5 := Lib.hid (HPd.out.wh (hR5.less (fun k h => .inl h)) (hU5.mono (fun k _ h e => h (.inl e))))
            have K5 := Lib.hid (KeepsOthers.of_upd hU5 (fun k o ho hc h => h (.inr ⟨o, ho, hc⟩)))
            clear hR5 hU5
            gi_wp2_with fail
            go_roundw
            case rel =>
              have e : gStep (now + 1) s1 id = { s1 with sl := fput s1.sl (plc (now + 1) (s1.at_ id).toNat) (s1.sl (plc (now + 1) (s1.at_ id).toNat) ++ [id]) } := by unfold gStep; rw [if_neg (by rw [HT.out]; omega)]
              refine ⟨k + 1, .slice Ad s1.due.length cd, V', by omega, by go_num, ?_, HKd.out.trans K5.out⟩
              rw [HNX.out, e]
              dsimp only
              rw [HTN.out]
              exact P5.out
            case measure => simp [intOf]; omega
        · have hke : k = lst.length := by omega
          subst hke
          have dk : decide (((lst.length : Nat) : Int) < (lst.length : Int)) = false := decide_eq_false (by omega)
          have HP := Lib.hid hP
          clear hP hgk hKO
          gi_wp2_with fail
          refine ⟨HKO.out, fun _ => ⟨HP.out.b3.cell 0, HP.out.r.b.cnow⟩, ?_⟩
          have e : gProc (now + 1) s L = (lst.take lst.length).foldl (gStep (now + 1)) (gOpen (now + 1) s L) := by
            unfold gProc
            rw [HJJ.out, HLS.out, List.take_length]
          dsimp only
          rw [hSN.out, e]
          exact HP.out.goI _ rfl rfl rfl rfl
    case done =>
      rintro D ys W hD hys hI hK
      have hmap : ys.map (fun x : Lv => x.1) = downT (hi (now + 1)) (hi (now + 1) + 1) := by rw [hys]; exact downS_map _ _ _
      rw [hmap] at hI
      obtain ⟨t1, t2, t3⟩ := tick_all HI.out hb n (hi (now + 1)) (Nat.le_refl _)
      have hGs : GG (now + 1) n (gAll (now + 1) ⟨at_, sl, [], n⟩ (downT (hi (now + 1)) (hi (now + 1) + 1))) [] := by
        rw [← hmap]
        exact gg_all _ hGG (fun y hy => by
          obtain ⟨z, _, rfl⟩ := List.mem_map.1 hy
          exact z.2)
      generalize gAll (now + 1) ⟨at_, sl, [], n⟩ (downT (hi (now + 1)) (hi (now + 1) + 1)) = s at *
      obtain ⟨Vf, dv, hR, hBR, hBD, hBI, hDu, hU⟩ := hI
      have hp := dueL_perm (HI.out.gin hb)
      rw [← t3] at hp
      have hgo : goLs now at_ = dueL (now + 1) at_ (List.range 256) := by unfold goLs dueL; rw [if_neg HM.out]
      have hsorted : (dueL (now + 1) at_ (List.range 256)).Pairwise (· < ·) := List.pairwise_lt_range.filter _
      have HSort := Lib.hid (sortC W bR dv s.due (dueL (now + 1) at_ (List.range 256)) hDu hp hsorted (by have := (hGs.len hnb).1; omega))
      obtain ⟨Ad, cd, hsh⟩ := hDu.shape
      have cD : W.cell? ⟨bR + 1, 0, none⟩ = some dv := hBD.cell 0
      have hcl : ∀ k, slBlk dv = some k → ∃ cur, Blk W k 3 cur := fun k hk => (Sl.blk hDu k hk).2.2
      have R := Lib.hid hR; have BD := Lib.hid hBD; have DU := Lib.hid hDu; have UU := Lib.hid hU; have HK := Lib.hid hK; have T1 := Lib.hid t1; have T2 := Lib.hid t2; have GS := Lib.hid hGs; have CL := Lib.hid hcl; have HGO := Lib.hid hgo; have HDs := Lib.hid hD
      have HSH := Lib.hid hsh
      clear hR hBR hBD hBI hDu hU hK t1 t2 t3 hGs hcl hgo hD hys hmap hp hsorted hGG hI0 hsh
      gi_wp2_with fail
      refine ⟨trivial, (callsIn_wide.2 HSort.out).mono ?_⟩
      rintro e W2 ⟨rfl, hs2, hu2⟩
      have BD2 := Lib.hid (BD.out.upd hu2 (fun e => by obtain ⟨cur, hc⟩ := CL.out _ e; exact BD.out.ne_ hc (by decide) rfl))
      have cD2 : W2.cell? ⟨bR + 1, 0, none⟩ = some dv := BD2.out.cell 0
      have R2 := Lib.hid (R.out.upd hu2 (fun k e _ => .inr e))
      have S2 := Lib.hid hs2
      have HDl : Hid (D < W.heap.size) := Lib.hid (Array.getElem?_eq_some_iff.1 HK.out).1
      have HK2 : Hid (W2.heap[D]? = some (.deferred (some []))) := Lib.hid ((hu2.block D HDl.out (fun e => by
        obtain ⟨cur, hc⟩ := CL.out _ e
        have := hc.cells_of HK.out
        cases this)).trans HK.out)
      have U2 := Lib.hid hu2
      clear hs2 hu2 cD
      gi_wp2_with fail
      refine ⟨by simp, .inl ⟨_, _, rfl, run_takeDeferred HK2.out, ?_⟩⟩
      have hu3 : Upd (fun k => k = D) W2 (W2.putObj D (.deferred none)) := (Upd.refl _ W2).grown (grownBy_putObj' W2 D (.deferred none)) (fun k e _ => by injection e with e; exact e.symm)
      have hS : ∀ k t cs, Blk W2 k t cs → ¬ (k = D) := fun k t cs hb e => by
        subst e
        have := hb.cells_of HK2.out
        cases this
      refine ⟨dv, by simp [results, Try.results16, go_sem], dv, rfl, ?_, ?_, ?_⟩
      · rw [HBR.out, HGO.out]
        exact SlR.upd S2.out hu3 (fun k hk => by obtain ⟨_, _, cur, hc⟩ := Sl.blk S2.out k hk; exact hS k _ _ hc)
      · have e1 : goNow now = now + 1 := by unfold goNow; rw [if_neg HM.out]
        have e2 : goAt now at_ = goneA (now + 1) at_ := by unfold goAt; rw [if_neg HM.out]
        rw [e1, e2]
        have hw : WhS (W2.putObj D (.deferred none)) g (now + 1) s.at_ (fun k => N k ∨ slBlk dv = some k) :=
          ⟨Vf, s.sl, s.n, (R2.out.keptC hu3 hS).less (fun k h => by rcases h with h | h; exact .inl (.inl h); exact .inr h), T1.out.congr T2.out, GS.out.cn, hb⟩
        exact hw.congr (fun i hi => (T2.out i hi).symm)
      · refine ((UU.out.trans (U2.out.mono (fun k hk e hN2 => ?_))).trans (hu3.mono (fun k hk e hN2 => ?_)))
        · have := HN.out k hN2
          have := (Sl.blk DU.out k e).1
          have := HBR.out
          omega
        · have := HN.out k hN2
          have := HDs.out
          have := HBR.out
          omega
    case stop =>
      rintro D c pre W _ _ h _
      exact h.elim
end Go.Proofs.Ytcljgejalacccaa
