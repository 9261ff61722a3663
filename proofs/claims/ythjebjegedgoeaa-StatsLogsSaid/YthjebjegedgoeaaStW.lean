/-
  Stats: nobody's table; a table of another width.
-/
import Derived.Test.YthjebjegedgoeaaStV
namespace Go.Proofs.Ythjebjegedgoeaa
open Go.RowKit Go.Shelf Go.Maps Go.Sort
attribute [local go_sem] max_ints min_ints mapEq mapEqN makeMp

def NoneIs (w : World) (p : Option Addr) (b : Bool) : Prop :=
  (p = none ∧ b = true) ∨ ∃ g, p = some ⟨g, 0, none⟩ ∧ ((∃ v1 v2, Blk w g 47 #[.map none, v1, v2] ∧ b = true) ∨ (∃ bm v1 v2, Blk w g 47 #[.map (some bm), v1, v2] ∧ b = false))
set_option maxRecDepth 100000 in
theorem noneZ (w : World) (g : Nat) (v1 v2 : Value) (hb : Blk w g 47 #[.map none, v1, v2]) :
    Calls Try.prog 21 #[.pointer (some ⟨g, 0, none⟩)] w fun e w' => e = .returned (.bool true) ∧ ∃ k, w' = w.drewN k := by
  have c0 : w.cell? ⟨g, 0, none⟩ = some (.map none) := hb.cell 0
  clear hb
  go_enter Try.func21, Try.ntmps21
  go_wp2_with fail
  go_returns
  exact ⟨rfl, 0, rfl⟩
theorem noneA (w : World) (p : Option Addr) (b : Bool) (h : NoneIs w p b) :
    Calls Try.prog 21 #[.pointer p] w fun e w' => e = .returned (.bool b) ∧ ∃ k, w' = w.drewN k := by
  rcases h with ⟨rfl, rfl⟩ | ⟨g, rfl, ⟨v1, v2, h, rfl⟩ | ⟨bm, v1, v2, h, rfl⟩⟩
  · exact noneN w
  · exact noneZ w g v1 v2 h
  · exact noneC w g bm v1 v2 h
theorem NoneIs.nil (w : World) : NoneIs w none true := .inl ⟨rfl, rfl⟩
theorem NoneIs.zero {w : World} {g : Nat} {v1 v2 : Value} (h : Blk w g 47 #[.map none, v1, v2]) : NoneIs w (some ⟨g, 0, none⟩) true := .inr ⟨g, rfl, .inl ⟨_, _, h, rfl⟩⟩
theorem NoneIs.some {w : World} {g bm : Nat} {v1 v2 : Value} (h : Blk w g 47 #[.map (some bm), v1, v2]) : NoneIs w (some ⟨g, 0, none⟩) false := .inr ⟨g, rfl, .inr ⟨_, _, _, h, rfl⟩⟩
theorem NoneIs.drewN {w : World} {p : Option Addr} {b : Bool} (h : NoneIs w p b) (n : Nat) : NoneIs (w.drewN n) p b := h

set_option maxRecDepth 100000 in
theorem addNil (w : World) (v : Value) :
    Calls Try.prog 8 #[.pointer none, v] w fun e w' => e = .returned (.tuple #[]) ∧ Upd (fun _ => False) w w' := by
  go_enter Try.func8, Try.ntmps8
  go_wp2_with fail
  refine (noneN w).mono ?_
  rintro e w1 ⟨rfl, k, rfl⟩
  go_wp2_with fail
  go_returns
  exact ⟨rfl, (Upd.refl _ w).drewN k⟩
set_option maxRecDepth 100000 in
theorem linesNil (w : World) :
    Calls Try.prog 18 #[.pointer none] w fun e w' => e = .returned (.slice none 0 0) ∧ Upd (fun _ => False) w w' := by
  go_enter Try.func18, Try.ntmps18
  go_wp2_with fail
  refine (noneN w).mono ?_
  rintro e w1 ⟨rfl, k, rfl⟩
  go_wp2_with fail
  go_returns
  exact ⟨rfl, (Upd.refl _ w).drewN k⟩
set_option maxRecDepth 100000 in
theorem countsNil (w : World) (t : Int) :
    Calls Try.prog 15 #[.pointer none, .int .i64 t] w fun e w' => e = .returned (.slice none 0 0) ∧ Upd (fun _ => False) w w' := by
  go_enter Try.func15, Try.ntmps15
  go_wp2_with fail
  refine (noneN w).mono ?_
  rintro e w1 ⟨rfl, k, rfl⟩
  go_wp2_with fail
  go_returns
  exact ⟨rfl, (Upd.refl _ w).drewN k⟩
set_option maxRecDepth 100000 in
theorem mergeNil1 (w : World) (p : Option Addr) :
    Calls Try.prog 17 #[.pointer none, .pointer p] w fun e w' => e = .returned (.bool false) ∧ Upd (fun _ => False) w w' := by
  go_enter Try.func17, Try.ntmps17
  go_wp2_with fail
  go_quiet ((go_at_call 21; exact Calls.quiet_of (noneN _)))
  go_wp2_with fail
  go_returns
  exact ⟨rfl, (Upd.refl _ w).drewN _⟩
set_option maxRecDepth 100000 in
theorem mergeNil2 (w : World) (g bm : Nat) (v1 v2 : Value) (hb : Blk w g 47 #[.map (some bm), v1, v2]) (p : Option Addr) (hp : NoneIs w p true) :
    Calls Try.prog 17 #[.pointer (some ⟨g, 0, none⟩), .pointer p] w fun e w' => e = .returned (.bool false) ∧ Upd (fun _ => False) w w' := by
  have H := Lib.hid (NoneIs.some hb); have HP := Lib.hid hp
  clear hb hp
  go_enter Try.func17, Try.ntmps17
  go_wp2_with fail
  go_quiet ((go_at_call 21; first | exact Calls.quiet_of (noneA _ _ false (H.out.drewN _)) | exact Calls.quiet_of (noneA _ _ true (HP.out.drewN _))))
  go_wp2_with fail
  go_returns
  exact ⟨rfl, (Upd.refl _ w).drewN _⟩
set_option maxRecDepth 100000 in
set_option maxHeartbeats 1600000 in
theorem mergeW (w : World) (g bm g2 bm2 : Nat) (B W W2 : Int) (hb : Blk w g 47 #[.map (some bm), .int .i64 B, .int .i64 W]) (hb2 : Blk w g2 47 #[.map (some bm2), .int .i64 B, .int .i64 W2]) (hne : W ≠ W2) :
    Calls Try.prog 17 #[.pointer (some ⟨g, 0, none⟩), .pointer (some ⟨g2, 0, none⟩)] w fun e w' => e = .returned (.bool false) ∧ Upd (fun _ => False) w w' := by
  have H := Lib.hid (NoneIs.some hb); have HP := Lib.hid (NoneIs.some hb2)
  have a1 : w.cell? ⟨g, 1, none⟩ = some (.int .i64 B) := hb.cell 1
  have a2 : w.cell? ⟨g, 2, none⟩ = some (.int .i64 W) := hb.cell 2
  have b1 : w.cell? ⟨g2, 1, none⟩ = some (.int .i64 B) := hb2.cell 1
  have b2 : w.cell? ⟨g2, 2, none⟩ = some (.int .i64 W2) := hb2.cell 2
  have d1 : (W != W2) = true := bne_iff_ne.2 hne
  clear hb hb2 hne
  go_enter Try.func17, Try.ntmps17
  go_wp2_with fail
  go_quiet ((go_at_call 21; refine Calls.quiet_of (noneA _ _ false ?_); first | exact H.out.drewN _ | exact HP.out.drewN _))
  go_wp2_with fail
  go_returns
  exact ⟨rfl, (Upd.refl _ w).drewN _⟩

/-- The jobs that lie in a list of the call's own, as they are read. -/
theorem jrow_slr {w : World} {base n cap : Nat} {t : TypeId} {A : Option Addr} {l : List J5} (h : SlR encJ w base t 5 (.slice A n cap) l) : JRow w A l := by
  intro i j hj
  have hi := (List.getElem?_eq_some_iff.1 hj).1
  obtain ⟨b, o, c, he, _, hb, _, _⟩ := h.form (by omega)
  injection he with he1 he2 he3
  subst he1; subst he3
  obtain ⟨c0, c1, c2, c3, c4⟩ := slr_cells h i j hj
  exact ⟨b, o, rfl, hb, c0, c1, c2, c3, c4⟩
theorem JRow.rows {w : World} {A : Option Addr} {l : List J5} (h : JRow w A l) (j : Nat) (u : Value) (hu : (rws encJ l)[j]? = some u) : ∃ b o, A = some ⟨b, o, none⟩ ∧ w.cell? ⟨b, o + j, none⟩ = some u := by
  have hj : j < l.length * 5 := by
    have := (List.getElem?_eq_some_iff.1 hu).1
    rwa [rws_len encJ_len] at this
  obtain ⟨x, hx⟩ : ∃ x, l[j / 5]? = some x := ⟨_, List.getElem?_eq_getElem (by omega)⟩
  obtain ⟨b, o, e, _, h0, h1, h2, h3, h4⟩ := h (j / 5) x hx
  refine ⟨b, o, e, ?_⟩
  have hr := rws_at encJ_len l (j / 5) x hx (j % 5) (Nat.mod_lt _ (by omega))
  rw [show j / 5 * 5 + j % 5 = j by omega, hu] at hr
  have h5 : j % 5 = 0 ∨ j % 5 = 1 ∨ j % 5 = 2 ∨ j % 5 = 3 ∨ j % 5 = 4 := by omega
  rcases h5 with h5 | h5 | h5 | h5 | h5
  · rw [h5] at hr
    have hr : some u = some (.int .i64 x.t) := hr
    injection hr with hr
    rw [hr, show o + j = o + j / 5 * 5 by omega]
    exact h0
  · rw [h5] at hr
    have hr : some u = some (.int .i64 x.k) := hr
    injection hr with hr
    rw [hr, show o + j = o + j / 5 * 5 + 1 by omega]
    exact h1
  · rw [h5] at hr
    have hr : some u = some (.int .i64 x.f) := hr
    injection hr with hr
    rw [hr, show o + j = o + j / 5 * 5 + 2 by omega]
    exact h2
  · rw [h5] at hr
    have hr : some u = some (.int .i64 x.o) := hr
    injection hr with hr
    rw [hr, show o + j = o + j / 5 * 5 + 3 by omega]
    exact h3
  · rw [h5] at hr
    have hr : some u = some (.int .i64 x.e) := hr
    injection hr with hr
    rw [hr, show o + j = o + j / 5 * 5 + 4 by omega]
    exact h4
theorem infoRJ : (Try.prog.info? 66).map (fun i => (i.zero, i.size, i.bytes)) = some (some (.agg #[.int .i64 0, .int .i64 0, .int .i64 0, .int .i64 0, .int .i64 0]), 5, 40) := by kernel_rfl
/-- A table all of whose blocks are its own. -/
theorem TabS.other {w : World} {g bm B W : Nat} {ks : KS} {ln : Int → Ln} {ct : Int → List Int} {N M : Nat → Prop} (h : TabS w g bm B W ks ln ct N) (hM : ∀ q, ownT g bm ks q → ¬ M q) : TabS w g bm B W ks ln ct M :=
  ⟨h.b, h.m, h.e, h.n1, h.n2, h.n3, hM _ (.inl rfl), hM _ (.inr (.inl rfl)), fun e he => ⟨hM _ (.inr (.inr ⟨e, he, .inl rfl⟩)), hM _ (.inr (.inr ⟨e, he, .inr rfl⟩))⟩⟩
end Go.Proofs.Ythjebjegedgoeaa
