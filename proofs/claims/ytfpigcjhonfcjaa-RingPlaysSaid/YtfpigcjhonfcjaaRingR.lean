/-
  The walks of a row's reference (parcloseref14.Ring).
-/
import Derived.Test.YtfpigcjhonfcjaaRingA
namespace Go.Proofs.Ytfpigcjhonfcjaa
open Go.RowKit
attribute [local go_sem] max_ints min_ints

/-- The reference's row at block s: its room and its things; they lie in blocks from base on. -/
def RRef (w : World) (base s : Nat) (room : Nat) (l : List Int) : Prop :=
  s < base ∧ ∃ A cap, Blk w s 65 #[.int .i64 room, .slice A l.length cap] ∧ l.length ≤ cap ∧ (cap ≤ maxLen ∧ (A = none → cap = 0)) ∧
    ∀ k x, l[k]? = some x → ∃ ad, A = some ad ∧ base ≤ ad.block ∧ w.cell? (ad.add k) = some (.int .i64 x)

theorem RRef.drewN {w : World} {base s room : Nat} {l : List Int} (h : RRef w base s room l) (k : Nat) : RRef (w.drewN k) base s room l := h
theorem RRef.upd {w w' : World} {S : Nat → Prop} {base s room : Nat} {l : List Int} (h : RRef w base s room l) (hu : Upd S w w') (hs : ¬ S s) (hb : ∀ k, base ≤ k → k < w.heap.size → ¬ S k) : RRef w' base s room l := by
  obtain ⟨hsb, A, cap, h1, h2, h3, h4⟩ := h
  refine ⟨hsb, A, cap, h1.upd hu hs, h2, h3, fun k x hx => ?_⟩
  obtain ⟨ad, e, hge, hc⟩ := h4 k x hx
  have hlt : ad.block < w.heap.size := by have := block_lt_of_cell hc; rwa [block_add] at this
  exact ⟨ad, e, hge, (hu.cell (p := ad.add k) (by rw [block_add]; exact hlt) (by rw [block_add]; exact hb _ hge hlt)).trans hc⟩
theorem RRef.ints {w : World} {base s room : Nat} {l : List Int} {v : Value} (h : RRef w base s room l) (hv : w.cell? ⟨s, 1, none⟩ = some v) : Ints w v l := by
  obtain ⟨_, A, cap, h1, _, _, h4⟩ := h
  have := h1.cell 1
  rw [hv] at this
  simp at this
  refine ⟨A, cap, this, fun k x hx => ?_⟩
  obtain ⟨ad, e, _, hc⟩ := h4 k x hx
  exact ⟨ad, e, hc⟩

set_option maxRecDepth 100000 in
set_option maxHeartbeats 400000 in
theorem newRR (w : World) (room : Int) (m : Nat) (hm : min (max room 0) 4096 = m) :
    Calls Try.prog 31 #[.int .i64 room] w fun e w' => ∃ s, e = .returned (.pointer (some ⟨s, 0, none⟩)) ∧ w.heap.size ≤ s ∧ RRef w' (w.heap.size + 1) s m [] ∧ Below w.heap.size w w' := by
  go_enter Try.func31, Try.ntmps31
  go_wp2
  go_ret
  exact ⟨_, rfl, Nat.le_refl _, ⟨Nat.lt_succ_self _, none, 0, Blk.new w _ _, Nat.le_refl _, ⟨Nat.zero_le _, fun _ => rfl⟩, fun k x hx => by simp at hx⟩, (Below.refl _ _).alloc (Nat.le_refl _) _⟩

set_option maxHeartbeats 400000 in
theorem pushR_no (w : World) (base s room : Nat) (l : List Int) (h : RRef w base s room l) (x : Int) (hl : room ≤ l.length) :
    Calls Try.prog 33 #[.pointer (some ⟨s, 0, none⟩), .int .i64 x] w fun e w' => e = .returned (.bool false) ∧ ∃ k, w' = w.drewN k := by
  obtain ⟨_, A, cap, h1, _⟩ := h
  have c0 := h1.cell 0
  have c1 := h1.cell 1
  simp at c0 c1
  clear h1
  have e0 : decide ((room : Int) ≤ (l.length : Int)) = true := decide_eq_true (by omega)
  go_enter Try.func33, Try.ntmps33
  go_wp2
  go_quiet (fail)
  go_wp2
  go_ret
  exact ⟨rfl, _, rfl⟩

set_option maxHeartbeats 400000 in
theorem popR_no (w : World) (base s room : Nat) (h : RRef w base s room []) :
    Calls Try.prog 35 #[.pointer (some ⟨s, 0, none⟩)] w fun e w' => e = .returned (.tuple #[.int .i64 0, .bool false]) ∧ ∃ k, w' = w.drewN k := by
  obtain ⟨_, A, cap, h1, _⟩ := h
  have c1 := h1.cell 1
  simp at c1
  clear h1
  go_enter Try.func35, Try.ntmps35
  go_wp2
  go_ret2
  exact ⟨rfl, 0, rfl⟩

theorem add_add_ (a : Addr) (i j : Nat) : (a.add i).add j = a.add (i + j) := by
  unfold Addr.add
  by_cases hi : i = 0 <;> by_cases hj : j = 0 <;> simp [hi, hj, Nat.add_assoc]

set_option maxHeartbeats 800000 in
theorem popR_yes (w : World) (base s room : Nat) (x : Int) (l : List Int) (h : RRef w base s room (x :: l)) :
    Calls Try.prog 35 #[.pointer (some ⟨s, 0, none⟩)] w fun e w' => e = .returned (.tuple #[.int .i64 x, .bool true]) ∧ RRef w' base s room l ∧ Upd (fun k => k = s) w w' := by
  obtain ⟨hsb, A, cap, h1, h2, h3, h4⟩ := h
  obtain ⟨ad, rfl, hge, hc⟩ := h4 0 x rfl
  have c1 := h1.cell 1
  have f1 := h1.frozen 1
  simp at c1
  have HC : Hid (∀ k y, (x :: l)[k]? = some y → w.cell? (ad.add k) = some (.int .i64 y)) := Lib.hid (fun k y hy => by
    obtain ⟨ad', e, _, hc'⟩ := h4 k y hy
    injection e with e
    subst e
    exact hc')
  clear h4
  have HB := Lib.hid h1; clear h1
  have hlen : (x :: l).length = l.length + 1 := rfl
  rw [hlen] at h2
  have e0 : (((l.length + 1 : Nat) : Int) == 0) = false := beq_eq_false_iff_ne.2 (by omega)
  have e1 : ((l.length : Int) + 1 == 0) = false := beq_eq_false_iff_ne.2 (by omega)
  have ez : ad.add 0 = ad := by simp [Addr.add]
  rw [ez] at hc
  clear ez hlen
  by_cases hcap : cap = 1
  · subst hcap
    have hl0 : l = [] := List.eq_nil_of_length_eq_zero (by omega)
    subst hl0
    clear h2
    go_enter Try.func35, Try.ntmps35
    go_wp2
    go_ret2
    refine ⟨rfl, ⟨hsb, some ad, 0, ?_, Nat.le_refl _, ⟨Nat.zero_le _, nofun⟩, fun k y hy => by simp at hy⟩, (Upd.refl (fun k => k = s) w).setCell (fun _ => rfl) _⟩
    have := HB.out.set_ 1 (.slice (some ad) 0 0)
    simpa using this
  · have HCAP := Lib.hid hcap
    go_enter Try.func35, Try.ntmps35
    go_wp2
    go_ret2
    refine ⟨rfl, ⟨hsb, some ⟨ad.block, ad.off + 1, none⟩, cap - 1, ?_, by omega, ⟨Nat.le_trans (Nat.sub_le _ _) h3.1, nofun⟩, fun k y hy => ⟨_, rfl, hge, ?_⟩⟩, (Upd.refl (fun k => k = s) w).setCell (fun _ => rfl) _⟩
    · have := HB.out.set_ 1 (.slice (some ⟨ad.block, ad.off + 1, none⟩) l.length (cap - 1))
      simpa using this
    · have h5 := HC.out (k + 1) y (by simpa using hy)
      have e1 : (⟨ad.block, ad.off + 1, none⟩ : Addr) = ad.add 1 := by simp [Addr.add]
      rw [e1, add_add_, Nat.add_comm 1 k]
      have hne : (ad.add (k + 1)).block ≠ s := by rw [block_add]; omega
      have hu := (Upd.refl (fun k => k = s) w).setCell (p := ⟨s, 1, none⟩) (fun _ => rfl) (.slice (some (ad.add 1)) l.length (cap - 1))
      exact (hu.cell (p := ad.add (k + 1)) (block_lt_of_cell h5) hne).trans h5

set_option maxHeartbeats 800000 in
theorem atR_no (w : World) (base s room : Nat) (l : List Int) (h : RRef w base s room l) (i : Int) (hi : ¬ (0 ≤ i ∧ i < l.length)) :
    Calls Try.prog 40 #[.pointer (some ⟨s, 0, none⟩), .int .i64 i] w fun e w' => e = .returned (.tuple #[.int .i64 0, .bool false]) ∧ ∃ k, w' = w.drewN k := by
  obtain ⟨_, A, cap, h1, _⟩ := h
  have c1 := h1.cell 1
  simp at c1
  clear h1
  by_cases h0 : i < 0
  · have e0 : decide (i < 0) = true := decide_eq_true h0
    clear hi h0
    go_enter Try.func40, Try.ntmps40
    go_wp2
    go_ret2
    exact ⟨rfl, 0, rfl⟩
  · have e0 : decide (i < 0) = false := decide_eq_false h0
    have e1 : decide ((l.length : Int) ≤ i) = true := decide_eq_true (by omega)
    clear hi h0
    go_enter Try.func40, Try.ntmps40
    go_wp2
    go_ret2
    exact ⟨rfl, 0, rfl⟩

set_option maxHeartbeats 800000 in
theorem atR_yes (w : World) (base s room : Nat) (l : List Int) (h : RRef w base s room l) (i : Nat) (x : Int) (hx : l[i]? = some x) :
    Calls Try.prog 40 #[.pointer (some ⟨s, 0, none⟩), .int .i64 i] w fun e w' => e = .returned (.tuple #[.int .i64 x, .bool true]) ∧ ∃ k, w' = w.drewN k := by
  obtain ⟨_, A, cap, h1, _, _, h4⟩ := h
  obtain ⟨ad, rfl, _, hc⟩ := h4 i x hx
  have hi : i < l.length := (List.getElem?_eq_some_iff.1 hx).1
  have c1 := h1.cell 1
  simp at c1
  clear h1 h4 hx
  have e0 : decide ((i : Int) < 0) = false := decide_eq_false (by omega)
  have e1 : decide ((l.length : Int) ≤ (i : Int)) = false := decide_eq_false (by omega)
  go_enter Try.func40, Try.ntmps40
  go_wp2
  go_ret2
  exact ⟨rfl, 0, rfl⟩

set_option maxHeartbeats 800000 in
theorem setR_no (w : World) (base s room : Nat) (l : List Int) (h : RRef w base s room l) (i x : Int) (hi : ¬ (0 ≤ i ∧ i < l.length)) :
    Calls Try.prog 37 #[.pointer (some ⟨s, 0, none⟩), .int .i64 i, .int .i64 x] w fun e w' => e = .returned (.bool false) ∧ ∃ k, w' = w.drewN k := by
  obtain ⟨_, A, cap, h1, _⟩ := h
  have c1 := h1.cell 1
  simp at c1
  clear h1
  by_cases h0 : i < 0
  · have e0 : decide (i < 0) = true := decide_eq_true h0
    clear hi h0
    go_enter Try.func37, Try.ntmps37
    go_wp2
    go_ret
    exact ⟨rfl, 0, rfl⟩
  · have e0 : decide (i < 0) = false := decide_eq_false h0
    have e1 : decide ((l.length : Int) ≤ i) = true := decide_eq_true (by omega)
    clear hi h0
    go_enter Try.func37, Try.ntmps37
    go_wp2
    go_ret
    exact ⟨rfl, 0, rfl⟩

theorem ints_cells {w : World} {A : Option Addr} {l : List Int} {ad : Addr} (hA : A = some ad) (h : ∀ k x, l[k]? = some x → ∃ ad, A = some ad ∧ w.cell? (ad.add k) = some (.int .i64 x)) :
    ∀ j u, (intVals l)[j]? = some u → w.cell? (ad.add j) = some u := by
  intro j u hu
  unfold intVals at hu
  rw [List.getElem?_map] at hu
  obtain ⟨x, hx, rfl⟩ := Option.map_eq_some_iff.1 hu
  obtain ⟨ad', e, hc⟩ := h j x hx
  rw [hA] at e
  injection e with e
  subst e
  exact hc
theorem intVals_one (l : List Int) : ∀ u ∈ intVals l, u.oneCell' = true := by
  intro u hu
  unfold intVals at hu
  obtain ⟨x, _, rfl⟩ := List.mem_map.1 hu
  rfl

/-- A row of the call's own, written into the reference's slot. -/
theorem RRef.own {w1 : World} {base B s room : Nat} {l : List Int} {gv cap n : Nat} {v : Value} (hn : n = l.length) (hsb : s < base) (hsB : s < B) (hBB : base ≤ B) (hb : Blk w1 s 65 #[.int .i64 room, v])
    (ho : w1.ownsRow B 3 1 (.slice (some ⟨gv, 0, none⟩) n cap) n (intVals l)) : RRef (w1.setCell ⟨s, 1, none⟩ (.slice (some ⟨gv, 0, none⟩) n cap)) base s room l := by
  subst hn
  have hgv : B ≤ gv := own_ge ho rfl
  have hcap : l.length ≤ cap ∧ cap ≤ maxLen := by
    rcases ho.2 with ⟨h', _⟩ | ⟨g', cap', cur, h', _, hg, h1, h2, _⟩
    · cases h'
    · injection h' with _ _ h'
      subst h'
      exact ⟨h1, h2⟩
  refine ⟨hsb, some ⟨gv, 0, none⟩, cap, ?_, hcap.1, ⟨hcap.2, nofun⟩, fun k x hx => ⟨_, rfl, Nat.le_trans hBB hgv, ?_⟩⟩
  · have := hb.set_ 1 (.slice (some ⟨gv, 0, none⟩) l.length cap)
    simpa using this
  · have hk : k < l.length := (List.getElem?_eq_some_iff.1 hx).1
    have e : (⟨gv, 0, none⟩ : Addr).add k = ⟨gv, k, none⟩ := by unfold Addr.add; split <;> simp_all
    have hc := ho.cellAt k (by omega)
    rw [e]
    have hne : (⟨gv, k, none⟩ : Addr).block ≠ s := by show gv ≠ s; omega
    have hv : (intVals l)[k]? = some (.int .i64 x) := by unfold intVals; rw [List.getElem?_map, hx]; rfl
    rw [hv] at hc
    have hu := (Upd.refl (fun k => k = s) w1).setCell (p := ⟨s, 1, none⟩) (fun _ => rfl) (.slice (some ⟨gv, 0, none⟩) l.length cap)
    exact (hu.cell (p := ⟨gv, k, none⟩) (block_lt_of_cell hc) hne).trans hc

set_option maxRecDepth 100000 in
set_option maxHeartbeats 1600000 in
theorem setR_yes (w : World) (base s room : Nat) (l : List Int) (h : RRef w base s room l) (hbase : base ≤ w.heap.size) (hl : l.length ≤ 5000) (i : Nat) (x : Int) (hi : i < l.length) :
    Calls Try.prog 37 #[.pointer (some ⟨s, 0, none⟩), .int .i64 i, .int .i64 x] w fun e w' => e = .returned (.bool true) ∧ RRef w' base s room (l.set i x) ∧ Upd (fun k => k = s) w w' := by
  obtain ⟨hsb, A, cap, h1, _, _, h4⟩ := h
  obtain ⟨ad, rfl, _, _⟩ := h4 i l[i] (List.getElem?_eq_getElem hi)
  obtain ⟨i0, hi0, hz0, hz1, hz2⟩ := info_parts infoint
  have hc := ints_cells (w := w) (l := l) (A := some ad) rfl (fun k x hx => let ⟨ad', e, _, hc⟩ := h4 k x hx; ⟨ad', e, hc⟩)
  have HC : Hid (∀ o j u, (intVals l)[j]? = some u → (w.alloc o).cell? (ad.add j) = some u) := Lib.hid (fun o j u hu => Lib.cell?_alloc_some o (hc j u hu))
  clear hc h4
  have cA : ∀ o, (w.alloc o).cell? ⟨s, 1, none⟩ = some (.slice (some ad) l.length cap) := fun o => by
    have := (h1.alloc o).cell 1
    simpa using this
  have c1 := h1.cell 1
  simp at c1
  have HB := Lib.hid h1; clear h1
  have e0 : decide ((i : Int) < 0) = false := decide_eq_false (by omega)
  have e1 : decide ((l.length : Int) ≤ (i : Int)) = false := decide_eq_false (by omega)
  go_enter Try.func37, Try.ntmps37
  go_wp2_with (
    at_builtin
    refine wpList_append_own _ rfl (.tmp 19) (.tmp 23) 33 rfl w.heap.size 3 i0 _ 1 8 Try.underlying33 hi0 hz0 hz1 hz2 rfl (by decide) _ 0 [] rfl (World.ownsRow_lit (e := 3) (size := 1) w #[] 0 (Nat.le_refl _) (Nat.zero_le _) rfl) ad l.length cap (intVals l) rfl (by simp [intVals]) (HC.out _) (intVals_one l) (by unfold maxLen; omega) (by omega) (by simp) ?_
    intro v' w1 hown' hgrow hnil
    clear hnil
    have hU : Upd (fun k => w.heap.size ≤ k) w w1 := ((Upd.refl (fun k => w.heap.size ≤ k) w).alloc _).grown hgrow (fun k hk hlt => by cases hk; exact Nat.le_refl _)
    rw [List.nil_append, Nat.zero_add] at hown'
    obtain ⟨gv, cv, rfl, hgv, _⟩ := own_form hown' (by omega)
    have hbr := HB.out.upd hU (Nat.not_le_of_lt HB.out.lt)
    have cI : w1.cell? ⟨gv, i, none⟩ = some (.int .i64 l[i]) := by
      rw [hown'.cellAt i (by omega)]
      simp [intVals, hi]
    have fI := hown'.frozenAt i
    have hst := (hown'.stored i (.int .i64 x)).1
    have hset : (intVals l).set i (.int .i64 x) = intVals (l.set i x) := by simp [intVals, List.map_set]
    rw [hset] at hst
    have hb2 := hbr.far (p := ⟨gv, i, none⟩) (by have := HB.out.lt; show s ≠ gv; omega) (.int .i64 x)
    have c1' := hb2.cell 1
    have f1' := hb2.frozen 1
    simp at c1'
    have HB2 := Lib.hid hb2; clear hb2
    have HST := Lib.hid hst; clear hst
    have HU := Lib.hid hU; clear hU
    clear hown' hgrow hbr hset)
  go_ret
  refine ⟨rfl, RRef.own (by simp) hsb HB.out.lt hbase HB2.out HST.out, ?_⟩
  have h9 := (HU.out.setCell (p := ⟨gv, i, none⟩) (fun _ => hgv) (.int .i64 x)).mono (S' := fun k => k = s) (fun k hk hle => absurd hle (Nat.not_le_of_lt hk))
  exact h9.setCell (fun _ => rfl) _

set_option maxRecDepth 100000 in
set_option maxHeartbeats 1600000 in
theorem pushR_yes (w : World) (base s room : Nat) (l : List Int) (h : RRef w base s room l) (hbase : base ≤ w.heap.size) (hr : room ≤ 5000) (x : Int) (hl : l.length < room) :
    Calls Try.prog 33 #[.pointer (some ⟨s, 0, none⟩), .int .i64 x] w fun e w' => e = .returned (.bool true) ∧ RRef w' base s room (l ++ [x]) ∧ Upd (fun k => k = s) w w' := by
  obtain ⟨hsb, A, cap, h1, h2, h3, h4⟩ := h
  obtain ⟨i0, hi0, hz0, hz1, hz2⟩ := info_parts infoint
  have cA : ∀ n o, ((w.drewN n).alloc o).cell? ⟨s, 1, none⟩ = some (.slice A l.length cap) := fun n o => by
    have := ((h1.drewN n).alloc o).cell 1
    simpa using this
  have c0 := h1.cell 0
  have c1 := h1.cell 1
  simp at c0 c1
  have HN : Hid (∀ n o, ∀ j u, [Value.int .i64 x][j]? = some u → (((w.drewN n).alloc o).alloc (.cells [Value.int .i64 x].toArray 3)).cell? ((⟨w.heap.size + 1, 0, none⟩ : Addr).add j) = some u) := Lib.hid (fun n o j u hu => by
    have := new_cells ((w.drewN n).alloc o) 3 [Value.int .i64 x] j u hu
    simpa using this)
  have HB := Lib.hid h1; clear h1
  have e0 : decide ((room : Int) ≤ (l.length : Int)) = false := decide_eq_false (by omega)
  cases A with
  | none =>
    have hl0 : l = [] := by
      cases l with
      | nil => rfl
      | cons y t => obtain ⟨_, e, _⟩ := h4 0 y rfl; cases e
    subst hl0
    obtain rfl := h3.2 rfl
    clear h4 h2 h3
    go_enter Try.func33, Try.ntmps33
    go_wp2
    go_quiet (fail)
    go_wp2_with (
      at_builtin
      first
      | refine wpList_append_own_none _ rfl (.tmp 16) (.tmp 20) 33 rfl w.heap.size 3 i0 1 Try.underlying33 hi0 _ 0 [] rfl (World.ownsRow_lit (e := 3) (size := 1) (w.drewN _) #[] 0 (Nat.le_refl _) (Nat.zero_le _) rfl) rfl ?_
      | (refine wpList_append_own _ rfl (.tmp 21) (.tmp 23) 33 rfl w.heap.size 3 i0 _ 1 8 Try.underlying33 hi0 hz0 hz1 hz2 rfl (by decide) _ 0 [] rfl ((World.ownsRow_lit (e := 3) (size := 1) (w.drewN _) #[] 0 (Nat.le_refl _) (Nat.zero_le _) rfl).alloc _) ⟨w.heap.size + 1, 0, none⟩ 1 1 [.int .i64 x] rfl rfl (HN.out _ _) (by simp [Value.oneCell']) (by unfold maxLen; omega) (by omega) (by simp only [World.size_alloc, World.drewN]; omega) ?_
         intro v' w1 hown' hgrow hnil
         clear hnil
         have hU : Upd (fun k => w.heap.size ≤ k) w w1 := (((Upd.refl (fun k => w.heap.size ≤ k) w).drewN nq).alloc _ |>.alloc _).grown hgrow (fun k hk hlt => by cases hk; exact Nat.le_refl _)
         rw [List.nil_append, Nat.zero_add] at hown'
         obtain ⟨gv, cv, rfl, hgv, _⟩ := own_form hown' (by omega)
         have hbr := HB.out.upd hU (Nat.not_le_of_lt HB.out.lt)
         have c1' := hbr.cell 1
         have f1' := hbr.frozen 1
         simp at c1'
         have HB2 := Lib.hid hbr; clear hbr
         have HST := Lib.hid hown'; clear hown'
         have HU := Lib.hid hU; clear hU
         clear hgrow))
    go_ret
    refine ⟨rfl, RRef.own (by simp) hsb HB.out.lt hbase HB2.out HST.out, ?_⟩
    exact (HU.out.mono (S' := fun k => k = s) (fun k hk hle => absurd hle (Nat.not_le_of_lt hk))).setCell (fun _ => rfl) _
  | some ad =>
    have hc := ints_cells (w := w) (l := l) (A := some ad) rfl (fun k x hx => let ⟨ad', e, _, hc⟩ := h4 k x hx; ⟨ad', e, hc⟩)
    have HC : Hid (∀ n o j u, (intVals l)[j]? = some u → ((w.drewN n).alloc o).cell? (ad.add j) = some u) := Lib.hid (fun n o j u hu => Lib.cell?_alloc_some (W := w.drewN n) o (hc j u hu))
    clear hc h4 h2 h3
    go_enter Try.func33, Try.ntmps33
    go_wp2
    go_quiet (fail)
    go_wp2_with (
      at_builtin
      first
      | (refine wpList_append_own _ rfl (.tmp 16) (.tmp 20) 33 rfl w.heap.size 3 i0 _ 1 8 Try.underlying33 hi0 hz0 hz1 hz2 rfl (by decide) _ 0 [] rfl (World.ownsRow_lit (e := 3) (size := 1) (w.drewN _) #[] 0 (Nat.le_refl _) (Nat.zero_le _) rfl) ad l.length cap (intVals l) rfl (by simp [intVals]) (HC.out _ _) (intVals_one l) (by unfold maxLen; omega) (by omega) (by simp) ?_
         intro v0 w0 hown0 hgrow0 hnil0
         clear hnil0
         have hU0 : Upd (fun k => w.heap.size ≤ k) w w0 := (((Upd.refl (fun k => w.heap.size ≤ k) w).drewN nq).alloc _).grown hgrow0 (fun k hk hlt => by cases hk; exact Nat.le_refl _)
         rw [List.nil_append, Nat.zero_add] at hown0
         have hbr0 := HB.out.upd hU0 (Nat.not_le_of_lt HB.out.lt)
         have HB0 := Lib.hid hbr0; clear hbr0
         have HS0 := Lib.hid hown0; clear hown0
         have HU0 := Lib.hid hU0; clear hU0
         clear hgrow0)
      | (refine wpList_append_own _ rfl (.tmp 21) (.tmp 23) 33 rfl w.heap.size 3 i0 _ 1 8 Try.underlying33 hi0 hz0 hz1 hz2 rfl (by decide) v0 l.length (intVals l) rfl (HS0.out.alloc _) ⟨w0.heap.size, 0, none⟩ 1 1 [.int .i64 x] rfl rfl (new_cells w0 _ _) (by simp [Value.oneCell']) (by unfold maxLen; omega) (by omega) (Nat.le_trans HU0.out.size (by simp)) ?_
         intro v' w1 hown' hgrow hnil
         clear hnil
         have hU : Upd (fun k => w.heap.size ≤ k) w w1 := (HU0.out.alloc _).grown hgrow (fun k hk hlt => own_ge HS0.out hk)
         obtain ⟨gv, cv, rfl, hgv, _⟩ := own_form hown' (by omega)
         have hbr := HB.out.upd hU (Nat.not_le_of_lt HB.out.lt)
         have c1' := hbr.cell 1
         have f1' := hbr.frozen 1
         simp at c1'
         have HB2 := Lib.hid hbr; clear hbr
         have HST := Lib.hid hown'; clear hown'
         have HU := Lib.hid hU; clear hU
         clear hgrow))
    go_ret
    have hsn : intVals l ++ [.int .i64 x] = intVals (l ++ [x]) := by simp [intVals]
    refine ⟨rfl, RRef.own (by simp) hsb HB.out.lt hbase HB2.out (by rw [← hsn]; exact HST.out), ?_⟩
    exact (HU.out.mono (S' := fun k => k = s) (fun k hk hle => absurd hle (Nat.not_le_of_lt hk))).setCell (fun _ => rfl) _
end Go.Proofs.Ytfpigcjhonfcjaa
