/-
  Stats: a table's state; New, none, of; the keys in their order.
-/
import Derived.Test.YthjebjegedgoeaaStM
import Derived.Laws.MakeOwn
namespace Go.Proofs.Ythjebjegedgoeaa
open Go.RowKit Go.Shelf Go.Maps Go.Sort
attribute [local go_sem] max_ints min_ints

def encK (t : Int) (x : Ln) (c B : Nat) : Array Value := #[.int .i64 t, .int .i64 x.arr, .int .i64 x.ended, .int .i64 x.lost, .int .i64 x.least, .int .i64 x.most, .int .i64 x.sum, .slice (some ⟨c, 0, none⟩) B B]
/-- What is known of a task. -/
structure EntS (w : World) (B : Nat) (ln : Int → Ln) (ct : Int → List Int) (e : Int × Nat × Nat) : Prop where
  kn : Blk w e.2.1 62 (encK e.1 (ln e.1) e.2.2 B)
  cn : SlR encI w e.2.2 3 1 (.slice (some ⟨e.2.2, 0, none⟩) B B) (ct e.1)
/-- A table at g, its map at bm; none of its blocks is one of N. -/
structure TabS (w : World) (g bm B W : Nat) (ks : KS) (ln : Int → Ln) (ct : Int → List Int) (N : Nat → Prop) : Prop where
  b : Blk w g 47 #[.map (some bm), .int .i64 (B : Int), .int .i64 (W : Int)]
  m : MpS w bm ks
  e : ∀ e ∈ ks, EntS w B ln ct e
  n1 : (ks.map Prod.fst).Nodup
  n2 : (ks.map (fun e => e.2.1)).Nodup
  n3 : (ks.map (fun e => e.2.2)).Nodup
  ng : ¬ N g
  nm : ¬ N bm
  nk : ∀ e ∈ ks, ¬ N e.2.1 ∧ ¬ N e.2.2
section
variable {w w' : World} {g bm B W : Nat} {ks : KS} {ln ln' : Int → Ln} {ct ct' : Int → List Int} {N N' S : Nat → Prop}
theorem EntS.upd {e : Int × Nat × Nat} (h : EntS w B ln ct e) (hu : Upd S w w') (h1 : ¬ S e.2.1) (h2 : ¬ S e.2.2) : EntS w' B ln ct e :=
  ⟨h.kn.upd hu h1, h.cn.upd hu (fun k hk => by rw [← slBlk_eq hk]; exact h2)⟩
theorem EntS.clt {e : Int × Nat × Nat} (h : EntS w B ln ct e) : e.2.2 < w.heap.size := (Sl.blk h.cn _ rfl).2.1
theorem TabS.upd (h : TabS w g bm B W ks ln ct N) (hu : Upd S w w') (hS : ∀ k, S k → k < w.heap.size → N k) : TabS w' g bm B W ks ln ct N :=
  ⟨h.b.upd hu (fun e => h.ng (hS _ e h.b.lt)), h.m.upd hu (fun e => h.nm (hS _ e h.m.lt)),
    fun e he => (h.e e he).upd hu (fun x => (h.nk e he).1 (hS _ x (h.e e he).kn.lt)) (fun x => (h.nk e he).2 (hS _ x (h.e e he).clt)), h.n1, h.n2, h.n3, h.ng, h.nm, h.nk⟩
theorem TabS.still (h : TabS w g bm B W ks ln ct N) (hu : Upd (fun _ => False) w w') : TabS w' g bm B W ks ln ct N := h.upd hu (fun _ h _ => h.elim)
theorem TabS.drewN (h : TabS w g bm B W ks ln ct N) (k : Nat) : TabS (w.drewN k) g bm B W ks ln ct N := h.still ((Upd.refl _ w).drewN k)
theorem TabS.less (h : TabS w g bm B W ks ln ct N) (hN : ∀ k, N' k → N k) : TabS w g bm B W ks ln ct N' :=
  ⟨h.b, h.m, h.e, h.n1, h.n2, h.n3, fun e => h.ng (hN _ e), fun e => h.nm (hN _ e), fun e he => ⟨fun x => (h.nk e he).1 (hN _ x), fun x => (h.nk e he).2 (hN _ x)⟩⟩
theorem TabS.more (h : TabS w g bm B W ks ln ct N) (hu : Upd (fun _ => False) w w') (hN : ∀ k, N' k → k < w.heap.size → N k) : TabS w' g bm B W ks ln ct N' := by
  have h' := h.still hu
  exact ⟨h'.b, h'.m, h'.e, h.n1, h.n2, h.n3, fun e => h.ng (hN _ e h.b.lt), fun e => h.nm (hN _ e h.m.lt), fun e he => ⟨fun x => (h.nk e he).1 (hN _ x (h.e e he).kn.lt), fun x => (h.nk e he).2 (hN _ x (h.e e he).clt)⟩⟩
theorem TabS.congr (h : TabS w g bm B W ks ln ct N) (h1 : ∀ e ∈ ks, ln' e.1 = ln e.1) (h2 : ∀ e ∈ ks, ct' e.1 = ct e.1) : TabS w g bm B W ks ln' ct' N :=
  ⟨h.b, h.m, fun e he => ⟨by rw [h1 e he]; exact (h.e e he).kn, by rw [h2 e he]; exact (h.e e he).cn⟩, h.n1, h.n2, h.n3, h.ng, h.nm, h.nk⟩
/-- Every block of the table. -/
def ownT (g bm : Nat) (ks : KS) (k : Nat) : Prop := k = g ∨ k = bm ∨ ∃ e ∈ ks, k = e.2.1 ∨ k = e.2.2
theorem TabS.own_lt (h : TabS w g bm B W ks ln ct N) (k : Nat) (hk : ownT g bm ks k) : k < w.heap.size ∧ ¬ N k := by
  rcases hk with rfl | rfl | ⟨e, he, rfl | rfl⟩
  · exact ⟨h.b.lt, h.ng⟩
  · exact ⟨h.m.lt, h.nm⟩
  · exact ⟨(h.e e he).kn.lt, (h.nk e he).1⟩
  · exact ⟨(h.e e he).clt, (h.nk e he).2⟩
end

theorem rws_encI (l : List Int) : rws encI l = l.map (Value.int .i64) := by
  induction l with
  | nil => rfl
  | cons x r ih => rw [rws_cons, ih]; rfl

/-- A row of zeros that was made. -/
theorem madeZ (w : World) (n : Nat) (hn : n ≤ maxLen) : SlR encI (w.alloc (.cells (madeCells #[.int .i64 0] n) 3)) w.heap.size 3 1 (.slice (some ⟨w.heap.size, 0, none⟩) n n) (List.replicate n 0) := by
  unfold SlR
  rw [List.length_replicate]
  refine ⟨by rw [rws_encI]; simp, .inr ⟨_, 0, n, _, rfl, Nat.le_refl _, Blk.new w _ _, Nat.le_refl _, hn, by rw [size_madeCells]; simp, fun j u hu => ?_⟩⟩
  rw [rws_encI, List.map_replicate, List.getElem?_replicate] at hu
  split at hu
  · rename_i hj
    rw [Nat.zero_add, Array.getElem?_eq_getElem (by rw [size_madeCells]; simpa using hj)]
    simp [madeCells, Nat.mod_one]
    simpa using hu
  · cases hu
theorem makeI (n : Nat) (hn : n ≤ 1000) (w : World) : (Instr.makeSlice 23 (.int .i64 (n : Int)) (.int .i64 (n : Int))).run Try.prog w = .ok (.slice (some ⟨w.heap.size, 0, none⟩) n n) (w.alloc (.cells (madeCells #[.int .i64 0] n) 3)) := by
  obtain ⟨i0, hi0, hz0, hz1, hz2⟩ := info_parts infoInt
  have := run_makeSlice (P := Try.prog) w 23 3 i0 _ Try.underlying23 hi0 hz0 .i64 .i64 (n : Int) (n : Int) (by omega) (Int.le_refl _) (by rw [hz1]; omega) (by rw [hz2]; omega) (by omega)
  rw [this, Int.toNat_natCast, hz1, Nat.mul_one]
  rfl

theorem mapEq (w : World) (b : Nat) : (binOp .eql 45 (.map (some b)) (.map none)).run Try.prog w = .ok (.bool false) w := run_eql_map_nil w _ _ _ (some b) Try.underlying45
theorem mapEqN (w : World) : (binOp .eql 45 (.map none) (.map none)).run Try.prog w = .ok (.bool true) w := run_eql_map_nil w _ _ _ none Try.underlying45
theorem makeMp (w : World) : (Instr.makeMap 45 none).run Try.prog w = .ok (.map (some w.heap.size)) (w.alloc (.map #[] 0)) := run_makeMap _ w
attribute [local go_sem] mapEq mapEqN makeMp

set_option maxRecDepth 100000 in
set_option maxHeartbeats 1600000 in
theorem newS (w : World) (b d : Int) :
    Calls Try.prog 7 #[.int .i64 b, .int .i64 d] w fun e w' => e = .returned (.pointer (some ⟨w.heap.size + 1, 0, none⟩)) ∧ TabS w' (w.heap.size + 1) w.heap.size (min (max b 1) 64).toNat (min (max d 1) 1000).toNat [] (fun _ => Ln.zero) (fun _ => []) (fun k => k < w.heap.size) ∧ Upd (fun _ => False) w w' := by
  obtain ⟨B, hB⟩ : ∃ B : Nat, min (max b 1) 64 = (B : Int) := ⟨(min (max b 1) 64).toNat, by omega⟩
  obtain ⟨W, hW⟩ : ∃ W : Nat, min (max d 1) 1000 = (W : Int) := ⟨(min (max d 1) 1000).toNat, by omega⟩
  have HBW : Hid ((min (max b 1) 64).toNat = B ∧ (min (max d 1) 1000).toNat = W) := Lib.hid (by omega)
  go_enter Try.func7, Try.ntmps7
  go_wp2_with fail
  go_returns
  rw [HBW.out.1, HBW.out.2]
  have hm := MpS.made w
  have hu : Upd (fun _ => False) (w.alloc (.map #[] 0)) ((w.alloc (.map #[] 0)).alloc (.cells #[.map (some w.heap.size), .int .i64 (B : Int), .int .i64 (W : Int)] 47)) := (Upd.refl _ _).alloc _
  refine ⟨rfl, ⟨?_, hm.upd hu (fun h => h), by simp, by simp, by simp, by simp, by simp, by simp, by simp⟩, ((Upd.refl _ w).alloc _).alloc _⟩
  have := Blk.new (w.alloc (.map #[] 0)) 47 #[.map (some w.heap.size), .int .i64 (B : Int), .int .i64 (W : Int)]
  simpa using this

set_option maxRecDepth 100000 in
theorem noneC (w : World) (g bm : Nat) (v1 v2 : Value) (hb : Blk w g 47 #[.map (some bm), v1, v2]) :
    Calls Try.prog 21 #[.pointer (some ⟨g, 0, none⟩)] w fun e w' => e = .returned (.bool false) ∧ ∃ k, w' = w.drewN k := by
  have c0 : w.cell? ⟨g, 0, none⟩ = some (.map (some bm)) := hb.cell 0
  clear hb
  go_enter Try.func21, Try.ntmps21
  go_wp2_with fail
  go_returns
  exact ⟨rfl, 0, rfl⟩
set_option maxRecDepth 100000 in
theorem noneN (w : World) :
    Calls Try.prog 21 #[.pointer none] w fun e w' => e = .returned (.bool true) ∧ ∃ k, w' = w.drewN k := by
  go_enter Try.func21, Try.ntmps21
  go_wp2_with fail
  go_returns
  exact ⟨rfl, 0, rfl⟩

def addKey (l : List Int) (t : Int) : List Int := if t ∈ l then l else l ++ [t]
set_option maxRecDepth 100000 in
set_option maxHeartbeats 1600000 in
theorem ofC (w : World) (g bm B W : Nat) (ks : KS) (ln : Int → Ln) (ct : Int → List Int) (N : Nat → Prop) (h : TabS w g bm B W ks ln ct N) (hN : ∀ k, N k → k < w.heap.size) (hB : B ≤ 64) (hlen : ks.length ≤ 1000) (t : Int) (hw : (Lit.int .i64 t).wf = true)
    (hz : t ∉ ks.map Prod.fst → ln t = Ln.zero ∧ ct t = List.replicate B 0) :
    Calls Try.prog 22 #[.pointer (some ⟨g, 0, none⟩), .int .i64 t] w fun e w' => ∃ k, e = .returned (.pointer (some ⟨k, 0, none⟩)) ∧ ∃ c ks', (t, k, c) ∈ ks' ∧ TabS w' g bm B W ks' ln ct N ∧ ks'.map Prod.fst = addKey (ks.map Prod.fst) t ∧ Upd (fun q => ¬ N q) w w' := by
  have c0 : w.cell? ⟨g, 0, none⟩ = some (.map (some bm)) := h.b.cell 0
  have c1 : w.cell? ⟨g, 1, none⟩ = some (.int .i64 (B : Int)) := h.b.cell 1
  have H := Lib.hid h; have HN := Lib.hid hN; have HZ := Lib.hid hz; have HL := Lib.hid hlen
  rcases h.m.look h.n1 t hw true with ⟨k, cb, hm, hrun⟩ | ⟨hno, hrun⟩
  · have HM := Lib.hid hm
    clear h hN hz hm hlen
    go_enter Try.func22, Try.ntmps22
    go_wp2_with fail
    go_returns
    exact ⟨k, rfl, cb, ks, HM.out, H.out, by unfold addKey; rw [if_pos (List.mem_map.2 ⟨_, HM.out, rfl⟩)], Upd.refl _ w⟩
  · have hmk := makeI B (by omega) w
    have ua : Upd (fun _ => False) w ((w.alloc (.cells (madeCells #[.int .i64 0] B) 3)).alloc (.cells (encK t Ln.zero w.heap.size B) 62)) := ((Upd.refl _ w).alloc _).alloc _
    obtain ⟨w', hst, hm', hu'⟩ := (h.m.upd ua (fun h => h)).store t hno hw (w.heap.size + 1) w.heap.size (by omega)
    have d0 : (w.alloc (.cells (madeCells #[.int .i64 0] B) 3)).cell? ⟨g, 0, none⟩ = some (.map (some bm)) := (h.b.alloc _).cell 0
    have d1 : ((w.alloc (.cells (madeCells #[.int .i64 0] B) 3)).alloc (.cells (encK t Ln.zero w.heap.size B) 62)).cell? ⟨g, 0, none⟩ = some (.map (some bm)) := ((h.b.alloc _).alloc _).cell 0
    have HNO := Lib.hid hno; have HU := Lib.hid hu'; have UA := Lib.hid ua; have HM := Lib.hid hm'
    have hek : encK t Ln.zero w.heap.size B = #[.int .i64 t, .int .i64 0, .int .i64 0, .int .i64 0, .int .i64 0, .int .i64 0, .int .i64 0, .slice (some ⟨w.heap.size, 0, none⟩) B B] := rfl
    rw [hek] at hst d1
    have HEK := Lib.hid hek
    clear h hN hz hlen hno hu' ua hm' hek
    go_enter Try.func22, Try.ntmps22
    go_wp2_with fail
    go_returns
    obtain ⟨hz1, hz2⟩ := HZ.out HNO.out
    have H0 := H.out
    have hne : ∀ k t cs, Blk w k t cs → ¬ k = bm := fun k t cs hB => H0.m.ne_ hB
    have hB1 : Blk ((w.alloc (.cells (madeCells #[.int .i64 0] B) 3)).alloc (.cells (encK t Ln.zero w.heap.size B) 62)) (w.heap.size + 1) 62 (encK t Ln.zero w.heap.size B) := by
      have := Blk.new (w.alloc (.cells (madeCells #[.int .i64 0] B) 3)) 62 (encK t Ln.zero w.heap.size B)
      simpa using this
    have hC1 : SlR encI ((w.alloc (.cells (madeCells #[.int .i64 0] B) 3)).alloc (.cells (encK t Ln.zero w.heap.size B) 62)) w.heap.size 3 1 (.slice (some ⟨w.heap.size, 0, none⟩) B B) (List.replicate B 0) := (madeZ w B (Nat.le_trans hB (by decide))).alloc _
    have hbm : bm < w.heap.size := H0.m.lt
    refine ⟨_, rfl, w.heap.size, ks ++ [(t, w.heap.size + 1, w.heap.size)], by simp, ⟨?_, HM.out, fun e he => ?_, ?_, ?_, ?_, H0.ng, H0.nm, fun e he => ?_⟩, by unfold addKey; rw [if_neg HNO.out]; simp, ?_⟩
    · exact (H0.b.upd UA.out (fun h => h)).upd HU.out (hne _ _ _ H0.b)
    · rcases List.mem_append.1 he with he | he
      · have h1 := H0.e e he
        obtain ⟨_, _, cur, hcur⟩ := Sl.blk h1.cn _ rfl
        exact (h1.upd UA.out (fun h => h) (fun h => h)).upd HU.out (hne _ _ _ h1.kn) (hne _ _ _ hcur)
      · simp at he
        subst he
        refine EntS.upd ⟨?_, ?_⟩ HU.out (by simp; omega) (by simp; omega)
        · rw [hz1]; exact hB1
        · rw [hz2]; exact hC1
    · rw [List.map_append]
      exact List.nodup_append.2 ⟨H0.n1, by simp, fun a ha b hb e => by simp at hb; subst hb; subst e; exact HNO.out ha⟩
    · rw [List.map_append]
      refine List.nodup_append.2 ⟨H0.n2, by simp, fun a ha b hb e => ?_⟩
      simp at hb; subst hb; subst e
      obtain ⟨e, he, hh⟩ := List.mem_map.1 ha
      have := (H0.e e he).kn.lt
      omega
    · rw [List.map_append]
      refine List.nodup_append.2 ⟨H0.n3, by simp, fun a ha b hb e => ?_⟩
      simp at hb; subst hb; subst e
      obtain ⟨e, he, hh⟩ := List.mem_map.1 ha
      have := (H0.e e he).clt
      omega
    · rcases List.mem_append.1 he with he | he
      · exact H0.nk e he
      · simp at he
        subst he
        exact ⟨fun h => by have := HN.out _ h; simp at this; omega, fun h => by have := HN.out _ h; simp at this⟩
    · exact (UA.out.mono (fun _ _ h => h.elim)).trans (HU.out.mono (fun k _ e => by rw [e]; exact H0.nm))
end Go.Proofs.Ythjebjegedgoeaa
