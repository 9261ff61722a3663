/-
  The wheel: rows rewritten in place; Cancel.
-/
import Derived.Test.YtcljgejalacccaaWhC
import Derived.Test.YtcljgejalacccaaWhS
namespace Go.Proofs.Ytcljgejalacccaa
open Go.RowKit Go.Sort
attribute [local go_sem] max_ints min_ints

theorem Upd.putRow {α : Type} [Inhabited α] (enc : α → Value) (w : World) (n blk off : Nat) (d : Array α) : Upd (fun k => k = blk) w (putRow enc (Sort.ahead w n) blk off d) :=
  ⟨rfl, rfl, rfl, by simp [Sort.putRow, mapBlock], fun k _ hk => by
    show (w.heap.modify blk (onCells (putCells enc off d)))[k]? = w.heap[k]?
    rw [Array.getElem?_modify, if_neg (fun e => hk e.symm)]⟩
theorem Upd.grow {S : Nat → Prop} {w w' : World} (h : Upd S w w') (os : Array Obj) : Upd S w (Sort.grow w' os) :=
  ⟨h.os, h.tape, h.output, by show w.heap.size ≤ (w'.heap ++ os).size; rw [Array.size_append]; have := h.size; omega, fun k hk hn => by
    rw [← h.block k hk hn]
    exact Sort.heap_grow_old w' os (Nat.lt_of_lt_of_le hk h.size)⟩
theorem Blk.putRow {α : Type} [Inhabited α] {enc : α → Value} {w : World} {blk : Nat} {t : TypeId} {cur : Array Value} (h : Blk w blk t cur) (n off : Nat) (d : Array α) : Blk (Sort.putRow enc (Sort.ahead w n) blk off d) blk t (putCells enc off d cur) := by
  unfold Blk at h ⊢
  show (w.heap.modify blk (onCells (putCells enc off d)))[blk]? = _
  rw [Array.getElem?_modify, if_pos rfl, h]
  rfl
/-- A row that is rewritten, and cut. -/
theorem Sl.putRow {α : Type} [Inhabited α] {enc : α → Value} {w : World} {base n m b off cap : Nat} {t : TypeId} {xs ys : List Value} (h : Sl w base t 1 (.slice (some ⟨b, off, none⟩) n cap) n xs) (q : Nat) (d : Array α) (hd : d.size = n) (hm : m ≤ n) (hy : ys.length = m)
    (he : ∀ (j : Nat) (u : Value), ys[j]? = some u → enc d[j]! = u) : Sl (Sort.putRow enc (Sort.ahead w q) b off d) base t 1 (.slice (some ⟨b, off, none⟩) m cap) m ys := by
  obtain ⟨_, h1, h2, h3, cur, h4, h5, h6⟩ := h.parts
  refine ⟨by omega, .inr ⟨b, off, cap, _, rfl, h1, h4.putRow q off d, by omega, h3, by simpa [putCells] using h5, fun j u hu => ?_⟩⟩
  have hj : j < m := by have := (List.getElem?_eq_some_iff.1 hu).1; omega
  have hlt : off + j < cur.size := by omega
  simp only [putCells, Array.getElem?_mapIdx, Array.getElem?_eq_getElem hlt, Option.map_some]
  rw [if_pos (by omega), Nat.add_sub_cancel_left, he j u hu]
theorem Sl.holds {α : Type} [Inhabited α] {enc : α → Value} {w : World} {base b off cap : Nat} {t : TypeId} {l : List α} (h : Sl w base t 1 (.slice (some ⟨b, off, none⟩) l.length cap) l.length (l.map enc)) : Holds enc w b off l.toArray := fun j hj => by
  have hj' : j < l.length := by simpa using hj
  refine ⟨h.cell j _ ?_, h.frozen (off + j)⟩
  rw [List.getElem?_map, List.getElem?_eq_getElem hj', Option.map_some, getElem!_pos l.toArray j hj]
  simp
def encV (i : Nat) : Value := .int .i64 (i : Int)
theorem rws_map : ∀ (l : List Nat), rws encN l = l.map encV
  | [] => rfl
  | x :: t => by
    have := rws_map t
    simp only [rws, List.flatMap_cons, List.map_cons] at *
    rw [this]; rfl

theorem nodup_len {l : List Nat} (hn : l.Nodup) (n : Nat) (h : ∀ i ∈ l, i < n) : l.length ≤ n := by
  have hp : l.Perm ((List.range n).filter (fun i => decide (i ∈ l))) := by
    refine (List.perm_ext_iff_of_nodup hn (List.nodup_range.filter _)).2 (fun i => ?_)
    simp only [List.mem_filter, List.mem_range, decide_eq_true_eq]
    exact ⟨fun hi => ⟨h i hi, hi⟩, fun hi => hi.2⟩
  rw [hp.length_eq]
  exact Nat.le_trans (List.length_filter_le _ _) (by simp)
theorem Inv.len {now : Nat} {at_ : Nat → Int} {sl : Nat → List Nat} (h : Inv now at_ sl) (j : Nat) (hj : j < 256) : (sl j).length ≤ 256 := nodup_len (h.n j hj) 256 (fun i hi => ((h.m j hj i).1 hi).1)

/-- The closure of Cancel. -/
theorem gives (W : World) (B id x : Nat) (hc : W.cell? ⟨B, 0, none⟩ = some (.int .i64 (id : Int))) :
    FnGives Try.prog 27 #[.pointer (some ⟨B, 0, none⟩)] #[encV x] (.bool (decide (x = id))) W := by
  show Calls Try.prog 27 #[.int .i64 (x : Int), .pointer (some ⟨B, 0, none⟩)] W _
  by_cases h : x = id
  · have e1 : ((x : Int) == (id : Int)) = true := by rw [h]; simp
    have HE : Hid (decide (x = id) = true) := Lib.hid (decide_eq_true h)
    clear h
    go_enter Try.func27, Try.ntmps27
    go_wp2_with fail
    go_returns
    rw [HE.out]
    exact ⟨by simp_all, 0, rfl⟩
  · have e1 : ((x : Int) == (id : Int)) = false := beq_eq_false_iff_ne.2 (by omega)
    have HE : Hid (decide (x = id) = false) := Lib.hid (decide_eq_false h)
    have hx : ¬ ((x : Int) = (id : Int)) := by omega
    clear h
    go_enter Try.func27, Try.ntmps27
    go_wp2_with fail
    go_returns
    rw [HE.out]
    exact ⟨by simp_all, 0, rfl⟩
/-- slices.DeleteFunc of one number. -/
theorem deleteC (w : World) (B id : Nat) (hB : B < w.heap.size) (hc : w.cell? ⟨B, 0, none⟩ = some (.int .i64 (id : Int))) (b off cap : Nat) (l : List Nat) (hs : SlR encN w 0 3 1 (.slice (some ⟨b, off, none⟩) l.length cap) l) (hne : B ≠ b) (hl : l.length ≤ 1000) :
    Calls Try.prog 26 #[.slice (some ⟨b, off, none⟩) l.length cap, .func (.func 27) #[] #[.pointer (some ⟨B, 0, none⟩)]] w fun e w' => e = .returned (.slice (some ⟨b, off, none⟩) (l.filter (fun x => !decide (x = id))).length cap) ∧
      SlR encN w' 0 3 1 (.slice (some ⟨b, off, none⟩) (l.filter (fun x => !decide (x = id))).length cap) (l.filter (fun x => !decide (x = id))) ∧ Upd (fun k => k = b) w w' := by
  have hs' : Sl w 0 3 1 (.slice (some ⟨b, off, none⟩) l.length cap) l.length (l.map encV) := by unfold SlR at hs; rwa [rws_map] at hs
  obtain ⟨_, _, hcap, _⟩ := hs'.parts
  have eg : ∀ args w, (callFunc 27 args).run Try.prog w = .ok (.enter 27 args) w := enters_of Try.func27 (by kernel_rfl) rfl
  have hcon := AnyE.slices_DeleteFunc l26 encV (fun _ => rfl) (fun x => decide (x = id)) 27 #[.pointer (some ⟨B, 0, none⟩)] eg 0 Try.zeroValue3 b off cap l.toArray w
    (fun W x hb => gives W B id x ((hb.cell (p := ⟨B, 0, none⟩) hB).trans hc))
    (fun n os dk x _ => gives _ B id x (by
      unfold sortWorld
      rw [cell?_grow _ _ _ (by show B < (Sort.putRow _ _ _ _ _).heap.size; rw [size_putRow]; exact hB), cell?_putRow_other _ _ b off _ _ (Or.inl hne)]
      exact hc))
    hs'.holds (by simp; omega) (by simpa using hcap)
  simp only [List.size_toArray] at hcon
  refine Calls.mono (show Calls Try.prog 26 _ _ _ from hcon) ?_
  rintro e w' ⟨rfl, q, rfl⟩
  refine ⟨rfl, ?_, Upd.putRow _ _ _ _ _ _⟩
  unfold SlR
  rw [rws_map]
  refine hs'.putRow q _ ?_ (List.length_filter_le _ _) (by simp) (fun j u hu => ?_)
  · simp only [List.size_toArray, List.length_append, List.length_replicate]
    have := List.length_filter_le (fun x => !decide (x = id)) l
    omega
  · have hj := (List.getElem?_eq_some_iff.1 hu).1
    rw [List.length_map] at hj
    rw [List.getElem?_map, List.getElem?_eq_getElem hj] at hu
    injection hu with hu
    rw [← hu, getElem!_pos _ j (by simp; omega)]
    simp [List.getElem_append_left, hj]
end Go.Proofs.Ytcljgejalacccaa
