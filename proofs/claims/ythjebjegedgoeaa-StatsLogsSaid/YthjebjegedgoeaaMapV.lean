/-
  A map with keys that are ints, of values of any kind: as a list of its entries, in any order; looked at, written, struck, ranged over. No program in sight but its int type.
-/
import Derived.Test.YthjebjegedgoeaaLib
import Derived.Maps.Own
import Derived.Maps.OwnSet
import Derived.Maps.Views
import Derived.Maps.Range
import Derived.Maps.RangeWalk
namespace Go.Proofs.Ythjebjegedgoeaa
open Go.RowKit Go.Maps

def RV (v : Value) : Option (DataW Value × List MemPlace) := some (.held v, [])
abbrev EsV := List (Int × Value)
def entV (e : Int × Value) : Lit × DataW Value := (.int .i64 e.1, .held e.2)
def lkV (es : EsV) (z : Value) (t : Int) : Value := match es.find? (fun e => e.1 == t) with | some e => e.2 | none => z
def cutV (es : EsV) (t : Int) : EsV := es.filter (fun e => e.1 != t)
def putV (es : EsV) (t : Int) (v : Value) : EsV := cutV es t ++ [(t, v)]
def MpV (w : World) (b n : Nat) (es : EsV) : Prop := ∃ L, w.ownsMap Try.prog 3 RV b n (.map L) ∧ L.Perm (es.map entV)
def RgV (w : World) (b r n : Nat) (es : EsV) (left : Lit → Bool) (cnt : Nat) : Prop := ∃ L, w.ranges Try.prog 3 RV b r n (.map L) left cnt ∧ L.Perm (es.map entV)
theorem intKV : Keyed Try.prog 3 := int_keyed Try.underlying3

theorem cutV_mem (es : EsV) (t : Int) (e : Int × Value) : e ∈ cutV es t ↔ e ∈ es ∧ e.1 ≠ t := by simp [cutV]
theorem putV_mem (es : EsV) (t : Int) (v : Value) (e : Int × Value) : e ∈ putV es t v ↔ (e ∈ es ∧ e.1 ≠ t) ∨ e = (t, v) := by
  unfold putV
  rw [List.mem_append, cutV_mem, List.mem_singleton]
theorem cutV_nodup {es : EsV} (h : (es.map Prod.fst).Nodup) (t : Int) : ((cutV es t).map Prod.fst).Nodup := h.sublist (List.Sublist.map _ List.filter_sublist)
theorem putV_nodup {es : EsV} (h : (es.map Prod.fst).Nodup) (t : Int) (v : Value) : ((putV es t v).map Prod.fst).Nodup := by
  unfold putV
  rw [List.map_append]
  refine List.nodup_append.2 ⟨cutV_nodup h t, by simp, fun a ha b hb e => ?_⟩
  simp at hb
  subst hb; subst e
  obtain ⟨x, hx, hh⟩ := List.mem_map.1 ha
  exact ((cutV_mem es _ x).1 hx).2 hh
theorem lkV_mem {es : EsV} (hn : (es.map Prod.fst).Nodup) {t : Int} {v : Value} (h : (t, v) ∈ es) (z : Value) : lkV es z t = v := by
  unfold lkV
  cases hf : es.find? (fun e => e.1 == t) with
  | none => exact absurd (by simp) (List.find?_eq_none.1 hf _ h)
  | some e =>
    have h1 := List.mem_of_find?_eq_some hf
    have h2 : e.1 = t := by simpa using List.find?_some hf
    obtain ⟨a, b⟩ := e
    dsimp only at h2
    subst h2
    have : (a, b) = (a, v) := by
      clear hf
      induction es with
      | nil => cases h
      | cons x r ih =>
        rw [List.map_cons, List.nodup_cons] at hn
        rcases List.mem_cons.1 h1 with e1 | e1 <;> rcases List.mem_cons.1 h with e2 | e2
        · rw [e1, e2]
        · exact absurd (List.mem_map.2 ⟨_, e2, by rw [← e1]⟩) hn.1
        · exact absurd (List.mem_map.2 ⟨_, e1, by rw [← e2]⟩) hn.1
        · exact ih hn.2 (by assumption) (by assumption)
    injection this
theorem lkV_none {es : EsV} {t : Int} (h : t ∉ es.map Prod.fst) (z : Value) : lkV es z t = z := by
  unfold lkV
  rw [List.find?_eq_none.2 (fun e he ht => h (List.mem_map.2 ⟨e, he, by simpa using ht⟩))]
theorem apartV {es : EsV} {L : List (Lit × DataW Value)} (hp : L.Perm (es.map entV)) (hn : (es.map Prod.fst).Nodup) : L.Pairwise (fun p q => p.1 ≠ q.1) := by
  refine (hp.symm.pairwise_iff (fun {a b} (h : a.1 ≠ b.1) => h.symm)).1 ?_
  refine List.pairwise_map.2 ((List.pairwise_map.1 hn).imp (fun {a b} hne e => hne ?_))
  simp [entV] at e
  exact e
theorem keyV {t : Int} (hw : (Lit.int .i64 t).wf = true) : keyOf Try.prog 3 (.int .i64 t) = some (.int .i64 t) := keyOf_int_mk Try.underlying3 hw
theorem notKeyV {es : EsV} {L : List (Lit × DataW Value)} (hp : L.Perm (es.map entV)) {t : Int} (hw : (Lit.int .i64 t).wf = true) : (L.filter (ChangeMaps.notKey (.int .i64 t))).Perm ((cutV es t).map entV) := by
  refine (hp.filter _).trans ?_
  rw [List.filter_map]
  have : List.filter (ChangeMaps.notKey (.int .i64 t) ∘ entV) es = cutV es t := by
    unfold cutV
    refine List.filter_congr (fun e _ => ?_)
    have h := notKey_iff (p := entV e) (intKV.key (keyV hw))
    by_cases he : e.1 = t
    · have h1 : ¬ ((entV e).1 ≠ .int .i64 t) := fun hh => hh (by simp [entV, he])
      have h2 : ChangeMaps.notKey (.int .i64 t) (entV e) = false := by
        cases hb : ChangeMaps.notKey (.int .i64 t) (entV e) with
        | false => rfl
        | true => exact absurd (h.1 hb) h1
      show ChangeMaps.notKey (.int .i64 t) (entV e) = (e.1 != t)
      rw [h2]; simp [he]
    · have h1 : (entV e).1 ≠ .int .i64 t := by simp [entV, he]
      show ChangeMaps.notKey (.int .i64 t) (entV e) = (e.1 != t)
      rw [h.2 h1]; simp [he]
  rw [this]
section
variable {w w' : World} {b r n cnt : Nat} {es : EsV} {left : Lit → Bool} {S : Nat → Prop}
theorem MpV.lt (h : MpV w b n es) : b < w.heap.size := by obtain ⟨L, h, _⟩ := h; exact h.lt
theorem MpV.upd (h : MpV w b n es) (hu : Upd S w w') (hS : ¬ S b) : MpV w' b n es := by
  have hlt := h.lt
  obtain ⟨L, ⟨es, clock, hb, r⟩, hp⟩ := h
  exact ⟨L, ⟨es, clock, (hu.block b hlt hS).trans hb, r⟩, hp⟩
theorem MpV.ne_ (h : MpV w b n es) {g : Nat} {t : TypeId} {cs : Array Value} (hB : Blk w g t cs) : g ≠ b := by
  rintro rfl
  obtain ⟨L, ⟨es, clock, hb, r⟩, hp⟩ := h
  unfold Blk at hB
  rw [hB] at hb
  cases hb
theorem MpV.made (w : World) : MpV (w.alloc (.map #[] 0)) w.heap.size 0 [] := ⟨[], World.ownsMap_made w _ _ _, List.Perm.refl _⟩
theorem RgV.owns (h : RgV w b r n es left cnt) : MpV w b n es := by obtain ⟨L, h, hp⟩ := h; exact ⟨L, h.owns, hp⟩
theorem RgV.rlt (h : RgV w b r n es left cnt) : r < w.heap.size := by obtain ⟨L, h, _⟩ := h; exact h.lt
theorem RgV.rne (h : RgV w b r n es left cnt) : r ≠ b := by obtain ⟨L, h, _⟩ := h; exact h.ne
theorem RgV.rne_ (h : RgV w b r n es left cnt) {g : Nat} {t : TypeId} {cs : Array Value} (hB : Blk w g t cs) : g ≠ r := by
  rintro rfl
  obtain ⟨L, ⟨es, clock, since, seen, c0, hb, _, _, _, hr, _⟩, hp⟩ := h
  unfold Blk at hB
  rw [hB] at hr
  cases hr
theorem RgV.upd (h : RgV w b r n es left cnt) (hu : Upd S w w') (h1 : ¬ S b) (h2 : ¬ S r) : RgV w' b r n es left cnt := by
  have e1 := h.owns.lt
  have e2 := h.rlt
  obtain ⟨L, ⟨es, clock, since, seen, c0, hb, F, hs, hD, hr, rest⟩, hp⟩ := h
  exact ⟨L, ⟨es, clock, since, seen, c0, (hu.block b e1 h1).trans hb, F, hs, hD, (hu.block r e2 h2).trans hr, rest⟩, hp⟩
theorem RgV.left_eq (h : RgV w b r n es left cnt) : w.rangeLeft b r = cnt := by obtain ⟨L, h, _⟩ := h; exact h.left_eq

theorem MpV.atKey {L : List (Lit × DataW Value)} (hp : L.Perm (es.map entV)) (hn : (es.map Prod.fst).Nodup) {t : Int} (hw : (Lit.int .i64 t).wf = true) (z : Value) : (DataW.map L).atKey (.int .i64 t) (.held z) = .held (lkV es z t) := by
  have hap := apartV hp hn
  by_cases ht : t ∈ es.map Prod.fst
  · obtain ⟨⟨t', v⟩, he, rfl⟩ := List.mem_map.1 ht
    rw [WideAt.atKey_mem _ (intKV.key (keyV hw)) hap (hp.mem_iff.2 (List.mem_map.2 ⟨_, he, rfl⟩)), lkV_mem hn he]
  · rw [WideAt.atKey_none _ (fun p hp' e => by
      obtain ⟨q, hq, rfl⟩ := List.mem_map.1 (hp.mem_iff.1 hp')
      simp [entV] at e
      exact ht (List.mem_map.2 ⟨q, hq, e⟩)), lkV_none ht]
/-- 'm[k]'. -/
theorem MpV.look {T E : TypeId} {z : Value} (h : MpV w b n es) (ht : Try.prog.underlying T = some (.map 3 E)) (hz : (zeroValue E).run Try.prog w = .ok z w) (hn : (es.map Prod.fst).Nodup) (t : Int) (hw : (Lit.int .i64 t).wf = true) :
    (Instr.lookup T (.map (some b)) (.int .i64 t) false).run Try.prog w = .ok (lkV es z t) w := by
  obtain ⟨L, ho, hp⟩ := h
  obtain ⟨v, ps, hrun, hR⟩ := ho.lookup intKV ht hz (zd := .held z) (zp := []) rfl (keyV hw)
  rw [MpV.atKey hp hn hw] at hR
  unfold RV at hR
  simp at hR
  rw [hrun, hR.1]
/-- 'm[k] = v'. -/
theorem MpV.put {T E : TypeId} (h : MpV w b n es) (ht : Try.prog.underlying T = some (.map 3 E)) (hn : n < maxLen) (t : Int) (hw : (Lit.int .i64 t).wf = true) (v : Value) :
    ∃ w', (Instr.mapUpdate T (.map (some b)) (.int .i64 t) v).run Try.prog w = .ok () w' ∧ MpV w' b (n + 1) (putV es t v) ∧ Upd (fun q => q = b) w w' := by
  obtain ⟨L, ho, hp⟩ := h
  obtain ⟨w', hrun, ho', hg⟩ := ho.update intKV ht hn (keyV hw) (val := v) (d := .held v) (ps := []) rfl
  refine ⟨w', hrun, ⟨_, ho', ?_⟩, (Upd.refl _ w).grown hg (fun q hq _ => (Option.some.inj hq).symm)⟩
  change (DataW.insert (Lit.int IntKind.i64 t, DataW.held v) (L.filter (ChangeMaps.notKey (.int .i64 t)))).Perm _
  refine (WideShapes.insert_perm _ _).trans ?_
  unfold putV
  rw [List.map_append]
  exact ((notKeyV hp hw).cons _).trans (List.perm_append_comm (l₁ := [entV (t, v)]))
/-- 'delete(m, k)'. -/
theorem MpV.drop {T E : TypeId} (h : MpV w b n es) (ht : Try.prog.underlying T = some (.map 3 E)) (t : Int) (hw : (Lit.int .i64 t).wf = true) (ty : TypeId) :
    ∃ w', (Builtin.delete_ #[T, 3] ty #[.map (some b), .int .i64 t]).run Try.prog w = .ok (.tuple #[]) w' ∧ MpV w' b n (cutV es t) ∧ Upd (fun q => q = b) w w' := by
  obtain ⟨L, ho, hp⟩ := h
  obtain ⟨w', hrun, hr, hg⟩ := ho.drop intKV ht (keyV hw) ty
  exact ⟨w', hrun, ⟨L.filter (ChangeMaps.notKey (.int .i64 t)), hr, notKeyV hp hw⟩, (Upd.refl _ w).grown hg.grown (fun q hq _ => (Option.some.inj hq).symm)⟩
/-- 'range m'. -/
theorem MpV.range {T E : TypeId} (h : MpV w b n es) (ht : Try.prog.underlying T = some (.map 3 E)) :
    ∃ w' left cnt, (Instr.range T (.map (some b))).run Try.prog w = .ok (.pointer (some ⟨w.heap.size, 0, none⟩)) w' ∧ RgV w' b w.heap.size n es left cnt ∧ (∀ e ∈ es, left (.int .i64 e.1) = true) ∧ Upd (fun _ => False) w w' := by
  obtain ⟨L, ho, hp⟩ := h
  obtain ⟨w', hrun, hr, hg, _⟩ := ho.range intKV ht
  refine ⟨w', _, _, hrun, ⟨L, hr, hp⟩, fun e he => ?_, (Upd.refl _ w).grown hg (fun q hq => by cases hq)⟩
  exact List.any_eq_true.2 ⟨entV e, hp.mem_iff.2 (List.mem_map.2 ⟨e, he, rfl⟩), by simp [entV, Lit.sameKey]⟩
/-- The next one. -/
theorem RgV.next (h : RgV w b r n es left cnt) (hn : (es.map Prod.fst).Nodup) (ty : TypeId) :
    (cnt = 0 ∧ (∀ kl, left kl = false) ∧ (Instr.next (.pointer (some ⟨r, 0, none⟩)) false ty).run Try.prog w = .ok (.tuple #[.bool false]) w) ∨
    ∃ t v w' cnt', (t, v) ∈ es ∧ (Lit.int .i64 t).wf = true ∧ left (.int .i64 t) = true ∧ (Instr.next (.pointer (some ⟨r, 0, none⟩)) false ty).run Try.prog w = .ok (.tuple #[.bool true, .int .i64 t, v]) w' ∧
      RgV w' b r n es (fun x => left x && !x.sameKey (.int .i64 t)) cnt' ∧ cnt' < cnt ∧ Upd (fun q => q = r) w w' ∧ (Instr.entry (.pointer (some ⟨r, 0, none⟩))).run Try.prog w' = .ok (.tuple #[.int .i64 t, v]) w' := by
  obtain ⟨L, ho, hp⟩ := h
  rcases ho.next intKV ty with ⟨h0, hl, hrun⟩ | ⟨key, v, kl, y, w', cnt', hkey, hlk, hRv, hat, hrun, hr, hlt, hg, _, hen⟩
  · exact .inl ⟨h0, hl, hrun⟩
  · obtain ⟨t, rfl, rfl, hw⟩ := Maps.keyOf_int_inv Try.underlying3 hkey
    refine .inr ⟨t, v, w', cnt', ?_, hw, hlk, hrun, ⟨L, hr, hp⟩, hlt, (Upd.refl _ w).grown hg (fun q hq _ => (Option.some.inj hq).symm), hen⟩
    unfold RV at hRv
    obtain rfl : (DataW.held v, ([] : List MemPlace)) = y := Option.some.inj hRv
    have hy : (DataW.held v, ([] : List MemPlace)).1 = .held v := rfl
    have h1 := hat (.held (.bool true))
    have h2 := hat (.held (.bool false))
    rw [MpV.atKey hp hn hw, hy] at h1 h2
    injection h1 with h1
    injection h2 with h2
    by_cases ht : t ∈ es.map Prod.fst
    · obtain ⟨⟨t', u⟩, he, rfl⟩ := List.mem_map.1 ht
      rw [lkV_mem hn he] at h1
      rw [← h1]
      exact he
    · rw [lkV_none ht] at h1 h2
      rw [← h2] at h1
      cases h1
/-- 'delete(m, k)' on the way. -/
theorem RgV.drop {T E : TypeId} (h : RgV w b r n es left cnt) (ht : Try.prog.underlying T = some (.map 3 E)) (t : Int) (hw : (Lit.int .i64 t).wf = true) (ty : TypeId) :
    ∃ w' cnt', (Builtin.delete_ #[T, 3] ty #[.map (some b), .int .i64 t]).run Try.prog w = .ok (.tuple #[]) w' ∧ RgV w' b r n (cutV es t) (fun x => left x && !x.sameKey (.int .i64 t)) cnt' ∧ cnt' ≤ cnt ∧ Upd (fun q => q = b) w w' := by
  obtain ⟨L, ho, hp⟩ := h
  obtain ⟨w', cnt', hrun, hr, hle, hg⟩ := ho.drop intKV ht (keyV hw) ty
  refine ⟨w', cnt', hrun, ⟨L.filter (ChangeMaps.notKey (.int .i64 t)), hr, notKeyV hp hw⟩, hle, (Upd.refl _ w).grown hg.grown (fun q hq _ => (Option.some.inj hq).symm)⟩
end
end Go.Proofs.Ythjebjegedgoeaa
