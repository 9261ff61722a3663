/-
  Stats: a map from tasks to blocks, read and written.
-/
import Derived.Test.YthjebjegedgoeaaStP
import Derived.Test.YthjebjegedgoeaaStS
import Derived.Test.YthjebjegedgoeaaInts
import Derived.Maps.Own
import Derived.Maps.Views
namespace Go.Proofs.Ythjebjegedgoeaa
open Go.RowKit Go.Maps

/-- How a pointer in the map reads. -/
def RP : Value → Option (DataW Unit × List MemPlace)
  | .pointer (some ⟨b, 0, none⟩) => some (.lit (.int .i64 (b : Int)), [])
  | .pointer none => some (.lit (.bool false), [])
  | _ => none
theorem RP_inv {v : Value} {k : Nat} {ps : List MemPlace} (h : RP v = some (.lit (.int .i64 (k : Int)), ps)) : v = .pointer (some ⟨k, 0, none⟩) := by
  unfold RP at h
  split at h
  · rename_i b
    simp at h
    have hb : b = k := by omega
    rw [hb]
  · simp at h
  · cases h
/-- The tasks that are known: each with its block, and its buckets' block. -/
abbrev KS := List (Int × Nat × Nat)
def entE (e : Int × Nat × Nat) : Lit × DataW Unit := (.int .i64 e.1, .lit (.int .i64 (e.2.1 : Int)))
def MpS (w : World) (bm : Nat) (ks : KS) : Prop := ∃ L, w.ownsMap Try.prog 3 RP bm ks.length (.map L) ∧ L.Perm (ks.map entE)
theorem intK : Keyed Try.prog 3 := int_keyed Try.underlying3
section
variable {w w' : World} {bm : Nat} {ks : KS} {S : Nat → Prop}
theorem MpS.lt (h : MpS w bm ks) : bm < w.heap.size := by obtain ⟨L, h, _⟩ := h; exact h.lt
theorem MpS.upd (h : MpS w bm ks) (hu : Upd S w w') (hS : ¬ S bm) : MpS w' bm ks := by
  have hlt := h.lt
  obtain ⟨L, ⟨es, clock, hb, r⟩, hp⟩ := h
  exact ⟨L, ⟨es, clock, (hu.block bm hlt hS).trans hb, r⟩, hp⟩
theorem MpS.ne_ (h : MpS w bm ks) {g : Nat} {t : TypeId} {cs : Array Value} (hB : Blk w g t cs) : g ≠ bm := by
  rintro rfl
  obtain ⟨L, ⟨es, clock, hb, r⟩, hp⟩ := h
  unfold Blk at hB
  rw [hB] at hb
  cases hb
theorem MpS.made (w : World) : MpS (w.alloc (.map #[] 0)) w.heap.size [] := ⟨[], World.ownsMap_made w _ _ _, List.Perm.refl _⟩
theorem MpS.apart {L : List (Lit × DataW Unit)} (hp : L.Perm (ks.map entE)) (hn : (ks.map Prod.fst).Nodup) : L.Pairwise (fun p q => p.1 ≠ q.1) := by
  refine (hp.symm.pairwise_iff (fun {a b} (h : a.1 ≠ b.1) => h.symm)).1 ?_
  refine List.pairwise_map.2 ((List.pairwise_map.1 hn).imp (fun {a b} hne e => hne ?_))
  simp [entE] at e
  exact e
theorem MpS.look (h : MpS w bm ks) (hn : (ks.map Prod.fst).Nodup) (t : Int) (hw : (Lit.int .i64 t).wf = true) (c : Bool) :
    (∃ k cb, (t, k, cb) ∈ ks ∧ (Instr.lookup 45 (.map (some bm)) (.int .i64 t) c).run Try.prog w = .ok (if c then .tuple #[.pointer (some ⟨k, 0, none⟩), .bool true] else .pointer (some ⟨k, 0, none⟩)) w) ∨
    (t ∉ ks.map Prod.fst ∧ (Instr.lookup 45 (.map (some bm)) (.int .i64 t) c).run Try.prog w = .ok (if c then .tuple #[.pointer none, .bool false] else .pointer none) w) := by
  obtain ⟨L, ⟨es, clock, hb, F, hs, hD⟩, hp⟩ := h
  have hkey : keyOf Try.prog 3 (.int .i64 t) = some (.int .i64 t) := keyOf_int_mk Try.underlying3 hw
  have hz : (zeroValue 59).run Try.prog w = .ok (.pointer none) w := Try.zeroValue59 w
  have hap := MpS.apart hp hn
  have hL : ∀ e ∈ ks, entE e ∈ L := fun e he => hp.mem_iff.2 (List.mem_map.2 ⟨e, he, rfl⟩)
  rcases fit_look c intK Try.underlying45 hz hb F hkey with ⟨hrun, _, hat⟩ | ⟨e0, y, _, _, hrun, hRv, hat, _⟩
  · refine .inr ⟨fun ht => ?_, hrun⟩
    obtain ⟨e, he, rfl⟩ := List.mem_map.1 ht
    rw [← hD] at hat
    have h1 := hat .nil
    rw [WideAt.atKey_mem .nil (intK.key hkey) hap (hL e he)] at h1
    cases h1
  · rw [← hD] at hat
    by_cases ht : t ∈ ks.map Prod.fst
    · obtain ⟨⟨t', k, cb⟩, he, rfl⟩ := List.mem_map.1 ht
      have h1 := hat .nil
      rw [WideAt.atKey_mem .nil (intK.key hkey) hap (hL _ he)] at h1
      have h2 : RP e0.val = some (.lit (.int .i64 (k : Int)), y.2) := by rw [hRv, h1]
      exact .inl ⟨k, cb, he, by rw [hrun, RP_inv h2]⟩
    · exfalso
      have hno : ∀ p ∈ L, p.1 ≠ .int .i64 t := fun p hp' e => by
        obtain ⟨q, hq, rfl⟩ := List.mem_map.1 (hp.mem_iff.1 hp')
        simp [entE] at e
        exact ht (List.mem_map.2 ⟨q, hq, e⟩)
      have h1 := hat .nil
      have h2 := hat (.lit (.bool false))
      rw [WideAt.atKey_none _ hno] at h1 h2
      rw [← h2] at h1
      cases h1
theorem MpS.store (h : MpS w bm ks) (t : Int) (ht : t ∉ ks.map Prod.fst) (hw : (Lit.int .i64 t).wf = true) (k cb : Nat) (hlen : ks.length ≤ 100000) :
    ∃ w', (Instr.mapUpdate 45 (.map (some bm)) (.int .i64 t) (.pointer (some ⟨k, 0, none⟩))).run Try.prog w = .ok () w' ∧ MpS w' bm (ks ++ [(t, k, cb)]) ∧ Upd (fun q => q = bm) w w' := by
  obtain ⟨L, ho, hp⟩ := h
  have hkey : keyOf Try.prog 3 (.int .i64 t) = some (.int .i64 t) := keyOf_int_mk Try.underlying3 hw
  have hRP : RP (.pointer (some ⟨k, 0, none⟩)) = some (.lit (.int .i64 (k : Int)), []) := rfl
  obtain ⟨w', hrun, ho', hg⟩ := ho.update intK Try.underlying45 (Nat.lt_of_le_of_lt hlen (by decide)) hkey hRP
  refine ⟨w', hrun, ⟨_, by rw [List.length_append]; exact ho', ?_⟩, (Upd.refl _ w).grown hg (fun q hq _ => (Option.some.inj hq).symm)⟩
  have hno : ∀ p ∈ L, p.1 ≠ .int .i64 t := fun p hp' e => by
    obtain ⟨q, hq, rfl⟩ := List.mem_map.1 (hp.mem_iff.1 hp')
    simp [entE] at e
    exact ht (List.mem_map.2 ⟨q, hq, e⟩)
  have hf : L.filter (ChangeMaps.notKey (.int .i64 t)) = L := List.filter_eq_self.2 (fun p hp' => (notKey_iff (intK.key hkey)).2 (hno p hp'))
  change (DataW.insert (Lit.int IntKind.i64 t, DataW.lit (Lit.int IntKind.i64 (k : Int))) (L.filter (ChangeMaps.notKey (.int .i64 t)))).Perm _
  rw [hf]
  refine (WideShapes.insert_perm _ _).trans ?_
  rw [List.map_append]
  exact ((hp.cons _).trans (List.perm_append_comm (l₁ := [entE (t, k, cb)])))
theorem MpS.keys {L : List (Lit × DataW Unit)} (hp : L.Perm (ks.map entE)) : (intKeys (.map L)).Perm (ks.map Prod.fst) := by
  have := hp.map (fun p => Go.intOf p.1)
  rw [List.map_map] at this
  exact this
end
end Go.Proofs.Ythjebjegedgoeaa
