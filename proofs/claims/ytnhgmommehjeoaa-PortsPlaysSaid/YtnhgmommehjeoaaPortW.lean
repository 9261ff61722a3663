/-
  Write, Read, Waiting of both sides, the cases put together. (Written by portx.py.)
-/
import Derived.Test.YtnhgmommehjeoaaPortV
namespace Go.Proofs.Ytnhgmommehjeoaa
open Go.RowKit

def OKm (i : Nat) (m : PM) : Prop := 0 ≤ m.lost ∧ m.lost ≤ i ∧ (m.c.q = false → m.lost = 0) ∧ m.xs.length ≤ i + 1
theorem OKm.mono {i j : Nat} {m : PM} (h : OKm i m) (hij : i ≤ j) : OKm j m := ⟨h.1, by have := h.2.1; omega, h.2.2.1, by have := h.2.2.2; omega⟩
theorem OKm.new (c : Ch) : OKm 0 (PM.new c) := ⟨Int.le_refl _, Int.le_refl _, fun _ => rfl, Nat.zero_le _⟩
theorem OKm.put {i : Nat} {m : PM} (h : OKm i m) (v now : Int) : OKm (i + 1) (m.put v now) := by
  obtain ⟨h1, h2, h3, h4⟩ := h
  unfold PM.put
  split
  · rename_i hq
    have h3' : m.c.q = false → ∀ x : Int, x = 0 := fun hq' => by rw [hq] at hq'; cases hq'
    refine ⟨?_, ?_, fun hq' => h3' hq' _, ?_⟩
    · simp only; split <;> omega
    · simp only; split <;> omega
    · simp only [pushL]; split
      · simp; omega
      · omega
  · exact ⟨h1, by simp only; omega, h3, by simp⟩
theorem OKm.got {i : Nat} {m : PM} (h : OKm i m) : OKm (i + 1) m.got := by
  obtain ⟨h1, h2, h3, h4⟩ := h
  unfold PM.got
  split
  · rename_i hq
    have h3' : m.c.q = false → ∀ x : Int, x = 0 := fun hq' => by rw [hq] at hq'; cases hq'
    refine ⟨?_, ?_, fun hq' => h3' hq' _, ?_⟩
    · simp only; split <;> omega
    · simp only; split <;> omega
    · simp; omega
  · exact ⟨h1, by omega, h3, by omega⟩
theorem OKm.clr {i : Nat} {m : PM} (h : OKm i m) (part : Int) : OKm (i + 1) (m.clr part) := by
  obtain ⟨h1, h2, h3, h4⟩ := h
  unfold PM.clr PM.emptied
  split
  · split
    · exact ⟨Int.le_refl _, by simp only; omega, fun _ => rfl, by simp⟩
    · exact ⟨h1, by simp only; omega, h3, by simp⟩
  · exact ⟨h1, by omega, h3, by omega⟩

def hit (ms : List PM) (ch : Int) : Option PM := if 0 ≤ ch then ms[ch.toNat]? else none
theorem hit_none {ms : List PM} {ch : Int} (h : hit ms ch = none) : ¬ (0 ≤ ch ∧ ch < ms.length) := fun ⟨h1, h2⟩ => by
  unfold hit at h
  rw [if_pos h1, List.getElem?_eq_none_iff] at h
  omega
theorem hit_some {ms : List PM} {ch : Int} {m : PM} (h : hit ms ch = some m) : ∃ j : Nat, ch = j ∧ ms[j]? = some m ∧ ch.toNat = j := by
  unfold hit at h
  split at h
  · exact ⟨ch.toNat, by omega, h, rfl⟩
  · cases h
def wrM (ms : List PM) (part ch v now : Int) : List PM := match hit ms ch with
  | some m => if m.c.f = part then ms.set ch.toNat (m.put v now) else ms
  | none => ms
def wrE (ms : List PM) (part ch : Int) : Int := match hit ms ch with
  | some m => if m.c.f = part then 0 else 1
  | none => 1
def rdM (ms : List PM) (part ch : Int) : List PM := match hit ms ch with
  | some m => if m.c.t = part then ms.set ch.toNat m.got else ms
  | none => ms
def rdE (ms : List PM) (part ch now : Int) : Int × Int × Int := match hit ms ch with
  | some m => if m.c.t = part then m.out now else (0, 0, 1)
  | none => (0, 0, 1)
def wtE (ms : List PM) (ch : Int) : Int := match hit ms ch with
  | some m => m.xs.length
  | none => 0
theorem wrM_len (ms : List PM) (part ch v now : Int) : (wrM ms part ch v now).length = ms.length := by
  unfold wrM; split
  · split <;> simp
  · rfl
theorem rdM_len (ms : List PM) (part ch : Int) : (rdM ms part ch).length = ms.length := by
  unfold rdM; split
  · split <;> simp
  · rfl
theorem okW {ms : List PM} {i : Nat} (h : ∀ m ∈ ms, OKm i m) (part ch v now : Int) : ∀ m ∈ wrM ms part ch v now, OKm (i + 1) m := by
  intro m hm
  unfold wrM at hm
  split at hm
  · rename_i m0 h0
    obtain ⟨j, rfl, hj, _⟩ := hit_some h0
    split at hm
    · rcases mem_set hm with rfl | hm
      · exact (h m0 (List.mem_of_getElem? hj)).put v now
      · exact (h m hm).mono (by omega)
    · exact (h m hm).mono (by omega)
  · exact (h m hm).mono (by omega)
theorem okR {ms : List PM} {i : Nat} (h : ∀ m ∈ ms, OKm i m) (part ch : Int) : ∀ m ∈ rdM ms part ch, OKm (i + 1) m := by
  intro m hm
  unfold rdM at hm
  split at hm
  · rename_i m0 h0
    obtain ⟨j, rfl, hj, _⟩ := hit_some h0
    split at hm
    · rcases mem_set hm with rfl | hm
      · exact (h m0 (List.mem_of_getElem? hj)).got
      · exact (h m hm).mono (by omega)
    · exact (h m hm).mono (by omega)
  · exact (h m hm).mono (by omega)
theorem okC {ms : List PM} {i : Nat} (h : ∀ m ∈ ms, OKm i m) (part : Int) : ∀ m ∈ ms.map (PM.clr part), OKm (i + 1) m := by
  intro m hm
  obtain ⟨m0, h0, rfl⟩ := List.mem_map.1 hm
  exact (h m0 h0).clr part

theorem writeA (w : World) (b B P : Nat) (ms : List PM) (h : PortsS w b B P ms) (i : Nat) (hok : ∀ m ∈ ms, OKm i m) (hi : i ≤ 1000) (part ch v now : Int) :
    Calls Try.prog 10 #[.pointer (some ⟨P, 0, none⟩), .int .i64 part, .int .i64 ch, .int .i64 v, .int .i64 now] w fun e w' => e = .returned (.int .i64 (wrE ms part ch)) ∧ PortsS w' b B P (wrM ms part ch v now) ∧ Upd (fun k => b ≤ k ∧ k < B) w w' := by
  unfold wrE wrM
  cases h0 : hit ms ch with
  | none =>
    refine (writeNo w b B P ms h ch (hit_none h0) part v now).mono ?_
    rintro e w' ⟨rfl, hU⟩
    exact ⟨rfl, h.still hU, hU.mono (fun _ _ h => h.elim)⟩
  | some m =>
    obtain ⟨j, rfl, hj, hjj⟩ := hit_some h0
    have hom := hok m (List.mem_of_getElem? hj)
    dsimp only
    split
    · rename_i hf
      subst hf
      rw [hjj]
      exact writeYes w b B P ms h j m hj ⟨hom.1, by have := hom.2.1; omega⟩ v now
    · rename_i hf
      refine (writeNot w b B P ms h j m hj part v now hf).mono ?_
      rintro e w' ⟨rfl, hU⟩
      exact ⟨rfl, h.still hU, hU.mono (fun _ _ h => h.elim)⟩
theorem writeD (w : World) (b P : Nat) (ms : List PM) (h : RPS w b P ms) (i : Nat) (hok : ∀ m ∈ ms, OKm i m) (hi : i ≤ 1000) (part ch v now : Int) :
    Calls Try.prog 16 #[.pointer (some ⟨P, 0, none⟩), .int .i64 part, .int .i64 ch, .int .i64 v, .int .i64 now] w fun e w' => e = .returned (.int .i64 (wrE ms part ch)) ∧ RPS w' b P (wrM ms part ch v now) ∧ Upd (PB w b) w w' := by
  unfold wrE wrM
  cases h0 : hit ms ch with
  | none =>
    refine (rWriteNo w b P ms h ch (hit_none h0) part v now).mono ?_
    rintro e w' ⟨rfl, k, rfl⟩
    exact ⟨rfl, h.drewN k, (Upd.refl _ w).drewN k⟩
  | some m =>
    obtain ⟨j, rfl, hj, hjj⟩ := hit_some h0
    have hom := hok m (List.mem_of_getElem? hj)
    dsimp only
    split
    · rename_i hf
      subst hf
      rw [hjj]
      cases hq : m.c.q with
      | true => exact rWriteQ w b P ms h j m hj hq ⟨hom.1, by have := hom.2.1; omega⟩ v now
      | false => exact rWriteS w b P ms h j m hj hq v now
    · rename_i hf
      refine (rWriteNot w b P ms h j m hj part v now hf).mono ?_
      rintro e w' ⟨rfl, k, rfl⟩
      exact ⟨rfl, h.drewN k, (Upd.refl _ w).drewN k⟩
theorem readA (w : World) (b B P : Nat) (ms : List PM) (h : PortsS w b B P ms) (part ch now : Int) :
    Calls Try.prog 11 #[.pointer (some ⟨P, 0, none⟩), .int .i64 part, .int .i64 ch, .int .i64 now] w fun e w' => e = .returned (outV (rdE ms part ch now)) ∧ PortsS w' b B P (rdM ms part ch) ∧ Upd (fun k => b ≤ k ∧ k < B) w w' := by
  unfold rdE rdM
  cases h0 : hit ms ch with
  | none =>
    refine (readNo w b B P ms h ch (hit_none h0) part now).mono ?_
    rintro e w' ⟨rfl, hU⟩
    exact ⟨rfl, h.still hU, hU.mono (fun _ _ h => h.elim)⟩
  | some m =>
    obtain ⟨j, rfl, hj, hjj⟩ := hit_some h0
    dsimp only
    by_cases hf : m.c.t = part
    · rw [if_pos hf, if_pos hf, hjj]
      subst hf
      exact readYes w b B P ms h j m hj now
    · rw [if_neg hf, if_neg hf]
      refine (readNot w b B P ms h j m hj part now hf).mono ?_
      rintro e w' ⟨rfl, hU⟩
      exact ⟨rfl, h.still hU, hU.mono (fun _ _ h => h.elim)⟩
theorem readD (w : World) (b P : Nat) (ms : List PM) (h : RPS w b P ms) (i : Nat) (hok : ∀ m ∈ ms, OKm i m) (hi : i ≤ 1000) (part ch now : Int) :
    Calls Try.prog 17 #[.pointer (some ⟨P, 0, none⟩), .int .i64 part, .int .i64 ch, .int .i64 now] w fun e w' => e = .returned (outV (rdE ms part ch now)) ∧ RPS w' b P (rdM ms part ch) ∧ Upd (PB w b) w w' := by
  unfold rdE rdM
  cases h0 : hit ms ch with
  | none =>
    refine (rReadNo w b P ms h ch (hit_none h0) part now).mono ?_
    rintro e w' ⟨rfl, k, rfl⟩
    exact ⟨rfl, h.drewN k, (Upd.refl _ w).drewN k⟩
  | some m =>
    obtain ⟨j, rfl, hj, hjj⟩ := hit_some h0
    have hom := hok m (List.mem_of_getElem? hj)
    dsimp only
    by_cases hf : m.c.t = part
    · rw [if_pos hf, if_pos hf, hjj]
      subst hf
      exact rReadYes w b P ms h j m hj (by have := hom.2.2.2; omega) now
    · rw [if_neg hf, if_neg hf]
      refine (rReadNot w b P ms h j m hj part now hf).mono ?_
      rintro e w' ⟨rfl, k, rfl⟩
      exact ⟨rfl, h.drewN k, (Upd.refl _ w).drewN k⟩
theorem waitA (w : World) (b B P : Nat) (ms : List PM) (h : PortsS w b B P ms) (ch : Int) :
    Calls Try.prog 12 #[.pointer (some ⟨P, 0, none⟩), .int .i64 ch] w fun e w' => e = .returned (.int .i64 (wtE ms ch)) ∧ Upd (fun _ => False) w w' := by
  unfold wtE
  cases h0 : hit ms ch with
  | none => exact waitNo w b B P ms h ch (hit_none h0)
  | some m =>
    obtain ⟨j, rfl, hj, hjj⟩ := hit_some h0
    exact waitYes w b B P ms h j m hj
theorem waitD (w : World) (b P : Nat) (ms : List PM) (h : RPS w b P ms) (ch : Int) :
    Calls Try.prog 19 #[.pointer (some ⟨P, 0, none⟩), .int .i64 ch] w fun e w' => e = .returned (.int .i64 (wtE ms ch)) ∧ ∃ k, w' = w.drewN k := by
  unfold wtE
  cases h0 : hit ms ch with
  | none => exact rWaitNo w b P ms h ch (hit_none h0)
  | some m =>
    obtain ⟨j, rfl, hj, hjj⟩ := hit_some h0
    exact rWaitYes w b P ms h j m hj
end Go.Proofs.Ytnhgmommehjeoaa
