/-
  own: the program's channels.
-/
import Derived.Test.YtnhgmommehjeoaaPortJ
namespace Go.Proofs.Ytnhgmommehjeoaa
open Go.RowKit
attribute [local go_sem] max_ints min_ints

def chX (x : Bool × Int × Int × Int) : Ch := { q := x.1, f := x.2.1, t := x.2.2.1, sz := x.2.2.2 }
def chL (X : Nat → Bool × Int × Int × Int) (len : Nat) : List Ch := (List.range len).map (fun k => chX (X k))
theorem chL_succ (X : Nat → Bool × Int × Int × Int) (i : Nat) : chL X (i + 1) = chL X i ++ [chX (X i)] := by unfold chL; rw [List.range_succ, List.map_append]; rfl
theorem chL_len (X : Nat → Bool × Int × Int × Int) (i : Nat) : (chL X i).length = i := by unfold chL; simp
theorem infoCh : (Try.prog.info? 27).map (fun i => (i.zero, i.size, i.bytes)) = some (some (.agg #[.bool false, .int .i64 0, .int .i64 0, .int .i64 0]), 4, 32) := by kernel_rfl

set_option maxRecDepth 100000 in
set_option maxHeartbeats 3200000 in
theorem ownP (w : World) (A : Option Addr) (len cap : Nat) (hl : len ≤ 20) (X : Nat → Bool × Int × Int × Int) (hc : Rowbiii w A len X) :
    Calls Try.prog 13 #[.slice A len cap] w fun e w' => ∃ P, e = .returned (.pointer (some ⟨P, 0, none⟩)) ∧ w.heap.size ≤ P ∧ PortsS w' P w'.heap.size P ((chL X len).map PM.new) ∧ Upd (fun _ => False) w w' := by
  have HC := Lib.hid hc
  obtain ⟨i0, hi0, hz0, hz1, hz2⟩ := info_parts infoCh
  clear hc
  go_enter Try.func13, Try.ntmps13
  go_wp2_with fail
  go_loopw [3, 4] (fun v3 v4 wr => ∃ (i : Nat), i ≤ len ∧ v4 = .int .i64 i ∧ SlR encC wr w.heap.size 27 4 v3 (chL X i) ∧ Upd (fun _ => False) w wr) (fun _ v4 _ => len - (intOf v4).toNat)
  case atStart => exact ⟨0, by omega, rfl, SlR.nil, Upd.refl _ _⟩
  case round =>
    obtain ⟨i, hi, rfl, hV, hU⟩ := hrel
    have HV := Lib.hid hV; have HU := Lib.hid hU
    obtain ⟨A3, c3, rfl⟩ := hV.shape
    clear hV hU
    obtain ⟨cs, hcs⟩ : ∃ cs, chL X i = cs := ⟨_, rfl⟩
    have hcl : cs.length = i := by rw [← hcs]; exact chL_len X i
    have HCS := Lib.hid hcs
    rw [hcs] at HV ⊢
    clear hcs
    by_cases hlt : i < len
    · obtain ⟨b, o, rfl, hb, g0, g1, g2, g3⟩ := HC.out i hlt
      have HNX := Lib.hid (chL_succ X i)
      obtain ⟨⟨x0, x1, x2, x3⟩, hX⟩ : ∃ q, X i = q := ⟨_, rfl⟩
      rw [hX] at g0 g1 g2 g3 HNX
      clear hX
      dsimp only at g0 g1 g2 g3
      have c0 : wr.cell? ⟨b, o + i * 4, none⟩ = some (.bool x0) := (HU.out.cell (p := ⟨b, o + i * 4, none⟩) hb (fun h => h)).trans g0
      have c1 : wr.cell? ⟨b, o + i * 4 + 1, none⟩ = some (.int .i64 x1) := (HU.out.cell (p := ⟨b, o + i * 4 + 1, none⟩) hb (fun h => h)).trans g1
      have c2 : wr.cell? ⟨b, o + i * 4 + 2, none⟩ = some (.int .i64 x2) := (HU.out.cell (p := ⟨b, o + i * 4 + 2, none⟩) hb (fun h => h)).trans g2
      have c3' : wr.cell? ⟨b, o + i * 4 + 3, none⟩ = some (.int .i64 x3) := (HU.out.cell (p := ⟨b, o + i * 4 + 3, none⟩) hb (fun h => h)).trans g3
      have hsz := HU.out.size
      have HCL := Lib.hid hcl
      clear g0 g1 g2 g3 hcl
      go_wp2_with (
        at_builtin
        refine wpList_append_sl rfl (.tmp 11) (.tmp 16) 49 rfl w.heap.size 27 i0 _ 4 32 Try.underlying49 hi0 hz0 hz1 hz2 rfl (by decide) _ cs.length (rws encC cs) rfl (by exact Sl.alloc HV.out (.cells #[.bool x0, .int .i64 x1, .int .i64 x2, .int .i64 x3] 27)) ⟨_, 0, none⟩ 1 [.bool x0, .int .i64 x1, .int .i64 x2, .int .i64 x3] rfl rfl (new_cellsO _ _ _) (by simp [Value.oneCell']) (by have := HCL.out; unfold maxLen; omega) (by have := HCL.out; omega) (by simp; omega) ?_
        intro v' w7 hs7 hu7 hv7
        have FS7 : Hid (SlR encC w7 w.heap.size 27 4 v' (chL X (i + 1))) := Lib.hid (by
          rw [HNX.out, HCS.out]
          unfold SlR
          rw [List.length_append, rws_append]
          exact hs7)
        have U7 : Hid (Upd (fun _ => False) w w7) := Lib.hid (by
          have h1 := (HU.out.alloc (.cells #[.bool x0, .int .i64 x1, .int .i64 x2, .int .i64 x3] 27)).mono (S' := fun k => w.heap.size ≤ k) (fun _ _ h => h.elim)
          exact (h1.trans (hu7.mono (fun k _ hk => (Sl.blk HV.out k hk).1))).mono (fun k hk h => absurd h (by omega)))
        obtain ⟨bz, oz, cz, rfl, _, _, _, _⟩ := hs7.form (by omega)
        clear hs7 hu7 hv7)
      go_roundw
      case rel => exact ⟨i + 1, by omega, by go_num, FS7.out, U7.out⟩
      case measure => simp [intOf]; omega
    · have hie : i = len := by omega
      subst hie
      have HCL := Lib.hid hcl
      clear hcl
      go_wp2_with fail
      refine (portsNew _ _ _ cs HV.out (by have := HCL.out; omega)).mono ?_
      rintro e w3 ⟨rfl, hS, hU3⟩
      have S3 := Lib.hid hS
      have U3 := Lib.hid hU3
      clear hS hU3
      go_wp2_with fail
      go_returns
      exact ⟨_, rfl, HU.out.size, by rw [HCS.out]; exact S3.out, HU.out.trans U3.out⟩

/-- What the answers of Write depend on. -/
def wrB (cs : List Ch) (part ch : Int) : Bool := decide (0 ≤ ch ∧ ch < cs.length) && decide ((cs[ch.toNat]?.map Ch.f) = some part)
def PortsC (w : World) (b B P : Nat) (cs : List Ch) (L : Int) : Prop := ∃ ms, PortsS w b B P ms ∧ ms.map PM.c = cs ∧ ∀ m ∈ ms, 0 ≤ m.lost ∧ m.lost ≤ L
theorem PortsC.upd {w w' : World} {S : Nat → Prop} {b B P : Nat} {cs : List Ch} {L : Int} (h : PortsC w b B P cs L) (hu : Upd S w w') (hS : ∀ k, b ≤ k → k < B → ¬ S k) : PortsC w' b B P cs L := by
  obtain ⟨ms, h1, h2⟩ := h
  exact ⟨ms, h1.upd hu hS, h2⟩
theorem PortsC.mono {w : World} {b B P : Nat} {cs : List Ch} {L L' : Int} (h : PortsC w b B P cs L) (hl : L ≤ L') : PortsC w b B P cs L' := by
  obtain ⟨ms, h1, h2, h3⟩ := h
  exact ⟨ms, h1, h2, fun m hm => ⟨(h3 m hm).1, Int.le_trans (h3 m hm).2 hl⟩⟩
theorem PM.put_c (m : PM) (v now : Int) : (m.put v now).c = m.c := by unfold PM.put; split <;> rfl
theorem PM.put_lost (m : PM) (v now L : Int) (h : 0 ≤ m.lost ∧ m.lost ≤ L) : 0 ≤ (m.put v now).lost ∧ (m.put v now).lost ≤ L + 1 := by
  unfold PM.put
  split
  · dsimp only
    split <;> omega
  · dsimp only; omega
theorem PM.got_c (m : PM) : m.got.c = m.c := by unfold PM.got; split <;> rfl
theorem PM.got_lost (m : PM) (L : Int) (h : 0 ≤ m.lost ∧ m.lost ≤ L) : 0 ≤ m.got.lost ∧ m.got.lost ≤ L := by
  unfold PM.got
  split
  · dsimp only
    split <;> omega
  · exact h
theorem PM.clr_c (m : PM) (part : Int) : (m.clr part).c = m.c := by unfold PM.clr PM.emptied; split <;> (try split) <;> rfl
theorem PM.clr_lost (m : PM) (part L : Int) (h : 0 ≤ m.lost ∧ m.lost ≤ L) : 0 ≤ (m.clr part).lost ∧ (m.clr part).lost ≤ L := by
  unfold PM.clr PM.emptied
  split
  · split <;> dsimp only <;> omega
  · exact h
theorem mem_set {α : Type} {l : List α} {i : Nat} {x y : α} (h : y ∈ l.set i x) : y = x ∨ y ∈ l := by
  rcases List.mem_or_eq_of_mem_set h with h | h
  · exact .inr h
  · exact .inl h
theorem map_c_set (ms : List PM) (i : Nat) (m m' : PM) (hm : ms[i]? = some m) (hc : m'.c = m.c) : (ms.set i m').map PM.c = ms.map PM.c := by
  rw [List.map_set, hc]
  exact list_self _ _ _ (by rw [List.getElem?_map, hm]; rfl)

theorem writeAny (w : World) (b B P : Nat) (cs : List Ch) (L : Int) (h : PortsC w b B P cs L) (hL : L < 1000000) (part ch v now : Int) (r : Bool) (hr : wrB cs part ch = r) :
    Calls Try.prog 10 #[.pointer (some ⟨P, 0, none⟩), .int .i64 part, .int .i64 ch, .int .i64 v, .int .i64 now] w fun e w' => e = .returned (.int .i64 (if r = true then 0 else 1)) ∧ PortsC w' b B P cs (L + 1) ∧ Upd (fun k => b ≤ k ∧ k < B) w w' := by
  obtain ⟨ms, h1, h2, h3⟩ := h
  have hlen : cs.length = ms.length := by rw [← h2]; simp
  by_cases hc : 0 ≤ ch ∧ ch < ms.length
  · obtain ⟨i, rfl⟩ : ∃ i : Nat, ch = i := ⟨ch.toNat, by omega⟩
    obtain ⟨m, hm⟩ : ∃ m, ms[i]? = some m := ⟨_, List.getElem?_eq_getElem (by omega)⟩
    have hcs : cs[(i : Int).toNat]?.map Ch.f = some m.c.f := by
      rw [← h2, Int.toNat_natCast, List.getElem?_map, hm]; rfl
    have hmem := List.mem_of_getElem? hm
    by_cases hf : m.c.f = part
    · have : r = true := by rw [← hr]; unfold wrB; rw [hcs, hf, hlen]; simp; omega
      subst this
      subst hf
      refine (writeYes w b B P ms h1 i m hm ⟨(h3 m hmem).1, by have := (h3 m hmem).2; omega⟩ v now).mono ?_
      rintro e w' ⟨rfl, g1, g2⟩
      refine ⟨rfl, ⟨_, g1, by rw [map_c_set ms i m _ hm (m.put_c v now)]; exact h2, fun m' hm' => ?_⟩, g2⟩
      rcases mem_set hm' with rfl | hm'
      · exact m.put_lost v now L (h3 m hmem)
      · have := h3 m' hm'; omega
    · have : r = false := by rw [← hr]; unfold wrB; rw [hcs]; simp [hf]
      subst this
      refine (writeNot w b B P ms h1 i m hm part v now hf).mono ?_
      rintro e w' ⟨rfl, g2⟩
      exact ⟨rfl, ⟨ms, h1.still g2, h2, fun m' hm' => by have := h3 m' hm'; omega⟩, g2.mono (fun _ _ h => h.elim)⟩
  · have : r = false := by rw [← hr]; unfold wrB; rw [hlen, decide_eq_false hc]; rfl
    subst this
    refine (writeNo w b B P ms h1 ch hc part v now).mono ?_
    rintro e w' ⟨rfl, g2⟩
    exact ⟨rfl, ⟨ms, h1.still g2, h2, fun m' hm' => by have := h3 m' hm'; omega⟩, g2.mono (fun _ _ h => h.elim)⟩

theorem readAny (w : World) (b B P : Nat) (cs : List Ch) (L : Int) (h : PortsC w b B P cs L) (part ch now : Int) :
    Calls Try.prog 11 #[.pointer (some ⟨P, 0, none⟩), .int .i64 part, .int .i64 ch, .int .i64 now] w fun e w' => (∃ x n r, e = .returned (.tuple #[.int .i64 x, .int .i64 n, .int .i64 r])) ∧ PortsC w' b B P cs L ∧ Upd (fun k => b ≤ k ∧ k < B) w w' := by
  obtain ⟨ms, h1, h2, h3⟩ := h
  by_cases hc : 0 ≤ ch ∧ ch < ms.length
  · obtain ⟨i, rfl⟩ : ∃ i : Nat, ch = i := ⟨ch.toNat, by omega⟩
    obtain ⟨m, hm⟩ : ∃ m, ms[i]? = some m := ⟨_, List.getElem?_eq_getElem (by omega)⟩
    have hmem := List.mem_of_getElem? hm
    by_cases hf : m.c.t = part
    · subst hf
      refine (readYes w b B P ms h1 i m hm now).mono ?_
      rintro e w' ⟨rfl, g1, g2⟩
      refine ⟨⟨_, _, _, rfl⟩, ⟨_, g1, by rw [map_c_set ms i m _ hm m.got_c]; exact h2, fun m' hm' => ?_⟩, g2⟩
      rcases mem_set hm' with rfl | hm'
      · exact m.got_lost L (h3 m hmem)
      · exact h3 m' hm'
    · refine (readNot w b B P ms h1 i m hm part now hf).mono ?_
      rintro e w' ⟨rfl, g2⟩
      exact ⟨⟨_, _, _, rfl⟩, ⟨ms, h1.still g2, h2, h3⟩, g2.mono (fun _ _ h => h.elim)⟩
  · refine (readNo w b B P ms h1 ch hc part now).mono ?_
    rintro e w' ⟨rfl, g2⟩
    exact ⟨⟨_, _, _, rfl⟩, ⟨ms, h1.still g2, h2, h3⟩, g2.mono (fun _ _ h => h.elim)⟩

theorem clearAny (w : World) (b B P : Nat) (cs : List Ch) (L : Int) (h : PortsC w b B P cs L) (hl : cs.length ≤ 1000) (part : Int) :
    Calls Try.prog 14 #[.pointer (some ⟨P, 0, none⟩), .int .i64 part] w fun e w' => e = .returned (.tuple #[]) ∧ PortsC w' b B P cs L ∧ Upd (fun k => b ≤ k ∧ k < B) w w' := by
  obtain ⟨ms, h1, h2, h3⟩ := h
  have hlen : cs.length = ms.length := by rw [← h2]; simp
  refine (clearP w b B P ms h1 (by omega) part).mono ?_
  rintro e w' ⟨rfl, g1, g2⟩
  refine ⟨rfl, ⟨_, g1, by rw [List.map_map]; rw [← h2]; exact List.map_congr_left (fun m _ => m.clr_c part), fun m' hm' => ?_⟩, g2⟩
  obtain ⟨m, hm, rfl⟩ := List.mem_map.1 hm'
  exact m.clr_lost part L (h3 m hm)
end Go.Proofs.Ytnhgmommehjeoaa
