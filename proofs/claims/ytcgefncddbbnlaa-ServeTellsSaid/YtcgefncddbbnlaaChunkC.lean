/-
  The walks of chunk.Budget: none, ripe, first, shut, owe.
-/
import Derived.Test.YtcgefncddbbnlaaChunkB
import Derived.Test.YtcgefncddbbnlaaChunkF
namespace Go.Proofs.Ytcgefncddbbnlaa.Ck
open Go.RowKit Go.Proofs.Ytcgefncddbbnlaa.Cf

def Cp.cells (p : Cp) (L K : Value) : Array Value := #[L, .bool p.rf, .int .i64 p.C, .int .i64 p.T, .int .i64 p.free, K, .bool p.still]
/-- The types of a budget's blocks. -/
def tsC : List TypeId := [144, 164, 169]

def tsO : List TypeId := [144, 169]
theorem tsO_sub : ∀ t, t ∈ tsO → t ∈ tsC := by decide

/-- The budget at g, and what its lists lie in. -/
structure Cud (w : World) (base g : Nat) (L K : Value) (p : Cp) (xs : List (Int × Int × Int)) (ys : List (Int × Int)) : Prop where
  b : Blk w g 144 (p.cells L K)
  s : SlR encC w base 164 3 L xs
  k : SlR encB w base 169 2 K ys
  hg : base ≤ g

section
variable {w w' : World} {base g : Nat} {L K L' K' : Value} {p : Cp} {xs xs' : List (Int × Int × Int)} {ys ys' : List (Int × Int)} {S : Nat → Prop}
theorem Cud.upd (h : Cud w base g L K p xs ys) (hu : Upd S w w') (hg : ¬ S g) (hl : ∀ k, slBlk L = some k → ¬ S k) (hk : ∀ k, slBlk K = some k → ¬ S k) : Cud w' base g L K p xs ys := ⟨h.b.upd hu hg, h.s.upd hu hl, h.k.upd hu hk, h.hg⟩
theorem Cud.still (h : Cud w base g L K p xs ys) (hu : Upd (fun _ => False) w w') : Cud w' base g L K p xs ys := h.upd hu (fun h => h) (fun _ _ h => h) (fun _ _ h => h)
theorem Cud.drewN (h : Cud w base g L K p xs ys) (n : Nat) : Cud (w.drewN n) base g L K p xs ys := h.still ((Upd.refl _ w).drewN n)
theorem Cud.alloc (h : Cud w base g L K p xs ys) (o : Obj) : Cud (w.alloc o) base g L K p xs ys := h.still ((Upd.refl _ w).alloc o)
theorem Cud.neL (h : Cud w base g L K p xs ys) : ∀ k, slBlk L = some k → k ≠ g := Sl.ne_ h.s h.b (by decide)
theorem Cud.neK (h : Cud w base g L K p xs ys) : ∀ k, slBlk K = some k → k ≠ g := Sl.ne_ h.k h.b (by decide)
theorem Cud.neLK (h : Cud w base g L K p xs ys) : ∀ k l, slBlk L = some k → slBlk K = some l → k ≠ l := fun k l hk hl => by
  obtain ⟨_, _, cur, hc⟩ := Sl.blk h.k l hl
  exact Sl.ne_ h.s hc (by decide) k hk
theorem Cud.tyG (h : Cud w base g L K p xs ys) : Tys base tsC w g := ⟨h.hg, _, _, h.b, by decide⟩
theorem Cud.tyL (h : Cud w base g L K p xs ys) (k : Nat) (hk : slBlk L = some k) : Tys base tsC w k := by
  obtain ⟨h1, _, cur, hc⟩ := Sl.blk h.s k hk
  exact ⟨h1, _, _, hc, by decide⟩
theorem Cud.tyK (h : Cud w base g L K p xs ys) (k : Nat) (hk : slBlk K = some k) : Tys base tsC w k := by
  obtain ⟨h1, _, cur, hc⟩ := Sl.blk h.k k hk
  exact ⟨h1, _, _, hc, by decide⟩
theorem Cud.tyKo (h : Cud w base g L K p xs ys) (k : Nat) (hk : slBlk K = some k) : Tys base tsO w k := by
  obtain ⟨h1, _, cur, hc⟩ := Sl.blk h.k k hk
  exact ⟨h1, _, _, hc, by decide⟩
/-- A field of the budget is stored into. -/
theorem Cud.setFree (h : Cud w base g L K p xs ys) (f : Int) : Cud (w.setCell ⟨g, 4, none⟩ (.int .i64 f)) base g L K { p with free := f } xs ys := by
  have hu := (Upd.refl (fun k => k = g) w).setCell (p := ⟨g, 4, none⟩) (fun _ => rfl) (.int .i64 f)
  exact ⟨by simpa [Cp.cells] using h.b.set_ 4 (.int .i64 f), h.s.upd hu (fun k hk e => h.neL k hk e), h.k.upd hu (fun k hk e => h.neK k hk e), h.hg⟩
theorem Cud.setStill (h : Cud w base g L K p xs ys) (f : Bool) : Cud (w.setCell ⟨g, 6, none⟩ (.bool f)) base g L K { p with still := f } xs ys := by
  have hu := (Upd.refl (fun k => k = g) w).setCell (p := ⟨g, 6, none⟩) (fun _ => rfl) (.bool f)
  exact ⟨by simpa [Cp.cells] using h.b.set_ 6 (.bool f), h.s.upd hu (fun k hk e => h.neL k hk e), h.k.upd hu (fun k hk e => h.neK k hk e), h.hg⟩
theorem Cud.setL (hb : Blk w g 144 (p.cells L K)) (hs : SlR encC w base 164 3 L' xs) (hk : SlR encB w base 169 2 K ys) (hg : base ≤ g) : Cud (w.setCell ⟨g, 0, none⟩ L') base g L' K p xs ys := by
  have hu := (Upd.refl (fun k => k = g) w).setCell (p := ⟨g, 0, none⟩) (fun _ => rfl) L'
  exact ⟨by simpa [Cp.cells] using hb.set_ 0 L', hs.upd hu (fun k hk e => Sl.ne_ hs hb (by decide) k hk e), hk.upd hu (fun k hk' e => Sl.ne_ hk hb (by decide) k hk' e), hg⟩
theorem Cud.setK (hb : Blk w g 144 (p.cells L K)) (hs : SlR encC w base 164 3 L xs) (hk : SlR encB w base 169 2 K' ys) (hg : base ≤ g) : Cud (w.setCell ⟨g, 5, none⟩ K') base g L K' p xs ys := by
  have hu := (Upd.refl (fun k => k = g) w).setCell (p := ⟨g, 5, none⟩) (fun _ => rfl) K'
  exact ⟨by simpa [Cp.cells] using hb.set_ 5 K', hs.upd hu (fun k hk e => Sl.ne_ hs hb (by decide) k hk e), hk.upd hu (fun k hk' e => Sl.ne_ hk hb (by decide) k hk' e), hg⟩
end

set_option maxHeartbeats 400000 in
theorem noneC (w : World) (base g : Nat) (L K : Value) (p : Cp) (xs : List (Int × Int × Int)) (ys : List (Int × Int)) (h : Cud w base g L K p xs ys) (hC : 1 ≤ p.C) :
    Calls Try.prog 116 #[.pointer (some ⟨g, 0, none⟩)] w fun e w' => e = .returned (.bool false) ∧ ∃ k, w' = w.drewN k := by
  have c2 : w.cell? ⟨g, 2, none⟩ = some (.int .i64 p.C) := h.b.cell 2
  have e1 : (p.C == 0) = false := beq_eq_false_iff_ne.2 (by omega)
  clear h
  go_enter Try.func116, Try.ntmps116
  go_wp2
  go_ret
  exact ⟨rfl, 0, rfl⟩

set_option maxRecDepth 100000 in
set_option maxHeartbeats 800000 in
theorem ripeC (w : World) (base g : Nat) (L K : Value) (p : Cp) (xs : List (Int × Int × Int)) (ys : List (Int × Int)) (h : Cud w base g L K p xs ys) (hf : fineB ys) (hl : ys.length ≤ 1000) (now : Int) :
    Calls Try.prog 119 #[.pointer (some ⟨g, 0, none⟩), .int .i64 now] w fun e w' => e = .returned (.int .i64 (ripeN now ys)) ∧ ∃ K', Cud w' base g L K' p xs (keepB now ys) ∧ Tu base tsC w w' := by
  have hmf : ∀ (fn : Fn) (first cap : Array Value) (w : World), (Instr.makeFunc fn first cap).run Try.prog w = .ok (.func fn first cap) w := fun _ _ _ _ => rfl
  have c5 : w.cell? ⟨g, 5, none⟩ = some K := h.b.cell 5
  have hgw : g < w.heap.size := h.b.lt
  have H := Lib.hid h; clear h
  have HF := Lib.hid hf; clear hf
  have BN : Hid (∀ o, Blk ((w.alloc (.cells #[.int .i64 now] 3)).alloc o) w.heap.size 3 #[.int .i64 now]) := Lib.hid (fun o => (Blk.new w 3 #[.int .i64 now]).alloc o)
  have BS : Hid (Blk ((w.alloc (.cells #[.int .i64 now] 3)).alloc (.cells #[.int .i64 0] 3)) (w.heap.size + 1) 3 #[.int .i64 0]) := Lib.hid (by
    have := Blk.new (w.alloc (.cells #[.int .i64 now] 3)) 3 #[.int .i64 0]
    simpa using this)
  go_enter Try.func119, Try.ntmps119
  go_wp2_with fail
  refine (delete1 _ base K ys ((H.out.alloc _).alloc _).k w.heap.size (w.heap.size + 1) now (BN.out _) BS.out (by omega) HF.out hl).mono ?_
  rintro e w2 ⟨K', rfl, h1, h2, h3, hU⟩
  have X2 := Lib.hid (((H.out.alloc _).alloc _).b.upd hU (fun e => e.elim (fun e => by omega) (fun e => H.out.neK g e rfl)))
  have L2 := Lib.hid (SlR.upd ((H.out.alloc _).alloc _).s hU (fun k hk e => e.elim (fun e => by have := (Sl.blk H.out.s k hk).2.1; omega) (fun e => H.out.neLK k k hk e rfl)))
  obtain ⟨AK, ck, rfl⟩ := h1.shape
  have K2 := Lib.hid h1
  have U2 := Lib.hid ((((Upd.refl (fun k => k = w.heap.size + 1 ∨ slBlk K = some k) w).alloc (.cells #[.int .i64 now] 3)).alloc (.cells #[.int .i64 0] 3)).trans hU)
  have f5 := X2.out.frozen 5
  have c5' : w2.cell? ⟨g, 5, none⟩ = some K := X2.out.cell 5
  have hs : w2.cell? ⟨w.heap.size + 1, 0, none⟩ = some (.int .i64 (ripeN now ys)) := h3.cell 0
  clear h1 h2 h3 hU c5
  go_wp2_with fail
  go_returns
  refine ⟨rfl, _, Cud.setK X2.out L2.out K2.out H.out.hg, (Tu.of U2.out (fun k hk e => e.elim (fun e => by omega) (fun e => H.out.tyK k e))).set_ H.out.hg X2.out (by decide) _⟩
end Go.Proofs.Ytcgefncddbbnlaa.Ck
