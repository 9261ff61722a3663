/-
  The walks of latency.Dark and Longest; Done of no table.
-/
import Derived.Test.YtnfajehocljbnaaLatC
import Derived.Test.YtnfajehocljbnaaSearchN
namespace Go.Proofs.Ytnfajehocljbnaa
open Go.RowKit
attribute [local go_sem] max_ints min_ints

set_option maxHeartbeats 400000 in
theorem knownNo (w : World) (v : Value) (h : NoT w v) (p : Int) : Calls Try.prog 35 #[v, .int .i64 p] w fun e w' => e = .returned (.bool false) ∧ w' = w := by
  have H := Lib.hid h
  have hv : ∃ a, v = .pointer a := by rcases h with rfl | ⟨s, rfl, _⟩ <;> exact ⟨_, rfl⟩
  obtain ⟨a, rfl⟩ := hv
  clear h
  go_enter Try.func35, Try.ntmps35
  go_wp2_with fail
  refine (noneTNo _ _ H.out).mono ?_
  rintro e w1 ⟨rfl, rfl⟩
  go_wp2_with fail
  go_returns
  exact ⟨rfl, by first | rfl | trivial⟩

set_option maxHeartbeats 400000 in
theorem offeredNo (w : World) (v : Value) (h : NoT w v) (p : Int) : Calls Try.prog 16 #[v, .int .i64 p] w fun e w' => e = .returned (.int .i64 0) ∧ w' = w := by
  have H := Lib.hid h
  have hv : ∃ a, v = .pointer a := by rcases h with rfl | ⟨s, rfl, _⟩ <;> exact ⟨_, rfl⟩
  obtain ⟨a, rfl⟩ := hv
  clear h
  go_enter Try.func16, Try.ntmps16
  go_wp2_with fail
  refine (knownNo _ _ H.out p).mono ?_
  rintro e w1 ⟨rfl, rfl⟩
  go_wp2_with fail
  go_returns
  exact ⟨rfl, by first | rfl | trivial⟩

set_option maxHeartbeats 800000 in
theorem doneNil (w : World) (p from_ work : Int) : Calls Try.prog 20 #[.pointer none, .int .i64 p, .int .i64 from_, .int .i64 work] w fun e w' => e = .returned (.tuple #[.int .i64 0, .bool false]) ∧ Upd (fun _ => False) w w' := by
  have hU : Upd (fun _ => False) w ((((w.alloc (.cells #[.pointer none] 25)).alloc (.cells #[.int .i64 p] 3)).alloc (.cells #[.int .i64 from_] 3)).alloc (.cells #[.int .i64 work] 3)) := ((((Upd.refl _ w).alloc _).alloc _).alloc _).alloc _
  have HU := Lib.hid hU
  have hB1 := (((Blk.new w 25 #[.pointer none]).alloc (.cells #[.int .i64 p] 3)).alloc (.cells #[.int .i64 from_] 3)).alloc (.cells #[.int .i64 work] 3)
  have hB2 := ((Blk.new (w.alloc (.cells #[.pointer none] 25)) 3 #[.int .i64 p]).alloc (.cells #[.int .i64 from_] 3)).alloc (.cells #[.int .i64 work] 3)
  obtain ⟨W, hW⟩ : ∃ W, (((w.alloc (.cells #[.pointer none] 25)).alloc (.cells #[.int .i64 p] 3)).alloc (.cells #[.int .i64 from_] 3)).alloc (.cells #[.int .i64 work] 3) = W := ⟨_, rfl⟩
  simp only [size_alloc] at hB2
  rw [hW] at hB1 hB2 HU
  have c1 := hB1.cell 0
  have c2 := hB2.cell 0
  clear hB1 hB2 hU
  go_enter Try.func20, Try.ntmps20
  go_upto_region 1 with fail
  clear hW
  go_wp2_with fail
  refine (offeredNo _ _ (.inl rfl) p).mono ?_
  rintro e w1 ⟨rfl, rfl⟩
  go_wp2_with fail
  go_returns
  exact ⟨rfl, HU.out⟩

set_option maxHeartbeats 400000 in
theorem openL (w : World) (base g F : Nat) (M : Int) (ws : List W3) (h : TabS w base g F M ws) (p t : Int) (b : Bool) (hb : isO M ws p (t % F) = b) :
    Calls Try.prog 41 #[.pointer (some ⟨g, 0, none⟩), .int .i64 p, .int .i64 t] w fun e w' => e = .returned (.bool b) ∧ ∃ k, w' = w.drewN k := by
  have hc : cntF M ws p F t 1 = if b then 1 else 0 := by
    show (0 : Int) + _ = _
    rw [show t + ((0 : Nat) : Int) = t by omega, hb]
    simp
  have H := Lib.hid h; have HC := Lib.hid hc
  clear h hc
  go_enter Try.func41, Try.ntmps41
  go_wp2_with fail
  refine (countT _ base g F M ws H.out p t 1 1 (by decide)).mono ?_
  rw [HC.out]
  rintro e w1 ⟨rfl, k1, rfl⟩
  cases b
  · go_wp2_with fail
    go_returns
    exact ⟨rfl, k1, rfl⟩
  · go_wp2_with fail
    go_returns
    exact ⟨rfl, k1, rfl⟩
end Go.Proofs.Ytnfajehocljbnaa
