/-
  The methods behind a port.
-/
import Derived.Test.YtnhgmommehjeoaaPortA
namespace Go.Proofs.Ytnhgmommehjeoaa
open Go.RowKit
attribute [local go_sem] max_ints min_ints
theorem mput_q (s : Nat) (w : World) : (method 198 53 (.pointer (some ⟨s, 0, none⟩)) "parclose/ports.put").run Try.prog w = .ok (41, .pointer (some ⟨s, 0, none⟩)) w := by kernel_rfl
theorem mget_q (s : Nat) (w : World) : (method 198 53 (.pointer (some ⟨s, 0, none⟩)) "parclose/ports.get").run Try.prog w = .ok (40, .pointer (some ⟨s, 0, none⟩)) w := by kernel_rfl
theorem mempty_q (s : Nat) (w : World) : (method 198 53 (.pointer (some ⟨s, 0, none⟩)) "parclose/ports.empty").run Try.prog w = .ok (38, .pointer (some ⟨s, 0, none⟩)) w := by kernel_rfl
theorem mcount_q (s : Nat) (w : World) : (method 198 53 (.pointer (some ⟨s, 0, none⟩)) "parclose/ports.count").run Try.prog w = .ok (37, .pointer (some ⟨s, 0, none⟩)) w := by kernel_rfl
theorem mput_s (s : Nat) (w : World) : (method 198 60 (.pointer (some ⟨s, 0, none⟩)) "parclose/ports.put").run Try.prog w = .ok (54, .pointer (some ⟨s, 0, none⟩)) w := by kernel_rfl
theorem mget_s (s : Nat) (w : World) : (method 198 60 (.pointer (some ⟨s, 0, none⟩)) "parclose/ports.get").run Try.prog w = .ok (53, .pointer (some ⟨s, 0, none⟩)) w := by kernel_rfl
theorem mempty_s (s : Nat) (w : World) : (method 198 60 (.pointer (some ⟨s, 0, none⟩)) "parclose/ports.empty").run Try.prog w = .ok (52, .pointer (some ⟨s, 0, none⟩)) w := by kernel_rfl
theorem mcount_s (s : Nat) (w : World) : (method 198 60 (.pointer (some ⟨s, 0, none⟩)) "parclose/ports.count").run Try.prog w = .ok (51, .pointer (some ⟨s, 0, none⟩)) w := by kernel_rfl

theorem run_then {f : FuncId} {x : Sem Value} {w w' : World} {v : Value} (h : x.run Try.prog w = .ok v w') : (do let v ← x; pure (f, v) : Sem (FuncId × Value)).run Try.prog w = .ok (f, v) w' := by
  rw [Sem.run_bind, h]; rfl
def chV (c : Ch) : Value := .agg #[.bool c.q, .int .i64 c.f, .int .i64 c.t, .int .i64 c.sz]
theorem ends_load (w : World) (s : Nat) (t : TypeId) (c : Ch) (r : Array Value) (h : Blk w s t (#[.bool c.q, .int .i64 c.f, .int .i64 c.t, .int .i64 c.sz] ++ r)) :
    (loadVar 55 ⟨s, 0, none⟩).run Try.prog w = .ok (chV c) w := by
  have hc : ∀ k : Nat, w.cell? ⟨s, k, none⟩ = (#[Value.bool c.q, .int .i64 c.f, .int .i64 c.t, .int .i64 c.sz] ++ r)[k]? := fun k => h.cell k
  have c0 : w.cell? ⟨s, 0, none⟩ = some (.bool c.q) := by rw [hc 0]; simp [Array.getElem?_append]
  have c1 : w.cell? ⟨s, 1, none⟩ = some (.int .i64 c.f) := by rw [hc 1]; simp [Array.getElem?_append]
  have c2 : w.cell? ⟨s, 2, none⟩ = some (.int .i64 c.t) := by rw [hc 2]; simp [Array.getElem?_append]
  have c3 : w.cell? ⟨s, 3, none⟩ = some (.int .i64 c.sz) := by rw [hc 3]; simp [Array.getElem?_append]
  clear h hc
  simp [loadVar, loadCells, go_sem, c0, c1, c2, c3, chV]
theorem mfrom_q' (s : Nat) (w : World) : (method 198 53 (.pointer (some ⟨s, 0, none⟩)) "parclose/ports.from").run Try.prog w = (do let v ← loadVar 55 ⟨s, 0, none⟩; pure ((39 : FuncId), v) : Sem (FuncId × Value)).run Try.prog w := by kernel_rfl
theorem mto_q' (s : Nat) (w : World) : (method 198 53 (.pointer (some ⟨s, 0, none⟩)) "parclose/ports.to").run Try.prog w = (do let v ← loadVar 55 ⟨s, 0, none⟩; pure ((42 : FuncId), v) : Sem (FuncId × Value)).run Try.prog w := by kernel_rfl
theorem mfrom_s' (s : Nat) (w : World) : (method 198 60 (.pointer (some ⟨s, 0, none⟩)) "parclose/ports.from").run Try.prog w = (do let v ← loadVar 55 ⟨s, 0, none⟩; pure ((39 : FuncId), v) : Sem (FuncId × Value)).run Try.prog w := by kernel_rfl
theorem mto_s' (s : Nat) (w : World) : (method 198 60 (.pointer (some ⟨s, 0, none⟩)) "parclose/ports.to").run Try.prog w = (do let v ← loadVar 55 ⟨s, 0, none⟩; pure ((42 : FuncId), v) : Sem (FuncId × Value)).run Try.prog w := by kernel_rfl

theorem mfrom_q (w : World) (s g d : Nat) (c : Ch) (xs : List Int) (lost : Int) (h : QSt w s g d c xs lost) : (method 198 53 (.pointer (some ⟨s, 0, none⟩)) "parclose/ports.from").run Try.prog w = .ok (39, chV c) w := by
  rw [mfrom_q']
  have := ends_load w s _ c #[.pointer (some ⟨g, 0, none⟩), .int .i64 lost] h.b
  exact run_then this
theorem mto_q (w : World) (s g d : Nat) (c : Ch) (xs : List Int) (lost : Int) (h : QSt w s g d c xs lost) : (method 198 53 (.pointer (some ⟨s, 0, none⟩)) "parclose/ports.to").run Try.prog w = .ok (42, chV c) w := by
  rw [mto_q']
  have := ends_load w s _ c #[.pointer (some ⟨g, 0, none⟩), .int .i64 lost] h.b
  exact run_then this
theorem mfrom_s (w : World) (s : Nat) (c : Ch) (v at_ : Int) (has : Bool) (h : SSt w s c v at_ has) : (method 198 60 (.pointer (some ⟨s, 0, none⟩)) "parclose/ports.from").run Try.prog w = .ok (39, chV c) w := by
  rw [mfrom_s']
  have := ends_load w s _ c #[.int .i64 v, .int .i64 at_, .bool has] h.b
  exact run_then this
theorem mto_s (w : World) (s : Nat) (c : Ch) (v at_ : Int) (has : Bool) (h : SSt w s c v at_ has) : (method 198 60 (.pointer (some ⟨s, 0, none⟩)) "parclose/ports.to").run Try.prog w = .ok (42, chV c) w := by
  rw [mto_s']
  have := ends_load w s _ c #[.int .i64 v, .int .i64 at_, .bool has] h.b
  exact run_then this

set_option maxHeartbeats 800000 in
theorem fromE (w : World) (c : Ch) : Calls Try.prog 39 #[chV c] w fun e w' => e = .returned (.int .i64 c.f) ∧ Upd (fun _ => False) w w' := by
  unfold chV
  go_enter Try.func39, Try.ntmps39
  go_wp2_with fail
  go_returns
  exact ⟨rfl, (Upd.refl _ w).alloc _⟩
set_option maxHeartbeats 800000 in
theorem toE (w : World) (c : Ch) : Calls Try.prog 42 #[chV c] w fun e w' => e = .returned (.int .i64 c.t) ∧ Upd (fun _ => False) w w' := by
  unfold chV
  go_enter Try.func42, Try.ntmps42
  go_wp2_with fail
  go_returns
  exact ⟨rfl, (Upd.refl _ w).alloc _⟩
end Go.Proofs.Ytnhgmommehjeoaa
