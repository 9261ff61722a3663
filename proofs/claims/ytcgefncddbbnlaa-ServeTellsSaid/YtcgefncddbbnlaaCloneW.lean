/-
  slices.Clone, of a list of structs.
-/
import Derived.Test.YtcgefncddbbnlaaFrameA
namespace Go.Proofs.Ytcgefncddbbnlaa.Fr
open Go.RowKit

theorem infocloneW : (Try.prog.info? 79).map (fun i => (i.zero, i.size, i.bytes)) = some (some (.agg #[.int .i64 0, .int .i64 0, .int .i64 0]), 3, 24) := by kernel_rfl
set_option maxRecDepth 100000 in
set_option maxHeartbeats 1600000 in
theorem cloneW (w : World) (base : Nat) (L : Value) (xs : List (Int × Int × Int)) (h : SlR encW w base 79 3 L xs) (hn : xs.length ≤ 100000) :
    Calls Try.prog 63 #[L] w fun e w' => ∃ v, e = .returned v ∧ SlR encW w' w.heap.size 79 3 v xs ∧ Upd (fun _ => False) w w' := by
  obtain ⟨i0, hi0, hz0, hz1, hz2⟩ := info_parts infocloneW
  have hq : ∀ (w : World) (a : Option Addr) (n c : Nat), (binOp .eql 77 (.slice a n c) (.slice none 0 0)).run Try.prog w = .ok (.bool a.isNone) w := fun w a n c => Go.Lib.run_eql_slice_nil w _ _ a n c 0 0 Try.underlying77
  rcases h.2 with ⟨rfl, h0⟩ | ⟨b, off, cap, cur, rfl, _, _, _, _, _, _⟩
  · have hx : xs = [] := List.eq_nil_of_length_eq_zero h0
    subst hx
    clear h h0
    go_enter Try.func63, Try.ntmps63
    go_wp2
    go_ret
    exact ⟨_, rfl, SlR.nil, Upd.refl _ _⟩
  · have HC : Hid (∀ o j u, (rws encW xs)[j]? = some u → (w.alloc o).cell? ((⟨b, off, none⟩ : Addr).add j) = some u) := Lib.hid (fun o j u hu => by
      rw [Addr.add_lit]
      exact Sl.cell (h.alloc o) j u hu)
    clear h
    go_enter Try.func63, Try.ntmps63
    go_wp2_with (
      at_builtin
      refine wpList_append_own _ rfl (.tmp 5) (.tmp 6) 77 rfl w.heap.size 79 i0 _ 3 24 Try.underlying77 hi0 hz0 hz1 hz2 rfl (by decide) _ 0 [] rfl (World.ownsRow_lit (e := 79) (size := 3) w #[] 0 (Nat.le_refl _) (Nat.zero_le _) rfl) ⟨b, off, none⟩ xs.length cap (rws encW xs) rfl (rws_len encW_len xs) (HC.out _) (rws_one_cell encW_one xs) (by unfold maxLen; omega) (by omega) (by simp) ?_
      intro v' w1 hown' hgrow hnil
      clear hnil
      have hU : Upd (fun k => w.heap.size ≤ k) w w1 := ((Upd.refl (fun k => w.heap.size ≤ k) w).alloc _).grown hgrow (fun k hk hlt => by cases hk; exact Nat.le_refl _)
      rw [List.nil_append, Nat.zero_add] at hown'
      have HST := Lib.hid hown'; clear hown'
      have HU := Lib.hid hU; clear hU
      clear hgrow)
    go_ret
    exact ⟨_, rfl, Sl.own HST.out, HU.out.mono (fun k hk hle => absurd hle (Nat.not_le_of_lt hk))⟩
end Go.Proofs.Ytcgefncddbbnlaa.Fr
