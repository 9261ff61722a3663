/-
  The walks of a row of whole numbers: All; two lists held against each other.
-/
import Derived.Test.YtfpigcjhonfcjaaRingM
import Derived.Test.YtfpigcjhonfcjaaLedgerR
namespace Go.Proofs.Ytfpigcjhonfcjaa
open Go.RowKit

def intVals (l : List Int) : List Value := l.map (Value.int .i64)
theorem intVals_take (l : List Int) (i : Nat) (x : Int) (h : l[i]? = some x) : intVals (l.take (i + 1)) = intVals (l.take i) ++ [.int .i64 x] := by
  unfold intVals
  rw [List.take_add_one, h, List.map_append]
  rfl

set_option maxRecDepth 100000 in
set_option maxHeartbeats 1600000 in
theorem allI (w : World) (g d : Nat) (arr : Array Value) (first n : Nat) (l : List Int) (h : RingI w g d arr first n) (hl : IsList arr first n (intVals l)) :
    Calls Try.prog 44 #[.pointer (some ⟨g, 0, none⟩)] w fun e w' => ∃ v, e = .returned v ∧ w'.ownsRow w.heap.size 3 1 v n (intVals l) ∧ Below w.heap.size w w' := by
  obtain ⟨i0, hi0, hz0, hz1, hz2⟩ := info_parts infoint
  have hn4 : n ≤ 4096 := Nat.le_trans h.hn h.hs
  have hll : l.length = n := by have := hl.1; simpa [intVals] using this
  have HLL := Lib.hid hll; clear hll
  have H := Lib.hid h; clear h
  have HL := Lib.hid hl; clear hl
  go_enter Try.func44, Try.ntmps44
  go_wp2_with fail
  refine (lenI _ g d arr first n H.out).mono ?_
  rintro e w1 ⟨rfl, k1, rfl⟩
  go_wp2_with fail
  go_loopw [3, 9] (fun v vi wr => ∃ i : Nat, i ≤ n ∧ vi = .int .i64 i ∧ wr.ownsRow w.heap.size 3 1 v i (intVals (l.take i)) ∧ Below w.heap.size w wr) (fun _ vi _ => n - (intOf vi).toNat)
  case atStart => exact ⟨0, by omega, rfl, ⟨rfl, .inl ⟨rfl, rfl⟩⟩, below_drewN (Below.refl _ _) _⟩
  case round =>
    obtain ⟨i, hi, rfl, hown, hB⟩ := hrel
    have HB := Lib.hid hB; clear hB
    have HO := Lib.hid hown; clear hown
    by_cases hlt : i < n
    · obtain ⟨x, hx⟩ : ∃ x, l[i]? = some x := ⟨_, List.getElem?_eq_getElem (by rw [HLL.out]; exact hlt)⟩
      have hat := HL.out.2 i (.int .i64 x) (by simp [intVals, hx])
      obtain ⟨m, hm⟩ : ∃ m, (first + i) % arr.size = m := ⟨_, rfl⟩
      rw [hm] at hat
      have HAT := Lib.hid hat; clear hat
      have HM : Hid (((first : Int) + i) % arr.size = m) := Lib.hid (by rw [← hm]; simp)
      have HX := Lib.hid hx; clear hx hm
      have HR : Hid (RingI _ g d arr first n) := Lib.hid (H.out.upd (Upd.of_below HB.out) (by have := H.out.st.lt; omega) (by have := H.out.ar.lt; omega))
      go_wp2_with fail
      refine (atI_yes _ g d arr first n HR.out i m x (by omega) (by omega) HM.out HAT.out).mono ?_
      rintro e w2 ⟨rfl, k2, rfl⟩
      go_wp2_with (
        at_builtin
        refine wpList_append_own _ rfl (.tmp 18) (.tmp 20) 33 rfl w.heap.size 3 i0 _ 1 8 Try.underlying33 hi0 hz0 hz1 hz2 rfl (by decide) _ i (intVals (l.take i)) rfl (World.ownsRow.alloc (w := _) HO.out _) ⟨_, 0, none⟩ 1 1 [.int .i64 x] rfl rfl (new_cells _ _ _) (by simp [Value.oneCell']) (by unfold maxLen; omega) (by omega) (by have := HB.out.size; simp; omega) ?_
        intro v' w3 hown' hgrow hnil
        clear hnil
        have HOWN := Lib.hid hown'; clear hown'
        have HGR := Lib.hid hgrow; clear hgrow)
      go_roundw
      case rel =>
        refine ⟨i + 1, by omega, by go_num, ?_, ?_⟩
        · rw [intVals_take l i x HX.out]; exact HOWN.out
        · exact ((below_drewN HB.out k2).alloc HB.out.size _).grown HGR.out (by have := HB.out.size; simp; omega) (fun k hk => own_ge HO.out hk)
      case measure => simp [intOf]; omega
    · have he : i = n := by omega
      have HE := Lib.hid he; clear he
      go_wp2_with fail
      go_ret
      have ho := HO.out
      rw [HE.out, List.take_of_length_le (by rw [HLL.out]; exact Nat.le_refl _)] at ho
      exact ⟨_, rfl, ho, HB.out⟩

/-- A slice that reads as a list of whole numbers. -/
def Ints (w : World) (v : Value) (l : List Int) : Prop := ∃ A cap, v = .slice A l.length cap ∧ ∀ k x, l[k]? = some x → ∃ ad, A = some ad ∧ w.cell? (ad.add k) = some (.int .i64 x)

set_option maxRecDepth 100000 in
set_option maxHeartbeats 1600000 in
theorem ints14 (w : World) (a b : Value) (l : List Int) (ha : Ints w a l) (hb : Ints w b l) (hl : l.length ≤ 5000) :
    Calls Try.prog 43 #[a, b] w fun e w' => e = .returned (.bool true) ∧ ∃ k, w' = w.drewN k := by
  obtain ⟨A, ca, rfl, ha⟩ := ha
  obtain ⟨B, cb, rfl, hb⟩ := hb
  have HA := Lib.hid ha; clear ha
  have HB := Lib.hid hb; clear hb
  go_enter Try.func43, Try.ntmps43
  go_wp2
  go_loopw [5] (fun vi wr => ∃ i k : Nat, i ≤ l.length ∧ vi = .int .i64 i ∧ wr = w.drewN k) (fun vi _ => l.length - (intOf vi).toNat)
  case atStart => exact ⟨0, 0, by omega, rfl, rfl⟩
  case round =>
    obtain ⟨i, k, hi, rfl, rfl⟩ := hrel
    by_cases hlt : i < l.length
    · obtain ⟨x, hx⟩ : ∃ x, l[i]? = some x := ⟨_, List.getElem?_eq_getElem hlt⟩
      obtain ⟨ad, rfl, c1⟩ := HA.out i x hx
      obtain ⟨bd, rfl, c2⟩ := HB.out i x hx
      clear hx
      have p0 : (0 : Int) ≤ i := by omega
      have p1 : (i : Int) < l.length := by omega
      go_wp2
      go_quiet (fail)
      go_wp2
      go_roundw
      case rel => exact ⟨i + 1, _, by omega, by go_num, rfl⟩
      case measure => simp [intOf]; omega
    · go_wp2
      go_ret
      exact ⟨rfl, _, rfl⟩
end Go.Proofs.Ytfpigcjhonfcjaa
