/-
  RingOrders: what was pushed is popped in that order.
-/
import Derived.Test.YtfpigcjhonfcjaaRingS
import Derived.Test.YtfpigcjhonfcjaaRingI
namespace Go.Proofs.Ytfpigcjhonfcjaa
open Go.RowKit

/-- A row as a list: its n things from 'first' on. -/
def IsList (arr : Array Value) (first n : Nat) (l : List Value) : Prop := l.length = n ∧ ∀ i u, l[i]? = some u → arr[(first + i) % arr.size]? = some u

theorem IsList.nil (arr : Array Value) (first : Nat) : IsList arr first 0 [] := ⟨rfl, fun i u h => by simp at h⟩
theorem IsList.push {arr : Array Value} {first n m : Nat} {l : List Value} (h : IsList arr first n l) (hn : n < arr.size) (hm : (first + n) % arr.size = m) (u : Value) :
    IsList (arr.setIfInBounds m u) first (n + 1) (l ++ [u]) := by
  refine ⟨by simp [h.1], fun i v hv => ?_⟩
  have hmlt : m < arr.size := by rw [← hm]; exact Nat.mod_lt _ (by omega)
  rw [Array.size_setIfInBounds]
  rcases Nat.lt_or_ge i n with hi | hi
  · rw [List.getElem?_append_left (by rw [h.1]; exact hi)] at hv
    rw [Array.getElem?_setIfInBounds_ne, h.2 i v hv]
    intro he
    rw [← hm] at he
    have h1 : (first + n) % arr.size = (first + i) % arr.size := he
    have h2 : ((first + i) + (n - i)) % arr.size = (first + i) % arr.size := by rw [show first + i + (n - i) = first + n from by omega]; exact h1
    have h3 : (n - i) % arr.size = 0 := by
      have := Nat.sub_mod_eq_zero_of_mod_eq h2
      rwa [Nat.add_sub_cancel_left] at this
    rw [Nat.mod_eq_of_lt (by omega)] at h3
    omega
  · have hi2 : i = n := by
      have := (List.getElem?_eq_some_iff.1 hv).1
      simp [h.1] at this
      omega
    subst hi2
    rw [hm, Array.getElem?_setIfInBounds_self_of_lt hmlt]
    rw [← h.1, List.getElem?_append_right (Nat.le_refl _)] at hv
    simpa using hv
theorem IsList.pop {arr : Array Value} {first n m : Nat} {u z : Value} {l : List Value} (h : IsList arr first n (u :: l)) (hf : first < arr.size) (hn : n ≤ arr.size) (hm : (first + 1) % arr.size = m) :
    IsList (arr.setIfInBounds first z) m (n - 1) l := by
  refine ⟨by have := h.1; simp at this; omega, fun i v hv => ?_⟩
  rw [Array.size_setIfInBounds]
  have h0 := h.2 (i + 1) v (by simpa using hv)
  have hlen : i + 1 < n := by
    have h1 := (List.getElem?_eq_some_iff.1 hv).1
    have h2 := h.1
    simp at h2
    omega
  have e : (m + i) % arr.size = (first + (i + 1)) % arr.size := by
    rw [← hm, Nat.mod_add_mod, show first + 1 + i = first + (i + 1) from by omega]
  rw [e, Array.getElem?_setIfInBounds_ne, h0]
  intro he
  have h2 : (first + (i + 1)) % arr.size = first % arr.size := by rw [Nat.mod_eq_of_lt hf]; exact he.symm
  have h3 := Nat.sub_mod_eq_zero_of_mod_eq h2
  rw [Nat.add_sub_cancel_left, Nat.mod_eq_of_lt (by omega)] at h3
  omega
theorem IsList.head {arr : Array Value} {first n : Nat} {u : Value} {l : List Value} (h : IsList arr first n (u :: l)) (hf : first < arr.size) : arr[first]? = some u := by
  have := h.2 0 u rfl
  rwa [Nat.add_zero, Nat.mod_eq_of_lt hf] at this

set_option maxHeartbeats 800000 in
theorem knows14 (w : World) : Calls Try.prog 12 #[] w fun e w' => e = .returned (.bool true) ∧ Below w.heap.size w w' := by
  go_enter Try.func12, Try.ntmps12
  go_wp2_with fail
  refine (newI _ 2 2 (by omega)).mono ?_
  rintro e w1 ⟨g, d, rfl, hg, hd, h1, hB1⟩
  have H1 := Lib.hid h1; clear h1
  have HB := Lib.hid hB1; clear hB1
  go_wp2_with fail
  refine (pushI_yes _ g d _ 0 0 H1.out 1 0 (by simp) (by simp)).mono ?_
  rintro e w2 ⟨rfl, h2, hU⟩
  have H2 := Lib.hid h2; clear h2
  have HU2 := Lib.hid hU; clear hU
  go_wp2_with fail
  refine (pushI_yes _ g d _ 0 1 H2.out 2 1 (by simp) (by simp)).mono ?_
  rintro e w3 ⟨rfl, h3, hU⟩
  have H3 := Lib.hid h3; clear h3
  have HU3 := Lib.hid hU; clear hU
  go_wp2_with fail
  refine (pushI_no _ g d _ 0 2 H3.out 3 (by simp)).mono ?_
  rintro e w4 ⟨rfl, k4, rfl⟩
  go_wp2_with fail
  refine (popI_yes _ g d _ 0 2 (H3.out.drewN k4) 1 1 (by simp) (by simp) (by simp)).mono ?_
  rintro e w5 ⟨rfl, h5, hU⟩
  have H5 := Lib.hid h5; clear h5
  have HU5 := Lib.hid hU; clear hU
  go_wp2_with fail
  refine (pushI_yes _ g d _ 1 1 H5.out 3 0 (by simp) (by simp)).mono ?_
  rintro e w6 ⟨rfl, h6, hU⟩
  have H6 := Lib.hid h6; clear h6
  have HU6 := Lib.hid hU; clear hU
  go_wp2_with fail
  refine (lenI _ g d _ 1 2 H6.out).mono ?_
  rintro e w7 ⟨rfl, k7, rfl⟩
  go_wp2_with fail
  refine (roomI _ g d _ 1 2 (H6.out.drewN k7)).mono ?_
  rintro e w8 ⟨rfl, k8, rfl⟩
  simp only [Array.size_setIfInBounds, Array.size_replicate]
  go_wp2_with fail
  go_ret
  refine ⟨rfl, ?_⟩
  have hS : ∀ k, k = g ∨ k = d → w.heap.size ≤ k := by rintro k (rfl | rfl) <;> assumption
  have b2 := Below.upd HB.out HU2.out HB.out.size hS
  have b3 := Below.upd b2 HU3.out b2.size hS
  have b5 := Below.upd (below_drewN b3 k4) HU5.out b3.size hS
  have b6 := Below.upd b5 HU6.out b5.size hS
  exact below_drewN b6 _

/-- The n-th text that is pushed. -/
def txt (n : Nat) : ByteArray := strOfNums [(n : Int) % 256, (n : Int) / 256]
theorem txt_is (n : Nat) : strOfNums [(n : Int) % 256, (n : Int) / 256] = txt n := rfl

theorem run_two (W : World) (x y : Int) : (convert 27 9 (.slice (some ⟨W.heap.size, 0, none⟩) 2 2)).run Try.prog (W.alloc (.cells #[.int .u8 x, .int .u8 y] 5)) = .ok (.string (strOfNums [x, y])) (W.alloc (.cells #[.int .u8 x, .int .u8 y] 5)) := by
  refine run_convert_bytes_arg (W.alloc (.cells #[.int .u8 x, .int .u8 y] 5)) 27 5 Try.underlying27 Try.underlying5 W.heap.size 0 2 2 [x, y] rfl (fun i hi => ?_) 9 Try.underlying9
  have hb := (Blk.new W 5 #[.int .u8 x, .int .u8 y]).cell (0 + i)
  rw [hb]
  match i, hi with
  | 0, _ => rfl
  | 1, _ => rfl

/-- The texts from 'out' to 'in'. -/
def txts (out n : Nat) : List Value := (List.range n).map fun j => .string (txt (out + j))
theorem txts_push (out n : Nat) : txts out n ++ [.string (txt (out + n))] = txts out (n + 1) := by
  unfold txts
  rw [List.range_succ, List.map_append]
  rfl
theorem txts_pop (out n : Nat) : txts out (n + 1) = .string (txt out) :: txts (out + 1) n := by
  unfold txts
  rw [List.range_succ_eq_map, List.map_cons, List.map_map]
  congr 1
  apply List.map_congr_left
  intro j _
  simp only [Function.comp, Value.string.injEq]
  rw [show out + Nat.succ j = out + 1 + j from by omega]

/-- The row, and how many went in and out. -/
def Sits (w wr : World) (g d i : Nat) (cin cout : Nat) : Prop :=
  ∃ (arr : Array Value) (first n : Nat), RingS wr g d arr first n ∧ IsList arr first n (txts cout n) ∧ cin = cout + n ∧ cin ≤ i ∧ Below w.heap.size w wr

set_option maxRecDepth 100000 in
set_option maxHeartbeats 1600000 in
theorem orders_any (w : World) (room : Int) (_ : (Lit.int .i64 room).wf = true) (A : Option Addr) (len cap : Nat) (ps : Nat → Bool) (hc : ∀ k, k < len → ∃ a, A = some a ∧ a.block < w.heap.size ∧ w.cell? (a.add k) = some (.bool (ps k))) :
    Calls Try.prog 3 #[.int .i64 room, .slice A len cap] w fun e w' => e = .returned (.bool true) ∧ Below w.heap.size w w' := by
  have HC := Lib.hid hc; clear hc
  by_cases hl : 300 < len
  · have e0 : decide ((300 : Int) < (len : Int)) = true := decide_eq_true (by omega)
    go_enter Try.func3, Try.ntmps3
    go_wp2_with (go_at_call 12; refine (knows14 _).mono ?_; rintro e w1 ⟨rfl, hB⟩)
    go_ret
    exact ⟨rfl, hB⟩
  · have e0 : decide ((300 : Int) < (len : Int)) = false := decide_eq_false (by omega)
    obtain ⟨m, hm⟩ : ∃ m : Nat, min (max room 0) 4096 = m := ⟨(min (max room 0) 4096).toNat, by omega⟩
    have hm4 : m ≤ 4096 := by omega
    have HM := Lib.hid hm; clear hm
    go_enter Try.func3, Try.ntmps3
    go_wp2_with fail
    refine (knows14 _).mono ?_
    rintro e w1 ⟨rfl, hB1⟩
    have HB1 := Lib.hid hB1; clear hB1
    go_wp2_with fail
    refine (newS _ room m HM.out).mono ?_
    rintro e w2 ⟨g, d, rfl, hg, hd, h2, hB2⟩
    have HB2 := Lib.hid (HB1.out.trans (hB2.mono HB1.out.size)); clear hB2
    have H2 := Lib.hid h2; clear h2
    have HS : Hid (∀ k, k = g ∨ k = d → w.heap.size ≤ k) := Lib.hid (by have := HB1.out.size; rintro k (rfl | rfl) <;> omega)
    go_wp2_with fail
    go_loopw [6, 7, 8] (fun vin vout vi wr => ∃ (i cin cout : Nat), i ≤ len ∧ vi = .int .i64 i ∧ vin = .int .i64 cin ∧ vout = .int .i64 cout ∧ Sits w wr g d i cin cout) (fun _ _ vi _ => len - (intOf vi).toNat)
    case atStart => exact ⟨0, 0, 0, by omega, rfl, rfl, rfl, ⟨_, 0, 0, H2.out, IsList.nil _ _, rfl, Nat.le_refl _, HB2.out⟩⟩
    case round =>
      obtain ⟨i, cin, cout, hi, rfl, rfl, rfl, HSt⟩ := hrel
      by_cases hlt : i < len
      · obtain ⟨a, rfl, hab, hcell⟩ := HC.out i hlt
        obtain ⟨arr, first, n, hr, hL, hin, hle, hB⟩ := HSt
        have hcell := (hB.cell (p := a.add i) (by rw [block_add]; exact hab)).trans hcell
        obtain ⟨b, hb⟩ : ∃ b, ps i = b := ⟨_, rfl⟩
        rw [hb] at hcell
        clear hb
        have HR := Lib.hid hr; clear hr
        have HL := Lib.hid hL; clear hL
        have HBr := Lib.hid hB; clear hB
        have HIN := Lib.hid hin; clear hin
        have hn4 : n ≤ 4096 := by have := HR.out.hn; have := HR.out.hs; omega
        have hco : cout ≤ cin := by have := HIN.out; omega
        cases b
        · go_wp2_with fail
          rcases Nat.eq_zero_or_pos n with hn | hn
          · have hcc : cin ≤ cout := by have := HIN.out; omega
            have HN := Lib.hid hn; clear hn
            refine (popS_no _ g d arr first n HR.out HN.out).mono ?_
            rintro e w3 ⟨rfl, k3, rfl⟩
            go_wp2_with fail
            go_roundw
            case rel => exact ⟨i + 1, cin, cout, by omega, by go_num, rfl, rfl, arr, first, n, HR.out.drewN _, HL.out, HIN.out, by omega, below_drewN HBr.out _⟩
            case measure => simp [intOf]; omega
          · have hcc : cout < cin := by have := HIN.out; omega
            have hfl := HR.out.hl (by have := HR.out.hn; omega)
            have hL := HL.out
            obtain ⟨n1, rfl⟩ : ∃ n1, n = n1 + 1 := ⟨n - 1, by omega⟩
            rw [txts_pop] at hL
            have HX := Lib.hid (hL.head hfl)
            obtain ⟨m1, hm1⟩ : ∃ m1, (first + 1) % arr.size = m1 := ⟨_, rfl⟩
            have HM1 := Lib.hid hm1; clear hm1
            have HL2 := Lib.hid hL; clear hL
            clear hfl
            have ho := txt_is cout
            refine (popS_yes _ g d arr first (n1 + 1) HR.out (txt cout) m1 hn HX.out HM1.out).mono ?_
            rintro e w3 ⟨rfl, h3, hU3⟩
            have H3 := Lib.hid h3; clear h3
            have HU3 := Lib.hid hU3; clear hU3
            have hconv := run_two w3
            go_wp2_with fail
            go_roundw
            case rel =>
              have b3 := Below.upd HBr.out HU3.out HBr.out.size HS.out
              refine ⟨i + 1, cin, cout + 1, by omega, by go_num, rfl, by go_num, arr.setIfInBounds first (.string { data := #[] }), m1, n1, ?_, HL2.out.pop (HR.out.hl (by have := HR.out.hn; omega)) HR.out.hn HM1.out, by have := HIN.out; omega, by omega, ?_⟩
              · exact H3.out.upd (((Upd.refl (fun _ => False) w3)).alloc _) (fun h => h) (fun h => h)
              · exact b3.alloc b3.size _
            case measure => simp [intOf]; omega
        · have hconv := run_two wr
          have ho := txt_is cin
          go_wp2_with fail
          rcases Nat.lt_or_ge n arr.size with hn | hn
          · obtain ⟨m1, hm1⟩ : ∃ m1, (first + n) % arr.size = m1 := ⟨_, rfl⟩
            have HM1 := Lib.hid hm1; clear hm1
            have hA := HR.out.upd (((Upd.refl (fun _ => False) wr)).alloc (.cells #[.int .u8 ((cin : Int) % 256), .int .u8 ((cin : Int) / 256)] 5)) (fun h => h) (fun h => h)
            have hBA := HBr.out.alloc HBr.out.size (.cells #[.int .u8 ((cin : Int) % 256), .int .u8 ((cin : Int) / 256)] 5)
            have HA := Lib.hid hA; clear hA
            have HBA := Lib.hid hBA; clear hBA
            refine (pushS_yes _ g d arr first n HA.out (txt cin) m1 hn HM1.out).mono ?_
            rintro e w3 ⟨rfl, h3, hU3⟩
            have H3 := Lib.hid h3; clear h3
            have HU3 := Lib.hid hU3; clear hU3
            go_wp2_with fail
            go_roundw
            case rel =>
              have b3 := Below.upd HBA.out HU3.out HBA.out.size HS.out
              have hp := HL.out.push hn HM1.out (.string (txt cin))
              have hin := HIN.out
              rw [hin, txts_push, ← hin] at hp
              exact ⟨i + 1, cin + 1, cout, by omega, by go_num, by go_num, rfl, _, first, n + 1, H3.out, hp, by omega, by omega, b3⟩
            case measure => simp [intOf]; omega
          · have hA := HR.out.upd (((Upd.refl (fun _ => False) wr)).alloc (.cells #[.int .u8 ((cin : Int) % 256), .int .u8 ((cin : Int) / 256)] 5)) (fun h => h) (fun h => h)
            have hBA := HBr.out.alloc HBr.out.size (.cells #[.int .u8 ((cin : Int) % 256), .int .u8 ((cin : Int) / 256)] 5)
            have HA := Lib.hid hA; clear hA
            have HBA := Lib.hid hBA; clear hBA
            refine (pushS_no _ g d arr first n HA.out (txt cin) (by have := HR.out.hn; omega)).mono ?_
            rintro e w3 ⟨rfl, k3, rfl⟩
            go_wp2_with fail
            go_roundw
            case rel =>
              exact ⟨i + 1, cin, cout, by omega, by go_num, rfl, rfl, _, first, n, HA.out.drewN _, HL.out, HIN.out, by omega, below_drewN HBA.out _⟩
            case measure => simp [intOf]; omega
      · obtain ⟨arr, first, n, hr, hL, hin, hle, hB⟩ := HSt
        have HR := Lib.hid hr; clear hr
        have hn := HR.out.hn
        have hs := HR.out.hs
        clear hL
        have HBr := Lib.hid hB; clear hB
        go_wp2_with fail
        refine (lenS _ g d arr first n HR.out).mono ?_
        rintro e w3 ⟨rfl, k3, rfl⟩
        have hco : cout ≤ cin := by omega
        have e1 : ((n : Int) == (cin : Int) - (cout : Int)) = true := beq_iff_eq.2 (by omega)
        have e2 : decide ((n : Int) ≤ (arr.size : Int)) = true := decide_eq_true (by omega)
        clear hin
        go_wp2_with fail
        refine (lenS _ g d arr first n (HR.out.drewN _)).mono ?_
        rintro e w4 ⟨rfl, k4, rfl⟩
        go_wp2_with fail
        refine (roomS _ g d arr first n (HR.out.drewN _)).mono ?_
        rintro e w5 ⟨rfl, k5, rfl⟩
        go_wp2_with fail
        go_ret
        exact ⟨rfl, below_drewN HBr.out _⟩
end Go.Proofs.Ytfpigcjhonfcjaa
