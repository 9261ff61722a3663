/-
  Serve: the statement of the order, walked.
  Serve: the statement of the order, at every input.
-/
import Derived.Test.YtcgefncddbbnlaaSvHIJ
import Derived.Test.YtcgefncddbbnlaaSvPK
import Derived.Test.YtcgefncddbbnlaaFrameI
import Derived.Test.YtcgefncddbbnlaaArgs2
namespace Go.Proofs.Ytcgefncddbbnlaa
open Go.RowKit
attribute [local go_sem] max_ints min_ints

theorem cnt_cntF (M : Int) (ws : List Fr.W3) (p F : Int) (b : Int) : ∀ m : Nat, Fr.cntF M ws p F b m = cnt (fun t => decide (0 < Fr.cntF M ws p F t 1)) b m
  | 0 => rfl
  | m + 1 => by
    unfold cnt
    rw [← cnt_cntF M ws p F b m]
    show Fr.cntF M ws p F b m + (if Fr.isO M ws p ((b + m) % F) then 1 else 0) = _
    have e : Fr.cntF M ws p F (b + m) 1 = if Fr.isO M ws p ((b + m) % F) then 1 else 0 := by
      show 0 + (if Fr.isO M ws p ((b + m + ((0 : Nat) : Int)) % F) then 1 else 0) = _
      rw [show b + m + ((0 : Nat) : Int) = b + m by omega]
      omega
    rw [e]
    cases Fr.isO M ws p ((b + m) % F) <;> simp
/-- What holds of the answers. -/
structure OrdL (M : Int) (ws : List Fr.W3) (p F : Int) (l : List (Int × Int)) (L : List An) : Prop where
  tw : ∀ (k : Nat) a, L[k]? = some a → ∃ q, l[k]? = some q ∧ a.t = q.1 ∧ a.w = q.2
  no : ∀ (k : Nat) a, L[k]? = some a → ¬ 0 ≤ a.b → a.b < 0 ∧ a.d < 0
  ye : ∀ (k : Nat) a, L[k]? = some a → 0 ≤ a.b → a.b ≤ 400 ∧ a.t ≤ a.b ∧ Fr.cntF M ws p F a.b 1 = 1 ∧ (¬ 0 ≤ a.d → a.d < 0) ∧ (0 ≤ a.d → a.b < a.d ∧ a.d ≤ 400 ∧ Fr.cntF M ws p F (a.d - 1) 1 = 1 ∧ a.w ≤ Fr.cntF M ws p F a.b (a.d - a.b).toNat)
  od : ∀ (i j : Nat) a c, i < j → L[i]? = some a → L[j]? = some c → 0 ≤ a.b → 0 ≤ c.b → 0 ≤ a.d ∧ a.d ≤ c.b
theorem cnt1 {M : Int} {ws : List Fr.W3} {p F t : Int} (h : decide (0 < Fr.cntF M ws p F t 1) = true) : Fr.cntF M ws p F t 1 = 1 := by
  have h1 := of_decide_eq_true h
  have h2 := (Fr.cntF_le M ws p F t 1).2
  omega
theorem OrdL.run (M : Int) (ws : List Fr.W3) (p F : Int) (rf : Bool) (C T : Int) (l : List (Int × Int)) (h : Cf.okS C T = true) (hf : fineX 400 l = true) :
    OrdL M ws p F l (Rn.run (fun t => decide (0 < Fr.cntF M ws p F t 1)) (Rn.new rf C T l) 400).out ∧ (Rn.run (fun t => decide (0 < Fr.cntF M ws p F t 1)) (Rn.new rf C T l) 400).out.length = l.length := by
  have hk := RnOk.new rf C T l h (fineA_work 0 l (fineX_parts hf).2.2.2)
  have ho := OrdOk.run (OrdOk.new (own := fun t => decide (0 < Fr.cntF M ws p F t 1)) rf C T l) hk 400 (by omega)
  refine ⟨⟨ho.tw, fun k a ha hb => ?_, fun k a ha hb => ?_, ho.od⟩, (hk.run _ 400 (by omega)).out⟩
  · rcases ho.bg k a ha with e | e
    · rcases ho.dn k a ha with e' | e'
      · omega
      · omega
    · omega
  · rcases ho.bg k a ha with e | ⟨e1, e2, e3, e4⟩
    · omega
    · refine ⟨by omega, e3, cnt1 e4, by omega, fun hd => ?_⟩
      rcases ho.dn k a ha with e' | ⟨d1, d2, d3, d4, d5⟩
      · omega
      · refine ⟨d2, d3, cnt1 d4, ?_⟩
        rw [cnt_cntF]
        exact d5

theorem ordRes (M : Int) (ws : List Fr.W3) (p : Int) (F : Nat) (rf : Bool) (C T : Int) (l : List (Int × Int)) :
    ∃ L er, resX rf C T (decide (Fr.cntO M ws p F = 0)) (fun t => decide (0 < Fr.cntF M ws p F t 1)) 400 l = (L, er) ∧ ((L = [] ∧ er ≠ 0) ∨ (er = 0 ∧ OrdL M ws p F l L ∧ L.length = l.length)) := by
  by_cases h1 : Cf.okS C T = true
  · by_cases h2 : fineX 400 l = false ∨ decide (Fr.cntO M ws p F = 0) = true
    · exact ⟨[], 1, resX_arg rf C T _ _ 400 l h1 h2, .inl ⟨rfl, by decide⟩⟩
    · have h3 : fineX 400 l = true := by
        cases hf : fineX 400 l with
        | true => rfl
        | false => exact absurd (.inl hf) h2
      have h4 : decide (Fr.cntO M ws p F = 0) = false := by
        cases hf : decide (Fr.cntO M ws p F = 0) with
        | false => rfl
        | true => exact absurd (.inr hf) h2
      rw [h4]
      obtain ⟨o1, o2⟩ := OrdL.run M ws p F rf C T l h1 h3
      exact ⟨_, 0, resX_yes rf C T _ 400 l h1 h3, .inr ⟨rfl, o1, o2⟩⟩
  · exact ⟨[], 23, resX_no rf C T _ _ 400 l (by simpa using h1), .inl ⟨rfl, by decide⟩⟩

set_option maxRecDepth 100000 in
set_option maxHeartbeats 12800000 in
theorem orderC (w : World) (rf : Bool) (C T : Int) (A : Option Addr) (cap : Nat) (l : List (Int × Int)) (hc : QRow w A l) (F : Nat) (M : Int) (v : Value) (ws : List Fr.W3) (hw : Fr.RdW w v ws) (p : Int) (hr : Fr.rightB F M ws = true) (hl : l.length ≤ 60) (hws : ws.length ≤ 60) :
    Calls Try.prog 5 #[.agg #[.bool rf, .int .i64 C, .int .i64 T], .slice A l.length cap, .int .i64 F, .int .i64 M, v, .int .i64 p] w fun e w' => e = .returned (.bool true) ∧ Upd (fun _ => False) w w' := by
  have ua := (Upd.refl (fun _ => False) w).alloc (.cells #[.bool rf, .int .i64 C, .int .i64 T] 23)
  have BB := Lib.hid (Blk.new w 23 #[.bool rf, .int .i64 C, .int .i64 T])
  have U0 := Lib.hid ua
  have HQ := Lib.hid (hc.still ua); have HW := Lib.hid (hw.still ua); have HR := Lib.hid hr
  obtain ⟨Aw, capw, rfl, _⟩ := hw
  have d1 : decide (60 < (l.length : Int)) = false := decide_eq_false (by omega)
  have d2 : decide (60 < (ws.length : Int)) = false := decide_eq_false (by omega)
  have d1n : ¬ 60 < l.length := by omega
  have d2n : ¬ 60 < ws.length := by omega
  clear ua hc hr
  generalize hw0 : w.alloc (.cells #[.bool rf, .int .i64 C, .int .i64 T] 23) = w0 at *
  have HW0 := Lib.hid hw0
  clear hw0
  go_enter Try.func5, Try.ntmps5
  go_upto_region 1 with fail
  rw [HW0.out]
  go_wp2_with fail
  refine (Fr.rightR w0 F M _ ws HW.out).mono ?_
  rintro e w1 ⟨rfl, hU⟩
  rw [HR.out]
  have B1 := Lib.hid (BB.out.upd hU (fun h => h)); have U1 := Lib.hid (U0.out.trans hU); have Q1 := Lib.hid (HQ.out.still hU); have W1 := Lib.hid (HW.out.still hU)
  clear hU BB U0 HQ HW
  go_wp2_with fail
  refine (knowsC w1).mono ?_
  rintro e w2 ⟨rfl, hU⟩
  have B2 := Lib.hid (B1.out.upd hU (fun h => h)); have U2 := Lib.hid (U1.out.trans hU); have Q2 := Lib.hid (Q1.out.still hU); have W2 := Lib.hid (W1.out.still hU)
  clear hU B1 U1 Q1 W1
  go_wp2_with fail
  refine (Fr.ownYes w2 F M _ ws W2.out HR.out).mono ?_
  rintro e w3 ⟨base, g, rfl, hg, hT, hU⟩
  have B3 := Lib.hid (B2.out.upd hU (fun h => h)); have U3 := Lib.hid (U2.out.trans hU); have Q3 := Lib.hid (Q2.out.still hU); have T3 := Lib.hid hT
  clear hU B2 U2 Q2 W2 hT hg
  go_upto_region 4 with fail
  refine wp_region_treeF (.q 0 (.q 1 (.q 2 (.q 3 (.l 4 (.l 5 (.q 6 (.q 7 (.q 8 (.q 9 (.q 10 .d))))))))))) (fun _ => false) (fun _ => false) (fun w' => w'.cell? ⟨w.heap.size, 0, none⟩ = some (.bool rf) ∧ w'.cell? ⟨w.heap.size, 1, none⟩ = some (.int .i64 C) ∧ w'.cell? ⟨w.heap.size, 2, none⟩ = some (.int .i64 T))
    (by kernel_rfl) (by kernel_rfl) (by kernel_rfl) (fun t ht => by cases ht) (fun _ _ _ _ _ h => h) (by kernel_rfl) rfl ⟨B3.out.cell 0, B3.out.cell 1, B3.out.cell 2⟩ ?_
  have ud := (Upd.refl (fun _ => False) w3).drew
  have B4 := Lib.hid (B3.out.upd ud (fun h => h)); have U4 := Lib.hid (U3.out.trans ud); have Q4 := Lib.hid (Q3.out.still ud); have T4 := Lib.hid (T3.out.still ud)
  clear ud B3 U3 Q3 T3
  generalize w3.drew = w4 at *
  iterate 4
    (refine' wpOF_q (by rfl) (by rfl) (by rfl) (fun w' hS' => ?_) ?_
     rotate_left
     · obtain ⟨s1, s2, s3⟩ := hS'
       go_simp
       try rfl)
    try simp only [Act.put, List.setIfInBounds_toArray, List.set_cons_zero, List.set_cons_succ]
  refine wpOF_l (by rfl) (by rfl) (fun KQ hKQ => ?_)
  go_simp
  go_at_call 9
  refine (asksC w4 A cap l (by omega) Q4.out).mono ?_
  rintro e w5 ⟨vq, rfl, hS, hU⟩
  have B5 := Lib.hid (B4.out.upd hU (fun h => h)); have U5 := Lib.hid (U4.out.trans hU); have Q5 := Lib.hid (Q4.out.still hU); have T5 := Lib.hid (T4.out.still hU)
  have S5 := Lib.hid (Sl.mono hS (Nat.zero_le _))
  clear hU hS B4 U4 Q4 T4
  refine hKQ _ _ (.inr ⟨B5.out.cell 0, B5.out.cell 1, B5.out.cell 2⟩) ?_
  clear hKQ KQ
  try simp only [Act.put, List.setIfInBounds_toArray, List.set_cons_zero, List.set_cons_succ]
  refine wpOF_l (by rfl) (by rfl) (fun KQ hKQ => ?_)
  go_simp
  go_at_call 16
  refine (inC w5 rf C T base g F M ws p 400 vq l T5.out S5.out (by omega)).mono ?_
  rintro e w6 ⟨ov, rfl, hS, hU⟩
  have B6 := Lib.hid (B5.out.upd hU (fun h => h)); have U6 := Lib.hid (U5.out.trans hU); have Q6 := Lib.hid (Q5.out.still hU); have T6 := Lib.hid (T5.out.still hU)
  obtain ⟨L, er, he, hcase⟩ := ordRes M ws p F rf C T l
  rw [he] at hS ⊢
  have S6 : Hid (SlR encA w6 w5.heap.size 37 4 ov L) := Lib.hid hS
  have HCASE := Lib.hid hcase
  clear hU hS B5 U5 Q5 T5 S5 he hcase
  refine hKQ _ _ (.inr ⟨B6.out.cell 0, B6.out.cell 1, B6.out.cell 2⟩) ?_
  clear hKQ KQ
  try simp only [Act.put, List.setIfInBounds_toArray, List.set_cons_zero, List.set_cons_succ]
  iterate 5
    (refine' wpOF_q (by rfl) (by rfl) (by rfl) (fun w' hS' => ?_) ?_
     rotate_left
     · obtain ⟨s1, s2, s3⟩ := hS'
       go_simp
       try rfl)
    try simp only [Act.put, List.setIfInBounds_toArray, List.set_cons_zero, List.set_cons_succ]
  refine wpOF_d ?_
  obtain ⟨Ao, co, hshape⟩ := S6.out.shape
  subst hshape
  go_wp2_with fail
  refine (numC w6 er).mono ?_
  rintro e w7 ⟨rfl, hU⟩
  have U7 := Lib.hid (U6.out.trans hU); have Q7 := Lib.hid (Q6.out.still hU); have T7 := Lib.hid (T6.out.still hU); have S7 := Lib.hid (S6.out.upd hU (fun _ _ h => h))
  clear hU B6 U6 Q6 T6 S6
  rcases HCASE.out with ⟨hL, her⟩ | ⟨her, ho, hlen⟩
  · have d0 : (er == 0) = false := beq_eq_false_iff_ne.2 her
    have d0' : (er != 0) = true := bne_iff_ne.2 her
    have hL0 : L.length = 0 := by rw [hL]; rfl
    rw [hL0]
    clear hL HCASE hL0
    go_wp2_with fail
    go_returns
    exact ⟨rfl, U7.out⟩
  · subst her
    have HO := Lib.hid ho; have HLE := Lib.hid hlen
    clear ho hlen HCASE
    go_wp2_with fail
    go_loopw [16, 17] (fun v16 v17 wr => ∃ (i : Nat) (last : Int), i ≤ L.length ∧ v17 = .int .i64 i ∧ v16 = .int .i64 last ∧ (∀ (j : Nat) c, i ≤ j → L[j]? = some c → 0 ≤ c.b → last ≤ c.b) ∧ Upd (fun _ => False) w7 wr) (fun _ v17 _ => L.length - (intOf v17).toNat)
    case atStart => exact ⟨0, 0, Nat.zero_le _, rfl, rfl, fun _ _ _ _ h => h, Upd.refl _ _⟩
    case round =>
      obtain ⟨i, last, hi, rfl, rfl, hlast, hU⟩ := hrel
      have HLA := Lib.hid hlast; have UR := Lib.hid hU
      by_cases hlt : i < L.length
      · obtain ⟨a, ha⟩ : ∃ a, L[i]? = some a := ⟨_, List.getElem?_eq_getElem hlt⟩
        have HAA := Lib.hid ha
        have hq : l[i]? = some (a.t, a.w) := by
          obtain ⟨q, hq, hat, haw⟩ := HO.out.tw i a ha
          rw [hq, hat, haw]
        have HQI := Lib.hid hq
        clear hq
        have hv1 : SlR encA wr w5.heap.size 37 4 (.slice Ao L.length co) L := S7.out.upd hU (fun _ _ h => h)
        have HQ7 : Hid (QRow wr A l) := Lib.hid (Q7.out.still hU)
        obtain ⟨lb, lo, lc, e1, _, _, _, _⟩ := hv1.form (by omega)
        injection e1 with e1 e1b e1c
        subst e1; subst e1c
        have c0 : wr.cell? ⟨lb, lo + i * 4, none⟩ = some (.int .i64 a.t) := hv1.cell encA_len i a ha 0 _ rfl
        have c1 : wr.cell? ⟨lb, lo + i * 4 + 1, none⟩ = some (.int .i64 a.w) := hv1.cell encA_len i a ha 1 _ rfl
        have c2 : wr.cell? ⟨lb, lo + i * 4 + 2, none⟩ = some (.int .i64 a.b) := hv1.cell encA_len i a ha 2 _ rfl
        have c3 : wr.cell? ⟨lb, lo + i * 4 + 3, none⟩ = some (.int .i64 a.d) := hv1.cell encA_len i a ha 3 _ rfl
        have dl : decide ((i : Int) < (L.length : Int)) = true := decide_eq_true (by omega)
        have di : decide ((i : Int) < 0) = false := decide_eq_false (by omega)
        have dn : i < L.length := hlt
        have dq : i < l.length := by have := HLE.out; omega
        have dq' : decide ((i : Int) < (l.length : Int)) = true := decide_eq_true (by omega)
        have NO := Lib.hid (HO.out.no i a ha); have YE := Lib.hid (HO.out.ye i a ha)
        have NEXT : Hid (0 ≤ a.b → ∀ (j : Nat) c, i + 1 ≤ j → L[j]? = some c → 0 ≤ c.b → 0 ≤ a.d ∧ a.d ≤ c.b) := Lib.hid (fun hb j c hj hc hcb => HO.out.od i j a c (by omega) ha hc hb hcb)
        have LOW : Hid (0 ≤ a.b → last ≤ a.b) := Lib.hid (HLA.out i a (Nat.le_refl _) ha)
        have LSAME : Hid (∀ (j : Nat) c, i + 1 ≤ j → L[j]? = some c → 0 ≤ c.b → last ≤ c.b) := Lib.hid (fun j c hj hc hcb => HLA.out j c (by omega) hc hcb)
        have TR := Lib.hid (T7.out.still hU)
        obtain ⟨x, y, b, d⟩ := a
        dsimp only at *
        clear ha hv1 e1b hU hlast
        go_upto_region 12 with fail
        clear c0 c1 c2 c3
        have ub := (Upd.refl (fun _ => False) wr).alloc (.cells #[.int .i64 x, .int .i64 y, .int .i64 b, .int .i64 d] 37)
        have BX := Lib.hid (Blk.new wr 37 #[.int .i64 x, .int .i64 y, .int .i64 b, .int .i64 d])
        have UX := Lib.hid (UR.out.trans ub); have TX := Lib.hid (TR.out.still ub)
        have hqx := HQ7.out.still ub
        generalize wr.alloc (.cells #[.int .i64 x, .int .i64 y, .int .i64 b, .int .i64 d] 37) = wx at *
        obtain ⟨qb, qo, rfl, _, q0, q1⟩ := hqx i _ HQI.out
        dsimp only at q0 q1
        have x0 : wx.cell? ⟨wr.heap.size, 0, none⟩ = some (.int .i64 x) := BX.out.cell 0
        have x1 : wx.cell? ⟨wr.heap.size, 1, none⟩ = some (.int .i64 y) := BX.out.cell 1
        have x2 : wx.cell? ⟨wr.heap.size, 2, none⟩ = some (.int .i64 b) := BX.out.cell 2
        have x3 : wx.cell? ⟨wr.heap.size, 3, none⟩ = some (.int .i64 d) := BX.out.cell 3
        clear ub hqx UR TR
        by_cases hb : 0 ≤ b
        · have db : decide (b < 0) = false := decide_eq_false (by omega)
          obtain ⟨y1, y2, y3, y4, y5⟩ := YE.out hb
          have dlast : decide (b < last) = false := decide_eq_false (by have := LOW.out hb; omega)
          have dat : decide (b < x) = false := decide_eq_false (by omega)
          have NX := Lib.hid (NEXT.out hb)
          by_cases hd : 0 ≤ d
          · have dd : decide (0 ≤ d) = true := decide_eq_true hd
            obtain ⟨z1, z2, z3, z4⟩ := y5 hd
            have Y3 := Lib.hid y3; have Z3 := Lib.hid z3; have Z4 := Lib.hid z4
            have hm1 : min (max (1 : Int) 0) 4611686018427387904 = ((1 : Nat) : Int) := rfl
            have hm2 : min (max (d - b) 0) 4611686018427387904 = (((d - b).toNat : Nat) : Int) := by omega
            have HM1 := Lib.hid hm1; have HM2 := Lib.hid hm2
            have hbd : 0 ≤ b ∧ b ≤ 400 := ⟨hb, y1⟩
            have hdd : 0 ≤ d ∧ d ≤ 400 := ⟨hd, z2⟩
            have wd1 : IntKind.i64.wrap (d - 1) = d - 1 := Ck.wrap_in _ (by omega) (by omega)
            have wdb : IntKind.i64.wrap (d - b) = d - b := Ck.wrap_in _ (by omega) (by omega)
            obtain ⟨cw, hcw⟩ : ∃ cw, Fr.cntF M ws p F b (d - b).toNat = cw := ⟨_, rfl⟩
            have HCW := Lib.hid hcw
            have dcw : decide (cw < y) = false := decide_eq_false (by rw [← hcw]; omega)
            clear y3 z3 z4 y4 y5 hm1 hm2 hcw y1 z2
            go_quiet (fail)
            go_wp2_with fail
            refine (Fr.countT _ base g F M ws (TX.out.drewN _) p b 1 1 HM1.out).mono ?_
            rintro e w8 ⟨rfl, k8, h8⟩
            rw [Y3.out]
            have u8 : Upd (fun _ => False) wx w8 := by rw [h8]; exact ((Upd.refl _ wx).drewN _).drewN _
            have B8 := Lib.hid (BX.out.upd u8 (fun h => h)); have U8 := Lib.hid (UX.out.trans u8); have T8 := Lib.hid (TX.out.still u8)
            clear h8 u8 x0 x1 x2 x3 q0 q1
            have x0 : w8.cell? ⟨wr.heap.size, 0, none⟩ = some (.int .i64 x) := B8.out.cell 0
            have x1 : w8.cell? ⟨wr.heap.size, 1, none⟩ = some (.int .i64 y) := B8.out.cell 1
            have x2 : w8.cell? ⟨wr.heap.size, 2, none⟩ = some (.int .i64 b) := B8.out.cell 2
            have x3 : w8.cell? ⟨wr.heap.size, 3, none⟩ = some (.int .i64 d) := B8.out.cell 3
            go_wp2_with fail
            refine wp_region_treeF (.q 0 (.q 1 (.q 2 (.q 3 (.q 4 (.l 5 (.q 6 (.q 7 (.q 8 (.q 9 (.q 10 (.q 11 (.q 12 (.q 13 (.q 14 (.q 15 (.q 16 (.q 18 (.q 19 (.l 17 (.q 20 (.q 21 .d)))))))))))))))))))))) (fun _ => false) (fun _ => false) (fun w' => w'.cell? ⟨wr.heap.size, 1, none⟩ = some (.int .i64 y) ∧ w'.cell? ⟨wr.heap.size, 2, none⟩ = some (.int .i64 b) ∧ w'.cell? ⟨wr.heap.size, 3, none⟩ = some (.int .i64 d))
              (by kernel_rfl) (by kernel_rfl) (by kernel_rfl) (fun t ht => by cases ht) (fun _ _ _ _ _ h => h) (by kernel_rfl) rfl ⟨x1, x2, x3⟩ ?_
            have ud := (Upd.refl (fun _ => False) w8).drew
            have B8' := Lib.hid (B8.out.upd ud (fun h => h)); have U8' := Lib.hid (U8.out.trans ud); have T8' := Lib.hid (T8.out.still ud)
            clear ud B8 U8 T8 x0 x1 x2 x3
            have B8 := B8'; have U8 := U8'; have T8 := T8'
            clear B8' U8' T8'
            generalize w8.drew = w9 at *
            iterate 5
              (refine' wpOF_q (by rfl) (by rfl) (by rfl) (fun w' hS' => ?_) ?_
               rotate_left
               · obtain ⟨s1, s2, s3⟩ := hS'
                 go_simp
                 try rfl)
              try simp only [Act.put, List.setIfInBounds_toArray, List.set_cons_zero, List.set_cons_succ]
            refine wpOF_l (by rfl) (by rfl) (fun KQ hKQ => ?_)
            go_simp
            try rw [wd1]
            go_at_call 19
            have hcall := Fr.countT w9 base g F M ws T8.out p (d - 1) 1 1 HM1.out
            rw [Z3.out] at hcall
            refine hcall.mono ?_
            rintro e wp ⟨rfl, kk, hk⟩
            have u9 : Upd (fun _ => False) w9 wp := by rw [hk]; exact (Upd.refl _ _).drewN _
            have B8' := Lib.hid (B8.out.upd u9 (fun h => h)); have U8' := Lib.hid (U8.out.trans u9); have T8' := Lib.hid (T8.out.still u9)
            clear hk u9 B8 U8 T8 hcall
            have B8 := B8'; have U8 := U8'; have T8 := T8'
            clear B8' U8' T8'
            refine hKQ _ _ (.inr ⟨B8.out.cell 1, B8.out.cell 2, B8.out.cell 3⟩) ?_
            clear hKQ KQ
            try simp only [Act.put, List.setIfInBounds_toArray, List.set_cons_zero, List.set_cons_succ]
            iterate 13
              (refine' wpOF_q (by rfl) (by rfl) (by rfl) (fun w' hS' => ?_) ?_
               rotate_left
               · obtain ⟨s1, s2, s3⟩ := hS'
                 go_simp
                 try rfl)
              try simp only [Act.put, List.setIfInBounds_toArray, List.set_cons_zero, List.set_cons_succ]
            refine wpOF_l (by rfl) (by rfl) (fun KQ hKQ => ?_)
            go_simp
            try rw [wdb]
            go_at_call 19
            have hcall := Fr.countT wp base g F M ws T8.out p b (d - b) _ HM2.out
            rw [HCW.out] at hcall
            refine hcall.mono ?_
            rintro e wz ⟨rfl, kk, hk⟩
            have u9 : Upd (fun _ => False) wp wz := by rw [hk]; exact (Upd.refl _ _).drewN _
            have B8' := Lib.hid (B8.out.upd u9 (fun h => h)); have U8' := Lib.hid (U8.out.trans u9); have T8' := Lib.hid (T8.out.still u9)
            clear hk u9 B8 U8 T8 hcall
            have B8 := B8'; have U8 := U8'; have T8 := T8'
            clear B8' U8' T8'
            refine hKQ _ _ (.inr ⟨B8.out.cell 1, B8.out.cell 2, B8.out.cell 3⟩) ?_
            clear hKQ KQ
            try simp only [Act.put, List.setIfInBounds_toArray, List.set_cons_zero, List.set_cons_succ]
            iterate 2
              (refine' wpOF_q (by rfl) (by rfl) (by rfl) (fun w' hS' => ?_) ?_
               rotate_left
               · obtain ⟨s1, s2, s3⟩ := hS'
                 go_simp
                 try rfl)
              try simp only [Act.put, List.setIfInBounds_toArray, List.set_cons_zero, List.set_cons_succ]
            refine wpOF_d ?_
            go_wp2_with fail
            go_roundw
            case rel => exact ⟨i + 1, d, by omega, by go_num, rfl, fun j c hj hc hcb => (NX.out j c hj hc hcb).2, U8.out⟩
            case measure => simp [intOf]; omega
          · have dd : decide (0 ≤ d) = false := decide_eq_false hd
            have Y3 := Lib.hid y3
            have hm1 : min (max (1 : Int) 0) 4611686018427387904 = ((1 : Nat) : Int) := rfl
            have HM1 := Lib.hid hm1
            clear y3 y4 y5 hm1
            go_quiet (fail)
            go_wp2_with fail
            refine (Fr.countT _ base g F M ws (TX.out.drewN _) p b 1 1 HM1.out).mono ?_
            rintro e w8 ⟨rfl, k8, h8⟩
            rw [Y3.out]
            have u8 : Upd (fun _ => False) wx w8 := by rw [h8]; exact ((Upd.refl _ wx).drewN _).drewN _
            have B8 := Lib.hid (BX.out.upd u8 (fun h => h)); have U8 := Lib.hid (UX.out.trans u8)
            clear h8 u8 x0 x1 x2 x3 q0 q1
            have x3 : w8.cell? ⟨wr.heap.size, 3, none⟩ = some (.int .i64 d) := B8.out.cell 3
            go_wp2_with fail
            go_roundw
            case rel => exact ⟨i + 1, 400, by omega, by go_num, rfl, fun j c hj hc hcb => by have := (NX.out j c hj hc hcb).1; omega, U8.out⟩
            case measure => simp [intOf]; omega
        · have hb' := NO.out hb
          have db : decide (b < 0) = true := decide_eq_true hb'.1
          have dd : decide (0 ≤ d) = false := decide_eq_false (by omega)
          go_quiet (fail)
          go_wp2_with fail
          go_roundw
          case rel => exact ⟨i + 1, last, by omega, by go_num, rfl, LSAME.out, by exact UX.out.drewN nq⟩
          case measure => simp [intOf]; omega
      · have hie : i = L.length := by omega
        subst hie
        clear hU hlast
        have hee : L.length = l.length := HLE.out
        go_wp2_with fail
        go_returns
        exact ⟨by rw [hee]; simp, U7.out.trans UR.out⟩
end Go.Proofs.Ytcgefncddbbnlaa

namespace Go.Proofs.Ytcgefncddbbnlaa
open Go.RowKit
attribute [local go_sem] max_ints min_ints

theorem row3_of {W : World} {A : Option Addr} {len cap : Nat} {xs : Nat → Nat → Int} (hc : Row3 W A len xs) : Fr.RdW W (.slice A len cap) ((List.range len).map (fun k => (xs k 0, xs k 1, xs k 2))) := by
  refine ⟨A, cap, by simp, fun i x hx => ?_⟩
  rw [List.getElem?_map] at hx
  by_cases h : i < len
  · rw [List.getElem?_range h] at hx
    injection hx with hx
    subst hx
    exact hc i h
  · rw [List.getElem?_eq_none (by simpa using Nat.le_of_not_lt h)] at hx
    cases hx
theorem row2_of {W : World} {A : Option Addr} {len : Nat} {xs : Nat → Nat → Int} (hc : Row2 W A len xs) : QRow W A ((List.range len).map (fun k => (xs k 0, xs k 1))) := by
  intro i x hx
  rw [List.getElem?_map] at hx
  by_cases h : i < len
  · rw [List.getElem?_range h] at hx
    injection hx with hx
    subst hx
    exact hc i h
  · rw [List.getElem?_eq_none (by simpa using Nat.le_of_not_lt h)] at hx
    cases hx

set_option maxRecDepth 100000 in
set_option maxHeartbeats 3200000 in
theorem order_any (w : World) (rf : Bool) (C T : Int) (A : Option Addr) (cap : Nat) (l : List (Int × Int)) (hc : QRow w A l) (n M : Int) (Aw : Option Addr) (capw : Nat) (ws : List Fr.W3) (hw : Fr.RdW w (.slice Aw ws.length capw) ws) (p : Int) :
    Calls Try.prog 5 #[.agg #[.bool rf, .int .i64 C, .int .i64 T], .slice A l.length cap, .int .i64 n, .int .i64 M, .slice Aw ws.length capw, .int .i64 p] w fun e w' => e = .returned (.bool true) ∧ Upd (fun _ => False) w w' := by
  have ua := (Upd.refl (fun _ => False) w).alloc (.cells #[.bool rf, .int .i64 C, .int .i64 T] 23)
  have U0 := Lib.hid ua
  have HW := Lib.hid (hw.still ua)
  by_cases h1 : 60 < l.length
  · have d1 : decide (60 < (l.length : Int)) = true := decide_eq_true (by omega)
    clear ua hc hw
    go_enter Try.func5, Try.ntmps5
    go_wp2_with fail
    refine (knowsC _).mono ?_
    rintro e w1 ⟨rfl, hU⟩
    have U1 := Lib.hid (U0.out.trans hU)
    clear hU
    go_wp2_with fail
    go_returns
    exact ⟨rfl, U1.out⟩
  · have d1 : decide (60 < (l.length : Int)) = false := decide_eq_false (by omega)
    by_cases h2 : 60 < ws.length
    · have d2 : decide (60 < (ws.length : Int)) = true := decide_eq_true (by omega)
      clear ua hc hw
      go_enter Try.func5, Try.ntmps5
      go_wp2_with fail
      refine (knowsC _).mono ?_
      rintro e w1 ⟨rfl, hU⟩
      have U1 := Lib.hid (U0.out.trans hU)
      clear hU
      go_wp2_with fail
      go_returns
      exact ⟨rfl, U1.out⟩
    · have d2 : decide (60 < (ws.length : Int)) = false := decide_eq_false (by omega)
      cases hr : Fr.rightB n M ws with
      | true =>
        obtain ⟨f1, f2⟩ : 1 ≤ n ∧ n ≤ 256 := by
          unfold Fr.rightB at hr
          simp only [Bool.and_eq_true, decide_eq_true_eq] at hr
          exact ⟨hr.1.1, hr.1.2.1⟩
        obtain ⟨F, rfl⟩ : ∃ F : Nat, n = F := ⟨n.toNat, by omega⟩
        exact orderC w rf C T A cap l hc F M _ ws hw p hr (by omega) (by omega)
      | false =>
        have HR := Lib.hid hr
        clear ua hc hw hr
        go_enter Try.func5, Try.ntmps5
        go_wp2_with fail
        refine (Fr.rightR _ n M _ ws HW.out).mono ?_
        rintro e w1 ⟨rfl, hU⟩
        rw [HR.out]
        have U1 := Lib.hid (U0.out.trans hU)
        clear hU
        go_wp2_with fail
        refine (knowsC w1).mono ?_
        rintro e w2 ⟨rfl, hU⟩
        have U2 := Lib.hid (U1.out.trans hU)
        clear hU
        go_wp2_with fail
        go_returns
        exact ⟨rfl, U2.out⟩
theorem serveOrder_any (w : World) (s : Bool × Int × Int) (_ : (Lit.int .i64 s.2.1).wf = true ∧ (Lit.int .i64 s.2.2).wf = true) (A : Option Addr) (len cap : Nat) (ks : Nat → Nat → Int) (_ : ∀ k j, k < len → j < 2 → (Lit.int .i64 (ks k j)).wf = true) (hc : Row2 w A len ks)
    (n : Int) (_ : (Lit.int .i64 n).wf = true) (M : Int) (_ : (Lit.int .i64 M).wf = true) (Aw : Option Addr) (lenw capw : Nat) (xs : Nat → Nat → Int) (_ : ∀ k j, k < lenw → j < 3 → (Lit.int .i64 (xs k j)).wf = true) (hx : Row3 w Aw lenw xs) (p : Int) (_ : (Lit.int .i64 p).wf = true) :
    Calls Try.prog 5 #[.agg #[.bool s.1, .int .i64 s.2.1, .int .i64 s.2.2], .slice A len cap, .int .i64 n, .int .i64 M, .slice Aw lenw capw, .int .i64 p] w fun e w' => e = .returned (.bool true) ∧ Below w.heap.size w w' := by
  have hR := row3_of (cap := capw) hx
  have h := order_any w s.1 s.2.1 s.2.2 A cap _ (row2_of hc) n M Aw capw ((List.range lenw).map (fun k => (xs k 0, xs k 1, xs k 2))) (by simpa using hR) p
  rw [List.length_map, List.length_range, List.length_map, List.length_range] at h
  exact h.mono (fun _ _ ⟨h1, h2⟩ => ⟨h1, h2.below (Nat.le_refl _) (fun _ h => h.elim)⟩)
end Go.Proofs.Ytcgefncddbbnlaa
