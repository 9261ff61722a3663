/-
  Serve, plain: a budget of either kind; a server that is asked. No program in sight.
  Serve, plain: all is done in the order in which it came, in its own ticks. No program in sight.
-/
import Derived.Test.YtcgefncddbbnlaaChunkT
import Derived.Test.YtcgefncddbbnlaaRefillF
namespace Go.Proofs.Ytcgefncddbbnlaa

inductive Bs where
  | ch (s : Ck.St17)
  | re (p : Rf.Bp) (xs : List (Int × Int))
def Bs.go (b : Bs) (now : Int) (busy : Bool) : Bs := match b with
  | .ch s => .ch (s.go now busy)
  | .re p xs => .re (Rf.goP p xs now busy).1 (Rf.goP p xs now busy).2
def Bs.live (b : Bs) : Bool := match b with
  | .ch s => decide (0 < s.xs.length)
  | .re _ xs => decide (0 < xs.length)
def Bs.use (b : Bs) : Bs := match b with
  | .ch s => .ch s.use
  | .re p xs => .re p (Rf.takeL xs)
def Bs.done (b : Bs) : Bs := match b with
  | .ch s => .ch s.done
  | .re p xs => .re { p with free := p.free + Rf.sumL xs } []
def Bs.new (rf : Bool) (C T : Int) : Bs := if rf = true then .re (Rf.Bp.new rf C T 0) [] else .ch (Ck.St17.new rf C T)
structure FineR (p : Rf.Bp) (xs : List (Int × Int)) : Prop where
  C1 : 1 ≤ p.C
  CT : p.C ≤ p.T
  T1 : p.T ≤ 1000
  start : p.start = 0
  now : 0 ≤ p.now
  now2 : p.now ≤ 2305843009213693952
  free : 0 ≤ p.free
  fine : Rf.fineL xs
  sum : p.free + Rf.sumL xs ≤ p.C
theorem FineR.pos {p : Rf.Bp} {xs : List (Int × Int)} (h : FineR p xs) : 0 ≤ Rf.sumL xs ∧ (xs.length : Int) ≤ Rf.sumL xs := by
  have := Rf.sumL_bound xs h.fine
  omega
theorem FineR.len {p : Rf.Bp} {xs : List (Int × Int)} (h : FineR p xs) : xs.length ≤ 1000 := by
  have h1 := h.pos
  have h2 := h.sum
  have h3 := h.free
  have h4 := h.CT
  have h5 := h.T1
  omega
theorem FineR.fr {p : Rf.Bp} {xs : List (Int × Int)} (h : FineR p xs) (now : Int) : 0 ≤ Rf.goFree p xs now ∧ Rf.goFree p xs now + Rf.sumL xs ≤ p.C := by
  have h1 := h.pos
  have h2 := h.free
  have h3 := h.sum
  unfold Rf.goFree
  split <;> omega
theorem FineR.go {p : Rf.Bp} {xs : List (Int × Int)} (h : FineR p xs) (now : Int) (h0 : 0 ≤ now) (h1 : now ≤ 2305843009213693952) (busy : Bool) : FineR (Rf.goP p xs now busy).1 (Rf.goP p xs now busy).2 := by
  obtain ⟨f0, f1⟩ := h.fr now
  have hs := h.pos
  unfold Rf.goP
  split
  next hc =>
    refine ⟨h.C1, h.CT, h.T1, h.start, h0, h1, Int.le_refl _, ?_, ?_⟩
    · intro x hx
      rcases List.mem_append.1 hx with hx | hx
      · exact h.fine x hx
      · simp at hx
        subst hx
        have h2 := h.CT
        have h3 := h.T1
        exact ⟨hc.2.2, by show Rf.goFree p xs now ≤ 1000; omega⟩
    · rw [Rf.sumL_append]
      simp only [Rf.sumL]
      omega
  next hc => exact ⟨h.C1, h.CT, h.T1, h.start, h0, h1, f0, h.fine, f1⟩
theorem takeL_fine : ∀ (xs : List (Int × Int)), Rf.fineL xs → Rf.fineL (Rf.takeL xs) ∧ Rf.sumL (Rf.takeL xs) ≤ Rf.sumL xs
  | [], h => ⟨h, Int.le_refl _⟩
  | x :: t, h => by
    have hx := h x (by simp)
    have ht : Rf.fineL t := fun y hy => h y (by simp [hy])
    rw [Rf.takeL_cons]
    split
    · exact ⟨ht, by simp only [Rf.sumL]; omega⟩
    · refine ⟨fun y hy => ?_, by simp only [Rf.sumL]; omega⟩
      rcases List.mem_cons.1 hy with rfl | hy
      · dsimp only; omega
      · exact ht y hy
theorem FineR.use {p : Rf.Bp} {xs : List (Int × Int)} (h : FineR p xs) : FineR p (Rf.takeL xs) := by
  obtain ⟨h1, h2⟩ := takeL_fine xs h.fine
  have h3 := h.sum
  exact ⟨h.C1, h.CT, h.T1, h.start, h.now, h.now2, h.free, h1, by omega⟩
theorem FineR.done {p : Rf.Bp} {xs : List (Int × Int)} (h : FineR p xs) : FineR { p with free := p.free + Rf.sumL xs } [] := by
  have h1 := h.pos
  have h2 := h.free
  have h3 := h.sum
  exact ⟨h.C1, h.CT, h.T1, h.start, h.now, h.now2, by show 0 ≤ p.free + Rf.sumL xs; omega, (fun x hx => by cases hx), by show p.free + Rf.sumL xs + 0 ≤ p.C; omega⟩
def FineBs (b : Bs) : Prop := match b with
  | .ch s => Ck.FineC s
  | .re p xs => FineR p xs
theorem FineBs.go {b : Bs} (h : FineBs b) (now : Int) (h0 : 0 ≤ now) (h1 : now ≤ 2305843009213693952) (busy : Bool) : FineBs (b.go now busy) := by
  cases b with
  | ch s => exact Ck.FineC.go h now h0 h1 busy
  | re p xs => exact FineR.go h now h0 h1 busy
theorem FineBs.use {b : Bs} (h : FineBs b) : FineBs b.use := by
  cases b with
  | ch s => exact Ck.FineC.use h
  | re p xs => exact FineR.use h
theorem FineBs.done {b : Bs} (h : FineBs b) : FineBs b.done := by
  cases b with
  | ch s => exact Ck.FineC.done h
  | re p xs => exact FineR.done h
theorem FineBs.new (rf : Bool) (C T : Int) (h : Cf.okS C T = true) : FineBs (Bs.new rf C T) := by
  obtain ⟨h1, h2, h3⟩ : 1 ≤ C ∧ C ≤ T ∧ T ≤ 1000 := of_decide_eq_true h
  unfold Bs.new
  split
  · exact ⟨h1, h2, h3, rfl, Int.le_refl _, (by decide : (0 : Int) ≤ 2305843009213693952), (by show 0 ≤ C; omega), (fun x hx => by cases hx), (by show C + 0 ≤ C; omega)⟩
  · exact Ck.FineC.new rf C T h1 h2 h3

/-- An answer. -/
structure An where
  t : Int
  w : Int
  b : Int
  d : Int
/-- A server that is asked: its budget; what waits, by places; what is left of each; the answers; which comes next. -/
structure Rn where
  bs : Bs
  wait : List Nat
  left : List Int
  out : List An
  next : Nat
def Rn.push (r : Rn) : Rn := { r with wait := if r.wait.length < 8 then r.wait ++ [r.next] else r.wait, next := r.next + 1 }
def Rn.comes (r : Rn) (now : Int) : Bool := match r.out[r.next]? with
  | some a => a.t == now
  | none => false
def Rn.come (now : Int) : Nat → Rn → Rn
  | 0, r => r
  | n + 1, r => if r.comes now = true then Rn.come now n r.push else r
def An.begin (a : An) (now : Int) : An := if a.b = -1 then { a with b := now } else a
def Rn.use (r : Rn) (now : Int) : Rn := match r.wait with
  | [] => r
  | k :: t =>
    if r.bs.live = true then
      match r.out[k]?, r.left[k]? with
      | some a, some l =>
        if 0 < l - 1 then { r with bs := r.bs.use, left := r.left.set k (l - 1), out := r.out.set k (a.begin now) }
        else { r with bs := if t = [] then r.bs.use.done else r.bs.use, wait := t, left := r.left.set k (l - 1), out := r.out.set k { a.begin now with d := now + 1 } }
      | _, _ => r
    else r
def Rn.go (r : Rn) (now : Int) : Rn := { r with bs := r.bs.go now (decide (0 < r.wait.length)) }
def Rn.tick (own : Int → Bool) (r : Rn) (now : Int) : Rn :=
  let r1 := (Rn.come now r.out.length r).go now
  if own now = true then r1.use now else r1
def Rn.run (own : Int → Bool) (r : Rn) : Nat → Rn
  | 0 => r
  | n + 1 => (Rn.run own r n).tick own n
def Rn.new (rf : Bool) (C T : Int) (l : List (Int × Int)) : Rn := ⟨Bs.new rf C T, [], l.map Prod.snd, l.map (fun a => ⟨a.1, a.2, -1, -1⟩), 0⟩
/-- What is kept: the places that wait are such, have come, in order, and have work left. -/
structure RnOk (r : Rn) (N : Nat) : Prop where
  out : r.out.length = N
  left : r.left.length = N
  next : r.next ≤ N
  wait : ∀ k ∈ r.wait, k < r.next
  up : r.wait.Pairwise (· < ·)
  few : r.wait.length ≤ 8
  bs : FineBs r.bs
  ls : ∀ x ∈ r.left, 0 ≤ x ∧ x ≤ 1048576
  pos : ∀ k, (k ∈ r.wait ∨ r.next ≤ k) → ∀ x, r.left[k]? = some x → 1 ≤ x
theorem RnOk.push {r : Rn} {N : Nat} (h : RnOk r N) (hn : r.next < N) : RnOk r.push N := by
  have hw : ∀ k, k ∈ r.push.wait → k ∈ r.wait ∨ k = r.next := fun k hk => by
    unfold Rn.push at hk
    dsimp only at hk
    split at hk
    · simpa using hk
    · exact .inl hk
  refine ⟨h.out, h.left, hn, fun k hk => ?_, ?_, ?_, h.bs, h.ls, fun k hk x hx => ?_⟩
  · rcases hw k hk with h1 | h1
    · have := h.wait k h1; show k < r.next + 1; omega
    · show k < r.next + 1; omega
  · unfold Rn.push
    dsimp only
    split
    · refine List.pairwise_append.2 ⟨h.up, by simp, fun a ha b hb => ?_⟩
      simp at hb
      have := h.wait a ha
      omega
    · exact h.up
  · unfold Rn.push
    dsimp only
    split
    · rw [List.length_append]; simp; omega
    · exact h.few
  · have hx' : r.left[k]? = some x := hx
    rcases hk with hk | hk
    · rcases hw k hk with h1 | h1
      · exact h.pos k (.inl h1) x hx'
      · exact h.pos k (.inr (by omega)) x hx'
    · exact h.pos k (.inr (by have : r.next + 1 ≤ k := hk; omega)) x hx'
theorem RnOk.comes {r : Rn} {N : Nat} (h : RnOk r N) {now : Int} (hc : r.comes now = true) : r.next < N := by
  unfold Rn.comes at hc
  cases he : r.out[r.next]? with
  | none => rw [he] at hc; cases hc
  | some a => rw [← h.out]; exact (List.getElem?_eq_some_iff.1 he).1
theorem RnOk.come {N : Nat} (now : Int) : ∀ (n : Nat) (r : Rn), RnOk r N → RnOk (Rn.come now n r) N
  | 0, _, h => h
  | n + 1, r, h => by
    unfold Rn.come
    split
    next hc => exact RnOk.come now n r.push (h.push (h.comes hc))
    next => exact h
theorem RnOk.go {r : Rn} {N : Nat} (h : RnOk r N) (now : Int) (h0 : 0 ≤ now) (h1 : now ≤ 2305843009213693952) : RnOk (r.go now) N :=
  ⟨h.out, h.left, h.next, h.wait, h.up, h.few, h.bs.go now h0 h1 _, h.ls, h.pos⟩
theorem RnOk.use {r : Rn} {N : Nat} (h : RnOk r N) (now : Int) : RnOk (r.use now) N := by
  unfold Rn.use
  split
  next => exact h
  next k t hkt =>
    split
    next =>
      split
      next a l ha hl =>
        have hk := h.wait k (by rw [hkt]; simp)
        have h1 := h.pos k (.inl (by rw [hkt]; simp)) l hl
        have hlb := h.ls l (List.mem_of_getElem? hl)
        have hs : ∀ x ∈ r.left.set k (l - 1), 0 ≤ x ∧ x ≤ 1048576 := fun x hx => by
          rcases List.mem_or_eq_of_mem_set hx with hx | rfl
          · exact h.ls x hx
          · omega
        have hup := h.up
        rw [hkt] at hup
        obtain ⟨hup1, hup2⟩ := List.pairwise_cons.1 hup
        split
        next hp =>
          refine ⟨by simp [h.out], by simp [h.left], h.next, h.wait, h.up, h.few, h.bs.use, hs, fun q hq x hx => ?_⟩
          by_cases e : q = k
          · subst e
            rw [List.getElem?_set_self (by rw [h.left]; have := h.next; omega)] at hx
            simp at hx
            omega
          · rw [List.getElem?_set_ne (fun e' => e e'.symm)] at hx
            exact h.pos q hq x hx
        next hp =>
          refine ⟨by simp [h.out], by simp [h.left], h.next, fun q hq => h.wait q (by rw [hkt]; exact List.mem_cons_of_mem _ hq), hup2, by have := h.few; rw [hkt] at this; simp at this; show t.length ≤ 8; omega, ?_, hs, fun q hq x hx => ?_⟩
          · show FineBs (if t = [] then r.bs.use.done else r.bs.use)
            split
            · exact h.bs.use.done
            · exact h.bs.use
          · have hne : q ≠ k := fun e => by
              subst e
              rcases hq with hq | hq
              · have := hup1 q hq; omega
              · have : r.next ≤ q := hq; omega
            rw [List.getElem?_set_ne (fun e' => hne e'.symm)] at hx
            refine h.pos q (hq.imp (fun hq => ?_) id) x hx
            rw [hkt]
            exact List.mem_cons_of_mem _ hq
      next => exact h
    next => exact h
theorem RnOk.tick {r : Rn} {N : Nat} (h : RnOk r N) (own : Int → Bool) (now : Int) (h0 : 0 ≤ now) (h1 : now ≤ 2305843009213693952) : RnOk (r.tick own now) N := by
  have h2 := (RnOk.come now r.out.length r h).go now h0 h1
  unfold Rn.tick
  dsimp only
  split
  · exact h2.use now
  · exact h2
theorem RnOk.run {r : Rn} {N : Nat} (h : RnOk r N) (own : Int → Bool) : ∀ (n : Nat), n ≤ 1000000 → RnOk (Rn.run own r n) N
  | 0, _ => h
  | n + 1, hn => (RnOk.run h own n (by omega)).tick own n (by omega) (by omega)
end Go.Proofs.Ytcgefncddbbnlaa

namespace Go.Proofs.Ytcgefncddbbnlaa

def cnt (own : Int → Bool) (b : Int) : Nat → Int
  | 0 => 0
  | n + 1 => cnt own b n + if own (b + n) = true then 1 else 0
theorem cnt_le (own : Int → Bool) (b : Int) (n : Nat) : cnt own b n ≤ cnt own b (n + 1) := by
  show cnt own b n ≤ cnt own b n + (if own (b + n) = true then 1 else 0)
  split <;> omega
structure OrdOk (l : List (Int × Int)) (own : Int → Bool) (s : Rn) (now : Int) : Prop where
  tw : ∀ (k : Nat) a, s.out[k]? = some a → ∃ q, l[k]? = some q ∧ a.t = q.1 ∧ a.w = q.2
  wt : ∀ k ∈ s.wait, ∀ a, s.out[k]? = some a → a.d = -1 ∧ a.t ≤ now
  hd : ∀ k t, s.wait = k :: t → ∀ j ∈ t, ∀ a, s.out[j]? = some a → a.b = -1
  nx : ∀ k, s.next ≤ k → ∀ a, s.out[k]? = some a → a.b = -1 ∧ a.d = -1
  bg : ∀ (k : Nat) a, s.out[k]? = some a → a.b = -1 ∨ (0 ≤ a.b ∧ a.b < now ∧ a.t ≤ a.b ∧ own a.b = true)
  dn : ∀ (k : Nat) a, s.out[k]? = some a → a.d = -1 ∨ (0 ≤ a.b ∧ a.b < a.d ∧ a.d ≤ now ∧ own (a.d - 1) = true ∧ a.w ≤ cnt own a.b (a.d - a.b).toNat)
  un : ∀ (k : Nat) a, s.out[k]? = some a → k ∉ s.wait → 0 ≤ a.b → 0 ≤ a.d
  lf : ∀ (k : Nat) a x, s.out[k]? = some a → s.left[k]? = some x → a.b = -1 → x = a.w
  hw : ∀ k ∈ s.wait, ∀ a x, s.out[k]? = some a → s.left[k]? = some x → 0 ≤ a.b → a.w - x ≤ cnt own a.b (now - a.b).toNat
  od : ∀ (i j : Nat) a c, i < j → s.out[i]? = some a → s.out[j]? = some c → 0 ≤ a.b → 0 ≤ c.b → 0 ≤ a.d ∧ a.d ≤ c.b
  lo : ∀ (k : Nat) a, s.out[k]? = some a → 0 ≤ a.b → ∀ j ∈ s.wait, k ≤ j
variable {l : List (Int × Int)} {own : Int → Bool} {s : Rn} {now : Int} {N : Nat}
theorem OrdOk.later (h : OrdOk l own s now) : OrdOk l own s (now + 1) := by
  refine ⟨h.tw, fun k hk a ha => ?_, h.hd, h.nx, fun k a ha => ?_, fun k a ha => ?_, h.un, h.lf, fun k hk a x ha hx hb => ?_, h.od, h.lo⟩
  · have := h.wt k hk a ha; omega
  · rcases h.bg k a ha with h1 | ⟨h1, h2, h3, h4⟩
    · exact .inl h1
    · exact .inr ⟨h1, by omega, h3, h4⟩
  · rcases h.dn k a ha with h1 | ⟨h1, h2, h3, h4⟩
    · exact .inl h1
    · exact .inr ⟨h1, h2, by omega, h4⟩
  · have h1 := h.hw k hk a x ha hx hb
    rcases h.bg k a ha with h2 | ⟨_, h2, _, _⟩
    · omega
    · have e : (now + 1 - a.b).toNat = (now - a.b).toNat + 1 := by omega
      rw [e]
      have := cnt_le own a.b (now - a.b).toNat
      omega
theorem OrdOk.push (h : OrdOk l own s now) (hc : s.comes now = true) (hk : RnOk s N) : OrdOk l own s.push now := by
  have ht : ∀ a, s.out[s.next]? = some a → a.t = now := fun a ha => by
    unfold Rn.comes at hc
    rw [ha] at hc
    exact beq_iff_eq.1 hc
  have hw : ∀ k, k ∈ s.push.wait → k ∈ s.wait ∨ k = s.next := fun k hk => by
    unfold Rn.push at hk
    dsimp only at hk
    split at hk
    · simpa using hk
    · exact .inl hk
  have hw2 : ∀ k, k ∈ s.wait → k ∈ s.push.wait := fun k hk => by
    unfold Rn.push
    dsimp only
    split
    · simp [hk]
    · exact hk
  refine ⟨h.tw, fun k hk a ha => ?_, fun k t e j hj a ha => ?_, fun k hk a ha => ?_, h.bg, h.dn, fun k a ha hn hb => h.un k a ha (fun hm => hn (hw2 k hm)) hb, h.lf, fun k hk a x ha hx hb => ?_, h.od, fun k a ha hb j hj => ?_⟩
  · rcases hw k hk with h1 | rfl
    · exact h.wt k h1 a ha
    · exact ⟨(h.nx _ (Nat.le_refl _) a ha).2, by rw [ht a ha]; exact Int.le_refl _⟩
  · have ha' : s.out[j]? = some a := ha
    by_cases hjn : s.next ≤ j
    · exact (h.nx j hjn a ha').1
    · unfold Rn.push at e
      dsimp only at e
      cases hws : s.wait with
      | nil =>
        rw [hws] at e
        have et : t = [] := by
          simp at e
          first | exact e.2 | exact e.2.symm
        rw [et] at hj
        cases hj
      | cons k2 t2 =>
        rw [hws] at e
        split at e
        · simp at e
          rw [← e.2] at hj
          rcases List.mem_append.1 hj with h1 | h1
          · exact h.hd k2 t2 hws j h1 a ha'
          · simp at h1; omega
        · simp at e
          rw [← e.2] at hj
          exact h.hd k2 t2 hws j hj a ha'
  · exact h.nx k (by have : s.next + 1 ≤ k := hk; omega) a ha
  · rcases hw k hk with h1 | rfl
    · exact h.hw k h1 a x ha hx hb
    · have := (h.nx _ (Nat.le_refl _) a ha).1; omega
  · rcases hw j hj with h1 | rfl
    · exact h.lo k a ha hb j h1
    · by_cases hkn : s.next ≤ k
      · have := (h.nx k hkn a ha).1; omega
      · omega
theorem OrdOk.come : ∀ (n : Nat) (s : Rn), OrdOk l own s now → RnOk s N → OrdOk l own (Rn.come now n s) now
  | 0, _, h, _ => h
  | n + 1, s, h, hk => by
    unfold Rn.come
    split
    next hc => exact OrdOk.come n s.push (h.push hc hk) (hk.push (hk.comes hc))
    next => exact h
theorem OrdOk.same {s' : Rn} (h : OrdOk l own s now) (h1 : s'.out = s.out) (h2 : s'.wait = s.wait) (h3 : s'.left = s.left) (h4 : s'.next = s.next) : OrdOk l own s' now := by
  obtain ⟨bs, wt, lf, ou, nx⟩ := s
  obtain ⟨bs', wt', lf', ou', nx'⟩ := s'
  dsimp only at h1 h2 h3 h4
  subst h1 h2 h3 h4
  exact ⟨h.tw, h.wt, h.hd, h.nx, h.bg, h.dn, h.un, h.lf, h.hw, h.od, h.lo⟩
theorem set_get {α : Type} {l : List α} {k j : Nat} {a c : α} (h : (l.set k a)[j]? = some c) : (j = k ∧ c = a) ∨ (j ≠ k ∧ l[j]? = some c) := by
  by_cases e : j = k
  · subst e
    have hlt : j < l.length := by
      have := (List.getElem?_eq_some_iff.1 h).1
      simpa using this
    rw [List.getElem?_set_self hlt] at h
    injection h with h
    exact .inl ⟨rfl, h.symm⟩
  · rw [List.getElem?_set_ne (fun q => e q.symm)] at h
    exact .inr ⟨e, h⟩
theorem OrdOk.used (h : OrdOk l own s now) (hk : RnOk s N) (h0 : 0 ≤ now) (ho : own now = true) {k : Nat} {t : List Nat} {a : An} {x : Int} (hw : s.wait = k :: t) (ha : s.out[k]? = some a) (hx : s.left[k]? = some x)
    {s' : Rn} {d' : Int} (h1 : s'.out = s.out.set k { a.begin now with d := d' }) (h2 : (s'.wait = k :: t ∧ d' = -1) ∨ (s'.wait = t ∧ d' = now + 1 ∧ x = 1)) (h3 : s'.left = s.left.set k (x - 1)) (h4 : s'.next = s.next) : OrdOk l own s' (now + 1) := by
  obtain ⟨bs', wt', lf', ou', nx'⟩ := s'
  dsimp only at h1 h2 h3 h4
  subst h1 h3 h4
  have hm : k ∈ s.wait := by rw [hw]; simp
  have hkn := hk.wait k hm
  have hup := hk.up
  rw [hw] at hup
  obtain ⟨hup1, hup2⟩ := List.pairwise_cons.1 hup
  obtain ⟨b', hb'⟩ : ∃ b', (if a.b = -1 then now else a.b) = b' := ⟨_, rfl⟩
  have hbe : ({ a.begin now with d := d' } : An) = ⟨a.t, a.w, b', d'⟩ := by
    unfold An.begin
    rw [← hb']
    split <;> rfl
  rw [hbe]
  obtain ⟨wd, wtt⟩ := h.wt k hm a ha
  have hbb : 0 ≤ b' ∧ b' < now + 1 ∧ a.t ≤ b' ∧ own b' = true := by
    rw [← hb']
    split
    · exact ⟨h0, by omega, wtt, ho⟩
    · next hn =>
      rcases h.bg k a ha with e | ⟨e1, e2, e3, e4⟩
      · exact absurd e hn
      · exact ⟨e1, by omega, e3, e4⟩
  have hcnt : a.w - (x - 1) ≤ cnt own b' (now + 1 - b').toNat := by
    rw [← hb']
    split
    next e =>
      have := h.lf k a x ha hx e
      have e2 : (now + 1 - now).toNat = 0 + 1 := by omega
      rw [e2]
      unfold cnt cnt
      rw [if_pos (by simpa using ho)]
      omega
    next e =>
      have hb0 : 0 ≤ a.b ∧ a.b < now := by
        rcases h.bg k a ha with e' | ⟨e1, e2, _⟩
        · exact absurd e' e
        · exact ⟨e1, e2⟩
      have := h.hw k hm a x ha hx hb0.1
      have e2 : (now + 1 - a.b).toNat = (now - a.b).toNat + 1 := by omega
      rw [e2]
      unfold cnt
      rw [if_pos (by rw [show a.b + (((now - a.b).toNat : Nat) : Int) = now by omega]; exact ho)]
      omega
  have hws : ∀ j, j ∈ wt' → j ∈ s.wait := fun j hj => by
    rw [hw]
    rcases h2 with ⟨e, _⟩ | ⟨e, _⟩
    · rw [e] at hj; exact hj
    · rw [e] at hj; exact List.mem_cons_of_mem _ hj
  have htl : ∀ j ∈ t, j ≠ k := fun j hj => by have := hup1 j hj; omega
  have hwk : ∀ j, j ∈ s.wait → j = k ∨ j ∈ t := fun j hj => by rw [hw] at hj; simpa using hj
  refine ⟨fun j c hc => ?_, fun j hj c hc => ?_, fun j tj e i hi c hc => ?_, fun j hj c hc => ?_, fun j c hc => ?_, fun j c hc => ?_, fun j c hc hn hb => ?_, fun j c y hc hy hb => ?_, fun j hj c y hc hy hb => ?_, fun i j c c2 hij hc hc2 hb hb2 => ?_, fun j c hc hb i hi => ?_⟩
  · rcases set_get hc with ⟨rfl, rfl⟩ | ⟨_, hc⟩
    · exact h.tw j a ha
    · exact h.tw j c hc
  · rcases set_get hc with ⟨rfl, rfl⟩ | ⟨hne, hc⟩
    · rcases h2 with ⟨_, e⟩ | ⟨e, _⟩
      · exact ⟨e, by show a.t ≤ now + 1; omega⟩
      · have hj : j ∈ wt' := hj
        rw [e] at hj
        exact absurd rfl (htl j hj)
    · have := h.wt j (hws j hj) c hc
      omega
  · have e : wt' = j :: tj := e
    have hit : i ∈ t := by
      rcases h2 with ⟨e', _⟩ | ⟨e', _⟩
      · rw [e'] at e
        injection e with _ e
        rw [e]; exact hi
      · rw [e'] at e
        rw [e]
        exact List.mem_cons_of_mem _ hi
    rcases set_get hc with ⟨rfl, rfl⟩ | ⟨hne, hc⟩
    · exact absurd rfl (htl i hit)
    · exact h.hd k t hw i hit c hc
  · have hj : s.next ≤ j := hj
    rcases set_get hc with ⟨rfl, rfl⟩ | ⟨hne, hc⟩
    · omega
    · exact h.nx j hj c hc
  · rcases set_get hc with ⟨rfl, rfl⟩ | ⟨hne, hc⟩
    · exact .inr hbb
    · rcases h.bg j c hc with e | ⟨e1, e2, e3⟩
      · exact .inl e
      · exact .inr ⟨e1, by omega, e3⟩
  · rcases set_get hc with ⟨rfl, rfl⟩ | ⟨hne, hc⟩
    · rcases h2 with ⟨_, e⟩ | ⟨_, e, ex⟩
      · exact .inl e
      · refine .inr ⟨hbb.1, ?_, ?_, ?_, ?_⟩
        · show b' < d'; omega
        · show d' ≤ now + 1; omega
        · show own (d' - 1) = true
          rw [e, show now + 1 - 1 = now by omega]
          exact ho
        · show a.w ≤ cnt own b' (d' - b').toNat
          rw [e]
          omega
    · rcases h.dn j c hc with e | ⟨e1, e2, e3, e4⟩
      · exact .inl e
      · exact .inr ⟨e1, e2, by omega, e4⟩
  · have hn : j ∉ wt' := hn
    rcases set_get hc with ⟨rfl, rfl⟩ | ⟨hne, hc⟩
    · rcases h2 with ⟨e, _⟩ | ⟨_, e, _⟩
      · rw [e] at hn; simp at hn
      · show 0 ≤ d'; omega
    · refine h.un j c hc (fun hj => hn ?_) hb
      rcases hwk j hj with e | hj
      · exact absurd e hne
      · rcases h2 with ⟨e, _⟩ | ⟨e, _⟩
        · rw [e]; exact List.mem_cons_of_mem _ hj
        · rw [e]; exact hj
  · rcases set_get hc with ⟨rfl, rfl⟩ | ⟨hne, hc⟩
    · have : b' = -1 := hb
      omega
    · rcases set_get hy with ⟨e, _⟩ | ⟨_, hy⟩
      · exact absurd e hne
      · exact h.lf j c y hc hy hb
  · have hj : j ∈ wt' := hj
    rcases set_get hc with ⟨rfl, rfl⟩ | ⟨hne, hc⟩
    · rcases set_get hy with ⟨_, rfl⟩ | ⟨e, _⟩
      · exact hcnt
      · exact absurd rfl e
    · rcases set_get hy with ⟨e, _⟩ | ⟨_, hy⟩
      · exact absurd e hne
      · rcases hwk j (hws j hj) with e | hjt
        · exact absurd e hne
        · have := h.hd k t hw j hjt c hc
          omega
  · replace hc := set_get hc
    replace hc2 := set_get hc2
    rcases hc with ⟨rfl, rfl⟩ | ⟨hne, hc⟩
    · rcases hc2 with ⟨e, _⟩ | ⟨_, hc2⟩
      · omega
      · have := h.lo j c2 hc2 hb2 i hm
        omega
    · rcases hc2 with ⟨rfl, rfl⟩ | ⟨_, hc2⟩
      · have hd : 0 ≤ c.d := by
          refine h.un i c hc (fun hi => ?_) hb
          rcases hwk i hi with e | hit
          · exact hne e
          · have := h.hd _ t hw i hit c hc
            omega
        refine ⟨hd, ?_⟩
        show c.d ≤ b'
        rw [← hb']
        split
        · rcases h.dn i c hc with e | ⟨_, _, e, _⟩
          · omega
          · exact e
        · next hn =>
          have hb0 : 0 ≤ a.b := by
            rcases h.bg _ a ha with e' | ⟨e1, _⟩
            · exact absurd e' hn
            · exact e1
          exact (h.od i _ c a hij hc ha hb hb0).2
      · exact h.od i j c c2 hij hc hc2 hb hb2
  · replace hi := hws i hi
    replace hc := set_get hc
    rcases hc with ⟨rfl, rfl⟩ | ⟨hne, hc⟩
    · rcases hwk i hi with e | hit
      · omega
      · have := hup1 i hit; omega
    · exact h.lo j c hc hb i hi
theorem OrdOk.use (h : OrdOk l own s now) (hk : RnOk s N) (h0 : 0 ≤ now) (ho : own now = true) : OrdOk l own (s.use now) (now + 1) := by
  unfold Rn.use
  split
  next => exact h.later
  next k t hkt =>
    split
    next =>
      split
      next a x ha hx =>
        have h1 := hk.pos k (.inl (by rw [hkt]; simp)) x hx
        have hm : k ∈ s.wait := by rw [hkt]; simp
        split
        next hp =>
          refine h.used hk h0 ho hkt ha hx (d' := -1) (s' := { s with bs := s.bs.use, left := s.left.set k (x - 1), out := s.out.set k (a.begin now) }) ?_ (.inl ⟨hkt, rfl⟩) rfl rfl
          show s.out.set k (a.begin now) = _
          have hd := (h.wt k hm a ha).1
          have e : ({ a.begin now with d := -1 } : An) = a.begin now := by
            unfold An.begin
            split
            · rw [← hd]
            · rw [← hd]
          rw [e]
        next hp =>
          exact h.used hk h0 ho hkt ha hx (d' := now + 1) rfl (.inr ⟨rfl, rfl, by omega⟩) rfl rfl
      next => exact h.later
    next => exact h.later
theorem OrdOk.tick (h : OrdOk l own s now) (hk : RnOk s N) (h0 : 0 ≤ now) (h1 : now ≤ 1000000) : OrdOk l own (s.tick own now) (now + 1) := by
  have h2 := OrdOk.come (now := now) s.out.length s h hk
  have hk2 := (RnOk.come now s.out.length s hk).go now h0 (by omega)
  have h3 : OrdOk l own ((Rn.come now s.out.length s).go now) now := h2.same rfl rfl rfl rfl
  unfold Rn.tick
  dsimp only
  split
  next ho => exact h3.use hk2 h0 ho
  next => exact h3.later
theorem OrdOk.run (h : OrdOk l own s 0) (hk : RnOk s N) : ∀ (n : Nat), n ≤ 1000000 → OrdOk l own (Rn.run own s n) n
  | 0, _ => h
  | n + 1, hn => by
    have := (OrdOk.run h hk n (by omega)).tick (hk.run own n (by omega)) (by omega) (by omega)
    show OrdOk l own ((Rn.run own s n).tick own n) ((n + 1 : Nat) : Int)
    rw [show (((n + 1 : Nat)) : Int) = (n : Int) + 1 by omega]
    exact this
theorem OrdOk.new (rf : Bool) (C T : Int) (l : List (Int × Int)) : OrdOk l own (Rn.new rf C T l) 0 := by
  have hg : ∀ (k : Nat) a, (Rn.new rf C T l).out[k]? = some a → ∃ q, l[k]? = some q ∧ a = ⟨q.1, q.2, -1, -1⟩ := fun k a ha => by
    have ha : (l.map (fun a => (⟨a.1, a.2, -1, -1⟩ : An)))[k]? = some a := ha
    rw [List.getElem?_map] at ha
    cases hq : l[k]? with
    | none => rw [hq] at ha; cases ha
    | some q => rw [hq] at ha; injection ha with ha; exact ⟨q, rfl, ha.symm⟩
  refine ⟨fun k a ha => ?_, fun k hk => (by cases hk), fun k t e => (by cases e), fun k _ a ha => ?_, fun k a ha => ?_, fun k a ha => ?_, fun k a ha _ hb => ?_, fun k a x ha hx _ => ?_, fun k hk => (by cases hk), fun i j a c _ ha _ hb => ?_, fun k a _ _ j hj => (by cases hj)⟩
  · obtain ⟨q, e, rfl⟩ := hg k a ha; exact ⟨q, e, rfl, rfl⟩
  · obtain ⟨q, e, rfl⟩ := hg k a ha; exact ⟨rfl, rfl⟩
  · obtain ⟨q, e, rfl⟩ := hg k a ha; exact .inl rfl
  · obtain ⟨q, e, rfl⟩ := hg k a ha; exact .inl rfl
  · obtain ⟨q, e, rfl⟩ := hg k a ha; have : (0 : Int) ≤ -1 := hb; omega
  · obtain ⟨q, e, rfl⟩ := hg k a ha
    have hx : (l.map Prod.snd)[k]? = some x := hx
    rw [List.getElem?_map, e] at hx
    injection hx with hx
    exact hx.symm
  · obtain ⟨q, e, rfl⟩ := hg i a ha; have : (0 : Int) ≤ -1 := hb; omega
end Go.Proofs.Ytcgefncddbbnlaa
