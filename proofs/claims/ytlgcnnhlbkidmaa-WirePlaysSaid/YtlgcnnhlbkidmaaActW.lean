/-
  The calls on a wire and on the reference's net, each in one form whatever comes of it.
-/
import Derived.Test.YtlgcnnhlbkidmaaNilW
namespace Go.Proofs.Ytlgcnnhlbkidmaa
open Go.ChangeShapes Go.WideShapes Go.ChangeAt Go.RowKit Go.Conc

def sendS (st : List WayS) (i : Int) (xs : List Int) : List WayS := match wayOf st i with | none => st | some l => if 131072 < xs.length then st else if 200 ≤ l.1.length then st else st.set i.toNat (l.1 ++ [xs], l.2)
def nextE (st : List WayS) (i : Int) : Int := match wayOf st i with | none => 1 | some l => if l.1.length ≤ l.2 then 9 else 0
def nextF (st : List WayS) (i : Int) : List Int := match wayOf st i with | none => [] | some l => if l.1.length ≤ l.2 then [] else l.1.getD l.2 []
def nextS (st : List WayS) (i : Int) : List WayS := match wayOf st i with | none => st | some l => if l.1.length ≤ l.2 then st else st.set i.toNat (l.1, l.2 + 1)
def Their (own : Nat → Option Spot) (b : Nat) : Prop := ∃ s, own b = some s
/-- What came before is older. -/
theorem gone_mono (st : List WayS) (i : Int) (xs : List Int) (k n : Nat) (h : ∀ l, st[k]? = some l → n < l.2) : (∀ l, (sendS st i xs)[k]? = some l → n < l.2) ∧ ∀ l, (nextS st i)[k]? = some l → n < l.2 := by
  refine ⟨fun l hl => ?_, fun l hl => ?_⟩
  · unfold sendS at hl
    cases hw : wayOf st i with
    | none => rw [hw] at hl; exact h l hl
    | some l0 =>
      obtain ⟨q, rfl, hq, hql⟩ := wayOf_some hw
      rw [hw] at hl
      simp only at hl
      split at hl
      · exact h l hl
      · split at hl
        · exact h l hl
        · by_cases hk : k = q
          · subst hk
            rw [Int.toNat_natCast, List.getElem?_set_self hql] at hl
            obtain rfl := Option.some.inj hl
            exact h l0 hq
          · rw [Int.toNat_natCast, List.getElem?_set_ne (Ne.symm hk)] at hl
            exact h l hl
  · unfold nextS at hl
    cases hw : wayOf st i with
    | none => rw [hw] at hl; exact h l hl
    | some l0 =>
      obtain ⟨q, rfl, hq, hql⟩ := wayOf_some hw
      rw [hw] at hl
      simp only at hl
      split at hl
      · exact h l hl
      · by_cases hk : k = q
        · subst hk
          rw [Int.toNat_natCast, List.getElem?_set_self hql] at hl
          obtain rfl := Option.some.inj hl
          have := h l0 hq
          simp only; omega
        · rw [Int.toNat_natCast, List.getElem?_set_ne (Ne.symm hk)] at hl
          exact h l hl

theorem sendU (w : World) (B p : Nat) (own : Nat → Option Spot) (st : List WayS) (i : Int) (v : Value) (xs : List Int) (h : Wire w B p own st) (hi : -9223372036854775808 ≤ i ∧ i ≤ 9223372036854775807) (hr : Rd w v (bs xs)) (hx : IsB xs) :
    Calls Try.prog 22 #[.pointer (some ⟨p, 0, none⟩), .int .i64 i, v] w fun e w' => e = .returned (.int .i64 (sendE st i xs.length)) ∧ ∃ own', Wire w' B p own' (sendS st i xs) ∧ ((∀ b, b < w.heap.size → own' b = own b) ∧ (∀ b s, w.heap.size ≤ b → own' b = some s → s.1 = 4 → ∀ j, w'.frozen? ⟨b, j, none⟩ = false) ∧ ∀ b s, own b = some s → s.1 = 4 → w'.heap[b]? = w.heap[b]?) ∧ Turns (Their own) w w' := by
  refine (send_any w B p own st i v xs h hi hr hx).mono fun e w' hS => ?_
  have hsame : w = w' → ∃ own', Wire w' B p own' st ∧ ((∀ b, b < w.heap.size → own' b = own b) ∧ (∀ b s, w.heap.size ≤ b → own' b = some s → s.1 = 4 → ∀ j, w'.frozen? ⟨b, j, none⟩ = false) ∧ ∀ b s, own b = some s → s.1 = 4 → w'.heap[b]? = w.heap[b]?) ∧ Turns (Their own) w w' := by
    rintro rfl
    exact ⟨own, h, ⟨fun _ _ => rfl, fun b s hb hs => absurd (h.dom b s hs).2 (by omega), fun _ _ _ _ => rfl⟩, Turns.refl _ _⟩
  unfold SendRes at hS
  unfold sendE sendS
  cases hw : wayOf st i with
  | none => rw [hw] at hS; exact ⟨hS.1, hsame hS.2⟩
  | some l =>
    rw [hw] at hS
    simp only at hS ⊢
    by_cases h1 : 131072 < xs.length
    · simp only [if_pos h1] at hS ⊢; exact ⟨hS.1, hsame hS.2⟩
    · by_cases h2 : 200 ≤ l.1.length
      · simp only [if_neg h1, if_pos h2] at hS ⊢; exact ⟨hS.1, hsame hS.2⟩
      · simp only [if_neg h1, if_neg h2] at hS ⊢; exact hS
theorem nsendU (w : World) (B p : Nat) (own : Nat → Option Spot) (st : List WayS) (i : Int) (v : Value) (xs : List Int) (h : Net w B p own st) (hi : -9223372036854775808 ≤ i ∧ i ≤ 9223372036854775807) (hr : Rd w v (bs xs)) :
    Calls Try.prog 35 #[.pointer (some ⟨p, 0, none⟩), .int .i64 i, v] w fun e w' => e = .returned (.int .i64 (sendE st i xs.length)) ∧ ∃ own', Net w' B p own' (sendS st i xs) ∧ (∀ b, b < w.heap.size → own' b = own b) ∧ Turns (Their own) w w' := by
  refine (nsend_any w B p own st i v xs h hi hr).mono fun e w' hS => ?_
  have hsame : w = w' → ∃ own', Net w' B p own' st ∧ (∀ b, b < w.heap.size → own' b = own b) ∧ Turns (Their own) w w' := by
    rintro rfl
    exact ⟨own, h, fun _ _ => rfl, Turns.refl _ _⟩
  unfold NSendRes at hS
  unfold sendE sendS
  cases hw : wayOf st i with
  | none => rw [hw] at hS; exact ⟨hS.1, hsame hS.2⟩
  | some l =>
    rw [hw] at hS
    simp only at hS ⊢
    by_cases h1 : 131072 < xs.length
    · simp only [if_pos h1] at hS ⊢; exact ⟨hS.1, hsame hS.2⟩
    · by_cases h2 : 200 ≤ l.1.length
      · simp only [if_neg h1, if_pos h2] at hS ⊢; exact ⟨hS.1, hsame hS.2⟩
      · simp only [if_neg h1, if_neg h2] at hS ⊢; exact hS
theorem no_hold (b : Nat) : ¬ hold (.slice none 0 0) b := by rintro ⟨o, n, c, h⟩; cases h
theorem nextU (w : World) (B p : Nat) (own : Nat → Option Spot) (st : List WayS) (i : Int) (h : Wire w B p own st) (hi : -9223372036854775808 ≤ i ∧ i ≤ 9223372036854775807) :
    Calls Try.prog 23 #[.pointer (some ⟨p, 0, none⟩), .int .i64 i] w fun e w' => ∃ v, e = .returned (.tuple #[v, .int .i64 (nextE st i)]) ∧ Rd w' v (bs (nextF st i)) ∧ IsB (nextF st i) ∧ (∀ b, hold v b → ∃ s, own b = some s ∧ s.1 = 4 ∧ ∀ l, (nextS st i)[s.2.1]? = some l → s.2.2 < l.2) ∧ Wire w' B p own (nextS st i) ∧ (∀ b s, own b = some s → s.1 = 4 → w'.heap[b]? = w.heap[b]?) ∧ Turns (Their own) w w' := by
  refine (next_any w B p own st i h hi).mono fun e w' hS => ?_
  have hnil : w = w' → Wire w' B p own st ∧ (∀ b s, own b = some s → s.1 = 4 → w'.heap[b]? = w.heap[b]?) ∧ Turns (Their own) w w' := by rintro rfl; exact ⟨h, fun _ _ _ _ => rfl, Turns.refl _ _⟩
  unfold NextRes at hS
  unfold nextE nextF nextS
  cases hw : wayOf st i with
  | none =>
    rw [hw] at hS
    exact ⟨_, hS.1, Rd.nil _, fun z hz => by simp at hz, fun b hb => absurd hb (no_hold b), hnil hS.2⟩
  | some l =>
    obtain ⟨q, rfl, hq, hql⟩ := wayOf_some hw
    rw [hw] at hS
    simp only at hS ⊢
    split at hS
    · rw [if_pos ‹_›, if_pos ‹_›, if_pos ‹_›]
      exact ⟨_, hS.1, Rd.nil _, fun z hz => by simp at hz, fun b hb => absurd hb (no_hold b), hnil hS.2⟩
    · rw [if_neg ‹_›, if_neg ‹_›, if_neg ‹_›]
      obtain ⟨v, h1, h2, h3, h4⟩ := hS
      refine ⟨v, h1, h2.1, ?_, fun b hb => ⟨_, h2.2 b hb, rfl, fun l' hl' => ?_⟩, h3, fun b s hs e4 => h4.block b (h.dom b s hs).2 (fun e => by rw [hs] at e; cases e; cases e4), h4.mono fun k hk => ⟨_, hk⟩⟩
      · obtain ⟨g, cap, cs, cv, bv, _, _, _, _, hl⟩ := h.at_ q l hq
        have hlt : l.2 < l.1.length := by omega
        refine (hl.small _ ?_).1
        rw [List.getD_eq_getElem?_getD, List.getElem?_eq_getElem hlt]
        exact List.getElem_mem hlt
      · rw [Int.toNat_natCast] at hl'
        rw [List.getElem?_set_self hql] at hl'
        obtain rfl := Option.some.inj hl'
        simp only; omega
theorem nnextU (w : World) (B p : Nat) (own : Nat → Option Spot) (st : List WayS) (i : Int) (h : Net w B p own st) (hi : -9223372036854775808 ≤ i ∧ i ≤ 9223372036854775807) :
    Calls Try.prog 33 #[.pointer (some ⟨p, 0, none⟩), .int .i64 i] w fun e w' => ∃ v, e = .returned (.tuple #[v, .int .i64 (nextE st i)]) ∧ Rd w' v (bs (nextF st i)) ∧ Net w' B p own (nextS st i) ∧ Turns (Their own) w w' := by
  refine (nnext_any w B p own st i h hi).mono fun e w' hS => ?_
  unfold nextE nextF nextS
  cases hw : wayOf st i with
  | none =>
    rw [hw] at hS
    obtain ⟨h1, rfl⟩ := hS
    exact ⟨_, h1, Rd.nil _, h, Turns.refl _ _⟩
  | some l =>
    obtain ⟨q, rfl, hq, hql⟩ := wayOf_some hw
    rw [hw] at hS
    simp only at hS ⊢
    split at hS
    · rw [if_pos ‹_›, if_pos ‹_›, if_pos ‹_›]
      exact ⟨_, hS.1, Rd.nil _, h.stay hS.2, Turns.of_below hS.2⟩
    · rw [if_neg ‹_›, if_neg ‹_›, if_neg ‹_›]
      obtain ⟨v, h1, h2, h3, h4⟩ := hS
      exact ⟨v, h1, h2.1, h3, h4.mono fun k hk => ⟨_, hk⟩⟩
theorem loseU (w : World) (B p : Nat) (own : Nat → Option Spot) (st : List WayS) (i : Int) (h : Wire w B p own st) (hi : -9223372036854775808 ≤ i ∧ i ≤ 9223372036854775807) :
    Calls Try.prog 26 #[.pointer (some ⟨p, 0, none⟩), .int .i64 i] w fun e w' => e = .returned (.int .i64 (nextE st i)) ∧ Wire w' B p own (nextS st i) ∧ (∀ b s, own b = some s → s.1 = 4 → w'.heap[b]? = w.heap[b]?) ∧ Turns (Their own) w w' := by
  refine (lose_any w B p own st i h hi).mono fun e w' hS => ?_
  unfold LoseRes at hS
  unfold nextE nextS
  cases hw : wayOf st i with
  | none =>
    rw [hw] at hS
    obtain ⟨h1, rfl⟩ := hS
    exact ⟨h1, h, fun _ _ _ _ => rfl, Turns.refl _ _⟩
  | some l =>
    rw [hw] at hS
    simp only at hS ⊢
    split at hS
    · rw [if_pos ‹_›, if_pos ‹_›]
      obtain ⟨h1, rfl⟩ := hS
      exact ⟨h1, h, fun _ _ _ _ => rfl, Turns.refl _ _⟩
    · rw [if_neg ‹_›, if_neg ‹_›]
      obtain ⟨h1, h3, h4⟩ := hS
      exact ⟨h1, h3, fun b s hs e4 => h4.block b (h.dom b s hs).2 (fun e => by rw [hs] at e; cases e; cases e4), h4.mono fun k hk => ⟨_, hk⟩⟩

def cntW (st : List WayS) (i : Int) : Int := match wayOf st i with | some l => (l.1.length : Int) | none => 0
def waitW (st : List WayS) (i : Int) : Int := match wayOf st i with | some l => ((l.1.length - l.2 : Nat) : Int) | none => 0
theorem countU (w : World) (B p : Nat) (own : Nat → Option Spot) (st : List WayS) (i : Int) (h : Wire w B p own st) (hi : -9223372036854775808 ≤ i ∧ i ≤ 9223372036854775807) :
    Calls Try.prog 25 #[.pointer (some ⟨p, 0, none⟩), .int .i64 i] w fun e w' => e = .returned (.int .i64 (cntW st i)) ∧ w = w' := count_any w B p own st i h hi
theorem waitingU (w : World) (B p : Nat) (own : Nat → Option Spot) (st : List WayS) (i : Int) (h : Wire w B p own st) (hi : -9223372036854775808 ≤ i ∧ i ≤ 9223372036854775807) :
    Calls Try.prog 27 #[.pointer (some ⟨p, 0, none⟩), .int .i64 i] w fun e w' => e = .returned (.int .i64 (waitW st i)) ∧ w = w' := waiting_any w B p own st i h hi
theorem ncountsU (w : World) (B p : Nat) (own : Nat → Option Spot) (st : List WayS) (i : Int) (h : Net w B p own st) (hi : -9223372036854775808 ≤ i ∧ i ≤ 9223372036854775807) :
    Calls Try.prog 36 #[.pointer (some ⟨p, 0, none⟩), .int .i64 i] w fun e w' => e = .returned (.agg #[.int .i64 (cntW st i), .int .i64 (waitW st i)]) ∧ Below w.heap.size w w' := by
  refine (ncounts_any w B p own st i h hi).mono fun e w' hS => ⟨?_, hS.2⟩
  have h1 := hS.1
  unfold cntW waitW
  cases hw : wayOf st i with
  | none => rw [hw] at h1; exact h1
  | some l => rw [hw] at h1; exact h1
theorem pickF_isB {w : World} {B p : Nat} {own : Nat → Option Spot} {st : List WayS} (h : Wire w B p own st) (i k : Int) : IsB (pickF st i k) := by
  unfold pickF
  cases hw : wayOf st i with
  | none => intro z hz; simp at hz
  | some l =>
    obtain ⟨q, rfl, hq, hql⟩ := wayOf_some hw
    obtain ⟨g, cap, cs, cv, bv, _, _, _, _, hl⟩ := h.at_ q l hq
    simp only
    split
    · have hlt : k.toNat < l.1.length := by omega
      refine (hl.small _ ?_).1
      rw [List.getD_eq_getElem?_getD, List.getElem?_eq_getElem hlt]
      exact List.getElem_mem hlt
    · intro z hz; simp at hz
/-- Where the law's loop stands. -/
structure PlayAt (B p q : Nat) (w wr : World) (own ownR : Nat → Option Spot) (st : List WayS) : Prop where
  wire : Wire wr B p own st
  net : Net wr B q ownR st
  apart : ∀ b s, ownR b = some s → own b = none
  b : Below B w wr
  s : B ≤ wr.heap.size
  free : ∀ b s, own b = some s → s.1 = 4 → ∀ j, wr.frozen? ⟨b, j, none⟩ = false
theorem frozen_keep {w w' : World} {b : Nat} (h : w'.heap[b]? = w.heap[b]?) (j : Nat) : w'.frozen? ⟨b, j, none⟩ = w.frozen? ⟨b, j, none⟩ := by
  simp only [World.frozen?, h]
theorem PlayAt.stay {B p q : Nat} {w wr w' : World} {own ownR : Nat → Option Spot} {st : List WayS} (h : PlayAt B p q w wr own ownR st) (hb : Below wr.heap.size wr w') : PlayAt B p q w w' own ownR st :=
  ⟨h.wire.stay hb, h.net.stay hb, h.apart, bw_then h.b hb h.s, Nat.le_trans h.s hb.size, fun b s hs h4 j => (frozen_keep (hb.block b (h.wire.dom b s hs).2) j).trans (h.free b s hs h4 j)⟩
/-- A step of the wire, then one of the net. -/
theorem PlayAt.step {B p q : Nat} {w wr w1 w2 : World} {own ownR own' ownR' : Nat → Option Spot} {st st' : List WayS} (h : PlayAt B p q w wr own ownR st) (hw : Wire w1 B p own' st') (h1 : ∀ b, b < wr.heap.size → own' b = own b)
    (hf : ∀ b s, wr.heap.size ≤ b → own' b = some s → s.1 = 4 → ∀ j, w1.frozen? ⟨b, j, none⟩ = false) (t1 : Turns (Their own) wr w1) (h4 : ∀ b s, own b = some s → s.1 = 4 → w1.heap[b]? = wr.heap[b]?) (hn : Net w2 B q ownR' st') (h2 : ∀ b, b < w1.heap.size → ownR' b = ownR b) (t2 : Turns (Their ownR) w1 w2) : PlayAt B p q w w2 own' ownR' st' := by
  have hap : ∀ b, b < w1.heap.size → Their ownR b → own' b = none := fun b hb hr => by
    obtain ⟨s, hs⟩ := hr
    have hlt := (h.net.dom b s hs).2
    rw [h1 b hlt]
    exact h.apart b s hs
  have hBo : ∀ b, Their own b → B ≤ b := fun b ⟨s, hs⟩ => (h.wire.dom b s hs).1
  have hBr : ∀ b, Their ownR b → B ≤ b := fun b ⟨s, hs⟩ => (h.net.dom b s hs).1
  refine ⟨hw.turns t2 fun b s hb hr => ?_, hn, fun b s hb => ?_, (t2.below (t1.below h.b h.s hBo) (Nat.le_trans h.s t1.size) hBr), Nat.le_trans h.s (Nat.le_trans t1.size t2.size), fun b s hb e4 j => ?_⟩
  · have := hap b (hw.dom b s hb).2 hr
    rw [this] at hb; cases hb
  · have hlt := (hn.dom b s hb).2
    rcases Nat.lt_or_ge b w1.heap.size with hl | hl
    · rw [h2 b hl] at hb
      exact hap b hl ⟨s, hb⟩
    · cases ho : own' b with
      | none => rfl
      | some s' => have := (hw.dom b s' ho).2; omega
  · have hlt := (hw.dom b s hb).2
    have hnr : ¬ Their ownR b := fun hr => by have := hap b hlt hr; rw [this] at hb; cases hb
    rw [frozen_keep (t2.block b hlt hnr) j]
    rcases Nat.lt_or_ge b wr.heap.size with hl | hl
    · rw [h1 b hl] at hb
      rw [frozen_keep (h4 b s hb e4) j]
      exact h.free b s hb e4 j
    · exact hf b s hl hb e4 j
/-- Of a new wire no frame is under way. -/
def drop4 (own : Nat → Option Spot) (b : Nat) : Option Spot := match own b with | some s => if s.1 = 4 then none else some s | none => none
theorem drop4_keep {own : Nat → Option Spot} {b : Nat} {s : Spot} (h : own b = some s) (h4 : s.1 ≠ 4) : drop4 own b = some s := by
  unfold drop4; rw [h]; simp only [if_neg h4]
theorem drop4_no {own : Nat → Option Spot} {b : Nat} {s : Spot} (h : drop4 own b = some s) : s.1 ≠ 4 ∧ own b = some s := by
  unfold drop4 at h
  split at h
  · split at h
    · cases h
    · cases h; exact ⟨‹_›, ‹_›⟩
  · cases h
theorem Wire.fresh {w : World} {B p m : Nat} {own : Nat → Option Spot} (h : Wire w B p own (List.replicate m ([], 0))) : Wire w B p (drop4 own) (List.replicate m ([], 0)) := by
  obtain ⟨g, cap, cs, h⟩ := h
  refine ⟨g, cap, cs, h.head, drop4_keep h.hp (by simp), h.row, drop4_keep h.hg (by simp), fun i l hl => ?_, h.le, h.cap, fun b s hb => h.dom b s (drop4_no hb).2⟩
  obtain ⟨cv, bv, h1, h2, h3⟩ := h.lane i l hl
  have hl0 : l = ([], 0) := by
    rw [List.getElem?_replicate] at hl
    split at hl <;> simp_all
  subst hl0
  obtain ⟨c, buf, s, r, q1, q2, q3, q4, q5⟩ := h3.chan
  obtain ⟨vals, b1, b2, b3, b4⟩ := h3.bag
  refine ⟨cv, bv, h1, h2, ⟨⟨c, buf, s, r, q1, drop4_keep q2 (by simp), q3, q4, fun j v hj => ?_⟩, ⟨vals, b1, fun b hb => drop4_keep (b2 b hb) (by simp), b3, fun j v hj => ?_⟩, h3.le, h3.small⟩⟩
  · have := (Array.getElem?_eq_some_iff.1 hj).1
    simp at q4
    subst q4
    simp at this
  · have := (List.getElem?_eq_some_iff.1 hj).1
    simp at b3
    subst b3
    simp at this
/-- What may be written over. -/
def Loose (B : Nat) (wr : World) (own ownR : Nat → Option Spot) (st : List WayS) (k : Nat) : Prop :=
  B ≤ k ∧ k < wr.heap.size ∧ ownR k = none ∧ (∀ s, own k = some s → s.1 = 4 ∧ ∀ l, st[s.2.1]? = some l → s.2.2 < l.2) ∧ ∀ j, wr.frozen? ⟨k, j, none⟩ = false
theorem PlayAt.wrote {B p q : Nat} {w wr w' : World} {own ownR : Nat → Option Spot} {st : List WayS} {T : Nat → Prop} (h : PlayAt B p q w wr own ownR st) (ht : Turns T wr w') (hT : ∀ k, T k → Loose B wr own ownR st k) (hf : ∀ k, k < wr.heap.size → ∀ j, w'.frozen? ⟨k, j, none⟩ = wr.frozen? ⟨k, j, none⟩) : PlayAt B p q w w' own ownR st :=
  ⟨h.wire.wrote ht fun b s hs hb => (hT b hb).2.2.2.1 s hs, h.net.turns ht (fun b s hs hb => by rw [(hT b hb).2.2.1] at hs; cases hs), h.apart, ht.below h.b h.s fun j hj => (hT j hj).1, Nat.le_trans h.s ht.size,
    fun b s hs h4 j => (hf b (h.wire.dom b s hs).2 j).trans (h.free b s hs h4 j)⟩
end Go.Proofs.Ytlgcnnhlbkidmaa
