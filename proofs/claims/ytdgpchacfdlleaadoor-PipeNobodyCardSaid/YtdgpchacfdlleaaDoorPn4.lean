/-
  Texts of mine in one: WLast, WApart, WArr, WZeros, Zeros, Read, Next, Number, U64, NumR, Rest, RestA, RestB, FindB, PutB, KEntry, SealF, SealB, MarkB.
-/
import Derived.Test.YtdgpchacfdlleaaDoorPn3
import Derived.OrdersHeld
import Derived.Deep.RegionHeld3
import Derived.Laws.BitsLemmas
import Derived.RowKit
import Derived.WideKeyEntry
section
-- PRINTED BY print.sh 35421559b90ae4d0a3588c463048766b98c2df88dd9212a6774a882060cdf62d: not written by this session
/-
  PRINTED WORDS, second file: A REGION THAT DRAWS ITS ORDER, WALKED BY HAND, where its last store writes what its own loads read ('x.f = append(x.f, f(i))'). Plain theorems; no macro, no elab. A claim may hold it (turn the namespace's name).
  A load may be taken first in every world that meets S; behind the operations of ds nothing is shown; sound because each of ds waits for what is taken (Region.lastB). The kernel checks it.
  By an AI agent of Go's test side, Mon Nov 16 2026. No person has read it.
-/
namespace Go.Proofs.YtdgpchacfdlleaaDoorW.PrintLast

section
variable {P : Program} {ops : Array Oper} {Q : Exit → Act → World → Prop} {md : Region.Mode} {S : World → Prop} {ds : List Nat}

/-- Operation d waits for operation i, by a chain of at most 'fuel' edges. -/
def Region.reachB (md : Region.Mode) (ops : Array Oper) (i : Nat) : Nat → Nat → Bool
  | 0, _ => false
  | fuel + 1, d => match ops[d]? with
    | some o => o.after.any fun e => Region.binds md e && (e.on == i || Region.reachB md ops i fuel e.on)
    | none => false

/-- What is listed is closed under the edges. -/
def Region.closedB (md : Region.Mode) (ops : Array Oper) (listed : Array Bool) : Bool :=
  (List.range ops.size).all fun j => !listed.getD j false || match ops[j]? with
    | some o => o.after.all fun e => !Region.binds md e || listed.getD e.on false
    | none => true

/-- Each of ds that has not come up yet waits for number i. -/
def Region.lastB (md : Region.Mode) (ops : Array Oper) (listed : Array Bool) (ds : List Nat) (i : Nat) : Bool :=
  ds.all fun d => listed.getD d true || Region.reachB md ops i ops.size d

def ListedClosed (md : Region.Mode) (ops : Array Oper) (listed : Array Bool) : Prop :=
  ∀ j oj, ops[j]? = some oj → listed.getD j false = true → ∀ e ∈ oj.after, Region.binds md e = true → listed.getD e.on false = true

theorem Region.closedB_spec {listed : Array Bool} (h : Region.closedB md ops listed = true) : ListedClosed md ops listed := by
  intro j oj hj hl e he hb
  have hlt : j < ops.size := (Array.getElem?_eq_some_iff.1 hj).1
  have h1 := List.all_eq_true.1 h j (List.mem_range.2 hlt)
  simp only [hl, hj, Bool.not_true, Bool.false_or] at h1
  have h2 := Array.all_eq_true_iff_forall_mem.1 h1 e he
  simpa [hb] using h2

theorem ListedClosed.set {listed : Array Bool} {i : Nat} (h : ListedClosed md ops listed) (hi : i ∈ Region.ready md ops listed) : ListedClosed md ops (listed.setIfInBounds i true) := by
  obtain ⟨_, oi, hoi, hall⟩ := mem_ready.1 hi
  intro j oj hj hl e he hb
  by_cases hij : i = j
  · subst hij
    have : oj = oi := Option.some.inj (hj.symm.trans hoi)
    subst this
    exact getD_set_true (hall e he hb)
  · rw [getD_set_ne false hij] at hl
    exact getD_set_true (h j oj hj hl e he hb)

theorem Region.reach_listed {listed : Array Bool} {i : Nat} (hc : ListedClosed md ops listed) : ∀ (fuel d : Nat), Region.reachB md ops i fuel d = true → listed.getD d false = true → listed.getD i false = true
  | 0, _, h, _ => by simp [Region.reachB] at h
  | fuel + 1, d, h, hl => by
    unfold Region.reachB at h
    cases ho : ops[d]? with
    | none => rw [ho] at h; simp at h
    | some o =>
      rw [ho] at h
      obtain ⟨e, he, h1⟩ := Array.any_eq_true'.1 h
      simp only [Bool.and_eq_true, Bool.or_eq_true, beq_iff_eq] at h1
      have hle := hc d o ho hl e he h1.1
      rcases h1.2 with h2 | h2
      · rw [← h2]; exact hle
      · exact Region.reach_listed hc fuel e.on h2 hle

/-- What waits for i cannot come up before i is listed. -/
theorem Region.reach_not_ready {listed : Array Bool} {i d fuel : Nat} (hc : ListedClosed md ops listed) (hr : Region.reachB md ops i fuel d = true) (hun : listed.getD i true = false) : d ∉ Region.ready md ops listed := by
  intro hd
  obtain ⟨_, o, ho, hall⟩ := mem_ready.1 hd
  have hi : listed.getD i false = true := by
    cases fuel with
    | zero => simp [Region.reachB] at hr
    | succ n =>
      unfold Region.reachB at hr
      rw [ho] at hr
      obtain ⟨e, he, h1⟩ := Array.any_eq_true'.1 hr
      simp only [Bool.and_eq_true, Bool.or_eq_true, beq_iff_eq] at h1
      have hle := hall e he h1.1
      rcases h1.2 with h2 | h2
      · rw [← h2]; exact hle
      · exact Region.reach_listed hc n e.on h2 hle
  rcases Nat.lt_or_ge i listed.size with h' | h'
  · simp [h'] at hun hi
    rw [hun] at hi
    cases hi
  · simp [Array.getElem?_eq_none h'] at hun

/-- Whatever order is picked from here on, AND 'S' HOLDS BEHIND EVERY OPERATION THAT IS CARRIED OUT, those of ds apart. -/
def wpAnyLast (P : Program) (md : Region.Mode) (ops : Array Oper) (Q : Exit → Act → World → Prop) (S : World → Prop) (ds : List Nat) : Nat → Array Bool → Act → World → Prop
  | 0, listed, a, w => Region.ready md ops listed = [] ∧ Q .normal a w
  | fuel + 1, listed, a, w =>
    (Region.ready md ops listed = [] → Q .normal a w) ∧
    ∀ i ∈ Region.ready md ops listed, wpOp P ops Q i (fun a' w' => (i ∉ ds → S w → S w') ∧ wpAnyLast P md ops Q S ds fuel (listed.setIfInBounds i true) a' w') a w

theorem wpAny_of_last : ∀ (fuel : Nat) (listed : Array Bool) (a : Act) (w : World), wpAnyLast P md ops Q S ds fuel listed a w → wpAny P md ops Q fuel listed a w
  | 0, _, _, _, h => h
  | fuel + 1, _, _, _, h => ⟨h.1, fun i hi => wpOp_mono (fun a' w' h' => wpAny_of_last fuel _ a' w' h'.2) (h.2 i hi)⟩

theorem wpAnyLast_first {i : Nat} {oi : Oper} {v : Value} (hi : ops[i]? = some oi) (hsel : ∀ (j : Nat) (o : Oper) cs b, ops[j]? = some o → o.op ≠ .select cs b)
    (hQ : ∀ c a w, Q (.panic c) (a.put oi.dst v) w → Q (.panic c) a w) (n : Nat) :
    ∀ (fuel : Nat) (listed : Array Bool) (a : Act) (w : World),
      (∀ j oj, ops[j]? = some oj → j ≠ i → listed.getD j true = false → (∀ e ∈ oj.after, Region.binds md e = true → e.on ≠ i) → oi.apart ops oj = true) →
      ListedClosed md ops listed → (∀ d ∈ ds, listed.getD d true = false → Region.reachB md ops i n d = true) →
      i ∈ Region.ready md ops listed → YieldsIf P ops S oi v a → S w →
      wpAnyLast P md ops Q S ds fuel (listed.setIfInBounds i true) (a.put oi.dst v) w → wpAnyLast P md ops Q S ds (fuel + 1) listed a w := by
  intro fuel
  induction fuel with
  | zero =>
    intro listed a w _ _ _ hr hy hS H
    refine ⟨fun h => (by rw [h] at hr; cases hr), fun j hj => ?_⟩
    by_cases hji : j = i
    · subst hji; exact hy.wpOp hi hS ⟨fun _ h => h, H⟩
    · have := ready_mono hj hji
      rw [H.1] at this
      cases this
  | succ fuel ih =>
    intro listed a w hfree hc hd hr hy hS H
    refine ⟨fun h => (by rw [h] at hr; cases hr), fun j hj => ?_⟩
    by_cases hji : j = i
    · subst hji; exact hy.wpOp hi hS ⟨fun _ h => h, H⟩
    · have h1 := H.2 j (ready_mono hj hji)
      obtain ⟨hjun, oj, hoj, hall⟩ := mem_ready.1 hj
      have hiun := (mem_ready.1 hr).1
      have hnot : ∀ e ∈ oj.after, Region.binds md e = true → e.on ≠ i := fun e he hb heq => by
        have h1 := hall e he hb
        rw [heq] at h1
        rcases Nat.lt_or_ge i listed.size with h' | h'
        · simp [h'] at hiun h1; rw [hiun] at h1; cases h1
        · simp [Array.getElem?_eq_none h'] at h1
      have hjd : j ∉ ds := fun hm => Region.reach_not_ready hc (hd j hm hjun) hiun hj
      have h2 := wpOp_putIf hoj (hfree j oj hoj hji hjun hnot) (fun cs b => hsel i oi cs b hi) (fun cs b => hsel j oj cs b hoj) hQ hy h1
      have hfree' : ∀ k ok, ops[k]? = some ok → k ≠ i → (listed.setIfInBounds j true).getD k true = false →
          (∀ e ∈ ok.after, Region.binds md e = true → e.on ≠ i) → oi.apart ops ok = true := fun k ok hk hki hun hno => by
        refine hfree k ok hk hki ?_ hno
        by_cases hjk : j = k
        · subst hjk; exact hjun
        · rw [getD_set_ne true hjk] at hun; exact hun
      have hd' : ∀ d ∈ ds, (listed.setIfInBounds j true).getD d true = false → Region.reachB md ops i n d = true := fun d hm hun => by
        refine hd d hm ?_
        by_cases hjk : j = d
        · subst hjk; exact hjun
        · rw [getD_set_ne true hjk] at hun; exact hun
      refine wpOp_mono (fun a' w' h3 => ⟨h3.2.1, ih (listed.setIfInBounds j true) a' w' hfree' (hc.set hj) hd' (ready_mono hr (Ne.symm hji)) h3.1 (h3.2.1 hjd hS) ?_⟩) h2
      rw [Array.setIfInBounds_comm _ _ hji]
      exact h3.2.2

/-- Take number 'i' first, which yields whatever the world: no S is asked for, nor that anything waits for it. -/
theorem wpAnyLast_any {i : Nat} {oi : Oper} {v : Value} (hi : ops[i]? = some oi) (hsel : ∀ (j : Nat) (o : Oper) cs b, ops[j]? = some o → o.op ≠ .select cs b)
    (hQ : ∀ c a w, Q (.panic c) (a.put oi.dst v) w → Q (.panic c) a w) :
    ∀ (fuel : Nat) (listed : Array Bool) (a : Act) (w : World),
      (∀ j oj, ops[j]? = some oj → j ≠ i → listed.getD j true = false → (∀ e ∈ oj.after, Region.binds md e = true → e.on ≠ i) → oi.apart ops oj = true) →
      i ∈ Region.ready md ops listed → Yields P ops oi v a →
      wpAnyLast P md ops Q S ds fuel (listed.setIfInBounds i true) (a.put oi.dst v) w → wpAnyLast P md ops Q S ds (fuel + 1) listed a w := by
  intro fuel
  induction fuel with
  | zero =>
    intro listed a w _ hr hy H
    refine ⟨fun h => (by rw [h] at hr; cases hr), fun j hj => ?_⟩
    by_cases hji : j = i
    · subst hji; exact (hy.yieldsIf (S := fun _ => True)).wpOp hi trivial ⟨fun _ h => h, H⟩
    · have := ready_mono hj hji
      rw [H.1] at this
      cases this
  | succ fuel ih =>
    intro listed a w hfree hr hy H
    refine ⟨fun h => (by rw [h] at hr; cases hr), fun j hj => ?_⟩
    by_cases hji : j = i
    · subst hji; exact (hy.yieldsIf (S := fun _ => True)).wpOp hi trivial ⟨fun _ h => h, H⟩
    · have h1 := H.2 j (ready_mono hj hji)
      obtain ⟨hjun, oj, hoj, hall⟩ := mem_ready.1 hj
      have hiun := (mem_ready.1 hr).1
      have hnot : ∀ e ∈ oj.after, Region.binds md e = true → e.on ≠ i := fun e he hb heq => by
        have h1 := hall e he hb
        rw [heq] at h1
        rcases Nat.lt_or_ge i listed.size with h' | h'
        · simp [h'] at hiun h1; rw [hiun] at h1; cases h1
        · simp [Array.getElem?_eq_none h'] at h1
      have h2 := wpOp_put hoj (hfree j oj hoj hji hjun hnot) (fun cs b => hsel i oi cs b hi) (fun cs b => hsel j oj cs b hoj) hQ hy h1
      have hfree' : ∀ k ok, ops[k]? = some ok → k ≠ i → (listed.setIfInBounds j true).getD k true = false →
          (∀ e ∈ ok.after, Region.binds md e = true → e.on ≠ i) → oi.apart ops ok = true := fun k ok hk hki hun hno => by
        refine hfree k ok hk hki ?_ hno
        by_cases hjk : j = k
        · subst hjk; exact hjun
        · rw [getD_set_ne true hjk] at hun; exact hun
      refine wpOp_mono (fun a' w' h3 => ⟨h3.2.1, ih (listed.setIfInBounds j true) a' w' hfree' (ready_mono hr (Ne.symm hji)) h3.1 ?_⟩) h2
      rw [Array.setIfInBounds_comm _ _ hji]
      exact h3.2.2

/-- Take number 'i' first. -/
theorem wpAnyLast_take {i : Nat} {oi : Oper} {v : Value} {fuel : Nat} {listed : Array Bool} {a : Act} {w : World} (hi : ops[i]? = some oi)
    (hs : Region.noSelect ops = true) (hf : Region.free md ops listed i = true) (hr : (Region.ready md ops listed).contains i = true)
    (hc : Region.closedB md ops listed = true) (hl : Region.lastB md ops listed ds i = true)
    (hQ : ∀ c a w, Q (.panic c) (a.put oi.dst v) w → Q (.panic c) a w) (hy : YieldsIf P ops S oi v a) (hS : S w)
    (h : wpAnyLast P md ops Q S ds fuel (listed.setIfInBounds i true) (a.put oi.dst v) w) : wpAnyLast P md ops Q S ds (fuel + 1) listed a w :=
  wpAnyLast_first hi (Region.noSelect_spec hs) hQ ops.size fuel listed a w (Region.free_spec hi hf) (Region.closedB_spec hc)
    (fun d hm hun => by have := List.all_eq_true.1 hl d hm; rw [hun] at this; simpa using this) (by simpa using hr) hy hS h

theorem wpAnyLast_all {rs : List Nat} {fuel : Nat} {listed : Array Bool} {a : Act} {w : World} (hr : Region.ready md ops listed = rs) (hne : rs ≠ [])
    (h : ∀ i ∈ rs, wpOp P ops Q i (fun a' w' => (i ∉ ds → S w → S w') ∧ wpAnyLast P md ops Q S ds fuel (listed.setIfInBounds i true) a' w') a w) : wpAnyLast P md ops Q S ds (fuel + 1) listed a w :=
  ⟨fun h0 => absurd (hr ▸ h0) hne, hr ▸ h⟩

theorem wpAnyLast_done {listed : Array Bool} {a : Act} {w : World} (hr : Region.ready md ops listed = []) (h : Q .normal a w) :
    ∀ fuel, wpAnyLast P md ops Q S ds fuel listed a w
  | 0 => ⟨hr, h⟩
  | _ + 1 => ⟨fun _ => h, by rw [hr]; simp⟩

theorem wp_region_last {id : Nat} {a : Act} {w : World} (hm : P.follows .mixedOrders = true)
    (h : wpAnyLast P .any ops Q S ds ops.size (Array.replicate ops.size false) a { w with drawn := w.drawn + 1 }) : (Code.region id ops true).wp P Q a w :=
  wp_region_any hm (wpAny_of_last _ _ _ _ h)

end

section
variable {P : Program} {ops : Array Oper} {Q : Exit → Act → World → Prop} {md : Region.Mode} {S : World → Prop} {ds : List Nat}

def AllReadyL (P : Program) (md : Region.Mode) (ops : Array Oper) (Q : Exit → Act → World → Prop) (S : World → Prop) (ds : List Nat) (fuel : Nat) (listed : Array Bool) (a : Act) (w : World) (rs : List Nat) : Prop :=
  ∀ i ∈ rs, wpOp P ops Q i (fun a' w' => (i ∉ ds → S w → S w') ∧ wpAnyLast P md ops Q S ds fuel (listed.setIfInBounds i true) a' w') a w
theorem AllReadyL.nil {fuel : Nat} {listed : Array Bool} {a : Act} {w : World} : AllReadyL P md ops Q S ds fuel listed a w [] := fun _ h => by cases h
theorem AllReadyL.cons {fuel : Nat} {listed : Array Bool} {a : Act} {w : World} {i : Nat} {o : Oper} {rs : List Nat} (ho : ops[i]? = some o) (hd : i ∉ ds)
    (h : ∀ K' : Act → World → Prop, Shut (∀ a w, S w → (S w → wpAnyLast P md ops Q S ds fuel (listed.setIfInBounds i true) a w) → K' a w) → if Region.wanted o (yielded ops a.tmps) = true then Oper.wp P o a w K' Q else K' (a.put o.dst undef) w)
    (hs : AllReadyL P md ops Q S ds fuel listed a w rs) : AllReadyL P md ops Q S ds fuel listed a w (i :: rs) := fun j hj => by
  rcases List.mem_cons.1 hj with rfl | hj
  · exact wpOp_step ho (fun K' hK => h K' (fun a w hS hW => hK a w ⟨fun _ _ => hS, hW hS⟩))
  · exact hs j hj
/-- Behind an operation of ds nothing is shown. -/
theorem AllReadyL.cons_last {fuel : Nat} {listed : Array Bool} {a : Act} {w : World} {i : Nat} {o : Oper} {rs : List Nat} (ho : ops[i]? = some o) (hd : i ∈ ds)
    (h : ∀ K' : Act → World → Prop, Shut (∀ a w, wpAnyLast P md ops Q S ds fuel (listed.setIfInBounds i true) a w → K' a w) → if Region.wanted o (yielded ops a.tmps) = true then Oper.wp P o a w K' Q else K' (a.put o.dst undef) w)
    (hs : AllReadyL P md ops Q S ds fuel listed a w rs) : AllReadyL P md ops Q S ds fuel listed a w (i :: rs) := fun j hj => by
  rcases List.mem_cons.1 hj with rfl | hj
  · exact wpOp_step ho (fun K' hK => h K' (fun a w hW => hK a w ⟨fun hn => absurd hd hn, hW⟩))
  · exact hs j hj
theorem wpAnyLast_ready {rs : List Nat} {fuel : Nat} {listed : Array Bool} {a : Act} {w : World} (hr : Region.ready md ops listed = rs) (hne : rs ≠ [])
    (h : AllReadyL P md ops Q S ds fuel listed a w rs) : wpAnyLast P md ops Q S ds (fuel + 1) listed a w := wpAnyLast_all hr hne h
theorem wp_region_last_drew {id : Nat} {a : Act} {w : World} (hm : P.follows .mixedOrders = true) (hS : S w.drew)
    (h : S w.drew → wpAnyLast P .any ops Q S ds ops.size (Array.replicate ops.size false) a w.drew) : (Code.region id ops true).wp P Q a w :=
  wp_region_last hm (h hS)
/-- THE SAME STEPS WITH WHAT HAS COME UP WRITTEN OUT (a literal array of Bools) and one check a step: quicker, and what is printed stays short. -/
theorem start_ {id n : Nat} {a : Act} {w : World} (l : Array Bool) (hm : P.follows .mixedOrders = true) (hn : ops.size = n) (hl : Array.replicate n false = l) (hS : S w.drew)
    (h : S w.drew → wpAnyLast P .any ops Q S ds n l a w.drew) : (Code.region id ops true).wp P Q a w := by
  subst hn
  subst hl
  exact wp_region_last hm (h hS)
def takeB (md : Region.Mode) (ops : Array Oper) (ds : List Nat) (l l' : Array Bool) (i : Nat) : Bool :=
  Region.noSelect ops && Region.free md ops l i && (Region.ready md ops l).contains i && Region.closedB md ops l && Region.lastB md ops l ds i && (l.setIfInBounds i true == l')
theorem take_ {i : Nat} {N : Option Tmp} {oi : Oper} {v : Value} {fuel : Nat} {l : Array Bool} {a : Act} {w : World} (l' : Array Bool) (hi : ops[i]? = some oi) (hN : oi.dst = N) (hc : takeB md ops ds l l' i = true)
    (hQ : ∀ c a w, Q (.panic c) (a.put oi.dst v) w → Q (.panic c) a w) (hy : YieldsIf P ops S oi v a) (hS : S w) {a' : Act} (ha : a.put N v = a')
    (h : wpAnyLast P md ops Q S ds fuel l' a' w) : wpAnyLast P md ops Q S ds (fuel + 1) l a w := by
  subst ha
  subst hN
  simp only [takeB, Bool.and_eq_true, beq_iff_eq] at hc
  obtain ⟨⟨⟨⟨⟨h1, h2⟩, h3⟩, h4⟩, h5⟩, h6⟩ := hc
  subst h6
  exact wpAnyLast_take hi h1 h2 h3 h4 h5 hQ hy hS h
def anyB (md : Region.Mode) (ops : Array Oper) (l l' : Array Bool) (i : Nat) : Bool :=
  Region.noSelect ops && Region.free md ops l i && (Region.ready md ops l).contains i && (l.setIfInBounds i true == l')
/-- An operation that yields in every world (a move, a number, an address): taken first wherever it may come up, behind a store too. -/
theorem pure_ {i : Nat} {N : Option Tmp} {oi : Oper} {v : Value} {fuel : Nat} {l : Array Bool} {a : Act} {w : World} (l' : Array Bool) (hi : ops[i]? = some oi) (hN : oi.dst = N) (hc : anyB md ops l l' i = true)
    (hQ : ∀ c a w, Q (.panic c) (a.put oi.dst v) w → Q (.panic c) a w) (hy : Yields P ops oi v a) {a' : Act} (ha : a.put N v = a')
    (h : wpAnyLast P md ops Q S ds fuel l' a' w) : wpAnyLast P md ops Q S ds (fuel + 1) l a w := by
  subst ha
  subst hN
  simp only [anyB, Bool.and_eq_true, beq_iff_eq] at hc
  obtain ⟨⟨⟨h1, h2⟩, h3⟩, h6⟩ := hc
  subst h6
  exact wpAnyLast_any hi (Region.noSelect_spec h1) hQ fuel l a w (Region.free_spec hi h2) (by simpa using h3) hy h
def readyB (md : Region.Mode) (ops : Array Oper) (l l' : Array Bool) (i : Nat) : Bool := (Region.ready md ops l == [i]) && (l.setIfInBounds i true == l')
/-- One operation alone may come up now (a call, a build, an append ..): it is run, S is shown behind it. -/
theorem one_ {i : Nat} {N : Option Tmp} {oi : Oper} {fuel : Nat} {l : Array Bool} {a : Act} {w : World} (l' : Array Bool) (hi : ops[i]? = some oi) (hN : oi.dst = N) (hc : readyB md ops l l' i = true) (hd : i ∉ ds)
    (h : ∀ K : Act → World → Prop, Shut (∀ a' w', S w' → (S w' → wpAnyLast P md ops Q S ds fuel l' a' w') → K a' w') → if Region.wanted oi (yielded ops a.tmps) = true then Oper.wp P oi a w K Q else K (a.put N undef) w) :
    wpAnyLast P md ops Q S ds (fuel + 1) l a w := by
  subst hN
  simp only [readyB, Bool.and_eq_true, beq_iff_eq] at hc
  obtain ⟨h1, h2⟩ := hc
  subst h2
  exact wpAnyLast_ready h1 (by simp) (AllReadyL.cons hi hd (fun K hK => h K hK) AllReadyL.nil)
/-- The same for one of ds: nothing is shown behind it. -/
theorem last_ {i : Nat} {N : Option Tmp} {oi : Oper} {fuel : Nat} {l : Array Bool} {a : Act} {w : World} (l' : Array Bool) (hi : ops[i]? = some oi) (hN : oi.dst = N) (hc : readyB md ops l l' i = true) (hd : i ∈ ds)
    (h : ∀ K : Act → World → Prop, Shut (∀ a' w', wpAnyLast P md ops Q S ds fuel l' a' w' → K a' w') → if Region.wanted oi (yielded ops a.tmps) = true then Oper.wp P oi a w K Q else K (a.put N undef) w) :
    wpAnyLast P md ops Q S ds (fuel + 1) l a w := by
  subst hN
  simp only [readyB, Bool.and_eq_true, beq_iff_eq] at hc
  obtain ⟨h1, h2⟩ := hc
  subst h2
  exact wpAnyLast_ready h1 (by simp) (AllReadyL.cons_last hi hd (fun K hK => h K hK) AllReadyL.nil)
theorem done_ {l : Array Bool} {a : Act} {w : World} {n : Nat} (hr : (Region.ready md ops l == []) = true) (h : Q .normal a w) : wpAnyLast P md ops Q S ds n l a w := wpAnyLast_done (by simpa using hr) h n
/-! ### Several operations that write or call may come up: each order is walked, what follows is shown once (join_) -/
theorem two_ {i j : Nat} {Ni Nj : Option Tmp} {oi oj : Oper} {fuel : Nat} {l : Array Bool} {a : Act} {w : World} (li lj : Array Bool) (hi : ops[i]? = some oi) (hj : ops[j]? = some oj) (hNi : oi.dst = Ni) (hNj : oj.dst = Nj)
    (hc : (Region.ready md ops l == [i, j] && l.setIfInBounds i true == li && l.setIfInBounds j true == lj) = true) (hdi : i ∉ ds) (hdj : j ∉ ds)
    (h1 : ∀ K : Act → World → Prop, Shut (∀ a' w', S w' → (S w' → wpAnyLast P md ops Q S ds fuel li a' w') → K a' w') → if Region.wanted oi (yielded ops a.tmps) = true then Oper.wp P oi a w K Q else K (a.put Ni undef) w)
    (h2 : ∀ K : Act → World → Prop, Shut (∀ a' w', S w' → (S w' → wpAnyLast P md ops Q S ds fuel lj a' w') → K a' w') → if Region.wanted oj (yielded ops a.tmps) = true then Oper.wp P oj a w K Q else K (a.put Nj undef) w) :
    wpAnyLast P md ops Q S ds (fuel + 1) l a w := by
  subst hNi
  subst hNj
  simp only [Bool.and_eq_true, beq_iff_eq] at hc
  obtain ⟨⟨h3, h4⟩, h5⟩ := hc
  subst h4
  subst h5
  exact wpAnyLast_ready h3 (by simp) (AllReadyL.cons hi hdi (fun K hK => h1 K hK) (AllReadyL.cons hj hdj (fun K hK => h2 K hK) AllReadyL.nil))
theorem three_ {i j k : Nat} {Ni Nj Nk : Option Tmp} {oi oj ok : Oper} {fuel : Nat} {l : Array Bool} {a : Act} {w : World} (li lj lk : Array Bool) (hi : ops[i]? = some oi) (hj : ops[j]? = some oj) (hk : ops[k]? = some ok) (hNi : oi.dst = Ni) (hNj : oj.dst = Nj) (hNk : ok.dst = Nk)
    (hc : (Region.ready md ops l == [i, j, k] && l.setIfInBounds i true == li && l.setIfInBounds j true == lj && l.setIfInBounds k true == lk) = true) (hdi : i ∉ ds) (hdj : j ∉ ds) (hdk : k ∉ ds)
    (h1 : ∀ K : Act → World → Prop, Shut (∀ a' w', S w' → (S w' → wpAnyLast P md ops Q S ds fuel li a' w') → K a' w') → if Region.wanted oi (yielded ops a.tmps) = true then Oper.wp P oi a w K Q else K (a.put Ni undef) w)
    (h2 : ∀ K : Act → World → Prop, Shut (∀ a' w', S w' → (S w' → wpAnyLast P md ops Q S ds fuel lj a' w') → K a' w') → if Region.wanted oj (yielded ops a.tmps) = true then Oper.wp P oj a w K Q else K (a.put Nj undef) w)
    (h3 : ∀ K : Act → World → Prop, Shut (∀ a' w', S w' → (S w' → wpAnyLast P md ops Q S ds fuel lk a' w') → K a' w') → if Region.wanted ok (yielded ops a.tmps) = true then Oper.wp P ok a w K Q else K (a.put Nk undef) w) :
    wpAnyLast P md ops Q S ds (fuel + 1) l a w := by
  subst hNi
  subst hNj
  subst hNk
  simp only [Bool.and_eq_true, beq_iff_eq] at hc
  obtain ⟨⟨⟨h4, h5⟩, h6⟩, h7⟩ := hc
  subst h5
  subst h6
  subst h7
  exact wpAnyLast_ready h4 (by simp) (AllReadyL.cons hi hdi (fun K hK => h1 K hK) (AllReadyL.cons hj hdj (fun K hK => h2 K hK) (AllReadyL.cons hk hdk (fun K hK => h3 K hK) AllReadyL.nil)))
/-- The act with some destinations filled. -/
def putAll : Act → List (Tmp × Value) → Act
  | a, [] => a
  | a, (n, v) :: r => putAll (a.put (some n) v) r
/-- What follows, once: s the values that the orders leave, F what is known of them and of the world. -/
theorem join_ {σ : Type} {fuel : Nat} {l : Array Bool} {a : Act} {w : World} (fuel' : Nat) (l' : Array Bool) (ns : σ → List (Tmp × Value)) (F : σ → World → Prop)
    (hcont : ∀ s w', F s w' → wpAnyLast P md ops Q S ds fuel' l' (putAll a (ns s)) w')
    (h : (∀ s w', F s w' → wpAnyLast P md ops Q S ds fuel' l' (putAll a (ns s)) w') → wpAnyLast P md ops Q S ds fuel l a w) : wpAnyLast P md ops Q S ds fuel l a w := h hcont
/-- The act written out. -/
theorem norm_ {fuel : Nat} {l : Array Bool} {a a' : Act} {w : World} (ha : a = a') (h : wpAnyLast P md ops Q S ds fuel l a' w) : wpAnyLast P md ops Q S ds fuel l a w := by
  subst ha
  exact h
/-- A call of a Go function, by its contract. -/
theorem call_ {oi : Oper} {N : Option Tmp} {a : Act} {w : World} {K : Act → World → Prop} (f : FuncId) (args : Array Value) (hw : Region.wanted oi (yielded ops a.tmps) = true) (hN : oi.dst = N) (hrun : (execOp a.eval oi).run P w = .ok (.enter f args) w)
    (h : Calls P f args w fun e w' => ∃ v, e = .returned v ∧ K (a.put N v) w') : if Region.wanted oi (yielded ops a.tmps) = true then Oper.wp P oi a w K Q else K (a.put N undef) w := by
  rw [if_pos hw]
  subst hN
  unfold Oper.wp
  rw [hrun, Oper.upon_enter]
  refine h.mono fun e w'' hh => ?_
  obtain ⟨v, rfl, hk⟩ := hh
  exact hk
theorem enters_ {f : FuncId} {fn : Func} (hf : P.funcs[f]? = some fn) (hname : (fn.name == "runtime.NumGoroutine") = false) (hb : fn.body.isSome = true) (args : Array Value) (w : World) : (callFunc f args).run P w = .ok (.enter f args) w := by
  have h1 : fn.name ≠ "runtime.NumGoroutine" := by simpa using hname
  obtain ⟨c, hc⟩ := Option.isSome_iff_exists.1 hb
  simp [callFunc, hf, h1, hc]
/-- The same, the operation's run shown here: 'goes_ A.func3 (by kernel_rfl) rfl #[..] (by rfl) rfl rfl (by rfl) ?_'. -/
theorem goes_ {oi : Oper} {N : Option Tmp} {a : Act} {w : World} {K : Act → World → Prop} {f : FuncId} {fn : Func} {as_ : Array Operand} {ts : Array TypeId} (hf : P.funcs[f]? = some fn) (hname : (fn.name == "runtime.NumGoroutine") = false) (hb : fn.body.isSome = true) (args : Array Value)
    (hw : Region.wanted oi (yielded ops a.tmps) = true) (hN : oi.dst = N) (hop : oi.op = .call { callee := .value (.func f), args := as_, argTypes := ts }) (hargs : as_.map a.eval = args)
    (h : Calls P f args w fun e w' => ∃ v, e = .returned v ∧ K (a.put N v) w') : if Region.wanted oi (yielded ops a.tmps) = true then Oper.wp P oi a w K Q else K (a.put N undef) w := by
  refine call_ f args hw hN ?_ h
  have he := enters_ hf hname hb args w
  unfold execOp
  simp [hop, resolve, Deferred.ofValue, invoke, Act.eval, hargs, he]
/-- A call in a plain region, as_ an arm of go_wp2_with ('hd' first: it fails at once at another operation). -/
theorem goesL_ {rest : List Oper} {oi : Oper} {a : Act} {w : World} (N : Option Tmp) (hd : oi.dst = N) (hg : oi.guard = none) {f : FuncId} {fn : Func} {as_ : Array Operand} {ts : Array TypeId} (hf : P.funcs[f]? = some fn) (hname : (fn.name == "runtime.NumGoroutine") = false) (hb : fn.body.isSome = true) (args : Array Value)
    (hop : oi.op = .call { callee := .value (.func f), args := as_, argTypes := ts }) (hargs : as_.map a.eval = args)
    (h : Calls P f args w fun e w' => ∃ v, e = .returned v ∧ wpList P ops Q rest (a.put N v) w') : wpList P ops Q (oi :: rest) a w := by
  refine wpList_plain hg fun K hK => ?_
  have he := enters_ hf hname hb args w
  have hrun : (execOp a.eval oi).run P w = .ok (.enter f args) w := by
    unfold execOp
    simp [hop, resolve, Deferred.ofValue, invoke, Act.eval, hargs, he]
  unfold Oper.wp
  rw [hrun, Oper.upon_enter]
  refine h.mono fun e w'' hh => ?_
  obtain ⟨v, rfl, hk⟩ := hh
  subst hd
  exact hK _ _ hk
/-- An operation that yields a value (and may make memory). -/
theorem value_ {oi : Oper} {N : Option Tmp} {a : Act} {w w1 : World} {v : Value} {K : Act → World → Prop} (hw : Region.wanted oi (yielded ops a.tmps) = true) (hN : oi.dst = N) (hrun : (execOp a.eval oi).run P w = .ok (.value v) w1)
    (h : K (a.put N v) w1) : if Region.wanted oi (yielded ops a.tmps) = true then Oper.wp P oi a w K Q else K (a.put N undef) w := by
  rw [if_pos hw]
  subst hN
  unfold Oper.wp
  rw [hrun]
  exact h
/-- A store. -/
theorem skip_ {oi : Oper} {a : Act} {w w1 : World} {K : Act → World → Prop} (hw : Region.wanted oi (yielded ops a.tmps) = true) (hN : oi.dst = none) (hrun : (execOp a.eval oi).run P w = .ok .skip w1)
    (h : K a w1) : if Region.wanted oi (yielded ops a.tmps) = true then Oper.wp P oi a w K Q else K (a.put none undef) w := by
  rw [if_pos hw]
  unfold Oper.wp
  rw [hrun]
  show K (a.put oi.dst undef) w1
  rw [hN]
  exact h
/-- An operation whose guard is off, behind a store of ds. -/
theorem off_ {oi : Oper} {N : Option Tmp} {a : Act} {w : World} {K : Act → World → Prop} (hw : Region.wanted oi (yielded ops a.tmps) = false) (h : K (a.put N undef) w) : if Region.wanted oi (yielded ops a.tmps) = true then Oper.wp P oi a w K Q else K (a.put N undef) w := by
  rw [hw, if_neg (by simp)]
  exact h
theorem i64_w (n : Int) : IntKind.i64.wrap n = Go.RowKit.wrap64 n := by unfold Go.RowKit.wrap64; exact IntKind.wrap_i64 n
theorem i32_w (n : Int) : IntKind.i32.wrap n = Go.RowKit.wrap32 n := by unfold Go.RowKit.wrap32; exact IntKind.wrap_i32 n
end
end Go.Proofs.YtdgpchacfdlleaaDoorW.PrintLast
end

section
-- PRINTED BY print.sh 35421559b90ae4d0a3588c463048766b98c2df88dd9212a6774a882060cdf62d: not written by this session
/-! ### 40. Elements whose inner rows lie apart: what is stored into one says nothing of the others.
   S: as_ R, with an owner function f (block to element's index). H: as_ S with a hole: of element i its cells alone are told, its blocks are oki. -/
namespace Go.Proofs.YtdgpchacfdlleaaDoorW.PrintWords
open Go.RowKit
namespace Kd
/-- An element with its index: its blocks are those that f gives to it. -/
def tag {α : Type} (f : Nat → Nat) (d : Kd α) : Kd (α × Nat) where
  sz := d.sz
  E := d.E
  K := fun w x cs => d.K w x.1 cs
  M := fun w base ok x cs => d.M w base (fun k => ok k ∧ f k = x.2) x.1 cs
  K_len := fun h => d.K_len h
  K_one := fun h => d.K_one h
  K_below := fun hb h => d.K_below hb h
  K_of_M := fun h => d.K_of_M h
  M_mono := fun hok h => d.M_mono (fun k hk => ⟨hok k hk.1, hk.2⟩) h
  M_bound := fun h => d.M_mono (fun _ hk => ⟨⟨hk.1.1, hk.2⟩, hk.1.2⟩) (d.M_bound h)
  M_move := fun hm h => d.M_move (fun k hk => hm k hk.1) h
  M_lower := fun hb h => d.M_lower hb h
/-- Nothing but its cells: no block is said of it. -/
def bare {α : Type} (d : Kd α) : Kd α where
  sz := d.sz
  E := d.E
  K := d.K
  M := fun w base _ x cs => d.M w base (fun _ => False) x cs
  K_len := fun h => d.K_len h
  K_one := fun h => d.K_one h
  K_below := fun hb h => d.K_below hb h
  K_of_M := fun h => d.K_of_M h
  M_mono := fun _ h => h
  M_bound := fun h => h
  M_move := fun _ h => d.M_move (fun _ hk => hk.elim) h
  M_lower := fun hb h => d.M_lower hb h
/-- The cells themselves. -/
def raw (sz : Nat) : Kd (List Value) where
  sz := sz
  E := []
  K := fun _ x cs => cs = x ∧ cs.length = sz ∧ ∀ u ∈ cs, u.oneCell' = true
  M := fun _ _ _ x cs => cs = x ∧ cs.length = sz ∧ ∀ u ∈ cs, u.oneCell' = true
  K_len := fun h => h.2.1
  K_one := fun h => h.2.2
  K_below := fun _ h => h
  K_of_M := fun h => h
  M_mono := fun _ h => h
  M_bound := fun h => h
  M_move := fun _ h => h
  M_lower := fun _ h => h
/-- A row of elements (type e) of the call's own, no two of which lead to one block. -/
def S {α : Type} (d : Kd α) (e : Nat) (w : World) (base : Nat) (ok : Nat → Prop) (v : Value) (xs : List α) : Prop := ∃ f, (tag f d).R e w base ok v xs.zipIdx
section
variable {α β : Type} {d : Kd α} {d' : Kd β} {e e' : Nat} {w w1 W : World} {base b : Nat} {ok ok' okv oku : Nat → Prop} {u v : Value} {xs : List α} {ys : List β}
theorem zip_at {xs : List α} {j : Nat} {p : α} (h : xs[j]? = some p) : xs.zipIdx[j]? = some (p, j) := by rw [List.getElem?_zipIdx, h, Nat.zero_add]; rfl
theorem S_R (h : S d e w base ok v xs) : d.R e w base ok v xs := by
  obtain ⟨f, h0, inner, ho, hr⟩ := h
  rw [List.length_zipIdx] at ho
  exact ⟨h0, inner, ho, by have := hr.1; rw [List.length_zipIdx] at this; exact this, fun j p hj => d.M_mono (fun _ hk => hk.1) (hr.2 j (p, j) (zip_at hj))⟩
/-- Where a row begins (any row of one's own begins at its block's head). -/
theorem R_head {ad : Addr} {n cap : Nat} (h : d.R e w base ok (.slice (some ad) n cap) xs) : ∃ g, ad = ⟨g, 0, none⟩ := by
  obtain ⟨_, inner, ho, hr⟩ := h
  rcases ho.2 with ⟨hv, _⟩ | ⟨g, cap', cur, hv, _⟩
  · cases hv
  · injection hv with ha _ _
    injection ha with ha
    exact ⟨g, ha⟩
theorem R_getA {ad : Addr} {n cap : Nat} (h : d.R e W base ok (.slice (some ad) n cap) xs) (z : α) (i : Int) (h0 : 0 ≤ i) (h1 : i < n) :
    ∃ c, c.length = d.sz ∧ d.M W base (fun k => ok k ∧ some k ≠ (Value.slice (some ad) n cap).ownBlock) (xs.getD i.toNat z) c ∧ ∀ j u, c[j]? = some u → W.cell? (ad.add (i.toNat * d.sz + j)) = some u := by
  obtain ⟨g, rfl⟩ := R_head h
  obtain ⟨c, hcl, hM, hcc, _⟩ := R_elem h z i h0 h1
  refine ⟨c, hcl, d.M_mono (fun k hk => ⟨hk.1, fun he => hk.2 (by simpa [Value.ownBlock] using he)⟩) hM, fun j u hu => ?_⟩
  rw [add_at, Nat.zero_add]
  exact hcc j u hu
/-- A slice's value is one cell. -/
theorem R_val (h : d.R e w base ok v xs) : v.cells.toList = [v] ∧ v.oneCell' = true := by
  obtain ⟨A, c, rfl⟩ := R_slice h
  exact ⟨rfl, rfl⟩
/-- A row whose elements lead to nothing: its blocks are its own one. -/
theorem R_tight (hE : d.E = []) (h : d.R e w base ok v xs) : d.R e w base (fun k => some k = v.ownBlock) v xs := by
  obtain ⟨h0, inner, ho, hr⟩ := h
  refine ⟨fun k hk => hk.symm, inner, ho, hr.imp_ (fun p c hp => d.M_mono (fun k hk => ?_) (d.M_bound hp))⟩
  obtain ⟨_, _, _, q, hq, _⟩ := hk
  rw [hE] at hq
  cases hq
theorem S_nil (d : Kd α) (e : Nat) (w : World) (base : Nat) (ok : Nat → Prop) : S d e w base ok (.slice none 0 0) [] := ⟨fun _ => 0, R_nil _ _ _ _ _⟩
theorem S_mono (h : S d e w base ok v xs) (hok : ∀ k, ok k → ok' k) : S d e w base ok' v xs := by
  obtain ⟨f, h⟩ := h
  exact ⟨f, R_mono h hok⟩
theorem S_bound (h : S d e w base ok v xs) : S d e w base (fun k => ok k ∧ base ≤ k ∧ k < w.heap.size ∧ ∃ q, q ∈ e :: d.E ∧ ∃ cells, w.heap[k]? = some (.cells cells q (0, 0))) v xs := by
  obtain ⟨f, h⟩ := h
  exact ⟨f, R_bound h⟩
theorem S_move (h : S d e w base ok v xs) (hm : ∀ k, ok k → w1.heap[k]? = w.heap[k]?) : S d e w1 base ok v xs := by
  obtain ⟨f, h⟩ := h
  exact ⟨f, R_move h hm⟩
theorem S_lower {base' : Nat} (h : S d e w base ok v xs) (hb : base' ≤ base) : S d e w base' ok v xs := by
  obtain ⟨f, h⟩ := h
  exact ⟨f, R_lower h hb⟩
theorem S_step (h : S d e w base ok v xs) (hm : ∀ k, ok k → k < w.heap.size → w1.heap[k]? = w.heap[k]?) : S d e w1 base ok v xs :=
  S_mono (S_move (S_bound h) (fun k hk => hm k hk.1 hk.2.2.1)) (fun _ hk => hk.1)
theorem S_below (h : S d e w base ok v xs) (hb : Below w.heap.size w w1) : S d e w1 base ok v xs := S_step h (fun k _ hk => hb.block k hk)
theorem S_alloc (h : S d e w base ok v xs) (o : Obj) : S d e (w.alloc o) base ok v xs := S_below h (below_alloc (Below.refl _ _) o)
theorem S_drew (h : S d e w base ok v xs) : S d e w.drew base ok v xs := S_below h (below_drew (Below.refl _ _))
theorem S_drewN (h : S d e w base ok v xs) (m : Nat) : S d e (w.drewN m) base ok v xs := S_below h (pw_below_drewN (Below.refl _ _) m)
theorem S_grown (h : S d e w base ok v xs) {row : Option Nat} (hg : w.grownBy w1 row) (hok : ∀ k, ok k → some k ≠ row) : S d e w1 base ok v xs := S_step h (fun k ho hk => hg.block k hk (hok k ho))
theorem S_far (h : S d e w base ok v xs) {p : Addr} (hok : ∀ k, ok k → k ≠ p.block) (u : Value) : S d e (w.setCell p u) base ok v xs := S_step h (fun k ho _ => Below.heap_setCell w p u k (hok k ho))
theorem S_keep (h : S d e w base ok v xs) {g : Nat} (hk : KeepBut w w1 g none) (hok : ∀ k, ok k → k ≠ g) : S d e w1 base ok v xs := S_step h (fun k ho hlt => hk.2 k hlt (hok k ho) (by simp))
theorem S_types (h : S d e w base ok v xs) {g t : Nat} {cells : Array Value} (hb : w.heap[g]? = some (.cells cells t (0, 0))) (ht : ∀ q, q ∈ e :: d.E → q ≠ t) : S d e w base (fun k => ok k ∧ k ≠ g) v xs := by
  obtain ⟨f, h⟩ := h
  exact ⟨f, R_types h hb ht⟩
theorem S_set (h : S d e w base ok v xs) {g t : Nat} {cells : Array Value} (hb : w.heap[g]? = some (.cells cells t (0, 0))) (ht : ∀ q, q ∈ e :: d.E → q ≠ t) (j : Nat) (u : Value) : S d e (w.setCell ⟨g, j, none⟩ u) base ok v xs :=
  S_mono (S_far (p := ⟨g, j, none⟩) (S_types h hb ht) (fun _ hk => hk.2) u) (fun _ hk => hk.1)
theorem S_typed (h : S d e w base ok v xs) : ∀ k, v.ownBlock = some k → ∃ cells, w.heap[k]? = some (.cells cells e (0, 0)) := R_typed (S_R h)
theorem S_lt (h : S d e w base ok v xs) : ∀ k, v.ownBlock = some k → k < w.heap.size := R_lt (S_R h)
theorem S_base (h : S d e w base ok v xs) : ∀ k, v.ownBlock = some k → base ≤ k := R_base (S_R h)
theorem S_over' (h : S d e W base ok u xs) (hty : ∀ k, v.ownBlock = some k → ∃ cells, W.heap[k]? = some (.cells cells e' (0, 0))) (ht : ∀ q, q ∈ e :: d.E → q ≠ e') (hg : W.grownBy w1 v.ownBlock) : S d e w1 base ok u xs := by
  obtain ⟨f, h⟩ := h
  exact ⟨f, R_over' h hty ht hg⟩
theorem S_apart' (h : S d e W base ok u xs) (hty : ∀ k, v.ownBlock = some k → ∃ cells, W.heap[k]? = some (.cells cells e' (0, 0))) (ht : ∀ q, q ∈ e :: d.E → q ≠ e') : S d e W base (fun k => ok k ∧ some k ≠ v.ownBlock) u xs := by
  obtain ⟨f, h⟩ := h
  exact ⟨f, R_apart' h hty ht⟩
theorem S_elder' (h : S d e W base ok u xs) (hbase : ∀ k, v.ownBlock = some k → W.heap.size ≤ k) (hb : Below W.heap.size W w1) : S d e w1 base (fun k => ok k ∧ some k ≠ v.ownBlock) u xs := by
  obtain ⟨f, h⟩ := h
  exact ⟨f, R_elder' h hbase hb⟩
theorem S_new' (h : S d e w1 W.heap.size ok v xs) (hlt : ∀ k, u.ownBlock = some k → k < W.heap.size) : S d e w1 W.heap.size (fun k => ok k ∧ some k ≠ u.ownBlock) v xs := by
  obtain ⟨f, h⟩ := h
  exact ⟨f, R_new' h hlt⟩
/-- Behind an append to v (it left v1): what is held apart from v is held apart from v1. -/
theorem S_after {v1 : Value} (h : S d e W base (fun k => ok k ∧ some k ≠ v.ownBlock) u xs) (hg : W.grownBy w1 v.ownBlock) (hat : v1.ownBlock = v.ownBlock ∨ ∃ b, v1.ownBlock = some b ∧ W.heap.size ≤ b) : S d e w1 base (fun k => ok k ∧ some k ≠ v1.ownBlock) u xs := by
  obtain ⟨f, h⟩ := h
  exact ⟨f, R_after h hg hat⟩
theorem S_apart_nil (h : S d e w base ok u xs) : S d e w base (fun k => ok k ∧ some k ≠ (Value.slice none 0 0).ownBlock) u xs := S_mono h (fun k hk => ⟨hk, by simp [Value.ownBlock]⟩)
theorem S_drop (h : S d e w base (fun k => ok k ∧ ok' k) u xs) : S d e w base ok u xs := S_mono h (fun _ hk => hk.1)
/-- An elder row over events that only make: its blocks are elder than what was made. -/
theorem S_old (h : S d e W base ok u xs) (hb : Below W.heap.size W w1) : S d e w1 base (fun k => ok k ∧ k < W.heap.size) u xs :=
  S_mono (S_below (S_bound h) hb) (fun _ hk => ⟨hk.1, hk.2.2.1⟩)
/-- xs = xs[:m]. -/
theorem S_take {A : Option Addr} {n m c : Nat} (h : S d e w base ok (.slice A n c) xs) (hm : m ≤ xs.length) : S d e w base ok (.slice A m c) (xs.take m) := by
  obtain ⟨f, h⟩ := h
  refine ⟨f, ?_⟩
  have h2 := R_take h (m := m) (by rw [List.length_zipIdx]; exact hm)
  have he : (xs.take m).zipIdx = xs.zipIdx.take m := by
    apply List.ext_getElem?
    intro j
    simp only [List.getElem?_zipIdx, List.getElem?_take, Nat.zero_add]
    split <;> simp
  rw [he]
  exact h2
/-- Elements that lead to nothing. -/
theorem S_bare (h : (bare d).R e w base ok v xs) : S d e w base ok v xs := by
  obtain ⟨h0, inner, ho, hr⟩ := h
  refine ⟨fun _ => 0, h0, inner, by rw [List.length_zipIdx]; exact ho, by rw [List.length_zipIdx]; exact hr.1, fun j p hj => ?_⟩
  rw [List.getElem?_zipIdx, Nat.zero_add] at hj
  obtain ⟨x, hx, rfl⟩ := Option.map_eq_some_iff.1 hj
  exact d.M_mono (fun _ hk => hk.elim) (hr.2 j x hx)
/-- Behind an element taken out the others move down. -/
theorem S_erase {f : Nat → Nat} {k : Nat} (h : (tag f d).R e w base ok v (xs.zipIdx.eraseIdx k)) : S d e w base ok v (xs.eraseIdx k) := by
  obtain ⟨h0, inner, ho, hr⟩ := h
  have hl : (xs.zipIdx.eraseIdx k).length = (xs.eraseIdx k).length := by simp only [List.length_eraseIdx, List.length_zipIdx]
  rw [hl] at ho
  refine ⟨fun b => if k < f b then f b - 1 else f b, h0, inner, by rw [List.length_zipIdx]; exact ho, by rw [List.length_zipIdx, ← hl]; exact hr.1, fun j p hj => ?_⟩
  rw [List.getElem?_zipIdx, Nat.zero_add] at hj
  obtain ⟨x, hx, rfl⟩ := Option.map_eq_some_iff.1 hj
  rw [List.getElem?_eraseIdx] at hx
  by_cases hjk : j < k
  · rw [if_pos hjk] at hx
    refine d.M_mono (fun b hb => ⟨hb.1, ?_⟩) (hr.2 j (x, j) (by rw [List.getElem?_eraseIdx, if_pos hjk]; exact zip_at hx))
    have h2 : f b = j := hb.2
    show (if k < f b then f b - 1 else f b) = j
    rw [if_neg (by omega)]; exact h2
  · rw [if_neg hjk] at hx
    refine d.M_mono (fun b hb => ⟨hb.1, ?_⟩) (hr.2 j (x, j + 1) (by rw [List.getElem?_eraseIdx, if_neg hjk]; exact zip_at hx))
    have h2 : f b = j + 1 := hb.2
    show (if k < f b then f b - 1 else f b) = j
    rw [if_pos (by omega)]; omega
/-- The owner may be told anew where nothing is said. -/
theorem R_tag {f f' : Nat → Nat} {zs : List (α × Nat)} (h : (tag f d).R e w base ok v zs) (hf : ∀ k, ok k → k < w.heap.size → f' k = f k) : (tag f' d).R e w base ok v zs := by
  obtain ⟨h0, inner, ho, hr⟩ := R_bound h
  exact ⟨fun k hk => (h0 k hk).1, inner, ho, hr.1, fun j p hj => d.M_mono (fun k hk => ⟨⟨hk.1.1.1, hk.1.2⟩, (hf k hk.1.1.1 hk.1.1.2.2.1).trans hk.2⟩) (hr.2 j p hj)⟩
end
section
variable {α β : Type} {d : Kd α} {d' : Kd β} {e e' g : Nat} {w w1 W : World} {base b : Nat} {ok ok' okv oku : Nat → Prop} {u v : Value} {xs : List α} {ys : List β}
theorem S_ne (h : S d e w base ok v xs) {t : Nat} {cells : Array Value} (hb : w.heap[g]? = some (.cells cells t (0, 0))) (ht : e ≠ t) : some g ≠ v.ownBlock := R_ne (S_R h) hb ht
theorem S_away (h : S d e w base ok v xs) (hok : ∀ k, ok k → k ≠ g) : some g ≠ v.ownBlock := R_away (S_R h) hok
theorem S_form (h : S d e w base ok v xs) (hp : 0 < xs.length) : ∃ g cap, v = .slice (some ⟨g, 0, none⟩) xs.length cap ∧ base ≤ g ∧ g < w.heap.size ∧ ∃ cells, w.heap[g]? = some (.cells cells e (0, 0)) := R_form (S_R h) hp
theorem S_base2 (h : S d e w base ok v xs) : v.ownBlock = none ∨ ∃ k, v.ownBlock = some k ∧ base ≤ k := R_base2 (S_R h)
theorem S_slice (h : S d e w base ok v xs) : ∃ A c, v = .slice A xs.length c := R_slice (S_R h)
theorem S_reads (h : S d e w base ok v xs) : ∃ A c, v = .slice A xs.length c ∧ xs.length ≤ c ∧ d.C w A xs.length xs := R_reads (S_R h)
theorem S_reads' {A : Option Addr} {n c : Nat} (h : S d e w base ok (.slice A n c) xs) : n = xs.length ∧ n ≤ c ∧ d.C w A xs.length xs := R_reads' (S_R h)
theorem S_own (h : S d e w base ok v xs) : ∃ inner, w.ownsRow base e d.sz v xs.length inner := R_own (S_R h)
/-- Only read: its cells and what it leads to, as_ the row has them. -/
theorem S_get {ad : Addr} {n cap : Nat} (h : S d e W base ok (.slice (some ad) n cap) xs) (z : α) (i : Int) (h0 : 0 ≤ i) (h1 : i < n) :
    ∃ c, c.length = d.sz ∧ d.M W base (fun k => ok k ∧ some k ≠ (Value.slice (some ad) n cap).ownBlock) (xs.getD i.toNat z) c ∧ ∀ j u, c[j]? = some u → W.cell? (ad.add (i.toNat * d.sz + j)) = some u := R_getA (S_R h) z i h0 h1
theorem S_elderB (h : S d e w base ok v xs) (a : Nat) (ha : w.heap.size ≤ a) : S d e w base (fun k => ok k ∧ k ≠ a) v xs := S_mono (S_bound h) (fun k hk => ⟨hk.1, by have := hk.2.2.1; omega⟩)
theorem S_newB {o : Obj} (h : S d e w1 w.heap.size ok v xs) (hb : w.heap[g]? = some o) : S d e w1 w.heap.size (fun k => ok k ∧ k ≠ g) v xs := S_mono (S_bound h) (fun k hk => ⟨hk.1, by have := blk_lt hb; have := hk.2.1; omega⟩)
/-- The same over a state's call. -/
theorem S_oldK (hu : S d e W base (fun k => ok k ∧ k ≠ g) u xs) (hk : KeepBut W w1 g none) : S d e w1 base (fun k => ok k ∧ k < W.heap.size) u xs :=
  S_mono (S_keep (S_bound hu) hk (fun _ h => h.1.2)) (fun _ h => ⟨h.1.1, h.2.2.1⟩)
/-- It is none of the rows made since. -/
theorem S_told {N : Nat} (h : S d e w1 base (fun k => ok k ∧ k < N) u xs) (hbase : ∀ k, v.ownBlock = some k → N ≤ k) : S d e w1 base (fun k => (ok k ∧ some k ≠ v.ownBlock) ∧ k < N) u xs :=
  S_mono h (fun k hk => ⟨⟨hk.1, fun e => Nat.lt_irrefl _ (Nat.lt_of_lt_of_le hk.2 (hbase k e.symm))⟩, hk.2⟩)
theorem zip_snoc (xs : List α) (p : α) : (xs ++ [p]).zipIdx = xs.zipIdx ++ [(p, xs.length)] := by rw [List.zipIdx_append]; simp
end
/-! #### append, make, literals: the new element's blocks are none of the elder ones' -/
section
open Classical in
/-- The next element's blocks are okp: none is one of v's (okv). -/
theorem S_tag {α : Type} {d : Kd α} {e base : Nat} {okv : Nat → Prop} {w : World} {v : Value} {xs : List α} (h : S d e w base okv v xs) (m : Nat) (okp : Nat → Prop) (hap : ∀ k, okp k → ¬ okv k) : ∃ f, (∀ k, okp k → f k = m) ∧ (tag f d).R e w base okv v xs.zipIdx := by
  obtain ⟨f, h⟩ := h
  exact ⟨fun k => if okp k then m else f k, fun k hk => if_pos hk, R_tag h (fun k hk _ => if_neg (fun h2 => hap k h2 hk))⟩
variable {P : Program} {ops : Array Oper} {rest : List Oper} {o : Oper} {a : Act} {Q : Exit → Act → World → Prop} {Kc : Act → World → Prop} {α : Type}
/-- append(v, x), behind 'at_builtin': x's blocks are okp, none of them v's. -/
theorem S_append (d : Kd α) {w0 W : World} (base : Nat) (hgd : o.guard = none) (s x : Operand) (t e : TypeId) (z : Value) (bytes : Nat)
    (ho : o.op = .call { callee := .builtin .append, args := #[s, x], argTypes := #[t, t] })
    (ht : P.underlying t = some (.slice e)) (hinfo : (P.info? e).map (fun i => (i.zero, i.size, i.bytes)) = some (some z, d.sz, bytes)) (hz : z.cells.size = d.sz) (hs0 : 0 < d.sz) (hb0 : 0 < bytes)
    (v : Value) (xs : List α) (p : α) (cs : List Value) (ok okp : Nat → Prop) (hs : a.eval s = v) (hx : a.eval x = .slice (some ⟨W.heap.size, 0, none⟩) 1 1) (hp : d.M W base okp p cs) (hokp : ∀ k, okp k → ok k ∧ some k ≠ v.ownBlock) (hfresh : ∀ k, W.heap.size ≤ k → ok k)
    (HO : S d e W base (fun k => ok k ∧ ¬ okp k) v xs) (HB : Below base w0 W) (hbase : base ≤ W.heap.size) (hl : (xs.length + 1) * bytes ≤ 140737488355328)
    (h : ∀ v1 w1, S d e w1 base ok v1 (xs ++ [p]) → Below base w0 w1 → W.grownBy w1 v.ownBlock → (v1.ownBlock = v.ownBlock ∨ ∃ b, v1.ownBlock = some b ∧ W.heap.size ≤ b) → wpList P ops Q rest (a.put o.dst v1) w1) :
    wpList P ops Q (o :: rest) a (W.alloc (.cells cs.toArray e)) := by
  obtain ⟨f, hf, hR⟩ := S_tag HO xs.length okp (fun _ hk h2 => h2.2 hk)
  refine R_append (tag f d) base hgd s x t e z bytes ho ht hinfo hz hs0 hb0 v xs.zipIdx (p, xs.length) cs ok okp hs hx (d.M_mono (fun k hk => ⟨hk, hf k hk⟩) hp) hokp hfresh (R_mono hR (fun _ hk => hk.1)) HB hbase (by rw [List.length_zipIdx]; exact hl) ?_
  intro v1 w1 hr
  rw [← zip_snoc] at hr
  exact h v1 w1 ⟨f, hr⟩
theorem S_append_step (d : Kd α) {w0 W : World} (base : Nat) (hw : Region.wanted o (yielded ops a.tmps) = true) (s x : Operand) (t e : TypeId) (z : Value) (bytes : Nat)
    (ho : o.op = .call { callee := .builtin .append, args := #[s, x], argTypes := #[t, t] })
    (ht : P.underlying t = some (.slice e)) (hinfo : (P.info? e).map (fun i => (i.zero, i.size, i.bytes)) = some (some z, d.sz, bytes)) (hz : z.cells.size = d.sz) (hs0 : 0 < d.sz) (hb0 : 0 < bytes)
    (v : Value) (xs : List α) (p : α) (cs : List Value) (ok okp : Nat → Prop) (hs : a.eval s = v) (hx : a.eval x = .slice (some ⟨W.heap.size, 0, none⟩) 1 1) (hp : d.M W base okp p cs) (hokp : ∀ k, okp k → ok k ∧ some k ≠ v.ownBlock) (hfresh : ∀ k, W.heap.size ≤ k → ok k)
    (HO : S d e W base (fun k => ok k ∧ ¬ okp k) v xs) (HB : Below base w0 W) (hbase : base ≤ W.heap.size) (hl : (xs.length + 1) * bytes ≤ 140737488355328)
    (h : ∀ v1 w1, S d e w1 base ok v1 (xs ++ [p]) → Below base w0 w1 → W.grownBy w1 v.ownBlock → (v1.ownBlock = v.ownBlock ∨ ∃ b, v1.ownBlock = some b ∧ W.heap.size ≤ b) → Kc (a.put o.dst v1) w1) :
    if Region.wanted o (yielded ops a.tmps) = true then Oper.wp P o a (W.alloc (.cells cs.toArray e)) Kc Q else Kc (a.put o.dst undef) (W.alloc (.cells cs.toArray e)) := by
  obtain ⟨f, hf, hR⟩ := S_tag HO xs.length okp (fun _ hk h2 => h2.2 hk)
  refine R_append_step (tag f d) base hw s x t e z bytes ho ht hinfo hz hs0 hb0 v xs.zipIdx (p, xs.length) cs ok okp hs hx (d.M_mono (fun k hk => ⟨hk, hf k hk⟩) hp) hokp hfresh (R_mono hR (fun _ hk => hk.1)) HB hbase (by rw [List.length_zipIdx]; exact hl) ?_
  intro v1 w1 hr
  rw [← zip_snoc] at hr
  exact h v1 w1 ⟨f, hr⟩
/-- Elements whose blocks are told one by one (element j's are okj j): none is in two. -/
theorem reps_tag {d : Kd α} {w : World} {base : Nat} {ok : Nat → Prop} {xs : List α} {inner : List Value} (okj : Nat → Nat → Prop) (hap : ∀ i j k, okj i k → okj j k → i = j) (hok : ∀ j k, okj j k → ok k)
    (hl : inner.length = xs.length * d.sz) (hrep : ∀ j x, xs[j]? = some x → d.M w base (okj j) x ((inner.drop (j * d.sz)).take d.sz)) : ∃ f, Reps ((tag f d).M w base ok) d.sz xs.zipIdx inner := by
  refine ⟨fun k => open Classical in if h : ∃ j, okj j k then h.choose else 0, by rw [List.length_zipIdx]; exact hl, fun j p hj => ?_⟩
  rw [List.getElem?_zipIdx, Nat.zero_add] at hj
  obtain ⟨x, hx, rfl⟩ := Option.map_eq_some_iff.1 hj
  refine d.M_mono (fun k hk => ⟨hok j k hk, ?_⟩) (hrep j x hx)
  have h : ∃ j, okj j k := ⟨j, hk⟩
  exact (dif_pos h).trans (hap _ _ k h.choose_spec hk)
theorem S_lits (d : Kd α) {w0 W : World} (base e : Nat) (hgd : o.guard = none) {N : Tmp} (_hd : o.dst = some N) {xs : List α} {inner : List Value} {ok : Nat → Prop} (okj : Nat → Nat → Prop)
    (hrun : (execOp a.eval o).run P W = .ok (.value (.slice (some ⟨W.heap.size, 0, none⟩) xs.length xs.length)) (W.alloc (.cells inner.toArray e)))
    (hl : inner.length = xs.length * d.sz) (hrep : ∀ j x, xs[j]? = some x → d.M W base (okj j) x ((inner.drop (j * d.sz)).take d.sz)) (hap : ∀ i j k, okj i k → okj j k → i = j) (hok : ∀ j k, okj j k → ok k) (hfresh : ok W.heap.size) (HB : Below base w0 W) (hbase : base ≤ W.heap.size) (hm : xs.length ≤ 9223372036854775807)
    (h : ∀ v1 w1, S d e w1 base ok v1 xs → Below base w0 w1 → W.grownBy w1 none → (∃ b, v1.ownBlock = some b ∧ W.heap.size ≤ b) → wpList P ops Q rest (a.put o.dst v1) w1) : wpList P ops Q (o :: rest) a W := by
  obtain ⟨f, hr⟩ := reps_tag (d := d) (w := W) (base := base) (ok := ok) okj hap hok hl hrep
  refine R_lit (tag f d) base e hgd _hd (xs := xs.zipIdx) (inner := inner) (ok := ok) (okp := ok) (by rw [List.length_zipIdx]; exact hrun) hr (fun _ hk => hk) hfresh HB hbase (by rw [List.length_zipIdx]; exact hm) ?_
  intro v1 w1 hr
  exact h v1 w1 ⟨f, hr⟩
theorem S_lits_step (d : Kd α) {w0 W : World} (base e : Nat) (hw : Region.wanted o (yielded ops a.tmps) = true) {N : Tmp} (_hd : o.dst = some N) {xs : List α} {inner : List Value} {ok : Nat → Prop} (okj : Nat → Nat → Prop)
    (hrun : (execOp a.eval o).run P W = .ok (.value (.slice (some ⟨W.heap.size, 0, none⟩) xs.length xs.length)) (W.alloc (.cells inner.toArray e)))
    (hl : inner.length = xs.length * d.sz) (hrep : ∀ j x, xs[j]? = some x → d.M W base (okj j) x ((inner.drop (j * d.sz)).take d.sz)) (hap : ∀ i j k, okj i k → okj j k → i = j) (hok : ∀ j k, okj j k → ok k) (hfresh : ok W.heap.size) (HB : Below base w0 W) (hbase : base ≤ W.heap.size) (hm : xs.length ≤ 9223372036854775807)
    (h : ∀ v1 w1, S d e w1 base ok v1 xs → Below base w0 w1 → W.grownBy w1 none → (∃ b, v1.ownBlock = some b ∧ W.heap.size ≤ b) → Kc (a.put o.dst v1) w1) :
    if Region.wanted o (yielded ops a.tmps) = true then Oper.wp P o a W Kc Q else Kc (a.put o.dst undef) W := by
  obtain ⟨f, hr⟩ := reps_tag (d := d) (w := W) (base := base) (ok := ok) okj hap hok hl hrep
  refine R_lit_step (tag f d) base e hw _hd (xs := xs.zipIdx) (inner := inner) (ok := ok) (okp := ok) (by rw [List.length_zipIdx]; exact hrun) hr (fun _ hk => hk) hfresh HB hbase (by rw [List.length_zipIdx]; exact hm) ?_
  intro v1 w1 hr
  exact h v1 w1 ⟨f, hr⟩
/-- A literal whose elements lead to nothing. -/
theorem S_lit (d : Kd α) {w0 W : World} (base e : Nat) (hgd : o.guard = none) {N : Tmp} (_hd : o.dst = some N) {xs : List α} {inner : List Value} {ok okp : Nat → Prop}
    (hrun : (execOp a.eval o).run P W = .ok (.value (.slice (some ⟨W.heap.size, 0, none⟩) xs.length xs.length)) (W.alloc (.cells inner.toArray e)))
    (hrep : Reps (d.M W base (fun _ => False)) d.sz xs inner) (_hok : ∀ k, okp k → ok k) (hfresh : ok W.heap.size) (HB : Below base w0 W) (hbase : base ≤ W.heap.size) (hm : xs.length ≤ 9223372036854775807)
    (h : ∀ v1 w1, S d e w1 base ok v1 xs → Below base w0 w1 → W.grownBy w1 none → (∃ b, v1.ownBlock = some b ∧ W.heap.size ≤ b) → wpList P ops Q rest (a.put o.dst v1) w1) : wpList P ops Q (o :: rest) a W :=
  R_lit (bare d) base e hgd _hd (ok := ok) (okp := ok) hrun hrep (fun _ hk => hk) hfresh HB hbase hm (fun v1 w1 hr => h v1 w1 (S_bare hr))
theorem S_lit_step (d : Kd α) {w0 W : World} (base e : Nat) (hw : Region.wanted o (yielded ops a.tmps) = true) {N : Tmp} (_hd : o.dst = some N) {xs : List α} {inner : List Value} {ok okp : Nat → Prop}
    (hrun : (execOp a.eval o).run P W = .ok (.value (.slice (some ⟨W.heap.size, 0, none⟩) xs.length xs.length)) (W.alloc (.cells inner.toArray e)))
    (hrep : Reps (d.M W base (fun _ => False)) d.sz xs inner) (_hok : ∀ k, okp k → ok k) (hfresh : ok W.heap.size) (HB : Below base w0 W) (hbase : base ≤ W.heap.size) (hm : xs.length ≤ 9223372036854775807)
    (h : ∀ v1 w1, S d e w1 base ok v1 xs → Below base w0 w1 → W.grownBy w1 none → (∃ b, v1.ownBlock = some b ∧ W.heap.size ≤ b) → Kc (a.put o.dst v1) w1) :
    if Region.wanted o (yielded ops a.tmps) = true then Oper.wp P o a W Kc Q else Kc (a.put o.dst undef) W :=
  R_lit_step (bare d) base e hw _hd (ok := ok) (okp := ok) hrun hrep (fun _ hk => hk) hfresh HB hbase hm (fun v1 w1 hr => h v1 w1 (S_bare hr))
theorem S_make (d : Kd α) {w0 W : World} (base e : Nat) (hgd : o.guard = none) {N : Tmp} (hd : o.dst = some N) (t : TypeId) (x y : Operand) (ho : o.op = .makeSlice t x y) (n : Int) (hx : a.eval x = .int .i64 n) (hy : a.eval y = .int .i64 n)
    (ht : P.underlying t = some (.slice e)) (z : Value) (bytes : Nat) (hinfo : (P.info? e).map (fun i => (i.zero, i.size, i.bytes)) = some (some z, d.sz, bytes)) (hz : z.cells.size = d.sz) (hs0 : 0 < d.sz) (hb0 : 0 < bytes)
    (z0 : α) {ok okp : Nat → Prop} (hzero : d.M W base (fun _ => False) z0 z.cells.toList) (_hok : ∀ k, okp k → ok k) (hfresh : ok W.heap.size) (h0 : 0 ≤ n) (hl : n.toNat * bytes ≤ 281474976710656) (HB : Below base w0 W) (hbase : base ≤ W.heap.size)
    (h : ∀ v1 w1, S d e w1 base ok v1 (List.replicate n.toNat z0) → Below base w0 w1 → W.grownBy w1 none → (∃ b, v1.ownBlock = some b ∧ W.heap.size ≤ b) → wpList P ops Q rest (a.put o.dst v1) w1) : wpList P ops Q (o :: rest) a W :=
  R_make (bare d) base e hgd hd t x y ho n hx hy ht z bytes hinfo hz hs0 hb0 z0 (ok := ok) (okp := ok) hzero (fun _ hk => hk) hfresh h0 hl HB hbase (fun v1 w1 hr => h v1 w1 (S_bare hr))
theorem S_make_step (d : Kd α) {w0 W : World} (base e : Nat) (hw : Region.wanted o (yielded ops a.tmps) = true) {N : Tmp} (hd : o.dst = some N) (t : TypeId) (x y : Operand) (ho : o.op = .makeSlice t x y) (n : Int) (hx : a.eval x = .int .i64 n) (hy : a.eval y = .int .i64 n)
    (ht : P.underlying t = some (.slice e)) (z : Value) (bytes : Nat) (hinfo : (P.info? e).map (fun i => (i.zero, i.size, i.bytes)) = some (some z, d.sz, bytes)) (hz : z.cells.size = d.sz) (hs0 : 0 < d.sz) (hb0 : 0 < bytes)
    (z0 : α) {ok okp : Nat → Prop} (hzero : d.M W base (fun _ => False) z0 z.cells.toList) (_hok : ∀ k, okp k → ok k) (hfresh : ok W.heap.size) (h0 : 0 ≤ n) (hl : n.toNat * bytes ≤ 281474976710656) (HB : Below base w0 W) (hbase : base ≤ W.heap.size)
    (h : ∀ v1 w1, S d e w1 base ok v1 (List.replicate n.toNat z0) → Below base w0 w1 → W.grownBy w1 none → (∃ b, v1.ownBlock = some b ∧ W.heap.size ≤ b) → Kc (a.put o.dst v1) w1) :
    if Region.wanted o (yielded ops a.tmps) = true then Oper.wp P o a W Kc Q else Kc (a.put o.dst undef) W :=
  R_make_step (bare d) base e hw hd t x y ho n hx hy ht z bytes hinfo hz hs0 hb0 z0 (ok := ok) (okp := ok) hzero (fun _ hk => hk) hfresh h0 hl HB hbase (fun v1 w1 hr => h v1 w1 (S_bare hr))
end
/-! #### a row with a hole: element i is lent, its blocks are oki; of it the row says its cells alone -/
/-- Element i is these cells; the others are d's. -/
def gap {α : Type} (f : Nat → Nat) (d : Kd α) (i : Nat) (c : List Value) : Kd (α × Nat) where
  sz := d.sz
  E := d.E
  K := fun w x cs => (x.2 = i → cs = c ∧ cs.length = d.sz ∧ ∀ u ∈ cs, u.oneCell' = true) ∧ (x.2 ≠ i → d.K w x.1 cs)
  M := fun w base ok x cs => (x.2 = i → cs = c ∧ cs.length = d.sz ∧ ∀ u ∈ cs, u.oneCell' = true) ∧ (x.2 ≠ i → d.M w base (fun k => ok k ∧ f k = x.2) x.1 cs)
  K_len := fun {w x cs} h => by
    by_cases hx : x.2 = i
    · exact (h.1 hx).2.1
    · exact d.K_len (h.2 hx)
  K_one := fun {w x cs} h => by
    by_cases hx : x.2 = i
    · exact (h.1 hx).2.2
    · exact d.K_one (h.2 hx)
  K_below := fun hb h => ⟨h.1, fun hx => d.K_below hb (h.2 hx)⟩
  K_of_M := fun h => ⟨h.1, fun hx => d.K_of_M (h.2 hx)⟩
  M_mono := fun hok h => ⟨h.1, fun hx => d.M_mono (fun k hk => ⟨hok k hk.1, hk.2⟩) (h.2 hx)⟩
  M_bound := fun h => ⟨h.1, fun hx => d.M_mono (fun _ hk => ⟨⟨hk.1.1, hk.2⟩, hk.1.2⟩) (d.M_bound (h.2 hx))⟩
  M_move := fun hm h => ⟨h.1, fun hx => d.M_move (fun k hk => hm k hk.1) (h.2 hx)⟩
  M_lower := fun hb h => ⟨h.1, fun hx => d.M_lower hb (h.2 hx)⟩
def H {α : Type} (d : Kd α) (e : Nat) (w : World) (base : Nat) (ok : Nat → Prop) (v : Value) (xs : List α) (i : Int) (oki : Nat → Prop) (c : List Value) : Prop :=
  (∀ k, oki k → ok k) ∧ ∃ f, (gap f d i.toNat c).R e w base (fun k => ok k ∧ ¬ oki k) v xs.zipIdx
section
variable {α β : Type} {d : Kd α} {e e' g n cap : Nat} {w w1 W : World} {base : Nat} {ok ok' oki okp : Nat → Prop} {u v : Value} {xs : List α} {i : Int} {c : List Value}
/-- Element i, lent: its cells, its blocks, and the row without it. -/
theorem S_lend (h : S d e W base ok (.slice (some ⟨g, 0, none⟩) n cap) xs) (z : α) (i : Int) (h0 : 0 ≤ i) (h1 : i < n) :
    ∃ (oki : Nat → Prop) (c : List Value), c.length = d.sz ∧ d.M W base oki (xs.getD i.toNat z) c ∧ (∀ j u, c[j]? = some u → W.cell? ⟨g, i.toNat * d.sz + j, none⟩ = some u) ∧ (∀ k, oki k → ok k ∧ k ≠ g) ∧ H d e W base ok (.slice (some ⟨g, 0, none⟩) n cap) xs i oki c := by
  obtain ⟨f, hR⟩ := h
  have hn := (R_reads' hR).1
  rw [List.length_zipIdx] at hn
  have hgo : some g = (Value.slice (some ⟨g, 0, none⟩) n cap).ownBlock := by simp [Value.ownBlock]
  obtain ⟨hok0, inner, ho, hr⟩ := hR
  have hil : i.toNat < xs.length := by omega
  have hlen : inner.length = xs.length * d.sz := by have := hr.1; rw [List.length_zipIdx] at this; exact this
  have hseg : i.toNat * d.sz + d.sz ≤ inner.length := by rw [hlen, ← Nat.succ_mul]; exact Nat.mul_le_mul_right _ hil
  have hM := hr.2 i.toNat _ (zip_at (List.getElem?_eq_getElem hil))
  have hkg : ∀ k, some k ≠ (Value.slice (some ⟨g, 0, none⟩) n cap).ownBlock → k ≠ g := fun k hk he => hk (by rw [he]; exact hgo)
  refine ⟨fun k => (ok k ∧ k ≠ g) ∧ f k = i.toNat, (inner.drop (i.toNat * d.sz)).take d.sz, by rw [List.length_take, List.length_drop]; omega, ?_, fun j u hu => ?_, fun k hk => hk.1, fun k hk => hk.1.1, f, fun k hk => ⟨hok0 k hk, fun h2 => h2.1.2 ?_⟩, inner, ho, hr.1, fun m p hm => ?_⟩
  · rw [List.getD_eq_getElem?_getD, List.getElem?_eq_getElem hil]
    exact d.M_mono (fun k hk => ⟨⟨hk.1.1, hkg k hk.1.2⟩, hk.2⟩) hM
  · rw [List.getElem?_take] at hu
    split at hu
    · rw [List.getElem?_drop] at hu
      have := ho.cells (g := g) hgo.symm _ u hu
      rwa [add_plain] at this
    · cases hu
  · rw [← hgo] at hk; injection hk with hk; exact hk.symm
  · have hold := hr.2 m p hm
    have hp2 : p.2 = m := by
      rw [List.getElem?_zipIdx, Nat.zero_add] at hm
      obtain ⟨q, _, rfl⟩ := Option.map_eq_some_iff.1 hm
      rfl
    refine ⟨fun hx => ?_, fun hx => d.M_mono (fun k hk => ⟨⟨⟨hk.1.1, fun h2 => hx ?_⟩, hk.1.2⟩, hk.2⟩) hold⟩
    · have hmi : m = i.toNat := by omega
      subst hmi
      exact ⟨rfl, d.K_len (d.K_of_M hM), d.K_one (d.K_of_M hM)⟩
    · rw [← hk.2]; exact h2.2
open Classical in
/-- The element put back: its blocks are among those that were lent. -/
theorem H_back (h : H d e w base ok v xs i oki c) {x' : α} (hM : d.M w base okp x' c) (hok : ∀ k, okp k → oki k) : S d e w base ok v (xs.set i.toNat x') := by
  obtain ⟨ho, f, h0, inner, hown, hr⟩ := h
  refine ⟨fun k => if oki k then i.toNat else f k, fun k hk => (h0 k hk).1, inner, by rw [List.length_zipIdx, List.length_set]; rw [List.length_zipIdx] at hown; exact hown, by have := hr.1; rw [List.length_zipIdx] at this; rw [List.length_zipIdx, List.length_set]; exact this, fun m p hm => ?_⟩
  rw [List.getElem?_zipIdx, Nat.zero_add] at hm
  obtain ⟨q, hq, rfl⟩ := Option.map_eq_some_iff.1 hm
  have hml : m < xs.length := by
    have := (List.getElem?_eq_some_iff.1 hq).1
    rwa [List.length_set] at this
  by_cases hmi : m = i.toNat
  · subst hmi
    rw [List.getElem?_set_self hml] at hq
    injection hq with hq
    subst hq
    have hc := ((hr.2 i.toNat _ (zip_at (List.getElem?_eq_getElem hml))).1 rfl).1
    show d.M w base _ x' ((inner.drop (i.toNat * d.sz)).take d.sz)
    rw [show (inner.drop (i.toNat * d.sz)).take d.sz = c from hc]
    exact d.M_mono (fun k hk => ⟨⟨ho k (hok k hk), fun he => (h0 k he.symm).2 (hok k hk)⟩, if_pos (hok k hk)⟩) hM
  · rw [List.getElem?_set_ne (Ne.symm hmi)] at hq
    exact d.M_mono (fun k hk => ⟨⟨hk.1.1.1, hk.1.2⟩, (if_neg hk.1.1.2).trans hk.2⟩) ((hr.2 m (q, m) (zip_at hq)).2 hmi)
/-- What is lent may take in what is new. -/
theorem H_widen (h : H d e w base ok v xs i oki c) : H d e w base ok v xs i (fun k => oki k ∨ ok k ∧ w.heap.size ≤ k) c := by
  obtain ⟨ho, f, h⟩ := h
  exact ⟨fun k hk => hk.elim (ho k) (fun h2 => h2.1), f, R_mono (R_bound h) (fun k hk => ⟨hk.1.1, fun h2 => h2.elim hk.1.2 (fun h3 => by have := hk.2.2.1; omega)⟩)⟩
theorem H_step (h : H d e w base ok v xs i oki c) (hm : ∀ k, ok k → ¬ oki k → k < w.heap.size → w1.heap[k]? = w.heap[k]?) : H d e w1 base ok v xs i oki c := by
  obtain ⟨ho, f, h⟩ := h
  exact ⟨ho, f, R_step h (fun k hk hlt => hm k hk.1 hk.2 hlt)⟩
/-- A row that was lent has been written (appended to, stored into). -/
theorem H_grown (h : H d e w base ok v xs i oki c) {row : Option Nat} (hg : w.grownBy w1 row) (hrow : ∀ k, row = some k → oki k) : H d e w1 base ok v xs i oki c :=
  H_step h (fun k _ hn hlt => hg.block k hlt (fun he => hn (hrow k he.symm)))
/-- Another row has been written. -/
theorem H_other (h : H d e w base ok v xs i oki c) {row : Option Nat} (hg : w.grownBy w1 row) (hok : ∀ k, ok k → some k ≠ row) : H d e w1 base ok v xs i oki c :=
  H_step h (fun k hk _ hlt => hg.block k hlt (hok k hk))
theorem H_below (h : H d e w base ok v xs i oki c) (hb : Below w.heap.size w w1) : H d e w1 base ok v xs i oki c := H_step h (fun k _ _ hlt => hb.block k hlt)
theorem H_alloc (h : H d e w base ok v xs i oki c) (o : Obj) : H d e (w.alloc o) base ok v xs i oki c := H_below h (below_alloc (Below.refl _ _) o)
theorem H_drew (h : H d e w base ok v xs i oki c) : H d e w.drew base ok v xs i oki c := H_below h (below_drew (Below.refl _ _))
theorem H_drewN (h : H d e w base ok v xs i oki c) (m : Nat) : H d e (w.drewN m) base ok v xs i oki c := H_below h (pw_below_drewN (Below.refl _ _) m)
theorem H_far (h : H d e w base ok v xs i oki c) {p : Addr} (hok : ∀ k, ok k → k ≠ p.block) (u : Value) : H d e (w.setCell p u) base ok v xs i oki c := H_step h (fun k hk _ _ => Below.heap_setCell w p u k (hok k hk))
theorem H_keep (h : H d e w base ok v xs i oki c) (hk : KeepBut w w1 g none) (hok : ∀ k, ok k → k ≠ g) : H d e w1 base ok v xs i oki c := H_step h (fun k ho _ hlt => hk.2 k hlt (hok k ho) (by simp))
/-- ok may be told anew where the row and what is lent allow it. -/
theorem H_mono (h : H d e w base ok v xs i oki c) (hok : ∀ k, ok k → ok' k) : H d e w base ok' v xs i oki c := by
  obtain ⟨ho, f, h⟩ := h
  exact ⟨fun k hk => hok k (ho k hk), f, R_mono h (fun k hk => ⟨hok k hk.1, hk.2⟩)⟩
theorem H_elder' (h : H d e W base ok v xs i oki c) (hi : ∀ k, oki k → k < W.heap.size) (hbase : ∀ k, u.ownBlock = some k → W.heap.size ≤ k) (hb : Below W.heap.size W w1) : H d e w1 base (fun k => ok k ∧ some k ≠ u.ownBlock) v xs i oki c := by
  obtain ⟨ho, f, h⟩ := h
  exact ⟨fun k hk => ⟨ho k hk, fun he => by have := hbase k he.symm; have := hi k hk; omega⟩, f, R_mono (R_elder' h hbase hb) (fun k hk => ⟨⟨hk.1.1, hk.2⟩, hk.1.2⟩)⟩
/-- More may be lent: what is nobody's. -/
theorem H_more {okg : Nat → Prop} (h : H d e w base (fun k => ok k ∧ ¬ okg k) v xs i oki c) (hg : ∀ k, okg k → ok k) : H d e w base ok v xs i (fun k => oki k ∨ okg k) c := by
  obtain ⟨ho, f, h⟩ := h
  exact ⟨fun k hk => hk.elim (fun h2 => (ho k h2).1) (hg k), f, R_mono h (fun k hk => ⟨hk.1.1, fun h2 => h2.elim hk.2 hk.1.2⟩)⟩
/-- For one event on what element i leads to (an inner row stored into): the element's cells stay. -/
theorem S_borrow {ad : Addr} (h : S d e W base ok (.slice (some ad) n cap) xs) (z : α) (i : Int) (h0 : 0 ≤ i) (h1 : i < n) :
    ∃ (oki : Nat → Prop) (c : List Value), c.length = d.sz ∧ d.M W base oki (xs.getD i.toNat z) c ∧ (∀ j u, c[j]? = some u → W.cell? (ad.add (i.toNat * d.sz + j)) = some u) ∧ (∀ k, oki k → ok k ∧ some k ≠ (Value.slice (some ad) n cap).ownBlock) ∧
      ∀ {w1 : World} {row : Option Nat} {x' : α}, W.grownBy w1 row → (∀ k, row = some k → oki k) → d.M w1 base oki x' c → S d e w1 base ok (.slice (some ad) n cap) (xs.set i.toNat x') := by
  obtain ⟨g, rfl⟩ := R_head (S_R h)
  obtain ⟨oki, c, hcl, hM, hcc, hoki, hH⟩ := S_lend h z i h0 h1
  refine ⟨oki, c, hcl, hM, fun j u hu => ?_, fun k hk => ⟨(hoki k hk).1, fun he => (hoki k hk).2 ?_⟩, fun hg hrow hM1 => H_back (H_grown hH hg hrow) hM1 (fun _ hk => hk)⟩
  · rw [add_at, Nat.zero_add]
    exact hcc j u hu
  · simpa [Value.ownBlock] using he
/-- Element i, its blocks (oki) first; hH: the row without it, for S_seg. -/
theorem S_elem (h : S d e W base ok (.slice (some ⟨g, 0, none⟩) n cap) xs) (z : α) (i : Int) (h0 : 0 ≤ i) (h1 : i < n) :
    ∃ (oki : Nat → Prop) (c : List Value), c.length = d.sz ∧ d.M W base oki (xs.getD i.toNat z) c ∧ (∀ j u, c[j]? = some u → W.cell? ⟨g, i.toNat * d.sz + j, none⟩ = some u) ∧ (∀ j, W.frozen? ⟨g, i.toNat * d.sz + j, none⟩ = false) ∧ (∀ k, oki k → ok k ∧ k ≠ g) ∧ H d e W base ok (.slice (some ⟨g, 0, none⟩) n cap) xs i oki c := by
  obtain ⟨_, _, _, _, hfr⟩ := R_elem (S_R h) z i h0 h1
  obtain ⟨oki, c, hcl, hM, hcc, hoki, hH⟩ := S_lend h z i h0 h1
  exact ⟨oki, c, hcl, hM, hcc, hfr, hoki, hH⟩
/-- The row as_ cells: what was done to the block, done to the hole. -/
theorem H_raw (h : H d e W base ok (.slice (some ⟨g, 0, none⟩) n cap) xs i oki c) (h0 : 0 ≤ i) (h1 : i < n) :
    ∃ rows : List (List Value), rows.length = xs.length ∧ (raw d.sz).R e W base (fun _ => True) (.slice (some ⟨g, 0, none⟩) n cap) rows ∧ c.length = d.sz ∧ (∀ u ∈ c, u.oneCell' = true) ∧ (∀ j u, c[j]? = some u → W.cell? ⟨g, i.toNat * d.sz + j, none⟩ = some u) ∧
      ∀ w1 c', W.grownBy w1 (some g) → (raw d.sz).R e w1 base (fun _ => True) (.slice (some ⟨g, 0, none⟩) n cap) (rows.set i.toNat c') → H d e w1 base ok (.slice (some ⟨g, 0, none⟩) n cap) xs i oki c' := by
  obtain ⟨hoo, f, hR⟩ := h
  have hn := (R_reads' hR).1
  rw [List.length_zipIdx] at hn
  have hgo : some g = (Value.slice (some ⟨g, 0, none⟩) n cap).ownBlock := by simp [Value.ownBlock]
  obtain ⟨hok0, inner, ho, hr⟩ := hR
  have hil : i.toNat < xs.length := by omega
  have hlen : inner.length = xs.length * d.sz := by have := hr.1; rw [List.length_zipIdx] at this; exact this
  have hkg : ∀ k, some k ≠ (Value.slice (some ⟨g, 0, none⟩) n cap).ownBlock → k ≠ g := fun k hk he => hk (by rw [he]; exact hgo)
  have hci := (hr.2 i.toNat _ (zip_at (List.getElem?_eq_getElem hil))).1 rfl
  rw [hci.1] at hci
  have hc := ((hr.2 i.toNat _ (zip_at (List.getElem?_eq_getElem hil))).1 rfl).1
  refine ⟨(List.range xs.length).map fun j => (inner.drop (j * d.sz)).take d.sz, by rw [List.length_map, List.length_range], ⟨fun _ _ => trivial, inner, ?_, ?_, fun j p hj => ?_⟩, hci.2.1, hci.2.2, fun j u hu => ?_, fun w1 c' hg hraw => ?_⟩
  · rw [List.length_map, List.length_range]; rw [List.length_zipIdx] at ho; exact ho
  · rw [List.length_map, List.length_range]; exact hlen
  · rw [List.getElem?_map] at hj
    obtain ⟨j', hj', rfl⟩ := Option.map_eq_some_iff.1 hj
    obtain ⟨hl, he⟩ := List.getElem?_eq_some_iff.1 hj'
    rw [List.getElem_range] at he
    subst he
    rw [List.length_range] at hl
    have hm := (gap f d i.toNat c).K_of_M (hr.2 j _ (zip_at (List.getElem?_eq_getElem hl)))
    exact ⟨rfl, (gap f d i.toNat c).K_len hm, (gap f d i.toNat c).K_one hm⟩
  · rw [← hc, List.getElem?_take] at hu
    split at hu
    · rw [List.getElem?_drop] at hu
      have := ho.cells (g := g) hgo.symm _ u hu
      rwa [add_plain] at this
    · cases hu
  · obtain ⟨_, inner', ho', hr'⟩ := hraw
    have hl' : inner'.length = xs.length * d.sz := by have := hr'.1; rw [List.length_set, List.length_map, List.length_range] at this; exact this
    rw [List.length_set, List.length_map, List.length_range] at ho'
    refine ⟨hoo, f, hok0, inner', by rw [List.length_zipIdx]; exact ho', by rw [List.length_zipIdx]; exact hl', fun m p hm => ?_⟩
    rw [List.getElem?_zipIdx, Nat.zero_add] at hm
    obtain ⟨q, hq, rfl⟩ := Option.map_eq_some_iff.1 hm
    have hml : m < xs.length := (List.getElem?_eq_some_iff.1 hq).1
    have hold := hr.2 m (q, m) (zip_at hq)
    refine ⟨fun hx => ?_, fun hx => ?_⟩
    · have hx' : m = i.toNat := hx
      subst hx'
      exact hr'.2 i.toNat c' (List.getElem?_set_self (by rw [List.length_map, List.length_range]; exact hml))
    · have hx' : m ≠ i.toNat := hx
      have hcm := (hr'.2 m ((inner.drop (m * d.sz)).take d.sz) (by
        rw [List.getElem?_set_ne (Ne.symm hx'), List.getElem?_map, List.getElem?_eq_getElem (by rw [List.length_range]; exact hml), List.getElem_range]
        rfl)).1
      show d.M w1 base _ q ((inner'.drop (m * d.sz)).take d.sz)
      rw [show (inner'.drop (m * d.sz)).take d.sz = _ from hcm]
      exact d.M_mono (fun k hk => hk.1) (d.M_move (w1 := w1) (fun k hk => hg.block k hk.2.2.1 (fun he => hkg k hk.1.1.2 (by injection he))) (d.M_bound (hold.2 hx)))
/-- Cells of the hole are written. -/
theorem H_seg (h : H d e W base ok (.slice (some ⟨g, 0, none⟩) n cap) xs i oki c) (h0 : 0 ≤ i) (h1 : i < n) {seg : List Value} {j : Nat} (hj : j + seg.length ≤ d.sz) (hone : ∀ q ∈ seg, q.oneCell' = true) :
    H d e (W.setCells g (i.toNat * d.sz + j) seg) base ok (.slice (some ⟨g, 0, none⟩) n cap) xs i oki (c.take j ++ seg ++ c.drop (j + seg.length)) ∧ W.grownBy (W.setCells g (i.toNat * d.sz + j) seg) (some g) := by
  obtain ⟨rows, _, hraw, hcl, hco, hcc, hback⟩ := H_raw h h0 h1
  obtain ⟨h2, h3⟩ := R_seg hraw i h0 h1 (c := c) (seg := seg) (j := j) (x' := c.take j ++ seg ++ c.drop (j + seg.length)) (okp := fun _ => False) hcl hcc hj
    ⟨rfl, by
      show (c.take j ++ seg ++ c.drop (j + seg.length)).length = d.sz
      simp only [List.length_append, List.length_take, List.length_drop]; omega, fun u hu => by
      rcases List.mem_append.1 hu with hu | hu
      · rcases List.mem_append.1 hu with hu | hu
        · exact hco u (List.mem_of_mem_take hu)
        · exact hone u hu
      · exact hco u (List.mem_of_mem_drop hu)⟩ (fun _ hk => hk.elim)
  exact ⟨hback _ _ h3 h2, h3⟩
/-- A run of cells of element i is written, the element is x' then: its blocks are of those it had, or of okg (nobody's so far). hH: S_elem's, of the row at 'ok and not okg'. -/
theorem S_seg {okg : Nat → Prop} (hH : H d e W base (fun k => ok k ∧ ¬ okg k) (.slice (some ⟨g, 0, none⟩) n cap) xs i oki c) (h0 : 0 ≤ i) (h1 : i < n) {seg : List Value} {j : Nat} (hj : j + seg.length ≤ d.sz)
    {x' : α} (hM : d.M W base okp x' (c.take j ++ seg ++ c.drop (j + seg.length))) (hokp : ∀ k, okp k → oki k ∨ okg k) (hg : ∀ k, okg k → ok k ∧ k ≠ g) :
    S d e (W.setCells g (i.toNat * d.sz + j) seg) base ok (.slice (some ⟨g, 0, none⟩) n cap) (xs.set i.toNat x') ∧ W.grownBy (W.setCells g (i.toNat * d.sz + j) seg) (some g) := by
  have hne : ∀ k, oki k ∨ okg k → k ≠ g := by
    intro k hk he
    subst he
    rcases hk with hk | hk
    · obtain ⟨_, f, hR⟩ := hH
      exact (hR.1 k (by simp [Value.ownBlock])).2 hk
    · exact (hg k hk).2 rfl
  obtain ⟨h2, h3⟩ := H_seg (H_more hH (fun k hk => (hg k hk).1)) h0 h1 hj (fun q hq => d.K_one (d.K_of_M hM) q (List.mem_append_left _ (List.mem_append_right _ hq)))
  exact ⟨H_back h2 (M_step hM (fun k hk hlt => h3.block k hlt (fun he => hne k (hokp k hk) (by injection he)))) hokp, h3⟩
end
section
variable {P : Program} {ops : Array Oper} {rest : List Oper} {o : Oper} {a : Act} {Q : Exit → Act → World → Prop} {α : Type}
/-- out[i].f = u, out[i] = T{..}, element i being lent: the cells from j on are written, the element (x' then) is put back. -/
theorem H_store (d : Kd α) {w0 W : World} (base : Nat) (hN : o.dst = none) (hgd : o.guard = none) (t : TypeId) (p x : Operand) (ho : o.op = .store t p x) (e : TypeId) {g n cap o' : Nat} (i : Int) (j : Nat) (xs : List α) (x' : α) (u : Value) (seg c : List Value) (ok oki okp : Nat → Prop)
    (haddr : a.eval p = .pointer (some ⟨g, o', none⟩)) (hoff : o' = i.toNat * d.sz + j) (hx : a.eval x = u) (hu : u.cells.toList = seg) (ht : (P.info? t).map (·.size) = some seg.length) (hone : ∀ q ∈ seg, q.oneCell' = true)
    (HO : H d e W base ok (.slice (some ⟨g, 0, none⟩) n cap) xs i oki c) (h0 : 0 ≤ i) (hi : i < n)
    (hj : j + seg.length ≤ d.sz) (hM : d.M W base okp x' (c.take j ++ seg ++ c.drop (j + seg.length))) (hokp : ∀ k, okp k → oki k) (HB : Below base w0 W)
    (h : ∀ w1, S d e w1 base ok (.slice (some ⟨g, 0, none⟩) n cap) (xs.set i.toNat x') → Below base w0 w1 → W.grownBy w1 (some g) → wpList P ops Q rest a w1) : wpList P ops Q (o :: rest) a W := by
  obtain ⟨rows, _, hraw, hcl, hco, hcc, hback⟩ := H_raw HO h0 hi
  have hgo : some g = (Value.slice (some ⟨g, 0, none⟩) n cap).ownBlock := by simp [Value.ownBlock]
  have hng : ∀ k, oki k → k ≠ g := by
    intro k hk he
    subst he
    obtain ⟨_, f, hR⟩ := HO
    exact (hR.1 k hgo.symm).2 hk
  refine R_store (raw d.sz) base hN hgd t p x ho e i j rows (c.take j ++ seg ++ c.drop (j + seg.length)) u seg c (fun _ => True) (fun _ => False) haddr hoff hx hu ht hone hraw h0 hi hcl hcc hj
    ⟨rfl, d.K_len (d.K_of_M hM), d.K_one (d.K_of_M hM)⟩ (fun _ hk => hk.elim) HB ?_
  intro w1 hr hb hg
  exact h w1 (H_back (hback w1 _ hg hr) (M_step hM (fun k hk hlt => hg.block k hlt (fun he => hng k (hokp k hk) (by injection he)))) hokp) hb hg
/-- out = append(out[:k], out[k+1:]...) -/
theorem S_delete (d : Kd α) {w0 W : World} (base : Nat) (hgd : o.guard = none) (s x : Operand) (t e : TypeId) (ho : o.op = .call { callee := .builtin .append, args := #[s, x], argTypes := #[t, t] })
    (ht : P.underlying t = some (.slice e)) (hinfo : (P.info? e).map (·.size) = some d.sz) {g n c k m c2 : Nat} {A : Option Addr} {xs : List α} {ok : Nat → Prop}
    (hs : a.eval s = .slice (some ⟨g, 0, none⟩) k c) (hx : a.eval x = .slice A m c2) (hA : A = if c = k + 1 then some ⟨g, 0, none⟩ else (some (⟨g, 0, none⟩ : Addr)).map (·.add ((k + 1) * d.sz))) (hm : m = n - (k + 1))
    (HO : S d e W base ok (.slice (some ⟨g, 0, none⟩) n c) xs) (hk : k < n) (HB : Below base w0 W) (hbase : base ≤ W.heap.size)
    (h : ∀ w1, S d e w1 base ok (.slice (some ⟨g, 0, none⟩) (n - 1) c) (xs.eraseIdx k) → Below base w0 w1 → W.grownBy w1 (some g) → wpList P ops Q rest (a.put o.dst (.slice (some ⟨g, 0, none⟩) (n - 1) c)) w1) : wpList P ops Q (o :: rest) a W := by
  obtain ⟨f, HR⟩ := HO
  exact R_delete (tag f d) base hgd s x t e ho ht hinfo hs hx hA hm HR hk HB hbase (fun w1 hr => h w1 (S_erase hr))
theorem S_delete_step {Kc : Act → World → Prop} (d : Kd α) {w0 W : World} (base : Nat) (hw : Region.wanted o (yielded ops a.tmps) = true) (s x : Operand) (t e : TypeId) (ho : o.op = .call { callee := .builtin .append, args := #[s, x], argTypes := #[t, t] })
    (ht : P.underlying t = some (.slice e)) (hinfo : (P.info? e).map (·.size) = some d.sz) {g n c k m c2 : Nat} {A : Option Addr} {xs : List α} {ok : Nat → Prop}
    (hs : a.eval s = .slice (some ⟨g, 0, none⟩) k c) (hx : a.eval x = .slice A m c2) (hA : A = if c = k + 1 then some ⟨g, 0, none⟩ else (some (⟨g, 0, none⟩ : Addr)).map (·.add ((k + 1) * d.sz))) (hm : m = n - (k + 1))
    (HO : S d e W base ok (.slice (some ⟨g, 0, none⟩) n c) xs) (hk : k < n) (HB : Below base w0 W) (hbase : base ≤ W.heap.size)
    (h : ∀ w1, S d e w1 base ok (.slice (some ⟨g, 0, none⟩) (n - 1) c) (xs.eraseIdx k) → Below base w0 w1 → W.grownBy w1 (some g) → Kc (a.put o.dst (.slice (some ⟨g, 0, none⟩) (n - 1) c)) w1) :
    if Region.wanted o (yielded ops a.tmps) = true then Oper.wp P o a W Kc Q else Kc (a.put o.dst undef) W := by
  obtain ⟨f, HR⟩ := HO
  exact R_delete_step (tag f d) base hw s x t e ho ht hinfo hs hx hA hm HR hk HB hbase (fun w1 hr => h w1 (S_erase hr))
end
end Kd
end Go.Proofs.YtdgpchacfdlleaaDoorW.PrintWords
end

section
-- PRINTED BY print.sh 35421559b90ae4d0a3588c463048766b98c2df88dd9212a6774a882060cdf62d: not written by this session
/-! ### 41. Arrays '[n]T' as_ values: a kind (a field, an element of a row), an element read, an element set -/
namespace Go.Proofs.YtdgpchacfdlleaaDoorW.PrintWords
open Go.RowKit
namespace Kd
theorem reps_one {α : Type} {R : α → List Value → Prop} {size : Nat} {ps : List α} {cs : List Value} (h : Reps R size ps cs) (hs0 : 0 < size) (hR : ∀ p c, R p c → ∀ u ∈ c, u.oneCell' = true) : ∀ u ∈ cs, u.oneCell' = true := by
  intro u hu
  obtain ⟨q, hq, rfl⟩ := List.mem_iff_getElem.1 hu
  have hql : q / size < ps.length := by
    rw [Nat.div_lt_iff_lt_mul hs0, ← h.1]
    exact hq
  refine hR _ _ (h.2 (q / size) _ (List.getElem?_eq_getElem hql)) _ ?_
  rw [List.mem_iff_getElem?]
  refine ⟨q % size, ?_⟩
  rw [List.getElem?_take, if_pos (Nat.mod_lt _ hs0), List.getElem?_drop, Nat.mul_comm, Nat.div_add_mod, List.getElem?_eq_getElem hq]
theorem reps_set {α : Type} {R : α → List Value → Prop} {size : Nat} {ps : List α} {cs : List Value} (h : Reps R size ps cs) {i : Nat} (hi : i < ps.length) {x : α} {seg : List Value} (hx : R x seg) (hl : seg.length = size) : Reps R size (ps.set i x) (cs.take (i * size) ++ seg ++ cs.drop (i * size + seg.length)) := by
  have hfit : i * size + size ≤ cs.length := by rw [h.1, ← Nat.succ_mul]; exact Nat.mul_le_mul_right _ hi
  refine ⟨?_, fun m p hm => ?_⟩
  · rw [List.length_set, ← h.1]
    simp only [List.length_append, List.length_take, List.length_drop]
    omega
  · have hml : m < ps.length := by
      have := (List.getElem?_eq_some_iff.1 hm).1
      rwa [List.length_set] at this
    by_cases hmi : m = i
    · subst hmi
      rw [List.getElem?_set_self hml] at hm
      injection hm with hm
      subst hm
      rw [show ((cs.take (m * size) ++ seg ++ cs.drop (m * size + seg.length)).drop (m * size)).take size = seg by
        rw [List.append_assoc, List.drop_left' (by rw [List.length_take]; omega), List.take_left' hl]]
      exact hx
    · rw [List.getElem?_set_ne (Ne.symm hmi)] at hm
      have hmf : m * size + size ≤ cs.length := by rw [h.1, ← Nat.succ_mul]; exact Nat.mul_le_mul_right _ hml
      rw [show ((cs.take (i * size) ++ seg ++ cs.drop (i * size + seg.length)).drop (m * size)).take size = (cs.drop (m * size)).take size from by
        apply List.ext_getElem?
        intro q
        rw [List.getElem?_take, List.getElem?_take, List.getElem?_drop, List.getElem?_drop, seg_get cs seg _ (by omega)]
        by_cases hq : q < size
        · rw [if_pos hq, if_pos hq]
          rcases Nat.lt_or_gt_of_ne hmi with hlt | hgt
          · have : m * size + size ≤ i * size := by rw [← Nat.succ_mul]; exact Nat.mul_le_mul_right _ hlt
            rw [if_pos (by omega)]
          · have : i * size + size ≤ m * size := by rw [← Nat.succ_mul]; exact Nat.mul_le_mul_right _ hgt
            rw [if_neg (by omega), if_neg (by omega)]
        · rw [if_neg hq, if_neg hq]]
      exact h.2 m p hm
/-- An array of n elements of kind d. -/
def arr {α : Type} (n : Nat) (d : Kd α) (hs : 0 < d.sz) : Kd (List α) where
  sz := n * d.sz
  E := d.E
  K := fun w xs cs => xs.length = n ∧ Reps (d.K w) d.sz xs cs
  M := fun w base ok xs cs => xs.length = n ∧ Reps (d.M w base ok) d.sz xs cs
  K_len := fun h => by rw [← h.1]; exact h.2.1
  K_one := fun h => reps_one h.2 hs (fun _ _ hk => d.K_one hk)
  K_below := fun hb h => ⟨h.1, h.2.imp_ (fun _ _ hk => d.K_below hb hk)⟩
  K_of_M := fun h => ⟨h.1, h.2.imp_ (fun _ _ hk => d.K_of_M hk)⟩
  M_mono := fun hok h => ⟨h.1, h.2.imp_ (fun _ _ hk => d.M_mono hok hk)⟩
  M_bound := fun h => ⟨h.1, h.2.imp_ (fun _ _ hk => d.M_bound hk)⟩
  M_move := fun hm h => ⟨h.1, h.2.imp_ (fun _ _ hk => d.M_move hm hk)⟩
  M_lower := fun hb h => ⟨h.1, h.2.imp_ (fun _ _ hk => d.M_lower hb hk)⟩
section
variable {α : Type} {n : Nat} {d : Kd α} {hs : 0 < d.sz} {w : World} {base : Nat} {ok : Nat → Prop} {xs : List α} {cs : List Value}
theorem arr_len (h : (arr n d hs).K w xs cs) : xs.length = n := h.1
/-- Element i. -/
theorem arr_get (h : (arr n d hs).K w xs cs) (z : α) (i : Int) (h0 : 0 ≤ i) (h1 : i < n) : d.K w (xs.getD i.toNat z) ((cs.drop (i.toNat * d.sz)).take d.sz) := by
  have hl : i.toNat < xs.length := by have := h.1; omega
  rw [List.getD_eq_getElem?_getD, List.getElem?_eq_getElem hl]
  exact h.2.2 _ _ (List.getElem?_eq_getElem hl)
theorem arr_getM (h : (arr n d hs).M w base ok xs cs) (z : α) (i : Int) (h0 : 0 ≤ i) (h1 : i < n) : d.M w base ok (xs.getD i.toNat z) ((cs.drop (i.toNat * d.sz)).take d.sz) := by
  have hl : i.toNat < xs.length := by have := h.1; omega
  rw [List.getD_eq_getElem?_getD, List.getElem?_eq_getElem hl]
  exact h.2.2 _ _ (List.getElem?_eq_getElem hl)
/-- Element i is x' then. -/
theorem arr_set (h : (arr n d hs).M w base ok xs cs) (i : Int) (h0 : 0 ≤ i) (h1 : i < n) {x' : α} {seg : List Value} (hx : d.M w base ok x' seg) : (arr n d hs).M w base ok (xs.set i.toNat x') (cs.take (i.toNat * d.sz) ++ seg ++ cs.drop (i.toNat * d.sz + seg.length)) :=
  ⟨by rw [List.length_set]; exact h.1, reps_set h.2 (by have := h.1; omega) hx (d.K_len (d.K_of_M hx))⟩
end
section
variable {α : Type} {n : Nat} {enc : α → Value} {h1 : ∀ x, (enc x).oneCell' = true} {hs : 0 < (scalar enc h1).sz} {w : World} {base : Nat} {ok : Nat → Prop} {xs : List α} {cs : List Value}
theorem reps_encs (h : Reps (fun (x : α) (cs : List Value) => cs = [enc x]) 1 xs cs) : cs = encs enc xs := by
  apply List.ext_getElem?
  intro j
  have hl := h.1
  rw [Nat.mul_one] at hl
  rcases Nat.lt_or_ge j xs.length with hj | hj
  · have h2 := h.2 j _ (List.getElem?_eq_getElem hj)
    have hj' : j < cs.length := by omega
    rw [Nat.mul_one, List.drop_eq_getElem_cons hj'] at h2
    have h5 := congrArg List.head? h2
    rw [List.take_succ_cons] at h5
    have h4 : cs[j] = enc xs[j] := Option.some.inj h5
    rw [List.getElem?_eq_getElem hj', h4]
    simp [encs, List.getElem?_eq_getElem hj]
  · rw [List.getElem?_eq_none (by omega), List.getElem?_eq_none (by rw [encs_length]; omega)]
/-- An array of scalars: its cells are the elements'. -/
theorem arr_cells (h : (arr n (scalar enc h1) hs).K w xs cs) : xs.length = n ∧ cs = encs enc xs := ⟨h.1, reps_encs h.2⟩
theorem arr_of_cells (h : xs.length = n) : (arr n (scalar enc h1) hs).M w base ok xs (encs enc xs) := ⟨h, reps_scalar xs⟩
end
end Kd
end Go.Proofs.YtdgpchacfdlleaaDoorW.PrintWords
end

section
-- PRINTED BY print.sh 35421559b90ae4d0a3588c463048766b98c2df88dd9212a6774a882060cdf62d: not written by this session
/-! ### 42. append(v, make([]T, n)...): the operation comes as_ append with the number in the second place -/
namespace Go.Proofs.YtdgpchacfdlleaaDoorW.PrintWords
open Go.RowKit
section
variable {P : Program}
theorem run_append_zeros (w : World) (base : Nat) (t ti ty e : TypeId) (i : TypeInfo) (z : Value) (size bytes : Nat) (ht : P.underlying t = some (.slice e)) {k : IntKind} (hti : P.underlying ti = some (.int k)) (hi : P.info? e = some i) (hz : i.zero = some z)
    (hsize : i.size = size) (hby : i.bytes = bytes) (hzs : z.cells.size = size) (hsz : 0 < size) (hb0 : 0 < bytes)
    (v : Value) (n : Nat) (xs : List Value) (hown : w.ownsRow base e size v n xs) (kx : IntKind) (m : Nat) (h1 : ∀ u ∈ (Builtin.zeroCells z.cells m).toList, u.oneCell' = true)
    (hbytes : (n + m) * bytes ≤ 140737488355328) (hbase : base ≤ w.heap.size) :
    ∃ v' w', (Builtin.append_ #[t, ti] ty #[v, .int kx m]).run P w = .ok v' w' ∧ w'.ownsRow base e size v' (n + m) (xs ++ (Builtin.zeroCells z.cells m).toList) ∧ w.grownBy w' v.ownBlock ∧
      (v'.ownBlock = v.ownBlock ∨ v'.ownBlock = some w.heap.size) := by
  subst hsize
  subst hby
  have hle : n + m ≤ 140737488355328 := Nat.le_trans (Nat.le_mul_of_pos_right _ hb0) hbytes
  have h63 : n + m ≤ maxLen := by simp only [maxLen]; omega
  have hw : IntKind.i64.wrap (m : Int) = m := by rw [IntKind.wrap_i64]; omega
  have hw0 : IntKind.i64.wrap 0 = 0 := by rw [IntKind.wrap_i64]; rfl
  have hneg : ¬ ((m : Int) < 0) := by omega
  have hmb : m * i.bytes ≤ 140737488355328 := Nat.le_trans (Nat.mul_le_mul_right _ (Nat.le_add_left m n)) hbytes
  have hbig : ¬ (281474976710656 < (m : Int) * (i.bytes : Int)) := by
    rw [← Int.natCast_mul]
    omega
  have hsn : i.size ≠ 0 := by omega
  obtain ⟨news, hnews⟩ : ∃ news, news = (Builtin.zeroCells z.cells m).toList := ⟨_, rfl⟩
  rw [← hnews] at h1 ⊢
  have hl : news.length = m * i.size := by rw [hnews, Array.length_toList, size_zeroCells, hzs]
  have hna : Builtin.zeroCells z.cells m = news.toArray := by rw [hnews]
  have hlen : (xs ++ news).length = (n + m) * i.size := by rw [List.length_append, hown.1, hl, Nat.add_mul]
  have hnil : m = 0 → news = [] := fun h => List.eq_nil_of_length_eq_zero (by rw [hl, h, Nat.zero_mul])
  have grown : ∀ (old : Nat), old < n + m → ∀ (row : Option Nat),
      (w.drew.alloc (.cells (xs.toArray ++ news.toArray ++ Builtin.zeroCells z.cells (grownCap w (n + m) old e - (n + m))) e)).ownsRow base e i.size
        (.slice (some ⟨w.heap.size, 0, none⟩) (n + m) (grownCap w (n + m) old e)) (n + m) (xs ++ news) ∧
      w.grownBy (w.drew.alloc (.cells (xs.toArray ++ news.toArray ++ Builtin.zeroCells z.cells (grownCap w (n + m) old e - (n + m))) e)) row := by
    intro old ho row
    have hge := grownCap_ge w (n + m) old e
    have hcm : grownCap w (n + m) old e ≤ maxLen := grownCap_le_maxLen w (n + m) old e h63
    refine ⟨⟨hlen, .inr ⟨w.heap.size, _, _, rfl, hbase, heap_alloc_new w.drew _, hge, hcm, ?_, ?_⟩⟩, ⟨rfl, rfl, rfl, by simp, fun k hk _ => heap_alloc_old w.drew _ hk⟩⟩
    · simp only [Array.size_append, List.size_toArray, size_zeroCells, hzs, hown.1, hl, ← Nat.add_mul]
      congr 1
      omega
    · simp only [Array.toList_append, List.append_assoc]
      rw [← List.append_assoc, ← hlen]
      exact List.take_left
  have runs : ∀ (A : Option Addr) (cap : Nat), cap < n + m → (Builtin.firstCells i.size n (.slice A n cap)).run P w.drew = .ok xs.toArray w.drew → (Builtin.append_ #[t, ti] ty #[.slice A n cap, .int kx m]).run P w =
      .ok (.slice (some ⟨w.heap.size, 0, none⟩) (n + m) (grownCap w (n + m) cap e)) (w.drew.alloc (.cells (xs.toArray ++ news.toArray ++ Builtin.zeroCells z.cells (grownCap w (n + m) cap e - (n + m))) e)) := by
    intro A cap hcap hfo
    have hn : ¬ (n + m ≤ cap) := by omega
    have h63' : ¬ (9223372036854775807 < ((n : Int) + (m : Int))) := by omega
    have hfit := growslice_fits hcap hbytes
    have h48' : ¬ (281474976710656 < Builtin.nextslicecap (n + m) cap * i.bytes) := by omega
    by_cases hm : m = 0
    · have hnl := hnil hm
      subst hm
      rw [hnl]
      simp only [Nat.add_zero] at hn h63' h48' ⊢
      have h63'' : ¬ (9223372036854775807 < (n : Int)) := by omega
      simp [Builtin.append_, run_underlying ht, run_underlying hti, sizeOf, typeInfo, zeroValue, hi, hz, asInt, asIntOf, hw0, hn, h63'', h48', Question.forced, hfo, newRow, grownCap]
    · have hmz : ¬ (m * i.size = 0) := Nat.mul_ne_zero hm hsn
      simp [Builtin.append_, run_underlying ht, run_underlying hti, sizeOf, typeInfo, zeroValue, hi, hz, asInt, asIntOf, hw, hneg, hbig, hn, h63', h48', Question.forced, hfo, newRow, grownCap, hmz, hna]
      congr 2
      apply Array.ext'
      simp [List.append_assoc]
  rcases hown.2 with ⟨rfl, rfl⟩ | ⟨g, cap, cur, rfl, hbg, hg, hnc, hcm, hcs, htake⟩
  · have hx : xs = [] := List.eq_nil_of_length_eq_zero (by simpa using hown.1)
    subst hx
    by_cases hm : m = 0
    · have hnl := hnil hm
      subst hm
      rw [hnl]
      refine ⟨.slice none 0 0, w, ?_, World.ownsRow_nil w base e i.size, ⟨rfl, rfl, rfl, Nat.le_refl _, fun _ _ _ => rfl⟩, Or.inl rfl⟩
      simp [Builtin.append_, run_underlying ht, run_underlying hti, sizeOf, typeInfo, hi, asInt, asIntOf, hw0]
    · have hgr := grown 0 (by omega) (Value.ownBlock (.slice none 0 0))
      exact ⟨_, _, runs none 0 (by omega) (by simp [Builtin.firstCells]), hgr.1, hgr.2, Or.inr rfl⟩
  · by_cases hroom : n + m ≤ cap
    · have hfit : n * i.size + news.length ≤ cur.size := by rw [hl, hcs, ← Nat.add_mul]; exact Nat.mul_le_mul_right _ hroom
      obtain ⟨cur', h3, h4, h5⟩ := setCells_row news (n * i.size) w cur hg hfit
      obtain ⟨s1, s2, s3, s4⟩ := setCells_same g news (n * i.size) w
      have hst := run_storeCells_cells (P := P) g (n * i.size) news 0 w (fun j hj => by rw [cell_of_row w g _ cur e (0, 0) hg]; simp; omega) (fun j _ => blk_frozen hg _) h1
      simp only [Nat.add_zero] at hst
      refine ⟨.slice (some ⟨g, 0, none⟩) (n + m) cap, w.setCells g (n * i.size) news, ?_, ⟨hlen, .inr ⟨g, cap, cur', rfl, hbg, h3, hroom, hcm, by rw [h4, hcs], ?_⟩⟩, ⟨s1, s2, s3, by rw [s4]; exact Nat.le_refl _, fun k _ hk => setCells_far news _ k (fun e => hk (by simp [Value.ownBlock, e]))⟩, Or.inl rfl⟩
      · by_cases hm : m = 0
        · have hnl := hnil hm
          subst hm
          rw [hnl] at hst ⊢
          simp [Builtin.append_, run_underlying ht, run_underlying hti, sizeOf, typeInfo, hi, asInt, asIntOf, hw0, hnc, add_plain, hst]
        · have hmz : ¬ (m * i.size = 0) := Nat.mul_ne_zero hm hsn
          simp [Builtin.append_, run_underlying ht, run_underlying hti, sizeOf, typeInfo, zeroValue, hi, hz, asInt, asIntOf, hw, hneg, hbig, hroom, hmz, hna, add_plain, hst]
      · rw [h5]
        have h6 : cur.toList.take (n * i.size) = xs := htake
        rw [h6, ← hlen]
        exact List.take_left
    · have holds : ∀ j u, xs[j]? = some u → w.cell? ((⟨g, 0, none⟩ : Addr).add j) = some u := hown.cells (g := g) rfl
      have hgr := grown cap (by omega) (Value.ownBlock (.slice (some ⟨g, 0, none⟩) n cap))
      exact ⟨_, _, runs (some ⟨g, 0, none⟩) cap (by omega) (run_firstCells_some (P := P) w.drew i.size n _ n cap xs hown.1 (by simpa using holds)), hgr.1, hgr.2, Or.inr rfl⟩
end
namespace Kd
/-- What zeros are made of. -/
theorem reps_zeros {α : Type} {R : α → List Value → Prop} {z : Value} {size : Nat} {z0 : α} (hz : z.cells.size = size) (hs : 0 < size) (h0 : R z0 z.cells.toList) (m : Nat) : Reps R size (List.replicate m z0) (Builtin.zeroCells z.cells m).toList := by
  have h := reps_made hz hs h0 m
  rw [show Builtin.zeroCells z.cells m = madeCells z.cells (m * size) by unfold Builtin.zeroCells madeCells; rw [hz]]
  exact h
section
variable {P : Program} {ops : Array Oper} {rest : List Oper} {o : Oper} {a : Act} {Q : Exit → Act → World → Prop} {Kc : Act → World → Prop} {α : Type}
theorem R_zeros_run (d : Kd α) {W : World} (base : Nat) (t ti ty e : TypeId) (z : Value) (bytes : Nat) (ht : P.underlying t = some (.slice e)) {k : IntKind} (hti : P.underlying ti = some (.int k)) (hinfo : (P.info? e).map (fun i => (i.zero, i.size, i.bytes)) = some (some z, d.sz, bytes)) (hz : z.cells.size = d.sz) (hs0 : 0 < d.sz) (hb0 : 0 < bytes)
    (v : Value) (xs : List α) (z0 : α) {ok : Nat → Prop} (hzero : d.M W base (fun _ => False) z0 z.cells.toList) (hfresh : ∀ k, W.heap.size ≤ k → ok k) (HO : d.R e W base ok v xs) (kx : IntKind) (n : Int) (h0 : 0 ≤ n) (hl : (xs.length + n.toNat) * bytes ≤ 140737488355328) (hbase : base ≤ W.heap.size) :
    ∃ v1 w1, (Builtin.append_ #[t, ti] ty #[v, .int kx n]).run P W = .ok v1 w1 ∧ d.R e w1 base ok v1 (xs ++ List.replicate n.toNat z0) ∧ W.grownBy w1 v.ownBlock ∧ (v1.ownBlock = v.ownBlock ∨ ∃ b, v1.ownBlock = some b ∧ W.heap.size ≤ b) := by
  obtain ⟨m, rfl⟩ := Int.eq_ofNat_of_zero_le h0
  simp only [Int.toNat_natCast] at hl ⊢
  obtain ⟨i0, hi, hzz⟩ := Option.map_eq_some_iff.1 hinfo
  simp only [Prod.mk.injEq] at hzz
  obtain ⟨hz0, hz1, hz2⟩ := hzz
  obtain ⟨hok, inner, hown, hr⟩ := HO
  have hnM : Reps (d.M W base (fun _ => False)) d.sz (List.replicate m z0) (Builtin.zeroCells z.cells m).toList := reps_zeros hz hs0 hzero m
  obtain ⟨v1, w1, hrun, h2, hg, hat⟩ := run_append_zeros (P := P) W base t ti ty e i0 z d.sz bytes ht hti hi hz0 hz1 hz2 hz hs0 hb0 v xs.length inner hown kx m (reps_one hnM hs0 (fun _ _ hp => d.K_one (d.K_of_M hp))) hl hbase
  have hat' : v1.ownBlock = v.ownBlock ∨ ∃ b, v1.ownBlock = some b ∧ W.heap.size ≤ b := by
    rcases hat with hat | hat
    · exact .inl hat
    · exact .inr ⟨_, hat, Nat.le_refl _⟩
  have hne : ∀ k, some k ≠ v.ownBlock → k < W.heap.size → some k ≠ v1.ownBlock := by
    intro k hk hlt
    rcases hat' with hat | ⟨b, hb, hle⟩
    · rw [hat]; exact hk
    · rw [hb]
      intro he
      injection he with he
      omega
  have step : ∀ {q : α} {c : List Value} {o : Nat → Prop}, d.M W base o q c → (∀ k, o k → ok k ∧ some k ≠ v.ownBlock) → d.M w1 base (fun k => ok k ∧ some k ≠ v1.ownBlock) q c := by
    intro q c o hq ho
    have h1 := d.M_move (w1 := w1) (fun k hk => hg.block k hk.2.2.1 (ho k hk.1).2) (d.M_bound hq)
    exact d.M_mono (fun k hk => ⟨(ho k hk.1).1, hne k (ho k hk.1).2 hk.2.2.1⟩) h1
  refine ⟨v1, w1, hrun, ⟨fun k hk => ?_, inner ++ (Builtin.zeroCells z.cells m).toList, by rw [List.length_append, List.length_replicate]; exact h2, reps_append (hr.imp_ (fun _ _ hq => step hq (fun _ hk => hk))) (hnM.imp_ (fun _ _ hq => step hq (fun _ hk => hk.elim)))⟩, hg, hat'⟩
  rcases hat' with hat | ⟨b, hb, hle⟩
  · exact hok k (hat ▸ hk)
  · rw [hb] at hk
    injection hk with hk
    exact hfresh k (by omega)
/-- append(v, make([]T, n)...): z0's cells are the type's zero's. -/
theorem R_append_zeros (d : Kd α) {w0 W : World} (base : Nat) (hgd : o.guard = none) (s x : Operand) (t ti e : TypeId) (z : Value) (bytes : Nat)
    (ho : o.op = .call { callee := .builtin .append, args := #[s, x], argTypes := #[t, ti] })
    (ht : P.underlying t = some (.slice e)) {k : IntKind} (hti : P.underlying ti = some (.int k)) (hinfo : (P.info? e).map (fun i => (i.zero, i.size, i.bytes)) = some (some z, d.sz, bytes)) (hz : z.cells.size = d.sz) (hs0 : 0 < d.sz) (hb0 : 0 < bytes)
    (v : Value) (xs : List α) (z0 : α) {kx : IntKind} (n : Int) (ok : Nat → Prop) (hs : a.eval s = v) (hx : a.eval x = .int kx n) (hzero : d.M W base (fun _ => False) z0 z.cells.toList) (hfresh : ∀ k, W.heap.size ≤ k → ok k)
    (HO : d.R e W base ok v xs) (h0 : 0 ≤ n) (HB : Below base w0 W) (hbase : base ≤ W.heap.size) (hl : (xs.length + n.toNat) * bytes ≤ 140737488355328)
    (h : ∀ v1 w1, d.R e w1 base ok v1 (xs ++ List.replicate n.toNat z0) → Below base w0 w1 → W.grownBy w1 v.ownBlock → (v1.ownBlock = v.ownBlock ∨ ∃ b, v1.ownBlock = some b ∧ W.heap.size ≤ b) → wpList P ops Q rest (a.put o.dst v1) w1) :
    wpList P ops Q (o :: rest) a W := by
  obtain ⟨v1, w1, hr1, h1, hg, hat⟩ := R_zeros_run (P := P) d base t ti o.type e z bytes ht hti hinfo hz hs0 hb0 v xs z0 hzero hfresh HO kx n h0 hl hbase
  refine wpList_plain hgd fun K hK => ?_
  unfold Oper.wp execOp
  simp only [ho, resolve, invoke, builtin, Sem.run_bind, Sem.run_pure, Result.andThen_ok, List.map_toArray, List.map_cons, List.map_nil, hs, hx, hr1]
  exact hK _ _ (h v1 w1 h1 (HB.grown hg hbase (R_base HO)) hg hat)
theorem R_append_zeros_step (d : Kd α) {w0 W : World} (base : Nat) (hw : Region.wanted o (yielded ops a.tmps) = true) (s x : Operand) (t ti e : TypeId) (z : Value) (bytes : Nat)
    (ho : o.op = .call { callee := .builtin .append, args := #[s, x], argTypes := #[t, ti] })
    (ht : P.underlying t = some (.slice e)) {k : IntKind} (hti : P.underlying ti = some (.int k)) (hinfo : (P.info? e).map (fun i => (i.zero, i.size, i.bytes)) = some (some z, d.sz, bytes)) (hz : z.cells.size = d.sz) (hs0 : 0 < d.sz) (hb0 : 0 < bytes)
    (v : Value) (xs : List α) (z0 : α) {kx : IntKind} (n : Int) (ok : Nat → Prop) (hs : a.eval s = v) (hx : a.eval x = .int kx n) (hzero : d.M W base (fun _ => False) z0 z.cells.toList) (hfresh : ∀ k, W.heap.size ≤ k → ok k)
    (HO : d.R e W base ok v xs) (h0 : 0 ≤ n) (HB : Below base w0 W) (hbase : base ≤ W.heap.size) (hl : (xs.length + n.toNat) * bytes ≤ 140737488355328)
    (h : ∀ v1 w1, d.R e w1 base ok v1 (xs ++ List.replicate n.toNat z0) → Below base w0 w1 → W.grownBy w1 v.ownBlock → (v1.ownBlock = v.ownBlock ∨ ∃ b, v1.ownBlock = some b ∧ W.heap.size ≤ b) → Kc (a.put o.dst v1) w1) :
    if Region.wanted o (yielded ops a.tmps) = true then Oper.wp P o a W Kc Q else Kc (a.put o.dst undef) W := by
  obtain ⟨v1, w1, hr1, h1, hg, hat⟩ := R_zeros_run (P := P) d base t ti o.type e z bytes ht hti hinfo hz hs0 hb0 v xs z0 hzero hfresh HO kx n h0 hl hbase
  rw [if_pos hw]
  unfold Oper.wp execOp
  simp only [ho, resolve, invoke, builtin, Sem.run_bind, Sem.run_pure, Result.andThen_ok, List.map_toArray, List.map_cons, List.map_nil, hs, hx, hr1]
  exact h v1 w1 h1 (HB.grown hg hbase (R_base HO)) hg hat
end
/-! #### the same for rows whose elements lie apart -/
/-- As_ tag; an element without index leads to nothing. -/
def tagO {α : Type} (f : Nat → Nat) (d : Kd α) : Kd (α × Option Nat) where
  sz := d.sz
  E := d.E
  K := fun w x cs => d.K w x.1 cs
  M := fun w base ok x cs => d.M w base (fun k => ok k ∧ some (f k) = x.2) x.1 cs
  K_len := fun h => d.K_len h
  K_one := fun h => d.K_one h
  K_below := fun hb h => d.K_below hb h
  K_of_M := fun h => d.K_of_M h
  M_mono := fun hok h => d.M_mono (fun k hk => ⟨hok k hk.1, hk.2⟩) h
  M_bound := fun h => d.M_mono (fun _ hk => ⟨⟨hk.1.1, hk.2⟩, hk.1.2⟩) (d.M_bound h)
  M_move := fun hm h => d.M_move (fun k hk => hm k hk.1) h
  M_lower := fun hb h => d.M_lower hb h
section
variable {α : Type} {d : Kd α} {e : Nat} {w : World} {base : Nat} {ok : Nat → Prop} {v : Value} {xs : List α}
def zipO (xs : List α) (z : α) (m : Nat) : List (α × Option Nat) := xs.zipIdx.map (fun p => (p.1, some p.2)) ++ List.replicate m (z, none)
theorem zipO_length (xs : List α) (z : α) (m : Nat) : (zipO xs z m).length = (xs ++ List.replicate m z).length := by simp [zipO]
theorem S_zipO {f : Nat → Nat} {z : α} {m : Nat} (h : (tagO f d).R e w base ok v (zipO xs z m)) : S d e w base ok v (xs ++ List.replicate m z) := by
  obtain ⟨h0, inner, ho, hr⟩ := h
  have hl := hr.1
  rw [zipO_length] at ho hl
  refine ⟨f, h0, inner, by rw [List.length_zipIdx]; exact ho, by rw [List.length_zipIdx]; exact hl, fun j p hj => ?_⟩
  rw [List.getElem?_zipIdx, Nat.zero_add] at hj
  obtain ⟨x, hx, rfl⟩ := Option.map_eq_some_iff.1 hj
  rcases Nat.lt_or_ge j xs.length with hlt | hge
  · rw [List.getElem?_append_left hlt] at hx
    have h2 := hr.2 j (x, some j) (by
      unfold zipO
      rw [List.getElem?_append_left (by simpa using hlt), List.getElem?_map, zip_at hx]
      rfl)
    exact d.M_mono (fun k hk => ⟨hk.1, by have := hk.2; simpa using this⟩) h2
  · rw [List.getElem?_append_right hge] at hx
    have hxz : z = x := by
      have := (List.getElem?_eq_some_iff.1 hx).2
      simpa using this
    subst hxz
    have hjm := (List.getElem?_eq_some_iff.1 hx).1
    have h2 := hr.2 j (z, none) (by
      unfold zipO
      rw [List.getElem?_append_right (by simpa using hge)]
      rw [List.getElem?_replicate]
      rw [List.length_replicate] at hjm
      rw [if_pos (by simpa using hjm)])
    exact d.M_mono (fun k hk => absurd hk.2 (by simp)) h2
theorem R_zipO (h : S d e w base ok v xs) : ∃ f, (tagO f d).R e w base ok v (xs.zipIdx.map (fun p => (p.1, some p.2))) := by
  obtain ⟨f, h0, inner, ho, hr⟩ := h
  refine ⟨f, h0, inner, by rw [List.length_map]; exact ho, by rw [List.length_map]; exact hr.1, fun j p hj => ?_⟩
  rw [List.getElem?_map] at hj
  obtain ⟨q, hq, rfl⟩ := Option.map_eq_some_iff.1 hj
  exact d.M_mono (fun k hk => ⟨hk.1, by have : f k = q.2 := hk.2; show some (f k) = some q.2; rw [this]⟩) (hr.2 j q hq)
end
section
variable {P : Program} {ops : Array Oper} {rest : List Oper} {o : Oper} {a : Act} {Q : Exit → Act → World → Prop} {Kc : Act → World → Prop} {α : Type}
theorem S_append_zeros (d : Kd α) {w0 W : World} (base : Nat) (hgd : o.guard = none) (s x : Operand) (t ti e : TypeId) (z : Value) (bytes : Nat)
    (ho : o.op = .call { callee := .builtin .append, args := #[s, x], argTypes := #[t, ti] })
    (ht : P.underlying t = some (.slice e)) {k : IntKind} (hti : P.underlying ti = some (.int k)) (hinfo : (P.info? e).map (fun i => (i.zero, i.size, i.bytes)) = some (some z, d.sz, bytes)) (hz : z.cells.size = d.sz) (hs0 : 0 < d.sz) (hb0 : 0 < bytes)
    (v : Value) (xs : List α) (z0 : α) {kx : IntKind} (n : Int) (ok : Nat → Prop) (hs : a.eval s = v) (hx : a.eval x = .int kx n) (hzero : d.M W base (fun _ => False) z0 z.cells.toList) (hfresh : ∀ k, W.heap.size ≤ k → ok k)
    (HO : S d e W base ok v xs) (h0 : 0 ≤ n) (HB : Below base w0 W) (hbase : base ≤ W.heap.size) (hl : (xs.length + n.toNat) * bytes ≤ 140737488355328)
    (h : ∀ v1 w1, S d e w1 base ok v1 (xs ++ List.replicate n.toNat z0) → Below base w0 w1 → W.grownBy w1 v.ownBlock → (v1.ownBlock = v.ownBlock ∨ ∃ b, v1.ownBlock = some b ∧ W.heap.size ≤ b) → wpList P ops Q rest (a.put o.dst v1) w1) :
    wpList P ops Q (o :: rest) a W := by
  obtain ⟨f, HR⟩ := R_zipO HO
  refine R_append_zeros (tagO f d) base hgd s x t ti e z bytes ho ht hti hinfo hz hs0 hb0 v _ (z0, none) n ok hs hx (d.M_mono (fun _ hk => hk.elim) hzero) hfresh HR h0 HB hbase (by rw [List.length_map, List.length_zipIdx]; exact hl) ?_
  intro v1 w1 hr
  exact h v1 w1 (S_zipO (f := f) hr)
theorem S_append_zeros_step (d : Kd α) {w0 W : World} (base : Nat) (hw : Region.wanted o (yielded ops a.tmps) = true) (s x : Operand) (t ti e : TypeId) (z : Value) (bytes : Nat)
    (ho : o.op = .call { callee := .builtin .append, args := #[s, x], argTypes := #[t, ti] })
    (ht : P.underlying t = some (.slice e)) {k : IntKind} (hti : P.underlying ti = some (.int k)) (hinfo : (P.info? e).map (fun i => (i.zero, i.size, i.bytes)) = some (some z, d.sz, bytes)) (hz : z.cells.size = d.sz) (hs0 : 0 < d.sz) (hb0 : 0 < bytes)
    (v : Value) (xs : List α) (z0 : α) {kx : IntKind} (n : Int) (ok : Nat → Prop) (hs : a.eval s = v) (hx : a.eval x = .int kx n) (hzero : d.M W base (fun _ => False) z0 z.cells.toList) (hfresh : ∀ k, W.heap.size ≤ k → ok k)
    (HO : S d e W base ok v xs) (h0 : 0 ≤ n) (HB : Below base w0 W) (hbase : base ≤ W.heap.size) (hl : (xs.length + n.toNat) * bytes ≤ 140737488355328)
    (h : ∀ v1 w1, S d e w1 base ok v1 (xs ++ List.replicate n.toNat z0) → Below base w0 w1 → W.grownBy w1 v.ownBlock → (v1.ownBlock = v.ownBlock ∨ ∃ b, v1.ownBlock = some b ∧ W.heap.size ≤ b) → Kc (a.put o.dst v1) w1) :
    if Region.wanted o (yielded ops a.tmps) = true then Oper.wp P o a W Kc Q else Kc (a.put o.dst undef) W := by
  obtain ⟨f, HR⟩ := R_zipO HO
  refine R_append_zeros_step (tagO f d) base hw s x t ti e z bytes ho ht hti hinfo hz hs0 hb0 v _ (z0, none) n ok hs hx (d.M_mono (fun _ hk => hk.elim) hzero) hfresh HR h0 HB hbase (by rw [List.length_map, List.length_zipIdx]; exact hl) ?_
  intro v1 w1 hr
  exact h v1 w1 (S_zipO (f := f) hr)
end
end Kd
end Go.Proofs.YtdgpchacfdlleaaDoorW.PrintWords
end

section
/-
  append of noughts.
-/
namespace Go.Proofs.YtdgpchacfdlleaaDoor
open Go.RowKit

/-- append(s, make([]T, m)...) -/
theorem wp_app_zeros {P : Program} {ops : Array Oper} {rest : List Oper} {o : Oper} {a : Act} {Q : Exit → Act → World → Prop} {w : World} (s x : Operand) (t ti : TypeId) (hgd : o.guard = none)
    (ho : o.op = .call { callee := .builtin .append, args := #[s, x], argTypes := #[t, ti] }) (e : TypeId) (z : Value) (bytes : Nat) (ht : P.underlying t = some (.slice e)) {k : IntKind} (hti : P.underlying ti = some (.int k))
    (hinfo : (P.info? e).map (fun i => (i.zero, i.size, i.bytes)) = some (some z, 1, bytes)) (hzs : z.cells = #[z]) (hz1 : z.oneCell' = true) (base : Nat) {v : Value} {n : Nat} {xs : List Value} (hs : a.eval s = v) (hown : w.ownsRow base e 1 v n xs)
    {kx : IntKind} {m : Nat} (hx : a.eval x = .int kx m) (hb0 : 0 < bytes) (hbytes : (n + m) * bytes ≤ 140737488355328) (hbase : base ≤ w.heap.size)
    (h : ∀ v' w', w'.ownsRow base e 1 v' (n + m) (xs ++ List.replicate m z) → w.grownBy w' v.ownBlock → Below base w w' → wpList P ops Q rest (a.put o.dst v') w') : wpList P ops Q (o :: rest) a w :=
  wpList_plain hgd fun K hK => by
    show o.upon P a K Q ((execOp a.eval o).run P w)
    obtain ⟨i, hi, hh0, hh1, hh2⟩ := info_parts hinfo
    have hzc : (Builtin.zeroCells z.cells m).toList = List.replicate m z := by
      rw [show Builtin.zeroCells z.cells m = madeCells z.cells (m * 1) by unfold Builtin.zeroCells madeCells; rw [hzs]; rfl, hzs, Nat.mul_one, toList_madeCells_one]
    obtain ⟨v1, w1, hrun, h2, hg, _⟩ := Go.Proofs.YtdgpchacfdlleaaDoorW.PrintWords.run_append_zeros (P := P) w base t ti o.type e i z 1 bytes ht hti hi hh0 hh1 hh2 (by rw [hzs]; rfl) (by decide) hb0 v n xs hown kx m (by rw [hzc]; intro u hu; rw [List.eq_of_mem_replicate hu]; exact hz1) hbytes hbase
    rw [hzc] at h2
    simp [execOp, ho, resolve, invoke, builtin, hs, hx, hrun, Result.andThen]
    refine hK _ _ (h v1 w1 h2 hg ((Below.refl _ _).grown hg hbase ?_))
    intro j hj
    rcases hown.2 with ⟨rfl, _⟩ | ⟨g, cap, cur, rfl, hbg, _⟩
    · cases hj
    · simp only [Value.ownBlock, Option.some.injEq] at hj
      omega

end Go.Proofs.YtdgpchacfdlleaaDoor
end

section
/-
  pack: the reader: what its small calls do.
-/
namespace Go.Proofs.YtdgpchacfdlleaaDoor
open Go.RowKit

abbrev rdrC (v : Value) (e : Int) : List Value := [v, .int .i64 e, .bool true]
theorem rok_any (w : World) (g : Nat) (v : Value) (e : Int) (hb : Blk w g (rdrC v e) 180) :
    Calls Tryd.prog 102 #[.pointer (some ⟨g, 0, none⟩)] w fun r w' => r = .returned (.bool (decide (e = 0))) ∧ w = w' := by
  have y1 := hb.at_ 1 rfl
  have y2 := hb.at_ 2 rfl
  clear hb
  go_enter Tryd.func102, Tryd.ntmps102
  by_cases h : e = 0
  · subst h
    go_wp2_with fail
    all_goals go_ret
    exact ⟨rfl, rfl⟩
  · go_wp2_with fail
    all_goals go_ret
    exact ⟨by simp [h], rfl⟩
theorem rfail_any (w : World) (g : Nat) (v : Value) (e z : Int) (hb : Blk w g (rdrC v e) 180) :
    Calls Tryd.prog 103 #[.pointer (some ⟨g, 0, none⟩), .int .i64 z] w fun r w' => r = .returned (.tuple #[]) ∧ Blk w' g (rdrC (.slice none 0 0) z) 180 ∧ Only g w w' := by
  have y1 := hb.at_ 1 rfl
  have y0 := hb.at_ 0 rfl
  have f0 := hb.free 0
  have f1 := hb.free 1
  have HB := Lib.hid hb
  clear hb
  go_enter Tryd.func103, Tryd.ntmps103
  go_wp2_with fail
  refine bodyPost_end (results_none rfl _ _ _) rfl ?_
  exact ⟨rfl, (HB.out.set 1 _).set 0 _, (Only.set _ _ _ _).trans (Only.set _ _ _ _)⟩
theorem rleft_any (w : World) (g : Nat) (v : Value) (e : Int) (xs : List Int) (hb : Blk w g (rdrC v e) 180) (hr : Rd w v (bs xs)) :
    Calls Tryd.prog 106 #[.pointer (some ⟨g, 0, none⟩)] w fun r w' => r = .returned (.int .i64 xs.length) ∧ w = w' := by
  obtain ⟨A, c, rfl, _⟩ := hr
  rw [bs_len] at hb
  have y0 := hb.at_ 0 rfl
  clear hb
  go_enter Tryd.func106, Tryd.ntmps106
  go_wp2_with fail
  all_goals go_ret
  exact ⟨rfl, rfl⟩
theorem rerr_any (w : World) (g : Nat) (v : Value) (e : Int) (hb : Blk w g (rdrC v e) 180) :
    Calls Tryd.prog 79 #[.pointer (some ⟨g, 0, none⟩)] w fun r w' => r = .returned (.int .i64 e) ∧ w = w' := by
  have y1 := hb.at_ 1 rfl
  have y2 := hb.at_ 2 rfl
  clear hb
  go_enter Tryd.func79, Tryd.ntmps79
  go_wp2_with fail
  all_goals go_ret
  exact ⟨rfl, rfl⟩
theorem rread_any (w : World) (v : Value) (xs : List Int) (hr : Rd w v (bs xs)) (hl : xs.length ≤ 70368744177664) :
    Calls Tryd.prog 76 #[v] w fun r w' => ∃ g v', r = .returned (.pointer (some ⟨g, 0, none⟩)) ∧ Blk w' g (rdrC v' 0) 180 ∧ Rd w' v' (bs xs) ∧ (∀ b, hold v' b → b ≠ g ∧ w.heap.size ≤ b) ∧ w.heap.size ≤ g ∧ Below w.heap.size w w' := by
  have hr0 := Lib.hid hr
  obtain ⟨A, c, rfl, _⟩ := hr
  rw [bs_len] at hr0 ⊢
  go_enter Tryd.func76, Tryd.ntmps76
  go_wp2_with (at_builtin; refine wp_app _ _ 24 rfl rfl 5 (.int .u8 0) 1 Tryd.underlying24 info5 rfl w.heap.size rfl (World.ownsRow_nil _ _ _ _) rfl hr0.out (bs_one _) (by decide) (by rw [bs_len]; omega) (Nat.le_refl _) ?_; intro v' w1 hown1 _ hb1; obtain ⟨A1, c1, rfl, _⟩ := id (Rd.of_own hown1))
  all_goals go_ret
  simp only [List.nil_append] at hown1
  exact ⟨_, _, rfl, Blk.mk_ _ rfl rfl, (Rd.of_own hown1).stay (bw_al (Below.refl _ _) (Nat.le_refl _) _) (Nat.le_refl _), (fun b hb => by have := row_new hown1 hb; omega), hb1.size, bw_al hb1 hb1.size _⟩
end Go.Proofs.YtdgpchacfdlleaaDoor
end

section
/-
  pack: the reader: the next bytes.
-/
namespace Go.Proofs.YtdgpchacfdlleaaDoor
open Go.RowKit

theorem hold_if {A : Option Addr} {n c m c' k b : Nat} (hA : k = 0 ∨ ∀ a, A = some a → a.spot = none) (h : hold (.slice (if c = k then A else A.map (·.add k)) m c') b) : hold (.slice A n c) b := by
  obtain ⟨o, n', c'', h⟩ := h
  cases h1 : (if c = k then A else A.map (·.add k)) with
  | none => rw [h1] at h; cases h
  | some a =>
    rw [h1] at h
    cases h
    split at h1
    · exact ⟨_, _, _, by rw [h1]⟩
    · cases A with
      | none => cases h1
      | some a0 =>
        simp only [Option.map_some, Option.some.injEq] at h1
        obtain ⟨b0, o0, p0⟩ := a0
        cases p0 with
        | none =>
          unfold Addr.add at h1
          split at h1
          · cases h1; exact ⟨_, _, _, rfl⟩
          · cases h1; exact ⟨_, _, _, rfl⟩
        | some p =>
          unfold Addr.add at h1
          split at h1
          · cases h1
          · rename_i hk
            rcases hA with hA | hA
            · exact absurd hA hk
            · have := hA _ rfl; cases this
/-- The first k, and what is left: as the program cuts them. -/
theorem cut_facts {w : World} {A : Option Addr} {n c : Nat} {xs : List Int} (h : Rd w (.slice A n c) (bs xs)) (k : Nat) (hk : k ≤ xs.length) :
    ∃ v1 v2, Rd w v1 (bs (xs.take k)) ∧ Rd w v2 (bs (xs.drop k)) ∧ (∀ b, hold v1 b → hold (.slice A n c) b) ∧ (∀ b, hold v2 b → hold (.slice A n c) b) ∧
      (∀ w', (Instr.slice 24 (.slice A n c) none (some (.int .i64 k)) none).run Tryd.prog w' = .ok v1 w') ∧ (∀ w', (Instr.slice 24 (.slice A n c) (some (.int .i64 k)) none none).run Tryd.prog w' = .ok v2 w') := by
  have h0 := h
  obtain ⟨A', c', hv, h1, h2, _, h3⟩ := h
  cases hv
  have hA : k = 0 ∨ ∀ a, A = some a → a.spot = none := by
    rcases h3 with h3 | ⟨b, o, h3, _⟩
    · left
      have := congrArg List.length h3
      rw [bs_len] at this
      simp at this
      subst this
      simp at hk
      omega
    · right
      intro a ha
      rw [h3] at ha
      cases ha
      rfl
  rw [bs_len] at h0 h1 ⊢
  have ht : Tryd.prog.underlying 24 = some (.slice (Tryd.prog.elem 24)) := by kernel_rfl
  have hsz : ∀ w', (sizeOf (Tryd.prog.elem 24)).run Tryd.prog w' = .ok 1 w' := fun w' => by kernel_rfl
  have a1 := h0.sub 0 k (Nat.zero_le _) (by rw [bs_len]; exact hk) _ rfl
  have a2 := h0.sub k xs.length hk (by rw [bs_len]; exact Nat.le_refl _) _ rfl
  rw [List.drop_zero, Nat.sub_zero] at a1
  rw [List.take_of_length_le (by rw [List.length_drop, bs_len]; exact Nat.le_refl _)] at a2
  refine ⟨_, _, by simpa [bs, List.map_take] using a1, by simpa [bs, List.map_drop] using a2, fun b hb => hold_if (.inl rfl) hb, fun b hb => hold_if hA hb, fun w' => ?_, fun w' => ?_⟩
  · rw [run_slice_h (w := w') _ A _ c ht .i64 k (by omega) (by omega), hsz]
    simp [Result.andThen, sliced]
  · rw [run_slice_l (w := w') _ A _ c ht .i64 k (by omega) (by omega), hsz]
    simp [Result.andThen, sliced]
set_option maxHeartbeats 1000000 in
theorem rnext_ok (w : World) (g : Nat) (v : Value) (xs : List Int) (n : Nat) (hb : Blk w g (rdrC v 0) 180) (hr : Rd w v (bs xs)) (hv : ∀ b, hold v b → b ≠ g) (hn : n ≤ xs.length) :
    Calls Tryd.prog 105 #[.pointer (some ⟨g, 0, none⟩), .int .i64 n] w fun r w' => ∃ v1 v2, r = .returned (.tuple #[v1, .bool true]) ∧ Blk w' g (rdrC v2 0) 180 ∧ Rd w' v1 (bs (xs.take n)) ∧ Rd w' v2 (bs (xs.drop n)) ∧ (∀ b, hold v1 b → hold v b) ∧ (∀ b, hold v2 b → hold v b) ∧ Only g w w' := by
  have hr0 := hr
  obtain ⟨A, c, rfl, hc1, hc2, _⟩ := hr
  rw [bs_len] at hr0 hb hv hc1 ⊢
  obtain ⟨v1, v2, r1, r2, q1, q2, s1, s2⟩ := cut_facts hr0 n hn
  obtain ⟨A2, c2, rfl, _⟩ := id r2
  obtain ⟨l2, hl2⟩ : ∃ l, (bs (xs.drop n)).length = l := ⟨_, rfl⟩
  rw [hl2] at r2 q2 s2
  clear hl2
  have t1 : ∀ w', (Instr.sliceAt 24 (.slice A xs.length c) none (some (.int .i64 n)) none).run Tryd.prog w' = .ok v1 w' := fun w' => (run_sliceAt_slice (w := w') _ _ _ _ _ (by kernel_rfl)).trans (s1 w')
  have t2 : ∀ w', (Instr.sliceAt 24 (.slice A xs.length c) (some (.int .i64 n)) none none).run Tryd.prog w' = .ok (.slice A2 l2 c2) w' := fun w' => (run_sliceAt_slice (w := w') _ _ _ _ _ (by kernel_rfl)).trans (s2 w')
  have y0 := hb.at_ 0 rfl
  have f0 := hb.free 0
  have OK := Lib.hid (rok_any w g _ 0 hb)
  have ho : Only g w (w.setCell ⟨g, 0, none⟩ (.slice A2 l2 c2)) := Only.set w g 0 (.slice A2 l2 c2)
  have ht : Turns (fun k => k = g) w (w.setCell ⟨g, 0, none⟩ (.slice A2 l2 c2)) := Turns.of_only ho rfl
  have R1 := Lib.hid (r1.moves ht fun b h => hv b (q1 b h))
  have R2 := Lib.hid (r2.moves ht fun b h => hv b (q2 b h))
  have HB := Lib.hid hb; have HO := Lib.hid ho; have Q1 := Lib.hid q1; have Q2 := Lib.hid q2
  clear hr0 hb hv r1 r2 q1 q2 ho ht
  go_enter Tryd.func105, Tryd.ntmps105
  go_wp2_with (go_at_call 102; refine OK.out.mono ?_; rintro e w' ⟨rfl, rfl⟩)
  all_goals go_ret2
  exact ⟨v1, _, rfl, HB.out.set 0 _, R1.out, R2.out, Q1.out, Q2.out, HO.out⟩
theorem rnext_short (w : World) (g : Nat) (v : Value) (xs : List Int) (n : Nat) (hb : Blk w g (rdrC v 0) 180) (hr : Rd w v (bs xs)) (hn : xs.length < n) :
    Calls Tryd.prog 105 #[.pointer (some ⟨g, 0, none⟩), .int .i64 n] w fun r w' => r = .returned (.tuple #[.slice none 0 0, .bool false]) ∧ Blk w' g (rdrC (.slice none 0 0) 4) 180 ∧ Only g w w' := by
  obtain ⟨A, c, rfl, hc1, hc2, _⟩ := hr
  rw [bs_len] at hb hc1
  have y0 := hb.at_ 0 rfl
  have OK := Lib.hid (rok_any w g _ 0 hb)
  have FL := Lib.hid (rfail_any w g _ 0 4 hb)
  clear hb
  go_enter Tryd.func105, Tryd.ntmps105
  go_wp2_with (first
    | (go_at_call 102; refine OK.out.mono ?_; rintro e w' ⟨rfl, rfl⟩)
    | (go_at_call 103; refine FL.out.mono ?_; rintro e w' ⟨rfl, hb', ho'⟩))
  all_goals go_ret2
  exact ⟨rfl, hb', ho'⟩
end Go.Proofs.YtdgpchacfdlleaaDoor
end

section
/-
  pack: the reader: the next number.
-/
namespace Go.Proofs.YtdgpchacfdlleaaDoor
open Go.RowKit

theorem numB_take {l : List Int} {k : Nat} (hk : k < l.length) : numB (l.take (k + 1)) = numB (l.take k) * 256 + l.getD k 0 := by
  rw [List.take_add_one, List.getElem?_eq_getElem hk]
  simp only [Option.toList_some, numB_snoc]
  rw [List.getD_eq_getElem?_getD, List.getElem?_eq_getElem hk]
  rfl
theorem or_shift (x z : Int) (hx : 0 ≤ x ∧ x < 72057594037927936) (hz : 0 ≤ z ∧ z ≤ 255) : bits .or .u64 (IntKind.u64.wrap (x * 256)) z = x * 256 + z := by
  obtain ⟨X, rfl⟩ := Int.eq_ofNat_of_zero_le hx.1
  obtain ⟨Z, rfl⟩ := Int.eq_ofNat_of_zero_le hz.1
  have h1 : IntKind.u64.wrap ((X : Int) * 256) = ((X * 256 : Nat) : Int) := by rw [IntKind.wrap_u64]; omega
  rw [h1, u64_or_nat (X * 256) Z (by omega) (by omega), nat_join 8 (X * 256) Z (Nat.mul_mod_left _ _) (by omega)]
  omega
set_option maxHeartbeats 1000000 in
theorem rnumber_ok (w : World) (g : Nat) (v : Value) (xs : List Int) (hb : Blk w g (rdrC v 0) 180) (hr : Rd w v (bs xs)) (hB : IsB xs) (hv : ∀ b, hold v b → b ≠ g) (hl : 8 ≤ xs.length) :
    Calls Tryd.prog 100 #[.pointer (some ⟨g, 0, none⟩), .int .i64 8] w fun r w' => ∃ v2, r = .returned (.int .u64 (numB (xs.take 8))) ∧ Blk w' g (rdrC v2 0) 180 ∧ Rd w' v2 (bs (xs.drop 8)) ∧ (∀ b, hold v2 b → hold v b) ∧ Only g w w' := by
  have NX := Lib.hid (rnext_ok w g v xs 8 hb hr hv hl)
  obtain ⟨ys, hys⟩ : ∃ ys, xs.take 8 = ys := ⟨_, rfl⟩
  have hyl : ys.length = 8 := by rw [← hys, List.length_take]; omega
  have hyB : IsB ys := fun z hz => hB z (List.mem_of_mem_take (hys ▸ hz))
  rw [hys] at NX ⊢
  clear hys hb hr hB hv
  go_enter Tryd.func100, Tryd.ntmps100
  go_wp2_with (go_at_call 105; refine NX.out.mono ?_; rintro e w1 ⟨v1, v2, rfl, b1, r1, r2, q1, q2, o1⟩; obtain ⟨A1, c1, rfl, h1, h2, h0, h3⟩ := id r1; rw [bs_len, hyl] at h1 ⊢)
  obtain ⟨b, o, rfl, hc⟩ : ∃ b o, A1 = some ⟨b, o, none⟩ ∧ ∀ j, j < 8 → w1.cell? ⟨b, o + j, none⟩ = some (.int .u8 (ys.getD j 0)) := by
    rcases h3 with h3 | ⟨b, o, h3, h4⟩
    · have := congrArg List.length h3
      rw [bs_len, hyl] at this
      simp at this
    · refine ⟨b, o, h3, fun j hj => ?_⟩
      rw [h4 j (by rw [bs_len, hyl]; exact hj)]
      simp [bs, List.getD_eq_getElem?_getD, List.getElem?_eq_getElem (show j < ys.length by omega)]
  have B1 := Lib.hid b1; have R2 := Lib.hid r2; have Q2 := Lib.hid q2; have O1 := Lib.hid o1
  clear h3 r1 b1 r2 q1 q2 o1 NX
  go_loopw [7, 18] (fun x i wr => ∃ k : Nat, k ≤ 8 ∧ i = .int .i64 k ∧ x = .int .u64 (numB (ys.take k)) ∧ wr = w1) (fun _ i _ => 8 - (intOf i).toNat)
  case atStart => exact ⟨0, by omega, rfl, rfl, rfl⟩
  case round =>
    obtain ⟨k, hk, rfl, rfl, rfl⟩ := hrel
    by_cases hlt : k < 8
    · have hck := hc k hlt
      have hx := numB_range (l := ys.take k) (fun z hz => hyB z (List.mem_of_mem_take hz))
      have hst := numB_take (l := ys) (k := k) (by omega)
      have hcb := hyB.at_ k
      rw [show (ys.take k).length = k by rw [List.length_take]; omega] at hx
      obtain ⟨X, hX⟩ : ∃ X, numB (ys.take k) = X := ⟨_, rfl⟩
      obtain ⟨z, hz⟩ : ∃ z, ys.getD k 0 = z := ⟨_, rfl⟩
      rw [hX, hz] at hst
      rw [hX] at hx ⊢
      rw [hz] at hck hcb
      have HST := Lib.hid (fun _ : Unit => hst)
      clear hX hz hst hc
      go_wp2_with fail
      go_roundw
      case rel =>
        have h8 : (256 : Nat) ^ k ≤ 256 ^ 7 := Nat.pow_le_pow_right (by decide) (by omega)
        have h9 : ((256 : Int) ^ k) = ((256 ^ k : Nat) : Int) := by rw [Int.natCast_pow]; rfl
        have h10 : (256 : Nat) ^ 7 = 72057594037927936 := by decide
        have h7 : X < 72057594037927936 := by
          have := hx.2
          rw [h9] at this
          rw [h10] at h8
          omega
        refine ⟨k + 1, by omega, by simp, ?_, trivial⟩
        rw [or_shift X z ⟨hx.1, h7⟩ hcb, HST.out ()]
      case measure => simp [intOf]; omega
    · obtain rfl : k = 8 := by omega
      go_wp2_with fail
      all_goals go_ret
      refine ⟨v2, by rw [List.take_of_length_le (by omega)]; rfl, B1.out, R2.out, Q2.out, O1.out⟩
end Go.Proofs.YtdgpchacfdlleaaDoor
end

section
/-
  pack: the reader: a number that is not there; eight bytes' number.
-/
namespace Go.Proofs.YtdgpchacfdlleaaDoor
open Go.RowKit

theorem rnumber_short (w : World) (g : Nat) (v : Value) (xs : List Int) (hb : Blk w g (rdrC v 0) 180) (hr : Rd w v (bs xs)) (hl : xs.length < 8) :
    Calls Tryd.prog 100 #[.pointer (some ⟨g, 0, none⟩), .int .i64 8] w fun r w' => r = .returned (.int .u64 0) ∧ Blk w' g (rdrC (.slice none 0 0) 4) 180 ∧ Only g w w' := by
  have NX := Lib.hid (rnext_short w g v xs 8 hb hr hl)
  clear hb hr
  go_enter Tryd.func100, Tryd.ntmps100
  go_wp2_with (go_at_call 105; refine NX.out.mono ?_; rintro e w1 ⟨rfl, b1, o1⟩)
  have B1 := Lib.hid b1; have O1 := Lib.hid o1
  clear b1 o1
  go_loopw [7, 18] (fun x i wr => i = .int .i64 0 ∧ x = .int .u64 0 ∧ wr = w1) (fun _ _ _ => 0)
  case atStart => exact ⟨rfl, rfl, rfl⟩
  case round =>
    obtain ⟨rfl, rfl, rfl⟩ := hrel
    go_wp2_with fail
    all_goals go_ret
    exact ⟨rfl, B1.out, O1.out⟩
theorem ru64_ok (w : World) (g : Nat) (v : Value) (xs : List Int) (hb : Blk w g (rdrC v 0) 180) (hr : Rd w v (bs xs)) (hB : IsB xs) (hv : ∀ b, hold v b → b ≠ g) (hl : 8 ≤ xs.length) :
    Calls Tryd.prog 101 #[.pointer (some ⟨g, 0, none⟩)] w fun r w' => ∃ v2, r = .returned (.int .u64 (numB (xs.take 8))) ∧ Blk w' g (rdrC v2 0) 180 ∧ Rd w' v2 (bs (xs.drop 8)) ∧ (∀ b, hold v2 b → hold v b) ∧ Only g w w' := by
  have NB := Lib.hid (rnumber_ok w g v xs hb hr hB hv hl)
  clear hb hr hB hv hl
  go_enter Tryd.func101, Tryd.ntmps101
  go_wp2_with (go_at_call 100; refine NB.out.mono ?_; rintro e w1 ⟨v2, rfl, b1, r2, q2, o1⟩)
  all_goals go_ret
  exact ⟨v2, rfl, b1, r2, q2, o1⟩
theorem ru64_short (w : World) (g : Nat) (v : Value) (xs : List Int) (hb : Blk w g (rdrC v 0) 180) (hr : Rd w v (bs xs)) (hl : xs.length < 8) :
    Calls Tryd.prog 101 #[.pointer (some ⟨g, 0, none⟩)] w fun r w' => r = .returned (.int .u64 0) ∧ Blk w' g (rdrC (.slice none 0 0) 4) 180 ∧ Only g w w' := by
  have NB := Lib.hid (rnumber_short w g v xs hb hr hl)
  clear hb hr hl
  go_enter Tryd.func101, Tryd.ntmps101
  go_wp2_with (go_at_call 100; refine NB.out.mono ?_; rintro e w1 ⟨rfl, b1, o1⟩)
  all_goals go_ret
  exact ⟨rfl, b1, o1⟩
end Go.Proofs.YtdgpchacfdlleaaDoor
end

section
/-
  pack: the reader: a number of at most 1 << 40.
-/
namespace Go.Proofs.YtdgpchacfdlleaaDoor
open Go.RowKit

set_option maxRecDepth 100000 in
theorem rnum_ok (w : World) (g : Nat) (v : Value) (xs : List Int) (hb : Blk w g (rdrC v 0) 180) (hr : Rd w v (bs xs)) (hB : IsB xs) (hv : ∀ b, hold v b → b ≠ g) (hl : 8 ≤ xs.length) (hm : numB (xs.take 8) ≤ 1099511627776) :
    Calls Tryd.prog 78 #[.pointer (some ⟨g, 0, none⟩), .int .i64 1099511627776] w fun r w' => ∃ v2, r = .returned (.int .i64 (numB (xs.take 8))) ∧ Blk w' g (rdrC v2 0) 180 ∧ Rd w' v2 (bs (xs.drop 8)) ∧ (∀ b, hold v2 b → hold v b) ∧ Only g w w' := by
  have NB := Lib.hid (ru64_ok w g v xs hb hr hB hv hl)
  have h0 := (numB_range (l := xs.take 8) (fun z hz => hB z (List.mem_of_mem_take hz))).1
  obtain ⟨X, hX⟩ : ∃ X, numB (xs.take 8) = X := ⟨_, rfl⟩
  rw [hX] at NB h0 hm ⊢
  have e1 : X / 9223372036854775808 = 0 := by omega
  have e2 : IntKind.i64.wrap X = X := by rw [IntKind.wrap_i64]; omega
  clear hb hr hB hv hl hX
  go_enter Tryd.func78, Tryd.ntmps78
  go_wp2_with (first
    | (go_at_call 101; refine NB.out.mono ?_; rintro e w1 ⟨v2, rfl, b1, r2, q2, o1⟩)
    | (go_at_call 102; refine (rok_any w1 g v2 0 b1).mono ?_; rintro e w2 ⟨rfl, rfl⟩))
  all_goals go_ret
  exact ⟨v2, rfl, b1, r2, q2, o1⟩
set_option maxRecDepth 100000 in
theorem rnum_short (w : World) (g : Nat) (v : Value) (xs : List Int) (hb : Blk w g (rdrC v 0) 180) (hr : Rd w v (bs xs)) (hl : xs.length < 8) :
    Calls Tryd.prog 78 #[.pointer (some ⟨g, 0, none⟩), .int .i64 1099511627776] w fun r w' => r = .returned (.int .i64 0) ∧ Blk w' g (rdrC (.slice none 0 0) 4) 180 ∧ Only g w w' := by
  have NB := Lib.hid (ru64_short w g v xs hb hr hl)
  clear hb hr hl
  go_enter Tryd.func78, Tryd.ntmps78
  go_wp2_with (first
    | (go_at_call 101; refine NB.out.mono ?_; rintro e w1 ⟨rfl, b1, o1⟩)
    | (go_at_call 102; refine (rok_any w1 g _ 4 b1).mono ?_; rintro e w2 ⟨rfl, rfl⟩))
  all_goals go_ret
  exact ⟨rfl, b1, o1⟩
end Go.Proofs.YtdgpchacfdlleaaDoor
end

section
/-
  pack: the reader: a number too great; what is left.
-/
namespace Go.Proofs.YtdgpchacfdlleaaDoor
open Go.RowKit

set_option maxRecDepth 100000 in
theorem rnum_long (w : World) (g : Nat) (v : Value) (xs : List Int) (hb : Blk w g (rdrC v 0) 180) (hr : Rd w v (bs xs)) (hB : IsB xs) (hv : ∀ b, hold v b → b ≠ g) (hl : 8 ≤ xs.length) (hm : 1099511627776 < numB (xs.take 8)) :
    Calls Tryd.prog 78 #[.pointer (some ⟨g, 0, none⟩), .int .i64 1099511627776] w fun r w' => r = .returned (.int .i64 0) ∧ Blk w' g (rdrC (.slice none 0 0) 5) 180 ∧ Only g w w' := by
  have NB := Lib.hid (ru64_ok w g v xs hb hr hB hv hl)
  have h0 := (numB_range (l := xs.take 8) (fun z hz => hB z (List.mem_of_mem_take hz)))
  rw [show (xs.take 8).length = 8 by rw [List.length_take]; omega] at h0
  have h1 : (256 : Int) ^ 8 = 18446744073709551616 := by decide
  rw [h1] at h0
  obtain ⟨X, hX⟩ : ∃ X, numB (xs.take 8) = X := ⟨_, rfl⟩
  rw [hX] at NB h0 hm
  clear hb hr hB hv hl hX h1
  go_enter Tryd.func78, Tryd.ntmps78
  by_cases hx : X < 9223372036854775808
  · have e1 : X / 9223372036854775808 = 0 := by omega
    have e2 : IntKind.i64.wrap X = X := by rw [IntKind.wrap_i64]; omega
    go_wp2_with (first
      | (go_at_call 101; refine NB.out.mono ?_; rintro e w1 ⟨v2, rfl, b1, r2, q2, o1⟩)
      | (go_at_call 102; refine (rok_any w1 g v2 0 b1).mono ?_; rintro e w2 ⟨rfl, rfl⟩)
      | (go_at_call 103; refine (rfail_any w1 g v2 0 5 b1).mono ?_; rintro e w3 ⟨rfl, b3, o3⟩))
    all_goals go_ret
    exact ⟨rfl, b3, o1.trans o3⟩
  · have e1 : X / 9223372036854775808 = 1 := by omega
    go_wp2_with (first
      | (go_at_call 101; refine NB.out.mono ?_; rintro e w1 ⟨v2, rfl, b1, r2, q2, o1⟩)
      | (go_at_call 102; refine (rok_any w1 g v2 0 b1).mono ?_; rintro e w2 ⟨rfl, rfl⟩)
      | (go_at_call 103; refine (rfail_any w1 g v2 0 5 b1).mono ?_; rintro e w3 ⟨rfl, b3, o3⟩))
    all_goals go_ret
    exact ⟨rfl, b3, o1.trans o3⟩
end Go.Proofs.YtdgpchacfdlleaaDoor
end

section
/-
  pack: the reader: all that is left.
-/
namespace Go.Proofs.YtdgpchacfdlleaaDoor
open Go.RowKit

theorem rrest_ok (w : World) (g : Nat) (v : Value) (xs : List Int) (hb : Blk w g (rdrC v 0) 180) (hr : Rd w v (bs xs)) (hv : ∀ b, hold v b → b ≠ g) (hl : xs.length ≤ 70368744177664) :
    Calls Tryd.prog 85 #[.pointer (some ⟨g, 0, none⟩)] w fun r w' => ∃ v' v2, r = .returned v' ∧ Rd w' v' (bs xs) ∧ Blk w' g (rdrC v2 0) 180 ∧ Turns (fun k => k = g) w w' := by
  have LF := Lib.hid (rleft_any w g v 0 xs hb hr)
  have NX := rnext_ok w g v xs xs.length hb hr hv (Nat.le_refl _)
  rw [List.take_length] at NX
  have NX := Lib.hid NX
  clear hb hr hv
  go_enter Tryd.func85, Tryd.ntmps85
  go_wp2_with (first
    | (go_at_call 106; refine LF.out.mono ?_; rintro e w1 ⟨rfl, rfl⟩)
    | (go_at_call 105; refine NX.out.mono ?_; rintro e w2 ⟨v1, v2, rfl, b2, r1, r2, q1, q2, o2⟩)
    | (at_builtin; refine wp_app _ _ 24 rfl rfl 5 (.int .u8 0) 1 Tryd.underlying24 info5 rfl w2.heap.size rfl (World.ownsRow_nil _ _ _ _) rfl r1 (bs_one _) (by decide) (by rw [bs_len]; omega) (Nat.le_refl _) ?_; intro v' w3 hown3 _ hb3))
  all_goals go_ret
  simp only [List.nil_append] at hown3
  exact ⟨v', v2, rfl, Rd.of_own hown3, b2.stay hb3, (Turns.of_only (S := fun k => k = g) o2 rfl).trans (Turns.of_below hb3)⟩
end Go.Proofs.YtdgpchacfdlleaaDoor
end

section
/-
  pack: the reader in whatever state: a number, and all that is left.
-/
namespace Go.Proofs.YtdgpchacfdlleaaDoor
open Go.RowKit

theorem rnext_err (w : World) (g : Nat) (v : Value) (e : Int) (n : Int) (hb : Blk w g (rdrC v e) 180) (he : e ≠ 0) :
    Calls Tryd.prog 105 #[.pointer (some ⟨g, 0, none⟩), .int .i64 n] w fun r w' => r = .returned (.tuple #[.slice none 0 0, .bool false]) ∧ w = w' := by
  have OK := Lib.hid (rok_any w g _ e hb)
  rw [show decide (e = 0) = false from decide_eq_false he] at OK
  clear hb he
  go_enter Tryd.func105, Tryd.ntmps105
  go_wp2_with (go_at_call 102; refine OK.out.mono ?_; rintro e w' ⟨rfl, rfl⟩)
  all_goals go_ret2
  exact ⟨rfl, rfl⟩
theorem rrest_err (w : World) (g : Nat) (e : Int) (hb : Blk w g (rdrC (.slice none 0 0) e) 180) (he : e ≠ 0) :
    Calls Tryd.prog 85 #[.pointer (some ⟨g, 0, none⟩)] w fun r w' => r = .returned (.slice none 0 0) ∧ w = w' := by
  have LF := Lib.hid (rleft_any w g (.slice none 0 0) e [] hb (Rd.nil _))
  have NX := Lib.hid (fun n => rnext_err w g _ e n hb he)
  clear hb he
  go_enter Tryd.func85, Tryd.ntmps85
  go_wp2_with (first
    | (go_at_call 106; refine LF.out.mono ?_; rintro e w1 ⟨rfl, rfl⟩)
    | (go_at_call 105; refine (NX.out _).mono ?_; rintro e w2 ⟨rfl, rfl⟩))
  all_goals go_ret
  first | exact ⟨rfl, rfl⟩ | exact ⟨by simp, rfl⟩
/-- The bytes say a number that may be. -/
def numOk (xs : List Int) : Bool := decide (8 ≤ xs.length) && decide (numB (xs.take 8) ≤ 1099511627776)
def numOf (xs : List Int) : Int := if numOk xs = true then numB (xs.take 8) else 0
def numErr (xs : List Int) : Int := if numOk xs = true then 0 else if xs.length < 8 then 4 else 5
def numRest (xs : List Int) : List Int := if numOk xs = true then xs.drop 8 else []
theorem numOf_range {xs : List Int} (h : IsB xs) : 0 ≤ numOf xs ∧ numOf xs ≤ 1099511627776 := by
  unfold numOf numOk
  have := (numB_range (l := xs.take 8) (fun z hz => h z (List.mem_of_mem_take hz))).1
  split
  · rename_i hc
    simp at hc
    omega
  · omega
theorem rnum_any (w : World) (g : Nat) (v : Value) (xs : List Int) (hb : Blk w g (rdrC v 0) 180) (hr : Rd w v (bs xs)) (hB : IsB xs) (hv : ∀ b, hold v b → b ≠ g) :
    Calls Tryd.prog 78 #[.pointer (some ⟨g, 0, none⟩), .int .i64 1099511627776] w fun r w' => ∃ v2, r = .returned (.int .i64 (numOf xs)) ∧ Blk w' g (rdrC v2 (numErr xs)) 180 ∧ Rd w' v2 (bs (numRest xs)) ∧ (∀ b, hold v2 b → hold v b) ∧ (numErr xs = 0 ∨ v2 = .slice none 0 0) ∧ Only g w w' := by
  have no : ∀ b, ¬ hold (.slice none 0 0) b := by rintro b ⟨o, n, c, h⟩; cases h
  by_cases h1 : xs.length < 8
  · have h0 : numOk xs = false := by unfold numOk; simp; omega
    refine (rnum_short w g v xs hb hr h1).mono fun r w' ⟨h2, h3, h4⟩ => ⟨.slice none 0 0, ?_, ?_, ?_, fun b hb => absurd hb (no b), .inr rfl, h4⟩
    · rw [h2]; unfold numOf; rw [h0]; rfl
    · unfold numErr; rw [h0, if_neg (by simp), if_pos h1]; exact h3
    · unfold numRest; rw [h0]; exact Rd.nil _
  by_cases h2 : numB (xs.take 8) ≤ 1099511627776
  · have h0 : numOk xs = true := by unfold numOk; simp; omega
    refine (rnum_ok w g v xs hb hr hB hv (by omega) h2).mono fun r w' ⟨v2, h3, h4, h5, h6, h7⟩ => ⟨v2, ?_, ?_, ?_, h6, .inl ?_, h7⟩
    · rw [h3]; unfold numOf; rw [if_pos h0]
    · unfold numErr; rw [if_pos h0]; exact h4
    · unfold numRest; rw [if_pos h0]; exact h5
    · unfold numErr; rw [if_pos h0]
  · have h0 : numOk xs = false := by unfold numOk; simp; omega
    refine (rnum_long w g v xs hb hr hB hv (by omega) (by omega)).mono fun r w' ⟨h3, h4, h5⟩ => ⟨.slice none 0 0, ?_, ?_, ?_, fun b hb => absurd hb (no b), .inr rfl, h5⟩
    · rw [h3]; unfold numOf; rw [h0]; rfl
    · unfold numErr; rw [h0, if_neg (by simp), if_neg h1]; exact h4
    · unfold numRest; rw [h0]; exact Rd.nil _
theorem rrest_any (w : World) (g : Nat) (v : Value) (e : Int) (xs : List Int) (hb : Blk w g (rdrC v e) 180) (hr : Rd w v (bs xs)) (hv : ∀ b, hold v b → b ≠ g) (hl : xs.length ≤ 70368744177664) (he : e = 0 ∨ v = .slice none 0 0) :
    Calls Tryd.prog 85 #[.pointer (some ⟨g, 0, none⟩)] w fun r w' => ∃ v' v2, r = .returned v' ∧ Rd w' v' (bs xs) ∧ Blk w' g (rdrC v2 e) 180 ∧ Turns (fun k => k = g) w w' := by
  by_cases h0 : e = 0
  · subst h0
    exact rrest_ok w g v xs hb hr hv hl
  · obtain rfl := he.resolve_left h0
    obtain rfl : xs = [] := by
      obtain ⟨A, c, hv', _⟩ := hr
      injection hv' with _ h2 _
      rw [bs_len] at h2
      exact List.eq_nil_of_length_eq_zero h2.symm
    refine (rrest_err w g e hb h0).mono fun r w' ⟨h1, h2⟩ => ?_
    subst h2
    exact ⟨_, _, h1, Rd.nil _, hb, Turns.refl _ _⟩
end Go.Proofs.YtdgpchacfdlleaaDoor
end

section
/-
  box: the entry of a ledger that bytes tell.
-/
namespace Go.Proofs.YtdgpchacfdlleaaDoor
open Go.RowKit

theorem all_zero_step (l : List Int) (k : Nat) (hk : k < l.length) (h : (l.take k).all (fun c => c == 0) = true) (h0 : l.getD k 0 = 0) : (l.take (k + 1)).all (fun c => c == 0) = true := by
  rw [List.take_add_one, List.all_append, h, List.getElem?_eq_getElem hk]
  rw [List.getD_eq_getElem?_getD, List.getElem?_eq_getElem hk] at h0
  simp at h0
  simp [h0]
theorem not_all_zero (l : List Int) (k : Nat) (hk : k < l.length) (h0 : l.getD k 0 ≠ 0) : l.all (fun c => c == 0) = false := by
  rw [List.getD_eq_getElem?_getD, List.getElem?_eq_getElem hk] at h0
  simp at h0
  rw [List.all_eq_false]
  exact ⟨l[k], List.getElem_mem hk, by simpa using h0⟩
theorem findL_none_of {h : List Int} {n : Nat} (hc : numOk h = false ∨ ¬ numOf h < n ∨ (numRest h).all (fun c => c == 0) = false) : findL h n = none := by
  unfold findL
  rw [if_neg]
  rintro ⟨h1, h2, h3, h4⟩
  have ho : numOk h = true := by unfold numOk; simp [h1, h2]
  rcases hc with hc | hc | hc
  · rw [ho] at hc; cases hc
  · unfold numOf at hc; rw [if_pos ho] at hc; exact hc h3
  · unfold numRest at hc; rw [if_pos ho, h4] at hc; cases hc
theorem findL_some_of {h : List Int} {n : Nat} (ho : numOk h = true) (h1 : numOf h < n) (h2 : (numRest h).all (fun c => c == 0) = true) : findL h n = some (numOf h).toNat := by
  unfold findL
  have h3 : 8 ≤ h.length ∧ numB (h.take 8) ≤ 1099511627776 := by unfold numOk at ho; simpa using ho
  unfold numOf at h1 ⊢
  unfold numRest at h2
  rw [if_pos ho] at h1 h2 ⊢
  rw [if_pos ⟨h3.1, h3.2, h1, h2⟩]
theorem numErr_zero {h : List Int} : numErr h = 0 ↔ numOk h = true := by
  unfold numErr
  cases numOk h
  · simp
    split <;> simp
  · simp
def zero9 : List Value := [.int .i64 0, .int .i64 0, .int .i64 0, .int .i64 0, .int .i64 0, .int .i64 0, .int .i64 0, .slice none 0 0, .slice none 0 0]
def zero7 : List Value := [.int .i64 0, .int .i64 0, .int .i64 0, .int .i64 0, .int .i64 0, .int .i64 0, .slice none 0 0]

set_option maxRecDepth 100000 in
set_option maxHeartbeats 4000000 in
theorem findS_all (w : World) (g : Nat) (cs : List Value) (vS : Value) (base : Nat) (es : List EntS) (v : Value) (hid : List Int) (hb : Blk w g cs 59) (h3 : cs[3]? = some vS) (hrow : w.ownsRow base 130 9 vS es.length (es.flatMap EntS.cells))
    (hr : Rd w v (bs hid)) (hB : IsB hid) (hl : hid.length ≤ 1000000) (hone : ∀ x ∈ es, ∀ y ∈ x.cells, y.oneCell' = true) (R : Ending → World → Prop)
    (hN : findL hid es.length = none → ∀ w', Below w.heap.size w w' → R (.returned (.tuple #[.agg zero9.toArray, .bool false])) w')
    (hS : ∀ k x, findL hid es.length = some k → es[k]? = some x → ∀ w', Below w.heap.size w w' → R (.returned (.tuple #[.agg x.cells.toArray, .bool true])) w') :
    Calls Tryd.prog 56 #[.pointer (some ⟨g, 3, none⟩), v] w R := by
  have HONE := Lib.hid hone
  clear hone
  have HN := Lib.hid hN
  have HS := Lib.hid hS
  clear hN hS
  obtain ⟨B, hBs⟩ : ∃ B, w.heap.size = B := ⟨_, rfl⟩
  have hg : g < B := by rw [← hBs]; exact hb.lt
  obtain ⟨res, hres⟩ : ∃ res, findL hid es.length = res := ⟨_, rfl⟩
  have HRES := Lib.hid (fun _ : Unit => hres)
  rw [hres] at HN HS
  clear hres
  obtain ⟨A, c, rfl, hc1, hc2, _⟩ := id hr
  rw [bs_len] at hr hc1 ⊢
  obtain ⟨hn1, hhn⟩ : ∃ n, hid.length = n := ⟨_, rfl⟩
  rw [hhn] at hr hl hc1 ⊢
  have HLN := Lib.hid (fun _ : Unit => hhn)
  clear hhn
  obtain ⟨AS, cS, rfl⟩ : ∃ AS cS, vS = .slice AS es.length cS := by
    rcases hrow.2 with ⟨h1, h2⟩ | ⟨g', cap, cur, h1, _⟩
    · exact ⟨none, 0, by rw [h1, h2]⟩
    · exact ⟨_, _, h1⟩
  have HROW := Lib.hid hrow
  have HIB := Lib.hid hB
  have ny := numOf_range hB
  have HNY := Lib.hid ny
  clear hrow hB ny
  obtain ⟨nes, hnes⟩ : ∃ n, es.length = n := ⟨_, rfl⟩
  rw [hnes] at h3 HRES HROW
  have HNES := Lib.hid (fun _ : Unit => hnes)
  clear hnes
  have hb1 : ∀ w', Below B w w' → w'.cell? ⟨g, 3, none⟩ = some (.slice AS nes cS) := fun w' h => (hb.keep h hg).at_ 3 h3
  have HB1 := Lib.hid hb1
  have HR0 := Lib.hid hr
  clear hb hb1 hr h3
  go_enter Tryd.func56, Tryd.ntmps56
  go_upto_region 2 with fail
  obtain ⟨W, hW⟩ : ∃ W, (w.alloc (.cells zero9.toArray 130)).alloc (.cells zero9.toArray 130) = W := ⟨_, rfl⟩
  change Code.wp _ _ _ _ ((w.alloc (.cells zero9.toArray 130)).alloc (.cells zero9.toArray 130))
  have b0 : Blk W B zero9 130 := by rw [← hW]; exact (Blk.mk_ _ hBs.symm rfl).al _
  have b1 : Blk W (B + 1) zero9 130 := by rw [← hW]; exact Blk.mk_ _ (by simp [hBs]) rfl
  have bb : Below B w W := by rw [← hW]; exact bw_al (bw_al (Below.refl _ _) (by omega) _) (by simp; omega) _
  have hz : W.heap.size = B + 2 := by rw [← hW]; simp [hBs]
  rw [hW]
  clear hW
  have RD := Lib.hid (rread_any W (.slice A hn1 c) hid (HR0.out.stay bb (by omega)) (by rw [HLN.out ()]; omega))
  have H0 := Lib.hid b0; have H1 := Lib.hid b1; have HBB := Lib.hid bb
  clear b0 b1 bb
  go_upto_region 3 with (go_at_call 76; refine RD.out.mono ?_; rintro e w2 ⟨p, v2, rfl, q1, q2, q3, q4, q5⟩)
  have NM := Lib.hid (rnum_any w2 p v2 hid q1 q2 HIB.out (fun b h => (q3 b h).1))
  have Q3 := Lib.hid q3; have Q5 := Lib.hid q5
  clear q1 q2 q3 q5
  obtain ⟨num, hnum⟩ : ∃ x, numOf hid = x := ⟨_, rfl⟩
  obtain ⟨err, herr⟩ : ∃ x, numErr hid = x := ⟨_, rfl⟩
  obtain ⟨zs, hzs⟩ : ∃ x, numRest hid = x := ⟨_, rfl⟩
  rw [hnum, herr, hzs] at NM
  rw [hnum] at HNY
  have HNUM := Lib.hid (fun _ : Unit => hnum); have HERR := Lib.hid (fun _ : Unit => herr); have HZS := Lib.hid (fun _ : Unit => hzs)
  have hzl : zs.length ≤ 1000000 := by
    rw [← hzs]; unfold numRest
    split
    · rw [List.length_drop, HLN.out ()]; omega
    · simp
  clear hnum herr hzs
  go_upto_region 4 with (go_at_call 78; refine NM.out.mono ?_; rintro e w3 ⟨v3, rfl, t1, t2, t3, t4, t5⟩)
  have hp3 : ∀ b, hold v3 b → b ≠ p := fun b h => (Q3.out b (t3 b h)).1
  have RS := Lib.hid (rrest_any w3 p v3 err zs t1 t2 hp3 (by omega) t4)
  have T5 := Lib.hid t5
  clear t1 t2 t3 t4 t5 hp3
  go_upto_region 5 with (go_at_call 85; refine RS.out.mono ?_; rintro e w4 ⟨vr, v4, rfl, u1, u2, u3⟩; obtain ⟨Ar, cr, rfl, hr1, hr2, hr0, hr3⟩ := id u1; rw [bs_len] at u1 hr1 ⊢)
  have hW4 : Below W.heap.size W w4 := Turns.below (Only.below Q5.out T5.out q4) u3 (by have := Q5.out.size; have := T5.out.size; omega) (fun j hj => by rw [hj]; exact q4)
  have hB4 : Below B w w4 := bw_then HBB.out hW4 (by omega)
  have k0 := H0.out.stay hW4
  have k1 := H1.out.stay hW4
  have ER := Lib.hid (rerr_any w4 p v4 err u2)
  have kS := HB1.out w4 hB4
  have hrow4 : w4.ownsRow base 130 9 (.slice AS nes cS) nes (es.flatMap EntS.cells) := ownsRow_keep HROW.out hB4 (by omega)
  obtain ⟨m, hm⟩ : ∃ m, zs.length = m := ⟨_, rfl⟩
  have hcell : ∃ b o, (m ≠ 0 → Ar = some ⟨b, o, none⟩) ∧ ∀ j, j < m → w4.cell? ⟨b, o + j, none⟩ = some (.int .u8 (zs.getD j 0)) := by
    rcases hr3 with h | ⟨b, o, h, h4⟩
    · have : m = 0 := by have := congrArg List.length h; rw [bs_len] at this; simpa [hm] using this
      exact ⟨0, 0, fun h => absurd this h, fun j hj => by omega⟩
    · refine ⟨b, o, fun _ => h, fun j hj => ?_⟩
      rw [h4 j (by rw [bs_len]; omega)]
      simp [bs, List.getD_eq_getElem?_getD, List.getElem?_eq_getElem (show j < zs.length by omega)]
  obtain ⟨rb, ro, hAr, hcell⟩ := hcell
  rw [hm] at hr1 hzl ⊢
  have HM := Lib.hid (fun _ : Unit => hm)
  have HC := Lib.hid hcell; have HAr := Lib.hid hAr
  have L4 := Lib.hid hB4; have K0 := Lib.hid k0; have K1 := Lib.hid k1; have KS := Lib.hid kS; have HROW4 := Lib.hid hrow4
  have hm64 : m ≤ 9223372036854775807 := by omega
  clear hm hcell hAr hB4 hW4 k0 k1 kS hrow4 u1 u2 u3 hr3 hr0 RS NM RD HR0
  go_loopw [18] (fun x wr => ∃ k : Nat, k ≤ m ∧ x = .int .i64 k ∧ wr = w4 ∧ (zs.take k).all (fun c => c == 0) = true) (fun x _ => m - (intOf x).toNat)
  case atStart => exact ⟨0, by omega, rfl, rfl, by simp⟩
  case round =>
    obtain ⟨k, hk, rfl, rfl, hall⟩ := hrel
    have HALL := Lib.hid hall
    clear hall
    rw [hBs] at HN HS
    by_cases hlt : k < m
    · obtain rfl := HAr.out (by omega)
      have hck := HC.out k hlt
      obtain ⟨z, hz⟩ : ∃ z, zs.getD k 0 = z := ⟨_, rfl⟩
      rw [hz] at hck
      have HZ := Lib.hid (fun _ : Unit => hz)
      clear hz
      by_cases h0 : z = 0
      · subst h0
        go_wp2_with fail
        exact ⟨⟨k + 1, by omega, by simp, trivial, all_zero_step zs k (by rw [HM.out ()]; exact hlt) HALL.out (HZ.out ())⟩, by simp [intOf]; omega⟩
      · have hn : res = none := by
          have h1 := not_all_zero zs k (by rw [HM.out ()]; exact hlt) (by rw [HZ.out ()]; exact h0)
          rw [← HRES.out ()]
          exact findL_none_of (.inr (.inr (by rw [HZS.out ()]; exact h1)))
        have FIN := Lib.hid (HN.out hn)
        clear hn
        go_wp2_with (first
          | (refine wp_load_blk rfl 130 (.tmp 6) rfl rfl K1.out Tryd.underlying130 rfl (n := 9) (by kernel_rfl) rfl ?_)
          | (refine wp_store_blk rfl 130 (.tmp 4) (.tmp 24) rfl rfl rfl (cs' := zero9) K0.out (by intro y hy; simp [zero9] at hy; rcases hy with rfl | rfl <;> rfl) rfl (n := 9) (by kernel_rfl) rfl ?_; intro w5 b5 on5))
        all_goals (refine ret_blk2 rfl rfl b5 Tryd.underlying130 rfl (n := 9) (by kernel_rfl) rfl rfl ?_)
        exact FIN.out _ (on5.below L4.out (Nat.le_refl _))
    · obtain rfl : k = m := by omega
      have hfull : zs.all (fun c => c == 0) = true := by have := HALL.out; rwa [List.take_of_length_le (by rw [HM.out ()]; exact Nat.le_refl _)] at this
      have HF := Lib.hid hfull
      clear hfull
      by_cases he : err = 0
      · subst he
        have hok := numErr_zero.1 (HERR.out ())
        have HOK := Lib.hid hok
        have hn0 := HNY.out
        clear hok
        by_cases hlt2 : num < nes
        · obtain ⟨q, rfl⟩ := Int.eq_ofNat_of_zero_le hn0.1
          have hq : q < nes := by omega
          have hres : res = some q := by
            rw [← HRES.out ()]
            have := findL_some_of (h := hid) (n := nes) HOK.out (by rw [HNUM.out ()]; omega) (by rw [HZS.out ()]; exact HF.out)
            rw [this, HNUM.out ()]; rfl
          obtain ⟨x, hx⟩ : ∃ x, es[q]? = some x := ⟨es[q]'(by rw [HNES.out ()]; exact hq), List.getElem?_eq_getElem _⟩
          have FIN := Lib.hid (HS.out q x hres hx)
          have hc : ∃ gS, AS = some ⟨gS, 0, none⟩ ∧ ∀ j u, x.cells[j]? = some u → wr.cell? ⟨gS, q * 9 + j, none⟩ = some u := by
            have h0 := flat_get EntS.cells 9 (fun _ => rfl) es q x hx
            obtain ⟨gS, cap, e1, _⟩ := row_cell HROW4.out (i := q * 9 + 0) (x := x.cells[0]'(by rw [EntS.len]; decide)) (by rw [h0 0 (by decide)]; rfl)
            injection e1 with e1
            refine ⟨gS, e1, fun j u hj => ?_⟩
            have hjl : j < 9 := (List.getElem?_eq_some_iff.1 hj).1
            obtain ⟨gS', cap', e2, e3, _⟩ := row_cell HROW4.out (i := q * 9 + j) (x := u) (by rw [h0 j hjl]; exact hj)
            injection e2 with e2
            rw [e1] at e2
            cases e2
            exact e3
          obtain ⟨gS, rfl, hcx⟩ := hc
          have hcS : nes ≤ cS := by
            obtain ⟨_, _, e2, _, e4, _⟩ := row_cell HROW4.out (i := q * 9 + 0) (x := x.cells[0]'(by rw [EntS.len]; decide)) (by rw [flat_get EntS.cells 9 (fun _ => rfl) es q x hx 0 (by decide)]; rfl)
            cases e2; exact e4
          have HCX := Lib.hid hcx
          have kS := KS.out
          obtain ⟨xc, hxc⟩ : ∃ xc, x.cells = xc := ⟨_, rfl⟩
          have hxl : xc.length = 9 := by rw [← hxc]; rfl
          have hx1 : ∀ y ∈ xc, y.oneCell' = true := by
            rw [← hxc]
            exact HONE.out x (List.mem_of_getElem? hx)
          rw [hxc] at FIN HCX
          have XL := Lib.hid hxl; have X1 := Lib.hid hx1
          clear hres hx hcx hxc hxl hx1
          go_wp2_with (first
            | (go_at_call 79; refine ER.out.mono ?_; rintro e w5 ⟨rfl, rfl⟩)
            | (refine wp_load_sub rfl 130 (.tmp 44) rfl rfl (ys := xc) HCX.out Tryd.underlying130 rfl (n := 9) (by kernel_rfl) XL.out ?_)
            | (refine wp_store_blk rfl 130 (.tmp 4) (.tmp 45) rfl rfl rfl (cs' := xc) K0.out X1.out (by rw [XL.out]; rfl) (n := 9) (by kernel_rfl) XL.out ?_; intro w5 b5 on5))
          all_goals (refine ret_blk2 rfl rfl b5 Tryd.underlying130 rfl (n := 9) (by kernel_rfl) XL.out rfl ?_)
          exact FIN.out _ (on5.below L4.out (Nat.le_refl _))
        · have hn : res = none := by
            rw [← HRES.out ()]
            exact findL_none_of (.inr (.inl (by rw [HNUM.out ()]; exact hlt2)))
          have FIN := Lib.hid (HN.out hn)
          have kS := KS.out
          clear hn
          go_wp2_with (first
            | (go_at_call 79; refine ER.out.mono ?_; rintro e w5 ⟨rfl, rfl⟩)
            | (refine wp_load_blk rfl 130 (.tmp 6) rfl rfl K1.out Tryd.underlying130 rfl (n := 9) (by kernel_rfl) rfl ?_)
            | (refine wp_store_blk rfl 130 (.tmp 4) (.tmp 38) rfl rfl rfl (cs' := zero9) K0.out (by intro y hy; simp [zero9] at hy; rcases hy with rfl | rfl <;> rfl) rfl (n := 9) (by kernel_rfl) rfl ?_; intro w5 b5 on5))
          all_goals (refine ret_blk2 rfl rfl b5 Tryd.underlying130 rfl (n := 9) (by kernel_rfl) rfl rfl ?_)
          exact FIN.out _ (on5.below L4.out (Nat.le_refl _))
      · have hn : res = none := by
          rw [← HRES.out ()]
          refine findL_none_of (.inl ?_)
          cases hk : numOk hid with
          | false => rfl
          | true => exact absurd ((HERR.out ()).symm.trans (numErr_zero.2 hk)) he
        have FIN := Lib.hid (HN.out hn)
        clear hn
        go_wp2_with (first
          | (go_at_call 79; refine ER.out.mono ?_; rintro e w5 ⟨rfl, rfl⟩)
          | (refine wp_load_blk rfl 130 (.tmp 6) rfl rfl K1.out Tryd.underlying130 rfl (n := 9) (by kernel_rfl) rfl ?_)
          | (refine wp_store_blk rfl 130 (.tmp 4) (.tmp 38) rfl rfl rfl (cs' := zero9) K0.out (by intro y hy; simp [zero9] at hy; rcases hy with rfl | rfl <;> rfl) rfl (n := 9) (by kernel_rfl) rfl ?_; intro w5 b5 on5))
        all_goals (refine ret_blk2 rfl rfl b5 Tryd.underlying130 rfl (n := 9) (by kernel_rfl) rfl rfl ?_)
        exact FIN.out _ (on5.below L4.out (Nat.le_refl _))

set_option maxRecDepth 100000 in
set_option maxHeartbeats 4000000 in
theorem findM_all (w : World) (g : Nat) (cs : List Value) (vS : Value) (base : Nat) (es : List EntM) (v : Value) (hid : List Int) (hb : Blk w g cs 59) (h3 : cs[4]? = some vS) (hrow : w.ownsRow base 136 7 vS es.length (es.flatMap EntM.cells))
    (hr : Rd w v (bs hid)) (hB : IsB hid) (hl : hid.length ≤ 1000000) (hone : ∀ x ∈ es, ∀ y ∈ x.cells, y.oneCell' = true) (R : Ending → World → Prop)
    (hN : findL hid es.length = none → ∀ w', Below w.heap.size w w' → R (.returned (.tuple #[.agg zero7.toArray, .bool false])) w')
    (hS : ∀ k x, findL hid es.length = some k → es[k]? = some x → ∀ w', Below w.heap.size w w' → R (.returned (.tuple #[.agg x.cells.toArray, .bool true])) w') :
    Calls Tryd.prog 60 #[.pointer (some ⟨g, 4, none⟩), v] w R := by
  have HONE := Lib.hid hone
  clear hone
  have HN := Lib.hid hN
  have HS := Lib.hid hS
  clear hN hS
  obtain ⟨B, hBs⟩ : ∃ B, w.heap.size = B := ⟨_, rfl⟩
  have hg : g < B := by rw [← hBs]; exact hb.lt
  obtain ⟨res, hres⟩ : ∃ res, findL hid es.length = res := ⟨_, rfl⟩
  have HRES := Lib.hid (fun _ : Unit => hres)
  rw [hres] at HN HS
  clear hres
  obtain ⟨A, c, rfl, hc1, hc2, _⟩ := id hr
  rw [bs_len] at hr hc1 ⊢
  obtain ⟨hn1, hhn⟩ : ∃ n, hid.length = n := ⟨_, rfl⟩
  rw [hhn] at hr hl hc1 ⊢
  have HLN := Lib.hid (fun _ : Unit => hhn)
  clear hhn
  obtain ⟨AS, cS, rfl⟩ : ∃ AS cS, vS = .slice AS es.length cS := by
    rcases hrow.2 with ⟨h1, h2⟩ | ⟨g', cap, cur, h1, _⟩
    · exact ⟨none, 0, by rw [h1, h2]⟩
    · exact ⟨_, _, h1⟩
  have HROW := Lib.hid hrow
  have HIB := Lib.hid hB
  have ny := numOf_range hB
  have HNY := Lib.hid ny
  clear hrow hB ny
  obtain ⟨nes, hnes⟩ : ∃ n, es.length = n := ⟨_, rfl⟩
  rw [hnes] at h3 HRES HROW
  have HNES := Lib.hid (fun _ : Unit => hnes)
  clear hnes
  have hb1 : ∀ w', Below B w w' → w'.cell? ⟨g, 4, none⟩ = some (.slice AS nes cS) := fun w' h => (hb.keep h hg).at_ 4 h3
  have HB1 := Lib.hid hb1
  have HR0 := Lib.hid hr
  clear hb hb1 hr h3
  go_enter Tryd.func60, Tryd.ntmps60
  go_upto_region 2 with fail
  obtain ⟨W, hW⟩ : ∃ W, (w.alloc (.cells zero7.toArray 136)).alloc (.cells zero7.toArray 136) = W := ⟨_, rfl⟩
  change Code.wp _ _ _ _ ((w.alloc (.cells zero7.toArray 136)).alloc (.cells zero7.toArray 136))
  have b0 : Blk W B zero7 136 := by rw [← hW]; exact (Blk.mk_ _ hBs.symm rfl).al _
  have b1 : Blk W (B + 1) zero7 136 := by rw [← hW]; exact Blk.mk_ _ (by simp [hBs]) rfl
  have bb : Below B w W := by rw [← hW]; exact bw_al (bw_al (Below.refl _ _) (by omega) _) (by simp; omega) _
  have hz : W.heap.size = B + 2 := by rw [← hW]; simp [hBs]
  rw [hW]
  clear hW
  have RD := Lib.hid (rread_any W (.slice A hn1 c) hid (HR0.out.stay bb (by omega)) (by rw [HLN.out ()]; omega))
  have H0 := Lib.hid b0; have H1 := Lib.hid b1; have HBB := Lib.hid bb
  clear b0 b1 bb
  go_upto_region 3 with (go_at_call 76; refine RD.out.mono ?_; rintro e w2 ⟨p, v2, rfl, q1, q2, q3, q4, q5⟩)
  have NM := Lib.hid (rnum_any w2 p v2 hid q1 q2 HIB.out (fun b h => (q3 b h).1))
  have Q3 := Lib.hid q3; have Q5 := Lib.hid q5
  clear q1 q2 q3 q5
  obtain ⟨num, hnum⟩ : ∃ x, numOf hid = x := ⟨_, rfl⟩
  obtain ⟨err, herr⟩ : ∃ x, numErr hid = x := ⟨_, rfl⟩
  obtain ⟨zs, hzs⟩ : ∃ x, numRest hid = x := ⟨_, rfl⟩
  rw [hnum, herr, hzs] at NM
  rw [hnum] at HNY
  have HNUM := Lib.hid (fun _ : Unit => hnum); have HERR := Lib.hid (fun _ : Unit => herr); have HZS := Lib.hid (fun _ : Unit => hzs)
  have hzl : zs.length ≤ 1000000 := by
    rw [← hzs]; unfold numRest
    split
    · rw [List.length_drop, HLN.out ()]; omega
    · simp
  clear hnum herr hzs
  go_upto_region 4 with (go_at_call 78; refine NM.out.mono ?_; rintro e w3 ⟨v3, rfl, t1, t2, t3, t4, t5⟩)
  have hp3 : ∀ b, hold v3 b → b ≠ p := fun b h => (Q3.out b (t3 b h)).1
  have RS := Lib.hid (rrest_any w3 p v3 err zs t1 t2 hp3 (by omega) t4)
  have T5 := Lib.hid t5
  clear t1 t2 t3 t4 t5 hp3
  go_upto_region 5 with (go_at_call 85; refine RS.out.mono ?_; rintro e w4 ⟨vr, v4, rfl, u1, u2, u3⟩; obtain ⟨Ar, cr, rfl, hr1, hr2, hr0, hr3⟩ := id u1; rw [bs_len] at u1 hr1 ⊢)
  have hW4 : Below W.heap.size W w4 := Turns.below (Only.below Q5.out T5.out q4) u3 (by have := Q5.out.size; have := T5.out.size; omega) (fun j hj => by rw [hj]; exact q4)
  have hB4 : Below B w w4 := bw_then HBB.out hW4 (by omega)
  have k0 := H0.out.stay hW4
  have k1 := H1.out.stay hW4
  have ER := Lib.hid (rerr_any w4 p v4 err u2)
  have kS := HB1.out w4 hB4
  have hrow4 : w4.ownsRow base 136 7 (.slice AS nes cS) nes (es.flatMap EntM.cells) := ownsRow_keep HROW.out hB4 (by omega)
  obtain ⟨m, hm⟩ : ∃ m, zs.length = m := ⟨_, rfl⟩
  have hcell : ∃ b o, (m ≠ 0 → Ar = some ⟨b, o, none⟩) ∧ ∀ j, j < m → w4.cell? ⟨b, o + j, none⟩ = some (.int .u8 (zs.getD j 0)) := by
    rcases hr3 with h | ⟨b, o, h, h4⟩
    · have : m = 0 := by have := congrArg List.length h; rw [bs_len] at this; simpa [hm] using this
      exact ⟨0, 0, fun h => absurd this h, fun j hj => by omega⟩
    · refine ⟨b, o, fun _ => h, fun j hj => ?_⟩
      rw [h4 j (by rw [bs_len]; omega)]
      simp [bs, List.getD_eq_getElem?_getD, List.getElem?_eq_getElem (show j < zs.length by omega)]
  obtain ⟨rb, ro, hAr, hcell⟩ := hcell
  rw [hm] at hr1 hzl ⊢
  have HM := Lib.hid (fun _ : Unit => hm)
  have HC := Lib.hid hcell; have HAr := Lib.hid hAr
  have L4 := Lib.hid hB4; have K0 := Lib.hid k0; have K1 := Lib.hid k1; have KS := Lib.hid kS; have HROW4 := Lib.hid hrow4
  have hm64 : m ≤ 9223372036854775807 := by omega
  clear hm hcell hAr hB4 hW4 k0 k1 kS hrow4 u1 u2 u3 hr3 hr0 RS NM RD HR0
  go_loopw [18] (fun x wr => ∃ k : Nat, k ≤ m ∧ x = .int .i64 k ∧ wr = w4 ∧ (zs.take k).all (fun c => c == 0) = true) (fun x _ => m - (intOf x).toNat)
  case atStart => exact ⟨0, by omega, rfl, rfl, by simp⟩
  case round =>
    obtain ⟨k, hk, rfl, rfl, hall⟩ := hrel
    have HALL := Lib.hid hall
    clear hall
    rw [hBs] at HN HS
    by_cases hlt : k < m
    · obtain rfl := HAr.out (by omega)
      have hck := HC.out k hlt
      obtain ⟨z, hz⟩ : ∃ z, zs.getD k 0 = z := ⟨_, rfl⟩
      rw [hz] at hck
      have HZ := Lib.hid (fun _ : Unit => hz)
      clear hz
      by_cases h0 : z = 0
      · subst h0
        go_wp2_with fail
        exact ⟨⟨k + 1, by omega, by simp, trivial, all_zero_step zs k (by rw [HM.out ()]; exact hlt) HALL.out (HZ.out ())⟩, by simp [intOf]; omega⟩
      · have hn : res = none := by
          have h1 := not_all_zero zs k (by rw [HM.out ()]; exact hlt) (by rw [HZ.out ()]; exact h0)
          rw [← HRES.out ()]
          exact findL_none_of (.inr (.inr (by rw [HZS.out ()]; exact h1)))
        have FIN := Lib.hid (HN.out hn)
        clear hn
        go_wp2_with (first
          | (refine wp_load_blk rfl 136 (.tmp 6) rfl rfl K1.out Tryd.underlying136 rfl (n := 7) (by kernel_rfl) rfl ?_)
          | (refine wp_store_blk rfl 136 (.tmp 4) (.tmp 24) rfl rfl rfl (cs' := zero7) K0.out (by intro y hy; simp [zero7] at hy; rcases hy with rfl | rfl <;> rfl) rfl (n := 7) (by kernel_rfl) rfl ?_; intro w5 b5 on5))
        all_goals (refine ret_blk2 rfl rfl b5 Tryd.underlying136 rfl (n := 7) (by kernel_rfl) rfl rfl ?_)
        exact FIN.out _ (on5.below L4.out (Nat.le_refl _))
    · obtain rfl : k = m := by omega
      have hfull : zs.all (fun c => c == 0) = true := by have := HALL.out; rwa [List.take_of_length_le (by rw [HM.out ()]; exact Nat.le_refl _)] at this
      have HF := Lib.hid hfull
      clear hfull
      by_cases he : err = 0
      · subst he
        have hok := numErr_zero.1 (HERR.out ())
        have HOK := Lib.hid hok
        have hn0 := HNY.out
        clear hok
        by_cases hlt2 : num < nes
        · obtain ⟨q, rfl⟩ := Int.eq_ofNat_of_zero_le hn0.1
          have hq : q < nes := by omega
          have hres : res = some q := by
            rw [← HRES.out ()]
            have := findL_some_of (h := hid) (n := nes) HOK.out (by rw [HNUM.out ()]; omega) (by rw [HZS.out ()]; exact HF.out)
            rw [this, HNUM.out ()]; rfl
          obtain ⟨x, hx⟩ : ∃ x, es[q]? = some x := ⟨es[q]'(by rw [HNES.out ()]; exact hq), List.getElem?_eq_getElem _⟩
          have FIN := Lib.hid (HS.out q x hres hx)
          have hc : ∃ gS, AS = some ⟨gS, 0, none⟩ ∧ ∀ j u, x.cells[j]? = some u → wr.cell? ⟨gS, q * 7 + j, none⟩ = some u := by
            have h0 := flat_get EntM.cells 7 (fun _ => rfl) es q x hx
            obtain ⟨gS, cap, e1, _⟩ := row_cell HROW4.out (i := q * 7 + 0) (x := x.cells[0]'(by rw [EntM.len]; decide)) (by rw [h0 0 (by decide)]; rfl)
            injection e1 with e1
            refine ⟨gS, e1, fun j u hj => ?_⟩
            have hjl : j < 7 := (List.getElem?_eq_some_iff.1 hj).1
            obtain ⟨gS', cap', e2, e3, _⟩ := row_cell HROW4.out (i := q * 7 + j) (x := u) (by rw [h0 j hjl]; exact hj)
            injection e2 with e2
            rw [e1] at e2
            cases e2
            exact e3
          obtain ⟨gS, rfl, hcx⟩ := hc
          have hcS : nes ≤ cS := by
            obtain ⟨_, _, e2, _, e4, _⟩ := row_cell HROW4.out (i := q * 7 + 0) (x := x.cells[0]'(by rw [EntM.len]; decide)) (by rw [flat_get EntM.cells 7 (fun _ => rfl) es q x hx 0 (by decide)]; rfl)
            cases e2; exact e4
          have HCX := Lib.hid hcx
          have kS := KS.out
          obtain ⟨xc, hxc⟩ : ∃ xc, x.cells = xc := ⟨_, rfl⟩
          have hxl : xc.length = 7 := by rw [← hxc]; rfl
          have hx1 : ∀ y ∈ xc, y.oneCell' = true := by
            rw [← hxc]
            exact HONE.out x (List.mem_of_getElem? hx)
          rw [hxc] at FIN HCX
          have XL := Lib.hid hxl; have X1 := Lib.hid hx1
          clear hres hx hcx hxc hxl hx1
          go_wp2_with (first
            | (go_at_call 79; refine ER.out.mono ?_; rintro e w5 ⟨rfl, rfl⟩)
            | (refine wp_load_sub rfl 136 (.tmp 44) rfl rfl (ys := xc) HCX.out Tryd.underlying136 rfl (n := 7) (by kernel_rfl) XL.out ?_)
            | (refine wp_store_blk rfl 136 (.tmp 4) (.tmp 45) rfl rfl rfl (cs' := xc) K0.out X1.out (by rw [XL.out]; rfl) (n := 7) (by kernel_rfl) XL.out ?_; intro w5 b5 on5))
          all_goals (refine ret_blk2 rfl rfl b5 Tryd.underlying136 rfl (n := 7) (by kernel_rfl) XL.out rfl ?_)
          exact FIN.out _ (on5.below L4.out (Nat.le_refl _))
        · have hn : res = none := by
            rw [← HRES.out ()]
            exact findL_none_of (.inr (.inl (by rw [HNUM.out ()]; exact hlt2)))
          have FIN := Lib.hid (HN.out hn)
          have kS := KS.out
          clear hn
          go_wp2_with (first
            | (go_at_call 79; refine ER.out.mono ?_; rintro e w5 ⟨rfl, rfl⟩)
            | (refine wp_load_blk rfl 136 (.tmp 6) rfl rfl K1.out Tryd.underlying136 rfl (n := 7) (by kernel_rfl) rfl ?_)
            | (refine wp_store_blk rfl 136 (.tmp 4) (.tmp 38) rfl rfl rfl (cs' := zero7) K0.out (by intro y hy; simp [zero7] at hy; rcases hy with rfl | rfl <;> rfl) rfl (n := 7) (by kernel_rfl) rfl ?_; intro w5 b5 on5))
          all_goals (refine ret_blk2 rfl rfl b5 Tryd.underlying136 rfl (n := 7) (by kernel_rfl) rfl rfl ?_)
          exact FIN.out _ (on5.below L4.out (Nat.le_refl _))
      · have hn : res = none := by
          rw [← HRES.out ()]
          refine findL_none_of (.inl ?_)
          cases hk : numOk hid with
          | false => rfl
          | true => exact absurd ((HERR.out ()).symm.trans (numErr_zero.2 hk)) he
        have FIN := Lib.hid (HN.out hn)
        clear hn
        go_wp2_with (first
          | (go_at_call 79; refine ER.out.mono ?_; rintro e w5 ⟨rfl, rfl⟩)
          | (refine wp_load_blk rfl 136 (.tmp 6) rfl rfl K1.out Tryd.underlying136 rfl (n := 7) (by kernel_rfl) rfl ?_)
          | (refine wp_store_blk rfl 136 (.tmp 4) (.tmp 38) rfl rfl rfl (cs' := zero7) K0.out (by intro y hy; simp [zero7] at hy; rcases hy with rfl | rfl <;> rfl) rfl (n := 7) (by kernel_rfl) rfl ?_; intro w5 b5 on5))
        all_goals (refine ret_blk2 rfl rfl b5 Tryd.underlying136 rfl (n := 7) (by kernel_rfl) rfl rfl ?_)
        exact FIN.out _ (on5.below L4.out (Nat.le_refl _))
end Go.Proofs.YtdgpchacfdlleaaDoor
end

section
/-
  box: an entry put into a ledger.
-/
namespace Go.Proofs.YtdgpchacfdlleaaDoor
open Go.RowKit

set_option maxRecDepth 100000 in
set_option maxHeartbeats 4000000 in
theorem putS_any (w : World) (g : Nat) (cs : List Value) (vS : Value) (base : Nat) (es : List EntS) (x : EntS) (size : Nat) (hb : Blk w g cs 59) (h3 : cs[3]? = some vS) (hrow : w.ownsRow base 130 9 vS es.length (es.flatMap EntS.cells))
    (hn : es.length ≤ 100000) (hbase : base ≤ w.heap.size) (hg : ∀ b, hold vS b → b ≠ g) (h8 : 8 ≤ size) (hsz : size ≤ 1000000) (hone : ∀ y ∈ x.cells, y.oneCell' = true) :
    Calls Tryd.prog 54 #[.pointer (some ⟨g, 3, none⟩), .agg x.cells.toArray, .int .i64 size] w fun e w' => ∃ v vS', e = .returned v ∧ w'.ownsRow w.heap.size 5 1 v size (bs (putL es.length size)) ∧
      Blk w' g (cs.set 3 vS') 59 ∧ w'.ownsRow base 130 9 vS' (es.length + 1) (es.flatMap EntS.cells ++ x.cells) ∧ (∀ b, hold vS' b → hold vS b ∨ w.heap.size ≤ b) ∧ (∀ b, hold v b → ¬ hold vS' b ∧ b ≠ g) ∧ Turns (fun k => k = g ∨ hold vS k) w w' := by
  obtain ⟨B, hBs⟩ : ∃ B, w.heap.size = B := ⟨_, rfl⟩
  have hgB : g < B := by rw [← hBs]; exact hb.lt
  have hcsl : 3 < cs.length := (List.getElem?_eq_some_iff.1 h3).1
  obtain ⟨xc, hxc⟩ : ∃ xc, x.cells = xc := ⟨_, rfl⟩
  have hxl : xc.length = 9 := by rw [← hxc]; rfl
  rw [hxc] at hone ⊢
  have X1 := Lib.hid hone
  clear hone hxc
  obtain ⟨u0, u1, u2, u3, u4, u5, u6, u7, u8, rfl⟩ : ∃ u0 u1 u2 u3 u4 u5 u6 u7 u8, xc = [u0, u1, u2, u3, u4, u5, u6, u7, u8] := by
    match xc, hxl with
    | [u0, u1, u2, u3, u4, u5, u6, u7, u8], _ => exact ⟨u0, u1, u2, u3, u4, u5, u6, u7, u8, rfl⟩
  clear hxl
  obtain ⟨xs, hxs⟩ : ∃ xs, es.flatMap EntS.cells = xs := ⟨_, rfl⟩
  rw [hxs] at hrow ⊢
  clear hxs
  obtain ⟨n, hnn⟩ : ∃ n, es.length = n := ⟨_, rfl⟩
  rw [hnn] at hn hrow ⊢
  clear hnn
  obtain ⟨AS, cS, rfl⟩ : ∃ AS cS, vS = .slice AS n cS := by
    rcases hrow.2 with ⟨h1, h2⟩ | ⟨g', cap, cur, h1, _⟩
    · exact ⟨none, 0, by rw [h1, h2]⟩
    · exact ⟨_, _, h1⟩
  have PN := Lib.hid (fun w' => putNum_any n w' (by omega))
  have HB := Lib.hid hb; have HROW := Lib.hid hrow; have HG := Lib.hid hg; have H3 := Lib.hid h3
  have hlt : ∀ b, hold (.slice AS n cS) b → base ≤ b ∧ b < B := fun b hh => by have := row_new hrow hh; omega
  have HLT := Lib.hid hlt
  clear hrow hg hlt
  rw [hBs] at hbase
  go_enter Tryd.func54, Tryd.ntmps54
  go_upto_region 1 with fail
  obtain ⟨W, hW⟩ : ∃ W, w.alloc (.cells #[u0, u1, u2, u3, u4, u5, u6, u7, u8] 130) = W := ⟨_, rfl⟩
  change Code.wp _ _ _ _ (w.alloc (.cells #[u0, u1, u2, u3, u4, u5, u6, u7, u8] 130))
  have b0 : Blk W B [u0, u1, u2, u3, u4, u5, u6, u7, u8] 130 := by rw [← hW]; exact Blk.mk_ _ hBs.symm rfl
  have bb : Below B w W := by rw [← hW]; exact bw_al (Below.refl _ _) (by omega) _
  have hz : W.heap.size = B + 1 := by rw [← hW]; simp [hBs]
  rw [hW]
  clear hW
  have y3 : W.cell? ⟨g, 3, none⟩ = some (.slice AS n cS) := (hb.keep bb hgB).at_ 3 h3
  clear hb
  go_upto_region 2 with (go_at_call 65; refine (PN.out _).mono ?_; rintro e w2 ⟨v2, rfl, hb2, ho2⟩)
  have bb2 : Below B w w2 := bw_then bb hb2 (by omega)
  have hz2 := hb2.size
  have b2 := HB.out.keep bb2 hgB
  have yy3 := b2.at_ 3 h3
  have ff3 := b2.free 3
  have k0 := b0.stay hb2
  have HO2 := Lib.hid ho2; have HBB2 := Lib.hid bb2; have HB2 := Lib.hid b2; have K0 := Lib.hid k0
  obtain ⟨V2, c2, hv2, _⟩ := id (Rd.of_own ho2)
  rw [bs_len, num8_len] at hv2
  subst hv2
  clear ho2 bb2 b2 k0 b0 hb2 y3 h3 bb
  have CW2 := Lib.hid (show ∀ w', Below w2.heap.size w2 w' → Blk w' B [u0, u1, u2, u3, u4, u5, u6, u7, u8] 130 ∧ w'.cell? ⟨g, 3, none⟩ = some (.slice AS n cS) from fun w' h => ⟨K0.out.stay h, (HB2.out.stay h).at_ 3 H3.out⟩)
  refine region_plan ⟨[0, 0, 2, 6, 14, 0, 32, 126, 255, 511, 1023], [6, 7, 10], [0, 0, 0, 0, 0, 0, 0, 1, 2, 2, 2]⟩
    [⟨[0, 1, 2, 3, 4, 5], [2, 3, 4, 5], some 6⟩, ⟨[], [2, 3, 4], some 7⟩, ⟨[8, 9], [8, 9], some 10⟩, ⟨[], [], none⟩] 30 (by kernel_rfl) (by kernel_rfl) (by kernel_rfl) (by kernel_rfl) rfl ?_
  simp only [SeqGo, opsAt_cons, opsAt_nil, List.getElem?_cons, Option.toList_some, List.singleton_append, ↓reduceIte, Nat.reduceEqDiff, Nat.reduceSub]
  have kd := (CW2.out _ (bw_d1 (Below.refl _ _))).1
  go_wp2_with (refine wp_load_blk rfl 130 (.tmp 4) rfl rfl kd Tryd.underlying130 rfl (n := 9) (by kernel_rfl) rfl ?_)
  have lk := fun w' (h : Below w2.heap.size w2 w') => load_fact (P := Tryd.prog) (CW2.out w' h).1 130 0 (ys := [u0, u1, u2, u3, u4, u5, u6, u7, u8]) rfl Tryd.underlying130 rfl (n := 9) (by kernel_rfl) rfl w' (Below.refl _ _)
  have LK := Lib.hid lk
  clear lk
  have lkd := LK.out _ (bw_d1 (Below.refl _ _))
  refine ⟨by (simp only [Sames]; refine ⟨?_, ?_, ?_, ?_, trivial⟩ <;> first | exact same_load (by rfl) 130 (.tmp 4) rfl rfl lkd rfl | (simp only [Same]; go_simp)), ?_⟩
  clear lkd kd
  go_wp2_with fail
  obtain ⟨W3, hW3⟩ : ∃ W3, w2.drew.alloc (.cells #[u0, u1, u2, u3, u4, u5, u6, u7, u8] 130) = W3 := ⟨_, rfl⟩
  have hb3 : Below w2.heap.size w2 W3 := by rw [← hW3]; exact bw_al (bw_d1 (Below.refl _ _)) (Nat.le_refl _) _
  have hk3 : Blk W3 w2.heap.size [u0, u1, u2, u3, u4, u5, u6, u7, u8] 130 := by rw [← hW3]; exact Blk.mk_ _ rfl rfl
  have hz3 : W3.heap.size = w2.heap.size + 1 := by rw [← hW3]; simp
  first
    | rw [hW3]
    | (rw [show (w2.alloc (.cells #[u0, u1, u2, u3, u4, u5, u6, u7, u8] 130)).drew = W3 from hW3])
  have yy := (CW2.out W3 hb3).2
  have hrow3 : W3.ownsRow base 130 9 (.slice AS n cS) n xs := ownsRow_keep HROW.out (bw_then HBB2.out hb3 (by omega)) (by omega)
  have HR3 := Lib.hid hrow3; have HK3 := Lib.hid hk3; have HW3b := Lib.hid hb3
  clear hrow3 hk3 hb3 hW3
  refine ⟨by (simp only [Sames, Same]; go_simp), ?_⟩
  have pn : n ≤ 1000000 := by omega
  have pb : base ≤ W3.heap.size := by omega
  go_wp2_with (at_builtin; go_loud (refine wp_app_row 51 130 9 104 (.agg zero9.toArray) (.tmp 18) (.tmp 20) rfl rfl Tryd.underlying51 (by kernel_rfl) rfl (by decide) (by decide) base rfl HR3.out rfl HK3.out rfl X1.out pn pb ?_; intro v4 w4 hown4 ht4 hh4); obtain ⟨A4, c4, rfl⟩ := row_slice hown4)
  refine ⟨by (simp only [Sames, Same]; go_simp), ?_⟩
  have hgn : ¬ hold (.slice AS n cS) g := fun h => HG.out g h rfl
  have b4 : Blk w4 g cs 59 := (HB2.out.stay HW3b.out).turns ht4 hgn
  have yy4 := b4.at_ 3 H3.out
  have ff4 := b4.free 3
  have hz4 := ht4.size
  have hg4 : ∀ b, hold (.slice A4 (n + 1) c4) b → b ≠ g := fun b h e => by
    rcases hh4 b h with h1 | h1
    · exact HG.out b h1 e
    · omega
  have HW4 := Lib.hid hown4; have HT4 := Lib.hid ht4; have HH4 := Lib.hid hh4; have HB4 := Lib.hid b4; have HG4 := Lib.hid hg4; have HGN := Lib.hid hgn
  clear hown4 ht4 hh4 b4 hg4 hgn yy pn pb
  go_wp2_with fail
  refine ⟨trivial, ?_⟩
  obtain ⟨w5, hw5⟩ : ∃ w5, w4.setCell ⟨g, 3, none⟩ (.slice A4 (n + 1) c4) = w5 := ⟨_, rfl⟩
  have b5 : Blk w5 g (cs.set 3 (.slice A4 (n + 1) c4)) 59 := by rw [← hw5]; exact HB4.out.set _ _
  have o5 : Only g w4 w5 := by rw [← hw5]; exact Only.set _ _ _ _
  rw [hw5]
  have t5 : Turns (fun k => k = g ∨ hold (.slice AS n cS) k) w2 w5 := (Turns.of_below HW3b.out).trans ((HT4.out.mono fun k h => .inr h).trans (Turns.of_only o5 (.inl rfl)))
  have row5 : w5.ownsRow base 130 9 (.slice A4 (n + 1) c4) (n + 1) (xs ++ [u0, u1, u2, u3, u4, u5, u6, u7, u8]) := row_turns HW4.out (Turns.of_only (S := fun k => k = g) o5 rfl) HG4.out
  have own5 : w5.ownsRow W.heap.size 5 1 (.slice V2 8 c2) 8 (bs (num8 n)) := by
    have := HO2.out
    rw [num8_len] at this
    refine row_turns this t5 fun b hb => ?_
    have h1 := row_new this hb
    rintro (h2 | h2)
    · omega
    · have := HLT.out b h2; omega
  have hz5 := t5.size
  have B5 := Lib.hid b5; have O5 := Lib.hid o5; have T5 := Lib.hid t5; have R5 := Lib.hid row5; have W5 := Lib.hid own5
  obtain ⟨m, hm⟩ : ∃ m, size = 8 + m := ⟨size - 8, by omega⟩
  have hmI : (size : Int) - 8 = (m : Int) := by omega
  clear b5 o5 t5 row5 own5 hw5 yy4 ff4
  go_wp2_with (at_builtin; go_loud (refine wp_app_zeros (.tmp 24) (.tmp 28) 24 3 rfl rfl 5 (.int .u8 0) 1 Tryd.underlying24 Tryd.underlying3 info5 rfl rfl W.heap.size rfl W5.out (kx := .i64) (m := m) (by first | rfl | (show Value.int .i64 _ = _; congr 1; omega)) (by decide) (by omega) (by omega) ?_; intro v6 w6 hown6 hgr6 hb6))
  go_ret
  have hs6 : 8 + m = size := by omega
  have e6 : bs (num8 (n : Int)) ++ List.replicate m (Value.int .u8 0) = bs (putL n size) := by
    unfold putL; rw [bs_append, show size - 8 = m by omega]; simp [bs]
  rw [hs6, e6] at hown6
  have t6 : Turns (hold (.slice V2 8 c2)) w5 w6 := ⟨hgr6.os, hgr6.tape, hgr6.output, hgr6.size, fun k hk hn => hgr6.block k hk fun e => hn (hold_own e ⟨_, _, _, rfl⟩ (by
    intro a n' c' hv
    have h1 := W5.out.2
    rcases h1 with ⟨h1, _⟩ | ⟨g', cap, cur, h1, _⟩
    · rw [h1] at hv; cases hv
    · rw [h1] at hv; cases hv; rfl))⟩
  have hv2 : ∀ b, hold (.slice V2 8 c2) b → B < b ∧ b < w2.heap.size := fun b hb => by have := row_new HO2.out hb; omega
  have gg : ¬ hold (.slice V2 8 c2) g := fun h => by have := hv2 g h; omega
  have row6 : w6.ownsRow base 130 9 (.slice A4 (n + 1) c4) (n + 1) (xs ++ [u0, u1, u2, u3, u4, u5, u6, u7, u8]) := row_turns R5.out t6 fun b hb h2 => by
    have h3 := hv2 b h2
    rcases HH4.out b hb with h4 | h4
    · have := HLT.out b h4; omega
    · omega
  refine ⟨v6, _, rfl, ownsRow_mono hown6 (by omega), B5.out.turns t6 gg, row6, fun b hb => ?_, fun b hb => ⟨fun h => ?_, fun h => ?_⟩, ?_⟩
  · rcases HH4.out b hb with h4 | h4
    · exact .inl h4
    · right; omega
  · obtain ⟨c1, q1⟩ := row_blk hown6 hb
    obtain ⟨c2, q2⟩ := row_blk row6 h
    rw [q1] at q2
    injection q2 with q2
    injection q2 with _ q2 _
    revert q2; decide
  · have := row_new hown6 hb; omega
  · have t0 : Turns (fun k => k = g ∨ hold (.slice AS n cS) k) w w2 := Turns.of_below (by rw [hBs]; exact HBB2.out)
    exact (t0.trans T5.out).new t6 fun j h1 h2 => absurd (hv2 j h1).1 (by omega)

set_option maxRecDepth 100000 in
set_option maxHeartbeats 4000000 in
theorem putM_any (w : World) (g : Nat) (cs : List Value) (vS : Value) (base : Nat) (es : List EntM) (x : EntM) (size : Nat) (hb : Blk w g cs 59) (h3 : cs[4]? = some vS) (hrow : w.ownsRow base 136 7 vS es.length (es.flatMap EntM.cells))
    (hn : es.length ≤ 100000) (hbase : base ≤ w.heap.size) (hg : ∀ b, hold vS b → b ≠ g) (h8 : 8 ≤ size) (hsz : size ≤ 1000000) (hone : ∀ y ∈ x.cells, y.oneCell' = true) :
    Calls Tryd.prog 57 #[.pointer (some ⟨g, 4, none⟩), .agg x.cells.toArray, .int .i64 size] w fun e w' => ∃ v vS', e = .returned v ∧ w'.ownsRow w.heap.size 5 1 v size (bs (putL es.length size)) ∧
      Blk w' g (cs.set 4 vS') 59 ∧ w'.ownsRow base 136 7 vS' (es.length + 1) (es.flatMap EntM.cells ++ x.cells) ∧ (∀ b, hold vS' b → hold vS b ∨ w.heap.size ≤ b) ∧ (∀ b, hold v b → ¬ hold vS' b ∧ b ≠ g) ∧ Turns (fun k => k = g ∨ hold vS k) w w' := by
  obtain ⟨B, hBs⟩ : ∃ B, w.heap.size = B := ⟨_, rfl⟩
  have hgB : g < B := by rw [← hBs]; exact hb.lt
  have hcsl : 4 < cs.length := (List.getElem?_eq_some_iff.1 h3).1
  obtain ⟨xc, hxc⟩ : ∃ xc, x.cells = xc := ⟨_, rfl⟩
  have hxl : xc.length = 7 := by rw [← hxc]; rfl
  rw [hxc] at hone ⊢
  have X1 := Lib.hid hone
  clear hone hxc
  obtain ⟨u0, u1, u2, u3, u4, u5, u6, rfl⟩ : ∃ u0 u1 u2 u3 u4 u5 u6, xc = [u0, u1, u2, u3, u4, u5, u6] := by
    match xc, hxl with
    | [u0, u1, u2, u3, u4, u5, u6], _ => exact ⟨u0, u1, u2, u3, u4, u5, u6, rfl⟩
  clear hxl
  obtain ⟨xs, hxs⟩ : ∃ xs, es.flatMap EntM.cells = xs := ⟨_, rfl⟩
  rw [hxs] at hrow ⊢
  clear hxs
  obtain ⟨n, hnn⟩ : ∃ n, es.length = n := ⟨_, rfl⟩
  rw [hnn] at hn hrow ⊢
  clear hnn
  obtain ⟨AS, cS, rfl⟩ : ∃ AS cS, vS = .slice AS n cS := by
    rcases hrow.2 with ⟨h1, h2⟩ | ⟨g', cap, cur, h1, _⟩
    · exact ⟨none, 0, by rw [h1, h2]⟩
    · exact ⟨_, _, h1⟩
  have PN := Lib.hid (fun w' => putNum_any n w' (by omega))
  have HB := Lib.hid hb; have HROW := Lib.hid hrow; have HG := Lib.hid hg; have H3 := Lib.hid h3
  have hlt : ∀ b, hold (.slice AS n cS) b → base ≤ b ∧ b < B := fun b hh => by have := row_new hrow hh; omega
  have HLT := Lib.hid hlt
  clear hrow hg hlt
  rw [hBs] at hbase
  go_enter Tryd.func57, Tryd.ntmps57
  go_upto_region 1 with fail
  obtain ⟨W, hW⟩ : ∃ W, w.alloc (.cells #[u0, u1, u2, u3, u4, u5, u6] 136) = W := ⟨_, rfl⟩
  change Code.wp _ _ _ _ (w.alloc (.cells #[u0, u1, u2, u3, u4, u5, u6] 136))
  have b0 : Blk W B [u0, u1, u2, u3, u4, u5, u6] 136 := by rw [← hW]; exact Blk.mk_ _ hBs.symm rfl
  have bb : Below B w W := by rw [← hW]; exact bw_al (Below.refl _ _) (by omega) _
  have hz : W.heap.size = B + 1 := by rw [← hW]; simp [hBs]
  rw [hW]
  clear hW
  have y3 : W.cell? ⟨g, 4, none⟩ = some (.slice AS n cS) := (hb.keep bb hgB).at_ 4 h3
  clear hb
  go_upto_region 2 with (go_at_call 65; refine (PN.out _).mono ?_; rintro e w2 ⟨v2, rfl, hb2, ho2⟩)
  have bb2 : Below B w w2 := bw_then bb hb2 (by omega)
  have hz2 := hb2.size
  have b2 := HB.out.keep bb2 hgB
  have yy3 := b2.at_ 4 h3
  have ff3 := b2.free 4
  have k0 := b0.stay hb2
  have HO2 := Lib.hid ho2; have HBB2 := Lib.hid bb2; have HB2 := Lib.hid b2; have K0 := Lib.hid k0
  obtain ⟨V2, c2, hv2, _⟩ := id (Rd.of_own ho2)
  rw [bs_len, num8_len] at hv2
  subst hv2
  clear ho2 bb2 b2 k0 b0 hb2 y3 h3 bb
  have CW2 := Lib.hid (show ∀ w', Below w2.heap.size w2 w' → Blk w' B [u0, u1, u2, u3, u4, u5, u6] 136 ∧ w'.cell? ⟨g, 4, none⟩ = some (.slice AS n cS) from fun w' h => ⟨K0.out.stay h, (HB2.out.stay h).at_ 4 H3.out⟩)
  refine region_plan ⟨[0, 0, 2, 6, 14, 0, 32, 126, 255, 511, 1023], [6, 7, 10], [0, 0, 0, 0, 0, 0, 0, 1, 2, 2, 2]⟩
    [⟨[0, 1, 2, 3, 4, 5], [2, 3, 4, 5], some 6⟩, ⟨[], [2, 3, 4], some 7⟩, ⟨[8, 9], [8, 9], some 10⟩, ⟨[], [], none⟩] 30 (by kernel_rfl) (by kernel_rfl) (by kernel_rfl) (by kernel_rfl) rfl ?_
  simp only [SeqGo, opsAt_cons, opsAt_nil, List.getElem?_cons, Option.toList_some, List.singleton_append, ↓reduceIte, Nat.reduceEqDiff, Nat.reduceSub]
  have kd := (CW2.out _ (bw_d1 (Below.refl _ _))).1
  go_wp2_with (refine wp_load_blk rfl 136 (.tmp 4) rfl rfl kd Tryd.underlying136 rfl (n := 7) (by kernel_rfl) rfl ?_)
  have lk := fun w' (h : Below w2.heap.size w2 w') => load_fact (P := Tryd.prog) (CW2.out w' h).1 136 0 (ys := [u0, u1, u2, u3, u4, u5, u6]) rfl Tryd.underlying136 rfl (n := 7) (by kernel_rfl) rfl w' (Below.refl _ _)
  have LK := Lib.hid lk
  clear lk
  have lkd := LK.out _ (bw_d1 (Below.refl _ _))
  refine ⟨by (simp only [Sames]; refine ⟨?_, ?_, ?_, ?_, trivial⟩ <;> first | exact same_load (by rfl) 136 (.tmp 4) rfl rfl lkd rfl | (simp only [Same]; go_simp)), ?_⟩
  clear lkd kd
  go_wp2_with fail
  obtain ⟨W3, hW3⟩ : ∃ W3, w2.drew.alloc (.cells #[u0, u1, u2, u3, u4, u5, u6] 136) = W3 := ⟨_, rfl⟩
  have hb3 : Below w2.heap.size w2 W3 := by rw [← hW3]; exact bw_al (bw_d1 (Below.refl _ _)) (Nat.le_refl _) _
  have hk3 : Blk W3 w2.heap.size [u0, u1, u2, u3, u4, u5, u6] 136 := by rw [← hW3]; exact Blk.mk_ _ rfl rfl
  have hz3 : W3.heap.size = w2.heap.size + 1 := by rw [← hW3]; simp
  first
    | rw [hW3]
    | (rw [show (w2.alloc (.cells #[u0, u1, u2, u3, u4, u5, u6] 136)).drew = W3 from hW3])
  have yy := (CW2.out W3 hb3).2
  have hrow3 : W3.ownsRow base 136 7 (.slice AS n cS) n xs := ownsRow_keep HROW.out (bw_then HBB2.out hb3 (by omega)) (by omega)
  have HR3 := Lib.hid hrow3; have HK3 := Lib.hid hk3; have HW3b := Lib.hid hb3
  clear hrow3 hk3 hb3 hW3
  refine ⟨by (simp only [Sames, Same]; go_simp), ?_⟩
  have pn : n ≤ 1000000 := by omega
  have pb : base ≤ W3.heap.size := by omega
  go_wp2_with (at_builtin; go_loud (refine wp_app_row 54 136 7 72 (.agg zero7.toArray) (.tmp 18) (.tmp 20) rfl rfl Tryd.underlying54 (by kernel_rfl) rfl (by decide) (by decide) base rfl HR3.out rfl HK3.out rfl X1.out pn pb ?_; intro v4 w4 hown4 ht4 hh4); obtain ⟨A4, c4, rfl⟩ := row_slice hown4)
  refine ⟨by (simp only [Sames, Same]; go_simp), ?_⟩
  have hgn : ¬ hold (.slice AS n cS) g := fun h => HG.out g h rfl
  have b4 : Blk w4 g cs 59 := (HB2.out.stay HW3b.out).turns ht4 hgn
  have yy4 := b4.at_ 4 H3.out
  have ff4 := b4.free 4
  have hz4 := ht4.size
  have hg4 : ∀ b, hold (.slice A4 (n + 1) c4) b → b ≠ g := fun b h e => by
    rcases hh4 b h with h1 | h1
    · exact HG.out b h1 e
    · omega
  have HW4 := Lib.hid hown4; have HT4 := Lib.hid ht4; have HH4 := Lib.hid hh4; have HB4 := Lib.hid b4; have HG4 := Lib.hid hg4; have HGN := Lib.hid hgn
  clear hown4 ht4 hh4 b4 hg4 hgn yy pn pb
  go_wp2_with fail
  refine ⟨trivial, ?_⟩
  obtain ⟨w5, hw5⟩ : ∃ w5, w4.setCell ⟨g, 4, none⟩ (.slice A4 (n + 1) c4) = w5 := ⟨_, rfl⟩
  have b5 : Blk w5 g (cs.set 4 (.slice A4 (n + 1) c4)) 59 := by rw [← hw5]; exact HB4.out.set _ _
  have o5 : Only g w4 w5 := by rw [← hw5]; exact Only.set _ _ _ _
  rw [hw5]
  have t5 : Turns (fun k => k = g ∨ hold (.slice AS n cS) k) w2 w5 := (Turns.of_below HW3b.out).trans ((HT4.out.mono fun k h => .inr h).trans (Turns.of_only o5 (.inl rfl)))
  have row5 : w5.ownsRow base 136 7 (.slice A4 (n + 1) c4) (n + 1) (xs ++ [u0, u1, u2, u3, u4, u5, u6]) := row_turns HW4.out (Turns.of_only (S := fun k => k = g) o5 rfl) HG4.out
  have own5 : w5.ownsRow W.heap.size 5 1 (.slice V2 8 c2) 8 (bs (num8 n)) := by
    have := HO2.out
    rw [num8_len] at this
    refine row_turns this t5 fun b hb => ?_
    have h1 := row_new this hb
    rintro (h2 | h2)
    · omega
    · have := HLT.out b h2; omega
  have hz5 := t5.size
  have B5 := Lib.hid b5; have O5 := Lib.hid o5; have T5 := Lib.hid t5; have R5 := Lib.hid row5; have W5 := Lib.hid own5
  obtain ⟨m, hm⟩ : ∃ m, size = 8 + m := ⟨size - 8, by omega⟩
  have hmI : (size : Int) - 8 = (m : Int) := by omega
  clear b5 o5 t5 row5 own5 hw5 yy4 ff4
  go_wp2_with (at_builtin; go_loud (refine wp_app_zeros (.tmp 24) (.tmp 28) 24 3 rfl rfl 5 (.int .u8 0) 1 Tryd.underlying24 Tryd.underlying3 info5 rfl rfl W.heap.size rfl W5.out (kx := .i64) (m := m) (by first | rfl | (show Value.int .i64 _ = _; congr 1; omega)) (by decide) (by omega) (by omega) ?_; intro v6 w6 hown6 hgr6 hb6))
  go_ret
  have hs6 : 8 + m = size := by omega
  have e6 : bs (num8 (n : Int)) ++ List.replicate m (Value.int .u8 0) = bs (putL n size) := by
    unfold putL; rw [bs_append, show size - 8 = m by omega]; simp [bs]
  rw [hs6, e6] at hown6
  have t6 : Turns (hold (.slice V2 8 c2)) w5 w6 := ⟨hgr6.os, hgr6.tape, hgr6.output, hgr6.size, fun k hk hn => hgr6.block k hk fun e => hn (hold_own e ⟨_, _, _, rfl⟩ (by
    intro a n' c' hv
    have h1 := W5.out.2
    rcases h1 with ⟨h1, _⟩ | ⟨g', cap, cur, h1, _⟩
    · rw [h1] at hv; cases hv
    · rw [h1] at hv; cases hv; rfl))⟩
  have hv2 : ∀ b, hold (.slice V2 8 c2) b → B < b ∧ b < w2.heap.size := fun b hb => by have := row_new HO2.out hb; omega
  have gg : ¬ hold (.slice V2 8 c2) g := fun h => by have := hv2 g h; omega
  have row6 : w6.ownsRow base 136 7 (.slice A4 (n + 1) c4) (n + 1) (xs ++ [u0, u1, u2, u3, u4, u5, u6]) := row_turns R5.out t6 fun b hb h2 => by
    have h3 := hv2 b h2
    rcases HH4.out b hb with h4 | h4
    · have := HLT.out b h4; omega
    · omega
  refine ⟨v6, _, rfl, ownsRow_mono hown6 (by omega), B5.out.turns t6 gg, row6, fun b hb => ?_, fun b hb => ⟨fun h => ?_, fun h => ?_⟩, ?_⟩
  · rcases HH4.out b hb with h4 | h4
    · exact .inl h4
    · right; omega
  · obtain ⟨c1, q1⟩ := row_blk hown6 hb
    obtain ⟨c2, q2⟩ := row_blk row6 h
    rw [q1] at q2
    injection q2 with q2
    injection q2 with _ q2 _
    revert q2; decide
  · have := row_new hown6 hb; omega
  · have t0 : Turns (fun k => k = g ∨ hold (.slice AS n cS) k) w w2 := Turns.of_below (by rw [hBs]; exact HBB2.out)
    exact (t0.trans T5.out).new t6 fun j h1 h2 => absurd (hv2 j h1).1 (by omega)
end Go.Proofs.YtdgpchacfdlleaaDoor
end

section
/-
  m[k] += .. on a map whose keys read as bytes.
-/
namespace Go.Proofs.YtdgpchacfdlleaaDoor
open Go.RowKit Go.ChangeMaps Go.MapKept

section
variable {k : TypeId} {w : World} {b : Nat} {fs : List (Bt × Value)}
theorem KMap.entry (L : Go.WideMaps.KeyLaw Tryd.prog k) (h : KMap k w b fs) (hl : fs.length < maxLen) {t e : TypeId} (ht : Tryd.prog.underlying t = some (.map k e)) {z : Value} (hz : ∀ u : World, (zeroValue e).run Tryd.prog u = .ok z u) {x : Value} {s : Bt} (hx : keyOf Tryd.prog k x = some (.string s)) :
    ∃ st W1, (Instr.mapEntry t (.map (some b)) x).run Tryd.prog w = .ok (.tuple #[(lookF fs s).getD z, goInt st]) W1 ∧ Only b w W1 ∧
      (∀ u : World, u.heap[b]? = W1.heap[b]? → (Instr.lookup t (.map (some b)) x false).run Tryd.prog u = .ok ((lookF fs s).getD z) u) ∧
      ∀ (w2 : World) (val : Value), w2.heap[b]? = W1.heap[b]? → ∃ w3, (Instr.entryStore t (.map (some b)) (goInt st) val).run Tryd.prog w2 = .ok () w3 ∧ KMap k w3 b (putF fs s val) ∧ Only b w2 w3 := by
  have K := Maps.Keyed.of_law L
  have hlook := h.look K ht (hz w) hx
  have h0 := h
  obtain ⟨es, clock, hb, F, hs, hD⟩ := h
  obtain ⟨v0, st, es1, clock1, hrun, hval, hstore⟩ := Go.WideElems.entry_then_store L ht hz hb F hx
  have keys := F.keys
  have look : ∀ (u : World) (es0 : Array MapEntry) (c0 : Nat), u.heap[b]? = some (.map es0 c0) → ∀ r, ((Instr.findKey k x es0.toList).run Tryd.prog u = .ok none u ∧ r = z ∨ ∃ j, (Instr.findKey k x es0.toList).run Tryd.prog u = .ok (some (j, r)) u) → (Instr.lookup t (.map (some b)) x false).run Tryd.prog u = .ok r u := by
    intro u es0 c0 hu r hr
    rcases hr with ⟨h1, rfl⟩ | ⟨j, h1⟩
    · simp [Instr.lookup, run_underlying ht, MapKept.run_getObj_map hu, L.check u _ hx, h1, hz, Result.andThen]
    · simp [Instr.lookup, run_underlying ht, MapKept.run_getObj_map hu, L.check u _ hx, h1, Result.andThen]
  have hv0 : v0 = (lookF fs s).getD z ∧ ∀ u : World, u.heap[b]? = some (.map es1 clock1) → (Instr.lookup t (.map (some b)) x false).run Tryd.prog u = .ok ((lookF fs s).getD z) u := by
    have hW := heap_setBlock_same hb (.map es1 clock1)
    rcases L.find w hx es.toList F.keys with ⟨h1, h2⟩ | ⟨j, e0, h1, h2, h3⟩
    · have hz0 : (lookF fs s).getD z = z := by
        have := look w es clock hb z (.inl ⟨h1, rfl⟩)
        rw [hlook] at this
        injection this
      have hm : (Instr.mapEntry t (.map (some b)) x).run Tryd.prog w = .ok (.tuple #[z, goInt clock]) (setBlock w b (.map (es.push ⟨x, z, clock⟩) (clock + 1))) := by
        simp [Instr.mapEntry, run_underlying ht, MapKept.run_getObj_map hb, L.check w false hx, h1, hz, MapKept.run_setObj_map _ hb, Result.andThen, setBlock]
      rw [hm] at hrun
      injection hrun with q1 q2
      rw [← q2, heap_setBlock_same hb] at hW
      injection hW with hW
      injection hW with hW1 hW2
      refine ⟨by rw [hz0]; simp at q1; exact q1.1.symm, fun u hu => ?_⟩
      rw [hz0]
      refine look u es1 clock1 hu z ?_
      rcases L.find u hx es1.toList (by
        intro e0 he0
        rw [← hW1] at he0
        simp at he0
        rcases he0 with he0 | rfl
        · exact keys e0 (by simpa using he0)
        · exact ⟨_, hx⟩) with ⟨f1, _⟩ | ⟨j, e0, f1, f2, f3⟩
      · exact .inl ⟨f1, rfl⟩
      · refine .inr ⟨j, ?_⟩
        have hm := List.mem_of_getElem? f2
        rw [← hW1] at hm
        simp at hm
        rcases hm with hm | rfl
        · exact absurd f3 (h2 e0 (by simpa using hm))
        · exact f1
    · have hj : es[j]? = some e0 := by simpa using h2
      have hsame : es.modify j (fun e => { e with key := x }) = es := by
        apply Array.ext'
        rw [Array.toList_modify, modify_eq_set _ _ _ _ h2]
        have : ({ e0 with key := x } : MapEntry) = e0 := by rw [← h3]
        rw [this]
        exact Go.WideElems.set_self _ _ _ h2
      have he0 : (lookF fs s).getD z = e0.val := by
        have := look w es clock hb e0.val (.inr ⟨j, h1⟩)
        rw [hlook] at this
        injection this
      have hm : (Instr.mapEntry t (.map (some b)) x).run Tryd.prog w = .ok (.tuple #[e0.val, goInt e0.born]) (setBlock w b (.map es clock)) := by
        simp [Instr.mapEntry, run_underlying ht, MapKept.run_getObj_map hb, L.check w false hx, h1, hj, h3, L.stays w hx, hsame, MapKept.run_setObj_map _ hb, Result.andThen, setBlock]
      rw [hm] at hrun
      injection hrun with q1 q2
      rw [← q2, heap_setBlock_same hb] at hW
      injection hW with hW
      injection hW with hW1 hW2
      refine ⟨by rw [he0]; simp at q1; exact q1.1.symm, fun u hu => ?_⟩
      rw [← hW1, ← hW2] at hu
      exact (KMap.keep h0 (hu.trans hb.symm)).look K ht (hz u) hx
  have only : ∀ (u : World) (es0 : Array MapEntry) (c0 : Nat) (es2 : Array MapEntry) (c2 : Nat), u.heap[b]? = some (.map es0 c0) → Only b u (setBlock u b (.map es2 c2)) := fun u es0 c0 es2 c2 hu => turns_map ⟨es0, c0, es2, c2, hu, rfl⟩
  refine ⟨st, _, by rw [hrun, hv0.1], only w es clock es1 clock1 hb, fun u hu => hv0.2 u (hu.trans (heap_setBlock_same hb _)), fun w2 val hw2 => ?_⟩
  rw [heap_setBlock_same hb] at hw2
  obtain ⟨es', clock', q1, q2⟩ := hstore w2 val hw2
  obtain ⟨w', r1, r2, _⟩ := World.ownsMap.store h0 K ht hl hx (val := val) (R := tok) (d := .held val) (ps := []) rfl
  rw [q2] at r1
  injection r1 with _ r1
  subst r1
  rw [FD_put] at r2
  refine ⟨_, q1, KMap.keep (KMap.of r2) ?_, only w2 _ _ _ _ hw2⟩
  rw [heap_setBlock_same hw2, heap_setBlock_same hb]
end
end Go.Proofs.YtdgpchacfdlleaaDoor
end

section
/-
  box: what a box has when something was sealed, or marked: the blocks.
-/
namespace Go.Proofs.YtdgpchacfdlleaaDoor
open Go.RowKit

theorem seal_fin {w w7 w9 w10 w' : World} {B g gu : Nat} {own : Nat → Prop} {vs vS vM : Value} {sec : List Int} {ideal : Bool} {st : BoxI} {us us' : List (Bt × Value)} {es : List EntS} {ms : List EntM} {kid : Kid} {n : Int} {ad text : List Int} {va vt v vS' : Value} {size : Nat} {out : List Int}
    (H : BoxAt w B own g gu vs vS vM sec ideal st us es ms) (T7 : Turns (fun k => k = g ∨ k = gu) w w7) (M7 : KMap 127 w7 gu us') (hus : Uses us' ((kid, n) :: st.uses))
    (b9 : Below w7.heap.size w7 w9) (o9 : w9.ownsRow w7.heap.size 5 1 va ad.length (bs ad)) (b10 : Below w9.heap.size w9 w10) (o10 : w10.ownsRow w9.heap.size 5 1 vt text.length (bs text)) (hA : IsB ad) (hT : IsB text)
    (hv : w'.ownsRow w10.heap.size 5 1 v size (bs out)) (hout : out.length = size)
    (hd : Blk w' g [vs, .bool ideal, .bool true, vS', vM, .map (some gu), .int .i64 ((st.uses.length : Int) + 1), .int .i64 (reps ((kid, n) :: st.uses))] 59)
    (hr : w'.ownsRow B 130 9 vS' (es.length + 1) (es.flatMap EntS.cells ++ EntS.cells ⟨⟨kid, n, ad, text⟩, va, vt⟩)) (hS : ∀ b, hold vS' b → hold vS b ∨ w10.heap.size ≤ b) (hvS : ∀ b, hold v b → ¬ hold vS' b ∧ b ≠ g)
    (T' : Turns (fun k => k = g ∨ hold vS k) w10 w') :
    BoxRes w B own g sec ideal out 0 ⟨st.seals ++ [⟨kid, n, ad, text⟩], st.marks, (kid, n) :: st.uses⟩ (.returned (.tuple #[v, .int .i64 0])) w' := by
  have z7 := T7.size
  have z9 := b9.size
  have z10 := b10.size
  have z' := T'.size
  have dg := H.dom g H.og
  have du := H.dom gu H.ogu
  have dS : ∀ b, hold vS b → b < w.heap.size := fun b h => (H.dom b (H.oS b h).1).2
  have T : Turns (fun k => k = g ∨ k = gu ∨ hold vS k) w w' :=
    (((T7.mono fun k h => by rcases h with h | h; exact .inl h; exact .inr (.inl h)).trans (Turns.of_below b9)).trans (Turns.of_below b10)).trans (T'.mono fun k h => by rcases h with h | h; exact .inl h; exact .inr (.inr h))
  have hva : ∀ b, hold va b → w.heap.size ≤ b ∧ b < w9.heap.size := fun b h => by have := row_new o9 h; omega
  have hvt : ∀ b, hold vt b → w9.heap.size ≤ b ∧ b < w10.heap.size := fun b h => by have := row_new o10 h; omega
  have n9 : Turns (fun k => k = g ∨ hold vS k) w9 w' := (Turns.of_below b10).trans T'
  have far : ∀ b, w.heap.size ≤ b → ¬ (b = g ∨ hold vS b) := fun b hb h => by
    rcases h with h | h
    · omega
    · have := dS b h; omega
  refine ⟨v, fun b => own b ∨ hold va b ∨ hold vt b ∨ hold vS' b, rfl, ?_, ⟨gu, vs, vS', vM, us', es ++ [⟨⟨kid, n, ad, text⟩, va, vt⟩], ms, ?_⟩, fun b hb => ?_, fun b hb => ?_, T.mono fun k h => ?_⟩
  · rw [hout]; exact ownsRow_mono hv (by omega)
  · refine ⟨?_, ?_, row_turns H.rowM T fun b hb h => ?_, (M7.stay b9 |>.stay b10).turns T' (fun h => ?_), hus, ?_, H.marks, H.sec.moves T (fun b hb h => ?_) fun b _ h => .inl h, fun e he => ?_, fun e he => ?_, .inl H.og, .inl H.ogu, fun b hb => ?_, fun b hb => ?_, H.ne, fun b hb => ?_⟩
    · simpa using hd
    · simpa [List.flatMap_append] using hr
    · obtain ⟨_, h1, h2, h3⟩ := H.oM b hb
      rcases h with h | h | h
      · exact h1 h
      · exact h2 h
      · exact h3 h
    · rcases h with h | h
      · exact H.ne h.symm
      · exact (H.oS gu h).2.2 rfl
    · rw [List.map_append, H.seals]; rfl
    · obtain ⟨h1, h2, h3, _⟩ := H.apart H.sec b hb
      rcases h with h | h | h
      · exact h1 h
      · exact h2 h
      · exact h3 h
    · rcases List.mem_append.1 he with he | he
      · have h0 := H.entS e he
        refine ⟨h0.1.moves T (fun b hb h => ?_) fun b _ h => .inl h, h0.2.moves T (fun b hb h => ?_) fun b _ h => .inl h⟩
        · obtain ⟨h1, h2, h3, _⟩ := H.apart h0.1 b hb
          rcases h with h | h | h
          · exact h1 h
          · exact h2 h
          · exact h3 h
        · obtain ⟨h1, h2, h3, _⟩ := H.apart h0.2 b hb
          rcases h with h | h | h
          · exact h1 h
          · exact h2 h
          · exact h3 h
      · obtain rfl := List.mem_singleton.1 he
        refine ⟨?_, ?_⟩
        · exact (EntOk.of_own (own := fun b => own b ∨ hold va b ∨ hold vt b ∨ hold vS' b) o9 hA fun b hb => .inr (.inl hb)).moves n9 (fun b hb => far b (hva b hb).1) fun b _ h => h
        · exact (EntOk.of_own (own := fun b => own b ∨ hold va b ∨ hold vt b ∨ hold vS' b) o10 hT fun b hb => .inr (.inr (.inl hb))).moves T' (fun b hb => far b (by have := hvt b hb; omega)) fun b _ h => h
    · have h0 := H.entM e he
      refine h0.moves T (fun b hb h => ?_) fun b _ h => .inl h
      obtain ⟨h1, h2, h3, _⟩ := H.apart h0 b hb
      rcases h with h | h | h
      · exact h1 h
      · exact h2 h
      · exact h3 h
    · refine ⟨.inr (.inr (.inr hb)), ?_, ?_⟩
      · rintro rfl
        rcases hS b hb with h | h
        · exact (H.oS b h).2.1 rfl
        · omega
      · rintro rfl
        rcases hS b hb with h | h
        · exact (H.oS b h).2.2 rfl
        · omega
    · obtain ⟨h1, h2, h3, h4⟩ := H.oM b hb
      refine ⟨.inl h1, h2, h3, fun h => ?_⟩
      rcases hS b h with h | h
      · exact h4 h
      · have := H.dom b h1; omega
    · rcases hb with h | h | h | h
      · have := H.dom b h; omega
      · have := hva b h; omega
      · have := hvt b h; omega
      · have := row_new hr h; omega
  · rintro (h | h | h | h)
    · have := H.dom b h; have := row_new hv hb; omega
    · have := hva b h; have := row_new hv hb; omega
    · have := hvt b h; have := row_new hv hb; omega
    · exact (hvS b hb).1 h
  · refine ⟨fun h => ?_, fun h => .inl h⟩
    rcases h with h | h | h | h
    · exact h
    · have := hva b h; omega
    · have := hvt b h; omega
    · rcases hS b h with h | h
      · exact (H.oS b h).1
      · omega
  · rcases h with rfl | rfl | h
    · exact H.og
    · exact H.ogu
    · exact (H.oS k h).1
theorem mark_fin {w w9 w' : World} {B g gu : Nat} {own : Nat → Prop} {vs vS vM : Value} {sec : List Int} {ideal : Bool} {st : BoxI} {us : List (Bt × Value)} {es : List EntS} {ms : List EntM} {kid : Kid} {text : List Int} {vt v vM' : Value} {size : Nat} {out : List Int}
    (H : BoxAt w B own g gu vs vS vM sec ideal st us es ms)
    (b9 : Below w.heap.size w w9) (o9 : w9.ownsRow w.heap.size 5 1 vt text.length (bs text)) (hT : IsB text)
    (hv : w'.ownsRow w9.heap.size 5 1 v size (bs out)) (hout : out.length = size)
    (hd : Blk w' g [vs, .bool ideal, .bool true, vS, vM', .map (some gu), .int .i64 st.uses.length, .int .i64 (reps st.uses)] 59)
    (hr : w'.ownsRow B 136 7 vM' (ms.length + 1) (ms.flatMap EntM.cells ++ EntM.cells ⟨⟨kid, text⟩, vt⟩)) (hM : ∀ b, hold vM' b → hold vM b ∨ w9.heap.size ≤ b) (hvM : ∀ b, hold v b → ¬ hold vM' b ∧ b ≠ g)
    (T' : Turns (fun k => k = g ∨ hold vM k) w9 w') :
    BoxRes w B own g sec ideal out 0 ⟨st.seals, st.marks ++ [⟨kid, text⟩], st.uses⟩ (.returned (.tuple #[v, .int .i64 0])) w' := by
  have z9 := b9.size
  have z' := T'.size
  have dg := H.dom g H.og
  have du := H.dom gu H.ogu
  have dM : ∀ b, hold vM b → b < w.heap.size := fun b h => (H.dom b (H.oM b h).1).2
  have dS : ∀ b, hold vS b → b < w.heap.size := fun b h => (H.dom b (H.oS b h).1).2
  have T : Turns (fun k => k = g ∨ hold vM k) w w' := (Turns.of_below b9).trans T'
  have hvt : ∀ b, hold vt b → w.heap.size ≤ b ∧ b < w9.heap.size := fun b h => by have := row_new o9 h; omega
  have far : ∀ b, w.heap.size ≤ b → ¬ (b = g ∨ hold vM b) := fun b hb h => by
    rcases h with h | h
    · omega
    · have := dM b h; omega
  refine ⟨v, fun b => own b ∨ hold vt b ∨ hold vM' b, rfl, ?_, ⟨gu, vs, vS, vM', us, es, ms ++ [⟨⟨kid, text⟩, vt⟩], ?_⟩, fun b hb => ?_, fun b hb => ?_, T.mono fun k h => ?_⟩
  · rw [hout]; exact ownsRow_mono hv (by omega)
  · refine ⟨hd, row_turns H.rowS T fun b hb h => ?_, ?_, H.map.turns T (fun h => ?_), H.uses, H.seals, ?_, H.sec.moves T (fun b hb h => ?_) fun b _ h => .inl h, fun e he => ?_, fun e he => ?_, .inl H.og, .inl H.ogu, fun b hb => ?_, fun b hb => ?_, H.ne, fun b hb => ?_⟩
    · rcases h with h | h
      · exact (H.oS b hb).2.1 h
      · exact (H.oM b h).2.2.2 hb
    · simpa [List.flatMap_append] using hr
    · rcases h with h | h
      · exact H.ne h.symm
      · exact (H.oM gu h).2.2.1 rfl
    · rw [List.map_append, H.marks]; rfl
    · obtain ⟨h1, h2, _, h3⟩ := H.apart H.sec b hb
      rcases h with h | h
      · exact h1 h
      · exact h3 h
    · have h0 := H.entS e he
      refine ⟨h0.1.moves T (fun b hb h => ?_) fun b _ h => .inl h, h0.2.moves T (fun b hb h => ?_) fun b _ h => .inl h⟩
      · obtain ⟨h1, h2, _, h3⟩ := H.apart h0.1 b hb
        rcases h with h | h
        · exact h1 h
        · exact h3 h
      · obtain ⟨h1, h2, _, h3⟩ := H.apart h0.2 b hb
        rcases h with h | h
        · exact h1 h
        · exact h3 h
    · rcases List.mem_append.1 he with he | he
      · have h0 := H.entM e he
        refine h0.moves T (fun b hb h => ?_) fun b _ h => .inl h
        obtain ⟨h1, h2, _, h3⟩ := H.apart h0 b hb
        rcases h with h | h
        · exact h1 h
        · exact h3 h
      · obtain rfl := List.mem_singleton.1 he
        exact (EntOk.of_own (own := fun b => own b ∨ hold vt b ∨ hold vM' b) o9 hT fun b hb => .inr (.inl hb)).moves T' (fun b hb => far b (hvt b hb).1) fun b _ h => h
    · obtain ⟨h1, h2, h3⟩ := H.oS b hb
      exact ⟨.inl h1, h2, h3⟩
    · refine ⟨.inr (.inr hb), ?_, ?_, fun h => ?_⟩
      · rintro rfl
        rcases hM b hb with h | h
        · exact (H.oM b h).2.1 rfl
        · omega
      · rintro rfl
        rcases hM b hb with h | h
        · exact (H.oM b h).2.2.1 rfl
        · omega
      · rcases hM b hb with h1 | h1
        · exact (H.oM b h1).2.2.2 h
        · have := dS b h; omega
    · rcases hb with h | h | h
      · have := H.dom b h; omega
      · have := hvt b h; omega
      · have := row_new hr h; omega
  · rintro (h | h | h)
    · have := H.dom b h; have := row_new hv hb; omega
    · have := hvt b h; have := row_new hv hb; omega
    · exact (hvM b hb).1 h
  · refine ⟨fun h => ?_, fun h => .inl h⟩
    rcases h with h | h | h
    · exact h
    · have := hvt b h; omega
    · rcases hM b h with h | h
      · exact (H.oM b h).1
      · omega
  · rcases h with rfl | h
    · exact H.og
    · exact (H.oM k h).1
end Go.Proofs.YtdgpchacfdlleaaDoor
end

section
/-
  box: an ideal box seals.
-/
namespace Go.Proofs.YtdgpchacfdlleaaDoor
open Go.RowKit

theorem len6 (l : List Value) (h : l.length = 6) : ∃ u0 u1 u2 u3 u4 u5, l = [u0, u1, u2, u3, u4, u5] := by
  match l, h with
  | [u0, u1, u2, u3, u4, u5], _ => exact ⟨u0, u1, u2, u3, u4, u5, rfl⟩
theorem Rd.moves2 {S : Nat → Prop} {w w' : World} {v : Value} {xs : List Value} (h : Rd w v xs) (k : Turns S w w') (hn : xs ≠ [] → ∀ b, hold v b → ¬ S b) : Rd w' v xs := by
  by_cases hx : xs = []
  · subst hx
    obtain ⟨A, c, rfl, h1, h2, h0, _⟩ := h
    exact ⟨A, c, rfl, h1, h2, h0, .inl rfl⟩
  · exact h.moves k (hn hx)
theorem Rd.low {w : World} {v : Value} {xs : List Value} (h : Rd w v xs) (hne : xs ≠ []) : ∀ b, hold v b → b < w.heap.size := by
  rintro b ⟨o, n, c, hv⟩
  obtain ⟨A, c', rfl, _, _, _, h3⟩ := h
  rcases h3 with h3 | ⟨b', o', hA, h3⟩
  · exact absurd h3 hne
  · subst hA
    cases hv
    have h4 := h3 0 (List.length_pos_iff.2 hne)
    have := World.block_lt_of_cell? w _ h4
    exact this
theorem row_one {w : World} {base n sz : Nat} {e : TypeId} {v : Value} {xs : List Value} (h : w.ownsRow base e sz v n xs) : ∀ y ∈ [v], y.oneCell' = true := by
  obtain ⟨A, c, rfl⟩ := row_slice h
  intro y hy
  simp at hy
  subst hy
  rfl
theorem rd_one {w : World} {v : Value} {xs : List Value} (h : Rd w v xs) : v.oneCell' = true := by
  obtain ⟨A, c, rfl, _⟩ := h
  rfl
theorem EntS.one {w : World} {own : Nat → Prop} {e : EntS} (h1 : EntOk w own e.va e.x.ad) (h2 : EntOk w own e.vt e.x.text) : ∀ y ∈ e.cells, y.oneCell' = true := by
  intro y hy
  simp [EntS.cells, Kid.cells] at hy
  rcases hy with rfl | rfl | rfl | rfl | rfl | rfl | rfl | rfl | rfl
  all_goals first | rfl | exact rd_one h1.rd | exact rd_one h2.rd
theorem EntM.one {w : World} {own : Nat → Prop} {e : EntM} (h2 : EntOk w own e.vt e.x.text) : ∀ y ∈ e.cells, y.oneCell' = true := by
  intro y hy
  simp [EntM.cells, Kid.cells] at hy
  rcases hy with rfl | rfl | rfl | rfl | rfl | rfl | rfl
  all_goals first | rfl | exact rd_one h2.rd
/-- Nothing was done. -/
theorem BoxRes.stay {w w' : World} {B g : Nat} {own : Nat → Prop} {sec : List Int} {ideal : Bool} {st : BoxI} (h : BoxW w B own g sec ideal st) (hb : Below w.heap.size w w') (code : Int) : BoxRes w B own g sec ideal [] code st (.returned (.tuple #[.slice none 0 0, .int .i64 code])) w' :=
  ⟨_, own, rfl, World.ownsRow_nil _ _ _ _, h.stay hb, (fun b ⟨_, _, _, h⟩ => by cases h), fun _ _ => Iff.rfl, Turns.of_below hb⟩
set_option maxRecDepth 100000 in
set_option maxHeartbeats 4000000 in
theorem seal_ideal (w : World) (B g : Nat) (own : Nat → Prop) (sec : List Int) (st : BoxI) (kid : Kid) (n : Int) (va vt : Value) (ad text : List Int) (h : BoxW w B own g sec true st) (hf : Few st) (hid : kid.In) (hn : InI n)
    (hra : Rd w va (bs ad)) (hA : IsB ad) (hrt : Rd w vt (bs text)) (hT : IsB text) (hna : ad ≠ [] → ∀ b, hold va b → ¬ own b) (hnt : text ≠ [] → ∀ b, hold vt b → ¬ own b) :
    Calls Tryd.prog 18 #[.pointer (some ⟨g, 0, none⟩), .agg kid.cells.toArray, .int .i64 n, va, vt] w fun e w' => BoxRes w B own g sec true (sealS st kid n ad text).2.1 (sealS st kid n ad text).1 (sealS st kid n ad text).2.2 e w' := by
  obtain ⟨Z, hZ⟩ : ∃ Z, w.heap.size = Z := ⟨_, rfl⟩
  have HST := Lib.hid (fun (w' : World) (hb : Below w.heap.size w w') (code : Int) => BoxRes.stay h hb code)
  obtain ⟨R, hR⟩ : ∃ R : Ending → World → Prop, (fun e w' => BoxRes w B own g sec true (sealS st kid n ad text).2.1 (sealS st kid n ad text).1 (sealS st kid n ad text).2.2 e w') = R := ⟨_, rfl⟩
  rw [hR]
  have HR := Lib.hid (fun _ : Unit => hR)
  obtain ⟨gu, vs, vS, vM, us, es, ms, H⟩ := h
  have hdg := H.dom g H.og
  have hdu := H.dom gu H.ogu
  rw [hZ] at hdg hdu
  have UK := Lib.hid (useB_key hid hn)
  have LKU := Lib.hid (H.uses.look kid n hid hn)
  obtain ⟨ub, hub⟩ : ∃ ub, useB kid n = ub := ⟨_, rfl⟩
  rw [hub] at UK LKU
  have HUB := Lib.hid (fun _ : Unit => hub)
  have ASK := Lib.hid (fun (w' : World) (hb : Below w.heap.size w w') => ask_any w' g _ kid n (H.head.stay hb) rfl)
  have PUT := Lib.hid (fun (w' : World) (ha : Rd w' va (bs ad)) => ha)
  obtain ⟨r, hr⟩ : ∃ r, askB kid n = r := ⟨_, rfl⟩
  rw [hr] at ASK
  have HASK := Lib.hid (fun _ : Unit => hr)
  have HID := Lib.hid (show ∃ k, k = kid from ⟨_, rfl⟩)
  obtain ⟨kc, hkc⟩ : ∃ kc, kid.cells = kc := ⟨_, rfl⟩
  rw [hkc] at ASK ⊢
  have hU : useV kid n = .agg (kc ++ [Value.int .i64 n]).toArray := by rw [← hkc]; rfl
  rw [hU] at UK
  have HKC := Lib.hid (fun _ : Unit => hkc)
  have hkl : kc.length = 6 := by rw [← hkc]; rfl
  have hk1 : ∀ y ∈ kc, y.oneCell' = true := by rw [← hkc]; intro y hy; simp [Kid.cells] at hy; rcases hy with rfl | rfl | rfl | rfl | rfl | rfl <;> rfl
  obtain ⟨u0, u1, u2, u3, u4, u5, rfl⟩ := len6 kc hkl
  have K1 := Lib.hid hk1
  simp only [List.cons_append, List.nil_append] at UK
  clear hkl hk1 hkc hU hub hr hR PUT HID
  obtain ⟨Aa, ca, rfl, hca, _⟩ := id hra
  obtain ⟨At, ct, rfl, hct, _⟩ := id hrt
  simp only [bs_len] at hra hrt hca hct hna hnt ⊢
  obtain ⟨la, hla⟩ : ∃ l, ad.length = l := ⟨_, rfl⟩
  obtain ⟨lt, hlt⟩ : ∃ l, text.length = l := ⟨_, rfl⟩
  rw [hla] at hra hca hna ⊢
  rw [hlt] at hrt hct hnt ⊢
  have HRA := Lib.hid hra; have HRT := Lib.hid hrt; have HLA := Lib.hid (fun _ : Unit => hla); have HLT := Lib.hid (fun _ : Unit => hlt)
  have HA := Lib.hid hA; have HT := Lib.hid hT; have HH := Lib.hid H
  clear hra hrt hla hlt hA hT
  go_enter Tryd.func18, Tryd.ntmps18
  go_upto_region 1 with fail
  obtain ⟨W, hW⟩ : ∃ W, w.alloc (.cells #[u0, u1, u2, u3, u4, u5] 23) = W := ⟨_, rfl⟩
  change Code.wp _ _ _ _ (w.alloc (.cells #[u0, u1, u2, u3, u4, u5] 23))
  have b0 : Blk W Z [u0, u1, u2, u3, u4, u5] 23 := by rw [← hW]; exact Blk.mk_ _ hZ.symm rfl
  have bb : Below Z w W := by rw [← hW]; exact bw_al (Below.refl _ _) (by omega) _
  have hz : W.heap.size = Z + 1 := by rw [← hW]; simp [hZ]
  rw [hW]
  clear hW
  rw [hZ] at HST
  have AW := Lib.hid (ASK.out W (by rw [hZ]; exact bb))
  clear H
  go_upto_region 2 with (first
    | (refine wp_load_blk rfl 23 (.tmp 6) rfl rfl b0 Tryd.underlying23 rfl (n := 6) (by kernel_rfl) rfl ?_)
    | (go_at_call 53; refine AW.out.mono ?_; rintro e w1 ⟨rfl, hb1⟩))
  have bb1 : Below Z w w1 := bw_then bb hb1 (by omega)
  have hz1 := hb1.size
  have k1 := b0.stay hb1
  have HB1 := Lib.hid bb1; have KK1 := Lib.hid k1
  clear bb bb1 k1 b0 hb1 AW
  by_cases hr0 : r ≠ 0
  · go_wp2_with fail
    all_goals (try go_ret2)
    rw [← HR.out ()]
    have e : sealS st kid n ad text = (1, [], st) := by unfold sealS; rw [if_pos (by rw [HASK.out ()]; exact hr0)]
    obtain rfl : r = 1 := by have := HASK.out (); unfold askB at this; split at this <;> omega
    rw [e]
    exact HST.out _ HB1.out _
  obtain rfl : r = 0 := by omega
  clear hr0
  have LONG := Lib.hid (show (65536 < la ∨ 65536 < lt) → sealS st kid n ad text = (5, [], st) from fun hl => by unfold sealS; rw [if_neg (by rw [HASK.out ()]; decide), if_pos (by rw [HLA.out (), HLT.out ()]; exact hl)])
  by_cases hl1 : 65536 < la
  · go_wp2_with fail
    all_goals (try go_ret2)
    rw [← HR.out ()]
    rw [LONG.out (.inl hl1)]
    exact HST.out _ HB1.out _
  by_cases hl2 : 65536 < lt
  · go_wp2_with fail
    all_goals (try go_ret2)
    rw [← HR.out ()]
    rw [LONG.out (.inr hl2)]
    exact HST.out _ HB1.out _
  have hS := show sealS st kid n ad text = (0, putL st.seals.length (lt + 16), ⟨st.seals ++ [⟨kid, n, ad, text⟩], st.marks, (kid, n) :: st.uses⟩) by unfold sealS; rw [if_neg (by rw [HASK.out ()]; decide), if_neg (by rw [HLA.out (), HLT.out ()]; omega), HLT.out ()]
  rw [hS] at HR
  clear LONG hS
  have hu1 : ∀ y ∈ [u0, u1, u2, u3, u4, u5, Value.int .i64 n], y.oneCell' = true := by
    intro y hy
    rcases List.mem_append.1 (show y ∈ [u0, u1, u2, u3, u4, u5] ++ [Value.int .i64 n] from hy) with h | h
    · exact K1.out y h
    · simp at h; subst h; rfl
  have HU1 := Lib.hid hu1
  clear hu1
  go_upto_region 7 with (first
    | (refine wp_load_blk rfl 23 (.tmp 6) rfl rfl KK1.out Tryd.underlying23 rfl (n := 6) (by kernel_rfl) rfl ?_)
    | (refine wp_store_blk rfl 127 (.tmp 13) (.tmp 33) rfl rfl rfl (cs' := [u0, u1, u2, u3, u4, u5, .int .i64 n]) (Blk.mk_ (cs := [.int .i64 0, .int .i64 0, .int .i64 0, .int .i64 0, .int .i64 0, .int .i64 0, .int .i64 0]) _ rfl rfl) HU1.out rfl (n := 7) (by kernel_rfl) rfl ?_; intro w2 b2 on2))
  have bb2 : Below Z w w2 := on2.below (bw_al HB1.out (by omega) _) (by omega)
  have hz2 : w2.heap.size = w1.heap.size + 1 := by rw [on2.size]; simp
  have hw12 : Below w1.heap.size w1 w2 := on2.below (bw_al (Below.refl _ _) (Nat.le_refl _) _) (Nat.le_refl _)
  have HB2 := Lib.hid bb2; have HU2 := Lib.hid b2
  have k2 := HH.out.stay (by rw [hZ]; exact bb2)
  have HH2 := Lib.hid k2
  have hd2 := k2.head
  have y6 := hd2.at_ 6 rfl
  have f6 := hd2.free 6
  have hm2 := k2.map
  have HD2 := Lib.hid hd2; have HM2 := Lib.hid hm2
  clear on2 bb2 b2 k2 hd2 hm2 hw12
  have hfu := hf.uses
  obtain ⟨c, hc⟩ : ∃ c, st.uses.count (kid, n) = c := ⟨_, rfl⟩
  have hcl : c ≤ 100000 := by rw [← hc]; exact Nat.le_trans List.count_le_length hfu
  have LKV := Lib.hid (show (lookF us ub).getD (.int .i64 0) = .int .i64 c by
    have := LKU.out
    rw [hc] at this
    rw [this]
    split
    · rename_i h0; rw [h0]; rfl
    · rfl)
  have HC := Lib.hid (fun _ : Unit => hc)
  clear LKU hc
  have hwl : IntKind.i64.wrap ((lt : Int) + 16) = (lt : Int) + 16 := by rw [IntKind.wrap_i64]; omega
  have hwr : IntKind.i64.wrap ((c : Int) + 1) = (c : Int) + 1 := by rw [IntKind.wrap_i64]; omega
  obtain ⟨L, hL⟩ : ∃ L, st.uses.length = L := ⟨_, rfl⟩
  have HL := Lib.hid (fun _ : Unit => hL)
  obtain ⟨rp, hrp⟩ : ∃ rp, reps st.uses = rp := ⟨_, rfl⟩
  have HRP := Lib.hid (fun _ : Unit => hrp)
  have hrpl : rp ≤ L := by
    have : ∀ l : List (Kid × Int), reps l ≤ l.length := by
      intro l
      induction l with
      | nil => exact Nat.le_refl _
      | cons x r ih => unfold reps; rw [List.length_cons]; split <;> omega
    rw [← hrp, ← hL]; exact this _
  rw [hL] at y6 hfu HD2
  rw [hrp] at HD2
  clear hL hrp
  go_upto_region 8 with fail
  obtain ⟨w3, hw3⟩ : ∃ w3, w2.setCell ⟨g, 6, none⟩ (.int .i64 ((L : Int) + 1)) = w3 := ⟨_, rfl⟩
  have b3 : Blk w3 g [vs, .bool true, .bool true, vS, vM, .map (some gu), .int .i64 ((L : Int) + 1), .int .i64 rp] 59 := by rw [← hw3]; exact HD2.out.set 6 _
  have o3 : Only g w2 w3 := by rw [← hw3]; exact Only.set _ _ _ _
  rw [hw3]
  clear hw3 y6 f6
  have t3 : Turns (fun k => k = g ∨ k = gu) w w3 := (Turns.of_below (by rw [hZ]; exact HB2.out)).trans (Turns.of_only o3 (.inl rfl))
  have uu3 : Blk w3 w1.heap.size [u0, u1, u2, u3, u4, u5, .int .i64 n] 127 := HU2.out.only o3 (by omega)
  have b3d := b3.d1
  have y53 := b3d.at_ 5 rfl
  have lk3 : (Instr.lookup 57 (.map (some gu)) (.agg #[u0, u1, u2, u3, u4, u5, .int .i64 n]) false).run Tryd.prog w3.drew = .ok (.int .i64 c) w3.drew := by
    have := KMap.look use_keyed (show KMap 127 w3.drew gu us from HM2.out.turns (Turns.of_only (S := fun k => k = g) o3 rfl).d1 (fun h => HH.out.ne h.symm)) Tryd.underlying57 (z := .int .i64 0) (by kernel_rfl) UK.out
    rw [LKV.out] at this; exact this
  have uu3d := uu3.d1
  have UU3 := Lib.hid uu3d
  have LU3 := Lib.hid (load_fact (P := Tryd.prog) uu3d 127 0 (ys := [u0, u1, u2, u3, u4, u5, .int .i64 n]) rfl Tryd.underlying127 rfl (n := 7) (by kernel_rfl) rfl w3.drew (Below.refl _ _))
  have B3 := Lib.hid b3; have O3 := Lib.hid o3; have T3 := Lib.hid t3
  have hz3 : w3.heap.size = w2.heap.size := o3.size
  clear b3 b3d o3 t3 uu3 uu3d
  refine region_plan ⟨[0, 1, 3, 7, 0, 31, 63], [], [0, 0, 0, 0, 0, 0, 0]⟩
    [⟨[0, 1, 2, 3, 4, 5, 6], [1, 2, 3, 4, 5, 6], none⟩] 95 (by kernel_rfl) (by kernel_rfl) (by kernel_rfl) (by kernel_rfl) rfl ?_
  simp only [SeqGo, opsAt_cons, opsAt_nil, List.getElem?_cons, Option.toList_some, List.singleton_append, ↓reduceIte, Nat.reduceEqDiff, Nat.reduceSub]
  go_wp2_with (refine wp_load_blk rfl 127 (.tmp 13) rfl rfl UU3.out Tryd.underlying127 rfl (n := 7) (by kernel_rfl) rfl ?_)
  refine ⟨by (simp only [Sames]; refine ⟨?_, ?_, ?_, ?_, ?_, ?_, trivial⟩ <;> first | exact same_load (by rfl) 127 (.tmp 13) rfl rfl LU3.out rfl | (simp only [Same]; go_simp)), ?_⟩
  by_cases hc0 : ¬ 0 < c
  · go_upto_region 10 with fail
    obtain ⟨w4, hw4⟩ : ∃ w4, w3.drew = w4 := ⟨_, rfl⟩
    have b4 : Blk w4 g [vs, .bool true, .bool true, vS, vM, .map (some gu), .int .i64 ((L : Int) + 1), .int .i64 rp] 59 := by rw [← hw4]; exact B3.out.d1
    have t34 : Turns (fun k => k = g) w3 w4 := by rw [← hw4]; exact (Turns.refl _ _).d1
    rw [hw4]
    clear hw4
    have hrp4 : reps ((kid, n) :: st.uses) = rp := by
      rw [reps, if_neg (by rw [← List.count_pos_iff, HC.out ()]; omega), HRP.out ()]; omega
    have HRP4 := Lib.hid (fun _ : Unit => hrp4)
    clear hrp4
    have t4 : Turns (fun k => k = g ∨ k = gu) w w4 := T3.out.trans (t34.mono fun k h => .inl h)
    have m4 : KMap 127 w4 gu us := HM2.out.turns (S := fun k => k = g) ((Turns.of_only (S := fun k => k = g) O3.out rfl).trans t34) (fun h => HH.out.ne h.symm)
    have uu4 : Blk w4 w1.heap.size [u0, u1, u2, u3, u4, u5, .int .i64 n] 127 := HU2.out.turns (S := fun k => k = g) ((Turns.of_only (S := fun k => k = g) O3.out rfl).trans t34) (fun h => by omega)
    have hz4 : w2.heap.size ≤ w4.heap.size := (show Turns (fun k => k = g) w2 w4 from ((Turns.of_only (S := fun k => k = g) O3.out rfl).trans t34)).size
    have b4d := b4.d1
    obtain ⟨stp, W6, me, on6, look6, sto6⟩ := KMap.entry use_law (show KMap 127 w4.drew gu us from m4) (by have := HH.out.uses.le; have := HL.out (); unfold maxLen; omega) Tryd.underlying57 (z := .int .i64 0) (fun u => by kernel_rfl) UK.out
    rw [LKV.out] at me look6
    have lk5 : (Instr.lookup 57 (.map (some gu)) (.agg #[u0, u1, u2, u3, u4, u5, .int .i64 n]) false).run Tryd.prog w4.drew = .ok (.int .i64 c) w4.drew := by
      have := KMap.look use_keyed (show KMap 127 w4.drew gu us from m4) Tryd.underlying57 (z := .int .i64 0) (by kernel_rfl) UK.out
      rw [LKV.out] at this; exact this
    have lk6 := look6 W6 rfl
    obtain ⟨w7, es7, m7, on7⟩ := sto6 W6 (.int .i64 ((c : Int) + 1)) rfl
    have es7' : (Instr.entryStore 57 (.map (some gu)) (.int .i64 stp) (.int .i64 ((c : Int) + 1))).run Tryd.prog W6 = .ok () w7 := es7
    have me' : (Instr.mapEntry 57 (.map (some gu)) (.agg #[u0, u1, u2, u3, u4, u5, .int .i64 n])).run Tryd.prog w4.drew = .ok (.tuple #[.int .i64 c, .int .i64 stp]) W6 := me
    have uu5 := uu4.d1
    have lu5 := load_fact (P := Tryd.prog) uu5 127 0 (ys := [u0, u1, u2, u3, u4, u5, .int .i64 n]) rfl Tryd.underlying127 rfl (n := 7) (by kernel_rfl) rfl w4.drew (Below.refl _ _)
    have y5 := b4d.at_ 5 rfl
    have b6 := b4d.only on6 HH.out.ne
    have y56 := b6.at_ 5 rfl
    have b7 := b6.only on7 HH.out.ne
    have t7 : Turns (fun k => k = g ∨ k = gu) w w7 := (t4.d1.trans (Turns.of_only on6 (.inr rfl))).trans (Turns.of_only on7 (.inr rfl))
    have uu7 := (uu5.only on6 (by omega)).only on7 (by omega)
    have hz7 : w7.heap.size = w4.heap.size := by rw [on7.size, on6.size]; rfl
    have B7 := Lib.hid b7; have T7 := Lib.hid t7; have UU7 := Lib.hid uu7; have M7 := Lib.hid m7; have LU5 := Lib.hid lu5; have UU5 := Lib.hid uu5
    have y17 := b7.at_ 1 rfl
    clear t4 m4 uu4 b4 b4d me look6 sto6 es7 b6 b7 t7 uu7 m7 on6 on7 lu5 uu5 HM2 HD2 HU2
    refine region_plan ⟨[0, 1, 3, 7, 0, 31, 63, 31, 159, 511], [7, 9], [0, 0, 0, 0, 0, 0, 0, 0, 1, 1]⟩
      [⟨[0, 1, 2, 3, 4, 5, 6], [1, 2, 3, 4, 5, 6], some 7⟩, ⟨[8], [5, 6, 8], some 9⟩, ⟨[], [], none⟩] 95 (by kernel_rfl) (by kernel_rfl) (by kernel_rfl) (by kernel_rfl) rfl ?_
    simp only [SeqGo, opsAt_cons, opsAt_nil, List.getElem?_cons, Option.toList_some, List.singleton_append, ↓reduceIte, Nat.reduceEqDiff, Nat.reduceSub]
    go_wp2_with (refine wp_load_blk rfl 127 (.tmp 13) rfl rfl UU5.out Tryd.underlying127 rfl (n := 7) (by kernel_rfl) rfl ?_)
    refine ⟨by (simp only [Sames]; refine ⟨?_, ?_, ?_, ?_, ?_, ?_, trivial⟩ <;> first | exact same_load (by rfl) 127 (.tmp 13) rfl rfl LU5.out rfl | (simp only [Same]; go_simp)), ?_⟩
    go_wp2_with fail
    refine ⟨by (simp only [Sames, Same]; go_simp), ?_⟩
    go_wp2_with fail
    refine ⟨trivial, ?_⟩
    clear me' es7' lk5 lk6 y5 y56
    go_upto_region 12 with fail
    have b8 := B7.out.d1
    have t8 := T7.out.d1
    have y38 := b8.at_ 3 rfl
    have HTW := Lib.hid t8
    have nS : ∀ b, ¬ own b → ¬ (b = g ∨ b = gu) := fun b hb h => by
      rcases h with rfl | rfl
      · exact hb HH.out.og
      · exact hb HH.out.ogu
    have CLA := clone_any _ ad w7.drew (HRA.out.moves2 t8 fun hx b hb => nS b (hna (fun h => hx (by rw [h]; rfl)) b hb)) (by rw [HLA.out ()]; omega)
    have rt8 := HRT.out.moves2 t8 fun hx b hb => nS b (hnt (fun h => hx (by rw [h]; rfl)) b hb)
    have RT8 := Lib.hid rt8
    have uu8 := UU7.out.d1
    have LU8 := Lib.hid (fun (w' : World) (hb : Below w7.drew.heap.size w7.drew w') => load_fact (P := Tryd.prog) (uu8.stay hb) 127 0 (ys := [u0, u1, u2, u3, u4, u5, .int .i64 n]) rfl Tryd.underlying127 rfl (n := 7) (by kernel_rfl) rfl w' (Below.refl _ _))
    have UU8 := Lib.hid uu8; have B8 := Lib.hid b8
    have CLA := Lib.hid CLA
    clear b8 t8 nS rt8 uu8 y17
    have l8 := LU8.out _ (Below.refl _ _)
    refine region_plan ⟨[0, 1, 3, 0, 0, 16, 0, 112, 248, 0, 512, 1536, 4095, 8191, 16383], [5, 7, 12], [0, 0, 0, 0, 0, 0, 0, 1, 2, 0, 0, 0, 2, 3, 3]⟩
      [⟨[0, 1, 2, 3, 4, 6, 9, 10, 11], [1, 2, 3, 10, 11], some 5⟩, ⟨[], [1, 2, 3, 10, 11], some 7⟩, ⟨[8], [1, 2, 3, 8, 10, 11], some 12⟩, ⟨[13, 14], [], none⟩] 95 (by kernel_rfl) (by kernel_rfl) (by kernel_rfl) (by kernel_rfl) rfl ?_
    simp only [SeqGo, opsAt_cons, opsAt_nil, List.getElem?_cons, Option.toList_some, List.singleton_append, ↓reduceIte, Nat.reduceEqDiff, Nat.reduceSub]
    go_wp2_with (refine wp_load_blk rfl 127 (.tmp 13) rfl rfl UU8.out Tryd.underlying127 rfl (n := 7) (by kernel_rfl) rfl ?_)
    refine ⟨by (simp only [Sames]; refine ⟨?_, ?_, ?_, ?_, ?_, trivial⟩ <;> first | exact same_load (by rfl) 127 (.tmp 13) rfl rfl l8 rfl | (simp only [Same]; go_simp)), ?_⟩
    go_wp2_with (go_at_call 52; refine CLA.out.mono ?_; rintro e w9 ⟨va', rfl, hb9, ho9⟩; rw [HLA.out ()] at ho9; obtain ⟨Aa', ca', rfl⟩ := row_slice ho9)
    have CLT := Lib.hid (clone_any _ text w9 (RT8.out.stay hb9 (Nat.le_refl _)) (by rw [HLT.out ()]; omega))
    have l9 := LU8.out w9 hb9
    have hz9 := hb9.size
    refine ⟨by (simp only [Sames]; refine ⟨?_, ?_, ?_, ?_, ?_, trivial⟩ <;> first | exact same_load (by rfl) 127 (.tmp 13) rfl rfl l9 rfl | (simp only [Same]; go_simp)), ?_⟩
    clear l8 l9
    go_wp2_with (go_at_call 52; refine CLT.out.mono ?_; rintro e w10 ⟨vt', rfl, hb10, ho10⟩; rw [HLT.out ()] at ho10; obtain ⟨At', ct', rfl⟩ := row_slice ho10)
    have l10 := LU8.out w10 (bw_next hb9 hb10)
    have hz10 := hb10.size
    have t10 : Turns (fun k => k = g ∨ k = gu) w w10 := HTW.out.trans ((Turns.of_below hb9).trans (Turns.of_below hb10))
    have eC : EntS.cells ⟨⟨kid, n, ad, text⟩, .slice Aa' la ca', .slice At' lt ct'⟩ = [u0, u1, u2, u3, u4, u5, .int .i64 n, .slice Aa' la ca', .slice At' lt ct'] := by unfold EntS.cells; simp only [HKC.out ()]; rfl
    have esl : es.length = st.seals.length := by rw [← HH.out.seals, List.length_map]
    have PUT := putS_any w10 g _ vS B es ⟨⟨kid, n, ad, text⟩, .slice Aa' la ca', .slice At' lt ct'⟩ (lt + 16) ((B8.out.stay hb9).stay hb10) rfl (row_turns HH.out.rowS t10 fun b hb h => by
      have := HH.out.oS b hb
      rcases h with h | h
      · exact this.2.1 h
      · exact this.2.2 h) (by rw [esl]; exact hf.seals) (by have := HTW.out.size; omega) (fun b hb => (HH.out.oS b hb).2.1) (by omega) (by omega) (by
      rw [eC]
      intro y hy
      rcases List.mem_append.1 (show y ∈ [u0, u1, u2, u3, u4, u5] ++ [Value.int .i64 n, .slice Aa' la ca', .slice At' lt ct'] from hy) with h | h
      · exact K1.out y h
      · simp at h; rcases h with rfl | rfl | rfl <;> rfl)
    rw [eC] at PUT
    have eN : ((lt + 16 : Nat) : Int) = (lt : Int) + 16 := by omega
    rw [eN] at PUT
    have PUT := Lib.hid PUT
    have EC := Lib.hid eC
    have HO9 := Lib.hid ho9; have HO10 := Lib.hid ho10; have HB9 := Lib.hid hb9; have HB10 := Lib.hid hb10
    clear eC esl eN ho9 ho10 t10
    refine ⟨by (simp only [Sames]; refine ⟨?_, ?_, ?_, ?_, ?_, ?_, trivial⟩ <;> first | exact same_load (by rfl) 127 (.tmp 13) rfl rfl l10 rfl | (simp only [Same]; go_simp)), ?_⟩
    clear l10 hb9 hb10
    go_wp2_with (go_at_call 54; refine PUT.out.mono ?_; rintro e w' ⟨v, vS', rfl, p1, p2, p3, p4, p5, p6⟩)
    refine ⟨trivial, ?_⟩
    go_wp2_with fail
    all_goals (try go_ret2)
    rw [← HR.out ()]
    have esl : es.length = st.seals.length := by rw [← HH.out.seals, List.length_map]
    have fin := seal_fin HH.out T7.out M7.out (by have := HH.out.uses.put hid hn; rw [HUB.out (), HC.out ()] at this; exact this) (⟨HB9.out.os, HB9.out.tape, HB9.out.output, HB9.out.size, HB9.out.block⟩ : Below w7.heap.size w7 w9) (by rw [HLA.out ()]; exact HO9.out) HB10.out (by rw [HLT.out ()]; exact HO10.out) HA.out HT.out p1 (putL_len _ _ (by omega)) (by rw [HL.out (), HRP4.out ()]; first | exact p2 | (rw [show ((rp + 1 : Nat) : Int) = (rp : Int) + 1 by omega]; exact p2)) (by rw [EC.out]; exact p3) p4 p5 p6
    rw [esl] at fin
    exact fin
  · have hc1 : 0 < c := by omega
    have y73 := B3.out.at_ 7 rfl
    have f73 := B3.out.free 7
    go_upto_region 10 with fail
    obtain ⟨w4, hw4⟩ : ∃ w4, (w3.setCell ⟨g, 7, none⟩ (.int .i64 ((rp : Int) + 1))).drew = w4 := ⟨_, rfl⟩
    have b4 : Blk w4 g [vs, .bool true, .bool true, vS, vM, .map (some gu), .int .i64 ((L : Int) + 1), .int .i64 ((rp : Int) + 1)] 59 := by rw [← hw4]; exact (B3.out.set 7 _).d1
    have t34 : Turns (fun k => k = g) w3 w4 := by rw [← hw4]; exact (show Turns (fun k => k = g) w3 (w3.setCell ⟨g, 7, none⟩ (.int .i64 ((rp : Int) + 1))) from Turns.of_only (Only.set _ _ _ _) rfl).d1
    rw [hw4]
    clear hw4 y73 f73
    have hrp4 : reps ((kid, n) :: st.uses) = rp + 1 := by
      rw [reps, if_pos (by rw [← List.count_pos_iff, HC.out ()]; omega), HRP.out ()]; omega
    have HRP4 := Lib.hid (fun _ : Unit => hrp4)
    clear hrp4
    have t4 : Turns (fun k => k = g ∨ k = gu) w w4 := T3.out.trans (t34.mono fun k h => .inl h)
    have m4 : KMap 127 w4 gu us := HM2.out.turns (S := fun k => k = g) ((Turns.of_only (S := fun k => k = g) O3.out rfl).trans t34) (fun h => HH.out.ne h.symm)
    have uu4 : Blk w4 w1.heap.size [u0, u1, u2, u3, u4, u5, .int .i64 n] 127 := HU2.out.turns (S := fun k => k = g) ((Turns.of_only (S := fun k => k = g) O3.out rfl).trans t34) (fun h => by omega)
    have hz4 : w2.heap.size ≤ w4.heap.size := (show Turns (fun k => k = g) w2 w4 from ((Turns.of_only (S := fun k => k = g) O3.out rfl).trans t34)).size
    have b4d := b4.d1
    obtain ⟨stp, W6, me, on6, look6, sto6⟩ := KMap.entry use_law (show KMap 127 w4.drew gu us from m4) (by have := HH.out.uses.le; have := HL.out (); unfold maxLen; omega) Tryd.underlying57 (z := .int .i64 0) (fun u => by kernel_rfl) UK.out
    rw [LKV.out] at me look6
    have lk5 : (Instr.lookup 57 (.map (some gu)) (.agg #[u0, u1, u2, u3, u4, u5, .int .i64 n]) false).run Tryd.prog w4.drew = .ok (.int .i64 c) w4.drew := by
      have := KMap.look use_keyed (show KMap 127 w4.drew gu us from m4) Tryd.underlying57 (z := .int .i64 0) (by kernel_rfl) UK.out
      rw [LKV.out] at this; exact this
    have lk6 := look6 W6 rfl
    obtain ⟨w7, es7, m7, on7⟩ := sto6 W6 (.int .i64 ((c : Int) + 1)) rfl
    have es7' : (Instr.entryStore 57 (.map (some gu)) (.int .i64 stp) (.int .i64 ((c : Int) + 1))).run Tryd.prog W6 = .ok () w7 := es7
    have me' : (Instr.mapEntry 57 (.map (some gu)) (.agg #[u0, u1, u2, u3, u4, u5, .int .i64 n])).run Tryd.prog w4.drew = .ok (.tuple #[.int .i64 c, .int .i64 stp]) W6 := me
    have uu5 := uu4.d1
    have lu5 := load_fact (P := Tryd.prog) uu5 127 0 (ys := [u0, u1, u2, u3, u4, u5, .int .i64 n]) rfl Tryd.underlying127 rfl (n := 7) (by kernel_rfl) rfl w4.drew (Below.refl _ _)
    have y5 := b4d.at_ 5 rfl
    have b6 := b4d.only on6 HH.out.ne
    have y56 := b6.at_ 5 rfl
    have b7 := b6.only on7 HH.out.ne
    have t7 : Turns (fun k => k = g ∨ k = gu) w w7 := (t4.d1.trans (Turns.of_only on6 (.inr rfl))).trans (Turns.of_only on7 (.inr rfl))
    have uu7 := (uu5.only on6 (by omega)).only on7 (by omega)
    have hz7 : w7.heap.size = w4.heap.size := by rw [on7.size, on6.size]; rfl
    have B7 := Lib.hid b7; have T7 := Lib.hid t7; have UU7 := Lib.hid uu7; have M7 := Lib.hid m7; have LU5 := Lib.hid lu5; have UU5 := Lib.hid uu5
    have y17 := b7.at_ 1 rfl
    clear t4 m4 uu4 b4 b4d me look6 sto6 es7 b6 b7 t7 uu7 m7 on6 on7 lu5 uu5 HM2 HD2 HU2
    refine region_plan ⟨[0, 1, 3, 7, 0, 31, 63, 31, 159, 511], [7, 9], [0, 0, 0, 0, 0, 0, 0, 0, 1, 1]⟩
      [⟨[0, 1, 2, 3, 4, 5, 6], [1, 2, 3, 4, 5, 6], some 7⟩, ⟨[8], [5, 6, 8], some 9⟩, ⟨[], [], none⟩] 95 (by kernel_rfl) (by kernel_rfl) (by kernel_rfl) (by kernel_rfl) rfl ?_
    simp only [SeqGo, opsAt_cons, opsAt_nil, List.getElem?_cons, Option.toList_some, List.singleton_append, ↓reduceIte, Nat.reduceEqDiff, Nat.reduceSub]
    go_wp2_with (refine wp_load_blk rfl 127 (.tmp 13) rfl rfl UU5.out Tryd.underlying127 rfl (n := 7) (by kernel_rfl) rfl ?_)
    refine ⟨by (simp only [Sames]; refine ⟨?_, ?_, ?_, ?_, ?_, ?_, trivial⟩ <;> first | exact same_load (by rfl) 127 (.tmp 13) rfl rfl LU5.out rfl | (simp only [Same]; go_simp)), ?_⟩
    go_wp2_with fail
    refine ⟨by (simp only [Sames, Same]; go_simp), ?_⟩
    go_wp2_with fail
    refine ⟨trivial, ?_⟩
    clear me' es7' lk5 lk6 y5 y56
    go_upto_region 12 with fail
    have b8 := B7.out.d1
    have t8 := T7.out.d1
    have y38 := b8.at_ 3 rfl
    have HTW := Lib.hid t8
    have nS : ∀ b, ¬ own b → ¬ (b = g ∨ b = gu) := fun b hb h => by
      rcases h with rfl | rfl
      · exact hb HH.out.og
      · exact hb HH.out.ogu
    have CLA := clone_any _ ad w7.drew (HRA.out.moves2 t8 fun hx b hb => nS b (hna (fun h => hx (by rw [h]; rfl)) b hb)) (by rw [HLA.out ()]; omega)
    have rt8 := HRT.out.moves2 t8 fun hx b hb => nS b (hnt (fun h => hx (by rw [h]; rfl)) b hb)
    have RT8 := Lib.hid rt8
    have uu8 := UU7.out.d1
    have LU8 := Lib.hid (fun (w' : World) (hb : Below w7.drew.heap.size w7.drew w') => load_fact (P := Tryd.prog) (uu8.stay hb) 127 0 (ys := [u0, u1, u2, u3, u4, u5, .int .i64 n]) rfl Tryd.underlying127 rfl (n := 7) (by kernel_rfl) rfl w' (Below.refl _ _))
    have UU8 := Lib.hid uu8; have B8 := Lib.hid b8
    have CLA := Lib.hid CLA
    clear b8 t8 nS rt8 uu8 y17
    have l8 := LU8.out _ (Below.refl _ _)
    refine region_plan ⟨[0, 1, 3, 0, 0, 16, 0, 112, 248, 0, 512, 1536, 4095, 8191, 16383], [5, 7, 12], [0, 0, 0, 0, 0, 0, 0, 1, 2, 0, 0, 0, 2, 3, 3]⟩
      [⟨[0, 1, 2, 3, 4, 6, 9, 10, 11], [1, 2, 3, 10, 11], some 5⟩, ⟨[], [1, 2, 3, 10, 11], some 7⟩, ⟨[8], [1, 2, 3, 8, 10, 11], some 12⟩, ⟨[13, 14], [], none⟩] 95 (by kernel_rfl) (by kernel_rfl) (by kernel_rfl) (by kernel_rfl) rfl ?_
    simp only [SeqGo, opsAt_cons, opsAt_nil, List.getElem?_cons, Option.toList_some, List.singleton_append, ↓reduceIte, Nat.reduceEqDiff, Nat.reduceSub]
    go_wp2_with (refine wp_load_blk rfl 127 (.tmp 13) rfl rfl UU8.out Tryd.underlying127 rfl (n := 7) (by kernel_rfl) rfl ?_)
    refine ⟨by (simp only [Sames]; refine ⟨?_, ?_, ?_, ?_, ?_, trivial⟩ <;> first | exact same_load (by rfl) 127 (.tmp 13) rfl rfl l8 rfl | (simp only [Same]; go_simp)), ?_⟩
    go_wp2_with (go_at_call 52; refine CLA.out.mono ?_; rintro e w9 ⟨va', rfl, hb9, ho9⟩; rw [HLA.out ()] at ho9; obtain ⟨Aa', ca', rfl⟩ := row_slice ho9)
    have CLT := Lib.hid (clone_any _ text w9 (RT8.out.stay hb9 (Nat.le_refl _)) (by rw [HLT.out ()]; omega))
    have l9 := LU8.out w9 hb9
    have hz9 := hb9.size
    refine ⟨by (simp only [Sames]; refine ⟨?_, ?_, ?_, ?_, ?_, trivial⟩ <;> first | exact same_load (by rfl) 127 (.tmp 13) rfl rfl l9 rfl | (simp only [Same]; go_simp)), ?_⟩
    clear l8 l9
    go_wp2_with (go_at_call 52; refine CLT.out.mono ?_; rintro e w10 ⟨vt', rfl, hb10, ho10⟩; rw [HLT.out ()] at ho10; obtain ⟨At', ct', rfl⟩ := row_slice ho10)
    have l10 := LU8.out w10 (bw_next hb9 hb10)
    have hz10 := hb10.size
    have t10 : Turns (fun k => k = g ∨ k = gu) w w10 := HTW.out.trans ((Turns.of_below hb9).trans (Turns.of_below hb10))
    have eC : EntS.cells ⟨⟨kid, n, ad, text⟩, .slice Aa' la ca', .slice At' lt ct'⟩ = [u0, u1, u2, u3, u4, u5, .int .i64 n, .slice Aa' la ca', .slice At' lt ct'] := by unfold EntS.cells; simp only [HKC.out ()]; rfl
    have esl : es.length = st.seals.length := by rw [← HH.out.seals, List.length_map]
    have PUT := putS_any w10 g _ vS B es ⟨⟨kid, n, ad, text⟩, .slice Aa' la ca', .slice At' lt ct'⟩ (lt + 16) ((B8.out.stay hb9).stay hb10) rfl (row_turns HH.out.rowS t10 fun b hb h => by
      have := HH.out.oS b hb
      rcases h with h | h
      · exact this.2.1 h
      · exact this.2.2 h) (by rw [esl]; exact hf.seals) (by have := HTW.out.size; omega) (fun b hb => (HH.out.oS b hb).2.1) (by omega) (by omega) (by
      rw [eC]
      intro y hy
      rcases List.mem_append.1 (show y ∈ [u0, u1, u2, u3, u4, u5] ++ [Value.int .i64 n, .slice Aa' la ca', .slice At' lt ct'] from hy) with h | h
      · exact K1.out y h
      · simp at h; rcases h with rfl | rfl | rfl <;> rfl)
    rw [eC] at PUT
    have eN : ((lt + 16 : Nat) : Int) = (lt : Int) + 16 := by omega
    rw [eN] at PUT
    have PUT := Lib.hid PUT
    have EC := Lib.hid eC
    have HO9 := Lib.hid ho9; have HO10 := Lib.hid ho10; have HB9 := Lib.hid hb9; have HB10 := Lib.hid hb10
    clear eC esl eN ho9 ho10 t10
    refine ⟨by (simp only [Sames]; refine ⟨?_, ?_, ?_, ?_, ?_, ?_, trivial⟩ <;> first | exact same_load (by rfl) 127 (.tmp 13) rfl rfl l10 rfl | (simp only [Same]; go_simp)), ?_⟩
    clear l10 hb9 hb10
    go_wp2_with (go_at_call 54; refine PUT.out.mono ?_; rintro e w' ⟨v, vS', rfl, p1, p2, p3, p4, p5, p6⟩)
    refine ⟨trivial, ?_⟩
    go_wp2_with fail
    all_goals (try go_ret2)
    rw [← HR.out ()]
    have esl : es.length = st.seals.length := by rw [← HH.out.seals, List.length_map]
    have fin := seal_fin HH.out T7.out M7.out (by have := HH.out.uses.put hid hn; rw [HUB.out (), HC.out ()] at this; exact this) (⟨HB9.out.os, HB9.out.tape, HB9.out.output, HB9.out.size, HB9.out.block⟩ : Below w7.heap.size w7 w9) (by rw [HLA.out ()]; exact HO9.out) HB10.out (by rw [HLT.out ()]; exact HO10.out) HA.out HT.out p1 (putL_len _ _ (by omega)) (by rw [HL.out (), HRP4.out ()]; first | exact p2 | (rw [show ((rp + 1 : Nat) : Int) = (rp : Int) + 1 by omega]; exact p2)) (by rw [EC.out]; exact p3) p4 p5 p6
    rw [esl] at fin
    exact fin
end Go.Proofs.YtdgpchacfdlleaaDoor
end

section
/-
  box: an ideal box marks.
-/
namespace Go.Proofs.YtdgpchacfdlleaaDoor
open Go.RowKit

set_option maxRecDepth 100000 in
set_option maxHeartbeats 4000000 in
theorem mark_ideal (w : World) (B g : Nat) (own : Nat → Prop) (sec : List Int) (st : BoxI) (kid : Kid) (vt : Value) (text : List Int) (h : BoxW w B own g sec true st) (hf : Few st)
    (hrt : Rd w vt (bs text)) (hT : IsB text) (hlt9 : text.length ≤ 70368744177664) :
    Calls Tryd.prog 22 #[.pointer (some ⟨g, 0, none⟩), .agg kid.cells.toArray, vt] w fun e w' => BoxRes w B own g sec true (markS st kid text).2.1 (markS st kid text).1 (markS st kid text).2.2 e w' := by
  obtain ⟨Z, hZ⟩ : ∃ Z, w.heap.size = Z := ⟨_, rfl⟩
  have HST := Lib.hid (fun (w' : World) (hb : Below w.heap.size w w') (code : Int) => BoxRes.stay h hb code)
  obtain ⟨R, hR⟩ : ∃ R : Ending → World → Prop, (fun e w' => BoxRes w B own g sec true (markS st kid text).2.1 (markS st kid text).1 (markS st kid text).2.2 e w') = R := ⟨_, rfl⟩
  rw [hR]
  have HR := Lib.hid (fun _ : Unit => hR)
  obtain ⟨gu, vs, vS, vM, us, es, ms, H⟩ := h
  have hdg := H.dom g H.og
  have hdu := H.dom gu H.ogu
  rw [hZ] at hdg hdu
  have ASK := Lib.hid (fun (w' : World) (hb : Below w.heap.size w w') => ask_any w' g _ kid 0 (H.head.stay hb) rfl)
  obtain ⟨r, hr⟩ : ∃ r, askB kid 0 = r := ⟨_, rfl⟩
  rw [hr] at ASK
  have HASK := Lib.hid (fun _ : Unit => hr)
  obtain ⟨kc, hkc⟩ : ∃ kc, kid.cells = kc := ⟨_, rfl⟩
  rw [hkc] at ASK ⊢
  have HKC := Lib.hid (fun _ : Unit => hkc)
  have hkl : kc.length = 6 := by rw [← hkc]; rfl
  have hk1 : ∀ y ∈ kc, y.oneCell' = true := by rw [← hkc]; intro y hy; simp [Kid.cells] at hy; rcases hy with rfl | rfl | rfl | rfl | rfl | rfl <;> rfl
  obtain ⟨u0, u1, u2, u3, u4, u5, rfl⟩ := len6 kc hkl
  have K1 := Lib.hid hk1
  clear hkl hk1 hkc hr hR
  obtain ⟨At, ct, rfl, hct, _⟩ := id hrt
  simp only [bs_len] at hrt hct ⊢
  obtain ⟨lt, hlt⟩ : ∃ l, text.length = l := ⟨_, rfl⟩
  rw [hlt] at hrt hct hlt9 ⊢
  have HRT := Lib.hid hrt; have HLT := Lib.hid (fun _ : Unit => hlt)
  have HT := Lib.hid hT; have HH := Lib.hid H
  clear hrt hlt hT
  go_enter Tryd.func22, Tryd.ntmps22
  go_upto_region 1 with fail
  obtain ⟨W, hW⟩ : ∃ W, w.alloc (.cells #[u0, u1, u2, u3, u4, u5] 23) = W := ⟨_, rfl⟩
  change Code.wp _ _ _ _ (w.alloc (.cells #[u0, u1, u2, u3, u4, u5] 23))
  have b0 : Blk W Z [u0, u1, u2, u3, u4, u5] 23 := by rw [← hW]; exact Blk.mk_ _ hZ.symm rfl
  have bb : Below Z w W := by rw [← hW]; exact bw_al (Below.refl _ _) (by omega) _
  have hz : W.heap.size = Z + 1 := by rw [← hW]; simp [hZ]
  rw [hW]
  clear hW
  rw [hZ] at HST
  have AW := Lib.hid (ASK.out W (by rw [hZ]; exact bb))
  clear H
  go_upto_region 2 with (first
    | (refine wp_load_blk rfl 23 (.tmp 4) rfl rfl b0 Tryd.underlying23 rfl (n := 6) (by kernel_rfl) rfl ?_)
    | (go_at_call 53; refine AW.out.mono ?_; rintro e w1 ⟨rfl, hb1⟩))
  have bb1 : Below Z w w1 := bw_then bb hb1 (by omega)
  have hz1 := hb1.size
  have k1 := b0.stay hb1
  have HB1 := Lib.hid bb1; have KK1 := Lib.hid k1
  clear bb bb1 k1 b0 hb1 AW
  by_cases hr0 : r ≠ 0
  · go_wp2_with fail
    all_goals (try go_ret2)
    rw [← HR.out ()]
    have e : markS st kid text = (r, [], st) := by
      have e1 : r = 1 := by have := HASK.out (); unfold askB at this; split at this <;> omega
      unfold markS; rw [if_pos (by rw [HASK.out ()]; exact hr0), e1]
    rw [e]
    exact HST.out _ HB1.out _
  obtain rfl : r = 0 := by omega
  clear hr0
  have hS := show markS st kid text = (0, putL st.marks.length 32, ⟨st.seals, st.marks ++ [⟨kid, text⟩], st.uses⟩) by unfold markS; rw [if_neg (by rw [HASK.out ()]; decide)]
  rw [hS] at HR
  clear hS
  have H1 := HH.out.stay (by rw [hZ]; exact HB1.out)
  have y1 := H1.head.at_ 1 rfl
  have HH1 := Lib.hid H1
  clear H1
  go_upto_region 5 with fail
  have k1d := KK1.out.d1
  have KK1d := Lib.hid k1d
  have LKd := Lib.hid (fun (w' : World) (hb : Below w1.drew.heap.size w1.drew w') => load_fact (P := Tryd.prog) (k1d.stay hb) 23 0 (ys := [u0, u1, u2, u3, u4, u5]) rfl Tryd.underlying23 rfl (n := 6) (by kernel_rfl) rfl w' (Below.refl _ _))
  have l1 := LKd.out _ (Below.refl _ _)
  have CLT := Lib.hid (clone_any _ text w1.drew (HRT.out.stay (bw_d1 HB1.out) (by omega)) (by rw [HLT.out ()]; omega))
  clear k1d
  refine region_plan ⟨[0, 1, 3, 0, 0, 16, 56, 127, 255, 511], [5, 7], [0, 0, 0, 0, 0, 0, 1, 1, 2, 2]⟩
    [⟨[0, 1, 2, 3, 4], [1, 2, 3], some 5⟩, ⟨[6], [1, 2, 3, 6], some 7⟩, ⟨[8, 9], [], none⟩] 36 (by kernel_rfl) (by kernel_rfl) (by kernel_rfl) (by kernel_rfl) rfl ?_
  simp only [SeqGo, opsAt_cons, opsAt_nil, List.getElem?_cons, Option.toList_some, List.singleton_append, ↓reduceIte, Nat.reduceEqDiff, Nat.reduceSub]
  go_wp2_with (refine wp_load_blk rfl 23 (.tmp 4) rfl rfl KK1d.out Tryd.underlying23 rfl (n := 6) (by kernel_rfl) rfl ?_)
  refine ⟨by (simp only [Sames]; refine ⟨?_, ?_, ?_, trivial⟩ <;> first | exact same_load (by rfl) 23 (.tmp 4) rfl rfl l1 rfl | (simp only [Same]; go_simp)), ?_⟩
  go_wp2_with (go_at_call 52; refine CLT.out.mono ?_; rintro e w9 ⟨vt', rfl, hb9, ho9⟩; rw [HLT.out ()] at ho9; obtain ⟨At', ct', rfl⟩ := row_slice ho9)
  have l9 := LKd.out w9 hb9
  have hz9 := hb9.size
  have hzd : w1.drew.heap.size = w1.heap.size := rfl
  have bw9 : Below w.heap.size w w9 := by rw [hZ]; exact bw_then (bw_d1 HB1.out) hb9 (by omega)
  have eC : EntM.cells ⟨⟨kid, text⟩, .slice At' lt ct'⟩ = [u0, u1, u2, u3, u4, u5, .slice At' lt ct'] := by unfold EntM.cells; simp only [HKC.out ()]; rfl
  have esl : ms.length = st.marks.length := by rw [← HH.out.marks, List.length_map]
  have H9 := HH.out.stay bw9
  have PUT := putM_any w9 g _ vM B ms ⟨⟨kid, text⟩, .slice At' lt ct'⟩ 32 H9.head rfl H9.rowM (by rw [esl]; exact hf.marks) (by omega) (fun b hb => (HH.out.oM b hb).2.1) (by omega) (by omega) (by
    rw [eC]
    intro y hy
    rcases List.mem_append.1 (show y ∈ [u0, u1, u2, u3, u4, u5] ++ [Value.slice At' lt ct'] from hy) with h | h
    · exact K1.out y h
    · simp at h; subst h; rfl)
  rw [eC] at PUT
  have PUT := Lib.hid PUT
  have EC := Lib.hid eC
  have HO9 := Lib.hid ho9; have HB9 := Lib.hid bw9
  clear eC esl ho9 bw9 H9
  refine ⟨by (simp only [Sames]; refine ⟨?_, ?_, ?_, ?_, trivial⟩ <;> first | exact same_load (by rfl) 23 (.tmp 4) rfl rfl l9 rfl | (simp only [Same]; go_simp)), ?_⟩
  clear l1 l9 hb9
  go_wp2_with (go_at_call 57; refine PUT.out.mono ?_; rintro e w' ⟨v, vS', rfl, p1, p2, p3, p4, p5, p6⟩)
  refine ⟨trivial, ?_⟩
  go_wp2_with fail
  all_goals (try go_ret2)
  rw [← HR.out ()]
  have esl : ms.length = st.marks.length := by rw [← HH.out.marks, List.length_map]
  have fin := mark_fin HH.out HB9.out (by rw [HLT.out ()]; exact ownsRow_mono HO9.out (by omega)) HT.out p1 (putL_len _ _ (by omega)) p2 (by rw [EC.out]; exact p3) p4 p5 p6
  rw [esl] at fin
  exact fin
end Go.Proofs.YtdgpchacfdlleaaDoor
end
