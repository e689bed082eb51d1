/-
  A region whose order Go leaves open: what holds of the operations that have come up, whatever the order. Plain Lean, no program in sight.
-/
import Derived.Orders
import Derived.Tactics
import Derived.Laws.World
import Derived.IntWalk
namespace Go.Proofs.Ytlgcnnhlbkidmaa
open Go

/-- An operation that hangs on none but such as stand ahead of it in the text. -/
def lowB (ops : Array Oper) : Bool := (List.range ops.size).all fun i => match ops[i]? with
  | some o => o.after.toList.all fun e => !Region.binds .any e || decide (e.on < i)
  | none => true

/-- What holds of those that have come up, whatever the order. -/
structure Came (ops : Array Oper) (l : Nat → Bool) : Prop where
  shut : ∀ j o, ops[j]? = some o → l j = true → ∀ e ∈ o.after, Region.binds .any e = true → l e.on = true

theorem inv_any {P : Program} {ops : Array Oper} {Q : Exit → Act → World → Prop} (hlow : lowB ops = true) (Inv : (Nat → Bool) → Act → World → Prop)
    (hstep : ∀ (l : Nat → Bool) (a : Act) (w : World) (i : Nat) (o : Oper), ops[i]? = some o → l i = false → (∀ e ∈ o.after, Region.binds .any e = true → l e.on = true) → Came ops l →
      Inv l a w → wpOp P ops Q i (fun a' w' => Inv (fun j => l j || j == i) a' w') a w)
    (hend : ∀ (l : Nat → Bool) (a : Act) (w : World), (∀ i, i < ops.size → l i = true) → Inv l a w → Q .normal a w) :
    ∀ (fuel : Nat) (listed : Array Bool) (a : Act) (w : World), listed.size = ops.size → Came ops (fun j => listed.getD j false) →
      ((List.range ops.size).filter fun i => !listed.getD i false).length ≤ fuel → Inv (fun j => listed.getD j false) a w → wpAny P .any ops Q fuel listed a w := by
  have hready : ∀ listed : Array Bool, listed.size = ops.size → Region.ready .any ops listed = [] → ∀ i, i < ops.size → listed.getD i false = true := by
    intro listed hsz hr i
    induction i using Nat.strongRecOn with
    | ind i ih =>
      intro hi
      cases hl : listed.getD i false with
      | true => rfl
      | false =>
        exfalso
        have hmem : i ∈ Region.ready .any ops listed := by
          refine mem_ready.2 ⟨?_, ops[i], Array.getElem?_eq_getElem hi, ?_⟩
          · simp only [Array.getD_eq_getD_getElem?] at hl ⊢
            rw [Array.getElem?_eq_getElem (by omega)] at hl ⊢
            simpa using hl
          · intro e he hb
            have h1 := List.all_eq_true.1 hlow i (List.mem_range.2 hi)
            rw [Array.getElem?_eq_getElem hi] at h1
            have h2 := List.all_eq_true.1 h1 e (by simpa using he)
            rw [hb] at h2
            have h3 : e.on < i := by simpa using h2
            exact ih e.on h3 (by omega)
        rw [hr] at hmem
        cases hmem
  intro fuel
  induction fuel with
  | zero =>
    intro listed a w hsz hc hf hi
    have hall : ∀ i, i < ops.size → listed.getD i false = true := by
      intro i hi'
      cases hl : listed.getD i false with
      | true => rfl
      | false =>
        exfalso
        have : i ∈ (List.range ops.size).filter fun i => !listed.getD i false := by simp only [List.mem_filter, List.mem_range]; exact ⟨hi', by rw [hl]; rfl⟩
        have := List.length_pos_of_mem this
        omega
    refine ⟨?_, hend _ a w hall hi⟩
    cases hr : Region.ready .any ops listed with
    | nil => rfl
    | cons x xs =>
      have hx : x ∈ Region.ready .any ops listed := by rw [hr]; simp
      obtain ⟨h1, o, ho, _⟩ := mem_ready.1 hx
      have hxs : x < ops.size := (Array.getElem?_eq_some_iff.1 ho).1
      have h2 := hall x hxs
      simp only [Array.getD_eq_getD_getElem?] at h1 h2
      rw [Array.getElem?_eq_getElem (by omega)] at h1 h2
      simp at h1 h2
      rw [h1] at h2; cases h2
  | succ fuel ih =>
    intro listed a w hsz hc hf hi
    refine ⟨fun hr => hend _ a w (hready listed hsz hr) hi, fun i hmem => ?_⟩
    obtain ⟨h1, o, ho, hall⟩ := mem_ready.1 hmem
    have his : i < ops.size := (Array.getElem?_eq_some_iff.1 ho).1
    have hli : listed.getD i false = false := by
      simp only [Array.getD_eq_getD_getElem?] at h1 ⊢
      rw [Array.getElem?_eq_getElem (by omega)] at h1 ⊢
      simpa using h1
    have hnew : (fun j => (listed.setIfInBounds i true).getD j false) = (fun j => listed.getD j false || j == i) := by
      funext j
      by_cases hji : j = i
      · subst hji
        simp [Array.getD_eq_getD_getElem?, hsz, his]
      · simp [Array.getD_eq_getD_getElem?, Ne.symm hji, hji]
    refine wpOp_mono (fun a' w' h => ih (listed.setIfInBounds i true) a' w' (by simpa using hsz) ?_ ?_ ?_) (hstep _ a w i o ho hli hall hc hi)
    · rw [hnew]
      refine ⟨fun j oj hj hl e he hb => ?_⟩
      simp only [Bool.or_eq_true, beq_iff_eq] at hl ⊢
      rcases hl with hl | rfl
      · exact .inl (hc.shut j oj hj hl e he hb)
      · rw [ho] at hj; cases hj
        exact .inl (hall e he hb)
    · have : ((List.range ops.size).filter fun j => !(listed.setIfInBounds i true).getD j false).length < ((List.range ops.size).filter fun j => !listed.getD j false).length := by
        have h3 : ((List.range ops.size).filter fun j => !(listed.setIfInBounds i true).getD j false) = ((List.range ops.size).filter fun j => !listed.getD j false).filter (fun j => !(j == i)) := by
          rw [List.filter_filter]
          apply List.filter_congr
          intro j _
          have hj : (listed.setIfInBounds i true).getD j false = (listed.getD j false || j == i) := congrFun hnew j
          rw [hj]
          cases listed.getD j false <;> cases (j == i) <;> rfl
        rw [h3]
        refine List.length_filter_lt_length_iff_exists.2 ⟨i, ?_, by simp⟩
        simp only [List.mem_filter, List.mem_range]
        exact ⟨his, by rw [hli]; rfl⟩
      omega
    · rw [hnew]; exact h

/-- A region that draws its order, by what holds of those that have come up. -/
theorem region_inv {P : Program} {ops : Array Oper} {Q : Exit → Act → World → Prop} {id : Nat} {a : Act} {w : World} (hm : P.follows .mixedOrders = true) (hlow : lowB ops = true) (Inv : (Nat → Bool) → Act → World → Prop)
    (h0 : Inv (fun _ => false) a w.drew)
    (hstep : ∀ (l : Nat → Bool) (a : Act) (w : World) (i : Nat) (o : Oper), ops[i]? = some o → l i = false → (∀ e ∈ o.after, Region.binds .any e = true → l e.on = true) → Came ops l →
      Inv l a w → wpOp P ops Q i (fun a' w' => Inv (fun j => l j || j == i) a' w') a w)
    (hend : ∀ (l : Nat → Bool) (a : Act) (w : World), (∀ i, i < ops.size → l i = true) → Inv l a w → Q .normal a w) : (Code.region id ops true).wp P Q a w := by
  refine wp_region_any hm (inv_any hlow Inv hstep hend ops.size _ a _ (by simp) ⟨fun j o _ hl => ?_⟩ ?_ ?_)
  · exfalso
    have : (Array.replicate ops.size false).getD j false = false := by
      simp only [Array.getD_eq_getD_getElem?, Array.getElem?_replicate]
      split <;> rfl
    have hl' : (Array.replicate ops.size false).getD j false = true := hl
    rw [this] at hl'
    cases hl'
  · exact Nat.le_trans (List.length_filter_le _ _) (by simp)
  · have : (fun j => (Array.replicate ops.size false).getD j false) = fun _ => false := by
      funext j
      simp only [Array.getD_eq_getD_getElem?, Array.getElem?_replicate]
      split <;> rfl
    rw [this]; exact h0

/-! ### The same, where each operation's value is known ahead, but for those of a few -/
/-- The slots that are written ahead: each by one operation. -/
def fillP (a : Act) (puts : List (Nat × Value)) : Act := puts.foldl (fun a p => a.put (some p.1) p.2) a
def fillT (a : Act) (gs : List Nat) (T : Nat → Value) : Act := gs.foldl (fun a t => a.put (some t) (T t)) a

theorem put_size (a : Act) (d : Option Tmp) (v : Value) : (a.put d v).tmps.size = a.tmps.size := by cases d <;> simp [Act.put]
theorem put_defers (a : Act) (d : Option Tmp) (v : Value) : (a.put d v).defers = a.defers := by cases d <;> rfl
theorem put_get_ne (a : Act) (d t : Nat) (v : Value) (h : d ≠ t) : (a.put (some d) v).tmps[t]? = a.tmps[t]? := by simp [Act.put, Array.getElem?_setIfInBounds_ne h]
theorem put_get_same (a : Act) (d : Nat) (v : Value) (h : d < a.tmps.size) : (a.put (some d) v).tmps[d]? = some v := by simp [Act.put, h]

theorem fillP_size (puts : List (Nat × Value)) : ∀ a : Act, (fillP a puts).tmps.size = a.tmps.size := by
  induction puts with
  | nil => intro a; rfl
  | cons p ps ih => intro a; simp only [fillP, List.foldl_cons] at ih ⊢; rw [ih, put_size]
theorem fillP_defers (puts : List (Nat × Value)) : ∀ a : Act, (fillP a puts).defers = a.defers := by
  induction puts with
  | nil => intro a; rfl
  | cons p ps ih => intro a; simp only [fillP, List.foldl_cons] at ih ⊢; rw [ih, put_defers]
theorem fillP_other (puts : List (Nat × Value)) (t : Nat) : ∀ a : Act, t ∉ puts.map (·.1) → (fillP a puts).tmps[t]? = a.tmps[t]? := by
  induction puts with
  | nil => intro a _; rfl
  | cons p ps ih =>
    intro a h
    simp only [List.map_cons, List.mem_cons, not_or] at h
    have := ih (a.put (some p.1) p.2) h.2
    simp only [fillP, List.foldl_cons] at this ⊢
    rw [this, put_get_ne _ _ _ _ (Ne.symm h.1)]
theorem fillP_in (puts : List (Nat × Value)) (d : Nat) (v : Value) : ∀ a : Act, (puts.map (·.1)).Nodup → (d, v) ∈ puts → d < a.tmps.size → (fillP a puts).tmps[d]? = some v := by
  induction puts with
  | nil => intro a _ h; cases h
  | cons p ps ih =>
    intro a hn hm hd
    simp only [List.map_cons, List.nodup_cons] at hn
    simp only [fillP, List.foldl_cons]
    rcases List.mem_cons.1 hm with rfl | hm
    · have := fillP_other ps d (a.put (some d) v) hn.1
      simp only [fillP] at this
      rw [this, put_get_same _ _ _ hd]
    · exact ih (a.put (some p.1) p.2) hn.2 hm (by rw [put_size]; exact hd)
theorem fillT_eq (gs : List Nat) (T : Nat → Value) : ∀ a : Act, fillT a gs T = fillP a (gs.map fun t => (t, T t)) := by
  induction gs with
  | nil => intro a; rfl
  | cons g gs ih => intro a; simp only [fillT, fillP, List.foldl_cons, List.map_cons] at ih ⊢; exact ih _

theorem act_ext {a b : Act} (h1 : a.defers = b.defers) (h2 : a.tmps.size = b.tmps.size) (h3 : ∀ t, t < a.tmps.size → a.tmps[t]? = b.tmps[t]?) : a = b := by
  cases a with
  | mk t1 d1 =>
    cases b with
    | mk t2 d2 =>
      simp only at h1 h2 h3
      subst h1
      congr 1
      apply Array.ext_getElem?
      intro i
      by_cases hi : i < t1.size
      · exact h3 i hi
      · rw [Array.getElem?_eq_none (by omega), Array.getElem?_eq_none (by omega)]

/-- Every slot that is written is written by one operation alone; what an operation looks at was written ahead of it, or by none. -/
def flowB (ops : Array Oper) (ps gs : List Nat) (olds : Nat → List Nat) (N : Nat) : Bool :=
  let n := ops.size
  let dst (j : Nat) : Option Nat := (ops[j]?).bind (·.dst)
  let waits (o : Oper) (j : Nat) : Bool := o.after.toList.any fun e => e.on == j && Region.binds .any e
  decide ((ps ++ gs).Nodup) && (ps ++ gs).all (fun t => decide (t < N) && (List.range n).any fun j => dst j == some t) &&
  (List.range n).all fun i => match ops[i]? with
    | none => true
    | some o =>
      (match o.dst with | none => true | some d => (ps ++ gs).contains d) &&
      (List.range n).all (fun j => i == j || dst i == none || !(dst i == dst j)) &&
      (o.looksAt ops).all (fun t => !(ps ++ gs).contains t || (if (olds i).contains t then (List.range n).any fun j => dst j == some t && (j == i || (match ops[j]? with | some oj => waits oj i | none => false))
        else (List.range n).any fun j => dst j == some t && waits o j)) &&
      (match o.op with | .select .. => false | _ => true)

/-- The operations that are not known ahead. -/
def effB (ops : Array Oper) (ps : List Nat) (i : Nat) : Bool := match (ops[i]?).bind (·.dst) with
  | some d => !ps.contains d
  | none => true

theorem execOp_same (o : Oper) (hs : ∀ cs b, o.op ≠ .select cs b) {ops : Array Oper} {a b : Act} (h : ∀ t ∈ o.looksAt ops, a.tmps[t]? = b.tmps[t]?) : execOp a.eval o = execOp b.eval o :=
  execOp_congr o hs fun x hx => by
    cases x with
    | tmp t =>
      have := h t (List.mem_append_left _ (List.mem_filterMap.2 ⟨.tmp t, by simpa using hx, rfl⟩))
      simp only [Act.eval, Array.getD_eq_getD_getElem?, this]
    | const v => rfl
    | global g => rfl
    | func f => rfl
theorem wanted_same (o : Oper) {ops : Array Oper} {a b : Act} (h : ∀ t ∈ o.looksAt ops, a.tmps[t]? = b.tmps[t]?) : Region.wanted o (yielded ops a.tmps) = Region.wanted o (yielded ops b.tmps) := by
  unfold Region.wanted
  cases hg : o.guard with
  | none => rfl
  | some gw =>
    obtain ⟨g, want⟩ := gw
    have hy : yielded ops a.tmps g = yielded ops b.tmps g := by
      unfold yielded
      cases ht : (ops[g]?).bind (·.dst) with
      | none => rfl
      | some t =>
        have := h t (by simp [Oper.looksAt, hg, ht])
        simp [this]
    simp only [hy]

/-- The frame that an operation sees: the slots 'os' as they were. -/
def seenA (a0 : Act) (puts : List (Nat × Value)) (gs os : List Nat) (T : Nat → Value) : Act :=
  fillT (fillP a0 (puts.filter fun p => !os.contains p.1)) (gs.filter fun t => !os.contains t) T

theorem seenA_get {a0 : Act} {puts : List (Nat × Value)} {gs : List Nat} (os : List Nat) (T : Nat → Value) {N : Nat} (hN : a0.tmps.size = N) (hnp : (puts.map (·.1)).Nodup) (hng : gs.Nodup) (hpg : ∀ t, t ∈ puts.map (·.1) → t ∉ gs)
    (hltN : ∀ t, t ∈ puts.map (·.1) ∨ t ∈ gs → t < N) :
    (∀ t, t ∉ puts.map (·.1) → t ∉ gs → (seenA a0 puts gs os T).tmps[t]? = a0.tmps[t]?) ∧ (∀ t, t ∈ os → (seenA a0 puts gs os T).tmps[t]? = a0.tmps[t]?) ∧
    (∀ d v, (d, v) ∈ puts → d ∉ os → (seenA a0 puts gs os T).tmps[d]? = some v) ∧ (∀ d, d ∈ gs → d ∉ os → (seenA a0 puts gs os T).tmps[d]? = some (T d)) := by
  have hgm : ((gs.filter fun t => !os.contains t).map fun t => (t, T t)).map (·.1) = gs.filter fun t => !os.contains t := by rw [List.map_map]; exact List.map_id _
  have hpm : ∀ d, d ∈ (puts.filter fun p => !os.contains p.1).map (·.1) → d ∈ puts.map (·.1) ∧ d ∉ os := fun d h => by
    obtain ⟨x, hx, rfl⟩ := List.mem_map.1 h
    obtain ⟨h1, h2⟩ := List.mem_filter.1 hx
    exact ⟨List.mem_map.2 ⟨x, h1, rfl⟩, by simpa using h2⟩
  have hgm2 : ∀ d, d ∈ (gs.filter fun t => !os.contains t) → d ∈ gs ∧ d ∉ os := fun d h => by
    obtain ⟨h1, h2⟩ := List.mem_filter.1 h
    exact ⟨h1, by simpa using h2⟩
  have hnp' : ((puts.filter fun p => !os.contains p.1).map (·.1)).Nodup := hnp.sublist (List.Sublist.map _ List.filter_sublist)
  have hng' : (gs.filter fun t => !os.contains t).Nodup := hng.sublist List.filter_sublist
  unfold seenA
  refine ⟨fun t h1 h2 => ?_, fun t h => ?_, fun d v h ho => ?_, fun d h ho => ?_⟩
  · rw [fillT_eq, fillP_other _ _ _ (by rw [hgm]; exact fun h => h2 (hgm2 t h).1), fillP_other _ _ _ fun h => h1 (hpm t h).1]
  · rw [fillT_eq, fillP_other _ _ _ (by rw [hgm]; exact fun h2 => (hgm2 t h2).2 h), fillP_other _ _ _ fun h2 => (hpm t h2).2 h]
  · have hd : d ∈ puts.map (·.1) := List.mem_map.2 ⟨(d, v), h, rfl⟩
    rw [fillT_eq, fillP_other _ _ _ (by rw [hgm]; exact fun h2 => hpg d hd (hgm2 d h2).1)]
    exact fillP_in _ _ _ _ hnp' (List.mem_filter.2 ⟨h, by simpa using ho⟩) (by rw [hN]; exact hltN d (.inl hd))
  · rw [fillT_eq]
    exact fillP_in _ _ _ _ (by rw [hgm]; exact hng') (List.mem_map.2 ⟨d, List.mem_filter.2 ⟨h, by simpa using ho⟩, rfl⟩) (by rw [fillP_size, hN]; exact hltN d (.inr h))

/-- What is known of the frame and the world while a region is under way. -/
structure Flow (ops : Array Oper) (a0 : Act) (puts : List (Nat × Value)) (gs : List Nat) (G : (Nat → Bool) → (Nat → Value) → World → Prop) (l : Nat → Bool) (T : Nat → Value) (a : Act) (w : World) : Prop where
  defers : a.defers = a0.defers
  size : a.tmps.size = a0.tmps.size
  free : ∀ t, (∀ (i : Nat) (o : Oper), l i = true → ops[i]? = some o → o.dst ≠ some t) → a.tmps[t]? = a0.tmps[t]?
  known : ∀ (i : Nat) (o : Oper) d v, l i = true → ops[i]? = some o → o.dst = some d → (d, v) ∈ puts → a.tmps[d]? = some v
  ghost : ∀ (i : Nat) (o : Oper) d, l i = true → ops[i]? = some o → o.dst = some d → d ∈ gs → a.tmps[d]? = some (T d)
  world : G (fun j => l j && effB ops (puts.map (·.1)) j) T w

theorem region_flow {P : Program} {ops : Array Oper} {Q : Exit → Act → World → Prop} {id : Nat} {a0 : Act} {w : World} (hm : P.follows .mixedOrders = true) (hlow : lowB ops = true)
    (puts : List (Nat × Value)) (gs : List Nat) (olds : Nat → List Nat) (N : Nat) (hN : a0.tmps.size = N) (hB : flowB ops (puts.map (·.1)) gs olds N = true) (G : (Nat → Bool) → (Nat → Value) → World → Prop) (T0 : Nat → Value)
    (h0 : G (fun _ => false) T0 w.drew)
    (hfl : ∀ (L : Nat → Bool) (T : Nat → Value) (w : World) (i : Nat) (o : Oper) (d : Nat) (v : Value), ops[i]? = some o → o.dst = some d → (d, v) ∈ puts →
      (∀ e ∈ o.after, Region.binds .any e = true → effB ops (puts.map (·.1)) e.on = true → L e.on = true) →
      (∀ (j : Nat) (oj : Oper), L j = true → ops[j]? = some oj → ∀ e ∈ oj.after, Region.binds .any e = true → e.on ≠ i) → G L T w →
      (Region.wanted o (yielded ops (seenA a0 puts gs (olds i) T).tmps) = true ∧ (execOp (seenA a0 puts gs (olds i) T).eval o).run P w = .ok (.value v) w) ∨
      (Region.wanted o (yielded ops (seenA a0 puts gs (olds i) T).tmps) = false ∧ v = undef))
    (heff : ∀ (L : Nat → Bool) (T : Nat → Value) (w : World) (i : Nat) (o : Oper), ops[i]? = some o → effB ops (puts.map (·.1)) i = true → L i = false →
      (∀ e ∈ o.after, Region.binds .any e = true → effB ops (puts.map (·.1)) e.on = true → L e.on = true) →
      (∀ (j : Nat) (oj : Oper), L j = true → ops[j]? = some oj → ∀ e ∈ oj.after, Region.binds .any e = true → e.on ≠ i) → G L T w →
      (Region.wanted o (yielded ops (seenA a0 puts gs (olds i) T).tmps) = true ∧ ∀ (a : Act) (K : Act → World → Prop),
        (∀ v w', G (fun j => L j || j == i) (fun t => if o.dst = some t then v else T t) w' → K (a.put o.dst v) w') → o.upon P a K Q ((execOp (seenA a0 puts gs (olds i) T).eval o).run P w)) ∨
      (Region.wanted o (yielded ops (seenA a0 puts gs (olds i) T).tmps) = false ∧ G (fun j => L j || j == i) (fun t => if o.dst = some t then undef else T t) w))
    (hend : ∀ (L : Nat → Bool) (T : Nat → Value) (w : World), (∀ i, i < ops.size → effB ops (puts.map (·.1)) i = true → L i = true) → G L T w → Q .normal (fillT (fillP a0 puts) gs T) w) :
    (Code.region id ops true).wp P Q a0 w := by
  simp only [flowB, Bool.and_eq_true, decide_eq_true_eq] at hB
  obtain ⟨⟨hnd, hlt⟩, hops⟩ := hB
  have hltN : ∀ t, t ∈ puts.map (·.1) ∨ t ∈ gs → t < N := fun t ht => by
    have := List.all_eq_true.1 hlt t (List.mem_append.2 ht)
    simp only [Bool.and_eq_true, decide_eq_true_eq] at this
    exact this.1
  have hwr : ∀ t, t ∈ puts.map (·.1) ∨ t ∈ gs → ∃ (j : Nat) (o : Oper), j < ops.size ∧ ops[j]? = some o ∧ o.dst = some t := fun t ht => by
    have := List.all_eq_true.1 hlt t (List.mem_append.2 ht)
    simp only [Bool.and_eq_true, List.any_eq_true, List.mem_range, beq_iff_eq] at this
    obtain ⟨_, j, hj, hd⟩ := this
    refine ⟨j, ops[j], hj, Array.getElem?_eq_getElem hj, ?_⟩
    rw [Array.getElem?_eq_getElem hj] at hd
    simpa using hd
  have hnp : (puts.map (·.1)).Nodup := (List.nodup_append.1 hnd).1
  have hng : gs.Nodup := (List.nodup_append.1 hnd).2.1
  have hpg : ∀ t, t ∈ puts.map (·.1) → t ∉ gs := fun t h1 h2 => (List.nodup_append.1 hnd).2.2 t h1 t h2 rfl
  have hop : ∀ (i : Nat) (o : Oper), ops[i]? = some o → (∀ d, o.dst = some d → d ∈ puts.map (·.1) ∨ d ∈ gs) ∧ (∀ (j : Nat) (oj : Oper) d, i ≠ j → ops[j]? = some oj → o.dst = some d → oj.dst ≠ some d) ∧
      (∀ t ∈ o.looksAt ops, t ∉ puts.map (·.1) ∧ t ∉ gs ∨ (t ∈ olds i ∧ ∃ (j : Nat) (oj : Oper), ops[j]? = some oj ∧ oj.dst = some t ∧ (j = i ∨ ∃ e ∈ oj.after, e.on = i ∧ Region.binds .any e = true)) ∨
        (t ∉ olds i ∧ ∃ (j : Nat) (oj : Oper) (e : Edge), ops[j]? = some oj ∧ oj.dst = some t ∧ e ∈ o.after ∧ e.on = j ∧ Region.binds .any e = true)) ∧ (∀ cs b, o.op ≠ .select cs b) := by
    intro i o ho
    have hi : i < ops.size := (Array.getElem?_eq_some_iff.1 ho).1
    have h1 := List.all_eq_true.1 hops i (List.mem_range.2 hi)
    rw [ho] at h1
    simp only [Bool.and_eq_true] at h1
    obtain ⟨⟨⟨h1, h2⟩, h3⟩, h4⟩ := h1
    refine ⟨fun d hd => ?_, fun j oj d hij hj hd hd' => ?_, fun t ht => ?_, fun cs b hsel => ?_⟩
    · rw [hd] at h1
      simpa using h1
    · have hjs : j < ops.size := (Array.getElem?_eq_some_iff.1 hj).1
      have := List.all_eq_true.1 h2 j (List.mem_range.2 hjs)
      simp [hj, hd, hd', hij] at this
    · have := List.all_eq_true.1 h3 t ht
      by_cases hto : t ∈ olds i
      · rw [if_pos (by simpa using hto)] at this
        simp only [Bool.or_eq_true, Bool.not_eq_true', List.contains_eq_mem, decide_eq_false_iff_not, List.mem_append, not_or, List.any_eq_true, List.mem_range, Bool.and_eq_true, beq_iff_eq] at this
        rcases this with h | ⟨j, hj, hd, hw⟩
        · exact .inl h
        · rw [Array.getElem?_eq_getElem hj] at hd hw
          refine .inr (.inl ⟨hto, j, ops[j], Array.getElem?_eq_getElem hj, by simpa using hd, hw.imp (fun h => h) fun hw => ?_⟩)
          simp only [List.any_eq_true, Bool.and_eq_true, beq_iff_eq] at hw
          obtain ⟨e, he, h1, h2⟩ := hw
          exact ⟨e, by simpa using he, h1, h2⟩
      · rw [if_neg (by simpa using hto)] at this
        simp only [Bool.or_eq_true, Bool.not_eq_true', List.contains_eq_mem, decide_eq_false_iff_not, List.mem_append, not_or, List.any_eq_true, List.mem_range, Bool.and_eq_true, beq_iff_eq, Array.mem_toList_iff] at this
        rcases this with h | ⟨j, hj, hd, e, he, hej, hb⟩
        · exact .inl h
        · refine .inr (.inr ⟨hto, j, ops[j], e, Array.getElem?_eq_getElem hj, ?_, he, hej, hb⟩)
          rw [Array.getElem?_eq_getElem hj] at hd
          simpa using hd
    · rw [hsel] at h4; cases h4
  have hfin : ∀ (T : Nat → Value), (∀ t, t ∉ puts.map (·.1) → t ∉ gs → (fillT (fillP a0 puts) gs T).tmps[t]? = a0.tmps[t]?) ∧ (∀ d v, (d, v) ∈ puts → (fillT (fillP a0 puts) gs T).tmps[d]? = some v) ∧ (∀ d, d ∈ gs → (fillT (fillP a0 puts) gs T).tmps[d]? = some (T d)) := by
    intro T
    have hgm : (gs.map fun t => (t, T t)).map (·.1) = gs := by rw [List.map_map]; exact List.map_id gs
    refine ⟨fun t h1 h2 => ?_, fun d v h => ?_, fun d h => ?_⟩
    · rw [fillT_eq, fillP_other _ _ _ (by rw [hgm]; exact h2), fillP_other _ _ _ h1]
    · have hd : d ∈ puts.map (·.1) := List.mem_map.2 ⟨(d, v), h, rfl⟩
      rw [fillT_eq, fillP_other _ _ _ (by rw [hgm]; exact hpg d hd)]
      exact fillP_in _ _ _ _ hnp h (by rw [hN]; exact hltN d (.inl hd))
    · rw [fillT_eq]
      exact fillP_in _ _ _ _ (by rw [hgm]; exact hng) (List.mem_map.2 ⟨d, h, rfl⟩) (by rw [fillP_size, hN]; exact hltN d (.inr h))
  refine region_inv hm hlow (fun l a w => ∃ T, Flow ops a0 puts gs G l T a w) ?_ ?_ ?_
  · exact ⟨T0, ⟨rfl, rfl, fun _ _ => rfl, fun i o d v h => (nomatch h), fun i o d h => (nomatch h), by simpa using h0⟩⟩
  · rintro l a w i o ho hli hpre hcame ⟨T, hF⟩
    obtain ⟨hd1, hd2, hlook, hsel⟩ := hop i o ho
    have hsn := seenA_get (a0 := a0) (puts := puts) (gs := gs) (olds i) T hN hnp hng hpg hltN
    have hsame : ∀ t ∈ o.looksAt ops, a.tmps[t]? = (seenA a0 puts gs (olds i) T).tmps[t]? := by
      intro t ht
      rcases hlook t ht with ⟨h1, h2⟩ | ⟨hto, j, oj, hj, hdj, hw⟩ | ⟨hto, j, oj, e, hj, hdj, he, rfl, hb⟩
      · rw [hsn.1 t h1 h2]
        refine hF.free t fun i' o' hl' ho' hd' => ?_
        rcases (hop i' o' ho').1 t hd' with h | h
        · exact h1 h
        · exact h2 h
      · rw [hsn.2.1 t hto]
        refine hF.free t fun i' o' hl' ho' hd' => ?_
        by_cases hji : j = i'
        · subst hji
          rcases hw with rfl | ⟨e, he, rfl, hb⟩
          · rw [hli] at hl'; cases hl'
          · have := hcame.shut j oj hj hl' e he hb
            rw [hli] at this; cases this
        · exact (hop j oj hj).2.1 i' o' t hji ho' hdj hd'
      · have hl := hpre e he hb
        rcases (hop _ oj hj).1 t hdj with h | h
        · obtain ⟨⟨d, v⟩, hp, rfl⟩ := List.mem_map.1 h
          rw [hF.known _ oj d v hl hj hdj hp, hsn.2.2.1 d v hp hto]
        · rw [hF.ghost _ oj t hl hj hdj h, hsn.2.2.2 t h hto]
    have hex := execOp_same o hsel hsame
    have hwant := wanted_same o hsame
    have hL1 : ∀ e ∈ o.after, Region.binds .any e = true → effB ops (puts.map (·.1)) e.on = true → (fun j => l j && effB ops (puts.map (·.1)) j) e.on = true := fun e he hb h => by simp [hpre e he hb, h]
    have hL2 : ∀ (j : Nat) (oj : Oper), (fun j => l j && effB ops (puts.map (·.1)) j) j = true → ops[j]? = some oj → ∀ e ∈ oj.after, Region.binds .any e = true → e.on ≠ i := fun j oj hj hoj e he hb heq => by
      have hlj : l j = true := by simp only [Bool.and_eq_true] at hj; exact hj.1
      have := hcame.shut j oj hoj hlj e he hb
      rw [heq, hli] at this; cases this
    unfold wpOp
    simp only [ho]
    by_cases he : effB ops (puts.map (·.1)) i = true
    · have hnew : (fun j => (l j || j == i) && effB ops (puts.map (·.1)) j) = fun j => (l j && effB ops (puts.map (·.1)) j) || j == i := by
        funext j
        by_cases hji : j = i
        · subst hji; simp [he]
        · have hb : (j == i) = false := by simpa using hji
          simp only [hb, Bool.or_false]
      have hstep : ∀ v w', G (fun j => (l j && effB ops (puts.map (·.1)) j) || j == i) (fun t => if o.dst = some t then v else T t) w' → ∃ T', Flow ops a0 puts gs G (fun j => l j || j == i) T' (a.put o.dst v) w' := by
        intro v w' hG
        have hnotp : ∀ d, o.dst = some d → d ∉ puts.map (·.1) := fun d hd hp => by
          simp [effB, ho, hd] at he
          simp at hp
          obtain ⟨x, hx⟩ := hp
          exact he x hx
        refine ⟨_, by rw [put_defers, hF.defers], by rw [put_size, hF.size], fun t h1 => ?_, fun j oj d v' hj hoj hd hp => ?_, fun j oj d hj hoj hd hg => ?_, by rw [hnew]; exact hG⟩
        · have hfr := hF.free t fun i' o' hl' ho' => h1 i' o' (by simp [hl']) ho'
          cases hdo : o.dst with
          | none => exact hfr
          | some d =>
            have : d ≠ t := fun hdt => h1 i o (by simp) ho (by rw [hdo, hdt])
            rw [put_get_ne _ _ _ _ this, hfr]
        · simp only [Bool.or_eq_true, beq_iff_eq] at hj
          have hdp : d ∈ puts.map (·.1) := List.mem_map.2 ⟨(d, v'), hp, rfl⟩
          rcases hj with hj | rfl
          · cases hdo : o.dst with
            | none => exact hF.known j oj d v' hj hoj hd hp
            | some d' =>
              have : d' ≠ d := fun h => hnotp d' hdo (by rw [h]; exact hdp)
              rw [put_get_ne _ _ _ _ this]; exact hF.known j oj d v' hj hoj hd hp
          · rw [ho] at hoj; cases hoj
            exact absurd hdp (hnotp d hd)
        · simp only [Bool.or_eq_true, beq_iff_eq] at hj
          by_cases hod : o.dst = some d
          · rw [hod, if_pos rfl]
            exact put_get_same _ _ _ (by rw [hF.size, hN]; exact hltN d (.inr hg))
          · rw [if_neg hod]
            rcases hj with hj | rfl
            · cases hdo : o.dst with
              | none => exact hF.ghost j oj d hj hoj hd hg
              | some d' =>
                have : d' ≠ d := fun h => hod (by rw [hdo, h])
                rw [put_get_ne _ _ _ _ this]; exact hF.ghost j oj d hj hoj hd hg
            · rw [ho] at hoj; cases hoj
              exact absurd hd hod
      rcases heff _ T w i o ho he (by simp [hli]) hL1 hL2 hF.world with ⟨hw, hup⟩ | ⟨hw, hG⟩
      · rw [hwant, if_pos hw]
        refine .inl ?_
        unfold Oper.wp
        rw [hex]
        exact hup a _ hstep
      · rw [hwant, if_neg (by rw [hw]; simp)]
        exact hstep undef w hG
    · have hne : effB ops (puts.map (·.1)) i = false := by simpa using he
      obtain ⟨d, hd, hdp⟩ : ∃ d, o.dst = some d ∧ d ∈ puts.map (·.1) := by
        unfold effB at hne
        rw [ho] at hne
        cases hdo : o.dst with
        | none => simp [hdo] at hne
        | some d => exact ⟨d, rfl, by simpa [hdo] using hne⟩
      obtain ⟨⟨d', v⟩, hp, rfl⟩ := List.mem_map.1 hdp
      have hnew : (fun j => (l j || j == i) && effB ops (puts.map (·.1)) j) = fun j => l j && effB ops (puts.map (·.1)) j := by
        funext j
        by_cases hji : j = i
        · subst hji; simp [hne]
        · have hb : (j == i) = false := by simpa using hji
          simp only [hb, Bool.or_false]
      have hstep : ∃ T', Flow ops a0 puts gs G (fun j => l j || j == i) T' (a.put o.dst v) w := by
        refine ⟨T, by rw [put_defers, hF.defers], by rw [put_size, hF.size], fun t h1 => ?_, fun j oj dj v' hj hoj hdj hp' => ?_, fun j oj dj hj hoj hdj hg => ?_, by rw [hnew]; exact hF.world⟩
        · have : d' ≠ t := fun h => h1 i o (by simp) ho (by rw [hd, h])
          rw [hd, put_get_ne _ _ _ _ this]
          exact hF.free t fun i' o' hl' ho' => h1 i' o' (by simp [hl']) ho'
        · by_cases hdd : dj = d'
          · subst hdd
            have hvv : v' = v := by
              have e1 := (hfin T).2.1 dj v' hp'
              have e2 := (hfin T).2.1 dj v hp
              rw [e1] at e2
              exact Option.some.inj e2
            subst hvv
            rw [hd, put_get_same _ _ _ (by rw [hF.size, hN]; exact hltN dj (.inl hdp))]
          · rw [hd, put_get_ne _ _ _ _ (Ne.symm hdd)]
            simp only [Bool.or_eq_true, beq_iff_eq] at hj
            rcases hj with hj | rfl
            · exact hF.known j oj dj v' hj hoj hdj hp'
            · rw [ho] at hoj; cases hoj
              rw [hd] at hdj; cases hdj
              exact absurd rfl hdd
        · have : d' ≠ dj := fun h => by subst h; exact hpg d' hdp hg
          rw [hd, put_get_ne _ _ _ _ this]
          simp only [Bool.or_eq_true, beq_iff_eq] at hj
          rcases hj with hj | rfl
          · exact hF.ghost j oj dj hj hoj hdj hg
          · rw [ho] at hoj; cases hoj
            rw [hd] at hdj; cases hdj
            exact absurd rfl this
      rcases hfl _ T w i o d' v ho hd hp hL1 hL2 hF.world with ⟨hw, hrun⟩ | ⟨hw, rfl⟩
      · rw [hwant, if_pos hw]
        refine .inl ?_
        unfold Oper.wp
        rw [hex, hrun]
        exact hstep
      · rw [hwant, if_neg (by rw [hw]; simp)]
        exact hstep
  · rintro l a w hall ⟨T, hF⟩
    have hL : ∀ i, i < ops.size → effB ops (puts.map (·.1)) i = true → (fun j => l j && effB ops (puts.map (·.1)) j) i = true := fun i hi he => by simp [hall i hi, he]
    have hfa : a = fillT (fillP a0 puts) gs T := by
      refine act_ext ?_ ?_ fun t _ => ?_
      · rw [hF.defers, fillT_eq, fillP_defers, fillP_defers]
      · rw [hF.size, fillT_eq, fillP_size, fillP_size]
      · by_cases h1 : t ∈ puts.map (·.1)
        · obtain ⟨j, o, hj, hoj, hd⟩ := hwr t (.inl h1)
          obtain ⟨⟨d, v⟩, hp, rfl⟩ := List.mem_map.1 h1
          rw [hF.known j o d v (hall j hj) hoj hd hp, (hfin T).2.1 d v hp]
        · by_cases h2 : t ∈ gs
          · obtain ⟨j, o, hj, hoj, hd⟩ := hwr t (.inr h2)
            rw [hF.ghost j o t (hall j hj) hoj hd h2, (hfin T).2.2 t h2]
          · rw [(hfin T).1 t h1 h2]
            refine hF.free t fun i' o' hl' ho' hd' => ?_
            rcases (hop i' o' ho').1 t hd' with h | h
            · exact h1 h
            · exact h2 h
    rw [hfa]
    exact hend _ T w hL hF.world

/-! ### What a prover lays: an operation at a time -/
/-- The value at an operand when all has come up. -/
def envF (a0 : Act) (puts : List (Nat × Value)) (gs os : List Nat) (T : Nat → Value) : Operand → Value
  | .tmp t => if os.contains t then a0.tmps.getD t undef else if gs.contains t then T t else (puts.lookup t).getD (a0.tmps.getD t undef)
  | .const v => v
  | .global g => .pointer (some ⟨g, 0, none⟩)
  | .func f => .func (.func f) #[] #[]
/-- Is an operation carried out? -/
def wantF (ops : Array Oper) (ρ : Operand → Value) (o : Oper) : Bool := match o.guard with
  | none => true
  | some (j, want) => match (ops[j]?).bind (·.dst) with
    | some t => (match ρ (.tmp t) with | .bool b => b == want | _ => false)
    | none => false
def hangs (o : Oper) (j : Nat) : Bool := o.after.toList.any fun e => e.on == j && Region.binds .any e

def oldAt (olds : List (Nat × List Nat)) (i : Nat) : List Nat := (olds.lookup i).getD []
def OpGoal (P : Program) (ops : Array Oper) (Q : Exit → Act → World → Prop) (a0 : Act) (puts : List (Nat × Value)) (gs : List Nat) (olds : List (Nat × List Nat)) (G : (Nat → Bool) → (Nat → Value) → World → Prop) (i : Nat) (o : Oper) : Prop :=
  match o.dst.bind fun d => puts.lookup d with
  | some v => ∀ (L : Nat → Bool) (T : Nat → Value) (w : World), (∀ j, hangs o j = true → effB ops (puts.map (·.1)) j = true → L j = true) →
      (∀ j oj, ops[j]? = some oj → hangs oj i = true → L j = false) → G L T w →
      (wantF ops (envF a0 puts gs (oldAt olds i) T) o = true ∧ (execOp (envF a0 puts gs (oldAt olds i) T) o).run P w = .ok (.value v) w) ∨ (wantF ops (envF a0 puts gs (oldAt olds i) T) o = false ∧ v = undef)
  | none => ∀ (L : Nat → Bool) (T : Nat → Value) (w : World), L i = false → (∀ j, hangs o j = true → effB ops (puts.map (·.1)) j = true → L j = true) →
      (∀ j oj, ops[j]? = some oj → hangs oj i = true → L j = false) → G L T w →
      (wantF ops (envF a0 puts gs (oldAt olds i) T) o = true ∧ ∀ (a : Act) (K : Act → World → Prop),
        (∀ v w', G (fun j => L j || j == i) (fun t => if o.dst = some t then v else T t) w' → K (a.put o.dst v) w') → o.upon P a K Q ((execOp (envF a0 puts gs (oldAt olds i) T) o).run P w)) ∨
      (wantF ops (envF a0 puts gs (oldAt olds i) T) o = false ∧ G (fun j => L j || j == i) (fun t => if o.dst = some t then undef else T t) w)
def AllFrom (p : Nat → Oper → Prop) : Nat → List Oper → Prop
  | _, [] => True
  | k, o :: r => p k o ∧ AllFrom p (k + 1) r
theorem AllFrom.at_ {p : Nat → Oper → Prop} : ∀ {l : List Oper} {k : Nat}, AllFrom p k l → ∀ (i : Nat) (o : Oper), l[i]? = some o → p (k + i) o
  | [], _, _, i, o, h => by simp at h
  | x :: r, k, ⟨h0, hr⟩, i, o, h => by
    cases i with
    | zero => simp at h; subst h; exact h0
    | succ i =>
      have := AllFrom.at_ hr i o (by simpa using h)
      rwa [show k + 1 + i = k + (i + 1) from by omega] at this

theorem lookup_of_mem {d : Nat} {v : Value} : ∀ {puts : List (Nat × Value)}, (puts.map (·.1)).Nodup → (d, v) ∈ puts → puts.lookup d = some v
  | [], _, h => by cases h
  | (d', v') :: ps, hn, h => by
    simp only [List.map_cons, List.nodup_cons] at hn
    rcases List.mem_cons.1 h with h1 | h1
    · cases h1; simp [List.lookup]
    · have hd : d ≠ d' := fun e => hn.1 (by rw [← e]; exact List.mem_map.2 ⟨(d, v), h1, rfl⟩)
      have hb : (d == d') = false := by simpa using hd
      simp only [List.lookup, hb]
      exact lookup_of_mem hn.2 h1
theorem lookup_none {d : Nat} : ∀ {puts : List (Nat × Value)}, d ∉ puts.map (·.1) → puts.lookup d = none
  | [], _ => rfl
  | (d', v') :: ps, h => by
    simp only [List.map_cons, List.mem_cons, not_or] at h
    have hb : (d == d') = false := by simpa using h.1
    simp only [List.lookup, hb]
    exact lookup_none h.2

theorem region_draws_old {P : Program} {l : List Oper} {Q : Exit → Act → World → Prop} {id : Nat} {a0 : Act} {w : World} (puts : List (Nat × Value)) (gs : List Nat) (olds : List (Nat × List Nat)) (G : (Nat → Bool) → (Nat → Value) → World → Prop) (T0 : Nat → Value)
    (hm : P.follows .mixedOrders = true) (hlow : lowB l.toArray = true) (N : Nat) (hN : a0.tmps.size = N) (hB : flowB l.toArray (puts.map (·.1)) gs (oldAt olds) N = true)
    (h0 : G (fun _ => false) T0 w.drew) (hops : AllFrom (OpGoal P l.toArray Q a0 puts gs olds G) 0 l)
    (hend : ∀ (L : Nat → Bool) (T : Nat → Value) (w : World), (∀ i, i < l.length → effB l.toArray (puts.map (·.1)) i = true → L i = true) → G L T w → Q .normal (fillT (fillP a0 puts) gs T) w) :
    (Code.region id l.toArray true).wp P Q a0 w := by
  have hB' := hB
  simp only [flowB, Bool.and_eq_true, decide_eq_true_eq] at hB'
  obtain ⟨⟨hnd, hlt⟩, _⟩ := hB'
  have hnp : (puts.map (·.1)).Nodup := (List.nodup_append.1 hnd).1
  have hng : gs.Nodup := (List.nodup_append.1 hnd).2.1
  have hpg : ∀ t, t ∈ puts.map (·.1) → t ∉ gs := fun t h1 h2 => (List.nodup_append.1 hnd).2.2 t h1 t h2 rfl
  have hltN : ∀ t, t ∈ puts.map (·.1) ∨ t ∈ gs → t < N := fun t ht => by
    have := List.all_eq_true.1 hlt t (List.mem_append.2 ht)
    simp only [Bool.and_eq_true, decide_eq_true_eq] at this
    exact this.1
  have henv : ∀ (T : Nat → Value) (os : List Nat) (t : Nat), (seenA a0 puts gs os T).tmps.getD t undef = envF a0 puts gs os T (.tmp t) := by
    intro T os t
    obtain ⟨q1, q2, q3, q4⟩ := seenA_get (a0 := a0) (puts := puts) (gs := gs) os T hN hnp hng hpg hltN
    rw [Array.getD_eq_getD_getElem?]
    simp only [envF]
    by_cases ho : t ∈ os
    · rw [q2 t ho, if_pos (by simpa using ho), Array.getD_eq_getD_getElem?]
    · rw [if_neg (by simpa using ho)]
      by_cases h2 : t ∈ gs
      · rw [q4 t h2 ho, if_pos (by simpa using h2)]; rfl
      · rw [if_neg (by simpa using h2)]
        by_cases h1 : t ∈ puts.map (·.1)
        · obtain ⟨⟨d, v⟩, hp, rfl⟩ := List.mem_map.1 h1
          rw [q3 d v hp ho, lookup_of_mem hnp hp]
          rfl
        · rw [q1 t h1 h2, lookup_none h1, Array.getD_eq_getD_getElem?]
          rfl
  have heval : ∀ (T : Nat → Value) (os : List Nat), (seenA a0 puts gs os T).eval = envF a0 puts gs os T := fun T os => by
    funext x
    cases x with
    | tmp t => exact henv T os t
    | const v => rfl
    | global g => rfl
    | func f => rfl
  have hwant : ∀ (T : Nat → Value) (os : List Nat) (o : Oper), Region.wanted o (yielded l.toArray (seenA a0 puts gs os T).tmps) = wantF l.toArray (envF a0 puts gs os T) o := fun T os o => by
    unfold Region.wanted wantF
    cases hg : o.guard with
    | none => rfl
    | some jw =>
      obtain ⟨j, want⟩ := jw
      simp only [yielded]
      cases hd : (l.toArray[j]?).bind (·.dst) with
      | none => simp
      | some t =>
        have := henv T os t
        rw [Array.getD_eq_getD_getElem?] at this
        simp only [Option.bind_some]
        cases ht : (seenA a0 puts gs os T).tmps[t]? with
        | none =>
          rw [ht] at this
          simp only [Option.getD_none] at this
          rw [← this]
          simp [undef]
        | some v =>
          rw [ht] at this
          simp only [Option.getD_some] at this
          rw [← this]
          cases v <;> simp
  have hh : ∀ (o : Oper) (e : Edge), e ∈ o.after → Region.binds .any e = true → hangs o e.on = true := fun o e he hb => by
    simp only [hangs, List.any_eq_true, Bool.and_eq_true, beq_iff_eq]
    exact ⟨e, by simpa using he, rfl, hb⟩
  have hh' : ∀ (o : Oper) (j : Nat), hangs o j = true → ∃ e ∈ o.after, e.on = j ∧ Region.binds .any e = true := fun o j h => by
    simp only [hangs, List.any_eq_true, Bool.and_eq_true, beq_iff_eq] at h
    obtain ⟨e, he, h1, h2⟩ := h
    exact ⟨e, by simpa using he, h1, h2⟩
  refine region_flow hm hlow puts gs (oldAt olds) N hN hB G T0 h0 ?_ ?_ (by simpa using hend)
  · intro L T w i o d v ho hd hp hpre hpost hG
    have h1 := hops.at_ i o (by simpa using ho)
    rw [Nat.zero_add] at h1
    unfold OpGoal at h1
    rw [hd, Option.bind_some, lookup_of_mem hnp hp] at h1
    have h2 := h1 L T w (fun j hj he => by obtain ⟨e, hem, rfl, hb⟩ := hh' o j hj; exact hpre e hem hb he)
      (fun j oj hoj hj => by
        cases hL : L j with
        | false => rfl
        | true => obtain ⟨e, hem, he, hb⟩ := hh' oj i hj; exact absurd he (hpost j oj hL hoj e hem hb)) hG
    rw [hwant, heval]
    exact h2
  · intro L T w i o ho he hLi hpre hpost hG
    have h1 := hops.at_ i o (by simpa using ho)
    rw [Nat.zero_add] at h1
    unfold OpGoal at h1
    have hnone : (o.dst.bind fun d => puts.lookup d) = none := by
      cases hd : o.dst with
      | none => rfl
      | some d =>
        unfold effB at he
        simp only [ho, Option.bind_some, hd, Bool.not_eq_true', List.contains_eq_mem, decide_eq_false_iff_not] at he
        rw [Option.bind_some]
        exact lookup_none he
    rw [hnone] at h1
    have h2 := h1 L T w hLi (fun j hj he => by obtain ⟨e, hem, rfl, hb⟩ := hh' o j hj; exact hpre e hem hb he)
      (fun j oj hoj hj => by
        cases hL : L j with
        | false => rfl
        | true => obtain ⟨e, hem, he, hb⟩ := hh' oj i hj; exact absurd he (hpost j oj hL hoj e hem hb)) hG
    rw [hwant, heval]
    exact h2
theorem region_draws {P : Program} {l : List Oper} {Q : Exit → Act → World → Prop} {id : Nat} {a0 : Act} {w : World} (puts : List (Nat × Value)) (gs : List Nat) (G : (Nat → Bool) → (Nat → Value) → World → Prop) (T0 : Nat → Value)
    (hm : P.follows .mixedOrders = true) (hlow : lowB l.toArray = true) (N : Nat) (hN : a0.tmps.size = N) (hB : flowB l.toArray (puts.map (·.1)) gs (oldAt []) N = true)
    (h0 : G (fun _ => false) T0 w.drew) (hops : AllFrom (OpGoal P l.toArray Q a0 puts gs [] G) 0 l)
    (hend : ∀ (L : Nat → Bool) (T : Nat → Value) (w : World), (∀ i, i < l.length → effB l.toArray (puts.map (·.1)) i = true → L i = true) → G L T w → Q .normal (fillT (fillP a0 puts) gs T) w) :
    (Code.region id l.toArray true).wp P Q a0 w := region_draws_old puts gs [] G T0 hm hlow N hN hB h0 hops hend
attribute [go_sem] oldAt Option.getD_some Option.getD_none envF List.lookup_cons List.lookup_nil List.contains_cons List.contains_nil

end Go.Proofs.Ytlgcnnhlbkidmaa
