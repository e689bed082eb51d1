/-
  A region whose order Go leaves open and whose effects stand in one chain: it does what its operations do in the order of a plan, if each operation that only looks would see the same at any later time. Plain Lean, no program in sight.
-/
import Derived.Test.YtlgcnnhlbkidmaaFlow
namespace Go.Proofs.Ytlgcnnhlbkidmaa
open Go

/-- Kinds that yield a value. -/
def valueKind (o : Oper) : Bool := match o.op with
  | .move _ | .assign _ | .pick .. | .load .. | .nilCheck _ | .binOp .. | .unOp .. | .convert .. | .field .. | .fieldAddr .. | .index .. | .indexAddr .. | .build .. | .slice .. | .extract .. | .lookup .. | .typeAssert .. | .makeInterface .. | .makeFunc .. | .sliceToArrayPointer .. => true
  | .call { callee := .builtin .len, .. } | .call { callee := .builtin .cap, .. } | .call { callee := .builtin .min, .. } | .call { callee := .builtin .max, .. } => true
  | _ => false
/-- Kinds whose value hangs on no world. -/
def plainKind (o : Oper) : Bool := match o.op with
  | .move _ | .assign _ | .pick .. => true
  | _ => false

def Ends (m : Sem Next) : Prop := ∀ (P : Program) (w w' : World) (x : Next), m.run P w = .ok x w' → ∃ v, x = .value v
theorem Ends.pure (v : Value) : Ends (pure (.value v)) := fun P w w' x h => by
  simp only [Sem.run_pure, Result.ok.injEq] at h
  exact ⟨_, h.1.symm⟩
theorem Ends.bind {α : Type} {m : Sem α} {f : α → Sem Next} (h : ∀ a, Ends (f a)) : Ends (m >>= f) := fun P w w' x hr => by
  rw [Sem.run_bind] at hr
  cases hs : m.run P w with
  | ok v w1 =>
    rw [hs] at hr
    exact h v P w1 w' x hr
  | halt hh w1 => rw [hs] at hr; simp [Result.andThen] at hr
theorem Ends.panic : Ends (runtimePanic .nilDeref) := fun P w w' x h => by
  simp [runtimePanic, goPanic] at h

theorem value_result {ρ : Operand → Value} {o : Oper} (hk : valueKind o = true) : Ends (execOp ρ o) := by
  obtain ⟨dst, op, type, pos, after, guard⟩ := o
  unfold valueKind at hk
  unfold execOp
  cases op <;> simp only at hk ⊢ <;> try cases hk
  all_goals first
    | exact Ends.bind fun a => Ends.pure a
    | exact Ends.pure _
    | exact Ends.bind fun a => Ends.pure _
    | skip
  case nilCheck.intro y =>
    split
    all_goals first
      | exact Ends.panic
      | exact Ends.pure _
      | skip
    split
    all_goals first
      | exact Ends.panic
      | exact Ends.pure _
      | skip
    refine Ends.bind fun p => Ends.bind fun b => ?_
    split
    · exact Ends.bind fun _ => Ends.pure _
    · exact Ends.pure _
  case call c =>
    obtain ⟨callee, args, tys⟩ := c
    cases callee with
    | value f => simp at hk
    | invoke r n => simp at hk
    | builtin b =>
      unfold resolve
      simp only
      refine fun P w w' x h => ?_
      rw [Sem.run_bind] at h
      simp only [Sem.run_pure, Result.andThen_ok, invoke, builtin] at h
      cases b <;> simp at hk <;> exact (Ends.bind fun a => Ends.pure a) P w w' x h

theorem plain_run {o : Oper} (hk : plainKind o = true) {ρ : Operand → Value} {P : Program} {w w' : World} {v : Value} (h : (execOp ρ o).run P w = .ok (.value v) w') : ∀ w2, (execOp ρ o).run P w2 = .ok (.value v) w2 := by
  obtain ⟨dst, op, type, pos, after, guard⟩ := o
  unfold plainKind at hk
  intro w2
  cases op with
  | move x => simp only [execOp, Sem.run_pure, Result.ok.injEq, Next.value.injEq] at h ⊢; exact ⟨h.1, trivial⟩
  | assign x => simp only [execOp, Sem.run_pure, Result.ok.injEq, Next.value.injEq] at h ⊢; exact ⟨h.1, trivial⟩
  | pick c a b =>
    simp only [execOp, Sem.run_bind] at h ⊢
    generalize ρ c = u at *
    cases u with
    | bool t => simp only [asBool, Sem.run_pure, Result.andThen_ok, Result.ok.injEq, Next.value.injEq] at h ⊢; exact ⟨h.1, trivial⟩
    | _ => simp [asBool, Result.andThen, stuck] at h
  | _ => cases hk

structure Seg where
  floats : List Nat
  checks : List Nat
  eff : Option Nat
structure Plan where
  /-- who stands ahead of each, as bits -/
  anc : List Nat
  /-- those that act, in their chain -/
  effs : List Nat
  /-- the others: behind how many of them they come up -/
  stage : List Nat
def Plan.ahead (p : Plan) (i j : Nat) : Bool := (p.anc.getD i 0).testBit j
def Plan.act (p : Plan) (i : Nat) : Bool := p.effs.contains i
def Plan.at_ (p : Plan) (i : Nat) : Nat := p.stage.getD i 0
/-- Those that look, behind k acts. -/
def Plan.floatsAt (p : Plan) (n k : Nat) : List Nat := (List.range n).filter fun i => !p.act i && p.at_ i == k
def Plan.checksAt (p : Plan) (l : List Oper) (k : Nat) : List Nat := (List.range l.length).filter fun i => !p.act i && decide (p.at_ i ≤ k) && (match l[i]? with | some o => !plainKind o | none => false) &&
  (match k with | 0 => true | k + 1 => match p.effs[k]? with | some e => !p.ahead e i | none => true)
def Plan.segs (p : Plan) (l : List Oper) : List Seg := (List.range (p.effs.length + 1)).map fun k => ⟨p.floatsAt l.length k, p.checksAt l k, p.effs[k]?⟩

def opsAt (l : List Oper) (is : List Nat) : List Oper := is.filterMap fun i => l[i]?

/-- It would see the same now. -/
def Same (P : Program) (ops : Array Oper) (o : Oper) (a : Act) (w : World) : Prop :=
  if Region.wanted o (yielded ops a.tmps) = true then (execOp a.eval o).run P w = .ok (.value (a.tmps.getD (o.dst.getD 0) undef)) w else a.tmps.getD (o.dst.getD 0) undef = undef
def Sames (P : Program) (ops : Array Oper) (a : Act) (w : World) : List Oper → Prop
  | [] => True
  | o :: r => Same P ops o a w ∧ Sames P ops a w r
def SeqGo (P : Program) (l : List Oper) (Q : Exit → Act → World → Prop) : List Seg → Act → World → Prop
  | [], _, _ => True
  | s :: r, a, w => wpList P l.toArray (fun e a' w' => e = .normal ∧ w' = w ∧ Sames P l.toArray a' w (opsAt l s.checks) ∧
      match s.eff with
      | none => Q .normal a' w
      | some i => wpList P l.toArray (fun e a2 w2 => e = .normal ∧ SeqGo P l Q r a2 w2) (opsAt l [i]) a' w) (opsAt l s.floats) a w

/-- What a plan has to keep. -/
def Plan.ok (p : Plan) (l : List Oper) (N : Nat) : Bool :=
  let n := l.length
  let dst (j : Nat) : Option Nat := (l[j]?).bind (·.dst)
  decide (p.effs.Nodup) && (p.effs.all fun e => decide (e < n)) &&
  (List.range n).all fun i => match l[i]? with
    | none => true
    | some o =>
      -- who stands ahead
      ((List.range n).all fun j => !p.ahead i j || o.after.toList.any fun e => Region.binds .any e && (e.on == j || p.ahead e.on j)) &&
      (o.after.toList.all fun e => !Region.binds .any e || (p.ahead i e.on && decide (e.on < i))) &&
      -- slots
      (match o.dst with | none => true | some d => decide (d < N)) &&
      ((List.range n).all fun j => i == j || dst i == none || !(dst i == dst j)) &&
      ((List.range n).all fun j => match dst j with
        | none => true
        | some t => !(o.looksAt l.toArray).contains t || p.ahead i j || (p.ahead j i && (p.act i || plainKind o))) &&
      (match o.op with | .select .. => false | _ => true) &&
      -- its place
      (if p.act i then
        ((List.range p.effs.length).all fun k => !(p.effs[k]? == some i) || ((List.range n).all fun j => !p.ahead i j || (if p.act j then (List.range k).any (fun m => p.effs[m]? == some j) else decide (p.at_ j ≤ k))) &&
          (match k with | 0 => true | m + 1 => match p.effs[m]? with | some e => p.ahead i e | none => false))
      else
        valueKind o && o.dst.isSome && decide (p.at_ i ≤ p.effs.length) &&
        (match p.at_ i with | 0 => true | m + 1 => match p.effs[m]? with | some e => p.ahead i e | none => false) &&
        ((List.range n).all fun j => !p.ahead i j || (if p.act j then (List.range (p.at_ i)).any (fun m => p.effs[m]? == some j) else decide (p.at_ j ≤ p.at_ i))))

structure PlanOK (p : Plan) (l : List Oper) (N : Nat) : Prop where
  nodup : p.effs.Nodup
  efflt : ∀ e ∈ p.effs, e < l.length
  step : ∀ (i : Nat) (o : Oper) (j : Nat), l[i]? = some o → j < l.length → p.ahead i j = true → ∃ e ∈ o.after, Region.binds .any e = true ∧ (e.on = j ∨ p.ahead e.on j = true)
  dep : ∀ (i : Nat) (o : Oper), l[i]? = some o → ∀ e ∈ o.after, Region.binds .any e = true → p.ahead i e.on = true ∧ e.on < i
  lt : ∀ (i : Nat) (o : Oper) (d : Nat), l[i]? = some o → o.dst = some d → d < N
  one : ∀ (i j : Nat) (oi oj : Oper) (d : Nat), l[i]? = some oi → l[j]? = some oj → oi.dst = some d → oj.dst = some d → i = j
  reads : ∀ (i j : Nat) (oi oj : Oper) (t : Nat), l[i]? = some oi → l[j]? = some oj → oj.dst = some t → t ∈ oi.looksAt l.toArray → p.ahead i j = true ∨ (p.ahead j i = true ∧ (p.act i = true ∨ plainKind oi = true))
  sel : ∀ (i : Nat) (o : Oper), l[i]? = some o → ∀ cs b, o.op ≠ .select cs b
  eff : ∀ i k, p.effs[k]? = some i → (∀ j, j < l.length → p.ahead i j = true → if p.act j = true then ∃ m, m < k ∧ p.effs[m]? = some j else p.at_ j ≤ k) ∧ (∀ m, k = m + 1 → ∃ e, p.effs[m]? = some e ∧ p.ahead i e = true)
  flo : ∀ (i : Nat) (o : Oper), l[i]? = some o → p.act i = false → valueKind o = true ∧ (∃ d, o.dst = some d) ∧ p.at_ i ≤ p.effs.length ∧ (∀ m, p.at_ i = m + 1 → ∃ e, p.effs[m]? = some e ∧ p.ahead i e = true) ∧
    (∀ j, j < l.length → p.ahead i j = true → if p.act j = true then ∃ m, m < p.at_ i ∧ p.effs[m]? = some j else p.at_ j ≤ p.at_ i)

theorem PlanOK.of {p : Plan} {l : List Oper} {N : Nat} (h : p.ok l N = true) : PlanOK p l N := by
  unfold Plan.ok at h
  simp only [Bool.and_eq_true, decide_eq_true_eq, List.all_eq_true, List.mem_range] at h
  obtain ⟨⟨hnd, hlt⟩, hall⟩ := h
  have hat := fun (i : Nat) (o : Oper) (ho : l[i]? = some o) => by
    have h1 := hall i (List.getElem?_eq_some_iff.1 ho).1
    rw [ho] at h1
    simp only [Bool.and_eq_true, List.all_eq_true, List.mem_range] at h1
    exact h1
  have hil : ∀ (i : Nat) (o : Oper), l[i]? = some o → i < l.length := fun i o ho => (List.getElem?_eq_some_iff.1 ho).1
  refine ⟨hnd, fun e he => by simpa using hlt e he, ?_, ?_, ?_, ?_, ?_, ?_, ?_, ?_⟩
  · intro i o j ho hj ha
    have h1 := (hat i o ho).1.1.1.1.1.1 j hj
    rw [ha] at h1
    simp only [Bool.not_true, Bool.false_or, List.any_eq_true, Bool.and_eq_true, Bool.or_eq_true, beq_iff_eq] at h1
    obtain ⟨e, he, h2, h3⟩ := h1
    exact ⟨e, by simpa using he, h2, h3⟩
  · intro i o ho e he hb
    have h1 := (hat i o ho).1.1.1.1.1.2 e (by simpa using he)
    rw [hb] at h1
    simpa using h1
  · intro i o d ho hd
    have h1 := (hat i o ho).1.1.1.1.2
    rw [hd] at h1
    simpa using h1
  · intro i j oi oj d hi hj hdi hdj
    have h1 := (hat i oi hi).1.1.1.2 j (hil j oj hj)
    simpa [hi, hj, hdi, hdj] using h1
  · intro i j oi oj t hi hj hdj ht
    have h1 := (hat i oi hi).1.1.2 j (hil j oj hj)
    rw [hj] at h1
    simp only [Option.bind_some, hdj] at h1
    have h2 : (oi.looksAt l.toArray).contains t = true := by simpa using ht
    rw [h2] at h1
    simpa using h1
  · intro i o ho cs b hc
    have h1 := (hat i o ho).1.2
    rw [hc] at h1
    cases h1
  · intro i k hk
    have hi : i < l.length := by simpa using hlt i (List.mem_of_getElem? hk)
    have h1 := (hat i l[i] (List.getElem?_eq_getElem hi)).2
    have hact : p.act i = true := by simpa [Plan.act] using List.mem_of_getElem? hk
    rw [if_pos hact] at h1
    simp only [List.all_eq_true, List.mem_range] at h1
    have h2 := h1 k (List.getElem?_eq_some_iff.1 hk).1
    rw [hk] at h2
    simp only [beq_self_eq_true, Bool.not_true, Bool.false_or, Bool.and_eq_true, List.all_eq_true, List.mem_range] at h2
    refine ⟨fun j hj ha => ?_, fun m hm => ?_⟩
    · have h3 := h2.1 j hj
      rw [ha] at h3
      by_cases hc : p.act j = true
      · rw [if_pos hc] at h3 ⊢
        simpa using h3
      · rw [if_neg hc] at h3 ⊢
        simpa using h3
    · have h3 := h2.2
      rw [hm] at h3
      simp only at h3
      cases he : p.effs[m]? with
      | none => rw [he] at h3; cases h3
      | some e => rw [he] at h3; exact ⟨e, rfl, h3⟩
  · intro i o ho hact
    have h1 := (hat i o ho).2
    rw [if_neg (by rw [hact]; simp)] at h1
    simp only [Bool.and_eq_true, decide_eq_true_eq, List.all_eq_true, List.mem_range] at h1
    obtain ⟨⟨⟨⟨h2, h3⟩, h4⟩, h5⟩, h6⟩ := h1
    refine ⟨h2, Option.isSome_iff_exists.1 h3, h4, fun m hm => ?_, fun j hj ha => ?_⟩
    · rw [hm] at h5
      simp only at h5
      cases he : p.effs[m]? with
      | none => rw [he] at h5; cases h5
      | some e => rw [he] at h5; exact ⟨e, rfl, h5⟩
    · have h3 := h6 j hj
      rw [ha] at h3
      by_cases hc : p.act j = true
      · rw [if_pos hc] at h3 ⊢
        simpa using h3
      · rw [if_neg hc] at h3 ⊢
        simpa using h3

section
variable {P : Program} {l : List Oper} {p : Plan} {N : Nat}

theorem PlanOK.lower (h : PlanOK p l N) : ∀ (i : Nat) (o : Oper), l[i]? = some o → ∀ j, j < l.length → p.ahead i j = true → j < i := by
  intro i
  induction i using Nat.strongRecOn with
  | ind i ih =>
    intro o ho j hj ha
    obtain ⟨e, he, hb, h1⟩ := h.step i o j ho hj ha
    have h2 := (h.dep i o ho e he hb).2
    have hi : i < l.length := (List.getElem?_eq_some_iff.1 ho).1
    rcases h1 with rfl | h1
    · exact h2
    · have := ih e.on h2 l[e.on] (List.getElem?_eq_getElem (by omega)) j hj h1
      omega
theorem PlanOK.closed (h : PlanOK p l N) {L : Nat → Bool} (hc : Came l.toArray L) : ∀ (i : Nat) (o : Oper), l[i]? = some o → (∀ e ∈ o.after, Region.binds .any e = true → L e.on = true) → ∀ j, j < l.length → p.ahead i j = true → L j = true := by
  intro i
  induction i using Nat.strongRecOn with
  | ind i ih =>
    intro o ho hd j hj ha
    obtain ⟨e, he, hb, h1⟩ := h.step i o j ho hj ha
    have h2 := (h.dep i o ho e he hb).2
    have hi : i < l.length := (List.getElem?_eq_some_iff.1 ho).1
    have h3 := hd e he hb
    rcases h1 with rfl | h1
    · exact h3
    · have hget : l[e.on]? = some l[e.on] := List.getElem?_eq_getElem (by omega)
      exact ih e.on h2 l[e.on] hget (fun e' he' hb' => hc.shut e.on l[e.on] (by simp) h3 e' he' hb') j hj h1
theorem PlanOK.closed' (h : PlanOK p l N) {L : Nat → Bool} (hc : Came l.toArray L) (i : Nat) (o : Oper) (ho : l[i]? = some o) (hl : L i = true) (j : Nat) (hj : j < l.length) (ha : p.ahead i j = true) : L j = true :=
  h.closed hc i o ho (fun e he hb => hc.shut i o (by simpa using ho) hl e he hb) j hj ha

/-- What it yields. -/
def Yld (P : Program) (ops : Array Oper) (o : Oper) (b : Act) (w : World) (v : Value) : Prop :=
  (Region.wanted o (yielded ops b.tmps) = true ∧ (execOp b.eval o).run P w = .ok (.value v) w) ∨ (Region.wanted o (yielded ops b.tmps) = false ∧ v = undef)

theorem floats_walk (h : PlanOK p l N) {Q' : Exit → Act → World → Prop} {R : Act → World → Prop} (hQ : ∀ e a w, Q' e a w → e = .normal ∧ R a w) : ∀ (F : List Nat) (a : Act) (w1 : World),
    (∀ i ∈ F, ∃ o d, l[i]? = some o ∧ valueKind o = true ∧ o.dst = some d) → F.Pairwise (· < ·) → wpList P l.toArray Q' (opsAt l F) a w1 →
    ∃ a' w2, R a' w2 ∧ a'.defers = a.defers ∧ a'.tmps.size = a.tmps.size ∧ (∀ t, (∀ i ∈ F, ∀ o, l[i]? = some o → o.dst ≠ some t) → a'.tmps[t]? = a.tmps[t]?) ∧
      ∀ i ∈ F, ∀ o, l[i]? = some o → plainKind o = true → ∃ b v d, o.dst = some d ∧ (d < a.tmps.size → a'.tmps[d]? = some v) ∧
        (∀ t, (∃ j ∈ F, j < i ∧ ∃ oj, l[j]? = some oj ∧ oj.dst = some t) → b.tmps[t]? = a'.tmps[t]?) ∧ (∀ t, (∀ j ∈ F, j < i → ∀ oj, l[j]? = some oj → oj.dst ≠ some t) → b.tmps[t]? = a.tmps[t]?) ∧
        ∀ w, Yld P l.toArray o b w v := by
  intro F
  induction F with
  | nil =>
    intro a w1 _ _ hw
    exact ⟨a, w1, (hQ _ _ _ hw).2, rfl, rfl, fun _ _ => rfl, fun i hi => by cases hi⟩
  | cons i F ih =>
    intro a w1 hF hP hw
    obtain ⟨o, d, ho, hk, hd⟩ := hF i (List.mem_cons_self ..)
    have hops : opsAt l (i :: F) = o :: opsAt l F := by simp [opsAt, ho]
    rw [hops] at hw
    have hP1 := (List.pairwise_cons.1 hP).1
    have hP2 := (List.pairwise_cons.1 hP).2
    -- the step: some value, and the rest
    have key : ∃ v w3, wpList P l.toArray Q' (opsAt l F) (a.put o.dst v) w3 ∧ (plainKind o = true → ∀ w, Yld P l.toArray o a w v) := by
      simp only [wpList] at hw
      split at hw
      · rename_i hwant
        rcases hw with hw | ⟨_, a9, w9, hw⟩
        · unfold Oper.wp at hw
          cases hr : (execOp a.eval o).run P w1 with
          | ok x w3 =>
            obtain ⟨v, rfl⟩ := value_result hk P w1 w3 x hr
            rw [hr] at hw
            exact ⟨v, w3, hw, fun hp w => .inl ⟨hwant, plain_run hp hr w⟩⟩
          | halt hh w3 =>
            rw [hr] at hw
            cases hh <;> simp only [Oper.upon] at hw
            have := (hQ _ _ _ hw).1
            cases this
        · have := (hQ _ _ _ hw).1
          cases this
      · rename_i hwant
        exact ⟨undef, w1, hw, fun _ _ => .inr ⟨by simpa using hwant, rfl⟩⟩
    obtain ⟨v, w3, hrest, hy⟩ := key
    obtain ⟨a', w2, hR, hdf, hsz, hfree, hall⟩ := ih (a.put o.dst v) w3 (fun j hj => hF j (List.mem_cons_of_mem _ hj)) hP2 hrest
    have hdF : ∀ j ∈ F, ∀ oj, l[j]? = some oj → oj.dst ≠ some d := fun j hj oj hoj e => by
      have := h.one i j o oj d ho hoj hd e
      have := hP1 j hj
      omega
    have hput : ∀ t, t ≠ d → (a.put o.dst v).tmps[t]? = a.tmps[t]? := fun t ht => by rw [hd, put_get_ne _ _ _ _ (Ne.symm ht)]
    refine ⟨a', w2, hR, by rw [hdf, put_defers], by rw [hsz, put_size], fun t ht => ?_, fun j hj oj hoj hp => ?_⟩
    · rw [hfree t fun j hj oj hoj => ht j (List.mem_cons_of_mem _ hj) oj hoj]
      refine hput t fun e => ht i (List.mem_cons_self ..) o ho (by rw [hd, e])
    · rcases List.mem_cons.1 hj with rfl | hj
      · rw [ho] at hoj; cases hoj
        refine ⟨a, v, d, hd, fun hlt => ?_, fun t ⟨j', hj', hlt, _⟩ => ?_, fun t _ => rfl, hy hp⟩
        · rw [hfree d hdF, hd]
          exact put_get_same _ _ _ hlt
        · rcases List.mem_cons.1 hj' with rfl | hj'
          · omega
          · have := hP1 j' hj'; omega
      · obtain ⟨b, v', d', hd', h1, h2, h3, h4⟩ := hall j hj oj hoj hp
        refine ⟨b, v', d', hd', fun hlt => h1 (by rw [put_size]; exact hlt), fun t ⟨j', hj', hlt, oj', hoj', hdj'⟩ => ?_, fun t ht => ?_, h4⟩
        · rcases List.mem_cons.1 hj' with rfl | hj'
          · rw [ho] at hoj'; cases hoj'
            rw [hd] at hdj'; cases hdj'
            rw [h3 _ fun j'' hj'' _ oj'' hoj'' => hdF j'' hj'' oj'' hoj'', hfree _ hdF]
          · exact h2 t ⟨j', hj', hlt, oj', hoj', hdj'⟩
        · rw [h3 t fun j'' hj'' hlt oj'' hoj'' => ht j'' (List.mem_cons_of_mem _ hj'') hlt oj'' hoj'']
          refine hput t fun e => ht i (List.mem_cons_self ..) (hP1 j hj) o ho (by rw [hd, e])

theorem sames_at {ops : Array Oper} {a : Act} {w : World} : ∀ {C : List Nat}, Sames P ops a w (opsAt l C) → ∀ i ∈ C, ∀ o, l[i]? = some o → Same P ops o a w
  | [], _, i, hi, _, _ => by cases hi
  | j :: C, h, i, hi, o, ho => by
    cases hj : l[j]? with
    | none =>
      have e : opsAt l (j :: C) = opsAt l C := by simp [opsAt, hj]
      rw [e] at h
      rcases List.mem_cons.1 hi with rfl | hi
      · rw [hj] at ho; cases ho
      · exact sames_at h i hi o ho
    | some oj =>
      have e : opsAt l (j :: C) = oj :: opsAt l C := by simp [opsAt, hj]
      rw [e] at h
      rcases List.mem_cons.1 hi with rfl | hi
      · rw [hj] at ho; cases ho
        exact h.1
      · exact sames_at h.2 i hi o ho

def doneE (p : Plan) (k j : Nat) : Prop := if p.act j = true then ∃ m, m < k ∧ p.effs[m]? = some j else p.at_ j ≤ k
def doneS (p : Plan) (k j : Nat) : Prop := if p.act j = true then ∃ m, m < k ∧ p.effs[m]? = some j else p.at_ j < k
def Sees (p : Plan) (l : List Oper) (a0 a : Act) (i : Nat) (o : Oper) (b : Act) : Prop :=
  ∀ t ∈ o.looksAt l.toArray, (∀ (j : Nat) (oj : Oper), l[j]? = some oj → oj.dst = some t → (p.ahead i j = true → b.tmps[t]? = a.tmps[t]?) ∧ (p.ahead i j = false → b.tmps[t]? = a0.tmps[t]?)) ∧
    ((∀ (j : Nat) (oj : Oper), l[j]? = some oj → oj.dst ≠ some t) → b.tmps[t]? = a0.tmps[t]?)

/-- Where the plan stands: behind k acts and all that looks behind them. -/
structure Mid (P : Program) (l : List Oper) (p : Plan) (N : Nat) (Q : Exit → Act → World → Prop) (a0 : Act) (k : Nat) (a : Act) (w : World) : Prop where
  size : a.tmps.size = N
  free : ∀ t, (∀ (j : Nat) (oj : Oper), l[j]? = some oj → oj.dst = some t → ¬ doneE p k j) → a.tmps[t]? = a0.tmps[t]?
  plain : ∀ (i : Nat) (o : Oper), l[i]? = some o → p.act i = false → plainKind o = true → p.at_ i ≤ k → ∃ b v d, o.dst = some d ∧ a.tmps[d]? = some v ∧ Sees p l a0 a i o b ∧ ∀ w, Yld P l.toArray o b w v
  checks : ∀ (i : Nat) (o : Oper), l[i]? = some o → p.act i = false → plainKind o = false → p.at_ i ≤ k → (∀ m e, k = m + 1 → p.effs[m]? = some e → p.ahead e i = false) → Same P l.toArray o a w
  next : match p.effs[k]? with
    | none => Q .normal a w
    | some i => wpList P l.toArray (fun e a2 w2 => e = .normal ∧ SeqGo P l Q ((p.segs l).drop (k + 1)) a2 w2) (opsAt l [i]) a w

theorem mid_of (h : PlanOK p l N) {Q : Exit → Act → World → Prop} {a0 a : Act} {w : World} {k : Nat} (hk : k ≤ p.effs.length) (hgo : SeqGo P l Q ((p.segs l).drop k) a w) (hsz : a.tmps.size = N)
    (hfree : ∀ t, (∀ (j : Nat) (oj : Oper), l[j]? = some oj → oj.dst = some t → ¬ doneS p k j) → a.tmps[t]? = a0.tmps[t]?)
    (hplain : ∀ (i : Nat) (o : Oper), l[i]? = some o → p.act i = false → plainKind o = true → p.at_ i < k → ∃ b v d, o.dst = some d ∧ a.tmps[d]? = some v ∧ Sees p l a0 a i o b ∧ ∀ w, Yld P l.toArray o b w v) :
    ∃ a', Mid P l p N Q a0 k a' w ∧ a'.defers = a.defers ∧ ∀ t, (∀ (i : Nat) (o : Oper), l[i]? = some o → p.act i = false → p.at_ i = k → o.dst ≠ some t) → a'.tmps[t]? = a.tmps[t]? := by
  have hlen : (p.segs l).length = p.effs.length + 1 := by simp [Plan.segs]
  have hdrop : (p.segs l).drop k = ⟨p.floatsAt l.length k, p.checksAt l k, p.effs[k]?⟩ :: (p.segs l).drop (k + 1) := by
    rw [List.drop_eq_getElem_cons (by omega)]
    congr 1
    simp [Plan.segs]
  rw [hdrop] at hgo
  simp only [SeqGo] at hgo
  have hmemF : ∀ i, i ∈ p.floatsAt l.length k ↔ i < l.length ∧ p.act i = false ∧ p.at_ i = k := fun i => by simp [Plan.floatsAt]
  obtain ⟨a', w2, ⟨rfl, hsame, hnext⟩, hdf, hsz', hfr, hall⟩ := floats_walk h (R := fun a' w' => w' = w ∧ Sames P l.toArray a' w (opsAt l (p.checksAt l k)) ∧ _) (fun e a w h => h) (p.floatsAt l.length k) a w
    (fun i hi => by
      obtain ⟨h1, h2, h3⟩ := (hmemF i).1 hi
      obtain ⟨h4, ⟨d, h5⟩, _⟩ := h.flo i l[i] (List.getElem?_eq_getElem h1) h2
      exact ⟨l[i], d, List.getElem?_eq_getElem h1, h4, h5⟩)
    (List.Pairwise.sublist List.filter_sublist List.pairwise_lt_range) hgo
  have hfr' : ∀ t, (∀ (i : Nat) (o : Oper), l[i]? = some o → p.act i = false → p.at_ i = k → o.dst ≠ some t) → a'.tmps[t]? = a.tmps[t]? := fun t ht =>
    hfr t fun i hi o ho => ht i o ho ((hmemF i).1 hi).2.1 ((hmemF i).1 hi).2.2
  have hil : ∀ (i : Nat) (o : Oper), l[i]? = some o → i < l.length := fun i o ho => (List.getElem?_eq_some_iff.1 ho).1
  refine ⟨a', ⟨by rw [hsz', hsz], fun t ht => ?_, fun i o ho ha hp hat => ?_, fun i o ho ha hp hat hne => ?_, hnext⟩, hdf, hfr'⟩
  · rw [hfr' t fun i o ho ha hat hd => ht i o ho hd (by unfold doneE; rw [if_neg (by rw [ha]; simp)]; omega)]
    refine hfree t fun j oj hoj hdj hdone => ht j oj hoj hdj ?_
    unfold doneS at hdone
    unfold doneE
    split
    · rename_i hc; rw [if_pos hc] at hdone; exact hdone
    · rename_i hc; rw [if_neg hc] at hdone; omega
  · rcases Nat.lt_or_ge (p.at_ i) k with hlt | hge
    · obtain ⟨b, v, d, hd, hv, hs, hy⟩ := hplain i o ho ha hp hlt
      refine ⟨b, v, d, hd, ?_, fun t ht => ⟨fun j oj hoj hdj => ⟨fun haj => ?_, ((hs t ht).1 j oj hoj hdj).2⟩, (hs t ht).2⟩, hy⟩
      · rw [hfr' d fun i' o' ho' ha' hat' hd' => ?_]
        · exact hv
        · have := h.one i i' o o' d ho ho' hd hd'
          subst this
          omega
      · rw [((hs t ht).1 j oj hoj hdj).1 haj]
        refine (hfr' t fun i' o' ho' ha' hat' hd' => ?_).symm
        obtain rfl := h.one j i' oj o' t hoj ho' hdj hd'
        have hf := (h.flo i o ho ha).2.2.2.2 j (hil j oj hoj) haj
        rw [if_neg (by rw [ha']; simp)] at hf
        omega
    · have hatk : p.at_ i = k := by omega
      obtain ⟨b, v, d, hd, hv, h1, h2, hy⟩ := hall i ((hmemF i).2 ⟨hil i o ho, ha, hatk⟩) o ho hp
      refine ⟨b, v, d, hd, hv (by rw [hsz]; exact h.lt i o d ho hd), fun t ht => ⟨fun j oj hoj hdj => ⟨fun haj => ?_, fun haj => ?_⟩, fun hno => ?_⟩, hy⟩
      · have hf := (h.flo i o ho ha).2.2.2.2 j (hil j oj hoj) haj
        have hlo := h.lower i o ho j (hil j oj hoj) haj
        by_cases hcase : p.act j = false ∧ p.at_ j = k
        · exact h1 t ⟨j, (hmemF j).2 ⟨hil j oj hoj, hcase⟩, hlo, oj, hoj, hdj⟩
        · rw [h2 t fun j' hj' _ oj' hoj' hdj' => by
            obtain rfl := h.one j j' oj oj' t hoj hoj' hdj hdj'
            exact hcase ((hmemF j).1 hj').2]
          refine (hfr' t fun i' o' ho' ha' hat' hd' => ?_).symm
          obtain rfl := h.one j i' oj o' t hoj ho' hdj hd'
          exact hcase ⟨ha', hat'⟩
      · have hr := (h.reads i j o oj t ho hoj hdj ht).resolve_left (by rw [haj]; simp)
        have hlo := h.lower j oj hoj i (hil i o ho) hr.1
        rw [h2 t fun j' hj' hlt oj' hoj' hdj' => by
          obtain rfl := h.one j j' oj oj' t hoj hoj' hdj hdj'
          omega]
        refine hfree t fun j' oj' hoj' hdj' hdone => ?_
        obtain rfl := h.one j j' oj oj' t hoj hoj' hdj hdj'
        unfold doneS at hdone
        by_cases hc : p.act j = true
        · rw [if_pos hc] at hdone
          obtain ⟨m, hm, hem⟩ := hdone
          have hf := (h.eff j m hem).1 i (hil i o ho) hr.1
          rw [if_neg (by rw [ha]; simp)] at hf
          omega
        · rw [if_neg hc] at hdone
          have hf := (h.flo j oj hoj (by simpa using hc)).2.2.2.2 i (hil i o ho) hr.1
          rw [if_neg (by rw [ha]; simp)] at hf
          omega
      · rw [h2 t fun j _ _ oj hoj => hno j oj hoj]
        exact hfree t fun j oj hoj hdj => absurd hdj (hno j oj hoj)
  · refine sames_at hsame i ?_ o ho
    simp only [Plan.checksAt, List.mem_filter, List.mem_range, Bool.and_eq_true, decide_eq_true_eq, ho, ha, hp, Bool.not_false, and_true]
    refine ⟨hil i o ho, ⟨trivial, hat⟩, ?_⟩
    cases k with
    | zero => rfl
    | succ m =>
      simp only
      cases he : p.effs[m]? with
      | none => rfl
      | some e => simp [hne m e rfl he]

/-- The state of the drawn walk: some of what looks has not come up yet. -/
structure Here (P : Program) (l : List Oper) (p : Plan) (N : Nat) (Q : Exit → Act → World → Prop) (a0 : Act) (L : Nat → Bool) (a : Act) (w : World) (k : Nat) (b : Act) : Prop where
  le : k ≤ p.effs.length
  mid : Mid P l p N Q a0 k b w
  defers : a.defers = b.defers
  size : a.tmps.size = N
  acts : ∀ m e, p.effs[m]? = some e → (L e = true ↔ m < k)
  came : ∀ (j : Nat) (o : Oper) (d : Nat), L j = true → l[j]? = some o → o.dst = some d → a.tmps[d]? = b.tmps[d]?
  old : ∀ t, (∀ (j : Nat) (o : Oper), L j = true → l[j]? = some o → o.dst ≠ some t) → a.tmps[t]? = a0.tmps[t]?
  late : ∀ (i : Nat) (o : Oper), l[i]? = some o → p.act i = false → p.at_ i ≤ k → L i = false → ∃ b' v d, o.dst = some d ∧ b.tmps[d]? = some v ∧ Sees p l a0 b i o b' ∧ Yld P l.toArray o b' w v

theorem late_of (h : PlanOK p l N) {Q : Exit → Act → World → Prop} {a0 b : Act} {w : World} {k : Nat} (hm : Mid P l p N Q a0 k b w) {i : Nat} {o : Oper} (ho : l[i]? = some o) (ha : p.act i = false) (hat : p.at_ i ≤ k)
    (hne : ∀ m e, k = m + 1 → p.effs[m]? = some e → p.ahead e i = false) : ∃ b' v d, o.dst = some d ∧ b.tmps[d]? = some v ∧ Sees p l a0 b i o b' ∧ Yld P l.toArray o b' w v := by
  by_cases hp : plainKind o = true
  · obtain ⟨b', v, d, h1, h2, h3, h4⟩ := hm.plain i o ho ha hp hat
    exact ⟨b', v, d, h1, h2, h3, h4 w⟩
  · have hp' : plainKind o = false := by simpa using hp
    have hs := hm.checks i o ho ha hp' hat hne
    obtain ⟨_, ⟨d, hd⟩, _⟩ := h.flo i o ho ha
    have hlt := h.lt i o d ho hd
    have hget : b.tmps[d]? = some (b.tmps.getD d undef) := by
      have := hm.size
      rw [Array.getElem?_eq_getElem (by omega), Array.getD_eq_getD_getElem?, Array.getElem?_eq_getElem (by omega)]
      rfl
    refine ⟨b, b.tmps.getD d undef, d, hd, hget, fun t ht => ⟨fun j oj hoj hdj => ⟨fun _ => rfl, fun hf => ?_⟩, fun hno => ?_⟩, ?_⟩
    · rcases h.reads i j o oj t ho hoj hdj ht with h1 | ⟨_, h1 | h1⟩
      · rw [hf] at h1; cases h1
      · rw [ha] at h1; cases h1
      · rw [hp'] at h1; cases h1
    · exact hm.free t fun j oj hoj hdj => absurd hdj (hno j oj hoj)
    · unfold Same at hs
      rw [hd] at hs
      simp only [Option.getD_some] at hs
      unfold Yld
      by_cases hw : Region.wanted o (yielded l.toArray b.tmps) = true
      · rw [if_pos hw] at hs
        exact .inl ⟨hw, hs⟩
      · rw [if_neg hw] at hs
        exact .inr ⟨by simpa using hw, hs⟩

theorem upon_rel {o : Oper} {a b : Act} (hd : a.defers = b.defers) {K : Act → World → Prop} {Kb : Act → World → Prop} {Q Qb : Exit → Act → World → Prop} (hQb : ∀ e a w, Qb e a w → e = .normal)
    (h : ∀ (a2 b2 : Act) (v : Value) (w2 : World), a2.defers = b2.defers → a2.tmps = (a.put o.dst v).tmps → b2.tmps = (b.put o.dst v).tmps → Kb b2 w2 → K a2 w2) (r : Result Next) (hh : o.upon P b Kb Qb r) : o.upon P a K Q r := by
  have hput : ∀ v, (a.put o.dst v).defers = (b.put o.dst v).defers := fun v => by rw [put_defers, put_defers, hd]
  cases r with
  | ok n w' =>
    cases n <;> simp only [Oper.upon] at hh ⊢
    case value v => exact h _ _ v _ (hput v) rfl rfl hh
    case skip => exact h _ _ undef _ (hput undef) rfl rfl hh
    case defer d =>
      refine h _ _ undef _ ?_ ?_ ?_ hh
      · rw [put_defers, put_defers, hd]
      · cases o.dst <;> rfl
      · cases o.dst <;> rfl
    case enter f args =>
      refine Calls.mono hh fun e w'' he => ?_
      cases e with
      | returned v => exact h _ _ v _ (hput v) rfl rfl he
      | panicked c => have := hQb _ _ _ he; cases this
      | outgrown => obtain ⟨a9, w9, h9⟩ := he; have := hQb _ _ _ h9; cases this
    case row rw args => exact Rows.mono hh fun v w'' he => h _ _ v _ (hput v) rfl rfl he
  | halt x w' =>
    cases x <;> simp only [Oper.upon] at hh ⊢
    case panic v => have := hQb _ _ _ hh; cases this

theorem agree_at (h : PlanOK p l N) {Q : Exit → Act → World → Prop} {a0 a b b' : Act} {w : World} {L : Nat → Bool} {k : Nat} (hc : Came l.toArray L) (hh : Here P l p N Q a0 L a w k b) {i : Nat} {o : Oper} (ho : l[i]? = some o) (hl : L i = false)
    (hdeps : ∀ e ∈ o.after, Region.binds .any e = true → L e.on = true) (hs : Sees p l a0 b i o b') : ∀ t ∈ o.looksAt l.toArray, a.tmps[t]? = b'.tmps[t]? := by
  intro t ht
  have hil : ∀ (i : Nat) (o : Oper), l[i]? = some o → i < l.length := fun i o ho => (List.getElem?_eq_some_iff.1 ho).1
  by_cases hw : ∃ (j : Nat) (oj : Oper), l[j]? = some oj ∧ oj.dst = some t
  · obtain ⟨j, oj, hoj, hdj⟩ := hw
    cases haj : p.ahead i j with
    | true =>
      have hlj := h.closed hc i o ho hdeps j (hil j oj hoj) haj
      rw [hh.came j oj t hlj hoj hdj, ((hs t ht).1 j oj hoj hdj).1 haj]
    | false =>
      have hr := (h.reads i j o oj t ho hoj hdj ht).resolve_left (by rw [haj]; simp)
      rw [((hs t ht).1 j oj hoj hdj).2 haj]
      refine hh.old t fun j' oj' hl' hoj' hdj' => ?_
      obtain rfl := h.one j j' oj oj' t hoj hoj' hdj hdj'
      have := h.closed' hc j oj hoj hl' i (hil i o ho) hr.1
      rw [hl] at this; cases this
  · have hno : ∀ (j : Nat) (oj : Oper), l[j]? = some oj → oj.dst ≠ some t := fun j oj hoj hdj => hw ⟨j, oj, hoj, hdj⟩
    rw [(hs t ht).2 hno, hh.old t fun j oj _ hoj => hno j oj hoj]

theorem region_seq {Q : Exit → Act → World → Prop} {id : Nat} {a0 : Act} {w : World} (p : Plan) (N : Nat) (hm : P.follows .mixedOrders = true) (hlow : lowB l.toArray = true) (hok : p.ok l N = true) (hN : a0.tmps.size = N)
    (hgo : SeqGo P l Q (p.segs l) a0 w.drew) : (Code.region id l.toArray true).wp P Q a0 w := by
  have h : PlanOK p l N := PlanOK.of hok
  have hil : ∀ (i : Nat) (o : Oper), l[i]? = some o → i < l.length := fun i o ho => (List.getElem?_eq_some_iff.1 ho).1
  refine region_inv hm hlow (fun L a w => ∃ k b, Here P l p N Q a0 L a w k b) ?_ ?_ ?_
  · obtain ⟨b, hmid, hdf, _⟩ := mid_of h (a0 := a0) (a := a0) (k := 0) (Nat.zero_le _) (by simpa using hgo) hN (fun _ _ => rfl) (fun i o _ _ _ hlt => absurd hlt (Nat.not_lt_zero _))
    exact ⟨0, b, ⟨Nat.zero_le _, hmid, hdf.symm, hN, (fun m e he => by simp), (fun j o d hl => by cases hl), (fun _ _ => rfl), fun i o ho ha hat _ => late_of h hmid ho ha hat (fun m e hk => by omega)⟩⟩
  · rintro L a w i o ho hli hdeps hc ⟨k, b, hh⟩
    have ho' : l[i]? = some o := by simpa using ho
    have hdeps' : ∀ e ∈ o.after, Region.binds .any e = true → L e.on = true := hdeps
    unfold wpOp
    rw [ho]
    simp only
    cases ha : p.act i with
    | false =>
      obtain ⟨hval, ⟨d, hd⟩, hle, hprev, hplace⟩ := h.flo i o ho' ha
      have hat : p.at_ i ≤ k := by
        cases hk : p.at_ i with
        | zero => omega
        | succ m =>
          obtain ⟨e, he, hae⟩ := hprev m hk
          have := h.closed hc i o ho' hdeps' e (h.efflt e (List.mem_of_getElem? he)) hae
          have := (hh.acts m e he).1 this
          omega
      obtain ⟨b', v, d', hd', hv, hs, hy⟩ := hh.late i o ho' ha hat hli
      rw [hd] at hd'; cases hd'
      have hag := agree_at h hc hh ho' hli hdeps' hs
      have hex : execOp a.eval o = execOp b'.eval o := execOp_same o (h.sel i o ho') hag
      have hwa : Region.wanted o (yielded l.toArray a.tmps) = Region.wanted o (yielded l.toArray b'.tmps) := wanted_same o hag
      have hnew : ∃ k b, Here P l p N Q a0 (fun j => L j || j == i) (a.put o.dst v) w k b := by
        refine ⟨k, b, ⟨hh.le, hh.mid, by rw [put_defers, hh.defers], by rw [put_size, hh.size], fun m e he => ?_, fun j oj dj hj hoj hdj => ?_, fun t ht => ?_, fun i' o' ho' ha' hat' hl' => ?_⟩⟩
        · have hne : (e == i) = false := by
            refine Bool.eq_false_iff.2 fun hb => ?_
            have hb' : e = i := by simpa using hb
            subst hb'
            have : p.act e = true := by simpa [Plan.act] using List.mem_of_getElem? he
            rw [ha] at this; cases this
          simp only [hne, Bool.or_false]
          exact hh.acts m e he
        · rw [hd]
          simp only [Bool.or_eq_true, beq_iff_eq] at hj
          rcases hj with hj | rfl
          · by_cases hdd : dj = d
            · subst hdd
              obtain rfl := h.one j i oj o dj hoj ho' hdj hd
              rw [hj] at hli; cases hli
            · rw [put_get_ne _ _ _ _ (Ne.symm hdd)]
              exact hh.came j oj dj hj hoj hdj
          · rw [ho'] at hoj; cases hoj
            rw [hd] at hdj; cases hdj
            rw [put_get_same _ _ _ (by rw [hh.size]; exact h.lt j o d ho' hd), hv]
        · have htd : d ≠ t := fun e => ht i o (by simp) ho' (by rw [hd, e])
          rw [hd, put_get_ne _ _ _ _ htd]
          exact hh.old t fun j oj hj hoj => ht j oj (by simp [hj]) hoj
        · simp only [Bool.or_eq_false_iff] at hl'
          exact hh.late i' o' ho' ha' hat' hl'.1
      rcases hy with ⟨hwant, hrun⟩ | ⟨hwant, rfl⟩
      · rw [hwa, if_pos hwant]
        refine .inl ?_
        unfold Oper.wp
        rw [hex, hrun]
        exact hnew
      · rw [hwa, if_neg (by rw [hwant]; simp)]
        exact hnew
    | true =>
      obtain ⟨k', hk'lt, hk'⟩ : ∃ k', k' < p.effs.length ∧ p.effs[k']? = some i := by
        have : i ∈ p.effs := by simpa [Plan.act] using ha
        obtain ⟨k', hlt, he⟩ := List.getElem_of_mem this
        exact ⟨k', hlt, by rw [List.getElem?_eq_getElem hlt, he]⟩
      have hkk : k' = k := by
        have h1 : ¬ k' < k := fun hlt => by
          have := (hh.acts k' i hk').2 hlt
          rw [hli] at this; cases this
        cases k' with
        | zero => omega
        | succ m =>
          obtain ⟨e, he, hae⟩ := (h.eff i (m + 1) hk').2 m rfl
          have := h.closed hc i o ho' hdeps' e (h.efflt e (List.mem_of_getElem? he)) hae
          have := (hh.acts m e he).1 this
          omega
      subst hkk
      have hnext := hh.mid.next
      rw [hk'] at hnext
      simp only at hnext
      have hops : opsAt l [i] = [o] := by simp [opsAt, ho']
      rw [hops] at hnext
      have hinj : ∀ m e, p.effs[m]? = some e → e = i → m = k' := fun m e he hei => by
        subst hei
        obtain ⟨hm1, hm2⟩ := List.getElem?_eq_some_iff.1 he
        obtain ⟨hk1, hk2⟩ := List.getElem?_eq_some_iff.1 hk'
        exact (List.getElem_inj h.nodup).1 (hm2.trans hk2.symm)
      have hs : Sees p l a0 b i o b := fun t ht => ⟨fun j oj hoj hdj => ⟨fun _ => rfl, fun hf => by
          have hr := (h.reads i j o oj t ho' hoj hdj ht).resolve_left (by rw [hf]; simp)
          refine hh.mid.free t fun j' oj' hoj' hdj' hdone => ?_
          obtain rfl := h.one j j' oj oj' t hoj hoj' hdj hdj'
          unfold doneE at hdone
          by_cases hc' : p.act j = true
          · rw [if_pos hc'] at hdone
            obtain ⟨m, hm', hem⟩ := hdone
            have := h.closed' hc j oj hoj ((hh.acts m j hem).2 hm') i (hil i o ho') hr.1
            rw [hli] at this; cases this
          · rw [if_neg hc'] at hdone
            have hf' := (h.flo j oj hoj (by simpa using hc')).2.2.2.2 i (hil i o ho') hr.1
            rw [if_pos ha] at hf'
            obtain ⟨m, hm', hem⟩ := hf'
            have := hinj m i hem rfl
            omega⟩, fun hno => hh.mid.free t fun j oj hoj hdj => absurd hdj (hno j oj hoj)⟩
      have hag := agree_at h hc hh ho' hli hdeps' hs
      have hex : execOp a.eval o = execOp b.eval o := execOp_same o (h.sel i o ho') hag
      have hwa : Region.wanted o (yielded l.toArray a.tmps) = Region.wanted o (yielded l.toArray b.tmps) := wanted_same o hag
      have hnd : ∀ (j : Nat) (oj : Oper) (t : Nat), l[j]? = some oj → oj.dst = some t → doneE p k' j → o.dst ≠ some t := fun j oj t hoj hdj hdone hdt => by
        obtain rfl := h.one j i oj o t hoj ho' hdj hdt
        unfold doneE at hdone
        rw [if_pos ha] at hdone
        obtain ⟨m, hm', hem⟩ := hdone
        have := hinj m j hem rfl
        omega
      have cont : ∀ (a2 b2 : Act) (v : Value) (w2 : World), a2.defers = b2.defers → a2.tmps = (a.put o.dst v).tmps → b2.tmps = (b.put o.dst v).tmps → SeqGo P l Q ((p.segs l).drop (k' + 1)) b2 w2 →
          ∃ k b, Here P l p N Q a0 (fun j => L j || j == i) a2 w2 k b := by
        intro a2 b2 v w2 hdf ha2 hb2 hgo2
        have hbput : ∀ t, o.dst ≠ some t → b2.tmps[t]? = b.tmps[t]? := fun t ht => by
          rw [hb2]
          cases hd : o.dst with
          | none => rfl
          | some d => exact put_get_ne _ _ _ _ fun e => ht (by rw [hd, e])
        have haput : ∀ t, o.dst ≠ some t → a2.tmps[t]? = a.tmps[t]? := fun t ht => by
          rw [ha2]
          cases hd : o.dst with
          | none => rfl
          | some d => exact put_get_ne _ _ _ _ fun e => ht (by rw [hd, e])
        obtain ⟨b3, hmid3, hdf3, hfr3⟩ := mid_of h (a0 := a0) (a := b2) (w := w2) (k := k' + 1) (by omega) hgo2 (by rw [hb2, put_size, hh.mid.size])
          (fun t ht => by
            have hne : o.dst ≠ some t := fun hd => ht i o ho' hd (by unfold doneS; rw [if_pos ha]; exact ⟨k', by omega, hk'⟩)
            rw [hbput t hne]
            refine hh.mid.free t fun j oj hoj hdj hdone => ht j oj hoj hdj ?_
            unfold doneE at hdone
            unfold doneS
            split
            · rename_i hc'; rw [if_pos hc'] at hdone
              obtain ⟨m, hm', hem⟩ := hdone
              exact ⟨m, by omega, hem⟩
            · rename_i hc'; rw [if_neg hc'] at hdone; omega)
          (fun i' o2 ho2 ha2' hp2 hlt2 => by
            obtain ⟨b', v', d', h1, h2, h3, h4⟩ := hh.mid.plain i' o2 ho2 ha2' hp2 (by omega)
            refine ⟨b', v', d', h1, ?_, fun t ht => ⟨fun j oj hoj hdj => ⟨fun haj => ?_, ((h3 t ht).1 j oj hoj hdj).2⟩, (h3 t ht).2⟩, h4⟩
            · rw [hbput d' (hnd i' o2 d' ho2 h1 (by unfold doneE; rw [if_neg (by rw [ha2']; simp)]; omega))]
              exact h2
            · rw [((h3 t ht).1 j oj hoj hdj).1 haj]
              refine (hbput t (hnd j oj t hoj hdj ?_)).symm
              have hf := (h.flo i' o2 ho2 ha2').2.2.2.2 j (hil j oj hoj) haj
              unfold doneE
              split
              · rename_i hc'; rw [if_pos hc'] at hf
                obtain ⟨m, hm', hem⟩ := hf
                exact ⟨m, by omega, hem⟩
              · rename_i hc'; rw [if_neg hc'] at hf; omega)
        refine ⟨k' + 1, b3, ⟨by omega, hmid3, by rw [hdf, hdf3], by rw [ha2, put_size, hh.size], fun m e he => ?_, fun j oj d hj hoj hdj => ?_, fun t ht => ?_, fun i' o2 ho2 ha2' hat2 hl2 => ?_⟩⟩
        · by_cases hei : e = i
          · have := hinj m e he hei
            subst hei
            simp [this]
          · have hb : (e == i) = false := by simpa using hei
            simp only [hb, Bool.or_false]
            rw [hh.acts m e he]
            constructor
            · intro h1; omega
            · intro h1
              rcases Nat.lt_or_ge m k' with h2 | h2
              · exact h2
              · have : m = k' := by omega
                subst this
                rw [hk'] at he; cases he
                exact absurd rfl hei
        · have hb3 : b3.tmps[d]? = b2.tmps[d]? := hfr3 d fun i' o2 ho2 ha2' hat2 hd2 => by
            obtain rfl := h.one j i' oj o2 d hoj ho2 hdj hd2
            obtain ⟨e, he, hae⟩ := (h.flo j oj hoj ha2').2.2.2.1 k' hat2
            rw [hk'] at he; cases he
            simp only [Bool.or_eq_true, beq_iff_eq] at hj
            rcases hj with hj | rfl
            · have := h.closed' hc j oj hoj hj i (hil i o ho') hae
              rw [hli] at this; cases this
            · rw [ha] at ha2'; cases ha2'
          rw [hb3]
          simp only [Bool.or_eq_true, beq_iff_eq] at hj
          by_cases hdo : o.dst = some d
          · rw [ha2, hb2, hdo, put_get_same _ _ _ (by rw [hh.size]; exact h.lt i o d ho' hdo), put_get_same _ _ _ (by rw [hh.mid.size]; exact h.lt i o d ho' hdo)]
          · rcases hj with hj | rfl
            · rw [haput d hdo, hbput d hdo]
              exact hh.came j oj d hj hoj hdj
            · rw [ho'] at hoj; cases hoj
              exact absurd hdj hdo
        · have hne : o.dst ≠ some t := fun hd => ht i o (by simp) ho' hd
          rw [haput t hne]
          exact hh.old t fun j oj hj hoj => ht j oj (by simp [hj]) hoj
        · refine late_of h hmid3 ho2 ha2' hat2 fun m e hk1 he => ?_
          obtain rfl : m = k' := by omega
          rw [hk'] at he; cases he
          simp only [Bool.or_eq_false_iff] at hl2
          refine Bool.eq_false_iff.2 fun hb => ?_
          have := h.closed hc i o ho' hdeps' i' (hil i' o2 ho2) hb
          rw [hl2.1] at this; cases this
      simp only [wpList] at hnext
      by_cases hw : Region.wanted o (yielded l.toArray b.tmps) = true
      · rw [if_pos hw] at hnext
        rw [hwa, if_pos hw]
        rcases hnext with hnext | ⟨_, a9, w9, h9⟩
        · refine .inl ?_
          unfold Oper.wp at hnext ⊢
          rw [hex]
          exact upon_rel hh.defers (fun e a w h => h.1) (fun a2 b2 v w2 h1 h2 h3 h4 => cont a2 b2 v w2 h1 h2 h3 h4.2) _ hnext
        · cases h9.1
      · rw [if_neg hw] at hnext
        rw [hwa, if_neg hw]
        exact cont _ _ undef _ (by rw [put_defers, put_defers, hh.defers]) rfl rfl hnext.2
  · rintro L a w hall ⟨k, b, hh⟩
    have hkm : k = p.effs.length := by
      rcases Nat.lt_or_ge k p.effs.length with hlt | hge
      · have he : p.effs[k]? = some p.effs[k] := List.getElem?_eq_getElem hlt
        have := (hh.acts k _ he).1 (hall _ (by simpa using h.efflt _ (List.mem_of_getElem? he)))
        omega
      · have := hh.le; omega
    have hnext := hh.mid.next
    rw [List.getElem?_eq_none (by omega)] at hnext
    simp only at hnext
    have hab : a = b := by
      refine act_ext hh.defers (by rw [hh.size, hh.mid.size]) fun t _ => ?_
      by_cases hw : ∃ (j : Nat) (oj : Oper), l[j]? = some oj ∧ oj.dst = some t
      · obtain ⟨j, oj, hoj, hdj⟩ := hw
        exact hh.came j oj t (hall j (by simpa using hil j oj hoj)) hoj hdj
      · have hno : ∀ (j : Nat) (oj : Oper), l[j]? = some oj → oj.dst ≠ some t := fun j oj hoj hdj => hw ⟨j, oj, hoj, hdj⟩
        rw [hh.old t fun j oj _ hoj => hno j oj hoj, hh.mid.free t fun j oj hoj hdj => absurd hdj (hno j oj hoj)]
    rw [hab]
    exact hnext

theorem region_plan {Q : Exit → Act → World → Prop} {id : Nat} {a0 : Act} {w : World} (p : Plan) (segs : List Seg) (N : Nat) (hm : P.follows .mixedOrders = true) (hlow : lowB l.toArray = true) (hok : p.ok l N = true) (hs : p.segs l = segs) (hN : a0.tmps.size = N)
    (hgo : SeqGo P l Q segs a0 w.drew) : (Code.region id l.toArray true).wp P Q a0 w := region_seq p N hm hlow hok hN (by rw [hs]; exact hgo)
theorem opsAt_nil (l : List Oper) : opsAt l [] = [] := rfl
theorem opsAt_cons (l : List Oper) (i : Nat) (r : List Nat) : opsAt l (i :: r) = (l[i]?).toList ++ opsAt l r := by
  unfold opsAt
  cases h : l[i]? <;> simp [h]
end
end Go.Proofs.Ytlgcnnhlbkidmaa
