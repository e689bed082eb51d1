/-
  A select with a default, of one case, in one goroutine: rules for the walk. No program.
-/
import Derived.Conc.LoneCalls
import Derived.Tactics
namespace Go.Proofs.Ytlgcnnhlbkidmaa
open Go Go.Conc Go.RowKit

section
variable {P : Program} {fr : Frame} {cs : List Frame} {w w₁ : World} {es : Array Event} {c cap s r : Nat} {tm : Bool} {buf : Array Value} {v z : Value}
theorem step_select_send (h : stepG P true (G fr cs) w = .comm (G fr cs) #[scase c v z] false .select w₁ es) (hc : w₁.heap[c]? = some (.chan cap buf false s r tm)) (hroom : buf.size < cap) :
    step P (solo (G fr cs) w) = .next (solo (G (fr.finish (.tuple #[goInt 0, .bool false])) cs) (w₁.setChan c cap (buf.push v) false (s + 1) r tm)) := by
  have hp := partners_alone (c := c) false
  rw [step, stepT_solo rfl]
  simp [runT, solo, G, Array.swapAt!, Array.swapAt, h, GStep.es, communicate, ways, scase, hc, hp, hroom, choose, Sem.run, Question.forced, bind, Sem.bind, pure, Goroutine.finishComm, commResult, World.setChan] at h ⊢
theorem step_select_full (h : stepG P true (G fr cs) w = .comm (G fr cs) #[scase c v z] false .select w₁ es) (hc : w₁.heap[c]? = some (.chan cap buf false s r tm)) (hfull : ¬ buf.size < cap) :
    step P (solo (G fr cs) w) = .next (solo (G (fr.finish (.tuple #[goInt (-1), .bool false])) cs) w₁) := by
  have hp := partners_alone (c := c) false
  rw [step, stepT_solo rfl]
  simp [runT, solo, G, Array.swapAt!, Array.swapAt, h, GStep.es, communicate, ways, scase, hc, hp, hfull, Goroutine.finishComm, commResult] at h ⊢
theorem step_select_recv (h : stepG P true (G fr cs) w = .comm (G fr cs) #[rcase c z] false .select w₁ es) (hc : w₁.heap[c]? = some (.chan cap buf false s r tm)) (hsome : 0 < buf.size) :
    step P (solo (G fr cs) w) = .next (solo (G (fr.finish (.tuple #[goInt 0, .bool true, buf.getD 0 undef])) cs) (w₁.setChan c cap (buf.extract 1 buf.size) false s (r + 1) tm)) := by
  have hp := partners_alone (c := c) true
  rw [step, stepT_solo rfl]
  simp [runT, solo, G, Array.swapAt!, Array.swapAt, h, GStep.es, communicate, ways, rcase, hc, hp, hsome, choose, Sem.run, Question.forced, bind, Sem.bind, pure, Goroutine.finishComm, commResult, World.setChan] at h ⊢
end

/-- 'Code.wp' for frames that are not early: where a communication may stand. -/
def wpN (P : Program) (c : Code) (Q : Exit → Act → World → Prop) (a : Act) (w : World) : Prop :=
  ∀ (b : Frame), b.kind ≠ .early → ∀ (k : List Item) (cs : List Frame), ∃ e a' w', Q e a' w' ∧ Arrives P (lone (b.at a (.code c :: k)) cs w) b k cs e a' w'

section
variable {P : Program} {Q : Exit → Act → World → Prop} {a : Act} {w : World}
theorem wpN_of_wp {c : Code} (h : c.wp P Q a w) : wpN P c Q a w := fun b _ k cs => h b k cs
theorem wpN_seq {x y : Code} (h : wpN P x (Exit.then (wpN P y Q) Q) a w) : wpN P (Code.seq x y) Q a w := by
  intro b hb k cs
  obtain ⟨e, a₁, w₁, hq, harr⟩ := h b hb (.code y :: k) cs
  cases e with
  | normal =>
    obtain ⟨e₂, a₂, w₂, hq₂, harr₂⟩ := hq b hb k cs
    exact ⟨e₂, a₂, w₂, hq₂, .of_steps (.head step_seq harr) harr₂⟩
  | exit id => exact ⟨_, a₁, w₁, hq, .of_steps (.one step_seq) (.pass (x := .code y) rfl (fun _ _ => .inl (by simp)) harr)⟩
  | goto l => exact ⟨_, a₁, w₁, hq, .of_steps (.one step_seq) (.pass (x := .code y) rfl (fun _ _ => .inl (by simp)) harr)⟩
  | ret => exact ⟨_, a₁, w₁, hq, .of_steps (.one step_seq) (.pass (x := .code y) rfl (fun _ _ => .inl (by simp)) harr)⟩
  | panic ch => exact ⟨_, a₁, w₁, hq, .of_steps (.one step_seq) (.pass (x := .code y) rfl (fun _ _ => .inl (by simp)) harr)⟩
  | outgrown => exact ⟨_, a₁, w₁, hq, .of_steps (.one step_seq) (.pass (x := .code y) rfl (fun _ _ => .inl (by simp)) harr)⟩
theorem wpN_cond {c : Operand} {x y : Code} {t : Bool} (hc : a.eval c = .bool t) (h : wpN P (if t then x else y) Q a w) : wpN P (Code.cond c x y) Q a w :=
  fun b hb k cs => let ⟨e, a', w', q, r⟩ := h b hb k cs; ⟨e, a', w', q, .of_steps (.one (step_cond hc)) r⟩
theorem wpN_block {id : Nat} {c : Code} (h : wpN P c (Exit.inBlock id Q) a w) : wpN P (Code.block id c) Q a w := by
  intro b hb k cs
  obtain ⟨e, a₁, w₁, hq, harr⟩ := h b hb (.inBlock id :: k) cs
  cases e with
  | normal => exact ⟨.normal, a₁, w₁, hq, .head step_block (Steps.trans harr (.one step_inBlock))⟩
  | exit id' =>
    by_cases hid : id' = id
    · simp only [Exit.inBlock, hid, if_true] at hq
      exact ⟨.normal, a₁, w₁, hq, .head step_block (harr k (by simp [exitTo, hid]))⟩
    · simp only [Exit.inBlock, hid, if_false] at hq
      refine ⟨.exit id', a₁, w₁, hq, fun k' hk => .head step_block (harr k' ?_)⟩
      have : (id == id') = false := by simp; exact fun h => hid h.symm
      simp [exitTo, this, hk]
  | goto l => exact ⟨_, a₁, w₁, hq, fun k' hk => .head step_block (harr k' (by simp [gotoIn, hk]))⟩
  | ret => exact ⟨_, a₁, w₁, hq, .of_steps (.one step_block) harr⟩
  | panic ch => exact ⟨_, a₁, w₁, hq, .of_steps (.one step_block) harr⟩
  | outgrown => exact ⟨_, a₁, w₁, hq, .of_steps (b := b) (k := k) (cs := cs) (e := .outgrown) (.one step_block) harr⟩
theorem wpN_mono {c : Code} {Q' : Exit → Act → World → Prop} (h : wpN P c Q a w) (hq : ∀ e a w, Q e a w → Q' e a w) : wpN P c Q' a w :=
  fun b hb k cs => let ⟨e, a', w', q, r⟩ := h b hb k cs; ⟨e, a', w', hq _ _ _ q, r⟩
theorem calls_of_wpN {f : FuncId} {fn : Func} {c : Code} {args : Array Value} {R : Ending → World → Prop}
    (hf : P.funcs[f]? = some fn) (hb : fn.body = some c) (h : wpN P c (bodyPost P fn R) { tmps := args ++ Array.replicate (fn.ntmps - args.size) undef, defers := [] } w) : Calls P f args w R := by
  intro cs
  let b : Frame := { (default : Frame) with fn := f, kind := .normal }
  have henter : Frame.enter P f args .normal = b.at { tmps := args ++ Array.replicate (fn.ntmps - args.size) undef, defers := [] } [.code c] := by
    simp [Frame.enter, Frame.at, hf, hb, b]
  obtain ⟨e, a', w', hq, harr⟩ := h b (by simp [b]) [] cs
  rw [← henter] at harr
  cases e with
  | normal =>
    obtain ⟨hd, v, hr, hR⟩ := hq
    exact ⟨.returned v, w', _, hR, Steps.trans harr (.one step_end), rfl, rfl, hd, rfl, fn, hf, hr⟩
  | ret =>
    obtain ⟨hd, v, hr, hR⟩ := hq
    obtain ⟨todo, hs⟩ := harr
    exact ⟨.returned v, w', _, hR, hs, rfl, rfl, hd, rfl, fn, hf, hr⟩
  | panic chain =>
    obtain ⟨hd, hR⟩ := hq
    obtain ⟨todo, hs⟩ := harr
    exact ⟨.panicked chain, w', _, hR, hs, rfl, rfl, hd, fn, hf⟩
  | exit id => exact hq.elim
  | goto l => exact hq.elim
  | outgrown => exact ⟨.outgrown, w', b, hq, harr.resolve_left (by simp [b]), rfl, trivial⟩
end

section
variable {P : Program} {Q : Exit → Act → World → Prop} {a : Act} {w w' : World} {ops : Array Oper} {id : Nat} {o : Oper} {rest : List Nat} {v : Value} {c cap s r : Nat} {tm : Bool} {buf : Array Value}
theorem wpN_region_first (ho : ops[0]? = some o) (hr : List.range ops.size = 0 :: rest)
    (hs : ∀ (b : Frame), b.kind ≠ .early → ∀ (k : List Item) (cs : List Frame), step P (solo (G (b.at a (.inRegion ops (0 :: rest) :: k)) cs) w) = .next (solo (G ((b.at a (.inRegion ops (0 :: rest) :: k)).finish v) cs) w'))
    (h : wpOps P ops Q rest (a.put o.dst v) w') : wpN P (.region id ops false) Q a w := by
  intro b hb k cs
  obtain ⟨e, a', w'', hq, harr⟩ := wp_ops rest _ _ h b k cs
  refine ⟨e, a', w'', hq, .of_steps (.one step_region) ?_⟩
  rw [hr]
  have h1 := hs b hb k cs
  rw [Frame.finish_at, ho, ← lone_eq_solo, ← lone_eq_solo] at h1
  exact .of_steps (.one h1) harr
theorem wpN_select_send (ho : ops[0]? = some o) (hr : List.range ops.size = 0 :: rest) (hg : o.guard = none) {x z : Value}
    (hrun : (execOp a.eval o).run P w = .ok (.comm #[scase c x z] false .select) w) (hc : w.heap[c]? = some (.chan cap buf false s r tm)) (hroom : buf.size < cap)
    (h : wpOps P ops Q rest (a.put o.dst (.tuple #[goInt 0, .bool false])) (w.setChan c cap (buf.push x) false (s + 1) r tm)) : wpN P (.region id ops false) Q a w :=
  wpN_region_first ho hr (fun _ hb _ _ => step_select_send (stepG_comm ho (by simp [Region.wanted, hg]) hb hrun) hc hroom) h
theorem wpN_select_full (ho : ops[0]? = some o) (hr : List.range ops.size = 0 :: rest) (hg : o.guard = none) {x z : Value}
    (hrun : (execOp a.eval o).run P w = .ok (.comm #[scase c x z] false .select) w) (hc : w.heap[c]? = some (.chan cap buf false s r tm)) (hfull : ¬ buf.size < cap)
    (h : wpOps P ops Q rest (a.put o.dst (.tuple #[goInt (-1), .bool false])) w) : wpN P (.region id ops false) Q a w :=
  wpN_region_first ho hr (fun _ hb _ _ => step_select_full (stepG_comm ho (by simp [Region.wanted, hg]) hb hrun) hc hfull) h
theorem wpN_select_recv (ho : ops[0]? = some o) (hr : List.range ops.size = 0 :: rest) (hg : o.guard = none) {z : Value}
    (hrun : (execOp a.eval o).run P w = .ok (.comm #[rcase c z] false .select) w) (hc : w.heap[c]? = some (.chan cap buf false s r tm)) (hsome : 0 < buf.size)
    (h : wpOps P ops Q rest (a.put o.dst (.tuple #[goInt 0, .bool true, buf.getD 0 undef])) (w.setChan c cap (buf.extract 1 buf.size) false s (r + 1) tm)) : wpN P (.region id ops false) Q a w :=
  wpN_region_first ho hr (fun _ hb _ _ => step_select_recv (stepG_comm ho (by simp [Region.wanted, hg]) hb hrun) hc hsome) h
theorem wpN_select_none (ho : ops[0]? = some o) (hr : List.range ops.size = 0 :: rest) (hg : o.guard = none) {z : Value}
    (hrun : (execOp a.eval o).run P w = .ok (.comm #[rcase c z] false .select) w) (hc : w.heap[c]? = some (.chan cap #[] false s r tm))
    (h : wpOps P ops Q rest (a.put o.dst (.tuple #[goInt (-1), .bool false, z])) w) : wpN P (.region id ops false) Q a w :=
  wpN_region_first ho hr (fun _ hb _ _ => step_lone_select_default (stepG_comm ho (by simp [Region.wanted, hg]) hb hrun) hc) h
end
end Go.Proofs.Ytlgcnnhlbkidmaa
