/-
  A field of a struct's value.
-/
import Derived.Test.YtlgcnnhlbkidmaaBase
namespace Go.Proofs.Ytlgcnnhlbkidmaa
open Go

theorem run_field1 {P : Program} {w : World} {ty : TypeId} {i : Nat} {cs : Array Value} {fs : Array Field} (hu : P.underlying ty = some (.struct fs)) {f : Field} (hf : fs[i]? = some f) {d : TypeDesc} (hd : P.underlying f.type = some d)
    (hs : (match d with | .struct _ | .array _ _ => false | _ => true) = true) {v : Value} (hv : cs[f.offset]? = some v) : (Instr.field ty (.agg cs) i).run P w = .ok v w := by
  simp [Instr.field, run_underlying hu, hf, part, isAgg, asAgg, run_underlying hd]
  cases d <;> simp at hs <;> simp [hv]
theorem wp_field1 {P : Program} {ops : Array Oper} {rest : List Oper} {o : Oper} {a : Act} {w : World} {Q : Exit → Act → World → Prop} (ty : TypeId) (x : Operand) (i : Nat) (ho : o.op = .field ty x i) (hw : Region.wanted o (yielded ops a.tmps) = true)
    {cs : List Value} (hx : a.eval x = .agg cs.toArray) {fs : Array Field} (hu : P.underlying ty = some (.struct fs)) {f : Field} (hf : fs[i]? = some f) {d : TypeDesc} (hd : P.underlying f.type = some d)
    (hs : (match d with | .struct _ | .array _ _ => false | _ => true) = true) {v : Value} {r : List Value} (hv : cs.drop f.offset = v :: r) (h : wpList P ops Q rest (a.put o.dst v) w) : wpList P ops Q (o :: rest) a w := by
  have hv' : cs.toArray[f.offset]? = some v := by
    have : (cs.drop f.offset)[0]? = some v := by rw [hv]; rfl
    simpa using this
  rw [wpList, if_pos hw]
  refine .inl ?_
  unfold Oper.wp
  simp only [execOp, ho, hx, Sem.run_bind, run_field1 hu hf hd hs hv', Result.andThen_ok, Sem.run_pure, Oper.upon]
  exact h
end Go.Proofs.Ytlgcnnhlbkidmaa
