/-
  A part of a block that is read whole: an array or struct inside a struct.
-/
import Derived.Test.YtlgcnnhlbkidmaaApp
namespace Go.Proofs.Ytlgcnnhlbkidmaa
open Go.RowKit

theorem run_loadVar_sub {P : Program} (w : World) (ty : TypeId) {g off : Nat} {ys : List Value} {d : TypeDesc} (hc : ∀ j v, ys[j]? = some v → w.cell? ⟨g, off + j, none⟩ = some v)
    (hu : P.underlying ty = some d) (hd : (match d with | .struct _ | .array _ _ => true | _ => false) = true) {n : Nat} (hi : (P.info? ty).map (·.size) = some n) (hn : ys.length = n) :
    (loadVar ty ⟨g, off, none⟩).run P w = .ok (.agg ys.toArray) w := by
  have hl : (loadCells ⟨g, off, none⟩ ys.length).run P w = .ok ys.toArray w :=
    run_loadCells_list (P := P) w ⟨g, off, none⟩ ys (fun j v hv => by
      have hadd : (⟨g, off, none⟩ : Addr).add j = ⟨g, off + j, none⟩ := by unfold Addr.add; split <;> simp_all
      rw [hadd]
      exact hc j v hv)
  cases hq : P.info? ty with
  | none => simp [hq] at hi
  | some i =>
    have hs : i.size = n := by simpa [hq] using hi
    have hagg : (isAgg ty).run P w = .ok true w := by
      unfold isAgg
      rw [Sem.run_bind, run_underlying hu w]
      cases d <;> simp_all
    rw [hn] at hl
    simp [loadVar, Sem.run_bind, hagg, sizeOf, typeInfo, hq, hs, hl]
theorem exec_load_sub {P : Program} {w : World} {o : Oper} {ρ : Operand → Value} (ty : TypeId) (x : Operand) (ho : o.op = .load ty x) {g off : Nat} (hx : ρ x = .pointer (some ⟨g, off, none⟩))
    {ys : List Value} {d : TypeDesc} (hc : ∀ j v, ys[j]? = some v → w.cell? ⟨g, off + j, none⟩ = some v) (hu : P.underlying ty = some d)
    (hd : (match d with | .struct _ | .array _ _ => true | _ => false) = true) {n : Nat} (hi : (P.info? ty).map (·.size) = some n) (hn : ys.length = n) :
    (execOp ρ o).run P w = .ok (.value (.agg ys.toArray)) w := by
  unfold execOp
  simp only [ho, hx, Instr.loadAt, Instr.sureAddr, Sem.run_bind, Sem.run_pure, Result.andThen_ok, run_loadVar_sub w ty hc hu hd hi hn]
theorem wp_load_sub {P : Program} {ops : Array Oper} {rest : List Oper} {o : Oper} {a : Act} {w : World} {Q : Exit → Act → World → Prop} (hgd : o.guard = none) (ty : TypeId) (x : Operand) (ho : o.op = .load ty x)
    {g off : Nat} (hx : a.eval x = .pointer (some ⟨g, off, none⟩)) {ys : List Value} {d : TypeDesc} (hc : ∀ j v, ys[j]? = some v → w.cell? ⟨g, off + j, none⟩ = some v)
    (hu : P.underlying ty = some d) (hd : (match d with | .struct _ | .array _ _ => true | _ => false) = true) {n : Nat} (hi : (P.info? ty).map (·.size) = some n) (hn : ys.length = n)
    (h : wpList P ops Q rest (a.put o.dst (.agg ys.toArray)) w) : wpList P ops Q (o :: rest) a w :=
  wpList_plain hgd fun K hK => by
    unfold Oper.wp
    rw [exec_load_sub ty x ho hx hc hu hd hi hn]
    exact hK _ _ h
/-- What a stretch of a block reads as. -/
theorem Blk.part {w : World} {b : Nat} {cs : List Value} {t : TypeId} (h : Blk w b cs t) (off : Nat) {ys : List Value} (hy : (cs.drop off).take ys.length = ys) : ∀ j v, ys[j]? = some v → w.cell? ⟨b, off + j, none⟩ = some v := by
  intro j v hj
  rw [h.get, ← hj]
  have hlt := (List.getElem?_eq_some_iff.1 hj).1
  conv => rhs; rw [← hy]
  rw [List.getElem?_take_of_lt hlt, List.getElem?_drop]
end Go.Proofs.Ytlgcnnhlbkidmaa
