/-
  A struct's value that is built of parts of more than one cell.
-/
import Derived.Test.YtmjjnaaiakchhaaDoorBase
namespace Go.Proofs.YtmjjnaaiakchhaaDoor
open Go

def spl (zs : List Value) (off : Nat) (l : List Value) : List Value := zs.take off ++ l ++ zs.drop (off + l.length)
theorem spl_len (zs : List Value) (off : Nat) (l : List Value) (h : off + l.length ≤ zs.length) : (spl zs off l).length = zs.length := by simp [spl]; omega
theorem foldl_put (off : Nat) : ∀ (l : List Value) (k : Nat) (cs : Array Value), off + k + l.length ≤ cs.size →
    ((l.zipIdx k).foldl (fun cs (x : Value × Nat) => cs.setIfInBounds (off + x.2) x.1) cs).toList = cs.toList.take (off + k) ++ l ++ cs.toList.drop (off + k + l.length)
  | [], k, cs, _ => by simp
  | x :: l, k, cs, h => by
    simp only [List.length_cons] at h
    simp only [List.zipIdx_cons, List.foldl_cons]
    rw [foldl_put off l (k + 1) _ (by simp; omega)]
    have hlt : off + k < cs.toList.length := by simp; omega
    simp only [Array.toList_setIfInBounds, ← Nat.add_assoc]
    rw [List.take_succ_eq_append_getElem (by simpa using hlt), List.getElem_set_self, List.take_set_of_le (Nat.le_refl _), List.drop_set_of_lt (by omega)]
    simp only [List.append_assoc, List.cons_append, List.nil_append, List.length_cons]
    rw [show off + k + (l.length + 1) = off + k + 1 + l.length by omega]
theorem fill_spl {place : Nat → Option (Nat × Nat)} {zs : List Value} {i off size : Nat} {v : Value} {rest : List (Nat × Value)} (hp : place i = some (off, size)) (hv : v.cells.size = size) (hl : off + size ≤ zs.length) :
    Instr.fill place zs.toArray ((i, v) :: rest) = Instr.fill place (spl zs off v.cells.toList).toArray rest := by
  subst hv
  rw [Instr.fill, hp]
  simp only
  rw [if_neg (by simp; omega)]
  congr 1
  apply Array.toList_inj.1
  have h := foldl_put off v.cells.toList 0 zs.toArray (by simpa using hl)
  rw [← Array.foldl_toList, Array.toList_zipIdx]
  simpa [spl] using h
/-- An operation whose run is known. -/
theorem wp_value {P : Program} {ops : Array Oper} {rest : List Oper} {o : Oper} {a : Act} {w : World} {Q : Exit → Act → World → Prop} {v : Value} (hg : o.guard = none) (hr : (execOp a.eval o).run P w = .ok (.value v) w) (h : wpList P ops Q rest (a.put o.dst v) w) : wpList P ops Q (o :: rest) a w :=
  wpList_plain hg fun K hK => by
    show o.upon P a K Q ((execOp a.eval o).run P w)
    rw [hr]
    exact hK _ _ h
end Go.Proofs.YtmjjnaaiakchhaaDoor
