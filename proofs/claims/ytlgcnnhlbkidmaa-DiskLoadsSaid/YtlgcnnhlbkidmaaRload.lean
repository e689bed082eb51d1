/-
  The reference's Load, Same.
-/
import Derived.Test.YtlgcnnhlbkidmaaRput
namespace Go.Proofs.Ytlgcnnhlbkidmaa
open Go.RowKit

/-- May a file be laid? -/
def okF (f : FileA) : Bool := namedB f.nm && decide (f.data.length ≤ 1048576) && decide (0 ≤ f.kept) && decide (f.kept ≤ f.data.length)
/-- What comes of laying files, one behind the other. -/
def rl : List FileA → List FileA → Option (List FileA)
  | acc, [] => some acc
  | acc, f :: r => if okF f then rl (rp f false acc) r else none
def rloadS (old l : List FileA) : Int × List FileA :=
  match rl [] l with
  | none => (1, old)
  | some m => if m.length < l.length ∨ 64 < l.length then (1, old) else (0, m)
theorem if_len {α : Type} (b : Bool) (x : α) : (if b = true then [] else [x]).length ≤ 1 := by cases b <;> simp
theorem rp_true (f : FileA) : ∀ r : List FileA, (rp f true r).length ≤ r.length
  | [] => by simp [rp]
  | y :: t => by
    have h1 := rp_true f t
    have h2 := if_len (y.nm.toList == f.nm.toList) y
    simp only [rp, Bool.not_true, Bool.false_and, Bool.true_or, List.length_append, List.length_cons, Bool.false_eq_true, if_false, List.length_nil]
    omega
theorem rp_len (f : FileA) : ∀ (l : List FileA) (b : Bool), (rp f b l).length ≤ l.length + 1
  | [], b => by cases b <;> simp [rp]
  | x :: r, b => by
    have h1 := rp_len f r false
    have h2 := if_len (x.nm.toList == f.nm.toList) x
    have h3 := rp_true f r
    cases b
    · cases hl : leN_ f.nm x.nm
      · simp only [rp, hl, Bool.and_false, Bool.or_false, List.length_append, List.length_cons, Bool.false_eq_true, if_false, List.length_nil]
        omega
      · simp only [rp, hl, Bool.not_false, Bool.and_true, Bool.or_true, List.length_append, List.length_cons, if_true, List.length_nil]
        omega
    · simp only [rp, Bool.not_true, Bool.false_and, Bool.true_or, List.length_append, List.length_cons, Bool.false_eq_true, if_false, List.length_nil]
      omega
theorem rp_mem (f : FileA) : ∀ (l : List FileA) (b : Bool) (x : FileA), x ∈ rp f b l → x = f ∨ x ∈ l
  | [], b, x, h => by cases b <;> simp [rp] at h; exact .inl h
  | y :: r, b, x, h => by
    simp only [rp, List.mem_append] at h
    rcases h with h | h | h
    · split at h <;> simp at h; exact .inl h
    · split at h <;> simp at h; exact .inr (by simp [h])
    · rcases rp_mem f r _ x h with h | h
      · exact .inl h
      · exact .inr (List.mem_cons_of_mem _ h)
end Go.Proofs.Ytlgcnnhlbkidmaa
