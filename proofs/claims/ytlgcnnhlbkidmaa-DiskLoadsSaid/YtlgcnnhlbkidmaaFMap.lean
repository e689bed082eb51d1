/-
  A map from names to values of whatever kind: it reads as a rising list of names with their values.
-/
import Derived.Test.YtlgcnnhlbkidmaaTurns
import Derived.Maps.OwnSet
import Derived.Sort.KeysCollected
namespace Go.Proofs.Ytlgcnnhlbkidmaa
open Go.RowKit Go.ChangeMaps Go.MapKept

abbrev Bt := List UInt8
/-- Any value, told as it is. -/
def tok (v : Value) : Option (DataW Value × List MemPlace) := some (.held v, [])
def FD (fs : List (Bt × Value)) : DataW Value := .map (fs.map fun f => (.string f.1, .held f.2))
def lookF {α : Type} (fs : List (Bt × α)) (x : Bt) : Option α := (fs.find? fun f => f.1 == x).map Prod.snd
def insF {α : Type} (x : Bt × α) : List (Bt × α) → List (Bt × α)
  | [] => [x]
  | y :: r => if bytesBefore x.1 y.1 then x :: y :: r else y :: insF x r
def delF {α : Type} (fs : List (Bt × α)) (x : Bt) : List (Bt × α) := fs.filter fun f => !(f.1 == x)
def putF {α : Type} (fs : List (Bt × α)) (x : Bt) (v : α) : List (Bt × α) := insF (x, v) (delF fs x)
def Rise {α : Type} (fs : List (Bt × α)) : Prop := fs.Pairwise fun a b => bytesBefore a.1 b.1 = true

theorem mem_insF {α : Type} {x y : Bt × α} {fs : List (Bt × α)} : y ∈ insF x fs ↔ y = x ∨ y ∈ fs := by
  induction fs with
  | nil => simp [insF]
  | cons z r ih =>
    unfold insF
    split
    · simp
    · simp [ih]; constructor <;> rintro (h | h | h) <;> simp_all
theorem insF_rise {α : Type} {x : Bt × α} {fs : List (Bt × α)} (h : Rise fs) (hx : ∀ f ∈ fs, f.1 ≠ x.1) : Rise (insF x fs) := by
  induction fs with
  | nil => exact List.pairwise_singleton _ _
  | cons z r ih =>
    obtain ⟨h1, h2⟩ := List.pairwise_cons.1 h
    unfold insF
    split
    · refine List.pairwise_cons.2 ⟨fun a ha => ?_, h⟩
      rcases List.mem_cons.1 ha with rfl | ha
      · assumption
      · exact WideShapes.bytes_trans _ _ _ (by assumption) (h1 a ha)
    · refine List.pairwise_cons.2 ⟨fun a ha => ?_, ih h2 fun f hf => hx f (List.mem_cons_of_mem _ hf)⟩
      rcases mem_insF.1 ha with rfl | ha
      · have := hx z List.mem_cons_self
        rcases WideAt.bytes_total z.1 a.1 this with h | h
        · exact h
        · contradiction
      · exact h1 a ha
theorem delF_rise {α : Type} {fs : List (Bt × α)} (h : Rise fs) (x : Bt) : Rise (delF fs x) := h.sublist List.filter_sublist
theorem mem_delF {α : Type} {fs : List (Bt × α)} {x : Bt} {f : Bt × α} : f ∈ delF fs x ↔ f ∈ fs ∧ f.1 ≠ x := by
  simp [delF]
theorem putF_rise {α : Type} {fs : List (Bt × α)} (h : Rise fs) (x : Bt) (v : α) : Rise (putF fs x v) :=
  insF_rise (delF_rise h x) fun _ hf => (mem_delF.1 hf).2

/-! ### What the model's map is -/
theorem FD_has (fs : List (Bt × Value)) (x : Bt) : Maps.has (FD fs) (.string x) = (lookF fs x).isSome := by
  unfold FD lookF
  rw [Maps.has_eq]
  induction fs with
  | nil => rfl
  | cons f r ih =>
    have e : (Lit.string f.1).sameKey (.string x) = (f.1 == x) := rfl
    rw [List.map_cons, List.any_cons, ih, List.find?_cons]
    simp only [e]
    cases f.1 == x <;> simp
theorem FD_at (fs : List (Bt × Value)) (x : Bt) (z : Value) : (FD fs).atKey (.string x) (.held z) = .held ((lookF fs x).getD z) := by
  unfold FD lookF DataW.atKey
  induction fs with
  | nil => rfl
  | cons f r ih =>
    simp only [List.map_cons, List.find?_cons, Lit.sameKey] at ih ⊢
    cases f.1 == x
    · simpa using ih
    · simp
theorem FD_del (fs : List (Bt × Value)) (x : Bt) : (FD fs).del (.string x) = FD (delF fs x) := by
  unfold FD delF DataW.del
  simp only [List.filter_map]
  congr 1
theorem FD_ins (f : Bt × Value) (fs : List (Bt × Value)) : DataW.insert (.string f.1, .held f.2) (fs.map fun f => (Lit.string f.1, (.held f.2 : DataW Value))) = (insF f fs).map fun f => (Lit.string f.1, (.held f.2 : DataW Value)) := by
  induction fs with
  | nil => rfl
  | cons g r ih =>
    have e : (Lit.string f.1).before (.string g.1) = bytesBefore f.1 g.1 := rfl
    simp only [List.map_cons, DataW.insert, insF, e, ih]
    split <;> simp
theorem FD_put (fs : List (Bt × Value)) (x : Bt) (v : Value) : (FD fs).put (.string x) (.held v) = FD (putF fs x v) := by
  have h := FD_ins (x, v) (delF fs x)
  unfold FD DataW.put putF
  rw [← h]
  simp only [List.filter_map]
  rfl
theorem FD_size (fs : List (Bt × Value)) : Maps.size (FD fs) = fs.length := by simp [FD, Maps.size]
theorem FD_keys (fs : List (Bt × Value)) : strKeys (FD fs) = fs.map Prod.fst := by
  show (fs.map fun f => ((Lit.string f.1, (.held f.2 : DataW Value)) : Lit × DataW Value)).map (fun p => Go.strOf p.1) = _
  rw [List.map_map]
  rfl

/-- A map in a block. -/
def FMap (w : World) (b : Nat) (fs : List (Bt × Value)) : Prop := w.ownsMap Try.prog 9 tok b fs.length (FD fs)
theorem FMap.of {w : World} {b n : Nat} {fs : List (Bt × Value)} (h : w.ownsMap Try.prog 9 tok b n (FD fs)) : FMap w b fs := by
  obtain ⟨es, clock, hb, F, hs, hD⟩ := h
  refine ⟨es, clock, hb, F, ?_, hD⟩
  have h1 := congrArg Maps.size hD
  rw [FD_size] at h1
  rw [h1]
  simp [Maps.size, length_sorted]
theorem FMap.made (w : World) : FMap (w.alloc (.map #[] 0)) w.heap.size [] := World.ownsMap_made w Try.prog 9 tok
theorem FMap.lt {w : World} {b : Nat} {fs : List (Bt × Value)} (h : FMap w b fs) : b < w.heap.size := World.ownsMap.lt h
theorem FMap.keep {w w' : World} {b : Nat} {fs : List (Bt × Value)} (h : FMap w b fs) (hb : w'.heap[b]? = w.heap[b]?) : FMap w' b fs := by
  obtain ⟨es, clock, h1, F, hs, hD⟩ := h
  exact ⟨es, clock, hb.trans h1, F, hs, hD⟩
theorem FMap.stay {w w' : World} {b : Nat} {fs : List (Bt × Value)} (h : FMap w b fs) (hb : Below w.heap.size w w') : FMap w' b fs := h.keep (hb.block b h.lt)
theorem FMap.turns {S : Nat → Prop} {w w' : World} {b : Nat} {fs : List (Bt × Value)} (h : FMap w b fs) (k : Turns S w w') (hn : ¬ S b) : FMap w' b fs := h.keep (k.block b h.lt hn)
theorem strKeyed : Maps.Keyed Try.prog 9 := Maps.string_keyed Try.underlying9
theorem strKey (s : ByteArray) (hs : s.size ≤ maxLen) : keyOf Try.prog 9 (.string s) = some (.string s.data.toList) := by
  exact Go.WideMaps.keyOf_string_mk Try.underlying9 hs

/-- 'v, ok := m[k]' and 'm[k]'. -/
theorem FMap.look_ok {w : World} {b : Nat} {fs : List (Bt × Value)} (h : FMap w b fs) {t e : TypeId} (ht : Try.prog.underlying t = some (.map 9 e)) {z : Value} (hz : (zeroValue e).run Try.prog w = .ok z w) (s : ByteArray) (hs : s.size ≤ maxLen) :
    (Instr.lookup t (.map (some b)) (.string s) true).run Try.prog w = .ok (.tuple #[(lookF fs s.data.toList).getD z, .bool (lookF fs s.data.toList).isSome]) w := by
  obtain ⟨v, ps, h1, h2⟩ := World.ownsMap.look_ok h strKeyed ht hz (R := tok) (zd := .held z) (zp := []) rfl (strKey s hs)
  rw [FD_at] at h2
  rw [FD_has] at h1
  have : v = (lookF fs s.data.toList).getD z := by
    unfold tok at h2
    simp at h2
    exact h2.1
  rw [h1, this]
theorem FMap.look {w : World} {b : Nat} {fs : List (Bt × Value)} (h : FMap w b fs) {t e : TypeId} (ht : Try.prog.underlying t = some (.map 9 e)) {z : Value} (hz : (zeroValue e).run Try.prog w = .ok z w) (s : ByteArray) (hs : s.size ≤ maxLen) :
    (Instr.lookup t (.map (some b)) (.string s) false).run Try.prog w = .ok ((lookF fs s.data.toList).getD z) w := by
  obtain ⟨v, ps, h1, h2⟩ := World.ownsMap.lookup h strKeyed ht hz (R := tok) (zd := .held z) (zp := []) rfl (strKey s hs)
  rw [FD_at] at h2
  have : v = (lookF fs s.data.toList).getD z := by
    unfold tok at h2
    simp at h2
    exact h2.1
  rw [h1, this]
theorem turns_map {w w' : World} {b : Nat} (h : w.mapTurned w' b) : Only b w w' := by
  have hg := h.grown
  refine ⟨hg.os, hg.tape, hg.output, ?_, fun k hk => ?_⟩
  · obtain ⟨es, clock, es', clock', hb, rfl⟩ := h
    simp [setBlock]
  · obtain ⟨es, clock, es', clock', hb, rfl⟩ := h
    exact heap_setBlock_other hb _ hk
/-- 'len(m)'. -/
theorem FMap.len {w : World} {b : Nat} {fs : List (Bt × Value)} (h : FMap w b fs) {t e : TypeId} (ht : Try.prog.underlying t = some (.map 9 e)) (ty : TypeId) : (Builtin.len_ #[t] ty #[.map (some b)]).run Try.prog w = .ok (.int .i64 fs.length) w := by
  have := World.ownsMap.len h ht ty
  rwa [FD_size] at this
section
variable {w : World} {ops : Array Oper} {rest : List Oper} {o : Oper} {a : Act} {Q : Exit → Act → World → Prop}
/-- 'm[k] = v' in a walk. -/
theorem wp_fput {b : Nat} {fs : List (Bt × Value)} (m x v : Operand) (t e : TypeId) (hg : o.guard = none) (hop : o.op = Op.mapUpdate t m x v) (ht : Try.prog.underlying t = some (.map 9 e)) (hm : a.eval m = .map (some b)) (h : FMap w b fs) (hl : fs.length < maxLen) {s : ByteArray} {val : Value}
    (hx : a.eval x = .string s) (hv : a.eval v = val) (hs : s.size ≤ maxLen) (hK : ∀ w', FMap w' b (putF fs s.data.toList val) → Only b w w' → wpList Try.prog ops Q rest (a.put o.dst undef) w') : wpList Try.prog ops Q (o :: rest) a w := by
  refine wpList_mapUpdate_in w hg m x v t hop 9 e strKeyed ht tok b fs.length (FD fs) hm h hl (.string s) val (.string s.data.toList) hx hv (strKey s hs) (.held val) [] rfl fun w' h1 h2 => ?_
  rw [FD_put] at h1
  exact hK w' (FMap.of h1) (turns_map h2)
/-- 'delete(m, k)' in a walk. -/
theorem wp_fdel {b : Nat} {fs : List (Bt × Value)} (m x : Operand) (t e : TypeId) (hg : o.guard = none) (hop : o.op = Op.call { callee := Callee.builtin Builtin.delete, args := #[m, x], argTypes := #[t, 9] }) (ht : Try.prog.underlying t = some (.map 9 e)) (hm : a.eval m = .map (some b)) (h : FMap w b fs) {s : ByteArray}
    (hx : a.eval x = .string s) (hs : s.size ≤ maxLen) (hK : ∀ w', FMap w' b (delF fs s.data.toList) → Only b w w' → wpList Try.prog ops Q rest (a.put o.dst (.tuple #[])) w') : wpList Try.prog ops Q (o :: rest) a w := by
  refine wpList_delete_own w hg m x t 9 hop e strKeyed ht tok b fs.length (FD fs) hm h (.string s) (.string s.data.toList) hx (strKey s hs) fun w' h1 h2 => ?_
  rw [FD_del] at h1
  exact hK w' (FMap.of h1) (turns_map h2)
end
/-! ### What is in a list of files -/
theorem lookF_none {α : Type} {fs : List (Bt × α)} {x : Bt} : lookF fs x = none ↔ ∀ f ∈ fs, f.1 ≠ x := by
  unfold lookF
  rw [Option.map_eq_none_iff, List.find?_eq_none]
  simp
theorem lookF_mem {α : Type} {fs : List (Bt × α)} {x : Bt} {v : α} (h : lookF fs x = some v) : (x, v) ∈ fs := by
  unfold lookF at h
  obtain ⟨⟨y, u⟩, h1, rfl⟩ := Option.map_eq_some_iff.1 h
  have h2 := List.find?_some h1
  have h3 := List.mem_of_find?_eq_some h1
  simp only [beq_iff_eq] at h2
  subst h2
  exact h3
theorem delF_none {α : Type} {fs : List (Bt × α)} {x : Bt} (h : lookF fs x = none) : delF fs x = fs := by
  unfold delF
  rw [List.filter_eq_self]
  intro f hf
  simpa using lookF_none.1 h f hf
theorem insF_len {α : Type} (f : Bt × α) (fs : List (Bt × α)) : (insF f fs).length = fs.length + 1 := by
  induction fs with
  | nil => rfl
  | cons g r ih => unfold insF; split <;> simp [ih]
end Go.Proofs.Ytlgcnnhlbkidmaa
