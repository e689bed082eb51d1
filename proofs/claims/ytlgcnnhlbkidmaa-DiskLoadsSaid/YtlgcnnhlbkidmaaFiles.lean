/-
  Rows of files (api.File): read, and appended to; the reference's Named and put.
-/
import Derived.Test.YtlgcnnhlbkidmaaFMap
import Derived.Test.YtlgcnnhlbkidmaaNames
import Derived.Test.YtlgcnnhlbkidmaaSeq
import Derived.Test.YtlgcnnhlbkidmaaPart
import Derived.Deep.DeepCutAuto
namespace Go.Proofs.Ytlgcnnhlbkidmaa
open Go.RowKit

structure FileA where
  nm : ByteArray
  v : Value
  data : List Int
  kept : Int
def FileA.cells (f : FileA) : List Value := [.string f.nm, f.v, .int .i64 f.kept]
/-- A file as it lies. -/
structure FGood (w : World) (f : FileA) : Prop where
  nm : f.nm.size ≤ maxLen
  rd : Rd w f.v (bs f.data)
  isB : IsB f.data
  k : -9223372036854775808 ≤ f.kept ∧ f.kept ≤ 9223372036854775807
theorem FGood.stay {w w' : World} {f : FileA} {B : Nat} (h : FGood w f) (hb : Below B w w') (hB : w.heap.size ≤ B) : FGood w' f := ⟨h.nm, h.rd.stay hb hB, h.isB, h.k⟩
/-- A row of files. -/
structure FR (w : World) (u : Value) (l : List FileA) : Prop where
  sl : ∃ A c, u = .slice A l.length c ∧ l.length ≤ c ∧ c ≤ maxLen ∧ (A = none → c = 0)
  at_ : ∀ i f, l[i]? = some f → ∃ b o c, u = .slice (some ⟨b, o, none⟩) l.length c ∧ w.cell? ⟨b, o + i * 3, none⟩ = some (.string f.nm) ∧ w.cell? ⟨b, o + i * 3 + 1, none⟩ = some f.v ∧ w.cell? ⟨b, o + i * 3 + 2, none⟩ = some (.int .i64 f.kept)
  good : ∀ f ∈ l, FGood w f
theorem FR.stay {w w' : World} {u : Value} {l : List FileA} {B : Nat} (h : FR w u l) (hb : Below B w w') (hB : w.heap.size ≤ B) : FR w' u l := by
  refine ⟨h.sl, fun i f hf => ?_, fun f hf => (h.good f hf).stay hb hB⟩
  obtain ⟨b, o, c, h1, h2, h3, h4⟩ := h.at_ i f hf
  have hlt : b < B := Nat.lt_of_lt_of_le (World.block_lt_of_cell? w _ h2) hB
  exact ⟨b, o, c, h1, (hb.cell (p := ⟨b, o + i * 3, none⟩) hlt).trans h2, (hb.cell (p := ⟨b, o + i * 3 + 1, none⟩) hlt).trans h3, (hb.cell (p := ⟨b, o + i * 3 + 2, none⟩) hlt).trans h4⟩
def flatF (l : List FileA) : List Value := l.flatMap FileA.cells
theorem flatF_snoc (l : List FileA) (f : FileA) : flatF (l ++ [f]) = flatF l ++ f.cells := by simp [flatF]
theorem flatF_len (l : List FileA) : (flatF l).length = l.length * 3 := by
  induction l with
  | nil => rfl
  | cons f r ih => unfold flatF at ih ⊢; rw [List.flatMap_cons, List.length_append, ih]; simp [FileA.cells]; omega
theorem flatF_get (l : List FileA) : ∀ i f, l[i]? = some f → (flatF l)[i * 3]? = some (.string f.nm) ∧ (flatF l)[i * 3 + 1]? = some f.v ∧ (flatF l)[i * 3 + 2]? = some (.int .i64 f.kept) := by
  induction l with
  | nil => intro i f h; simp at h
  | cons g r ih =>
    intro i f h
    have e : flatF (g :: r) = .string g.nm :: g.v :: .int .i64 g.kept :: flatF r := rfl
    cases i with
    | zero =>
      simp at h
      subst h
      rw [e]; exact ⟨rfl, rfl, rfl⟩
    | succ i =>
      simp at h
      obtain ⟨h1, h2, h3⟩ := ih i f h
      rw [e]
      have e0 : (i + 1) * 3 = i * 3 + 3 := by omega
      rw [e0]
      exact ⟨by rw [← h1]; rfl, by rw [← h2]; rfl, by rw [← h3]; rfl⟩
theorem FR.of_own {w : World} {base : Nat} {u : Value} {l : List FileA} (h : w.ownsRow base 107 3 u l.length (flatF l)) (hg : ∀ f ∈ l, FGood w f) : FR w u l := by
  rcases h.2 with ⟨rfl, h1⟩ | ⟨g, cap, cur, rfl, h1, h2, h3, h4, h5, h6⟩
  · have : l = [] := List.eq_nil_of_length_eq_zero h1
    subst this
    exact ⟨⟨none, 0, rfl, Nat.le_refl _, Nat.zero_le _, fun _ => rfl⟩, fun i f hf => by simp at hf, hg⟩
  · refine ⟨⟨_, _, rfl, h3, h4, fun h => by cases h⟩, fun i f hf => ?_, hg⟩
    obtain ⟨q1, q2, q3⟩ := flatF_get l i f hf
    have hc : ∀ j x, (flatF l)[j]? = some x → w.cell? ⟨g, 0 + j, none⟩ = some x := fun j x hx => by
      have hlt := (List.getElem?_eq_some_iff.1 hx).1
      rw [flatF_len] at hlt
      rw [← h6, List.getElem?_take_of_lt hlt] at hx
      rw [Nat.zero_add]
      simp only [World.cell?, h2]
      rw [← Array.getElem?_toList]
      exact hx
    exact ⟨g, 0, cap, rfl, by have := hc _ _ q1; simpa using this, by have := hc _ _ q2; simpa [Nat.add_assoc] using this, by have := hc _ _ q3; simpa [Nat.add_assoc] using this⟩
theorem info_file : (Try.prog.info? 107).map (fun i => (i.zero, i.size, i.bytes)) = some (some (.agg #[.string ByteArray.empty, .slice none 0 0, .int .i64 0]), 3, 48) := by kernel_rfl
/-- A file appended to a row of the call's own. -/
theorem wp_app_file {ops : Array Oper} {rest : List Oper} {o : Oper} {a : Act} {Q : Exit → Act → World → Prop} {w : World} (s x : Operand) (hgd : o.guard = none)
    (ho : o.op = .call { callee := .builtin .append, args := #[s, x], argTypes := #[105, 105] }) (base : Nat) {v : Value} {l : List FileA} {f : FileA} (hs : a.eval s = v) (hown : w.ownsRow base 107 3 v l.length (flatF l)) {g : Nat}
    (hx : a.eval x = .slice (some ⟨g, 0, none⟩) 1 1) (hb : Blk w g f.cells 107) (h1 : f.v.oneCell' = true) (hl : l.length ≤ 100000) (hbase : base ≤ w.heap.size)
    (h : ∀ v' w', w'.ownsRow base 107 3 v' (l ++ [f]).length (flatF (l ++ [f])) → Below base w w' → wpList Try.prog ops Q rest (a.put o.dst v') w') : wpList Try.prog ops Q (o :: rest) a w := by
  obtain ⟨i, hi, hz0, hz1, hz2⟩ := info_parts info_file
  refine wpList_append_own w hgd s x 105 ho base 107 i _ 3 48 Try.underlying105 hi hz0 hz1 hz2 rfl (by decide) v l.length (flatF l) hs hown ⟨g, 0, none⟩ 1 1 f.cells hx rfl ?_ ?_ (by unfold maxLen; omega) (by omega) hbase (fun v' w' h2 h3 _ => h v' w' (by rw [flatF_snoc, List.length_append]; exact h2) ((Below.refl base w).grown h3 hbase (fun k hk => (hown.lt k hk).1)))
  · intro j u hj
    have h2 := hb.at_ j hj
    unfold Addr.add
    split
    · next h0 => subst h0; exact h2
    · simpa using h2
  · intro u hu
    unfold FileA.cells at hu
    simp at hu
    rcases hu with rfl | rfl | rfl
    · rfl
    · exact h1
    · rfl
/-- .. and nothing but the row has turned. -/
theorem wp_app_file2 {ops : Array Oper} {rest : List Oper} {o : Oper} {a : Act} {Q : Exit → Act → World → Prop} {w : World} (s x : Operand) (hgd : o.guard = none)
    (ho : o.op = .call { callee := .builtin .append, args := #[s, x], argTypes := #[105, 105] }) (base : Nat) {v : Value} {l : List FileA} {f : FileA} (hs : a.eval s = v) (hown : w.ownsRow base 107 3 v l.length (flatF l)) {g : Nat}
    (hx : a.eval x = .slice (some ⟨g, 0, none⟩) 1 1) (hb : Blk w g f.cells 107) (h1 : f.v.oneCell' = true) (hl : l.length ≤ 100000) (hbase : base ≤ w.heap.size)
    (h : ∀ v' w', w'.ownsRow base 107 3 v' (l ++ [f]).length (flatF (l ++ [f])) → Below base w w' → w.grownBy w' v.ownBlock → wpList Try.prog ops Q rest (a.put o.dst v') w') : wpList Try.prog ops Q (o :: rest) a w := by
  obtain ⟨i, hi, hz0, hz1, hz2⟩ := info_parts info_file
  refine wpList_append_own w hgd s x 105 ho base 107 i _ 3 48 Try.underlying105 hi hz0 hz1 hz2 rfl (by decide) v l.length (flatF l) hs hown ⟨g, 0, none⟩ 1 1 f.cells hx rfl ?_ ?_ (by unfold maxLen; omega) (by omega) hbase (fun v' w' h2 h3 _ => h v' w' (by rw [flatF_snoc, List.length_append]; exact h2) ((Below.refl base w).grown h3 hbase (fun k hk => (hown.lt k hk).1)) h3)
  · intro j u hj
    have h2 := hb.at_ j hj
    unfold Addr.add
    split
    · next h0 => subst h0; exact h2
    · simpa using h2
  · intro u hu
    unfold FileA.cells at hu
    simp at hu
    rcases hu with rfl | rfl | rfl
    · rfl
    · exact h1
    · rfl
theorem part_of_own {w : World} {base : Nat} {e : TypeId} {v : Value} {xs : List Value} (h : w.ownsRow base e 1 v xs.length xs) : Part w base e v xs := by
  rcases h.2 with ⟨h1, h2⟩ | ⟨g', cap, cur, h1, h2, h3, h4, h5, h6, h7⟩
  · exact .inl ⟨h1, List.eq_nil_of_length_eq_zero h2⟩
  · refine .inr ⟨g', 0, cap, cur, h1, h2, h3, h4, h5, by omega, ?_⟩
    rw [List.drop_zero]
    rw [Nat.mul_one] at h7
    exact h7
theorem rnamed_any (s : ByteArray) (w : World) : Calls Try.prog 83 #[.string s] w fun e w' => e = .returned (.bool (namedB s)) ∧ w = w' := by
  by_cases h0 : 1 ≤ s.size
  · have h1 : (1 : Int) ≤ s.size := by omega
    have h2 : namedB s = decide ((s.size : Int) ≤ 40) := by unfold namedB; rw [decide_eq_true h0, Bool.true_and]; exact decide_eq_decide.2 (by omega)
    rw [h2]
    clear h2 h0
    go_enter Try.func83, Try.ntmps83
    go_wp2_with fail
    all_goals (go_ret; exact ⟨rfl, rfl⟩)
  · have h1 : ¬ (1 : Int) ≤ s.size := by omega
    have h2 : namedB s = false := by unfold namedB; rw [decide_eq_false h0]; rfl
    rw [h2]
    clear h2 h0
    go_enter Try.func83, Try.ntmps83
    go_wp2_with fail
    all_goals (go_ret; exact ⟨rfl, rfl⟩)
end Go.Proofs.Ytlgcnnhlbkidmaa
