/-
  append in a drawn region; rows of the call's own in later worlds.
-/
import Derived.Test.YtlgcnnhlbkidmaaBase
namespace Go.Proofs.Ytlgcnnhlbkidmaa
open Go.RowKit Go.ChangeShapes Go.WideShapes Go.ChangeAt

/-- append onto a row of the call's own, whatever is appended: as it runs. -/
theorem run_app {P : Program} {w : World} (t ty e : TypeId) (z : Value) (bytes : Nat) (ht : P.underlying t = some (.slice e))
    (hinfo : (P.info? e).map (fun i => (i.zero, i.size, i.bytes)) = some (some z, 1, bytes)) (hzs : z.cells.size = 1) (base : Nat) {v u : Value} {n : Nat} {xs ys : List Value} (hown : w.ownsRow base e 1 v n xs)
    (hr : Rd w u ys) (h1 : ∀ y ∈ ys, y.oneCell' = true) (hb1 : 1 ≤ bytes) (hbytes : (n + ys.length) * bytes ≤ 140737488355328) (hbase : base ≤ w.heap.size) :
    ∃ v' w', (Builtin.append_ #[t, t] ty #[v, u]).run P w = .ok v' w' ∧ w'.ownsRow base e 1 v' (n + ys.length) (xs ++ ys) ∧ Below base w w' := by
  obtain ⟨i, hi, hz0, hz1, hz2⟩ := info_parts hinfo
  have h63 : n + ys.length ≤ maxLen := by
    have h2 : n + ys.length ≤ (n + ys.length) * bytes := Nat.le_mul_of_pos_right _ hb1
    unfold maxLen; omega
  obtain ⟨A, c, rfl, hc1, hc2, h0, h3⟩ := hr
  cases A with
  | none =>
    obtain rfl : c = 0 := h0 rfl
    obtain rfl : ys = [] := List.eq_nil_of_length_eq_zero (by omega)
    exact ⟨v, w, run_append_owned_none (P := P) (w := w) base t ty e i 1 ht hi v n xs hown, by simpa using hown, Below.refl _ _⟩
  | some ad =>
    obtain ⟨v', w', h4, h5, h6, _⟩ := run_append_own w base t ty e i z 1 bytes ht hi hz0 hz1 hz2 hzs (by decide) v n xs hown ad ys.length c ys (by simp) (by
      intro j y hj
      rcases h3 with rfl | ⟨b, o', hA, h3⟩
      · simp at hj
      · obtain rfl : ad = ⟨b, o', none⟩ := by simpa using hA
        obtain ⟨hlt, rfl⟩ := List.getElem?_eq_some_iff.1 hj
        rw [← h3 j hlt]
        congr 1
        unfold Addr.add; split <;> simp_all) h1 h63 hbytes hbase
    exact ⟨v', w', h4, h5, (Below.refl base w).grown h6 hbase (fun k hk => (hown.lt k hk).1)⟩
theorem upon_app {P : Program} {o : Oper} {ρ : Operand → Value} {a : Act} {w : World} {K : Act → World → Prop} {Q : Exit → Act → World → Prop} (s x : Operand) (t : TypeId)
    (ho : o.op = .call { callee := .builtin .append, args := #[s, x], argTypes := #[t, t] }) (e : TypeId) (z : Value) (bytes : Nat) (ht : P.underlying t = some (.slice e))
    (hinfo : (P.info? e).map (fun i => (i.zero, i.size, i.bytes)) = some (some z, 1, bytes)) (hzs : z.cells.size = 1) (base : Nat) {v u : Value} {n : Nat} {xs ys : List Value} (hs : ρ s = v) (hown : w.ownsRow base e 1 v n xs)
    (hx : ρ x = u) (hr : Rd w u ys) (h1 : ∀ y ∈ ys, y.oneCell' = true) (hb1 : 1 ≤ bytes) (hbytes : (n + ys.length) * bytes ≤ 140737488355328) (hbase : base ≤ w.heap.size)
    (h : ∀ v' w', w'.ownsRow base e 1 v' (n + ys.length) (xs ++ ys) → Below base w w' → K (a.put o.dst v') w') : o.upon P a K Q ((execOp ρ o).run P w) := by
  obtain ⟨v', w', h4, h5, h6⟩ := run_app (P := P) t o.type e z bytes ht hinfo hzs base hown hr h1 hb1 hbytes hbase
  simp [execOp, ho, resolve, invoke, builtin, hs, hx, h4, Result.andThen]
  exact h _ _ h5 h6
theorem ownsRow_mono {w : World} {base b : Nat} {e : TypeId} {size : Nat} {v : Value} {n : Nat} {xs : List Value} (h : w.ownsRow base e size v n xs) (hb : b ≤ base) : w.ownsRow b e size v n xs :=
  ⟨h.1, h.2.imp id fun ⟨g, cap, cur, h1, h2, h3⟩ => ⟨g, cap, cur, h1, Nat.le_trans hb h2, h3⟩⟩
theorem ownsRow_keep {w w' : World} {base B : Nat} {e : TypeId} {size : Nat} {v : Value} {n : Nat} {xs : List Value} (h : w.ownsRow base e size v n xs) (hb : Below B w w') (hB : w.heap.size ≤ B) : w'.ownsRow base e size v n xs := by
  refine ⟨h.1, h.2.imp id ?_⟩
  rintro ⟨g, cap, cur, h1, h2, h3, h4⟩
  exact ⟨g, cap, cur, h1, h2, (hb.block g (by have := (Array.getElem?_eq_some_iff.1 h3).1; omega)).trans h3, h4⟩

end Go.Proofs.Ytlgcnnhlbkidmaa
