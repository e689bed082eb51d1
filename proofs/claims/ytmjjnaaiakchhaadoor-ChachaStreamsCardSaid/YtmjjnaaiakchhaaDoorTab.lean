/-
  The table of the quarter rounds: what the row's list gives.
-/
import Derived.Test.YtmjjnaaiakchhaaDoorApp
import Derived.Test.YtmjjnaaiakchhaaDoorCards
namespace Go.Proofs.YtmjjnaaiakchhaaDoor
open Go.RowKit

/-- Numbers of 64 bits as values. -/
def ns (xs : List Nat) : List Value := xs.map fun (n : Nat) => Value.int .i64 (n : Int)
def rowsL : List Nat := [0, 4, 8, 12, 1, 5, 9, 13, 2, 6, 10, 14, 3, 7, 11, 15, 0, 5, 10, 15, 1, 6, 11, 12, 2, 7, 8, 13, 3, 4, 9, 14]

/-- The table of the quarter rounds lies where it was laid. -/
def Tab (w : World) : Prop := ∃ t fr, w.heap[0]? = some (.cells (ns rowsL).toArray t fr)
section
variable {w w' : World}
theorem Tab.lt (h : Tab w) : 0 < w.heap.size := by
  obtain ⟨t, fr, h⟩ := h
  exact (Array.getElem?_eq_some_iff.1 h).1
theorem Tab.same (h : Tab w) (hs : w'.heap[0]? = w.heap[0]?) : Tab w' := by
  obtain ⟨t, fr, h⟩ := h
  exact ⟨t, fr, hs.trans h⟩
theorem Tab.al (h : Tab w) (o : Obj) : Tab (w.alloc o) := h.same (Below.heap_alloc w o 0 h.lt)
theorem Tab.keep {B : Nat} (h : Tab w) (hb : Below B w w') (hB : 0 < B) : Tab w' := h.same (hb.block 0 hB)
theorem Tab.stay (h : Tab w) (hb : Below w.heap.size w w') : Tab w' := h.keep hb h.lt
theorem Tab.only {b : Nat} (h : Tab w) (o : Only b w w') (hne : 0 < b) : Tab w' := h.same (o.block 0 (by omega))
theorem Tab.other (h : Tab w) {a : Addr} (hne : 0 ≠ a.block) (v : Value) : Tab (w.setCell a v) := h.same (Below.heap_setCell _ _ _ _ hne)
theorem Tab.dr (h : Tab w) (n : Nat) : Tab (w.drewN n) := h
theorem Tab.d1 (h : Tab w) : Tab w.drew := h
end
theorem wp_load_tab {P : Program} {ops : Array Oper} {rest : List Oper} {o : Oper} {a : Act} {w : World} {Q : Exit → Act → World → Prop} (hgd : o.guard = none) (ty : TypeId) (x : Operand) (ho : o.op = .load ty x)
    (hx : a.eval x = .pointer (some ⟨0, 0, none⟩)) {d : TypeDesc} (hg : Tab w)
    (hu : P.underlying ty = some d) (hd : (match d with | .struct _ | .array _ _ => true | _ => false) = true) (hi : (P.info? ty).map (·.size) = some 32)
    (h : wpList P ops Q rest (a.put o.dst (.agg (ns rowsL).toArray)) w) : wpList P ops Q (o :: rest) a w := by
  obtain ⟨t, fr, hg⟩ := hg
  exact wpList_load_row hgd ty x ho 0 hx t (ns rowsL).toArray fr d hg hu hd (by rw [hi]; rfl) h

theorem gTab : Tryd.prog.globalNamed "intaglio/chacha.rows" = some 0 := by kernel_rfl
theorem gTabType : (Tryd.prog.globals[0]?).map (·.type) = some 65 := by kernel_rfl
theorem cells84 : Tryd.prog.cellsOf 65 = 32 := by kernel_rfl
theorem cells4 : Tryd.prog.cellsOf 64 = 4 := by kernel_rfl
theorem cells1 : Tryd.prog.cellsOf 3 = 1 := by kernel_rfl

theorem tab_cells {w : World} {enc : TypeId × Value → Unit} {base : Nat} {sp : Nat → Bool} {held : Bool} {fuel : Nat} {cs : List Value} {p : List MemPlace}
    (h : DataW.trod enc Tryd.prog w base sp held fuel 65 cs = some (Rows.laid_intaglio_chacha_rows, p)) : cs = ns rowsL := by
  obtain ⟨xs, m, _, hx, hlen, hxl, hel⟩ := DataW.trod_array Tryd.underlying65 h
  rw [cells84] at hlen
  rw [cells4] at hel
  have hxs := (DataW.agg.inj (congrArg Prod.fst hx)).symm
  have hrow : ∀ (i : Nat) (zs : List Int), i < 8 → (xs.map (·.1))[i]? = some (Lib.tabData .i64 zs) → (cs.drop (i * 4)).take 4 = zs.map fun z => Value.int .i64 z := by
    intro i zs hi hz
    rw [List.getElem?_map] at hz
    obtain ⟨x, hx1, hx2⟩ := Option.map_eq_some_iff.1 hz
    have h1 := hel i hi
    rw [hx1] at h1
    obtain ⟨x1, x2⟩ := x
    subst hx2
    exact Lib.cells_of_tab Tryd.underlying64 Tryd.underlying3 cells1 cells4 h1
  rw [hxs] at hrow
  have r0 := hrow 0 [0, 4, 8, 12] (by decide) rfl
  have r1 := hrow 1 [1, 5, 9, 13] (by decide) rfl
  have r2 := hrow 2 [2, 6, 10, 14] (by decide) rfl
  have r3 := hrow 3 [3, 7, 11, 15] (by decide) rfl
  have r4 := hrow 4 [0, 5, 10, 15] (by decide) rfl
  have r5 := hrow 5 [1, 6, 11, 12] (by decide) rfl
  have r6 := hrow 6 [2, 7, 8, 13] (by decide) rfl
  have r7 := hrow 7 [3, 4, 9, 14] (by decide) rfl
  have key : ∀ (n : Nat) (l : List Value), (cs.drop (n * 4)).take 4 = l → cs.drop (n * 4) = l ++ cs.drop ((n + 1) * 4) := by
    intro n l hl
    rw [← hl, show (n + 1) * 4 = n * 4 + 4 from by omega, ← List.drop_drop, List.take_append_drop]
  have e : cs = cs.drop (0 * 4) := by simp
  rw [e, key 0 _ r0, key 1 _ r1, key 2 _ r2, key 3 _ r3, key 4 _ r4, key 5 _ r5, key 6 _ r6, key 7 _ r7, List.drop_of_length_le (by omega)]
  rfl

theorem tab_of_laid {W : World} (h : laidMet Tryd.prog [("intaglio/chacha.rows", Rows.laid_intaglio_chacha_rows)] W) : Tab W := by
  obtain ⟨ps, ⟨g', t', cs, fuel, p, q, hg', ht', hvar, hd, _, _⟩, _⟩ := h
  obtain rfl := Option.some.inj (gTab.symm.trans hg')
  obtain rfl := Option.some.inj (gTabType.symm.trans ht')
  have hcs := tab_cells hd
  unfold World.var? at hvar
  rw [gTab, Option.bind_some] at hvar
  unfold Tab
  cases hh : W.heap[0]? with
  | none => rw [hh] at hvar; cases hvar
  | some o =>
    rw [hh] at hvar
    cases o with
    | cells c t fr =>
      obtain rfl : c = cs := by simpa using hvar
      refine ⟨t, fr, ?_⟩
      rw [← hcs]
    | _ => cases hvar
end Go.Proofs.YtmjjnaaiakchhaaDoor
