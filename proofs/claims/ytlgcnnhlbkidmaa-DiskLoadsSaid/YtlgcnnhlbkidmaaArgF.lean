/-
  Rows of files as arguments; a row appended to a row.
-/
import Derived.Test.YtlgcnnhlbkidmaaLoadsP
import Derived.Test.YtlgcnnhlbkidmaaKinds
namespace Go.Proofs.Ytlgcnnhlbkidmaa
open Go.ChangeShapes Go.WideShapes Go.ChangeAt Go.RowKit

instance : Inhabited FileA := ⟨⟨.empty, .slice none 0 0, [], 0⟩⟩
theorem pieceF {cs : List Value} (n k : Nat) {l : List Value} (h : (cs.drop n).take k = l) : cs.drop n = l ++ cs.drop (n + k) := by
  rw [← h, ← List.drop_drop, List.take_append_drop]
theorem cells_intF : Try.prog.cellsOf 3 = 1 := by kernel_rfl
theorem cells_strF : Try.prog.cellsOf 9 = 1 := by kernel_rfl
theorem cells_bytesF : Try.prog.cellsOf 22 = 1 := by kernel_rfl
theorem cells_fileF : Try.prog.cellsOf 107 = 3 := by kernel_rfl
theorem file_of_trod {H : Type} {enc : TypeId × Value → H} {w : World} {base : Nat} {sp : Nat → Bool} {held : Bool} {fuel : Nat} {cs : List Value} {x : DataW H × List MemPlace}
    (h : DataW.trod enc Try.prog w base sp held fuel 107 cs = some x) : ∃ f : FileA, FGood w f ∧ cs = f.cells := by
  obtain ⟨xs, n, _, _, hl, hxl, hf⟩ := DataW.trod_struct Try.underlying107 h
  have h0 := hf 0 _ rfl
  have h1 := hf 1 _ rfl
  have h2 := hf 2 _ rfl
  rw [cells_fileF] at hl
  match xs, hxl with
  | [x0, x1, x2], _ =>
    obtain ⟨s0, e0, l0⟩ := str_of_trod Try.underlying9 h0
    obtain ⟨fr, ys, e1, hy, hr⟩ := bytes_of_trod h1
    obtain ⟨a2, e2, l2, u2⟩ := int_of_trod Try.underlying3 h2
    refine ⟨⟨s0, fr, ys, a2⟩, ⟨l0, hr, hy, ⟨l2, u2⟩⟩, ?_⟩
    have e0' : (cs.drop 0).take (Try.prog.cellsOf 9) = [.string s0] := e0
    rw [cells_strF] at e0'
    have e1' : (cs.drop 1).take (Try.prog.cellsOf 22) = [fr] := e1
    rw [cells_bytesF] at e1'
    have e2' : (cs.drop 2).take (Try.prog.cellsOf 3) = [.int .i64 a2] := e2
    rw [cells_intF] at e2'
    rw [show cs = cs.drop 0 by simp, pieceF 0 1 e0', pieceF 1 1 e1', pieceF 2 1 e2', List.drop_of_length_le (by omega)]
    rfl
theorem files_of_trod {H : Type} {enc : TypeId × Value → H} {w : World} {base : Nat} {sp : Nat → Bool} {held : Bool} {fuel : Nat} {cs : List Value} {x : DataW H × List MemPlace}
    (h : DataW.trod enc Try.prog w base sp held fuel 105 cs = some x) : ∃ (v : Value) (l : List FileA), cs = [v] ∧ FR w v l := by
  obtain ⟨v, n, f, rfl, ⟨A, cap, rfl, h1, h2, h0, h3⟩, hP⟩ := els_of_trod (sz := 3) Try.underlying105 cells_fileF (by decide) (Pe := fun cs' => ∃ g : FileA, FGood w g ∧ cs' = g.cells) (fun n cs' d hd => file_of_trod hd) h
  obtain ⟨g, hg⟩ := Deep.choose_lt (n := n) (p := fun i (z : FileA) => FGood w z ∧ f i = z.cells) hP
  have hlen : ((List.range n).map g).length = n := by simp
  refine ⟨_, (List.range n).map g, rfl, ⟨A, cap, by rw [hlen], by rw [hlen]; exact h1, h2, h0⟩, fun i z hz => ?_, fun z hz => ?_⟩
  · rw [hlen]
    rw [List.getElem?_map] at hz
    obtain ⟨j, hj, rfl⟩ := Option.map_eq_some_iff.1 hz
    have hlt : i < n := by have := (List.getElem?_eq_some_iff.1 hj).1; simpa using this
    obtain rfl : j = i := by rw [List.getElem?_range hlt] at hj; exact (Option.some.inj hj).symm
    obtain ⟨b, o, rfl, _, h4⟩ := h3 (by omega)
    have h5 := (h4 j hlt).2
    have e := (hg j hlt).2
    rw [e] at h5
    exact ⟨b, o, cap, rfl, h5 0 (by decide), h5 1 (by decide), h5 2 (by decide)⟩
  · obtain ⟨i, hi, rfl⟩ := List.mem_map.1 hz
    exact (hg i (List.mem_range.1 hi)).1
theorem flatF_one {w : World} {l : List FileA} (h : ∀ f ∈ l, FGood w f) : ∀ u ∈ flatF l, u.oneCell' = true := by
  intro u hu
  unfold flatF at hu
  obtain ⟨f, hf, hu⟩ := List.mem_flatMap.1 hu
  unfold FileA.cells at hu
  simp at hu
  rcases hu with rfl | rfl | rfl
  · rfl
  · obtain ⟨A, c, e, _⟩ := (h f hf).rd
    rw [e]; rfl
  · rfl
/-- A row of files appended to a row of the call's own. -/
theorem wp_app_files {ops : Array Oper} {rest : List Oper} {o : Oper} {a : Act} {Q : Exit → Act → World → Prop} {w : World} (s x : Operand) (hgd : o.guard = none)
    (ho : o.op = .call { callee := .builtin .append, args := #[s, x], argTypes := #[105, 105] }) (base : Nat) {v u : Value} {l m : List FileA} (hs : a.eval s = v) (hown : w.ownsRow base 107 3 v l.length (flatF l))
    (hx : a.eval x = u) (hr : FR w u m) (hl : l.length ≤ 100000) (hm : m.length ≤ 100000) (hbase : base ≤ w.heap.size)
    (h : ∀ v' w', w'.ownsRow base 107 3 v' (l ++ m).length (flatF (l ++ m)) → Below base w w' → wpList Try.prog ops Q rest (a.put o.dst v') w') : wpList Try.prog ops Q (o :: rest) a w := by
  obtain ⟨i, hi, hz0, hz1, hz2⟩ := info_parts info_file
  have hfl : flatF (l ++ m) = flatF l ++ flatF m := by unfold flatF; rw [List.flatMap_append]
  obtain ⟨A, c, rfl, h1, h2, h0⟩ := hr.sl
  cases A with
  | none =>
    have hc := h0 rfl
    have hm0 : m = [] := List.eq_nil_of_length_eq_zero (by omega)
    subst hm0
    subst hc
    refine wpList_append_own_none hgd s x 105 ho base 107 i 3 Try.underlying105 hi v l.length (flatF l) hs hown hx (h v w (by simpa using hown) (Below.refl _ _))
  | some ad =>
    refine wpList_append_own w hgd s x 105 ho base 107 i _ 3 48 Try.underlying105 hi hz0 hz1 hz2 rfl (by decide) v l.length (flatF l) hs hown ad m.length c (flatF m) hx (flatF_len m) ?_ (flatF_one hr.good) (by unfold maxLen; omega) (by omega) hbase (fun v' w' h4 h5 _ => h v' w' (by rw [hfl, List.length_append]; exact h4) ((Below.refl base w).grown h5 hbase (fun k hk => (hown.lt k hk).1)))
    intro j y hj
    have hlt := (List.getElem?_eq_some_iff.1 hj).1
    rw [flatF_len] at hlt
    obtain ⟨q, r, hqr, hr3⟩ : ∃ q r, j = q * 3 + r ∧ r < 3 := ⟨j / 3, j % 3, by omega, by omega⟩
    have hq : q < m.length := by omega
    obtain ⟨g1, g2, g3⟩ := flatF_get m q m[q] (List.getElem?_eq_getElem hq)
    obtain ⟨b, o', c', e, k0, k1, k2⟩ := hr.at_ q m[q] (List.getElem?_eq_getElem hq)
    cases e
    have hadd : (⟨b, o', none⟩ : Addr).add j = ⟨b, o' + j, none⟩ := by unfold Addr.add; split <;> simp_all
    rw [hadd]
    rcases (show r = 0 ∨ r = 1 ∨ r = 2 by omega) with rfl | rfl | rfl
    · rw [hqr, Nat.add_zero, g1] at hj
      cases hj
      rw [hqr]; exact k0
    · rw [hqr, g2] at hj
      cases hj
      rw [hqr, show o' + (q * 3 + 1) = o' + q * 3 + 1 by omega]; exact k1
    · rw [hqr, g3] at hj
      cases hj
      rw [hqr, show o' + (q * 3 + 2) = o' + q * 3 + 2 by omega]; exact k2
end Go.Proofs.Ytlgcnnhlbkidmaa
