/-
  Texts of mine in one: Base, Bytes, LedgP, BoxP, BoxM, BoxX, PipeP, Turns, App, Sub, Flow, Seq, Slice, Part, RowS, RowT, FMap, KMap, Uses, UsesK, BoxD, Num, KeysB.
-/
import Derived.Test.YtdgpchacfdlleaaDoorRows
import Derived.WalkKit
import Derived.WalkSpells
import Derived.WalkLawsBesides
import Derived.ProofKit
import Derived.OpenShut
import Derived.Deep.DeepHandedRow
import Derived.Lib.LaidTab
import Derived.Lib.Hide
import Derived.Laws.AppendOwnNone
import Derived.Deep.QuietTactic
import Derived.BigQuiet
import Derived.Orders
import Derived.Tactics
import Derived.Laws.World
import Derived.IntWalk
import Derived.Laws.AppendOwn
import Derived.OwnWalk
import Derived.Maps.OwnSet
import Derived.Sort.KeysCollected
import Derived.DeepKeys5
import Derived.Deep.Cut
section
/-
  Small lemmas of the seat's own: worlds that only grow, slices that read as lists, the closing of a law's row.
-/
namespace Go.Proofs.YtdgpchacfdlleaaDoor
open Go.ChangeShapes Go.WideShapes Go.ChangeAt Go.RowKit

/-! ### Worlds that only grow -/
theorem bw_al {B : Nat} {w W : World} (h : Below B w W) (hB : B ≤ W.heap.size) (o : Obj) : Below B w (W.alloc o) := h.alloc hB o
theorem bw_dr {B : Nat} {w W : World} (h : Below B w W) (n : Nat) : Below B w (W.drewN n) := ⟨h.os, h.tape, h.output, h.size, h.block⟩
theorem bw_d1 {B : Nat} {w W : World} (h : Below B w W) : Below B w W.drew := ⟨h.os, h.tape, h.output, h.size, h.block⟩
theorem bw_set {B : Nat} {w W : World} (h : Below B w W) (b o : Nat) (hB : B ≤ b) (v : Value) : Below B w (W.setCell ⟨b, o, none⟩ v) := h.setCell (p := ⟨b, o, none⟩) hB v
theorem bw_then {B : Nat} {w W W' : World} (h : Below B w W) (k : Below W.heap.size W W') (hB : B ≤ W.heap.size) : Below B w W' := h.trans (k.mono hB)

theorem cell_stay {w w' : World} (hb : Below w.heap.size w w') {a : Addr} {v : Value} (hc : w.cell? a = some v) : w'.cell? a = some v := (hb.cell (World.block_lt_of_cell? w a hc)).trans hc

/-! ### A block known whole -/
def Blk (w : World) (b : Nat) (cs : List Value) (t : TypeId) : Prop := w.heap[b]? = some (.cells cs.toArray t (0, 0))
section
variable {w w' : World} {b : Nat} {cs : List Value} {t : TypeId}
theorem Blk.lt (h : Blk w b cs t) : b < w.heap.size := (Array.getElem?_eq_some_iff.1 h).1
theorem Blk.get (h : Blk w b cs t) (i : Nat) : w.cell? ⟨b, i, none⟩ = cs[i]? := by
  unfold Blk at h; simp [World.cell?, h]
theorem Blk.cell (h : Blk w b cs t) (i : Nat) (hi : i < cs.length) : w.cell? ⟨b, i, none⟩ = some cs[i] := by rw [h.get, List.getElem?_eq_getElem hi]
theorem Blk.at_ (h : Blk w b cs t) (i : Nat) {v : Value} (hi : cs[i]? = some v) : w.cell? ⟨b, i, none⟩ = some v := by rw [h.get, hi]
theorem Blk.free (h : Blk w b cs t) (i : Nat) : w.frozen? ⟨b, i, none⟩ = false := by
  unfold Blk at h; simp [World.frozen?, h]
theorem Blk.set (h : Blk w b cs t) (i : Nat) (v : Value) : Blk (w.setCell ⟨b, i, none⟩ v) b (cs.set i v) t := by
  unfold Blk at *
  simp [World.setCell, Array.getElem?_modify, h]
theorem Blk.other (h : Blk w b cs t) {a : Addr} (hne : b ≠ a.block) (v : Value) : Blk (w.setCell a v) b cs t := by
  unfold Blk at *; rw [Below.heap_setCell _ _ _ _ hne]; exact h
theorem Blk.al (h : Blk w b cs t) (o : Obj) : Blk (w.alloc o) b cs t := (Below.heap_alloc w o b h.lt).trans h
theorem Blk.dr (h : Blk w b cs t) (n : Nat) : Blk (w.drewN n) b cs t := h
theorem Blk.d1 (h : Blk w b cs t) : Blk w.drew b cs t := h
theorem Blk.keep {B : Nat} (h : Blk w b cs t) (hb : Below B w w') (hB : b < B) : Blk w' b cs t := (hb.block b hB).trans h
theorem Blk.stay (h : Blk w b cs t) (hb : Below w.heap.size w w') : Blk w' b cs t := h.keep hb h.lt
theorem Blk.mk_ (w : World) {b : Nat} {arr : Array Value} {cs : List Value} {t : TypeId} (hb : b = w.heap.size) (ha : arr = cs.toArray) : Blk (w.alloc (.cells arr t)) b cs t := by subst hb ha; exact heap_alloc_new w _
theorem Blk.new (w : World) (cs : List Value) (t : TypeId) : Blk (w.alloc (.cells cs.toArray t)) w.heap.size cs t := heap_alloc_new w _
end

/-! ### One block that may have turned -/
structure Only (b : Nat) (w w' : World) : Prop where
  os : w'.os = w.os
  tape : w'.tape = w.tape
  output : w'.output = w.output
  size : w'.heap.size = w.heap.size
  block : ∀ k, k ≠ b → w'.heap[k]? = w.heap[k]?
theorem Only.set (w : World) (b i : Nat) (v : Value) : Only b w (w.setCell ⟨b, i, none⟩ v) :=
  ⟨rfl, rfl, rfl, by simp [World.setCell], fun k hk => Below.heap_setCell _ _ _ _ hk⟩
theorem Only.row (w : World) (b : Nat) (cs : Array Value) : Only b w (w.setRow b cs) := ⟨rfl, rfl, rfl, setRow_size _ _ _, fun k hk => setRow_other w b k cs hk⟩
theorem Only.below {B b : Nat} {w0 w w' : World} (h : Below B w0 w) (o : Only b w w') (hB : B ≤ b) : Below B w0 w' :=
  h.trans ⟨o.os, o.tape, o.output, Nat.le_of_eq o.size.symm, fun k hk => o.block k (by omega)⟩
theorem Blk.only {w w' : World} {b c : Nat} {cs : List Value} {t : TypeId} (h : Blk w c cs t) (o : Only b w w') (hne : c ≠ b) : Blk w' c cs t := (o.block c hne).trans h

/-- A whole array or struct read out of a block. -/
theorem wp_load_blk {P : Program} {ops : Array Oper} {rest : List Oper} {o : Oper} {a : Act} {w : World} {Q : Exit → Act → World → Prop} (hgd : o.guard = none) (ty : TypeId) (x : Operand) (ho : o.op = .load ty x)
    {g : Nat} (hx : a.eval x = .pointer (some ⟨g, 0, none⟩)) {t : TypeId} {cs : List Value} {d : TypeDesc} (hg : Blk w g cs t)
    (hu : P.underlying ty = some d) (hd : (match d with | .struct _ | .array _ _ => true | _ => false) = true) {n : Nat} (hi : (P.info? ty).map (·.size) = some n) (hn : cs.length = n)
    (h : wpList P ops Q rest (a.put o.dst (.agg cs.toArray)) w) : wpList P ops Q (o :: rest) a w :=
  wpList_load_row hgd ty x ho g hx t cs.toArray (0, 0) d hg hu hd (by rw [hi]; simp [hn]) h
/-- A whole array or struct written into a block. -/
theorem run_store_blk {P : Program} {w : World} (ty : TypeId) {g : Nat} {t : TypeId} {cs cs' : List Value} (hg : Blk w g cs t) (hone : ∀ v ∈ cs', v.oneCell' = true) (hl : cs'.length = cs.length)
    {n : Nat} (hi : (P.info? ty).map (·.size) = some n) (hn : cs'.length = n) : (Instr.storeAt ty (.pointer (some ⟨g, 0, none⟩)) (.agg cs'.toArray)).run P w = .ok () (w.setRow g cs'.toArray) := by
  obtain ⟨i, hi1, hi2⟩ := Option.map_eq_some_iff.1 hi
  have hst := run_storeCells_at P g 0 t cs' 0 cs.toArray w hg (by simp [hl]) hone
  simp only [Nat.zero_add, List.take_zero, List.nil_append] at hst
  rw [List.drop_of_length_le (by simp [hl]), List.append_nil] at hst
  simp [Instr.storeAt, Instr.sureAddr, storeVar, sizeOf, typeInfo, hi1, hi2, Value.cells, hn, hst]
theorem upon_store_blk {P : Program} {o : Oper} {ρ : Operand → Value} {a : Act} {w : World} {K : Act → World → Prop} {Q : Exit → Act → World → Prop} (ty : TypeId) (x y : Operand) (ho : o.op = .store ty x y)
    {g : Nat} (hx : ρ x = .pointer (some ⟨g, 0, none⟩)) {t : TypeId} {cs cs' : List Value} (hy : ρ y = .agg cs'.toArray) (hg : Blk w g cs t) (hone : ∀ v ∈ cs', v.oneCell' = true) (hl : cs'.length = cs.length)
    {n : Nat} (hi : (P.info? ty).map (·.size) = some n) (hn : cs'.length = n)
    (h : ∀ w', Blk w' g cs' t → Only g w w' → K (a.put o.dst undef) w') : o.upon P a K Q ((execOp ρ o).run P w) := by
  simp only [execOp, ho, Sem.run_bind, hx, hy, run_store_blk ty hg hone hl hi hn, Result.andThen_ok, Sem.run_pure, Oper.upon]
  exact h _ (setRow_heap w g cs.toArray cs'.toArray t (0, 0) hg) (Only.row w g _)
theorem wp_store_blk {P : Program} {ops : Array Oper} {rest : List Oper} {o : Oper} {a : Act} {w : World} {Q : Exit → Act → World → Prop} (hgd : o.guard = none) (ty : TypeId) (x y : Operand) (ho : o.op = .store ty x y)
    {g : Nat} (hx : a.eval x = .pointer (some ⟨g, 0, none⟩)) {t : TypeId} {cs cs' : List Value} (hy : a.eval y = .agg cs'.toArray) (hg : Blk w g cs t) (hone : ∀ v ∈ cs', v.oneCell' = true) (hl : cs'.length = cs.length)
    {n : Nat} (hi : (P.info? ty).map (·.size) = some n) (hn : cs'.length = n)
    (h : ∀ w', Blk w' g cs' t → Only g w w' → wpList P ops Q rest (a.put o.dst undef) w') : wpList P ops Q (o :: rest) a w :=
  wpList_plain hgd fun _ hK => upon_store_blk ty x y ho hx hy hg hone hl hi hn fun w' h1 h2 => hK _ _ (h w' h1 h2)
/-- The result is what a block holds. -/
theorem ret_blk {P : Program} {fn : Func} {R : Ending → World → Prop} {a : Act} {w : World} {p : Tmp} {ty : TypeId} (h : fn.results = #[.cell p ty]) {g : Nat} {t : TypeId} {cs : List Value} {d : TypeDesc}
    (hp : a.tmps.getD p undef = .pointer (some ⟨g, 0, none⟩)) (hg : Blk w g cs t) (hu : P.underlying ty = some d) (hd : (match d with | .struct _ | .array _ _ => true | _ => false) = true) {n : Nat} (hi : (P.info? ty).map (·.size) = some n)
    (hn : cs.length = n) (hdf : a.defers = []) (hR : R (.returned (.agg cs.toArray)) w) : bodyPost P fn R .ret a w :=
  bodyPost_ret (results_cell_row h a.tmps w g t cs.toArray (0, 0) d hp hg hu hd (by rw [hi]; simp [hn])) hdf hR

/-! ### A slice of one-cell values that reads as a list -/
def Rd (w : World) (v : Value) (xs : List Value) : Prop :=
  ∃ A c, v = .slice A xs.length c ∧ xs.length ≤ c ∧ c ≤ maxLen ∧ (A = none → c = 0) ∧ (xs = [] ∨ ∃ b o, A = some ⟨b, o, none⟩ ∧ ∀ j (h : j < xs.length), w.cell? ⟨b, o + j, none⟩ = some xs[j])
section
variable {w w' : World} {v : Value} {xs : List Value}
theorem Rd.stay {B : Nat} (h : Rd w v xs) (hb : Below B w w') (hB : w.heap.size ≤ B) : Rd w' v xs := by
  obtain ⟨A, c, rfl, h1, h2, h0, h3⟩ := h
  refine ⟨A, c, rfl, h1, h2, h0, ?_⟩
  rcases h3 with h3 | ⟨b, o, rfl, h3⟩
  · exact .inl h3
  · refine .inr ⟨b, o, rfl, fun j hj => ?_⟩
    have h4 := h3 j hj
    have hlt := World.block_lt_of_cell? w _ h4
    rw [hb.cell (p := ⟨b, o + j, none⟩) (by exact Nat.lt_of_lt_of_le hlt hB)]
    exact h4
theorem Rd.nil (w : World) : Rd w (.slice none 0 0) [] := ⟨none, 0, rfl, Nat.le_refl _, Nat.zero_le _, fun _ => rfl, .inl rfl⟩
theorem Rd.len (h : Rd w v xs) : xs.length ≤ 9223372036854775807 := by
  obtain ⟨A, c, rfl, h1, h2, _⟩ := h
  unfold maxLen at h2; omega
theorem Rd.of_own {base n : Nat} {e : TypeId} (h : w.ownsRow base e 1 v n xs) : Rd w v xs := by
  have hl := h.1
  rcases h.2 with ⟨rfl, rfl⟩ | ⟨g, cap, cur, rfl, _, hg, hn, hc, hs, ht⟩
  · obtain rfl : xs = [] := List.eq_nil_of_length_eq_zero (by omega)
    exact Rd.nil w
  · rw [Nat.mul_one] at hl ht hs
    refine ⟨some ⟨g, 0, none⟩, cap, by rw [hl], by omega, hc, (fun h => by cases h), .inr ⟨g, 0, rfl, fun j hj => ?_⟩⟩
    subst ht
    rw [Nat.zero_add]
    simp [World.cell?, hg]
theorem Rd.of_blk {b : Nat} {cs : List Value} {t : TypeId} (h : Blk w b cs t) (hm : cs.length ≤ 9223372036854775807) : Rd w (.slice (some ⟨b, 0, none⟩) cs.length cs.length) cs :=
  ⟨_, _, rfl, Nat.le_refl _, by unfold maxLen; omega, (fun h => by cases h), .inr ⟨b, 0, rfl, fun j hj => by rw [Nat.zero_add]; exact h.cell j hj⟩⟩
end

theorem Rd.one (w : World) (v : Value) (e : TypeId) : Rd (w.alloc (.cells #[v] e)) (.slice (some ⟨w.heap.size, 0, none⟩) 1 1) [v] := Rd.of_blk (Blk.new w [v] e) (by simp)

theorem Rd.addr {w : World} {A : Option Addr} {n c : Nat} {xs : List Value} (hr : Rd w (.slice A n c) xs) : n = xs.length ∧ ((A = none ∧ xs = []) ∨ ∃ a, A = some a ∧ ∀ j v, xs[j]? = some v → w.cell? (a.add j) = some v) := by
  obtain ⟨A', c', hv, h1, _, h0, h⟩ := hr
  cases hv
  refine ⟨rfl, ?_⟩
  cases A with
  | none =>
    have := h0 rfl
    exact .inl ⟨rfl, List.eq_nil_of_length_eq_zero (by omega)⟩
  | some a =>
    refine .inr ⟨a, rfl, fun j v hj => ?_⟩
    rcases h with rfl | ⟨b, o, ha, h⟩
    · simp at hj
    · obtain rfl : a = ⟨b, o, none⟩ := by simpa using ha
      obtain ⟨hlt, rfl⟩ := List.getElem?_eq_some_iff.1 hj
      rw [← h j hlt]
      congr 1
      unfold Addr.add; split <;> simp_all

/-- append onto a row of the call's own, whatever is appended. -/
theorem wp_app {P : Program} {ops : Array Oper} {rest : List Oper} {o : Oper} {a : Act} {Q : Exit → Act → World → Prop} {w : World} (s x : Operand) (t : TypeId) (hgd : o.guard = none)
    (ho : o.op = .call { callee := .builtin .append, args := #[s, x], argTypes := #[t, t] }) (e : TypeId) (z : Value) (bytes : Nat) (ht : P.underlying t = some (.slice e))
    (hinfo : (P.info? e).map (fun i => (i.zero, i.size, i.bytes)) = some (some z, 1, bytes)) (hzs : z.cells.size = 1) (base : Nat) {v u : Value} {n : Nat} {xs ys : List Value} (hs : a.eval s = v) (hown : w.ownsRow base e 1 v n xs)
    (hx : a.eval x = u) (hr : Rd w u ys) (h1 : ∀ y ∈ ys, y.oneCell' = true) (hb1 : 1 ≤ bytes) (hbytes : (n + ys.length) * bytes ≤ 140737488355328) (hbase : base ≤ w.heap.size)
    (h : ∀ v' w', w'.ownsRow base e 1 v' (n + ys.length) (xs ++ ys) → w.grownBy w' v.ownBlock → Below base w w' → wpList P ops Q rest (a.put o.dst v') w') : wpList P ops Q (o :: rest) a w := by
  obtain ⟨i, hi, hz0, hz1, hz2⟩ := info_parts hinfo
  have h63 : n + ys.length ≤ maxLen := by
    have h2 : n + ys.length ≤ (n + ys.length) * bytes := Nat.le_mul_of_pos_right _ hb1
    unfold maxLen; omega
  obtain ⟨A, c, rfl, hc1, hc2, h0, h3⟩ := hr
  cases A with
  | none =>
    obtain rfl : c = 0 := h0 rfl
    obtain rfl : ys = [] := List.eq_nil_of_length_eq_zero (by omega)
    refine wpList_append_own_none hgd s x t ho base e i 1 ht hi v n xs hs hown hx (h v w (by simpa using hown) ⟨rfl, rfl, rfl, Nat.le_refl _, fun _ _ _ => rfl⟩ (Below.refl _ _))
  | some ad =>
    refine wpList_append_own w hgd s x t ho base e i z 1 bytes ht hi hz0 hz1 hz2 hzs (by decide) v n xs hs hown ad ys.length c ys hx (by simp) ?_ h1 h63 hbytes hbase (fun v' w' h4 h5 _ => h v' w' h4 h5 ((Below.refl base w).grown h5 hbase (fun k hk => (hown.lt k hk).1)))
    intro j y hj
    rcases h3 with rfl | ⟨b, o', hA, h3⟩
    · simp at hj
    · obtain rfl : ad = ⟨b, o', none⟩ := by simpa using hA
      obtain ⟨hlt, rfl⟩ := List.getElem?_eq_some_iff.1 hj
      rw [← h3 j hlt]
      congr 1
      unfold Addr.add; split <;> simp_all

/-! ### Arrays of integers that are compared -/
theorem run_part_int {P : Program} {w : World} {e : TypeId} {k : IntKind} (he : P.underlying e = some (.int k)) (cs : Array Value) (off : Nat) (v : Value) (h : cs[off]? = some v) : (part e cs off).run P w = .ok v w := by
  simp [part, isAgg, run_underlying he, h]

theorem run_eq_ints {P : Program} {w : World} (d : Nat) (t e : TypeId) (n : Nat) (k : IntKind) (xs ys : List Int) (hx : xs.length = n) (hy : ys.length = n) (ht : P.underlying t = some (.array n e)) (he : P.underlying e = some (.int k)) (i : TypeInfo) (hi : P.info? e = some i) (hz : i.size = 1) :
    (Op.equalIn (d + 2) t (.agg (xs.map (Value.int k)).toArray) (.agg (ys.map (Value.int k)).toArray)).run P w = .ok (xs == ys) w := by
  obtain ⟨D, hD⟩ : ∃ D, D = d + 1 := ⟨_, rfl⟩
  rw [show d + 2 = D + 1 from by omega]
  simp only [Op.equalIn, Sem.run_bind, run_underlying ht, Result.andThen_ok]
  simp only [sizeOf, typeInfo, Sem.run_bind, run_program, Result.andThen_ok, hi, Sem.run_pure, hz, Nat.mul_one]
  rw [Std.Legacy.Range.forIn_eq_forIn_range']
  simp only [Std.Legacy.Range.size, Nat.sub_zero, Nat.add_sub_cancel, Nat.div_one]
  have key : ∀ (m s : Nat), s + m = n → ∀ (w : World),
      (forIn (m := Sem) (List.range' s m 1) ((none : Option Bool), ()) fun i __s => do
            let a ← part e (xs.map (Value.int k)).toArray i
            let b ← part e (ys.map (Value.int k)).toArray i
            let r ← Op.equalIn D e a b
            if (!r) = true then pure (ForInStep.done (some false, ())) else pure (ForInStep.yield (none, ()))).run P w =
        .ok (if xs.drop s == ys.drop s then (none, ()) else (some false, ())) w := by
    intro m
    induction m with
    | zero =>
      intro s hs w
      rw [List.drop_of_length_le (by omega), List.drop_of_length_le (by omega)]
      simp
    | succ m ih =>
      intro s hs w
      have h1 : s < xs.length := by omega
      have h2 : s < ys.length := by omega
      simp only [List.range'_succ, List.forIn_cons, Sem.run_bind]
      rw [run_part_int he _ s (.int k xs[s]) (by simp [h1]), Result.andThen_ok, run_part_int he _ s (.int k ys[s]) (by simp [h2]), Result.andThen_ok, hD, run_equalIn_int w d e k k _ _ he, Result.andThen_ok]
      have hbeq : (xs.drop s == ys.drop s) = ((xs[s] == ys[s]) && (xs.drop (s + 1) == ys.drop (s + 1))) := by
        rw [List.drop_eq_getElem_cons h1, List.drop_eq_getElem_cons h2, List.cons_beq_cons]
      rw [hbeq]
      by_cases hxy : xs[s] = ys[s]
      · simp only [hxy, beq_self_eq_true, Bool.not_true, Bool.false_eq_true, if_false, Sem.run_pure, Result.andThen_ok]
        rw [← hD, ih (s + 1) (by omega) w, Bool.true_and]
      · have hb : (xs[s] == ys[s]) = false := by simpa using hxy
        simp only [hb, Bool.not_false, if_true, Sem.run_pure, Result.andThen_ok, Bool.false_and, Bool.false_eq_true, if_false]
  rw [key n 0 (by omega) w]
  simp only [Result.andThen_ok, List.drop_zero]
  by_cases h : xs = ys
  · simp [h]
  · simp [h]

/-! ### The closing of a law's row: it answers true, and nothing that was there has turned -/
theorem trodAll_stays {H : Type} {enc : TypeId × Value → H} {P : Program} (hl : laidOutB P = true) {W W' : World} (hb : Below W.heap.size W W') :
    ∀ (ts : List TypeId) (vs : List Value) (ds : List (DataW H)) (ps : List MemPlace), (ts.all fun t => P.readableRec t && decide (t < P.types.size)) = true →
      DataW.TrodAll enc P W 0 (fun _ => true) true ts vs ds ps → (∀ x ∈ ps, x.block < W.heap.size) →
      DataW.TrodAll enc P W' 0 (fun b => decide (b < W.heap.size)) true ts vs ds ps := by
  intro ts
  induction ts with
  | nil =>
    intro vs ds ps _ h _
    cases vs <;> cases ds <;> simp_all [DataW.TrodAll]
  | cons t ts ih =>
    intro vs ds ps hr h hlt
    cases vs with
    | nil => cases ds <;> simp [DataW.TrodAll] at h
    | cons v vs =>
      cases ds with
      | nil => simp [DataW.TrodAll] at h
      | cons d ds =>
        simp only [List.all_cons, Bool.and_eq_true, decide_eq_true_eq] at hr
        obtain ⟨p, q, h1, h2, rfl⟩ := h
        refine ⟨p, q, Below.trod hl hr.1.1 hr.1.2 h1 hb (fun x hx => hlt x (List.mem_append_left _ hx)), ih vs ds q (by simpa using hr.2) h2 (fun x hx => hlt x (List.mem_append_right _ hx)), rfl⟩

theorem law_post {H : Type} {enc : TypeId × Value → H} {P : Program} {f : Func} {s : ChangeSpec} {W W' : World} {args : Array Value} {ds : List (DataW H)} {before : List MemPlace} {tb : TypeId}
    (hl : laidOutB P = true) (hr : (f.params.toList.all fun t => P.readableRec t && decide (t < P.types.size)) = true) (hrt : f.resultTypes = #[tb]) (htb : P.underlying tb = some .bool)
    (hv : s.vars = []) (hs : (s.fn H (ds ++ [])).results = [.lit (.bool true)]) (ha : (s.fn H (ds ++ [])).args = ds) (hsv : (s.fn H (ds ++ [])).vars = [])
    (hW : DataW.Whole enc P f.params.toList s.vars false W args.toList ds [] before) (hb : Below W.heap.size W W') : s.post enc P f false true false false W args (.bool true) W' := by
  have hW' := hW
  obtain ⟨p, q, hA, hV, rfl, _, _⟩ := hW
  rw [hv] at hV
  obtain rfl : q = [] := by simpa [DataW.TrodVars] using hV
  have hlt : ∀ x ∈ p, x.block < W.heap.size := fun x hx => hA.lt x hx
  refine ⟨ds, [], p ++ [], [], p, [], hW', ?_, ?_, ?_, hb.frame _, fun h => by cases h⟩
  · rw [hs, hrt]; exact trodAll_mk1 (shut_bool htb true)
  · rw [ha]; exact trodAll_stays hl hb _ _ _ _ hr hA hlt
  · rw [hv, hsv]; rfl

/-! ### Arguments that are rows of integers -/
theorem trod_arr_ints {H : Type} {enc : TypeId × Value → H} {P : Program} {w : World} {base : Nat} {spare : Nat → Bool} {held : Bool} {fuel : Nat} {t e : TypeId} {n : Nat} {k : IntKind} {cs : List Value} {x : DataW H × List MemPlace}
    (ht : P.underlying t = some (.array n e)) (he : P.underlying e = some (.int k)) (hc : P.cellsOf e = 1) (hct : P.cellsOf t = n)
    (h : DataW.trod enc P w base spare held fuel t cs = some x) : ∃ zs : List Int, zs.length = n ∧ cs = zs.map (Value.int k) ∧ ∀ z ∈ zs, (Lit.int k z).wf = true := by
  obtain ⟨xs, m, _, _, hlen, hxl, hx⟩ := DataW.trod_array ht h
  rw [hct] at hlen
  rw [hc] at hx
  have hcell : ∀ i (hi : i < cs.length), ∃ z, cs[i] = .int k z ∧ (Lit.int k z).wf = true := by
    intro i hi
    have h1 := hx i (by omega)
    rw [Nat.mul_one, List.drop_eq_getElem_cons hi, List.getElem?_eq_getElem (by omega)] at h1
    obtain ⟨z, hz, _, hw⟩ := DataW.trod_int he h1
    simp only [List.take_succ_cons, List.take_zero, List.cons.injEq, and_true] at hz
    exact ⟨z, hz, hw⟩
  refine ⟨cs.map intOf, by simpa using hlen, ?_, ?_⟩
  · apply List.ext_getElem (by simp)
    intro i h1 h2
    obtain ⟨z, hz, _⟩ := hcell i h1
    simp [hz, intOf]
  · intro z hz
    obtain ⟨v, hv, rfl⟩ := List.mem_map.1 hz
    obtain ⟨i, hi, rfl⟩ := List.mem_iff_getElem.1 hv
    obtain ⟨z, hz', hw⟩ := hcell i hi
    rw [hz']; exact hw

theorem Tryd.own : ownKnob Tryd.prog.godebug = none := by kernel_rfl
theorem Tryd.laidOut : laidOutB Tryd.prog = true := by kernel_rfl

theorem laid_none (P : Program) (w : World) : laidMetH P [] w := ⟨[], rfl, List.nodup_nil, fun _ _ h => by cases h⟩

/-- What a law's walk gives: true, and nothing that was there has turned. -/
def Holds (e : Ending) (w w' : World) : Prop := e = .returned (.bool true) ∧ Below w.heap.size w w'
end Go.Proofs.YtdgpchacfdlleaaDoor
end

section
/-
  Bytes as values; bytes.Clone, bytes.Equal.
-/
namespace Go.Proofs.YtdgpchacfdlleaaDoor
open Go.RowKit

/-- Bytes as values. -/
def bs (xs : List Int) : List Value := xs.map (Value.int .u8)
def IsB (xs : List Int) : Prop := ∀ x ∈ xs, 0 ≤ x ∧ x ≤ 255
theorem bs_len (xs : List Int) : (bs xs).length = xs.length := by simp [bs]

theorem IsB.at_ {xs : List Int} (h : IsB xs) (i : Nat) : 0 ≤ xs.getD i 0 ∧ xs.getD i 0 ≤ 255 := by
  rw [List.getD_eq_getElem?_getD]
  rcases Nat.lt_or_ge i xs.length with hi | hi
  · rw [List.getElem?_eq_getElem hi]; exact h _ (List.getElem_mem hi)
  · rw [List.getElem?_eq_none hi]; simp

theorem info5 : (Tryd.prog.info? 5).map (fun i => (i.zero, i.size, i.bytes)) = some (some (.int .u8 0), 1, 1) := by kernel_rfl

/-- The answer is a new row of bytes, and nothing that was there has turned. -/
def NewB (xs : List Int) (w : World) (e : Ending) (w' : World) : Prop :=
  ∃ v, e = .returned v ∧ Below w.heap.size w w' ∧ w'.ownsRow w.heap.size 5 1 v xs.length (bs xs)

theorem bs_one (xs : List Int) : ∀ y ∈ bs xs, y.oneCell' = true := by
  intro y hy
  obtain ⟨x, _, rfl⟩ := List.mem_map.1 hy
  rfl
theorem bs_append (xs ys : List Int) : bs (xs ++ ys) = bs xs ++ bs ys := by simp [bs]

set_option maxHeartbeats 400000 in
theorem clone_any (v : Value) (xs : List Int) (w : World) (hr : Rd w v (bs xs)) (hl : xs.length ≤ 140737488355328) :
    Calls Tryd.prog 52 #[v] w fun e w' => NewB xs w e w' := by
  have hr0 := Lib.hid hr
  obtain ⟨A, c, rfl, hc1, hc2, h0, hcell⟩ := hr
  have hown := World.ownsRow_made (e := 5) (size := 1) w #[] 0 (Nat.le_refl _) (Nat.zero_le _) (by simp)
  have hn := fun A n c => Lib.run_eql_slice_nil (P := Tryd.prog) w 24 5 A n c 0 0 Tryd.underlying24
  cases A with
  | none =>
    obtain rfl : c = 0 := h0 rfl
    obtain rfl : xs = [] := List.eq_nil_of_length_eq_zero (by rw [bs_len] at hc1; omega)
    go_enter Tryd.func52, Tryd.ntmps52
    go_wp2
    go_ret
    exact ⟨_, rfl, Below.refl _ _, World.ownsRow_nil _ _ _ _⟩
  | some a =>
    clear h0 hcell
    go_enter Tryd.func52, Tryd.ntmps52
    go_wp2_with (at_builtin; go_loud (refine wp_app (.tmp 5) (.tmp 6) 24 rfl rfl 5 (.int .u8 0) 1 Tryd.underlying24 info5 rfl w.heap.size rfl hown rfl (hr0.out.stay ((Below.refl _ _).alloc (Nat.le_refl _) _) (Nat.le_refl _)) (bs_one _) (by decide) (by rw [bs_len]; omega) (by simp) ?_; intro v' w1 hown1 _ hb1))
    go_ret
    exact ⟨_, rfl, ((Below.refl _ _).alloc (Nat.le_refl _) _).trans hb1, by simpa [bs_len] using hown1⟩

/-- Are two lists of bytes one? -/
def eqB (xs ys : List Int) : Bool := xs == ys
def strOf (xs : List Int) : ByteArray := xs.foldl (fun r n => r.push (UInt8.ofNat n.toNat)) ByteArray.empty
theorem strOf_from (xs : List Int) (s : ByteArray) : (xs.foldl (fun r n => r.push (UInt8.ofNat n.toNat)) s).data.toList = s.data.toList ++ xs.map fun n => UInt8.ofNat n.toNat := by
  induction xs generalizing s with
  | nil => simp
  | cons x xs ih => rw [List.foldl_cons, ih]; simp [ByteArray.push]
theorem strOf_toList (xs : List Int) : (strOf xs).toList = xs.map fun n => UInt8.ofNat n.toNat := by
  rw [ByteArray.toList_eq, strOf, strOf_from]; simp
theorem u8_inj {x y : Int} (hx : 0 ≤ x ∧ x ≤ 255) (hy : 0 ≤ y ∧ y ≤ 255) (h : UInt8.ofNat x.toNat = UInt8.ofNat y.toNat) : x = y := by
  have h1 := congrArg UInt8.toNat h
  simp at h1
  omega
theorem map_u8_inj : ∀ {xs ys : List Int}, IsB xs → IsB ys → (xs.map fun n => UInt8.ofNat n.toNat) = (ys.map fun n => UInt8.ofNat n.toNat) → xs = ys
  | [], [], _, _, _ => rfl
  | [], y :: ys, _, _, h => by simp at h
  | x :: xs, [], _, _, h => by simp at h
  | x :: xs, y :: ys, hx, hy, h => by
    simp only [List.map_cons, List.cons.injEq] at h
    rw [u8_inj (hx x (by simp)) (hy y (by simp)) h.1, map_u8_inj (fun z hz => hx z (by simp [hz])) (fun z hz => hy z (by simp [hz])) h.2]
theorem strOf_eq {xs ys : List Int} (hx : IsB xs) (hy : IsB ys) : ((strOf xs).toList == (strOf ys).toList) = eqB xs ys := by
  rw [strOf_toList, strOf_toList, eqB, Bool.eq_iff_iff, beq_iff_eq, beq_iff_eq]
  exact ⟨map_u8_inj hx hy, fun h => by rw [h]⟩
theorem run_conv (w : World) (A : Option Addr) (n c : Nat) (xs : List Int) (hr : Rd w (.slice A n c) (bs xs)) :
    (convert 24 9 (.slice A n c)).run Tryd.prog w = .ok (.string (strOf xs)) w := by
  rw [run_convert_bytes_string w _ _ _ A n c Tryd.underlying24 Tryd.underlying5 Tryd.underlying9]
  obtain ⟨rfl, ⟨rfl, h⟩ | ⟨a, rfl, h⟩⟩ := hr.addr
  · obtain rfl : xs = [] := by simpa [bs] using h
    rfl
  · exact run_bytesToString w a _ c xs (by have := run_loadCells_list (P := Tryd.prog) w a (bs xs) h; exact this)

set_option maxHeartbeats 400000 in
theorem equal_any (u v : Value) (xs ys : List Int) (w : World) (hu : Rd w u (bs xs)) (hv : Rd w v (bs ys)) (hx : IsB xs) (hy : IsB ys) :
    Calls Tryd.prog 20 #[u, v] w fun e w' => e = .returned (.bool (eqB xs ys)) ∧ w = w' := by
  have hu0 := hu
  have hv0 := hv
  obtain ⟨A, c, rfl, _⟩ := hu
  obtain ⟨A', c', rfl, _⟩ := hv
  have h1 := run_conv w _ _ _ xs hu0
  have h2 := run_conv w _ _ _ ys hv0
  have h3 := strOf_eq hx hy
  clear hu0 hv0 hx hy
  go_enter Tryd.func20, Tryd.ntmps20
  go_wp2_with fail
  go_ret
  exact ⟨rfl, rfl⟩
end Go.Proofs.YtdgpchacfdlleaaDoor
end

section
/-
  What tells an entry of a ledger: its number's eight bytes, the highest first, and noughts: plain laws.
-/
namespace Go.Proofs.YtdgpchacfdlleaaDoor
open Go.RowKit

/-- The first d of a number's n bytes, the highest first. -/
def hiL (x : Int) (n d : Nat) : List Int := (List.range d).map fun j => x / 2 ^ (8 * (n - 1 - j)) % 256
theorem hiL_len (x : Int) (n d : Nat) : (hiL x n d).length = d := by simp [hiL]
theorem hiL_snoc (x : Int) (n d : Nat) : hiL x n (d + 1) = hiL x n d ++ [x / 2 ^ (8 * (n - 1 - d)) % 256] := by simp [hiL, List.range_succ]
theorem hiL_isB (x : Int) (n d : Nat) : IsB (hiL x n d) := by
  intro z hz
  obtain ⟨j, _, rfl⟩ := List.mem_map.1 hz
  omega
def num8 (k : Int) : List Int := hiL k 8 8
theorem num8_eq (k : Int) : num8 k = [k / 72057594037927936 % 256, k / 281474976710656 % 256, k / 1099511627776 % 256, k / 4294967296 % 256, k / 16777216 % 256, k / 65536 % 256, k / 256 % 256, k % 256] := by
  simp [num8, hiL, List.range_succ]
theorem num8_len (k : Int) : (num8 k).length = 8 := hiL_len _ _ _
/-- The number that bytes say. -/
def numB (l : List Int) : Int := l.foldl (fun x c => x * 256 + c) 0
theorem numB_num8 (k : Int) (h0 : 0 ≤ k) (h1 : k < 18446744073709551616) : numB (num8 k) = k := by
  rw [num8_eq]
  simp only [numB, List.foldl_cons, List.foldl_nil]
  omega
theorem num8_numB {l : List Int} (hb : IsB l) (hl : l.length = 8) : num8 (numB l) = l := by
  match l, hl with
  | [a, b, c, d, e, f, g, h], _ =>
    have ha := hb a (by simp); have hb1 := hb b (by simp); have hc := hb c (by simp); have hd := hb d (by simp)
    have he := hb e (by simp); have hf := hb f (by simp); have hg := hb g (by simp); have hh := hb h (by simp)
    rw [num8_eq]
    simp only [numB, List.foldl_cons, List.foldl_nil, List.cons.injEq, and_true]
    refine ⟨?_, ?_, ?_, ?_, ?_, ?_, ?_, ?_⟩ <;> omega
theorem numB_range : ∀ {l : List Int}, IsB l → 0 ≤ numB l ∧ numB l < 256 ^ l.length := by
  intro l
  suffices H : ∀ l : List Int, IsB l → ∀ x : Int, ∀ n : Nat, 0 ≤ x → x < 256 ^ n → 0 ≤ l.foldl (fun x c => x * 256 + c) x ∧ l.foldl (fun x c => x * 256 + c) x < 256 ^ (n + l.length) by
    intro h
    have := H l h 0 0 (Int.le_refl _) (by decide)
    simpa [numB] using this
  intro l
  induction l with
  | nil => intro _ x n h0 h1; simpa using ⟨h0, h1⟩
  | cons c r ih =>
    intro hb x n h0 h1
    have hc := hb c (by simp)
    have := ih (fun z hz => hb z (List.mem_cons_of_mem _ hz)) (x * 256 + c) (n + 1) (by omega) (by rw [Int.pow_succ]; omega)
    simp only [List.foldl_cons, List.length_cons]
    rw [show n + (r.length + 1) = n + 1 + r.length by omega]
    exact this
theorem numB_snoc (l : List Int) (c : Int) : numB (l ++ [c]) = numB l * 256 + c := by simp [numB]
/-- The bytes, so many, that tell entry k. -/
def putL (k size : Nat) : List Int := num8 k ++ List.replicate (size - 8) 0
theorem putL_len (k size : Nat) (h : 8 ≤ size) : (putL k size).length = size := by
  unfold putL; rw [List.length_append, num8_len, List.length_replicate]; omega
theorem putL_isB (k size : Nat) : IsB (putL k size) := by
  intro z hz
  rcases List.mem_append.1 hz with h | h
  · exact hiL_isB _ _ _ z h
  · have := (List.mem_replicate.1 h).2; omega
/-- The entry that bytes tell, of so many. -/
def findL (h : List Int) (n : Nat) : Option Nat :=
  if 8 ≤ h.length ∧ numB (h.take 8) ≤ 1099511627776 ∧ numB (h.take 8) < n ∧ (h.drop 8).all (fun c => c == 0) = true then some (numB (h.take 8)).toNat else none
theorem findL_put {k n size : Nat} (hk : k < n) (hm : k ≤ 1099511627776) (hs : 8 ≤ size) : findL (putL k size) n = some k := by
  have h1 : (putL k size).take 8 = num8 k := by unfold putL; rw [← num8_len k, List.take_left]
  have h2 : (putL k size).drop 8 = List.replicate (size - 8) 0 := by unfold putL; rw [← num8_len k, List.drop_left]
  unfold findL
  rw [h1, h2, numB_num8 _ (by omega) (by omega), putL_len _ _ hs, if_pos ⟨hs, by omega, by omega, by simp⟩]
  simp
theorem findL_some {h : List Int} {n k : Nat} (hb : IsB h) (hf : findL h n = some k) : k < n ∧ k ≤ 1099511627776 ∧ 8 ≤ h.length ∧ h = putL k h.length := by
  unfold findL at hf
  split at hf
  · rename_i hc
    obtain ⟨h1, h2, h3, h4⟩ := hc
    cases hf
    have hb8 : IsB (h.take 8) := fun z hz => hb z (List.mem_of_mem_take hz)
    have hl8 : (h.take 8).length = 8 := by rw [List.length_take]; omega
    have hr := numB_range hb8
    refine ⟨by omega, by omega, h1, ?_⟩
    have e1 : num8 ((numB (h.take 8)).toNat : Int) = h.take 8 := by rw [Int.toNat_of_nonneg hr.1]; exact num8_numB hb8 hl8
    have e2 : h.drop 8 = List.replicate (h.length - 8) 0 := by
      rw [List.eq_replicate_iff]
      refine ⟨by rw [List.length_drop], fun c hc => ?_⟩
      have := List.all_eq_true.1 h4 c hc
      simpa using this
    unfold putL
    rw [e1, ← e2, List.take_append_drop]
  · cases hf
end Go.Proofs.YtdgpchacfdlleaaDoor
end

section
/-
  The ideal box: what it answers, and the plain laws of that.
-/
namespace Go.Proofs.YtdgpchacfdlleaaDoor
open Go.RowKit

/-- An id. -/
structure Kid where
  a : Int
  b : Int
  c : Int
  d : Int
  e : Int
  f : Int
deriving DecidableEq
def Kid.cells (k : Kid) : List Value := [.int .i64 k.a, .int .i64 k.b, .int .i64 k.c, .int .i64 k.d, .int .i64 k.e, .int .i64 k.f]
def Kid.nums (k : Kid) : List Int := [k.a, k.b, k.c, k.d, k.e, k.f]
def Kid.In (k : Kid) : Prop := ∀ z ∈ k.nums, -9223372036854775808 ≤ z ∧ z ≤ 9223372036854775807
def Kid.ok (k : Kid) : Bool := k.nums.all (fun z => decide (0 ≤ z) && decide (z ≤ 1099511627776)) && decide (1 ≤ k.a) && decide (k.a ≤ 6) && decide (k.e ≤ 1)
structure SealE where
  id : Kid
  n : Int
  ad : List Int
  text : List Int
structure MarkE where
  id : Kid
  text : List Int
structure BoxI where
  seals : List SealE
  marks : List MarkE
  uses : List (Kid × Int)
/-- How many of a list stand behind their like. -/
def reps : List (Kid × Int) → Nat
  | [] => 0
  | x :: r => (if x ∈ r then 1 else 0) + reps r
def BoxI.new : BoxI := ⟨[], [], []⟩
def askB (id : Kid) (n : Int) : Int := if 0 ≤ n ∧ n ≤ 1099511627776 ∧ id.ok = true then 0 else 1
def sealS (st : BoxI) (id : Kid) (n : Int) (ad text : List Int) : Int × List Int × BoxI :=
  if askB id n ≠ 0 then (1, [], st) else if 65536 < ad.length ∨ 65536 < text.length then (5, [], st) else
  (0, putL st.seals.length (text.length + 16), ⟨st.seals ++ [⟨id, n, ad, text⟩], st.marks, (id, n) :: st.uses⟩)
def openS (st : BoxI) (id : Kid) (n : Int) (ad hidden : List Int) : Int × List Int :=
  if askB id n ≠ 0 then (1, []) else if hidden.length < 16 then (4, []) else if 65536 < ad.length ∨ 65552 < hidden.length then (5, []) else
  match (findL hidden st.seals.length).bind (fun k => st.seals[k]?) with
  | none => (6, [])
  | some x => if x.id = id ∧ x.n = n ∧ x.ad = ad ∧ hidden.length = x.text.length + 16 then (0, x.text) else (6, [])
def markS (st : BoxI) (id : Kid) (text : List Int) : Int × List Int × BoxI :=
  if askB id 0 ≠ 0 then (1, [], st) else (0, putL st.marks.length 32, ⟨st.seals, st.marks ++ [⟨id, text⟩], st.uses⟩)
def checkS (st : BoxI) (id : Kid) (text mark : List Int) : Bool :=
  if askB id 0 ≠ 0 ∨ mark.length ≠ 32 then false else
  match (findL mark st.marks.length).bind (fun k => st.marks[k]?) with
  | none => false
  | some x => decide (x.id = id) && decide (x.text = text)
theorem open_some {st : BoxI} {id : Kid} {n : Int} {ad hidden : List Int} (hb : IsB hidden) (h : (openS st id n ad hidden).1 = 0) :
    ∃ (k : Nat) (x : SealE), st.seals[k]? = some x ∧ x.id = id ∧ x.n = n ∧ x.ad = ad ∧ (openS st id n ad hidden).2 = x.text ∧ hidden = putL k (x.text.length + 16) := by
  unfold openS at h ⊢
  by_cases h0 : askB id n ≠ 0
  · rw [if_pos h0] at h; cases h
  rw [if_neg h0] at h ⊢
  by_cases h1 : hidden.length < 16
  · rw [if_pos h1] at h; cases h
  rw [if_neg h1] at h ⊢
  by_cases h2 : 65536 < ad.length ∨ 65552 < hidden.length
  · rw [if_pos h2] at h; cases h
  rw [if_neg h2] at h ⊢
  cases hx : (findL hidden st.seals.length).bind (fun k => st.seals[k]?) with
  | none => rw [hx] at h; cases h
  | some x =>
    rw [hx] at h
    simp only at h ⊢
    by_cases hc : x.id = id ∧ x.n = n ∧ x.ad = ad ∧ hidden.length = x.text.length + 16
    · rw [if_pos hc]
      obtain ⟨k, hk, hx'⟩ := Option.bind_eq_some_iff.1 hx
      have hf := (findL_some hb hk).2.2.2
      rw [hc.2.2.2] at hf
      exact ⟨k, x, hx', hc.1, hc.2.1, hc.2.2.1, rfl, hf⟩
    · rw [if_neg hc] at h; cases h
theorem open_none {st : BoxI} {id : Kid} {n : Int} {ad hidden : List Int} (h : (openS st id n ad hidden).1 ≠ 0) : (openS st id n ad hidden).2 = [] := by
  unfold openS at h ⊢
  by_cases h0 : askB id n ≠ 0
  · rw [if_pos h0]
  rw [if_neg h0] at h ⊢
  by_cases h1 : hidden.length < 16
  · rw [if_pos h1]
  rw [if_neg h1] at h ⊢
  by_cases h2 : 65536 < ad.length ∨ 65552 < hidden.length
  · rw [if_pos h2]
  rw [if_neg h2] at h ⊢
  cases hx : (findL hidden st.seals.length).bind (fun k => st.seals[k]?) with
  | none => rfl
  | some x =>
    rw [hx] at h
    simp only at h ⊢
    by_cases hc : x.id = id ∧ x.n = n ∧ x.ad = ad ∧ hidden.length = x.text.length + 16
    · rw [if_pos hc] at h; exact absurd rfl h
    · rw [if_neg hc]
/-- What was told, and what of it was sealed. -/
structure Told (l : List SealE) (told : List (List Int)) (st : BoxI) : Prop where
  len : told.length = l.length
  at_ : ∀ (k : Nat) (x : SealE), st.seals[k]? = some x → ∃ i : Nat, l[i]? = some x ∧ told[i]? = some (putL k (x.text.length + 16))
theorem Told.nil : Told [] [] BoxI.new := ⟨rfl, fun k x h => by simp [BoxI.new] at h⟩
theorem Told.step {l : List SealE} {told : List (List Int)} {st : BoxI} (h : Told l told st) (x : SealE) : Told (l ++ [x]) (told ++ [(sealS st x.id x.n x.ad x.text).2.1]) (sealS st x.id x.n x.ad x.text).2.2 := by
  refine ⟨by simp [h.len], fun k y hy => ?_⟩
  have old : ∀ (k : Nat) (y : SealE), st.seals[k]? = some y → ∃ i : Nat, (l ++ [x])[i]? = some y ∧ (told ++ [(sealS st x.id x.n x.ad x.text).2.1])[i]? = some (putL k (y.text.length + 16)) := fun k y hy => by
    obtain ⟨i, h1, h2⟩ := h.at_ k y hy
    have hi := (List.getElem?_eq_some_iff.1 h1).1
    exact ⟨i, by rw [List.getElem?_append_left hi]; exact h1, by rw [List.getElem?_append_left (by rw [h.len]; exact hi)]; exact h2⟩
  unfold sealS at hy
  split at hy
  · exact old k y hy
  split at hy
  · exact old k y hy
  rename_i h0 h1
  rw [List.getElem?_append] at hy
  split at hy
  · exact old k y hy
  · rename_i hk
    have hk' : k - st.seals.length = 0 := by
      have := (List.getElem?_eq_some_iff.1 hy).1
      simp at this; omega
    rw [hk'] at hy
    cases hy
    refine ⟨l.length, by simp, ?_⟩
    rw [← h.len]
    simp only [List.getElem?_concat_length]
    unfold sealS
    rw [if_neg h0, if_neg h1]
    have : k = st.seals.length := by omega
    rw [this]
end Go.Proofs.YtdgpchacfdlleaaDoor
end

section
/-
  The ideal box: what is marked, and what is found right: plain laws.
-/
namespace Go.Proofs.YtdgpchacfdlleaaDoor
open Go.RowKit

theorem ask_ok {id : Kid} : askB id 0 = 0 ↔ id.ok = true := by
  unfold askB
  by_cases h : id.ok = true
  · simp [h]
  · simp [h]
structure ToldM (l : List MarkE) (told : List (List Int)) (st : BoxI) : Prop where
  len : told.length = l.length
  le : st.marks.length ≤ l.length
  at_ : ∀ (k : Nat) (x : MarkE), st.marks[k]? = some x → ∃ i : Nat, l[i]? = some x ∧ x.id.ok = true ∧ told[i]? = some (putL k 32)
  back : ∀ (i : Nat) (x : MarkE), l[i]? = some x → x.id.ok = true → ∃ k : Nat, st.marks[k]? = some x ∧ told[i]? = some (putL k 32)
theorem ToldM.nil : ToldM [] [] BoxI.new := ⟨rfl, Nat.le_refl _, fun k x h => by simp [BoxI.new] at h, fun i x h => by simp at h⟩
theorem ToldM.step {l : List MarkE} {told : List (List Int)} {st : BoxI} (h : ToldM l told st) (x : MarkE) : ToldM (l ++ [x]) (told ++ [(markS st x.id x.text).2.1]) (markS st x.id x.text).2.2 := by
  have lt : ∀ (i : Nat) (y : MarkE), l[i]? = some y → ∀ m : List Int, ∀ t : MarkE, (l ++ [t])[i]? = some y ∧ (told ++ [m])[i]? = told[i]? := fun i y hy m t => by
    have hi := (List.getElem?_eq_some_iff.1 hy).1
    exact ⟨by rw [List.getElem?_append_left hi]; exact hy, by rw [List.getElem?_append_left (by rw [h.len]; exact hi)]⟩
  by_cases h0 : askB x.id 0 ≠ 0
  · have hm : markS st x.id x.text = (1, [], st) := by unfold markS; rw [if_pos h0]
    rw [hm]
    refine ⟨by simp [h.len], by have := h.le; simp; omega, fun k y hy => ?_, fun i y hy hok => ?_⟩
    · obtain ⟨i, h1, h2, h3⟩ := h.at_ k y hy
      exact ⟨i, (lt i y h1 [] x).1, h2, (lt i y h1 [] x).2.trans h3⟩
    · rw [List.getElem?_append] at hy
      split at hy
      · obtain ⟨k, h1, h2⟩ := h.back i y hy hok
        exact ⟨k, h1, (lt i y hy [] x).2.trans h2⟩
      · have hk' : i - l.length = 0 := by
          have := (List.getElem?_eq_some_iff.1 hy).1
          simp at this; omega
        rw [hk'] at hy
        cases hy
        exact absurd (ask_ok.2 hok) h0
  · have hm : markS st x.id x.text = (0, putL st.marks.length 32, ⟨st.seals, st.marks ++ [⟨x.id, x.text⟩], st.uses⟩) := by unfold markS; rw [if_neg h0]
    have hok : x.id.ok = true := ask_ok.1 (by simpa using h0)
    rw [hm]
    refine ⟨by simp [h.len], by have := h.le; simp; omega, fun k y hy => ?_, fun i y hy hok' => ?_⟩
    · simp only at hy
      rw [List.getElem?_append] at hy
      split at hy
      · obtain ⟨i, h1, h2, h3⟩ := h.at_ k y hy
        exact ⟨i, (lt i y h1 [] x).1, h2, (lt i y h1 (putL st.marks.length 32) x).2.trans h3⟩
      · rename_i hk
        have hk' : k - st.marks.length = 0 := by
          have := (List.getElem?_eq_some_iff.1 hy).1
          simp at this; omega
        rw [hk'] at hy
        cases hy
        refine ⟨l.length, by simp, hok, ?_⟩
        rw [← h.len]
        simp only [List.getElem?_concat_length]
        rw [show k = st.marks.length by omega]
    · rw [List.getElem?_append] at hy
      split at hy
      · obtain ⟨k, h1, h2⟩ := h.back i y hy hok'
        have hk := (List.getElem?_eq_some_iff.1 h1).1
        exact ⟨k, by simp only; rw [List.getElem?_append_left hk]; exact h1, (lt i y hy (putL st.marks.length 32) x).2.trans h2⟩
      · have hk' : i - l.length = 0 := by
          have := (List.getElem?_eq_some_iff.1 hy).1
          simp at this; omega
        rw [hk'] at hy
        cases hy
        refine ⟨st.marks.length, by simp, ?_⟩
        rw [show i = told.length by rw [h.len]; omega]
        simp only [List.getElem?_concat_length]
theorem check_iff {l : List MarkE} {told : List (List Int)} {st : BoxI} (h : ToldM l told st) (hn : l.length ≤ 1000) {mark : List Int} (hb : IsB mark) (id : Kid) (text : List Int) :
    checkS st id text mark = true ↔ ∃ (i : Nat) (x : MarkE), l[i]? = some x ∧ x.id.ok = true ∧ x.id = id ∧ x.text = text ∧ told[i]? = some mark := by
  unfold checkS
  constructor
  · intro hc
    by_cases h0 : askB id 0 ≠ 0 ∨ mark.length ≠ 32
    · rw [if_pos h0] at hc; cases hc
    rw [if_neg h0] at hc
    have hm : mark.length = 32 := by omega
    cases hx : (findL mark st.marks.length).bind (fun k => st.marks[k]?) with
    | none => rw [hx] at hc; cases hc
    | some x =>
      rw [hx] at hc
      simp only [Bool.and_eq_true, decide_eq_true_eq] at hc
      obtain ⟨k, hk, hx'⟩ := Option.bind_eq_some_iff.1 hx
      have hf := (findL_some hb hk).2.2.2
      rw [hm] at hf
      obtain ⟨i, h1, h2, h3⟩ := h.at_ k x hx'
      exact ⟨i, x, h1, h2, hc.1, hc.2, by rw [h3, hf]⟩
  · rintro ⟨i, x, h1, h2, rfl, rfl, h3⟩
    obtain ⟨k, h4, h5⟩ := h.back i x h1 h2
    have hm : mark = putL k 32 := by rw [h5] at h3; exact (Option.some.inj h3).symm
    have hk := (List.getElem?_eq_some_iff.1 h4).1
    have hle := h.le
    rw [if_neg (by rw [hm, putL_len k 32 (by decide)]; have := ask_ok.2 h2; omega), hm, findL_put hk (by omega) (by decide)]
    simp [h4]
end Go.Proofs.YtdgpchacfdlleaaDoor
end

section
/-
  The box of either kind: what it answers, as pure functions.
-/
namespace Go.Proofs.YtdgpchacfdlleaaDoor
open Go.RowKit

/-- What a real box does. -/
structure RealF where
  rseal : List Int → Kid → Int → List Int → List Int → List Int
  ropn : List Int → Kid → Int → List Int → List Int → Int × List Int
  rmark : List Int → Kid → List Int → List Int
def sealX (R : RealF) (sec : List Int) (ideal : Bool) (st : BoxI) (id : Kid) (n : Int) (ad text : List Int) : Int × List Int × BoxI :=
  if askB id n ≠ 0 then (1, [], st) else if 65536 < ad.length ∨ 65536 < text.length then (5, [], st) else
  (0, if ideal = true then putL st.seals.length (text.length + 16) else R.rseal sec id n ad text, ⟨if ideal = true then st.seals ++ [⟨id, n, ad, text⟩] else st.seals, st.marks, (id, n) :: st.uses⟩)
def openX (R : RealF) (sec : List Int) (ideal : Bool) (st : BoxI) (id : Kid) (n : Int) (ad hidden : List Int) : Int × List Int :=
  if ideal = true then openS st id n ad hidden else if askB id n ≠ 0 then (1, []) else R.ropn sec id n ad hidden
def markX (R : RealF) (sec : List Int) (ideal : Bool) (st : BoxI) (id : Kid) (text : List Int) : Int × List Int × BoxI :=
  if ideal = true then markS st id text else if askB id 0 ≠ 0 then (1, [], st) else (0, R.rmark sec id text, st)
def checkX (R : RealF) (sec : List Int) (ideal : Bool) (st : BoxI) (id : Kid) (text mark : List Int) : Bool :=
  if ideal = true then checkS st id text mark else if askB id 0 ≠ 0 ∨ mark.length ≠ 32 then false else decide (mark = R.rmark sec id text)
theorem sealX_ideal (R : RealF) (sec : List Int) (st : BoxI) (id : Kid) (n : Int) (ad text : List Int) : sealX R sec true st id n ad text = sealS st id n ad text := by
  unfold sealX sealS
  simp
theorem openX_ideal (R : RealF) (sec : List Int) (st : BoxI) (id : Kid) (n : Int) (ad h : List Int) : openX R sec true st id n ad h = openS st id n ad h := by
  unfold openX; simp
theorem markX_ideal (R : RealF) (sec : List Int) (st : BoxI) (id : Kid) (text : List Int) : markX R sec true st id text = markS st id text := by
  unfold markX; simp
theorem checkX_ideal (R : RealF) (sec : List Int) (st : BoxI) (id : Kid) (text mark : List Int) : checkX R sec true st id text mark = checkS st id text mark := by
  unfold checkX; simp
/-- Few enough things were done. -/
structure Few (st : BoxI) : Prop where
  seals : st.seals.length ≤ 100000
  marks : st.marks.length ≤ 100000
  uses : st.uses.length ≤ 100000
theorem isB_nil : IsB [] := fun _ h => by cases h
theorem sealS_isB (st : BoxI) (id : Kid) (n : Int) (ad text : List Int) : IsB (sealS st id n ad text).2.1 := by
  unfold sealS
  split
  · exact isB_nil
  split
  · exact isB_nil
  · exact putL_isB _ _
theorem openS_isB {st : BoxI} (hs : ∀ x ∈ st.seals, IsB x.text) (id : Kid) (n : Int) (ad h : List Int) : IsB (openS st id n ad h).2 := by
  unfold openS
  split
  · exact isB_nil
  split
  · exact isB_nil
  split
  · exact isB_nil
  split
  · exact isB_nil
  · rename_i x hx
    split
    · obtain ⟨k, _, h2⟩ := Option.bind_eq_some_iff.1 hx
      exact hs x (List.mem_of_getElem? h2)
    · exact isB_nil
theorem markS_isB (st : BoxI) (id : Kid) (text : List Int) : IsB (markS st id text).2.1 := by
  unfold markS
  split
  · exact isB_nil
  · exact putL_isB _ _
/-- What was sealed is opened, whatever was sealed behind. -/
theorem open_sealS {st : BoxI} {id : Kid} {n : Int} {ad text : List Int} (h0 : (sealS st id n ad text).1 = 0) (hm : st.seals.length ≤ 100000) (st' : BoxI) (hst : ∃ l, st'.seals = (sealS st id n ad text).2.2.seals ++ l) :
    openS st' id n ad (sealS st id n ad text).2.1 = (0, text) := by
  obtain ⟨l, hl⟩ := hst
  unfold sealS at h0 hl ⊢
  by_cases h1 : askB id n ≠ 0
  · rw [if_pos h1] at h0; cases h0
  rw [if_neg h1] at h0 hl ⊢
  by_cases h2 : 65536 < ad.length ∨ 65536 < text.length
  · rw [if_pos h2] at h0; cases h0
  rw [if_neg h2] at hl ⊢
  have hlt : st.seals.length < st'.seals.length := by rw [hl]; simp
  have hget : st'.seals[st.seals.length]? = some ⟨id, n, ad, text⟩ := by rw [hl]; simp
  have hp := putL_len st.seals.length (text.length + 16) (by omega)
  unfold openS
  simp only
  rw [if_neg h1, if_neg (by rw [hp]; omega), if_neg (by rw [hp]; omega), findL_put hlt (by omega) (by omega)]
  simp only [Option.bind_some, hget]
  rw [if_pos ⟨trivial, trivial, trivial, hp⟩]
end Go.Proofs.YtdgpchacfdlleaaDoor
end

section
/-
  The pipe: what its calls answer, as pure functions; the plain law of prefixes.
-/
namespace Go.Proofs.YtdgpchacfdlleaaDoor
open Go.RowKit

/-- Keys that two agreed on. -/
structure KeyS where
  life : Int
  conn : Int
  peer : Int
deriving DecidableEq
/-- An end: how many frames each side had. -/
structure PipeS where
  k : KeyS
  side : Nat
  S : Nat
  E : Nat
  c0 : Nat
  c1 : Nat
  closed : Bool
def fid (k : KeyS) (e : Int) (s : Int) : Kid := ⟨6, e, k.life, k.conn, s, k.peer⟩
def PipeS.cnt (p : PipeS) (s : Nat) : Nat := if s = 0 then p.c0 else p.c1
def PipeS.spent (p : PipeS) (s : Nat) : Bool := decide (p.S = 0) || decide (p.E < p.cnt s / p.S)
def PipeS.step (p : PipeS) (s : Nat) : PipeS := if s = 0 then { p with c0 := p.c0 + 1 } else { p with c1 := p.c1 + 1 }
def PipeS.shut (p : PipeS) (c : Bool) : PipeS := { p with closed := c }
def psealF (R : RealF) (sec : List Int) (ideal : Bool) (st : BoxI) (p : PipeS) (kind : Int) (text : List Int) : Int × List Int × BoxI × PipeS :=
  if p.closed = true then (14, [], st, p) else if 60000 < text.length then (5, [], st, p) else if p.spent p.side = true then (7, [], st, p) else
  let r := sealX R sec ideal st (fid p.k (p.cnt p.side / p.S : Nat) p.side) (p.cnt p.side % p.S : Nat) [] (kind :: text)
  if r.1 ≠ 0 then (r.1, [], r.2.2, p) else (0, 4 :: r.2.1, r.2.2, p.step p.side)
def ptakeF (R : RealF) (sec : List Int) (ideal : Bool) (st : BoxI) (p : PipeS) (frame : List Int) : Int × List Int × PipeS :=
  if p.spent (1 - p.side) = true then (7, [], p) else if frame.headD 0 ≠ 4 then (6, [], p) else
  let r := openX R sec ideal st (fid p.k (p.cnt (1 - p.side) / p.S : Nat) (1 - p.side : Nat)) (p.cnt (1 - p.side) % p.S : Nat) [] frame.tail
  if r.1 ≠ 0 ∨ r.2 = [] ∨ 60001 < r.2.length then (6, [], p) else
  if r.2.headD 0 = 1 then (0, r.2.tail, p.step (1 - p.side)) else if r.2.headD 0 = 2 ∧ r.2.length = 1 then (14, [], p.step (1 - p.side)) else (6, [], p.step (1 - p.side))
def popenF (R : RealF) (sec : List Int) (ideal : Bool) (st : BoxI) (p : PipeS) (frame : List Int) : Int × List Int × PipeS :=
  if p.closed = true then (14, [], p) else
  let r := ptakeF R sec ideal st p frame
  (r.1, r.2.1, r.2.2.shut (decide (r.1 ≠ 0)))
def pcloseF (R : RealF) (sec : List Int) (ideal : Bool) (st : BoxI) (p : PipeS) : Int × List Int × BoxI × PipeS :=
  let r := psealF R sec ideal st p 2 []
  (r.1, r.2.1, r.2.2.1, r.2.2.2.shut true)

theorem div_mod_inj {S i j : Nat} (_hS : 0 < S) (h1 : i / S = j / S) (h2 : i % S = j % S) : i = j := by
  rw [← Nat.div_add_mod i S, ← Nat.div_add_mod j S, h1, h2]
theorem step_same (p : PipeS) (s : Nat) : (p.step s).k = p.k ∧ (p.step s).side = p.side ∧ (p.step s).S = p.S ∧ (p.step s).E = p.E ∧ (p.step s).closed = p.closed := by
  unfold PipeS.step
  split <;> exact ⟨rfl, rfl, rfl, rfl, rfl⟩
theorem step_cnt (p : PipeS) (s t : Nat) (hs : s < 2) (ht : t < 2) : (p.step s).cnt t = if t = s then p.cnt t + 1 else p.cnt t := by
  unfold PipeS.step PipeS.cnt
  rcases (show s = 0 ∨ s = 1 by omega) with rfl | rfl <;> rcases (show t = 0 ∨ t = 1 by omega) with rfl | rfl <;> simp

/-- What both ends of a pipe by an ideal box have: F: the frames' insides that each sealed; T: their texts; O: what each opened. -/
structure Both (st : BoxI) (k : KeyS) (S E : Nat) (p : Nat → PipeS) (F T O : Nat → List (List Int)) : Prop where
  same : ∀ s, s < 2 → (p s).k = k ∧ (p s).side = s ∧ (p s).S = S ∧ (p s).E = E
  len : ∀ s, s < 2 → (F s).length = (p s).cnt s
  seals : ∀ x ∈ st.seals, ∃ s j, s < 2 ∧ 0 < S ∧ (F s)[j]? = some x.text ∧ x.id = fid k (j / S : Nat) (s : Nat) ∧ x.n = (j % S : Nat)
  texts : ∀ s, s < 2 → F s = (T s).map (1 :: ·) ∨ (F s = (T s).map (1 :: ·) ++ [[2]] ∧ (p s).closed = true)
  pre : ∀ s, s < 2 → O s = (T (1 - s)).take (O s).length ∧ (O s).length ≤ (T (1 - s)).length
  at_ : ∀ s, s < 2 → (p s).closed = false → (p s).cnt (1 - s) = (O s).length
def upd {α : Type} (f : Nat → α) (s : Nat) (x : α) : Nat → α := fun t => if t = s then x else f t
theorem upd_same {α : Type} (f : Nat → α) (s : Nat) (x : α) : upd f s x s = x := by simp [upd]
theorem upd_ne {α : Type} (f : Nat → α) {s t : Nat} (x : α) (h : t ≠ s) : upd f s x t = f t := by simp [upd, h]
section
variable {st : BoxI} {k : KeyS} {S E : Nat} {p : Nat → PipeS} {F T O : Nat → List (List Int)}
theorem Both.sealed (h : Both st k S E p F T O) {s : Nat} (hs : s < 2) (R : RealF) (sec : List Int) (kind : Int) (text : List Int) (hk : kind = 1 ∨ kind = 2 ∧ text = []) (cl : Bool) (hcl : kind = 2 → cl = true) (hop : cl = false → (p s).closed = false):
    ∃ F' T', Both (psealF R sec true st (p s) kind text).2.2.1 k S E (upd p s ((psealF R sec true st (p s) kind text).2.2.2.shut cl)) F' T' O ∧ T' = (if (psealF R sec true st (p s) kind text).1 = 0 ∧ kind = 1 then upd T s (T s ++ [text]) else T) := by
  obtain ⟨e1, e2, e3, e4⟩ := h.same s hs
  have hlen := h.len s hs
  have shutOnly : Both st k S E (upd p s ((p s).shut cl)) F T O := by
    refine ⟨fun t ht => ?_, fun t ht => ?_, h.seals, fun t ht => ?_, h.pre, fun t ht hc => ?_⟩
    · by_cases hts : t = s
      · subst hts; rw [upd_same]; exact h.same t ht
      · rw [upd_ne _ _ hts]; exact h.same t ht
    · by_cases hts : t = s
      · subst hts; rw [upd_same]; exact h.len t ht
      · rw [upd_ne _ _ hts]; exact h.len t ht
    · by_cases hts : t = s
      · subst hts; rw [upd_same]
        rcases h.texts t ht with h1 | ⟨h1, h2⟩
        · exact .inl h1
        · refine .inr ⟨h1, ?_⟩
          cases hc : cl with
          | true => rfl
          | false => have := hop hc; rw [this] at h2; cases h2
      · rw [upd_ne _ _ hts]; exact h.texts t ht
    · by_cases hts : t = s
      · subst hts; rw [upd_same] at hc ⊢
        have hc' : cl = false := hc
        exact h.at_ t ht (hop hc')
      · rw [upd_ne _ _ hts] at hc ⊢; exact h.at_ t ht hc
  unfold psealF
  by_cases h1 : (p s).closed = true
  · rw [if_pos h1]
    exact ⟨F, T, shutOnly, by simp⟩
  rw [if_neg h1]
  by_cases h2 : 60000 < text.length
  · rw [if_pos h2]
    exact ⟨F, T, shutOnly, by simp⟩
  rw [if_neg h2]
  by_cases h3 : (p s).spent (p s).side = true
  · rw [if_pos h3]
    exact ⟨F, T, shutOnly, by simp⟩
  rw [if_neg h3]
  simp only [sealX_ideal]
  rw [e1, e2, e3]
  have hS : 0 < S := by
    rw [e2] at h3
    unfold PipeS.spent at h3
    rw [e3] at h3
    simp at h3
    omega
  by_cases h4 : (sealS st (fid k ((p s).cnt s / S : Nat) s) ((p s).cnt s % S : Nat) [] (kind :: text)).1 ≠ 0
  · rw [if_pos h4]
    refine ⟨F, T, ?_, by rw [if_neg (fun hh => h4 hh.1)]⟩
    have hst : (sealS st (fid k ((p s).cnt s / S : Nat) s) ((p s).cnt s % S : Nat) [] (kind :: text)).2.2 = st := by
      unfold sealS at h4 ⊢
      split
      · rfl
      split
      · rfl
      · rename_i h5 h6; rw [if_neg h5, if_neg h6] at h4; exact absurd rfl h4
    simp only
    rw [hst]
    exact shutOnly
  rw [if_neg h4]
  have hseal : (sealS st (fid k ((p s).cnt s / S : Nat) s) ((p s).cnt s % S : Nat) [] (kind :: text)).2.2.seals = st.seals ++ [⟨fid k ((p s).cnt s / S : Nat) s, ((p s).cnt s % S : Nat), [], kind :: text⟩] := by
    unfold sealS at h4 ⊢
    split
    · rename_i h5; rw [if_pos h5] at h4; exact absurd (by simp) h4
    split
    · rename_i h5 h6; rw [if_neg h5, if_pos h6] at h4; exact absurd (by simp) h4
    · rfl
  have hstp := step_same (p s) s
  have hFs : F s = (T s).map (1 :: ·) := (h.texts s hs).resolve_right fun hh => h1 hh.2
  refine ⟨upd F s (F s ++ [kind :: text]), if kind = 1 then upd T s (T s ++ [text]) else T, ⟨fun t ht => ?_, fun t ht => ?_, fun x hx => ?_, fun t ht => ?_, fun t ht => ?_, fun t ht hc => ?_⟩, by simp⟩
  · by_cases hts : t = s
    · subst hts; rw [upd_same]
      exact ⟨hstp.1.trans e1, hstp.2.1.trans e2, hstp.2.2.1.trans e3, hstp.2.2.2.1.trans e4⟩
    · rw [upd_ne _ _ hts]; exact h.same t ht
  · by_cases hts : t = s
    · subst hts; rw [upd_same, upd_same]
      have : (((p t).step t).shut cl).cnt t = ((p t).step t).cnt t := rfl
      rw [this, step_cnt _ _ _ hs hs, if_pos rfl, List.length_append, hlen]
      rfl
    · rw [upd_ne _ _ hts, upd_ne _ _ hts]; exact h.len t ht
  · simp only at hx
    rw [hseal] at hx
    rcases List.mem_append.1 hx with hx | hx
    · obtain ⟨s', j, q1, q2, q3, q4, q5⟩ := h.seals x hx
      refine ⟨s', j, q1, q2, ?_, q4, q5⟩
      by_cases hss : s' = s
      · subst hss; rw [upd_same, List.getElem?_append_left (List.getElem?_eq_some_iff.1 q3).1]; exact q3
      · rw [upd_ne _ _ hss]; exact q3
    · obtain rfl := List.mem_singleton.1 hx
      refine ⟨s, (p s).cnt s, hs, hS, ?_, rfl, rfl⟩
      rw [upd_same, ← hlen]
      simp
  · by_cases hts : t = s
    · subst hts
      rw [upd_same, upd_same]
      rcases hk with rfl | ⟨rfl, rfl⟩
      · left
        rw [if_pos rfl, upd_same, hFs]
        simp
      · right
        rw [if_neg (by decide), hFs]
        exact ⟨rfl, hcl rfl⟩
    · rw [upd_ne _ _ hts, upd_ne _ _ hts]
      have : (if kind = 1 then upd T s (T s ++ [text]) else T) t = T t := by
        split
        · rw [upd_ne _ _ hts]
        · rfl
      rw [this]
      exact h.texts t ht
  · by_cases hts : 1 - t = s
    · subst hts
      have hp := h.pre t ht
      by_cases hk1 : kind = 1
      · rw [if_pos hk1, upd_same]
        refine ⟨?_, by rw [List.length_append]; omega⟩
        rw [List.take_append_of_le_length hp.2]
        exact hp.1
      · rw [if_neg hk1]; exact hp
    · have : (if kind = 1 then upd T s (T s ++ [text]) else T) (1 - t) = T (1 - t) := by
        split
        · rw [upd_ne _ _ hts]
        · rfl
      rw [this]
      exact h.pre t ht
  · by_cases hts : t = s
    · subst hts
      rw [upd_same] at hc ⊢
      have : (((p t).step t).shut cl).cnt (1 - t) = ((p t).step t).cnt (1 - t) := rfl
      rw [this, step_cnt _ _ _ hs (by omega), if_neg (by omega)]
      exact h.at_ t ht (by simpa using h1)
    · rw [upd_ne _ _ hts] at hc ⊢; exact h.at_ t ht hc
theorem Both.opened (h : Both st k S E p F T O) {s : Nat} (hs : s < 2) (R : RealF) (sec : List Int) (frame : List Int) (hB : IsB frame) :
    Both st k S E (upd p s (popenF R sec true st (p s) frame).2.2) F T (if (popenF R sec true st (p s) frame).1 = 0 then upd O s (O s ++ [(popenF R sec true st (p s) frame).2.1]) else O) := by
  obtain ⟨e1, e2, e3, e4⟩ := h.same s hs
  -- an end that is closed, whatever its counts of the other side
  have down : ∀ q : PipeS, q.k = (p s).k → q.side = (p s).side → q.S = (p s).S → q.E = (p s).E → q.cnt s = (p s).cnt s → q.closed = true → Both st k S E (upd p s q) F T O := by
    intro q a1 a2 a3 a4 a5 a6
    refine ⟨fun t ht => ?_, fun t ht => ?_, h.seals, fun t ht => ?_, h.pre, fun t ht hc => ?_⟩
    · by_cases hts : t = s
      · subst hts; rw [upd_same]; exact ⟨a1.trans e1, a2.trans e2, a3.trans e3, a4.trans e4⟩
      · rw [upd_ne _ _ hts]; exact h.same t ht
    · by_cases hts : t = s
      · subst hts; rw [upd_same, a5]; exact h.len t ht
      · rw [upd_ne _ _ hts]; exact h.len t ht
    · by_cases hts : t = s
      · subst hts; rw [upd_same]; exact (h.texts t ht).imp id fun hh => ⟨hh.1, a6⟩
      · rw [upd_ne _ _ hts]; exact h.texts t ht
    · by_cases hts : t = s
      · subst hts; rw [upd_same, a6] at hc; cases hc
      · rw [upd_ne _ _ hts] at hc ⊢; exact h.at_ t ht hc
  have hstp := step_same (p s) (1 - s)
  have hsc : ∀ c, (((p s).step (1 - s)).shut c).cnt s = (p s).cnt s := fun c => by
    have : (((p s).step (1 - s)).shut c).cnt s = ((p s).step (1 - s)).cnt s := rfl
    rw [this, step_cnt _ _ _ (by omega) hs, if_neg (by omega)]
  unfold popenF
  by_cases h1 : (p s).closed = true
  · rw [if_pos h1, if_neg (by simp)]
    exact down (p s) rfl rfl rfl rfl rfl h1
  rw [if_neg h1]
  have h1' : (p s).closed = false := by simpa using h1
  simp only
  unfold ptakeF
  rw [e2]
  by_cases h2 : (p s).spent (1 - s) = true
  · rw [if_pos h2, if_neg (by simp)]
    exact down _ rfl rfl rfl rfl rfl (by simp [PipeS.shut])
  rw [if_neg h2]
  have hS : 0 < S := by
    unfold PipeS.spent at h2
    rw [e3] at h2
    simp at h2
    omega
  by_cases h3 : frame.headD 0 ≠ 4
  · rw [if_pos h3, if_neg (by simp)]
    exact down _ rfl rfl rfl rfl rfl (by simp [PipeS.shut])
  rw [if_neg h3]
  simp only [openX_ideal]
  rw [e1, e3]
  have hBt : IsB frame.tail := fun z hz => hB z (List.mem_of_mem_tail hz)
  obtain ⟨r, hr⟩ : ∃ r, openS st (fid k ((p s).cnt (1 - s) / S : Nat) (1 - s : Nat)) ((p s).cnt (1 - s) % S : Nat) [] frame.tail = r := ⟨_, rfl⟩
  rw [hr]
  by_cases h4 : r.1 ≠ 0 ∨ r.2 = [] ∨ 60001 < r.2.length
  · rw [if_pos h4, if_neg (by simp)]
    exact down _ rfl rfl rfl rfl rfl (by simp [PipeS.shut])
  rw [if_neg h4]
  have hr0 : r.1 = 0 := by
    by_cases hz : r.1 = 0
    · exact hz
    · exact absurd (.inl hz) h4
  obtain ⟨i, x, hx, hxi, hxn, _, hxt, _⟩ := open_some hBt (by rw [hr]; exact hr0)
  rw [hr] at hxt
  obtain ⟨s', j, q1, q2, q3, q4, q5⟩ := h.seals x (List.mem_of_getElem? hx)
  rw [hxi] at q4
  rw [hxn] at q5
  have q6 : ((p s).cnt (1 - s) / S : Nat) = (j / S : Nat) ∧ (1 - s : Nat) = s' := by
    unfold fid at q4
    injection q4 with _ b1 _ _ b2 _
    exact ⟨by exact_mod_cast b1, by exact_mod_cast b2⟩
  obtain ⟨q6, rfl⟩ := q6
  have q7 : (p s).cnt (1 - s) = j := div_mod_inj hS q6 (by exact_mod_cast q5)
  subst q7
  rw [h.at_ s hs h1'] at q3
  by_cases h5 : r.2.headD 0 = 1
  · rw [if_pos h5]
    simp only
    rw [if_pos trivial]
    have hcons : r.2 = 1 :: r.2.tail := by
      cases hq : r.2 with
      | nil => exact absurd (.inr (.inl hq)) h4
      | cons a l => rw [hq] at h5; simp at h5; rw [h5]; rfl
    have hT : (T (1 - s))[(O s).length]? = some r.2.tail := by
      rw [← hxt, hcons] at q3
      rcases h.texts (1 - s) (by omega) with ht | ⟨ht, _⟩
      · rw [ht, List.getElem?_map] at q3
        obtain ⟨t, ht1, ht2⟩ := Option.map_eq_some_iff.1 q3
        rw [ht1]
        injection ht2 with _ ht2
        rw [ht2]
      · rw [ht, List.getElem?_append] at q3
        split at q3
        · rw [List.getElem?_map] at q3
          obtain ⟨t, ht1, ht2⟩ := Option.map_eq_some_iff.1 q3
          rw [ht1]
          injection ht2 with _ ht2
          rw [ht2]
        · exfalso
          have := List.mem_of_getElem? q3
          simp at this
    have hTl := (List.getElem?_eq_some_iff.1 hT).1
    refine ⟨fun t ht => ?_, fun t ht => ?_, h.seals, fun t ht => ?_, fun t ht => ?_, fun t ht hc => ?_⟩
    · by_cases hts : t = s
      · subst hts; rw [upd_same]; exact ⟨hstp.1.trans e1, hstp.2.1.trans e2, hstp.2.2.1.trans e3, hstp.2.2.2.1.trans e4⟩
      · rw [upd_ne _ _ hts]; exact h.same t ht
    · by_cases hts : t = s
      · subst hts; rw [upd_same, hsc]; exact h.len t ht
      · rw [upd_ne _ _ hts]; exact h.len t ht
    · by_cases hts : t = s
      · subst hts; rw [upd_same]
        rcases h.texts t ht with ht' | ⟨_, ht'⟩
        · exact .inl ht'
        · exact absurd ht' h1
      · rw [upd_ne _ _ hts]; exact h.texts t ht
    · by_cases hts : t = s
      · subst hts; rw [upd_same]
        have hp := h.pre t ht
        refine ⟨?_, by rw [List.length_append]; exact hTl⟩
        rw [List.length_append, List.length_singleton, List.take_add_one, hT, ← hp.1]
        rfl
      · rw [upd_ne _ _ hts]; exact h.pre t ht
    · by_cases hts : t = s
      · subst hts; rw [upd_same, upd_same]
        have : (((p t).step (1 - t)).shut (decide ((0 : Int) ≠ 0))).cnt (1 - t) = ((p t).step (1 - t)).cnt (1 - t) := rfl
        rw [this, step_cnt _ _ _ (by omega) (by omega), if_pos rfl, h.at_ t ht h1', List.length_append]
        rfl
      · rw [upd_ne _ _ hts] at hc ⊢; rw [upd_ne _ _ hts]; exact h.at_ t ht hc
  · rw [if_neg h5]
    split
    · simp only
      rw [if_neg (by decide)]
      exact down _ hstp.1 hstp.2.1 hstp.2.2.1 hstp.2.2.2.1 (hsc _) (by simp [PipeS.shut])
    · simp only
      rw [if_neg (by decide)]
      exact down _ hstp.1 hstp.2.1 hstp.2.2.1 hstp.2.2.2.1 (hsc _) (by simp [PipeS.shut])
end
end Go.Proofs.YtdgpchacfdlleaaDoor
end

section
/-
  What a call may have turned.
-/
namespace Go.Proofs.YtdgpchacfdlleaaDoor
open Go.RowKit

theorem Only.refl (b : Nat) (w : World) : Only b w w := ⟨rfl, rfl, rfl, rfl, fun _ _ => rfl⟩
theorem Only.trans {b : Nat} {w w' w2 : World} (h : Only b w w') (k : Only b w' w2) : Only b w w2 :=
  ⟨k.os.trans h.os, k.tape.trans h.tape, k.output.trans h.output, k.size.trans h.size, fun j hj => (k.block j hj).trans (h.block j hj)⟩

/-- Blocks of S alone may have turned. -/
structure Turns (S : Nat → Prop) (w w' : World) : Prop where
  os : w'.os = w.os
  tape : w'.tape = w.tape
  output : w'.output = w.output
  size : w.heap.size ≤ w'.heap.size
  block : ∀ k, k < w.heap.size → ¬ S k → w'.heap[k]? = w.heap[k]?
theorem Turns.refl (S : Nat → Prop) (w : World) : Turns S w w := ⟨rfl, rfl, rfl, Nat.le_refl _, fun _ _ _ => rfl⟩
theorem Turns.of_below {S : Nat → Prop} {w w' : World} (h : Below w.heap.size w w') : Turns S w w' := ⟨h.os, h.tape, h.output, h.size, fun k hk _ => h.block k hk⟩
theorem Turns.of_only {S : Nat → Prop} {b : Nat} {w w' : World} (h : Only b w w') (hb : S b) : Turns S w w' := ⟨h.os, h.tape, h.output, Nat.le_of_eq h.size.symm, fun k _ hs => h.block k fun e => hs (e ▸ hb)⟩
theorem Turns.trans {S : Nat → Prop} {w w' w2 : World} (h : Turns S w w') (k : Turns S w' w2) : Turns S w w2 :=
  ⟨k.os.trans h.os, k.tape.trans h.tape, k.output.trans h.output, Nat.le_trans h.size k.size, fun j hj hs => (k.block j (Nat.lt_of_lt_of_le hj h.size) hs).trans (h.block j hj hs)⟩
theorem Turns.mono {S S' : Nat → Prop} {w w' : World} (h : Turns S w w') (hs : ∀ k, S k → S' k) : Turns S' w w' := ⟨h.os, h.tape, h.output, h.size, fun j hj hn => h.block j hj fun k => hn (hs j k)⟩
theorem Turns.set {S : Nat → Prop} (w : World) (b i : Nat) (v : Value) (hb : S b) : Turns S w (w.setCell ⟨b, i, none⟩ v) := Turns.of_only (Only.set w b i v) hb
theorem Turns.al {S : Nat → Prop} {w w' : World} (h : Turns S w w') (o : Obj) : Turns S w (w'.alloc o) := h.trans (Turns.of_below (bw_al (Below.refl _ _) (Nat.le_refl _) _))
theorem Turns.d1 {S : Nat → Prop} {w w' : World} (h : Turns S w w') : Turns S w w'.drew := ⟨h.os, h.tape, h.output, h.size, h.block⟩
theorem Turns.dN {S : Nat → Prop} {w w' : World} (h : Turns S w w') (n : Nat) : Turns S w (w'.drewN n) := ⟨h.os, h.tape, h.output, h.size, h.block⟩
theorem Turns.below {S : Nat → Prop} {B : Nat} {w0 w w' : World} (h : Below B w0 w) (k : Turns S w w') (hB : B ≤ w.heap.size) (hs : ∀ j, S j → B ≤ j) : Below B w0 w' :=
  h.trans ⟨k.os, k.tape, k.output, k.size, fun j hj => k.block j (Nat.lt_of_lt_of_le hj hB) fun hS => by have := hs j hS; omega⟩
theorem Blk.turns {S : Nat → Prop} {w w' : World} {c : Nat} {cs : List Value} {t : TypeId} (h : Blk w c cs t) (k : Turns S w w') (hn : ¬ S c) : Blk w' c cs t := (k.block c h.lt hn).trans h

theorem Turns.cell {S : Nat → Prop} {w w' : World} (h : Turns S w w') {a : Addr} (hn : ¬ S a.block) {v : Value} (hc : w.cell? a = some v) : w'.cell? a = some v :=
  (World.cell?_of_block (w := w) (h.block a.block (World.block_lt_of_cell? w a hc) hn)).trans hc

theorem bw_next {w1 W W' : World} (h : Below w1.heap.size w1 W) (k : Below W.heap.size W W') : Below w1.heap.size w1 W' := bw_then h k h.size
end Go.Proofs.YtdgpchacfdlleaaDoor
end

section
/-
  append in a drawn region; rows of the call's own in later worlds.
-/
namespace Go.Proofs.YtdgpchacfdlleaaDoor
open Go.RowKit Go.ChangeShapes Go.WideShapes Go.ChangeAt

/-- append onto a row of the call's own, whatever is appended: as it runs. -/
theorem run_app {P : Program} {w : World} (t ty e : TypeId) (z : Value) (bytes : Nat) (ht : P.underlying t = some (.slice e))
    (hinfo : (P.info? e).map (fun i => (i.zero, i.size, i.bytes)) = some (some z, 1, bytes)) (hzs : z.cells.size = 1) (base : Nat) {v u : Value} {n : Nat} {xs ys : List Value} (hown : w.ownsRow base e 1 v n xs)
    (hr : Rd w u ys) (h1 : ∀ y ∈ ys, y.oneCell' = true) (hb1 : 1 ≤ bytes) (hbytes : (n + ys.length) * bytes ≤ 140737488355328) (hbase : base ≤ w.heap.size) :
    ∃ v' w', (Builtin.append_ #[t, t] ty #[v, u]).run P w = .ok v' w' ∧ w'.ownsRow base e 1 v' (n + ys.length) (xs ++ ys) ∧ Below base w w' := by
  obtain ⟨i, hi, hz0, hz1, hz2⟩ := info_parts hinfo
  have h63 : n + ys.length ≤ maxLen := by
    have h2 : n + ys.length ≤ (n + ys.length) * bytes := Nat.le_mul_of_pos_right _ hb1
    unfold maxLen; omega
  obtain ⟨A, c, rfl, hc1, hc2, h0, h3⟩ := hr
  cases A with
  | none =>
    obtain rfl : c = 0 := h0 rfl
    obtain rfl : ys = [] := List.eq_nil_of_length_eq_zero (by omega)
    exact ⟨v, w, run_append_owned_none (P := P) (w := w) base t ty e i 1 ht hi v n xs hown, by simpa using hown, Below.refl _ _⟩
  | some ad =>
    obtain ⟨v', w', h4, h5, h6, _⟩ := run_append_own w base t ty e i z 1 bytes ht hi hz0 hz1 hz2 hzs (by decide) v n xs hown ad ys.length c ys (by simp) (by
      intro j y hj
      rcases h3 with rfl | ⟨b, o', hA, h3⟩
      · simp at hj
      · obtain rfl : ad = ⟨b, o', none⟩ := by simpa using hA
        obtain ⟨hlt, rfl⟩ := List.getElem?_eq_some_iff.1 hj
        rw [← h3 j hlt]
        congr 1
        unfold Addr.add; split <;> simp_all) h1 h63 hbytes hbase
    exact ⟨v', w', h4, h5, (Below.refl base w).grown h6 hbase (fun k hk => (hown.lt k hk).1)⟩
theorem upon_app {P : Program} {o : Oper} {ρ : Operand → Value} {a : Act} {w : World} {K : Act → World → Prop} {Q : Exit → Act → World → Prop} (s x : Operand) (t : TypeId)
    (ho : o.op = .call { callee := .builtin .append, args := #[s, x], argTypes := #[t, t] }) (e : TypeId) (z : Value) (bytes : Nat) (ht : P.underlying t = some (.slice e))
    (hinfo : (P.info? e).map (fun i => (i.zero, i.size, i.bytes)) = some (some z, 1, bytes)) (hzs : z.cells.size = 1) (base : Nat) {v u : Value} {n : Nat} {xs ys : List Value} (hs : ρ s = v) (hown : w.ownsRow base e 1 v n xs)
    (hx : ρ x = u) (hr : Rd w u ys) (h1 : ∀ y ∈ ys, y.oneCell' = true) (hb1 : 1 ≤ bytes) (hbytes : (n + ys.length) * bytes ≤ 140737488355328) (hbase : base ≤ w.heap.size)
    (h : ∀ v' w', w'.ownsRow base e 1 v' (n + ys.length) (xs ++ ys) → Below base w w' → K (a.put o.dst v') w') : o.upon P a K Q ((execOp ρ o).run P w) := by
  obtain ⟨v', w', h4, h5, h6⟩ := run_app (P := P) t o.type e z bytes ht hinfo hzs base hown hr h1 hb1 hbytes hbase
  simp [execOp, ho, resolve, invoke, builtin, hs, hx, h4, Result.andThen]
  exact h _ _ h5 h6
theorem ownsRow_mono {w : World} {base b : Nat} {e : TypeId} {size : Nat} {v : Value} {n : Nat} {xs : List Value} (h : w.ownsRow base e size v n xs) (hb : b ≤ base) : w.ownsRow b e size v n xs :=
  ⟨h.1, h.2.imp id fun ⟨g, cap, cur, h1, h2, h3⟩ => ⟨g, cap, cur, h1, Nat.le_trans hb h2, h3⟩⟩
theorem ownsRow_keep {w w' : World} {base B : Nat} {e : TypeId} {size : Nat} {v : Value} {n : Nat} {xs : List Value} (h : w.ownsRow base e size v n xs) (hb : Below B w w') (hB : w.heap.size ≤ B) : w'.ownsRow base e size v n xs := by
  refine ⟨h.1, h.2.imp id ?_⟩
  rintro ⟨g, cap, cur, h1, h2, h3, h4⟩
  exact ⟨g, cap, cur, h1, h2, (hb.block g (by have := (Array.getElem?_eq_some_iff.1 h3).1; omega)).trans h3, h4⟩

end Go.Proofs.YtdgpchacfdlleaaDoor
end

section
/-
  A part of a block that is read whole: an array or struct inside a struct.
-/
namespace Go.Proofs.YtdgpchacfdlleaaDoor
open Go.RowKit

theorem run_loadVar_sub {P : Program} (w : World) (ty : TypeId) {g off : Nat} {ys : List Value} {d : TypeDesc} (hc : ∀ j v, ys[j]? = some v → w.cell? ⟨g, off + j, none⟩ = some v)
    (hu : P.underlying ty = some d) (hd : (match d with | .struct _ | .array _ _ => true | _ => false) = true) {n : Nat} (hi : (P.info? ty).map (·.size) = some n) (hn : ys.length = n) :
    (loadVar ty ⟨g, off, none⟩).run P w = .ok (.agg ys.toArray) w := by
  have hl : (loadCells ⟨g, off, none⟩ ys.length).run P w = .ok ys.toArray w :=
    run_loadCells_list (P := P) w ⟨g, off, none⟩ ys (fun j v hv => by
      have hadd : (⟨g, off, none⟩ : Addr).add j = ⟨g, off + j, none⟩ := by unfold Addr.add; split <;> simp_all
      rw [hadd]
      exact hc j v hv)
  cases hq : P.info? ty with
  | none => simp [hq] at hi
  | some i =>
    have hs : i.size = n := by simpa [hq] using hi
    have hagg : (isAgg ty).run P w = .ok true w := by
      unfold isAgg
      rw [Sem.run_bind, run_underlying hu w]
      cases d <;> simp_all
    rw [hn] at hl
    simp [loadVar, Sem.run_bind, hagg, sizeOf, typeInfo, hq, hs, hl]
theorem exec_load_sub {P : Program} {w : World} {o : Oper} {ρ : Operand → Value} (ty : TypeId) (x : Operand) (ho : o.op = .load ty x) {g off : Nat} (hx : ρ x = .pointer (some ⟨g, off, none⟩))
    {ys : List Value} {d : TypeDesc} (hc : ∀ j v, ys[j]? = some v → w.cell? ⟨g, off + j, none⟩ = some v) (hu : P.underlying ty = some d)
    (hd : (match d with | .struct _ | .array _ _ => true | _ => false) = true) {n : Nat} (hi : (P.info? ty).map (·.size) = some n) (hn : ys.length = n) :
    (execOp ρ o).run P w = .ok (.value (.agg ys.toArray)) w := by
  unfold execOp
  simp only [ho, hx, Instr.loadAt, Instr.sureAddr, Sem.run_bind, Sem.run_pure, Result.andThen_ok, run_loadVar_sub w ty hc hu hd hi hn]
theorem wp_load_sub {P : Program} {ops : Array Oper} {rest : List Oper} {o : Oper} {a : Act} {w : World} {Q : Exit → Act → World → Prop} (hgd : o.guard = none) (ty : TypeId) (x : Operand) (ho : o.op = .load ty x)
    {g off : Nat} (hx : a.eval x = .pointer (some ⟨g, off, none⟩)) {ys : List Value} {d : TypeDesc} (hc : ∀ j v, ys[j]? = some v → w.cell? ⟨g, off + j, none⟩ = some v)
    (hu : P.underlying ty = some d) (hd : (match d with | .struct _ | .array _ _ => true | _ => false) = true) {n : Nat} (hi : (P.info? ty).map (·.size) = some n) (hn : ys.length = n)
    (h : wpList P ops Q rest (a.put o.dst (.agg ys.toArray)) w) : wpList P ops Q (o :: rest) a w :=
  wpList_plain hgd fun K hK => by
    unfold Oper.wp
    rw [exec_load_sub ty x ho hx hc hu hd hi hn]
    exact hK _ _ h
/-- What a stretch of a block reads as. -/
theorem Blk.part {w : World} {b : Nat} {cs : List Value} {t : TypeId} (h : Blk w b cs t) (off : Nat) {ys : List Value} (hy : (cs.drop off).take ys.length = ys) : ∀ j v, ys[j]? = some v → w.cell? ⟨b, off + j, none⟩ = some v := by
  intro j v hj
  rw [h.get, ← hj]
  have hlt := (List.getElem?_eq_some_iff.1 hj).1
  conv => rhs; rw [← hy]
  rw [List.getElem?_take_of_lt hlt, List.getElem?_drop]
end Go.Proofs.YtdgpchacfdlleaaDoor
end

section
/-
  A region whose order Go leaves open: what holds of the operations that have come up, whatever the order. Plain Lean, no program in sight.
-/
namespace Go.Proofs.YtdgpchacfdlleaaDoor
open Go

/-- An operation that hangs on none but such as stand ahead of it in the text. -/
def lowB (ops : Array Oper) : Bool := (List.range ops.size).all fun i => match ops[i]? with
  | some o => o.after.toList.all fun e => !Region.binds .any e || decide (e.on < i)
  | none => true

/-- What holds of those that have come up, whatever the order. -/
structure Came (ops : Array Oper) (l : Nat → Bool) : Prop where
  shut : ∀ j o, ops[j]? = some o → l j = true → ∀ e ∈ o.after, Region.binds .any e = true → l e.on = true

theorem inv_any {P : Program} {ops : Array Oper} {Q : Exit → Act → World → Prop} (hlow : lowB ops = true) (Inv : (Nat → Bool) → Act → World → Prop)
    (hstep : ∀ (l : Nat → Bool) (a : Act) (w : World) (i : Nat) (o : Oper), ops[i]? = some o → l i = false → (∀ e ∈ o.after, Region.binds .any e = true → l e.on = true) → Came ops l →
      Inv l a w → wpOp P ops Q i (fun a' w' => Inv (fun j => l j || j == i) a' w') a w)
    (hend : ∀ (l : Nat → Bool) (a : Act) (w : World), (∀ i, i < ops.size → l i = true) → Inv l a w → Q .normal a w) :
    ∀ (fuel : Nat) (listed : Array Bool) (a : Act) (w : World), listed.size = ops.size → Came ops (fun j => listed.getD j false) →
      ((List.range ops.size).filter fun i => !listed.getD i false).length ≤ fuel → Inv (fun j => listed.getD j false) a w → wpAny P .any ops Q fuel listed a w := by
  have hready : ∀ listed : Array Bool, listed.size = ops.size → Region.ready .any ops listed = [] → ∀ i, i < ops.size → listed.getD i false = true := by
    intro listed hsz hr i
    induction i using Nat.strongRecOn with
    | ind i ih =>
      intro hi
      cases hl : listed.getD i false with
      | true => rfl
      | false =>
        exfalso
        have hmem : i ∈ Region.ready .any ops listed := by
          refine mem_ready.2 ⟨?_, ops[i], Array.getElem?_eq_getElem hi, ?_⟩
          · simp only [Array.getD_eq_getD_getElem?] at hl ⊢
            rw [Array.getElem?_eq_getElem (by omega)] at hl ⊢
            simpa using hl
          · intro e he hb
            have h1 := List.all_eq_true.1 hlow i (List.mem_range.2 hi)
            rw [Array.getElem?_eq_getElem hi] at h1
            have h2 := List.all_eq_true.1 h1 e (by simpa using he)
            rw [hb] at h2
            have h3 : e.on < i := by simpa using h2
            exact ih e.on h3 (by omega)
        rw [hr] at hmem
        cases hmem
  intro fuel
  induction fuel with
  | zero =>
    intro listed a w hsz hc hf hi
    have hall : ∀ i, i < ops.size → listed.getD i false = true := by
      intro i hi'
      cases hl : listed.getD i false with
      | true => rfl
      | false =>
        exfalso
        have : i ∈ (List.range ops.size).filter fun i => !listed.getD i false := by simp only [List.mem_filter, List.mem_range]; exact ⟨hi', by rw [hl]; rfl⟩
        have := List.length_pos_of_mem this
        omega
    refine ⟨?_, hend _ a w hall hi⟩
    cases hr : Region.ready .any ops listed with
    | nil => rfl
    | cons x xs =>
      have hx : x ∈ Region.ready .any ops listed := by rw [hr]; simp
      obtain ⟨h1, o, ho, _⟩ := mem_ready.1 hx
      have hxs : x < ops.size := (Array.getElem?_eq_some_iff.1 ho).1
      have h2 := hall x hxs
      simp only [Array.getD_eq_getD_getElem?] at h1 h2
      rw [Array.getElem?_eq_getElem (by omega)] at h1 h2
      simp at h1 h2
      rw [h1] at h2; cases h2
  | succ fuel ih =>
    intro listed a w hsz hc hf hi
    refine ⟨fun hr => hend _ a w (hready listed hsz hr) hi, fun i hmem => ?_⟩
    obtain ⟨h1, o, ho, hall⟩ := mem_ready.1 hmem
    have his : i < ops.size := (Array.getElem?_eq_some_iff.1 ho).1
    have hli : listed.getD i false = false := by
      simp only [Array.getD_eq_getD_getElem?] at h1 ⊢
      rw [Array.getElem?_eq_getElem (by omega)] at h1 ⊢
      simpa using h1
    have hnew : (fun j => (listed.setIfInBounds i true).getD j false) = (fun j => listed.getD j false || j == i) := by
      funext j
      by_cases hji : j = i
      · subst hji
        simp [Array.getD_eq_getD_getElem?, hsz, his]
      · simp [Array.getD_eq_getD_getElem?, Ne.symm hji, hji]
    refine wpOp_mono (fun a' w' h => ih (listed.setIfInBounds i true) a' w' (by simpa using hsz) ?_ ?_ ?_) (hstep _ a w i o ho hli hall hc hi)
    · rw [hnew]
      refine ⟨fun j oj hj hl e he hb => ?_⟩
      simp only [Bool.or_eq_true, beq_iff_eq] at hl ⊢
      rcases hl with hl | rfl
      · exact .inl (hc.shut j oj hj hl e he hb)
      · rw [ho] at hj; cases hj
        exact .inl (hall e he hb)
    · have : ((List.range ops.size).filter fun j => !(listed.setIfInBounds i true).getD j false).length < ((List.range ops.size).filter fun j => !listed.getD j false).length := by
        have h3 : ((List.range ops.size).filter fun j => !(listed.setIfInBounds i true).getD j false) = ((List.range ops.size).filter fun j => !listed.getD j false).filter (fun j => !(j == i)) := by
          rw [List.filter_filter]
          apply List.filter_congr
          intro j _
          have hj : (listed.setIfInBounds i true).getD j false = (listed.getD j false || j == i) := congrFun hnew j
          rw [hj]
          cases listed.getD j false <;> cases (j == i) <;> rfl
        rw [h3]
        refine List.length_filter_lt_length_iff_exists.2 ⟨i, ?_, by simp⟩
        simp only [List.mem_filter, List.mem_range]
        exact ⟨his, by rw [hli]; rfl⟩
      omega
    · rw [hnew]; exact h

/-- A region that draws its order, by what holds of those that have come up. -/
theorem region_inv {P : Program} {ops : Array Oper} {Q : Exit → Act → World → Prop} {id : Nat} {a : Act} {w : World} (hm : P.follows .mixedOrders = true) (hlow : lowB ops = true) (Inv : (Nat → Bool) → Act → World → Prop)
    (h0 : Inv (fun _ => false) a w.drew)
    (hstep : ∀ (l : Nat → Bool) (a : Act) (w : World) (i : Nat) (o : Oper), ops[i]? = some o → l i = false → (∀ e ∈ o.after, Region.binds .any e = true → l e.on = true) → Came ops l →
      Inv l a w → wpOp P ops Q i (fun a' w' => Inv (fun j => l j || j == i) a' w') a w)
    (hend : ∀ (l : Nat → Bool) (a : Act) (w : World), (∀ i, i < ops.size → l i = true) → Inv l a w → Q .normal a w) : (Code.region id ops true).wp P Q a w := by
  refine wp_region_any hm (inv_any hlow Inv hstep hend ops.size _ a _ (by simp) ⟨fun j o _ hl => ?_⟩ ?_ ?_)
  · exfalso
    have : (Array.replicate ops.size false).getD j false = false := by
      simp only [Array.getD_eq_getD_getElem?, Array.getElem?_replicate]
      split <;> rfl
    have hl' : (Array.replicate ops.size false).getD j false = true := hl
    rw [this] at hl'
    cases hl'
  · exact Nat.le_trans (List.length_filter_le _ _) (by simp)
  · have : (fun j => (Array.replicate ops.size false).getD j false) = fun _ => false := by
      funext j
      simp only [Array.getD_eq_getD_getElem?, Array.getElem?_replicate]
      split <;> rfl
    rw [this]; exact h0

/-! ### The same, where each operation's value is known ahead, but for those of a few -/
/-- The slots that are written ahead: each by one operation. -/
def fillP (a : Act) (puts : List (Nat × Value)) : Act := puts.foldl (fun a p => a.put (some p.1) p.2) a
def fillT (a : Act) (gs : List Nat) (T : Nat → Value) : Act := gs.foldl (fun a t => a.put (some t) (T t)) a

theorem put_size (a : Act) (d : Option Tmp) (v : Value) : (a.put d v).tmps.size = a.tmps.size := by cases d <;> simp [Act.put]
theorem put_defers (a : Act) (d : Option Tmp) (v : Value) : (a.put d v).defers = a.defers := by cases d <;> rfl
theorem put_get_ne (a : Act) (d t : Nat) (v : Value) (h : d ≠ t) : (a.put (some d) v).tmps[t]? = a.tmps[t]? := by simp [Act.put, Array.getElem?_setIfInBounds_ne h]
theorem put_get_same (a : Act) (d : Nat) (v : Value) (h : d < a.tmps.size) : (a.put (some d) v).tmps[d]? = some v := by simp [Act.put, h]

theorem fillP_size (puts : List (Nat × Value)) : ∀ a : Act, (fillP a puts).tmps.size = a.tmps.size := by
  induction puts with
  | nil => intro a; rfl
  | cons p ps ih => intro a; simp only [fillP, List.foldl_cons] at ih ⊢; rw [ih, put_size]
theorem fillP_defers (puts : List (Nat × Value)) : ∀ a : Act, (fillP a puts).defers = a.defers := by
  induction puts with
  | nil => intro a; rfl
  | cons p ps ih => intro a; simp only [fillP, List.foldl_cons] at ih ⊢; rw [ih, put_defers]
theorem fillP_other (puts : List (Nat × Value)) (t : Nat) : ∀ a : Act, t ∉ puts.map (·.1) → (fillP a puts).tmps[t]? = a.tmps[t]? := by
  induction puts with
  | nil => intro a _; rfl
  | cons p ps ih =>
    intro a h
    simp only [List.map_cons, List.mem_cons, not_or] at h
    have := ih (a.put (some p.1) p.2) h.2
    simp only [fillP, List.foldl_cons] at this ⊢
    rw [this, put_get_ne _ _ _ _ (Ne.symm h.1)]
theorem fillP_in (puts : List (Nat × Value)) (d : Nat) (v : Value) : ∀ a : Act, (puts.map (·.1)).Nodup → (d, v) ∈ puts → d < a.tmps.size → (fillP a puts).tmps[d]? = some v := by
  induction puts with
  | nil => intro a _ h; cases h
  | cons p ps ih =>
    intro a hn hm hd
    simp only [List.map_cons, List.nodup_cons] at hn
    simp only [fillP, List.foldl_cons]
    rcases List.mem_cons.1 hm with rfl | hm
    · have := fillP_other ps d (a.put (some d) v) hn.1
      simp only [fillP] at this
      rw [this, put_get_same _ _ _ hd]
    · exact ih (a.put (some p.1) p.2) hn.2 hm (by rw [put_size]; exact hd)
theorem fillT_eq (gs : List Nat) (T : Nat → Value) : ∀ a : Act, fillT a gs T = fillP a (gs.map fun t => (t, T t)) := by
  induction gs with
  | nil => intro a; rfl
  | cons g gs ih => intro a; simp only [fillT, fillP, List.foldl_cons, List.map_cons] at ih ⊢; exact ih _

theorem act_ext {a b : Act} (h1 : a.defers = b.defers) (h2 : a.tmps.size = b.tmps.size) (h3 : ∀ t, t < a.tmps.size → a.tmps[t]? = b.tmps[t]?) : a = b := by
  cases a with
  | mk t1 d1 =>
    cases b with
    | mk t2 d2 =>
      simp only at h1 h2 h3
      subst h1
      congr 1
      apply Array.ext_getElem?
      intro i
      by_cases hi : i < t1.size
      · exact h3 i hi
      · rw [Array.getElem?_eq_none (by omega), Array.getElem?_eq_none (by omega)]

/-- Every slot that is written is written by one operation alone; what an operation looks at was written ahead of it, or by none. -/
def flowB (ops : Array Oper) (ps gs : List Nat) (olds : Nat → List Nat) (N : Nat) : Bool :=
  let n := ops.size
  let dst (j : Nat) : Option Nat := (ops[j]?).bind (·.dst)
  let waits (o : Oper) (j : Nat) : Bool := o.after.toList.any fun e => e.on == j && Region.binds .any e
  decide ((ps ++ gs).Nodup) && (ps ++ gs).all (fun t => decide (t < N) && (List.range n).any fun j => dst j == some t) &&
  (List.range n).all fun i => match ops[i]? with
    | none => true
    | some o =>
      (match o.dst with | none => true | some d => (ps ++ gs).contains d) &&
      (List.range n).all (fun j => i == j || dst i == none || !(dst i == dst j)) &&
      (o.looksAt ops).all (fun t => !(ps ++ gs).contains t || (if (olds i).contains t then (List.range n).any fun j => dst j == some t && (j == i || (match ops[j]? with | some oj => waits oj i | none => false))
        else (List.range n).any fun j => dst j == some t && waits o j)) &&
      (match o.op with | .select .. => false | _ => true)

/-- The operations that are not known ahead. -/
def effB (ops : Array Oper) (ps : List Nat) (i : Nat) : Bool := match (ops[i]?).bind (·.dst) with
  | some d => !ps.contains d
  | none => true

theorem execOp_same (o : Oper) (hs : ∀ cs b, o.op ≠ .select cs b) {ops : Array Oper} {a b : Act} (h : ∀ t ∈ o.looksAt ops, a.tmps[t]? = b.tmps[t]?) : execOp a.eval o = execOp b.eval o :=
  execOp_congr o hs fun x hx => by
    cases x with
    | tmp t =>
      have := h t (List.mem_append_left _ (List.mem_filterMap.2 ⟨.tmp t, by simpa using hx, rfl⟩))
      simp only [Act.eval, Array.getD_eq_getD_getElem?, this]
    | const v => rfl
    | global g => rfl
    | func f => rfl
theorem wanted_same (o : Oper) {ops : Array Oper} {a b : Act} (h : ∀ t ∈ o.looksAt ops, a.tmps[t]? = b.tmps[t]?) : Region.wanted o (yielded ops a.tmps) = Region.wanted o (yielded ops b.tmps) := by
  unfold Region.wanted
  cases hg : o.guard with
  | none => rfl
  | some gw =>
    obtain ⟨g, want⟩ := gw
    have hy : yielded ops a.tmps g = yielded ops b.tmps g := by
      unfold yielded
      cases ht : (ops[g]?).bind (·.dst) with
      | none => rfl
      | some t =>
        have := h t (by simp [Oper.looksAt, hg, ht])
        simp [this]
    simp only [hy]

/-- The frame that an operation sees: the slots 'os' as they were. -/
def seenA (a0 : Act) (puts : List (Nat × Value)) (gs os : List Nat) (T : Nat → Value) : Act :=
  fillT (fillP a0 (puts.filter fun p => !os.contains p.1)) (gs.filter fun t => !os.contains t) T

theorem seenA_get {a0 : Act} {puts : List (Nat × Value)} {gs : List Nat} (os : List Nat) (T : Nat → Value) {N : Nat} (hN : a0.tmps.size = N) (hnp : (puts.map (·.1)).Nodup) (hng : gs.Nodup) (hpg : ∀ t, t ∈ puts.map (·.1) → t ∉ gs)
    (hltN : ∀ t, t ∈ puts.map (·.1) ∨ t ∈ gs → t < N) :
    (∀ t, t ∉ puts.map (·.1) → t ∉ gs → (seenA a0 puts gs os T).tmps[t]? = a0.tmps[t]?) ∧ (∀ t, t ∈ os → (seenA a0 puts gs os T).tmps[t]? = a0.tmps[t]?) ∧
    (∀ d v, (d, v) ∈ puts → d ∉ os → (seenA a0 puts gs os T).tmps[d]? = some v) ∧ (∀ d, d ∈ gs → d ∉ os → (seenA a0 puts gs os T).tmps[d]? = some (T d)) := by
  have hgm : ((gs.filter fun t => !os.contains t).map fun t => (t, T t)).map (·.1) = gs.filter fun t => !os.contains t := by rw [List.map_map]; exact List.map_id _
  have hpm : ∀ d, d ∈ (puts.filter fun p => !os.contains p.1).map (·.1) → d ∈ puts.map (·.1) ∧ d ∉ os := fun d h => by
    obtain ⟨x, hx, rfl⟩ := List.mem_map.1 h
    obtain ⟨h1, h2⟩ := List.mem_filter.1 hx
    exact ⟨List.mem_map.2 ⟨x, h1, rfl⟩, by simpa using h2⟩
  have hgm2 : ∀ d, d ∈ (gs.filter fun t => !os.contains t) → d ∈ gs ∧ d ∉ os := fun d h => by
    obtain ⟨h1, h2⟩ := List.mem_filter.1 h
    exact ⟨h1, by simpa using h2⟩
  have hnp' : ((puts.filter fun p => !os.contains p.1).map (·.1)).Nodup := hnp.sublist (List.Sublist.map _ List.filter_sublist)
  have hng' : (gs.filter fun t => !os.contains t).Nodup := hng.sublist List.filter_sublist
  unfold seenA
  refine ⟨fun t h1 h2 => ?_, fun t h => ?_, fun d v h ho => ?_, fun d h ho => ?_⟩
  · rw [fillT_eq, fillP_other _ _ _ (by rw [hgm]; exact fun h => h2 (hgm2 t h).1), fillP_other _ _ _ fun h => h1 (hpm t h).1]
  · rw [fillT_eq, fillP_other _ _ _ (by rw [hgm]; exact fun h2 => (hgm2 t h2).2 h), fillP_other _ _ _ fun h2 => (hpm t h2).2 h]
  · have hd : d ∈ puts.map (·.1) := List.mem_map.2 ⟨(d, v), h, rfl⟩
    rw [fillT_eq, fillP_other _ _ _ (by rw [hgm]; exact fun h2 => hpg d hd (hgm2 d h2).1)]
    exact fillP_in _ _ _ _ hnp' (List.mem_filter.2 ⟨h, by simpa using ho⟩) (by rw [hN]; exact hltN d (.inl hd))
  · rw [fillT_eq]
    exact fillP_in _ _ _ _ (by rw [hgm]; exact hng') (List.mem_map.2 ⟨d, List.mem_filter.2 ⟨h, by simpa using ho⟩, rfl⟩) (by rw [fillP_size, hN]; exact hltN d (.inr h))

/-- What is known of the frame and the world while a region is under way. -/
structure Flow (ops : Array Oper) (a0 : Act) (puts : List (Nat × Value)) (gs : List Nat) (G : (Nat → Bool) → (Nat → Value) → World → Prop) (l : Nat → Bool) (T : Nat → Value) (a : Act) (w : World) : Prop where
  defers : a.defers = a0.defers
  size : a.tmps.size = a0.tmps.size
  free : ∀ t, (∀ (i : Nat) (o : Oper), l i = true → ops[i]? = some o → o.dst ≠ some t) → a.tmps[t]? = a0.tmps[t]?
  known : ∀ (i : Nat) (o : Oper) d v, l i = true → ops[i]? = some o → o.dst = some d → (d, v) ∈ puts → a.tmps[d]? = some v
  ghost : ∀ (i : Nat) (o : Oper) d, l i = true → ops[i]? = some o → o.dst = some d → d ∈ gs → a.tmps[d]? = some (T d)
  world : G (fun j => l j && effB ops (puts.map (·.1)) j) T w

theorem region_flow {P : Program} {ops : Array Oper} {Q : Exit → Act → World → Prop} {id : Nat} {a0 : Act} {w : World} (hm : P.follows .mixedOrders = true) (hlow : lowB ops = true)
    (puts : List (Nat × Value)) (gs : List Nat) (olds : Nat → List Nat) (N : Nat) (hN : a0.tmps.size = N) (hB : flowB ops (puts.map (·.1)) gs olds N = true) (G : (Nat → Bool) → (Nat → Value) → World → Prop) (T0 : Nat → Value)
    (h0 : G (fun _ => false) T0 w.drew)
    (hfl : ∀ (L : Nat → Bool) (T : Nat → Value) (w : World) (i : Nat) (o : Oper) (d : Nat) (v : Value), ops[i]? = some o → o.dst = some d → (d, v) ∈ puts →
      (∀ e ∈ o.after, Region.binds .any e = true → effB ops (puts.map (·.1)) e.on = true → L e.on = true) →
      (∀ (j : Nat) (oj : Oper), L j = true → ops[j]? = some oj → ∀ e ∈ oj.after, Region.binds .any e = true → e.on ≠ i) → G L T w →
      (Region.wanted o (yielded ops (seenA a0 puts gs (olds i) T).tmps) = true ∧ (execOp (seenA a0 puts gs (olds i) T).eval o).run P w = .ok (.value v) w) ∨
      (Region.wanted o (yielded ops (seenA a0 puts gs (olds i) T).tmps) = false ∧ v = undef))
    (heff : ∀ (L : Nat → Bool) (T : Nat → Value) (w : World) (i : Nat) (o : Oper), ops[i]? = some o → effB ops (puts.map (·.1)) i = true → L i = false →
      (∀ e ∈ o.after, Region.binds .any e = true → effB ops (puts.map (·.1)) e.on = true → L e.on = true) →
      (∀ (j : Nat) (oj : Oper), L j = true → ops[j]? = some oj → ∀ e ∈ oj.after, Region.binds .any e = true → e.on ≠ i) → G L T w →
      (Region.wanted o (yielded ops (seenA a0 puts gs (olds i) T).tmps) = true ∧ ∀ (a : Act) (K : Act → World → Prop),
        (∀ v w', G (fun j => L j || j == i) (fun t => if o.dst = some t then v else T t) w' → K (a.put o.dst v) w') → o.upon P a K Q ((execOp (seenA a0 puts gs (olds i) T).eval o).run P w)) ∨
      (Region.wanted o (yielded ops (seenA a0 puts gs (olds i) T).tmps) = false ∧ G (fun j => L j || j == i) (fun t => if o.dst = some t then undef else T t) w))
    (hend : ∀ (L : Nat → Bool) (T : Nat → Value) (w : World), (∀ i, i < ops.size → effB ops (puts.map (·.1)) i = true → L i = true) → G L T w → Q .normal (fillT (fillP a0 puts) gs T) w) :
    (Code.region id ops true).wp P Q a0 w := by
  simp only [flowB, Bool.and_eq_true, decide_eq_true_eq] at hB
  obtain ⟨⟨hnd, hlt⟩, hops⟩ := hB
  have hltN : ∀ t, t ∈ puts.map (·.1) ∨ t ∈ gs → t < N := fun t ht => by
    have := List.all_eq_true.1 hlt t (List.mem_append.2 ht)
    simp only [Bool.and_eq_true, decide_eq_true_eq] at this
    exact this.1
  have hwr : ∀ t, t ∈ puts.map (·.1) ∨ t ∈ gs → ∃ (j : Nat) (o : Oper), j < ops.size ∧ ops[j]? = some o ∧ o.dst = some t := fun t ht => by
    have := List.all_eq_true.1 hlt t (List.mem_append.2 ht)
    simp only [Bool.and_eq_true, List.any_eq_true, List.mem_range, beq_iff_eq] at this
    obtain ⟨_, j, hj, hd⟩ := this
    refine ⟨j, ops[j], hj, Array.getElem?_eq_getElem hj, ?_⟩
    rw [Array.getElem?_eq_getElem hj] at hd
    simpa using hd
  have hnp : (puts.map (·.1)).Nodup := (List.nodup_append.1 hnd).1
  have hng : gs.Nodup := (List.nodup_append.1 hnd).2.1
  have hpg : ∀ t, t ∈ puts.map (·.1) → t ∉ gs := fun t h1 h2 => (List.nodup_append.1 hnd).2.2 t h1 t h2 rfl
  have hop : ∀ (i : Nat) (o : Oper), ops[i]? = some o → (∀ d, o.dst = some d → d ∈ puts.map (·.1) ∨ d ∈ gs) ∧ (∀ (j : Nat) (oj : Oper) d, i ≠ j → ops[j]? = some oj → o.dst = some d → oj.dst ≠ some d) ∧
      (∀ t ∈ o.looksAt ops, t ∉ puts.map (·.1) ∧ t ∉ gs ∨ (t ∈ olds i ∧ ∃ (j : Nat) (oj : Oper), ops[j]? = some oj ∧ oj.dst = some t ∧ (j = i ∨ ∃ e ∈ oj.after, e.on = i ∧ Region.binds .any e = true)) ∨
        (t ∉ olds i ∧ ∃ (j : Nat) (oj : Oper) (e : Edge), ops[j]? = some oj ∧ oj.dst = some t ∧ e ∈ o.after ∧ e.on = j ∧ Region.binds .any e = true)) ∧ (∀ cs b, o.op ≠ .select cs b) := by
    intro i o ho
    have hi : i < ops.size := (Array.getElem?_eq_some_iff.1 ho).1
    have h1 := List.all_eq_true.1 hops i (List.mem_range.2 hi)
    rw [ho] at h1
    simp only [Bool.and_eq_true] at h1
    obtain ⟨⟨⟨h1, h2⟩, h3⟩, h4⟩ := h1
    refine ⟨fun d hd => ?_, fun j oj d hij hj hd hd' => ?_, fun t ht => ?_, fun cs b hsel => ?_⟩
    · rw [hd] at h1
      simpa using h1
    · have hjs : j < ops.size := (Array.getElem?_eq_some_iff.1 hj).1
      have := List.all_eq_true.1 h2 j (List.mem_range.2 hjs)
      simp [hj, hd, hd', hij] at this
    · have := List.all_eq_true.1 h3 t ht
      by_cases hto : t ∈ olds i
      · rw [if_pos (by simpa using hto)] at this
        simp only [Bool.or_eq_true, Bool.not_eq_true', List.contains_eq_mem, decide_eq_false_iff_not, List.mem_append, not_or, List.any_eq_true, List.mem_range, Bool.and_eq_true, beq_iff_eq] at this
        rcases this with h | ⟨j, hj, hd, hw⟩
        · exact .inl h
        · rw [Array.getElem?_eq_getElem hj] at hd hw
          refine .inr (.inl ⟨hto, j, ops[j], Array.getElem?_eq_getElem hj, by simpa using hd, hw.imp (fun h => h) fun hw => ?_⟩)
          simp only [List.any_eq_true, Bool.and_eq_true, beq_iff_eq] at hw
          obtain ⟨e, he, h1, h2⟩ := hw
          exact ⟨e, by simpa using he, h1, h2⟩
      · rw [if_neg (by simpa using hto)] at this
        simp only [Bool.or_eq_true, Bool.not_eq_true', List.contains_eq_mem, decide_eq_false_iff_not, List.mem_append, not_or, List.any_eq_true, List.mem_range, Bool.and_eq_true, beq_iff_eq, Array.mem_toList_iff] at this
        rcases this with h | ⟨j, hj, hd, e, he, hej, hb⟩
        · exact .inl h
        · refine .inr (.inr ⟨hto, j, ops[j], e, Array.getElem?_eq_getElem hj, ?_, he, hej, hb⟩)
          rw [Array.getElem?_eq_getElem hj] at hd
          simpa using hd
    · rw [hsel] at h4; cases h4
  have hfin : ∀ (T : Nat → Value), (∀ t, t ∉ puts.map (·.1) → t ∉ gs → (fillT (fillP a0 puts) gs T).tmps[t]? = a0.tmps[t]?) ∧ (∀ d v, (d, v) ∈ puts → (fillT (fillP a0 puts) gs T).tmps[d]? = some v) ∧ (∀ d, d ∈ gs → (fillT (fillP a0 puts) gs T).tmps[d]? = some (T d)) := by
    intro T
    have hgm : (gs.map fun t => (t, T t)).map (·.1) = gs := by rw [List.map_map]; exact List.map_id gs
    refine ⟨fun t h1 h2 => ?_, fun d v h => ?_, fun d h => ?_⟩
    · rw [fillT_eq, fillP_other _ _ _ (by rw [hgm]; exact h2), fillP_other _ _ _ h1]
    · have hd : d ∈ puts.map (·.1) := List.mem_map.2 ⟨(d, v), h, rfl⟩
      rw [fillT_eq, fillP_other _ _ _ (by rw [hgm]; exact hpg d hd)]
      exact fillP_in _ _ _ _ hnp h (by rw [hN]; exact hltN d (.inl hd))
    · rw [fillT_eq]
      exact fillP_in _ _ _ _ (by rw [hgm]; exact hng) (List.mem_map.2 ⟨d, h, rfl⟩) (by rw [fillP_size, hN]; exact hltN d (.inr h))
  refine region_inv hm hlow (fun l a w => ∃ T, Flow ops a0 puts gs G l T a w) ?_ ?_ ?_
  · exact ⟨T0, ⟨rfl, rfl, fun _ _ => rfl, fun i o d v h => (nomatch h), fun i o d h => (nomatch h), by simpa using h0⟩⟩
  · rintro l a w i o ho hli hpre hcame ⟨T, hF⟩
    obtain ⟨hd1, hd2, hlook, hsel⟩ := hop i o ho
    have hsn := seenA_get (a0 := a0) (puts := puts) (gs := gs) (olds i) T hN hnp hng hpg hltN
    have hsame : ∀ t ∈ o.looksAt ops, a.tmps[t]? = (seenA a0 puts gs (olds i) T).tmps[t]? := by
      intro t ht
      rcases hlook t ht with ⟨h1, h2⟩ | ⟨hto, j, oj, hj, hdj, hw⟩ | ⟨hto, j, oj, e, hj, hdj, he, rfl, hb⟩
      · rw [hsn.1 t h1 h2]
        refine hF.free t fun i' o' hl' ho' hd' => ?_
        rcases (hop i' o' ho').1 t hd' with h | h
        · exact h1 h
        · exact h2 h
      · rw [hsn.2.1 t hto]
        refine hF.free t fun i' o' hl' ho' hd' => ?_
        by_cases hji : j = i'
        · subst hji
          rcases hw with rfl | ⟨e, he, rfl, hb⟩
          · rw [hli] at hl'; cases hl'
          · have := hcame.shut j oj hj hl' e he hb
            rw [hli] at this; cases this
        · exact (hop j oj hj).2.1 i' o' t hji ho' hdj hd'
      · have hl := hpre e he hb
        rcases (hop _ oj hj).1 t hdj with h | h
        · obtain ⟨⟨d, v⟩, hp, rfl⟩ := List.mem_map.1 h
          rw [hF.known _ oj d v hl hj hdj hp, hsn.2.2.1 d v hp hto]
        · rw [hF.ghost _ oj t hl hj hdj h, hsn.2.2.2 t h hto]
    have hex := execOp_same o hsel hsame
    have hwant := wanted_same o hsame
    have hL1 : ∀ e ∈ o.after, Region.binds .any e = true → effB ops (puts.map (·.1)) e.on = true → (fun j => l j && effB ops (puts.map (·.1)) j) e.on = true := fun e he hb h => by simp [hpre e he hb, h]
    have hL2 : ∀ (j : Nat) (oj : Oper), (fun j => l j && effB ops (puts.map (·.1)) j) j = true → ops[j]? = some oj → ∀ e ∈ oj.after, Region.binds .any e = true → e.on ≠ i := fun j oj hj hoj e he hb heq => by
      have hlj : l j = true := by simp only [Bool.and_eq_true] at hj; exact hj.1
      have := hcame.shut j oj hoj hlj e he hb
      rw [heq, hli] at this; cases this
    unfold wpOp
    simp only [ho]
    by_cases he : effB ops (puts.map (·.1)) i = true
    · have hnew : (fun j => (l j || j == i) && effB ops (puts.map (·.1)) j) = fun j => (l j && effB ops (puts.map (·.1)) j) || j == i := by
        funext j
        by_cases hji : j = i
        · subst hji; simp [he]
        · have hb : (j == i) = false := by simpa using hji
          simp only [hb, Bool.or_false]
      have hstep : ∀ v w', G (fun j => (l j && effB ops (puts.map (·.1)) j) || j == i) (fun t => if o.dst = some t then v else T t) w' → ∃ T', Flow ops a0 puts gs G (fun j => l j || j == i) T' (a.put o.dst v) w' := by
        intro v w' hG
        have hnotp : ∀ d, o.dst = some d → d ∉ puts.map (·.1) := fun d hd hp => by
          simp [effB, ho, hd] at he
          simp at hp
          obtain ⟨x, hx⟩ := hp
          exact he x hx
        refine ⟨_, by rw [put_defers, hF.defers], by rw [put_size, hF.size], fun t h1 => ?_, fun j oj d v' hj hoj hd hp => ?_, fun j oj d hj hoj hd hg => ?_, by rw [hnew]; exact hG⟩
        · have hfr := hF.free t fun i' o' hl' ho' => h1 i' o' (by simp [hl']) ho'
          cases hdo : o.dst with
          | none => exact hfr
          | some d =>
            have : d ≠ t := fun hdt => h1 i o (by simp) ho (by rw [hdo, hdt])
            rw [put_get_ne _ _ _ _ this, hfr]
        · simp only [Bool.or_eq_true, beq_iff_eq] at hj
          have hdp : d ∈ puts.map (·.1) := List.mem_map.2 ⟨(d, v'), hp, rfl⟩
          rcases hj with hj | rfl
          · cases hdo : o.dst with
            | none => exact hF.known j oj d v' hj hoj hd hp
            | some d' =>
              have : d' ≠ d := fun h => hnotp d' hdo (by rw [h]; exact hdp)
              rw [put_get_ne _ _ _ _ this]; exact hF.known j oj d v' hj hoj hd hp
          · rw [ho] at hoj; cases hoj
            exact absurd hdp (hnotp d hd)
        · simp only [Bool.or_eq_true, beq_iff_eq] at hj
          by_cases hod : o.dst = some d
          · rw [hod, if_pos rfl]
            exact put_get_same _ _ _ (by rw [hF.size, hN]; exact hltN d (.inr hg))
          · rw [if_neg hod]
            rcases hj with hj | rfl
            · cases hdo : o.dst with
              | none => exact hF.ghost j oj d hj hoj hd hg
              | some d' =>
                have : d' ≠ d := fun h => hod (by rw [hdo, h])
                rw [put_get_ne _ _ _ _ this]; exact hF.ghost j oj d hj hoj hd hg
            · rw [ho] at hoj; cases hoj
              exact absurd hd hod
      rcases heff _ T w i o ho he (by simp [hli]) hL1 hL2 hF.world with ⟨hw, hup⟩ | ⟨hw, hG⟩
      · rw [hwant, if_pos hw]
        refine .inl ?_
        unfold Oper.wp
        rw [hex]
        exact hup a _ hstep
      · rw [hwant, if_neg (by rw [hw]; simp)]
        exact hstep undef w hG
    · have hne : effB ops (puts.map (·.1)) i = false := by simpa using he
      obtain ⟨d, hd, hdp⟩ : ∃ d, o.dst = some d ∧ d ∈ puts.map (·.1) := by
        unfold effB at hne
        rw [ho] at hne
        cases hdo : o.dst with
        | none => simp [hdo] at hne
        | some d => exact ⟨d, rfl, by simpa [hdo] using hne⟩
      obtain ⟨⟨d', v⟩, hp, rfl⟩ := List.mem_map.1 hdp
      have hnew : (fun j => (l j || j == i) && effB ops (puts.map (·.1)) j) = fun j => l j && effB ops (puts.map (·.1)) j := by
        funext j
        by_cases hji : j = i
        · subst hji; simp [hne]
        · have hb : (j == i) = false := by simpa using hji
          simp only [hb, Bool.or_false]
      have hstep : ∃ T', Flow ops a0 puts gs G (fun j => l j || j == i) T' (a.put o.dst v) w := by
        refine ⟨T, by rw [put_defers, hF.defers], by rw [put_size, hF.size], fun t h1 => ?_, fun j oj dj v' hj hoj hdj hp' => ?_, fun j oj dj hj hoj hdj hg => ?_, by rw [hnew]; exact hF.world⟩
        · have : d' ≠ t := fun h => h1 i o (by simp) ho (by rw [hd, h])
          rw [hd, put_get_ne _ _ _ _ this]
          exact hF.free t fun i' o' hl' ho' => h1 i' o' (by simp [hl']) ho'
        · by_cases hdd : dj = d'
          · subst hdd
            have hvv : v' = v := by
              have e1 := (hfin T).2.1 dj v' hp'
              have e2 := (hfin T).2.1 dj v hp
              rw [e1] at e2
              exact Option.some.inj e2
            subst hvv
            rw [hd, put_get_same _ _ _ (by rw [hF.size, hN]; exact hltN dj (.inl hdp))]
          · rw [hd, put_get_ne _ _ _ _ (Ne.symm hdd)]
            simp only [Bool.or_eq_true, beq_iff_eq] at hj
            rcases hj with hj | rfl
            · exact hF.known j oj dj v' hj hoj hdj hp'
            · rw [ho] at hoj; cases hoj
              rw [hd] at hdj; cases hdj
              exact absurd rfl hdd
        · have : d' ≠ dj := fun h => by subst h; exact hpg d' hdp hg
          rw [hd, put_get_ne _ _ _ _ this]
          simp only [Bool.or_eq_true, beq_iff_eq] at hj
          rcases hj with hj | rfl
          · exact hF.ghost j oj dj hj hoj hdj hg
          · rw [ho] at hoj; cases hoj
            rw [hd] at hdj; cases hdj
            exact absurd rfl this
      rcases hfl _ T w i o d' v ho hd hp hL1 hL2 hF.world with ⟨hw, hrun⟩ | ⟨hw, rfl⟩
      · rw [hwant, if_pos hw]
        refine .inl ?_
        unfold Oper.wp
        rw [hex, hrun]
        exact hstep
      · rw [hwant, if_neg (by rw [hw]; simp)]
        exact hstep
  · rintro l a w hall ⟨T, hF⟩
    have hL : ∀ i, i < ops.size → effB ops (puts.map (·.1)) i = true → (fun j => l j && effB ops (puts.map (·.1)) j) i = true := fun i hi he => by simp [hall i hi, he]
    have hfa : a = fillT (fillP a0 puts) gs T := by
      refine act_ext ?_ ?_ fun t _ => ?_
      · rw [hF.defers, fillT_eq, fillP_defers, fillP_defers]
      · rw [hF.size, fillT_eq, fillP_size, fillP_size]
      · by_cases h1 : t ∈ puts.map (·.1)
        · obtain ⟨j, o, hj, hoj, hd⟩ := hwr t (.inl h1)
          obtain ⟨⟨d, v⟩, hp, rfl⟩ := List.mem_map.1 h1
          rw [hF.known j o d v (hall j hj) hoj hd hp, (hfin T).2.1 d v hp]
        · by_cases h2 : t ∈ gs
          · obtain ⟨j, o, hj, hoj, hd⟩ := hwr t (.inr h2)
            rw [hF.ghost j o t (hall j hj) hoj hd h2, (hfin T).2.2 t h2]
          · rw [(hfin T).1 t h1 h2]
            refine hF.free t fun i' o' hl' ho' hd' => ?_
            rcases (hop i' o' ho').1 t hd' with h | h
            · exact h1 h
            · exact h2 h
    rw [hfa]
    exact hend _ T w hL hF.world

/-! ### What a prover lays: an operation at a time -/
/-- The value at an operand when all has come up. -/
def envF (a0 : Act) (puts : List (Nat × Value)) (gs os : List Nat) (T : Nat → Value) : Operand → Value
  | .tmp t => if os.contains t then a0.tmps.getD t undef else if gs.contains t then T t else (puts.lookup t).getD (a0.tmps.getD t undef)
  | .const v => v
  | .global g => .pointer (some ⟨g, 0, none⟩)
  | .func f => .func (.func f) #[] #[]
/-- Is an operation carried out? -/
def wantF (ops : Array Oper) (ρ : Operand → Value) (o : Oper) : Bool := match o.guard with
  | none => true
  | some (j, want) => match (ops[j]?).bind (·.dst) with
    | some t => (match ρ (.tmp t) with | .bool b => b == want | _ => false)
    | none => false
def hangs (o : Oper) (j : Nat) : Bool := o.after.toList.any fun e => e.on == j && Region.binds .any e

def oldAt (olds : List (Nat × List Nat)) (i : Nat) : List Nat := (olds.lookup i).getD []
def OpGoal (P : Program) (ops : Array Oper) (Q : Exit → Act → World → Prop) (a0 : Act) (puts : List (Nat × Value)) (gs : List Nat) (olds : List (Nat × List Nat)) (G : (Nat → Bool) → (Nat → Value) → World → Prop) (i : Nat) (o : Oper) : Prop :=
  match o.dst.bind fun d => puts.lookup d with
  | some v => ∀ (L : Nat → Bool) (T : Nat → Value) (w : World), (∀ j, hangs o j = true → effB ops (puts.map (·.1)) j = true → L j = true) →
      (∀ j oj, ops[j]? = some oj → hangs oj i = true → L j = false) → G L T w →
      (wantF ops (envF a0 puts gs (oldAt olds i) T) o = true ∧ (execOp (envF a0 puts gs (oldAt olds i) T) o).run P w = .ok (.value v) w) ∨ (wantF ops (envF a0 puts gs (oldAt olds i) T) o = false ∧ v = undef)
  | none => ∀ (L : Nat → Bool) (T : Nat → Value) (w : World), L i = false → (∀ j, hangs o j = true → effB ops (puts.map (·.1)) j = true → L j = true) →
      (∀ j oj, ops[j]? = some oj → hangs oj i = true → L j = false) → G L T w →
      (wantF ops (envF a0 puts gs (oldAt olds i) T) o = true ∧ ∀ (a : Act) (K : Act → World → Prop),
        (∀ v w', G (fun j => L j || j == i) (fun t => if o.dst = some t then v else T t) w' → K (a.put o.dst v) w') → o.upon P a K Q ((execOp (envF a0 puts gs (oldAt olds i) T) o).run P w)) ∨
      (wantF ops (envF a0 puts gs (oldAt olds i) T) o = false ∧ G (fun j => L j || j == i) (fun t => if o.dst = some t then undef else T t) w)
def AllFrom (p : Nat → Oper → Prop) : Nat → List Oper → Prop
  | _, [] => True
  | k, o :: r => p k o ∧ AllFrom p (k + 1) r
theorem AllFrom.at_ {p : Nat → Oper → Prop} : ∀ {l : List Oper} {k : Nat}, AllFrom p k l → ∀ (i : Nat) (o : Oper), l[i]? = some o → p (k + i) o
  | [], _, _, i, o, h => by simp at h
  | x :: r, k, ⟨h0, hr⟩, i, o, h => by
    cases i with
    | zero => simp at h; subst h; exact h0
    | succ i =>
      have := AllFrom.at_ hr i o (by simpa using h)
      rwa [show k + 1 + i = k + (i + 1) from by omega] at this

theorem lookup_of_mem {d : Nat} {v : Value} : ∀ {puts : List (Nat × Value)}, (puts.map (·.1)).Nodup → (d, v) ∈ puts → puts.lookup d = some v
  | [], _, h => by cases h
  | (d', v') :: ps, hn, h => by
    simp only [List.map_cons, List.nodup_cons] at hn
    rcases List.mem_cons.1 h with h1 | h1
    · cases h1; simp [List.lookup]
    · have hd : d ≠ d' := fun e => hn.1 (by rw [← e]; exact List.mem_map.2 ⟨(d, v), h1, rfl⟩)
      have hb : (d == d') = false := by simpa using hd
      simp only [List.lookup, hb]
      exact lookup_of_mem hn.2 h1
theorem lookup_none {d : Nat} : ∀ {puts : List (Nat × Value)}, d ∉ puts.map (·.1) → puts.lookup d = none
  | [], _ => rfl
  | (d', v') :: ps, h => by
    simp only [List.map_cons, List.mem_cons, not_or] at h
    have hb : (d == d') = false := by simpa using h.1
    simp only [List.lookup, hb]
    exact lookup_none h.2

theorem region_draws_old {P : Program} {l : List Oper} {Q : Exit → Act → World → Prop} {id : Nat} {a0 : Act} {w : World} (puts : List (Nat × Value)) (gs : List Nat) (olds : List (Nat × List Nat)) (G : (Nat → Bool) → (Nat → Value) → World → Prop) (T0 : Nat → Value)
    (hm : P.follows .mixedOrders = true) (hlow : lowB l.toArray = true) (N : Nat) (hN : a0.tmps.size = N) (hB : flowB l.toArray (puts.map (·.1)) gs (oldAt olds) N = true)
    (h0 : G (fun _ => false) T0 w.drew) (hops : AllFrom (OpGoal P l.toArray Q a0 puts gs olds G) 0 l)
    (hend : ∀ (L : Nat → Bool) (T : Nat → Value) (w : World), (∀ i, i < l.length → effB l.toArray (puts.map (·.1)) i = true → L i = true) → G L T w → Q .normal (fillT (fillP a0 puts) gs T) w) :
    (Code.region id l.toArray true).wp P Q a0 w := by
  have hB' := hB
  simp only [flowB, Bool.and_eq_true, decide_eq_true_eq] at hB'
  obtain ⟨⟨hnd, hlt⟩, _⟩ := hB'
  have hnp : (puts.map (·.1)).Nodup := (List.nodup_append.1 hnd).1
  have hng : gs.Nodup := (List.nodup_append.1 hnd).2.1
  have hpg : ∀ t, t ∈ puts.map (·.1) → t ∉ gs := fun t h1 h2 => (List.nodup_append.1 hnd).2.2 t h1 t h2 rfl
  have hltN : ∀ t, t ∈ puts.map (·.1) ∨ t ∈ gs → t < N := fun t ht => by
    have := List.all_eq_true.1 hlt t (List.mem_append.2 ht)
    simp only [Bool.and_eq_true, decide_eq_true_eq] at this
    exact this.1
  have henv : ∀ (T : Nat → Value) (os : List Nat) (t : Nat), (seenA a0 puts gs os T).tmps.getD t undef = envF a0 puts gs os T (.tmp t) := by
    intro T os t
    obtain ⟨q1, q2, q3, q4⟩ := seenA_get (a0 := a0) (puts := puts) (gs := gs) os T hN hnp hng hpg hltN
    rw [Array.getD_eq_getD_getElem?]
    simp only [envF]
    by_cases ho : t ∈ os
    · rw [q2 t ho, if_pos (by simpa using ho), Array.getD_eq_getD_getElem?]
    · rw [if_neg (by simpa using ho)]
      by_cases h2 : t ∈ gs
      · rw [q4 t h2 ho, if_pos (by simpa using h2)]; rfl
      · rw [if_neg (by simpa using h2)]
        by_cases h1 : t ∈ puts.map (·.1)
        · obtain ⟨⟨d, v⟩, hp, rfl⟩ := List.mem_map.1 h1
          rw [q3 d v hp ho, lookup_of_mem hnp hp]
          rfl
        · rw [q1 t h1 h2, lookup_none h1, Array.getD_eq_getD_getElem?]
          rfl
  have heval : ∀ (T : Nat → Value) (os : List Nat), (seenA a0 puts gs os T).eval = envF a0 puts gs os T := fun T os => by
    funext x
    cases x with
    | tmp t => exact henv T os t
    | const v => rfl
    | global g => rfl
    | func f => rfl
  have hwant : ∀ (T : Nat → Value) (os : List Nat) (o : Oper), Region.wanted o (yielded l.toArray (seenA a0 puts gs os T).tmps) = wantF l.toArray (envF a0 puts gs os T) o := fun T os o => by
    unfold Region.wanted wantF
    cases hg : o.guard with
    | none => rfl
    | some jw =>
      obtain ⟨j, want⟩ := jw
      simp only [yielded]
      cases hd : (l.toArray[j]?).bind (·.dst) with
      | none => simp
      | some t =>
        have := henv T os t
        rw [Array.getD_eq_getD_getElem?] at this
        simp only [Option.bind_some]
        cases ht : (seenA a0 puts gs os T).tmps[t]? with
        | none =>
          rw [ht] at this
          simp only [Option.getD_none] at this
          rw [← this]
          simp [undef]
        | some v =>
          rw [ht] at this
          simp only [Option.getD_some] at this
          rw [← this]
          cases v <;> simp
  have hh : ∀ (o : Oper) (e : Edge), e ∈ o.after → Region.binds .any e = true → hangs o e.on = true := fun o e he hb => by
    simp only [hangs, List.any_eq_true, Bool.and_eq_true, beq_iff_eq]
    exact ⟨e, by simpa using he, rfl, hb⟩
  have hh' : ∀ (o : Oper) (j : Nat), hangs o j = true → ∃ e ∈ o.after, e.on = j ∧ Region.binds .any e = true := fun o j h => by
    simp only [hangs, List.any_eq_true, Bool.and_eq_true, beq_iff_eq] at h
    obtain ⟨e, he, h1, h2⟩ := h
    exact ⟨e, by simpa using he, h1, h2⟩
  refine region_flow hm hlow puts gs (oldAt olds) N hN hB G T0 h0 ?_ ?_ (by simpa using hend)
  · intro L T w i o d v ho hd hp hpre hpost hG
    have h1 := hops.at_ i o (by simpa using ho)
    rw [Nat.zero_add] at h1
    unfold OpGoal at h1
    rw [hd, Option.bind_some, lookup_of_mem hnp hp] at h1
    have h2 := h1 L T w (fun j hj he => by obtain ⟨e, hem, rfl, hb⟩ := hh' o j hj; exact hpre e hem hb he)
      (fun j oj hoj hj => by
        cases hL : L j with
        | false => rfl
        | true => obtain ⟨e, hem, he, hb⟩ := hh' oj i hj; exact absurd he (hpost j oj hL hoj e hem hb)) hG
    rw [hwant, heval]
    exact h2
  · intro L T w i o ho he hLi hpre hpost hG
    have h1 := hops.at_ i o (by simpa using ho)
    rw [Nat.zero_add] at h1
    unfold OpGoal at h1
    have hnone : (o.dst.bind fun d => puts.lookup d) = none := by
      cases hd : o.dst with
      | none => rfl
      | some d =>
        unfold effB at he
        simp only [ho, Option.bind_some, hd, Bool.not_eq_true', List.contains_eq_mem, decide_eq_false_iff_not] at he
        rw [Option.bind_some]
        exact lookup_none he
    rw [hnone] at h1
    have h2 := h1 L T w hLi (fun j hj he => by obtain ⟨e, hem, rfl, hb⟩ := hh' o j hj; exact hpre e hem hb he)
      (fun j oj hoj hj => by
        cases hL : L j with
        | false => rfl
        | true => obtain ⟨e, hem, he, hb⟩ := hh' oj i hj; exact absurd he (hpost j oj hL hoj e hem hb)) hG
    rw [hwant, heval]
    exact h2
theorem region_draws {P : Program} {l : List Oper} {Q : Exit → Act → World → Prop} {id : Nat} {a0 : Act} {w : World} (puts : List (Nat × Value)) (gs : List Nat) (G : (Nat → Bool) → (Nat → Value) → World → Prop) (T0 : Nat → Value)
    (hm : P.follows .mixedOrders = true) (hlow : lowB l.toArray = true) (N : Nat) (hN : a0.tmps.size = N) (hB : flowB l.toArray (puts.map (·.1)) gs (oldAt []) N = true)
    (h0 : G (fun _ => false) T0 w.drew) (hops : AllFrom (OpGoal P l.toArray Q a0 puts gs [] G) 0 l)
    (hend : ∀ (L : Nat → Bool) (T : Nat → Value) (w : World), (∀ i, i < l.length → effB l.toArray (puts.map (·.1)) i = true → L i = true) → G L T w → Q .normal (fillT (fillP a0 puts) gs T) w) :
    (Code.region id l.toArray true).wp P Q a0 w := region_draws_old puts gs [] G T0 hm hlow N hN hB h0 hops hend
attribute [go_sem] oldAt Option.getD_some Option.getD_none envF List.lookup_cons List.lookup_nil List.contains_cons List.contains_nil

end Go.Proofs.YtdgpchacfdlleaaDoor
end

section
/-
  A region whose order Go leaves open and whose effects stand in one chain: it does what its operations do in the order of a plan, if each operation that only looks would see the same at any later time. Plain Lean, no program in sight.
-/
namespace Go.Proofs.YtdgpchacfdlleaaDoor
open Go

/-- Kinds that yield a value. -/
def valueKind (o : Oper) : Bool := match o.op with
  | .move _ | .assign _ | .pick .. | .load .. | .nilCheck _ | .binOp .. | .unOp .. | .convert .. | .field .. | .fieldAddr .. | .index .. | .indexAddr .. | .build .. | .slice .. | .extract .. | .lookup .. | .typeAssert .. | .makeInterface .. | .makeFunc .. | .sliceToArrayPointer .. => true
  | .call { callee := .builtin .len, .. } | .call { callee := .builtin .cap, .. } | .call { callee := .builtin .min, .. } | .call { callee := .builtin .max, .. } => true
  | _ => false
/-- Kinds whose value hangs on no world. -/
def plainKind (o : Oper) : Bool := match o.op with
  | .move _ | .assign _ | .pick .. => true
  | _ => false

def Ends (m : Sem Next) : Prop := ∀ (P : Program) (w w' : World) (x : Next), m.run P w = .ok x w' → ∃ v, x = .value v
theorem Ends.pure (v : Value) : Ends (pure (.value v)) := fun P w w' x h => by
  simp only [Sem.run_pure, Result.ok.injEq] at h
  exact ⟨_, h.1.symm⟩
theorem Ends.bind {α : Type} {m : Sem α} {f : α → Sem Next} (h : ∀ a, Ends (f a)) : Ends (m >>= f) := fun P w w' x hr => by
  rw [Sem.run_bind] at hr
  cases hs : m.run P w with
  | ok v w1 =>
    rw [hs] at hr
    exact h v P w1 w' x hr
  | halt hh w1 => rw [hs] at hr; simp [Result.andThen] at hr
theorem Ends.panic : Ends (runtimePanic .nilDeref) := fun P w w' x h => by
  simp [runtimePanic, goPanic] at h

theorem value_result {ρ : Operand → Value} {o : Oper} (hk : valueKind o = true) : Ends (execOp ρ o) := by
  obtain ⟨dst, op, type, pos, after, guard⟩ := o
  unfold valueKind at hk
  unfold execOp
  cases op <;> simp only at hk ⊢ <;> try cases hk
  all_goals first
    | exact Ends.bind fun a => Ends.pure a
    | exact Ends.pure _
    | exact Ends.bind fun a => Ends.pure _
    | skip
  case nilCheck.intro y =>
    split
    all_goals first
      | exact Ends.panic
      | exact Ends.pure _
      | skip
    split
    all_goals first
      | exact Ends.panic
      | exact Ends.pure _
      | skip
    refine Ends.bind fun p => Ends.bind fun b => ?_
    split
    · exact Ends.bind fun _ => Ends.pure _
    · exact Ends.pure _
  case call c =>
    obtain ⟨callee, args, tys⟩ := c
    cases callee with
    | value f => simp at hk
    | invoke r n => simp at hk
    | builtin b =>
      unfold resolve
      simp only
      refine fun P w w' x h => ?_
      rw [Sem.run_bind] at h
      simp only [Sem.run_pure, Result.andThen_ok, invoke, builtin] at h
      cases b <;> simp at hk <;> exact (Ends.bind fun a => Ends.pure a) P w w' x h

theorem plain_run {o : Oper} (hk : plainKind o = true) {ρ : Operand → Value} {P : Program} {w w' : World} {v : Value} (h : (execOp ρ o).run P w = .ok (.value v) w') : ∀ w2, (execOp ρ o).run P w2 = .ok (.value v) w2 := by
  obtain ⟨dst, op, type, pos, after, guard⟩ := o
  unfold plainKind at hk
  intro w2
  cases op with
  | move x => simp only [execOp, Sem.run_pure, Result.ok.injEq, Next.value.injEq] at h ⊢; exact ⟨h.1, trivial⟩
  | assign x => simp only [execOp, Sem.run_pure, Result.ok.injEq, Next.value.injEq] at h ⊢; exact ⟨h.1, trivial⟩
  | pick c a b =>
    simp only [execOp, Sem.run_bind] at h ⊢
    generalize ρ c = u at *
    cases u with
    | bool t => simp only [asBool, Sem.run_pure, Result.andThen_ok, Result.ok.injEq, Next.value.injEq] at h ⊢; exact ⟨h.1, trivial⟩
    | _ => simp [asBool, Result.andThen, stuck] at h
  | _ => cases hk

structure Seg where
  floats : List Nat
  checks : List Nat
  eff : Option Nat
structure Plan where
  /-- who stands ahead of each, as bits -/
  anc : List Nat
  /-- those that act, in their chain -/
  effs : List Nat
  /-- the others: behind how many of them they come up -/
  stage : List Nat
def Plan.ahead (p : Plan) (i j : Nat) : Bool := (p.anc.getD i 0).testBit j
def Plan.act (p : Plan) (i : Nat) : Bool := p.effs.contains i
def Plan.at_ (p : Plan) (i : Nat) : Nat := p.stage.getD i 0
/-- Those that look, behind k acts. -/
def Plan.floatsAt (p : Plan) (n k : Nat) : List Nat := (List.range n).filter fun i => !p.act i && p.at_ i == k
def Plan.checksAt (p : Plan) (l : List Oper) (k : Nat) : List Nat := (List.range l.length).filter fun i => !p.act i && decide (p.at_ i ≤ k) && (match l[i]? with | some o => !plainKind o | none => false) &&
  (match k with | 0 => true | k + 1 => match p.effs[k]? with | some e => !p.ahead e i | none => true)
def Plan.segs (p : Plan) (l : List Oper) : List Seg := (List.range (p.effs.length + 1)).map fun k => ⟨p.floatsAt l.length k, p.checksAt l k, p.effs[k]?⟩

def opsAt (l : List Oper) (is : List Nat) : List Oper := is.filterMap fun i => l[i]?

/-- It would see the same now. -/
def Same (P : Program) (ops : Array Oper) (o : Oper) (a : Act) (w : World) : Prop :=
  if Region.wanted o (yielded ops a.tmps) = true then (execOp a.eval o).run P w = .ok (.value (a.tmps.getD (o.dst.getD 0) undef)) w else a.tmps.getD (o.dst.getD 0) undef = undef
def Sames (P : Program) (ops : Array Oper) (a : Act) (w : World) : List Oper → Prop
  | [] => True
  | o :: r => Same P ops o a w ∧ Sames P ops a w r
def SeqGo (P : Program) (l : List Oper) (Q : Exit → Act → World → Prop) : List Seg → Act → World → Prop
  | [], _, _ => True
  | s :: r, a, w => wpList P l.toArray (fun e a' w' => e = .normal ∧ w' = w ∧ Sames P l.toArray a' w (opsAt l s.checks) ∧
      match s.eff with
      | none => Q .normal a' w
      | some i => wpList P l.toArray (fun e a2 w2 => e = .normal ∧ SeqGo P l Q r a2 w2) (opsAt l [i]) a' w) (opsAt l s.floats) a w

/-- What a plan has to keep. -/
def Plan.ok (p : Plan) (l : List Oper) (N : Nat) : Bool :=
  let n := l.length
  let dst (j : Nat) : Option Nat := (l[j]?).bind (·.dst)
  decide (p.effs.Nodup) && (p.effs.all fun e => decide (e < n)) &&
  (List.range n).all fun i => match l[i]? with
    | none => true
    | some o =>
      -- who stands ahead
      ((List.range n).all fun j => !p.ahead i j || o.after.toList.any fun e => Region.binds .any e && (e.on == j || p.ahead e.on j)) &&
      (o.after.toList.all fun e => !Region.binds .any e || (p.ahead i e.on && decide (e.on < i))) &&
      -- slots
      (match o.dst with | none => true | some d => decide (d < N)) &&
      ((List.range n).all fun j => i == j || dst i == none || !(dst i == dst j)) &&
      ((List.range n).all fun j => match dst j with
        | none => true
        | some t => !(o.looksAt l.toArray).contains t || p.ahead i j || (p.ahead j i && (p.act i || plainKind o))) &&
      (match o.op with | .select .. => false | _ => true) &&
      -- its place
      (if p.act i then
        ((List.range p.effs.length).all fun k => !(p.effs[k]? == some i) || ((List.range n).all fun j => !p.ahead i j || (if p.act j then (List.range k).any (fun m => p.effs[m]? == some j) else decide (p.at_ j ≤ k))) &&
          (match k with | 0 => true | m + 1 => match p.effs[m]? with | some e => p.ahead i e | none => false))
      else
        valueKind o && o.dst.isSome && decide (p.at_ i ≤ p.effs.length) &&
        (match p.at_ i with | 0 => true | m + 1 => match p.effs[m]? with | some e => p.ahead i e | none => false) &&
        ((List.range n).all fun j => !p.ahead i j || (if p.act j then (List.range (p.at_ i)).any (fun m => p.effs[m]? == some j) else decide (p.at_ j ≤ p.at_ i))))

structure PlanOK (p : Plan) (l : List Oper) (N : Nat) : Prop where
  nodup : p.effs.Nodup
  efflt : ∀ e ∈ p.effs, e < l.length
  step : ∀ (i : Nat) (o : Oper) (j : Nat), l[i]? = some o → j < l.length → p.ahead i j = true → ∃ e ∈ o.after, Region.binds .any e = true ∧ (e.on = j ∨ p.ahead e.on j = true)
  dep : ∀ (i : Nat) (o : Oper), l[i]? = some o → ∀ e ∈ o.after, Region.binds .any e = true → p.ahead i e.on = true ∧ e.on < i
  lt : ∀ (i : Nat) (o : Oper) (d : Nat), l[i]? = some o → o.dst = some d → d < N
  one : ∀ (i j : Nat) (oi oj : Oper) (d : Nat), l[i]? = some oi → l[j]? = some oj → oi.dst = some d → oj.dst = some d → i = j
  reads : ∀ (i j : Nat) (oi oj : Oper) (t : Nat), l[i]? = some oi → l[j]? = some oj → oj.dst = some t → t ∈ oi.looksAt l.toArray → p.ahead i j = true ∨ (p.ahead j i = true ∧ (p.act i = true ∨ plainKind oi = true))
  sel : ∀ (i : Nat) (o : Oper), l[i]? = some o → ∀ cs b, o.op ≠ .select cs b
  eff : ∀ i k, p.effs[k]? = some i → (∀ j, j < l.length → p.ahead i j = true → if p.act j = true then ∃ m, m < k ∧ p.effs[m]? = some j else p.at_ j ≤ k) ∧ (∀ m, k = m + 1 → ∃ e, p.effs[m]? = some e ∧ p.ahead i e = true)
  flo : ∀ (i : Nat) (o : Oper), l[i]? = some o → p.act i = false → valueKind o = true ∧ (∃ d, o.dst = some d) ∧ p.at_ i ≤ p.effs.length ∧ (∀ m, p.at_ i = m + 1 → ∃ e, p.effs[m]? = some e ∧ p.ahead i e = true) ∧
    (∀ j, j < l.length → p.ahead i j = true → if p.act j = true then ∃ m, m < p.at_ i ∧ p.effs[m]? = some j else p.at_ j ≤ p.at_ i)

theorem PlanOK.of {p : Plan} {l : List Oper} {N : Nat} (h : p.ok l N = true) : PlanOK p l N := by
  unfold Plan.ok at h
  simp only [Bool.and_eq_true, decide_eq_true_eq, List.all_eq_true, List.mem_range] at h
  obtain ⟨⟨hnd, hlt⟩, hall⟩ := h
  have hat := fun (i : Nat) (o : Oper) (ho : l[i]? = some o) => by
    have h1 := hall i (List.getElem?_eq_some_iff.1 ho).1
    rw [ho] at h1
    simp only [Bool.and_eq_true, List.all_eq_true, List.mem_range] at h1
    exact h1
  have hil : ∀ (i : Nat) (o : Oper), l[i]? = some o → i < l.length := fun i o ho => (List.getElem?_eq_some_iff.1 ho).1
  refine ⟨hnd, fun e he => by simpa using hlt e he, ?_, ?_, ?_, ?_, ?_, ?_, ?_, ?_⟩
  · intro i o j ho hj ha
    have h1 := (hat i o ho).1.1.1.1.1.1 j hj
    rw [ha] at h1
    simp only [Bool.not_true, Bool.false_or, List.any_eq_true, Bool.and_eq_true, Bool.or_eq_true, beq_iff_eq] at h1
    obtain ⟨e, he, h2, h3⟩ := h1
    exact ⟨e, by simpa using he, h2, h3⟩
  · intro i o ho e he hb
    have h1 := (hat i o ho).1.1.1.1.1.2 e (by simpa using he)
    rw [hb] at h1
    simpa using h1
  · intro i o d ho hd
    have h1 := (hat i o ho).1.1.1.1.2
    rw [hd] at h1
    simpa using h1
  · intro i j oi oj d hi hj hdi hdj
    have h1 := (hat i oi hi).1.1.1.2 j (hil j oj hj)
    simpa [hi, hj, hdi, hdj] using h1
  · intro i j oi oj t hi hj hdj ht
    have h1 := (hat i oi hi).1.1.2 j (hil j oj hj)
    rw [hj] at h1
    simp only [Option.bind_some, hdj] at h1
    have h2 : (oi.looksAt l.toArray).contains t = true := by simpa using ht
    rw [h2] at h1
    simpa using h1
  · intro i o ho cs b hc
    have h1 := (hat i o ho).1.2
    rw [hc] at h1
    cases h1
  · intro i k hk
    have hi : i < l.length := by simpa using hlt i (List.mem_of_getElem? hk)
    have h1 := (hat i l[i] (List.getElem?_eq_getElem hi)).2
    have hact : p.act i = true := by simpa [Plan.act] using List.mem_of_getElem? hk
    rw [if_pos hact] at h1
    simp only [List.all_eq_true, List.mem_range] at h1
    have h2 := h1 k (List.getElem?_eq_some_iff.1 hk).1
    rw [hk] at h2
    simp only [beq_self_eq_true, Bool.not_true, Bool.false_or, Bool.and_eq_true, List.all_eq_true, List.mem_range] at h2
    refine ⟨fun j hj ha => ?_, fun m hm => ?_⟩
    · have h3 := h2.1 j hj
      rw [ha] at h3
      by_cases hc : p.act j = true
      · rw [if_pos hc] at h3 ⊢
        simpa using h3
      · rw [if_neg hc] at h3 ⊢
        simpa using h3
    · have h3 := h2.2
      rw [hm] at h3
      simp only at h3
      cases he : p.effs[m]? with
      | none => rw [he] at h3; cases h3
      | some e => rw [he] at h3; exact ⟨e, rfl, h3⟩
  · intro i o ho hact
    have h1 := (hat i o ho).2
    rw [if_neg (by rw [hact]; simp)] at h1
    simp only [Bool.and_eq_true, decide_eq_true_eq, List.all_eq_true, List.mem_range] at h1
    obtain ⟨⟨⟨⟨h2, h3⟩, h4⟩, h5⟩, h6⟩ := h1
    refine ⟨h2, Option.isSome_iff_exists.1 h3, h4, fun m hm => ?_, fun j hj ha => ?_⟩
    · rw [hm] at h5
      simp only at h5
      cases he : p.effs[m]? with
      | none => rw [he] at h5; cases h5
      | some e => rw [he] at h5; exact ⟨e, rfl, h5⟩
    · have h3 := h6 j hj
      rw [ha] at h3
      by_cases hc : p.act j = true
      · rw [if_pos hc] at h3 ⊢
        simpa using h3
      · rw [if_neg hc] at h3 ⊢
        simpa using h3

section
variable {P : Program} {l : List Oper} {p : Plan} {N : Nat}

theorem PlanOK.lower (h : PlanOK p l N) : ∀ (i : Nat) (o : Oper), l[i]? = some o → ∀ j, j < l.length → p.ahead i j = true → j < i := by
  intro i
  induction i using Nat.strongRecOn with
  | ind i ih =>
    intro o ho j hj ha
    obtain ⟨e, he, hb, h1⟩ := h.step i o j ho hj ha
    have h2 := (h.dep i o ho e he hb).2
    have hi : i < l.length := (List.getElem?_eq_some_iff.1 ho).1
    rcases h1 with rfl | h1
    · exact h2
    · have := ih e.on h2 l[e.on] (List.getElem?_eq_getElem (by omega)) j hj h1
      omega
theorem PlanOK.closed (h : PlanOK p l N) {L : Nat → Bool} (hc : Came l.toArray L) : ∀ (i : Nat) (o : Oper), l[i]? = some o → (∀ e ∈ o.after, Region.binds .any e = true → L e.on = true) → ∀ j, j < l.length → p.ahead i j = true → L j = true := by
  intro i
  induction i using Nat.strongRecOn with
  | ind i ih =>
    intro o ho hd j hj ha
    obtain ⟨e, he, hb, h1⟩ := h.step i o j ho hj ha
    have h2 := (h.dep i o ho e he hb).2
    have hi : i < l.length := (List.getElem?_eq_some_iff.1 ho).1
    have h3 := hd e he hb
    rcases h1 with rfl | h1
    · exact h3
    · have hget : l[e.on]? = some l[e.on] := List.getElem?_eq_getElem (by omega)
      exact ih e.on h2 l[e.on] hget (fun e' he' hb' => hc.shut e.on l[e.on] (by simp) h3 e' he' hb') j hj h1
theorem PlanOK.closed' (h : PlanOK p l N) {L : Nat → Bool} (hc : Came l.toArray L) (i : Nat) (o : Oper) (ho : l[i]? = some o) (hl : L i = true) (j : Nat) (hj : j < l.length) (ha : p.ahead i j = true) : L j = true :=
  h.closed hc i o ho (fun e he hb => hc.shut i o (by simpa using ho) hl e he hb) j hj ha

/-- What it yields. -/
def Yld (P : Program) (ops : Array Oper) (o : Oper) (b : Act) (w : World) (v : Value) : Prop :=
  (Region.wanted o (yielded ops b.tmps) = true ∧ (execOp b.eval o).run P w = .ok (.value v) w) ∨ (Region.wanted o (yielded ops b.tmps) = false ∧ v = undef)

theorem floats_walk (h : PlanOK p l N) {Q' : Exit → Act → World → Prop} {R : Act → World → Prop} (hQ : ∀ e a w, Q' e a w → e = .normal ∧ R a w) : ∀ (F : List Nat) (a : Act) (w1 : World),
    (∀ i ∈ F, ∃ o d, l[i]? = some o ∧ valueKind o = true ∧ o.dst = some d) → F.Pairwise (· < ·) → wpList P l.toArray Q' (opsAt l F) a w1 →
    ∃ a' w2, R a' w2 ∧ a'.defers = a.defers ∧ a'.tmps.size = a.tmps.size ∧ (∀ t, (∀ i ∈ F, ∀ o, l[i]? = some o → o.dst ≠ some t) → a'.tmps[t]? = a.tmps[t]?) ∧
      ∀ i ∈ F, ∀ o, l[i]? = some o → plainKind o = true → ∃ b v d, o.dst = some d ∧ (d < a.tmps.size → a'.tmps[d]? = some v) ∧
        (∀ t, (∃ j ∈ F, j < i ∧ ∃ oj, l[j]? = some oj ∧ oj.dst = some t) → b.tmps[t]? = a'.tmps[t]?) ∧ (∀ t, (∀ j ∈ F, j < i → ∀ oj, l[j]? = some oj → oj.dst ≠ some t) → b.tmps[t]? = a.tmps[t]?) ∧
        ∀ w, Yld P l.toArray o b w v := by
  intro F
  induction F with
  | nil =>
    intro a w1 _ _ hw
    exact ⟨a, w1, (hQ _ _ _ hw).2, rfl, rfl, fun _ _ => rfl, fun i hi => by cases hi⟩
  | cons i F ih =>
    intro a w1 hF hP hw
    obtain ⟨o, d, ho, hk, hd⟩ := hF i (List.mem_cons_self ..)
    have hops : opsAt l (i :: F) = o :: opsAt l F := by simp [opsAt, ho]
    rw [hops] at hw
    have hP1 := (List.pairwise_cons.1 hP).1
    have hP2 := (List.pairwise_cons.1 hP).2
    -- the step: some value, and the rest
    have key : ∃ v w3, wpList P l.toArray Q' (opsAt l F) (a.put o.dst v) w3 ∧ (plainKind o = true → ∀ w, Yld P l.toArray o a w v) := by
      simp only [wpList] at hw
      split at hw
      · rename_i hwant
        rcases hw with hw | ⟨_, a9, w9, hw⟩
        · unfold Oper.wp at hw
          cases hr : (execOp a.eval o).run P w1 with
          | ok x w3 =>
            obtain ⟨v, rfl⟩ := value_result hk P w1 w3 x hr
            rw [hr] at hw
            exact ⟨v, w3, hw, fun hp w => .inl ⟨hwant, plain_run hp hr w⟩⟩
          | halt hh w3 =>
            rw [hr] at hw
            cases hh <;> simp only [Oper.upon] at hw
            have := (hQ _ _ _ hw).1
            cases this
        · have := (hQ _ _ _ hw).1
          cases this
      · rename_i hwant
        exact ⟨undef, w1, hw, fun _ _ => .inr ⟨by simpa using hwant, rfl⟩⟩
    obtain ⟨v, w3, hrest, hy⟩ := key
    obtain ⟨a', w2, hR, hdf, hsz, hfree, hall⟩ := ih (a.put o.dst v) w3 (fun j hj => hF j (List.mem_cons_of_mem _ hj)) hP2 hrest
    have hdF : ∀ j ∈ F, ∀ oj, l[j]? = some oj → oj.dst ≠ some d := fun j hj oj hoj e => by
      have := h.one i j o oj d ho hoj hd e
      have := hP1 j hj
      omega
    have hput : ∀ t, t ≠ d → (a.put o.dst v).tmps[t]? = a.tmps[t]? := fun t ht => by rw [hd, put_get_ne _ _ _ _ (Ne.symm ht)]
    refine ⟨a', w2, hR, by rw [hdf, put_defers], by rw [hsz, put_size], fun t ht => ?_, fun j hj oj hoj hp => ?_⟩
    · rw [hfree t fun j hj oj hoj => ht j (List.mem_cons_of_mem _ hj) oj hoj]
      refine hput t fun e => ht i (List.mem_cons_self ..) o ho (by rw [hd, e])
    · rcases List.mem_cons.1 hj with rfl | hj
      · rw [ho] at hoj; cases hoj
        refine ⟨a, v, d, hd, fun hlt => ?_, fun t ⟨j', hj', hlt, _⟩ => ?_, fun t _ => rfl, hy hp⟩
        · rw [hfree d hdF, hd]
          exact put_get_same _ _ _ hlt
        · rcases List.mem_cons.1 hj' with rfl | hj'
          · omega
          · have := hP1 j' hj'; omega
      · obtain ⟨b, v', d', hd', h1, h2, h3, h4⟩ := hall j hj oj hoj hp
        refine ⟨b, v', d', hd', fun hlt => h1 (by rw [put_size]; exact hlt), fun t ⟨j', hj', hlt, oj', hoj', hdj'⟩ => ?_, fun t ht => ?_, h4⟩
        · rcases List.mem_cons.1 hj' with rfl | hj'
          · rw [ho] at hoj'; cases hoj'
            rw [hd] at hdj'; cases hdj'
            rw [h3 _ fun j'' hj'' _ oj'' hoj'' => hdF j'' hj'' oj'' hoj'', hfree _ hdF]
          · exact h2 t ⟨j', hj', hlt, oj', hoj', hdj'⟩
        · rw [h3 t fun j'' hj'' hlt oj'' hoj'' => ht j'' (List.mem_cons_of_mem _ hj'') hlt oj'' hoj'']
          refine hput t fun e => ht i (List.mem_cons_self ..) (hP1 j hj) o ho (by rw [hd, e])

theorem sames_at {ops : Array Oper} {a : Act} {w : World} : ∀ {C : List Nat}, Sames P ops a w (opsAt l C) → ∀ i ∈ C, ∀ o, l[i]? = some o → Same P ops o a w
  | [], _, i, hi, _, _ => by cases hi
  | j :: C, h, i, hi, o, ho => by
    cases hj : l[j]? with
    | none =>
      have e : opsAt l (j :: C) = opsAt l C := by simp [opsAt, hj]
      rw [e] at h
      rcases List.mem_cons.1 hi with rfl | hi
      · rw [hj] at ho; cases ho
      · exact sames_at h i hi o ho
    | some oj =>
      have e : opsAt l (j :: C) = oj :: opsAt l C := by simp [opsAt, hj]
      rw [e] at h
      rcases List.mem_cons.1 hi with rfl | hi
      · rw [hj] at ho; cases ho
        exact h.1
      · exact sames_at h.2 i hi o ho

def doneE (p : Plan) (k j : Nat) : Prop := if p.act j = true then ∃ m, m < k ∧ p.effs[m]? = some j else p.at_ j ≤ k
def doneS (p : Plan) (k j : Nat) : Prop := if p.act j = true then ∃ m, m < k ∧ p.effs[m]? = some j else p.at_ j < k
def Sees (p : Plan) (l : List Oper) (a0 a : Act) (i : Nat) (o : Oper) (b : Act) : Prop :=
  ∀ t ∈ o.looksAt l.toArray, (∀ (j : Nat) (oj : Oper), l[j]? = some oj → oj.dst = some t → (p.ahead i j = true → b.tmps[t]? = a.tmps[t]?) ∧ (p.ahead i j = false → b.tmps[t]? = a0.tmps[t]?)) ∧
    ((∀ (j : Nat) (oj : Oper), l[j]? = some oj → oj.dst ≠ some t) → b.tmps[t]? = a0.tmps[t]?)

/-- Where the plan stands: behind k acts and all that looks behind them. -/
structure Mid (P : Program) (l : List Oper) (p : Plan) (N : Nat) (Q : Exit → Act → World → Prop) (a0 : Act) (k : Nat) (a : Act) (w : World) : Prop where
  size : a.tmps.size = N
  free : ∀ t, (∀ (j : Nat) (oj : Oper), l[j]? = some oj → oj.dst = some t → ¬ doneE p k j) → a.tmps[t]? = a0.tmps[t]?
  plain : ∀ (i : Nat) (o : Oper), l[i]? = some o → p.act i = false → plainKind o = true → p.at_ i ≤ k → ∃ b v d, o.dst = some d ∧ a.tmps[d]? = some v ∧ Sees p l a0 a i o b ∧ ∀ w, Yld P l.toArray o b w v
  checks : ∀ (i : Nat) (o : Oper), l[i]? = some o → p.act i = false → plainKind o = false → p.at_ i ≤ k → (∀ m e, k = m + 1 → p.effs[m]? = some e → p.ahead e i = false) → Same P l.toArray o a w
  next : match p.effs[k]? with
    | none => Q .normal a w
    | some i => wpList P l.toArray (fun e a2 w2 => e = .normal ∧ SeqGo P l Q ((p.segs l).drop (k + 1)) a2 w2) (opsAt l [i]) a w

theorem mid_of (h : PlanOK p l N) {Q : Exit → Act → World → Prop} {a0 a : Act} {w : World} {k : Nat} (hk : k ≤ p.effs.length) (hgo : SeqGo P l Q ((p.segs l).drop k) a w) (hsz : a.tmps.size = N)
    (hfree : ∀ t, (∀ (j : Nat) (oj : Oper), l[j]? = some oj → oj.dst = some t → ¬ doneS p k j) → a.tmps[t]? = a0.tmps[t]?)
    (hplain : ∀ (i : Nat) (o : Oper), l[i]? = some o → p.act i = false → plainKind o = true → p.at_ i < k → ∃ b v d, o.dst = some d ∧ a.tmps[d]? = some v ∧ Sees p l a0 a i o b ∧ ∀ w, Yld P l.toArray o b w v) :
    ∃ a', Mid P l p N Q a0 k a' w ∧ a'.defers = a.defers ∧ ∀ t, (∀ (i : Nat) (o : Oper), l[i]? = some o → p.act i = false → p.at_ i = k → o.dst ≠ some t) → a'.tmps[t]? = a.tmps[t]? := by
  have hlen : (p.segs l).length = p.effs.length + 1 := by simp [Plan.segs]
  have hdrop : (p.segs l).drop k = ⟨p.floatsAt l.length k, p.checksAt l k, p.effs[k]?⟩ :: (p.segs l).drop (k + 1) := by
    rw [List.drop_eq_getElem_cons (by omega)]
    congr 1
    simp [Plan.segs]
  rw [hdrop] at hgo
  simp only [SeqGo] at hgo
  have hmemF : ∀ i, i ∈ p.floatsAt l.length k ↔ i < l.length ∧ p.act i = false ∧ p.at_ i = k := fun i => by simp [Plan.floatsAt]
  obtain ⟨a', w2, ⟨rfl, hsame, hnext⟩, hdf, hsz', hfr, hall⟩ := floats_walk h (R := fun a' w' => w' = w ∧ Sames P l.toArray a' w (opsAt l (p.checksAt l k)) ∧ _) (fun e a w h => h) (p.floatsAt l.length k) a w
    (fun i hi => by
      obtain ⟨h1, h2, h3⟩ := (hmemF i).1 hi
      obtain ⟨h4, ⟨d, h5⟩, _⟩ := h.flo i l[i] (List.getElem?_eq_getElem h1) h2
      exact ⟨l[i], d, List.getElem?_eq_getElem h1, h4, h5⟩)
    (List.Pairwise.sublist List.filter_sublist List.pairwise_lt_range) hgo
  have hfr' : ∀ t, (∀ (i : Nat) (o : Oper), l[i]? = some o → p.act i = false → p.at_ i = k → o.dst ≠ some t) → a'.tmps[t]? = a.tmps[t]? := fun t ht =>
    hfr t fun i hi o ho => ht i o ho ((hmemF i).1 hi).2.1 ((hmemF i).1 hi).2.2
  have hil : ∀ (i : Nat) (o : Oper), l[i]? = some o → i < l.length := fun i o ho => (List.getElem?_eq_some_iff.1 ho).1
  refine ⟨a', ⟨by rw [hsz', hsz], fun t ht => ?_, fun i o ho ha hp hat => ?_, fun i o ho ha hp hat hne => ?_, hnext⟩, hdf, hfr'⟩
  · rw [hfr' t fun i o ho ha hat hd => ht i o ho hd (by unfold doneE; rw [if_neg (by rw [ha]; simp)]; omega)]
    refine hfree t fun j oj hoj hdj hdone => ht j oj hoj hdj ?_
    unfold doneS at hdone
    unfold doneE
    split
    · rename_i hc; rw [if_pos hc] at hdone; exact hdone
    · rename_i hc; rw [if_neg hc] at hdone; omega
  · rcases Nat.lt_or_ge (p.at_ i) k with hlt | hge
    · obtain ⟨b, v, d, hd, hv, hs, hy⟩ := hplain i o ho ha hp hlt
      refine ⟨b, v, d, hd, ?_, fun t ht => ⟨fun j oj hoj hdj => ⟨fun haj => ?_, ((hs t ht).1 j oj hoj hdj).2⟩, (hs t ht).2⟩, hy⟩
      · rw [hfr' d fun i' o' ho' ha' hat' hd' => ?_]
        · exact hv
        · have := h.one i i' o o' d ho ho' hd hd'
          subst this
          omega
      · rw [((hs t ht).1 j oj hoj hdj).1 haj]
        refine (hfr' t fun i' o' ho' ha' hat' hd' => ?_).symm
        obtain rfl := h.one j i' oj o' t hoj ho' hdj hd'
        have hf := (h.flo i o ho ha).2.2.2.2 j (hil j oj hoj) haj
        rw [if_neg (by rw [ha']; simp)] at hf
        omega
    · have hatk : p.at_ i = k := by omega
      obtain ⟨b, v, d, hd, hv, h1, h2, hy⟩ := hall i ((hmemF i).2 ⟨hil i o ho, ha, hatk⟩) o ho hp
      refine ⟨b, v, d, hd, hv (by rw [hsz]; exact h.lt i o d ho hd), fun t ht => ⟨fun j oj hoj hdj => ⟨fun haj => ?_, fun haj => ?_⟩, fun hno => ?_⟩, hy⟩
      · have hf := (h.flo i o ho ha).2.2.2.2 j (hil j oj hoj) haj
        have hlo := h.lower i o ho j (hil j oj hoj) haj
        by_cases hcase : p.act j = false ∧ p.at_ j = k
        · exact h1 t ⟨j, (hmemF j).2 ⟨hil j oj hoj, hcase⟩, hlo, oj, hoj, hdj⟩
        · rw [h2 t fun j' hj' _ oj' hoj' hdj' => by
            obtain rfl := h.one j j' oj oj' t hoj hoj' hdj hdj'
            exact hcase ((hmemF j).1 hj').2]
          refine (hfr' t fun i' o' ho' ha' hat' hd' => ?_).symm
          obtain rfl := h.one j i' oj o' t hoj ho' hdj hd'
          exact hcase ⟨ha', hat'⟩
      · have hr := (h.reads i j o oj t ho hoj hdj ht).resolve_left (by rw [haj]; simp)
        have hlo := h.lower j oj hoj i (hil i o ho) hr.1
        rw [h2 t fun j' hj' hlt oj' hoj' hdj' => by
          obtain rfl := h.one j j' oj oj' t hoj hoj' hdj hdj'
          omega]
        refine hfree t fun j' oj' hoj' hdj' hdone => ?_
        obtain rfl := h.one j j' oj oj' t hoj hoj' hdj hdj'
        unfold doneS at hdone
        by_cases hc : p.act j = true
        · rw [if_pos hc] at hdone
          obtain ⟨m, hm, hem⟩ := hdone
          have hf := (h.eff j m hem).1 i (hil i o ho) hr.1
          rw [if_neg (by rw [ha]; simp)] at hf
          omega
        · rw [if_neg hc] at hdone
          have hf := (h.flo j oj hoj (by simpa using hc)).2.2.2.2 i (hil i o ho) hr.1
          rw [if_neg (by rw [ha]; simp)] at hf
          omega
      · rw [h2 t fun j _ _ oj hoj => hno j oj hoj]
        exact hfree t fun j oj hoj hdj => absurd hdj (hno j oj hoj)
  · refine sames_at hsame i ?_ o ho
    simp only [Plan.checksAt, List.mem_filter, List.mem_range, Bool.and_eq_true, decide_eq_true_eq, ho, ha, hp, Bool.not_false, and_true]
    refine ⟨hil i o ho, ⟨trivial, hat⟩, ?_⟩
    cases k with
    | zero => rfl
    | succ m =>
      simp only
      cases he : p.effs[m]? with
      | none => rfl
      | some e => simp [hne m e rfl he]

/-- The state of the drawn walk: some of what looks has not come up yet. -/
structure Here (P : Program) (l : List Oper) (p : Plan) (N : Nat) (Q : Exit → Act → World → Prop) (a0 : Act) (L : Nat → Bool) (a : Act) (w : World) (k : Nat) (b : Act) : Prop where
  le : k ≤ p.effs.length
  mid : Mid P l p N Q a0 k b w
  defers : a.defers = b.defers
  size : a.tmps.size = N
  acts : ∀ m e, p.effs[m]? = some e → (L e = true ↔ m < k)
  came : ∀ (j : Nat) (o : Oper) (d : Nat), L j = true → l[j]? = some o → o.dst = some d → a.tmps[d]? = b.tmps[d]?
  old : ∀ t, (∀ (j : Nat) (o : Oper), L j = true → l[j]? = some o → o.dst ≠ some t) → a.tmps[t]? = a0.tmps[t]?
  late : ∀ (i : Nat) (o : Oper), l[i]? = some o → p.act i = false → p.at_ i ≤ k → L i = false → ∃ b' v d, o.dst = some d ∧ b.tmps[d]? = some v ∧ Sees p l a0 b i o b' ∧ Yld P l.toArray o b' w v

theorem late_of (h : PlanOK p l N) {Q : Exit → Act → World → Prop} {a0 b : Act} {w : World} {k : Nat} (hm : Mid P l p N Q a0 k b w) {i : Nat} {o : Oper} (ho : l[i]? = some o) (ha : p.act i = false) (hat : p.at_ i ≤ k)
    (hne : ∀ m e, k = m + 1 → p.effs[m]? = some e → p.ahead e i = false) : ∃ b' v d, o.dst = some d ∧ b.tmps[d]? = some v ∧ Sees p l a0 b i o b' ∧ Yld P l.toArray o b' w v := by
  by_cases hp : plainKind o = true
  · obtain ⟨b', v, d, h1, h2, h3, h4⟩ := hm.plain i o ho ha hp hat
    exact ⟨b', v, d, h1, h2, h3, h4 w⟩
  · have hp' : plainKind o = false := by simpa using hp
    have hs := hm.checks i o ho ha hp' hat hne
    obtain ⟨_, ⟨d, hd⟩, _⟩ := h.flo i o ho ha
    have hlt := h.lt i o d ho hd
    have hget : b.tmps[d]? = some (b.tmps.getD d undef) := by
      have := hm.size
      rw [Array.getElem?_eq_getElem (by omega), Array.getD_eq_getD_getElem?, Array.getElem?_eq_getElem (by omega)]
      rfl
    refine ⟨b, b.tmps.getD d undef, d, hd, hget, fun t ht => ⟨fun j oj hoj hdj => ⟨fun _ => rfl, fun hf => ?_⟩, fun hno => ?_⟩, ?_⟩
    · rcases h.reads i j o oj t ho hoj hdj ht with h1 | ⟨_, h1 | h1⟩
      · rw [hf] at h1; cases h1
      · rw [ha] at h1; cases h1
      · rw [hp'] at h1; cases h1
    · exact hm.free t fun j oj hoj hdj => absurd hdj (hno j oj hoj)
    · unfold Same at hs
      rw [hd] at hs
      simp only [Option.getD_some] at hs
      unfold Yld
      by_cases hw : Region.wanted o (yielded l.toArray b.tmps) = true
      · rw [if_pos hw] at hs
        exact .inl ⟨hw, hs⟩
      · rw [if_neg hw] at hs
        exact .inr ⟨by simpa using hw, hs⟩

theorem upon_rel {o : Oper} {a b : Act} (hd : a.defers = b.defers) {K : Act → World → Prop} {Kb : Act → World → Prop} {Q Qb : Exit → Act → World → Prop} (hQb : ∀ e a w, Qb e a w → e = .normal)
    (h : ∀ (a2 b2 : Act) (v : Value) (w2 : World), a2.defers = b2.defers → a2.tmps = (a.put o.dst v).tmps → b2.tmps = (b.put o.dst v).tmps → Kb b2 w2 → K a2 w2) (r : Result Next) (hh : o.upon P b Kb Qb r) : o.upon P a K Q r := by
  have hput : ∀ v, (a.put o.dst v).defers = (b.put o.dst v).defers := fun v => by rw [put_defers, put_defers, hd]
  cases r with
  | ok n w' =>
    cases n <;> simp only [Oper.upon] at hh ⊢
    case value v => exact h _ _ v _ (hput v) rfl rfl hh
    case skip => exact h _ _ undef _ (hput undef) rfl rfl hh
    case defer d =>
      refine h _ _ undef _ ?_ ?_ ?_ hh
      · rw [put_defers, put_defers, hd]
      · cases o.dst <;> rfl
      · cases o.dst <;> rfl
    case enter f args =>
      refine Calls.mono hh fun e w'' he => ?_
      cases e with
      | returned v => exact h _ _ v _ (hput v) rfl rfl he
      | panicked c => have := hQb _ _ _ he; cases this
      | outgrown => obtain ⟨a9, w9, h9⟩ := he; have := hQb _ _ _ h9; cases this
    case row rw args => exact Rows.mono hh fun v w'' he => h _ _ v _ (hput v) rfl rfl he
  | halt x w' =>
    cases x <;> simp only [Oper.upon] at hh ⊢
    case panic v => have := hQb _ _ _ hh; cases this

theorem agree_at (h : PlanOK p l N) {Q : Exit → Act → World → Prop} {a0 a b b' : Act} {w : World} {L : Nat → Bool} {k : Nat} (hc : Came l.toArray L) (hh : Here P l p N Q a0 L a w k b) {i : Nat} {o : Oper} (ho : l[i]? = some o) (hl : L i = false)
    (hdeps : ∀ e ∈ o.after, Region.binds .any e = true → L e.on = true) (hs : Sees p l a0 b i o b') : ∀ t ∈ o.looksAt l.toArray, a.tmps[t]? = b'.tmps[t]? := by
  intro t ht
  have hil : ∀ (i : Nat) (o : Oper), l[i]? = some o → i < l.length := fun i o ho => (List.getElem?_eq_some_iff.1 ho).1
  by_cases hw : ∃ (j : Nat) (oj : Oper), l[j]? = some oj ∧ oj.dst = some t
  · obtain ⟨j, oj, hoj, hdj⟩ := hw
    cases haj : p.ahead i j with
    | true =>
      have hlj := h.closed hc i o ho hdeps j (hil j oj hoj) haj
      rw [hh.came j oj t hlj hoj hdj, ((hs t ht).1 j oj hoj hdj).1 haj]
    | false =>
      have hr := (h.reads i j o oj t ho hoj hdj ht).resolve_left (by rw [haj]; simp)
      rw [((hs t ht).1 j oj hoj hdj).2 haj]
      refine hh.old t fun j' oj' hl' hoj' hdj' => ?_
      obtain rfl := h.one j j' oj oj' t hoj hoj' hdj hdj'
      have := h.closed' hc j oj hoj hl' i (hil i o ho) hr.1
      rw [hl] at this; cases this
  · have hno : ∀ (j : Nat) (oj : Oper), l[j]? = some oj → oj.dst ≠ some t := fun j oj hoj hdj => hw ⟨j, oj, hoj, hdj⟩
    rw [(hs t ht).2 hno, hh.old t fun j oj _ hoj => hno j oj hoj]

theorem region_seq {Q : Exit → Act → World → Prop} {id : Nat} {a0 : Act} {w : World} (p : Plan) (N : Nat) (hm : P.follows .mixedOrders = true) (hlow : lowB l.toArray = true) (hok : p.ok l N = true) (hN : a0.tmps.size = N)
    (hgo : SeqGo P l Q (p.segs l) a0 w.drew) : (Code.region id l.toArray true).wp P Q a0 w := by
  have h : PlanOK p l N := PlanOK.of hok
  have hil : ∀ (i : Nat) (o : Oper), l[i]? = some o → i < l.length := fun i o ho => (List.getElem?_eq_some_iff.1 ho).1
  refine region_inv hm hlow (fun L a w => ∃ k b, Here P l p N Q a0 L a w k b) ?_ ?_ ?_
  · obtain ⟨b, hmid, hdf, _⟩ := mid_of h (a0 := a0) (a := a0) (k := 0) (Nat.zero_le _) (by simpa using hgo) hN (fun _ _ => rfl) (fun i o _ _ _ hlt => absurd hlt (Nat.not_lt_zero _))
    exact ⟨0, b, ⟨Nat.zero_le _, hmid, hdf.symm, hN, (fun m e he => by simp), (fun j o d hl => by cases hl), (fun _ _ => rfl), fun i o ho ha hat _ => late_of h hmid ho ha hat (fun m e hk => by omega)⟩⟩
  · rintro L a w i o ho hli hdeps hc ⟨k, b, hh⟩
    have ho' : l[i]? = some o := by simpa using ho
    have hdeps' : ∀ e ∈ o.after, Region.binds .any e = true → L e.on = true := hdeps
    unfold wpOp
    rw [ho]
    simp only
    cases ha : p.act i with
    | false =>
      obtain ⟨hval, ⟨d, hd⟩, hle, hprev, hplace⟩ := h.flo i o ho' ha
      have hat : p.at_ i ≤ k := by
        cases hk : p.at_ i with
        | zero => omega
        | succ m =>
          obtain ⟨e, he, hae⟩ := hprev m hk
          have := h.closed hc i o ho' hdeps' e (h.efflt e (List.mem_of_getElem? he)) hae
          have := (hh.acts m e he).1 this
          omega
      obtain ⟨b', v, d', hd', hv, hs, hy⟩ := hh.late i o ho' ha hat hli
      rw [hd] at hd'; cases hd'
      have hag := agree_at h hc hh ho' hli hdeps' hs
      have hex : execOp a.eval o = execOp b'.eval o := execOp_same o (h.sel i o ho') hag
      have hwa : Region.wanted o (yielded l.toArray a.tmps) = Region.wanted o (yielded l.toArray b'.tmps) := wanted_same o hag
      have hnew : ∃ k b, Here P l p N Q a0 (fun j => L j || j == i) (a.put o.dst v) w k b := by
        refine ⟨k, b, ⟨hh.le, hh.mid, by rw [put_defers, hh.defers], by rw [put_size, hh.size], fun m e he => ?_, fun j oj dj hj hoj hdj => ?_, fun t ht => ?_, fun i' o' ho' ha' hat' hl' => ?_⟩⟩
        · have hne : (e == i) = false := by
            refine Bool.eq_false_iff.2 fun hb => ?_
            have hb' : e = i := by simpa using hb
            subst hb'
            have : p.act e = true := by simpa [Plan.act] using List.mem_of_getElem? he
            rw [ha] at this; cases this
          simp only [hne, Bool.or_false]
          exact hh.acts m e he
        · rw [hd]
          simp only [Bool.or_eq_true, beq_iff_eq] at hj
          rcases hj with hj | rfl
          · by_cases hdd : dj = d
            · subst hdd
              obtain rfl := h.one j i oj o dj hoj ho' hdj hd
              rw [hj] at hli; cases hli
            · rw [put_get_ne _ _ _ _ (Ne.symm hdd)]
              exact hh.came j oj dj hj hoj hdj
          · rw [ho'] at hoj; cases hoj
            rw [hd] at hdj; cases hdj
            rw [put_get_same _ _ _ (by rw [hh.size]; exact h.lt j o d ho' hd), hv]
        · have htd : d ≠ t := fun e => ht i o (by simp) ho' (by rw [hd, e])
          rw [hd, put_get_ne _ _ _ _ htd]
          exact hh.old t fun j oj hj hoj => ht j oj (by simp [hj]) hoj
        · simp only [Bool.or_eq_false_iff] at hl'
          exact hh.late i' o' ho' ha' hat' hl'.1
      rcases hy with ⟨hwant, hrun⟩ | ⟨hwant, rfl⟩
      · rw [hwa, if_pos hwant]
        refine .inl ?_
        unfold Oper.wp
        rw [hex, hrun]
        exact hnew
      · rw [hwa, if_neg (by rw [hwant]; simp)]
        exact hnew
    | true =>
      obtain ⟨k', hk'lt, hk'⟩ : ∃ k', k' < p.effs.length ∧ p.effs[k']? = some i := by
        have : i ∈ p.effs := by simpa [Plan.act] using ha
        obtain ⟨k', hlt, he⟩ := List.getElem_of_mem this
        exact ⟨k', hlt, by rw [List.getElem?_eq_getElem hlt, he]⟩
      have hkk : k' = k := by
        have h1 : ¬ k' < k := fun hlt => by
          have := (hh.acts k' i hk').2 hlt
          rw [hli] at this; cases this
        cases k' with
        | zero => omega
        | succ m =>
          obtain ⟨e, he, hae⟩ := (h.eff i (m + 1) hk').2 m rfl
          have := h.closed hc i o ho' hdeps' e (h.efflt e (List.mem_of_getElem? he)) hae
          have := (hh.acts m e he).1 this
          omega
      subst hkk
      have hnext := hh.mid.next
      rw [hk'] at hnext
      simp only at hnext
      have hops : opsAt l [i] = [o] := by simp [opsAt, ho']
      rw [hops] at hnext
      have hinj : ∀ m e, p.effs[m]? = some e → e = i → m = k' := fun m e he hei => by
        subst hei
        obtain ⟨hm1, hm2⟩ := List.getElem?_eq_some_iff.1 he
        obtain ⟨hk1, hk2⟩ := List.getElem?_eq_some_iff.1 hk'
        exact (List.getElem_inj h.nodup).1 (hm2.trans hk2.symm)
      have hs : Sees p l a0 b i o b := fun t ht => ⟨fun j oj hoj hdj => ⟨fun _ => rfl, fun hf => by
          have hr := (h.reads i j o oj t ho' hoj hdj ht).resolve_left (by rw [hf]; simp)
          refine hh.mid.free t fun j' oj' hoj' hdj' hdone => ?_
          obtain rfl := h.one j j' oj oj' t hoj hoj' hdj hdj'
          unfold doneE at hdone
          by_cases hc' : p.act j = true
          · rw [if_pos hc'] at hdone
            obtain ⟨m, hm', hem⟩ := hdone
            have := h.closed' hc j oj hoj ((hh.acts m j hem).2 hm') i (hil i o ho') hr.1
            rw [hli] at this; cases this
          · rw [if_neg hc'] at hdone
            have hf' := (h.flo j oj hoj (by simpa using hc')).2.2.2.2 i (hil i o ho') hr.1
            rw [if_pos ha] at hf'
            obtain ⟨m, hm', hem⟩ := hf'
            have := hinj m i hem rfl
            omega⟩, fun hno => hh.mid.free t fun j oj hoj hdj => absurd hdj (hno j oj hoj)⟩
      have hag := agree_at h hc hh ho' hli hdeps' hs
      have hex : execOp a.eval o = execOp b.eval o := execOp_same o (h.sel i o ho') hag
      have hwa : Region.wanted o (yielded l.toArray a.tmps) = Region.wanted o (yielded l.toArray b.tmps) := wanted_same o hag
      have hnd : ∀ (j : Nat) (oj : Oper) (t : Nat), l[j]? = some oj → oj.dst = some t → doneE p k' j → o.dst ≠ some t := fun j oj t hoj hdj hdone hdt => by
        obtain rfl := h.one j i oj o t hoj ho' hdj hdt
        unfold doneE at hdone
        rw [if_pos ha] at hdone
        obtain ⟨m, hm', hem⟩ := hdone
        have := hinj m j hem rfl
        omega
      have cont : ∀ (a2 b2 : Act) (v : Value) (w2 : World), a2.defers = b2.defers → a2.tmps = (a.put o.dst v).tmps → b2.tmps = (b.put o.dst v).tmps → SeqGo P l Q ((p.segs l).drop (k' + 1)) b2 w2 →
          ∃ k b, Here P l p N Q a0 (fun j => L j || j == i) a2 w2 k b := by
        intro a2 b2 v w2 hdf ha2 hb2 hgo2
        have hbput : ∀ t, o.dst ≠ some t → b2.tmps[t]? = b.tmps[t]? := fun t ht => by
          rw [hb2]
          cases hd : o.dst with
          | none => rfl
          | some d => exact put_get_ne _ _ _ _ fun e => ht (by rw [hd, e])
        have haput : ∀ t, o.dst ≠ some t → a2.tmps[t]? = a.tmps[t]? := fun t ht => by
          rw [ha2]
          cases hd : o.dst with
          | none => rfl
          | some d => exact put_get_ne _ _ _ _ fun e => ht (by rw [hd, e])
        obtain ⟨b3, hmid3, hdf3, hfr3⟩ := mid_of h (a0 := a0) (a := b2) (w := w2) (k := k' + 1) (by omega) hgo2 (by rw [hb2, put_size, hh.mid.size])
          (fun t ht => by
            have hne : o.dst ≠ some t := fun hd => ht i o ho' hd (by unfold doneS; rw [if_pos ha]; exact ⟨k', by omega, hk'⟩)
            rw [hbput t hne]
            refine hh.mid.free t fun j oj hoj hdj hdone => ht j oj hoj hdj ?_
            unfold doneE at hdone
            unfold doneS
            split
            · rename_i hc'; rw [if_pos hc'] at hdone
              obtain ⟨m, hm', hem⟩ := hdone
              exact ⟨m, by omega, hem⟩
            · rename_i hc'; rw [if_neg hc'] at hdone; omega)
          (fun i' o2 ho2 ha2' hp2 hlt2 => by
            obtain ⟨b', v', d', h1, h2, h3, h4⟩ := hh.mid.plain i' o2 ho2 ha2' hp2 (by omega)
            refine ⟨b', v', d', h1, ?_, fun t ht => ⟨fun j oj hoj hdj => ⟨fun haj => ?_, ((h3 t ht).1 j oj hoj hdj).2⟩, (h3 t ht).2⟩, h4⟩
            · rw [hbput d' (hnd i' o2 d' ho2 h1 (by unfold doneE; rw [if_neg (by rw [ha2']; simp)]; omega))]
              exact h2
            · rw [((h3 t ht).1 j oj hoj hdj).1 haj]
              refine (hbput t (hnd j oj t hoj hdj ?_)).symm
              have hf := (h.flo i' o2 ho2 ha2').2.2.2.2 j (hil j oj hoj) haj
              unfold doneE
              split
              · rename_i hc'; rw [if_pos hc'] at hf
                obtain ⟨m, hm', hem⟩ := hf
                exact ⟨m, by omega, hem⟩
              · rename_i hc'; rw [if_neg hc'] at hf; omega)
        refine ⟨k' + 1, b3, ⟨by omega, hmid3, by rw [hdf, hdf3], by rw [ha2, put_size, hh.size], fun m e he => ?_, fun j oj d hj hoj hdj => ?_, fun t ht => ?_, fun i' o2 ho2 ha2' hat2 hl2 => ?_⟩⟩
        · by_cases hei : e = i
          · have := hinj m e he hei
            subst hei
            simp [this]
          · have hb : (e == i) = false := by simpa using hei
            simp only [hb, Bool.or_false]
            rw [hh.acts m e he]
            constructor
            · intro h1; omega
            · intro h1
              rcases Nat.lt_or_ge m k' with h2 | h2
              · exact h2
              · have : m = k' := by omega
                subst this
                rw [hk'] at he; cases he
                exact absurd rfl hei
        · have hb3 : b3.tmps[d]? = b2.tmps[d]? := hfr3 d fun i' o2 ho2 ha2' hat2 hd2 => by
            obtain rfl := h.one j i' oj o2 d hoj ho2 hdj hd2
            obtain ⟨e, he, hae⟩ := (h.flo j oj hoj ha2').2.2.2.1 k' hat2
            rw [hk'] at he; cases he
            simp only [Bool.or_eq_true, beq_iff_eq] at hj
            rcases hj with hj | rfl
            · have := h.closed' hc j oj hoj hj i (hil i o ho') hae
              rw [hli] at this; cases this
            · rw [ha] at ha2'; cases ha2'
          rw [hb3]
          simp only [Bool.or_eq_true, beq_iff_eq] at hj
          by_cases hdo : o.dst = some d
          · rw [ha2, hb2, hdo, put_get_same _ _ _ (by rw [hh.size]; exact h.lt i o d ho' hdo), put_get_same _ _ _ (by rw [hh.mid.size]; exact h.lt i o d ho' hdo)]
          · rcases hj with hj | rfl
            · rw [haput d hdo, hbput d hdo]
              exact hh.came j oj d hj hoj hdj
            · rw [ho'] at hoj; cases hoj
              exact absurd hdj hdo
        · have hne : o.dst ≠ some t := fun hd => ht i o (by simp) ho' hd
          rw [haput t hne]
          exact hh.old t fun j oj hj hoj => ht j oj (by simp [hj]) hoj
        · refine late_of h hmid3 ho2 ha2' hat2 fun m e hk1 he => ?_
          obtain rfl : m = k' := by omega
          rw [hk'] at he; cases he
          simp only [Bool.or_eq_false_iff] at hl2
          refine Bool.eq_false_iff.2 fun hb => ?_
          have := h.closed hc i o ho' hdeps' i' (hil i' o2 ho2) hb
          rw [hl2.1] at this; cases this
      simp only [wpList] at hnext
      by_cases hw : Region.wanted o (yielded l.toArray b.tmps) = true
      · rw [if_pos hw] at hnext
        rw [hwa, if_pos hw]
        rcases hnext with hnext | ⟨_, a9, w9, h9⟩
        · refine .inl ?_
          unfold Oper.wp at hnext ⊢
          rw [hex]
          exact upon_rel hh.defers (fun e a w h => h.1) (fun a2 b2 v w2 h1 h2 h3 h4 => cont a2 b2 v w2 h1 h2 h3 h4.2) _ hnext
        · cases h9.1
      · rw [if_neg hw] at hnext
        rw [hwa, if_neg hw]
        exact cont _ _ undef _ (by rw [put_defers, put_defers, hh.defers]) rfl rfl hnext.2
  · rintro L a w hall ⟨k, b, hh⟩
    have hkm : k = p.effs.length := by
      rcases Nat.lt_or_ge k p.effs.length with hlt | hge
      · have he : p.effs[k]? = some p.effs[k] := List.getElem?_eq_getElem hlt
        have := (hh.acts k _ he).1 (hall _ (by simpa using h.efflt _ (List.mem_of_getElem? he)))
        omega
      · have := hh.le; omega
    have hnext := hh.mid.next
    rw [List.getElem?_eq_none (by omega)] at hnext
    simp only at hnext
    have hab : a = b := by
      refine act_ext hh.defers (by rw [hh.size, hh.mid.size]) fun t _ => ?_
      by_cases hw : ∃ (j : Nat) (oj : Oper), l[j]? = some oj ∧ oj.dst = some t
      · obtain ⟨j, oj, hoj, hdj⟩ := hw
        exact hh.came j oj t (hall j (by simpa using hil j oj hoj)) hoj hdj
      · have hno : ∀ (j : Nat) (oj : Oper), l[j]? = some oj → oj.dst ≠ some t := fun j oj hoj hdj => hw ⟨j, oj, hoj, hdj⟩
        rw [hh.old t fun j oj _ hoj => hno j oj hoj, hh.mid.free t fun j oj hoj hdj => absurd hdj (hno j oj hoj)]
    rw [hab]
    exact hnext

theorem region_plan {Q : Exit → Act → World → Prop} {id : Nat} {a0 : Act} {w : World} (p : Plan) (segs : List Seg) (N : Nat) (hm : P.follows .mixedOrders = true) (hlow : lowB l.toArray = true) (hok : p.ok l N = true) (hs : p.segs l = segs) (hN : a0.tmps.size = N)
    (hgo : SeqGo P l Q segs a0 w.drew) : (Code.region id l.toArray true).wp P Q a0 w := region_seq p N hm hlow hok hN (by rw [hs]; exact hgo)
theorem opsAt_nil (l : List Oper) : opsAt l [] = [] := rfl
theorem opsAt_cons (l : List Oper) (i : Nat) (r : List Nat) : opsAt l (i :: r) = (l[i]?).toList ++ opsAt l r := by
  unfold opsAt
  cases h : l[i]? <;> simp [h]
end
end Go.Proofs.YtdgpchacfdlleaaDoor
end

section
/-
  A piece of a slice that reads as a list.
-/
namespace Go.Proofs.YtdgpchacfdlleaaDoor
open Go.RowKit

/-- A piece, from i to k. -/
theorem Rd.sub {w : World} {A : Option Addr} {n c : Nat} {xs : List Value} (h : Rd w (.slice A n c) xs) (i k : Nat) (hik : i ≤ k) (hk : k ≤ xs.length) (A' : Option Addr) (hA : A' = if c = i then A else A.map (·.add i)) :
    Rd w (.slice A' (k - i) (c - i)) ((xs.drop i).take (k - i)) := by
  obtain ⟨A0, c0, hv, h1, h2, h0, h3⟩ := h
  injection hv with e1 e2 e3
  subst e1 e2 e3
  have hl : ((xs.drop i).take (k - i)).length = k - i := by rw [List.length_take, List.length_drop]; omega
  refine ⟨A', c - i, by rw [hl], by rw [hl]; omega, by omega, fun hn => ?_, ?_⟩
  · subst hA
    by_cases hc : c = i
    · omega
    · rw [if_neg hc] at hn
      have := h0 (by simpa using hn)
      omega
  · rcases h3 with rfl | ⟨b, o, rfl, h3⟩
    · left; simp
    · by_cases hc : c = i
      · left
        rw [List.drop_of_length_le (by omega)]
        simp
      · right
        rw [if_neg hc] at hA
        refine ⟨b, o + i, ?_, fun j hj => ?_⟩
        · rw [hA]
          simp only [Option.map_some, Addr.add]
          split
          · next h => subst h; rfl
          · rfl
        · rw [hl] at hj
          rw [Nat.add_assoc, h3 (i + j) (by omega), List.getElem_take, List.getElem_drop]

/-- What is known of a slice that is held by its name. -/
theorem len_fact {P : Program} {w : World} {v : Value} {xs : List Value} (h : Rd w v xs) {t ty : TypeId} (ht : P.underlying t = some (.slice (P.elem t))) : ∀ w', (Builtin.len_ #[t] ty #[v]).run P w' = .ok (goInt xs.length) w' := by
  obtain ⟨A, c, rfl, _⟩ := h
  intro w'
  exact run_len_slice (w := w') t ty A _ c ht
theorem sub_fact {P : Program} {w : World} {v : Value} {xs : List Value} (h : Rd w v xs) {t : TypeId} (ht : P.underlying t = some (.slice (P.elem t))) (hsz : ∀ w, (sizeOf (P.elem t)).run P w = .ok 1 w) (i k : Nat) (hik : i ≤ k) (hk : k ≤ xs.length) :
    ∃ v', Rd w v' ((xs.drop i).take (k - i)) ∧ (∀ w', (Instr.sliceAt t v (some (.int .i64 i)) (some (.int .i64 k)) none).run P w' = .ok v' w') ∧ (∀ w', (Instr.slice t v (some (.int .i64 i)) (some (.int .i64 k)) none).run P w' = .ok v' w') ∧
      (i = 0 → ∀ w', (Instr.sliceAt t v none (some (.int .i64 k)) none).run P w' = .ok v' w') ∧ (i = 0 → ∀ w', (Instr.slice t v none (some (.int .i64 k)) none).run P w' = .ok v' w') ∧
      (k = xs.length → ∀ w', (Instr.sliceAt t v (some (.int .i64 i)) none none).run P w' = .ok v' w') ∧ (k = xs.length → ∀ w', (Instr.slice t v (some (.int .i64 i)) none none).run P w' = .ok v' w') := by
  have h0 := h
  obtain ⟨A, c, rfl, h1, h2, _⟩ := h
  have f1 : ∀ w', (Instr.slice t (.slice A xs.length c) (some (.int .i64 i)) (some (.int .i64 k)) none).run P w' = .ok (.slice (if c = i then A else A.map (·.add i)) (k - i) (c - i)) w' := fun w' => by
    rw [run_slice_lh (w := w') t A _ c ht .i64 .i64 i k (by omega) (by omega) (by omega), hsz]
    simp [Result.andThen, sliced]
  have f2 : i = 0 → ∀ w', (Instr.slice t (.slice A xs.length c) none (some (.int .i64 k)) none).run P w' = .ok (.slice (if c = i then A else A.map (·.add i)) (k - i) (c - i)) w' := fun hi w' => by
    subst hi
    rw [run_slice_h (w := w') t A _ c ht .i64 k (by omega) (by omega), hsz]
    simp [Result.andThen, sliced]
  have f3 : k = xs.length → ∀ w', (Instr.slice t (.slice A xs.length c) (some (.int .i64 i)) none none).run P w' = .ok (.slice (if c = i then A else A.map (·.add i)) (k - i) (c - i)) w' := fun hi w' => by
    subst hi
    rw [run_slice_l (w := w') t A _ c ht .i64 i (by omega) (by omega), hsz]
    simp [Result.andThen, sliced]
  refine ⟨_, h0.sub i k hik hk _ rfl, fun w' => ?_, f1, fun hi w' => ?_, f2, fun hi w' => ?_, f3⟩
  · rw [run_sliceAt_slice (w := w') t _ _ _ _ ht]; exact f1 w'
  · rw [run_sliceAt_slice (w := w') t _ _ _ _ ht]; exact f2 hi w'
  · rw [run_sliceAt_slice (w := w') t _ _ _ _ ht]; exact f3 hi w'

/-- append behind a guard that holds. -/
theorem wp_app_g {P : Program} {ops : Array Oper} {rest : List Oper} {o : Oper} {a : Act} {Q : Exit → Act → World → Prop} {w : World} (s x : Operand) (t : TypeId) (hgd : Region.wanted o (yielded ops a.tmps) = true)
    (ho : o.op = .call { callee := .builtin .append, args := #[s, x], argTypes := #[t, t] }) (e : TypeId) (z : Value) (bytes : Nat) (ht : P.underlying t = some (.slice e))
    (hinfo : (P.info? e).map (fun i => (i.zero, i.size, i.bytes)) = some (some z, 1, bytes)) (hzs : z.cells.size = 1) (base : Nat) {v u : Value} {n : Nat} {xs ys : List Value} (hs : a.eval s = v) (hown : w.ownsRow base e 1 v n xs)
    (hx : a.eval x = u) (hr : Rd w u ys) (h1 : ∀ y ∈ ys, y.oneCell' = true) (hb1 : 1 ≤ bytes) (hbytes : (n + ys.length) * bytes ≤ 140737488355328) (hbase : base ≤ w.heap.size)
    (h : ∀ v' w', w'.ownsRow base e 1 v' (n + ys.length) (xs ++ ys) → Below base w w' → wpList P ops Q rest (a.put o.dst v') w') : wpList P ops Q (o :: rest) a w :=
  wpList_step fun K hK => by
    rw [if_pos hgd]
    exact upon_app s x t ho e z bytes ht hinfo hzs base hs hown hx hr h1 hb1 hbytes hbase fun v' w' h2 h3 => hK _ _ (h v' w' h2 h3)
/-- A new row without cells. -/
theorem own_empty (w : World) (e : TypeId) : (w.alloc (.cells #[] e)).ownsRow w.heap.size e 1 (.slice (some ⟨w.heap.size, 0, none⟩) 0 0) 0 [] :=
  ⟨rfl, .inr ⟨w.heap.size, 0, #[], rfl, Nat.le_refl _, Blk.mk_ (cs := []) w rfl rfl, Nat.le_refl _, Nat.zero_le _, rfl, rfl⟩⟩

/-- A load of a piece of a block, in each later world. -/
theorem load_fact {P : Program} {w : World} {b : Nat} {cs : List Value} {t : TypeId} (h : Blk w b cs t) (ty : TypeId) (off : Nat) {ys : List Value} (hy : (cs.drop off).take ys.length = ys) {d : TypeDesc} (hu : P.underlying ty = some d)
    (hd : (match d with | .struct _ | .array _ _ => true | _ => false) = true) {n : Nat} (hi : (P.info? ty).map (·.size) = some n) (hn : ys.length = n) :
    ∀ w', Below w.heap.size w w' → (loadVar ty ⟨b, off, none⟩).run P w' = .ok (.agg ys.toArray) w' := fun w' hb =>
  run_loadVar_sub w' ty ((h.stay hb).part off hy) hu hd hi hn
/-- An operation behind a guard that holds, whose run is known. -/
theorem wp_value_g {P : Program} {ops : Array Oper} {rest : List Oper} {o : Oper} {a : Act} {w : World} {Q : Exit → Act → World → Prop} {v : Value} (hgd : Region.wanted o (yielded ops a.tmps) = true) (hr : (execOp a.eval o).run P w = .ok (.value v) w) (h : wpList P ops Q rest (a.put o.dst v) w) : wpList P ops Q (o :: rest) a w :=
  wpList_step fun K hK => by
    rw [if_pos hgd]
    show o.upon P a K Q ((execOp a.eval o).run P w)
    rw [hr]
    exact hK _ _ h

theorem exec_load_f {P : Program} {w : World} {o : Oper} {ρ : Operand → Value} {ty : TypeId} {x : Operand} (ho : o.op = .load ty x) {p : Addr} (hx : ρ x = .pointer (some p)) {v : Value} (hf : (loadVar ty p).run P w = .ok v w) : (execOp ρ o).run P w = .ok (.value v) w := by
  unfold execOp
  simp only [ho, hx, Instr.loadAt, Instr.sureAddr, Sem.run_bind, Sem.run_pure, Result.andThen_ok, hf]
theorem wp_load_f {P : Program} {ops : Array Oper} {rest : List Oper} {o : Oper} {a : Act} {w : World} {Q : Exit → Act → World → Prop} (hgd : Region.wanted o (yielded ops a.tmps) = true) (ty : TypeId) (x : Operand) (ho : o.op = .load ty x) {p : Addr} (hx : a.eval x = .pointer (some p)) {v : Value}
    (hf : (loadVar ty p).run P w = .ok v w) (h : wpList P ops Q rest (a.put o.dst v) w) : wpList P ops Q (o :: rest) a w := wp_value_g hgd (exec_load_f ho hx hf) h
theorem same_load {P : Program} {ops : Array Oper} {o : Oper} {a : Act} {w : World} (hgd : Region.wanted o (yielded ops a.tmps) = true) (ty : TypeId) (x : Operand) (ho : o.op = .load ty x) {p : Addr} (hx : a.eval x = .pointer (some p)) {v : Value} (hf : (loadVar ty p).run P w = .ok v w)
    (hv : a.tmps.getD (o.dst.getD 0) undef = v) : Same P ops o a w := by
  unfold Same
  rw [if_pos hgd, hv]
  exact exec_load_f ho hx hf
end Go.Proofs.YtdgpchacfdlleaaDoor
end

section
/-
  Slices of the call's own that may begin anywhere in their arrays, and append onto them.
-/
namespace Go.Proofs.YtdgpchacfdlleaaDoor
open Go.RowKit

/-- The slice lies in block b. -/
def hold (v : Value) (b : Nat) : Prop := ∃ off n c, v = .slice (some ⟨b, off, none⟩) n c
/-- A slice of the call's own: it may begin anywhere in its array. -/
def Part (w : World) (base : Nat) (e : TypeId) (v : Value) (xs : List Value) : Prop :=
  (v = .slice none 0 0 ∧ xs = []) ∨ ∃ g off cap cur, v = .slice (some ⟨g, off, none⟩) xs.length cap ∧ base ≤ g ∧ w.heap[g]? = some (.cells cur e (0, 0)) ∧ xs.length ≤ cap ∧ cap ≤ maxLen ∧ off + cap ≤ cur.size ∧ (cur.toList.drop off).take xs.length = xs
theorem Part.nil (w : World) (base : Nat) (e : TypeId) : Part w base e (.slice none 0 0) [] := .inl ⟨rfl, rfl⟩
theorem Part.rd {w : World} {base : Nat} {e : TypeId} {v : Value} {xs : List Value} (h : Part w base e v xs) : Rd w v xs := by
  rcases h with ⟨rfl, rfl⟩ | ⟨g, off, cap, cur, rfl, _, hg, h1, h2, h3, h4⟩
  · exact Rd.nil w
  · refine ⟨_, cap, rfl, h1, h2, (fun h => by cases h), .inr ⟨g, off, rfl, fun j hj => ?_⟩⟩
    have h5 : ((cur.toList.drop off).take xs.length)[j]? = some xs[j] := by rw [h4]; exact List.getElem?_eq_getElem hj
    rw [List.getElem?_take_of_lt hj, List.getElem?_drop] at h5
    simp only [World.cell?, hg]
    rw [← Array.getElem?_toList]
    simpa using h5
theorem Part.mono {w : World} {base base' : Nat} {e : TypeId} {v : Value} {xs : List Value} (h : Part w base e v xs) (hb : base' ≤ base) : Part w base' e v xs := by
  rcases h with h | ⟨g, off, cap, cur, h1, h2, h3⟩
  · exact .inl h
  · exact .inr ⟨g, off, cap, cur, h1, Nat.le_trans hb h2, h3⟩
theorem Part.move {w w' : World} {base : Nat} {e : TypeId} {v : Value} {xs : List Value} (h : Part w base e v xs) (hm : ∀ g off n c, v = .slice (some ⟨g, off, none⟩) n c → w'.heap[g]? = w.heap[g]?) : Part w' base e v xs := by
  rcases h with h | ⟨g, off, cap, cur, h1, h2, h3, h4⟩
  · exact .inl h
  · exact .inr ⟨g, off, cap, cur, h1, h2, (hm g off _ _ h1).trans h3, h4⟩
theorem Part.lt {w : World} {base : Nat} {e : TypeId} {v : Value} {xs : List Value} (h : Part w base e v xs) : ∀ g off n c, v = .slice (some ⟨g, off, none⟩) n c → base ≤ g ∧ g < w.heap.size := by
  intro g off n c hv
  rcases h with ⟨rfl, _⟩ | ⟨g', off', cap, cur, rfl, h2, h3, _⟩
  · cases hv
  · cases hv
    exact ⟨h2, (Array.getElem?_eq_some_iff.1 h3).1⟩
theorem Part.stay {w w' : World} {base : Nat} {e : TypeId} {v : Value} {xs : List Value} (h : Part w base e v xs) (hb : Below w.heap.size w w') : Part w' base e v xs :=
  h.move fun g off n c hv => hb.block g (h.lt g off n c hv).2
/-- The rest of it, from i on. -/
theorem Part.drop {w : World} {base : Nat} {e : TypeId} {A : Option Addr} {n c : Nat} {xs : List Value} (h : Part w base e (.slice A n c) xs) (i : Nat) (hi : i ≤ xs.length) (A' : Option Addr) (hA : A' = if c = i then A else A.map (·.add i)) : Part w base e (.slice A' (xs.length - i) (c - i)) (xs.drop i) := by
  rcases h with ⟨hv, rfl⟩ | ⟨g, off, cap, cur, hv, h2, h3, h4, h5, h6, h7⟩
  · cases hv
    simp at hi
    subst hi
    left
    subst hA
    exact ⟨rfl, rfl⟩
  · injection hv with e1 e2 e3
    subst e1 e3
    right
    have hl : (xs.drop i).length = xs.length - i := List.length_drop
    by_cases hc : c = i
    · rw [if_pos hc] at hA
      subst hA
      have hx : xs.drop i = [] := List.drop_of_length_le (by omega)
      refine ⟨g, off, c - i, cur, by rw [hl], h2, h3, by rw [hl]; omega, by omega, by omega, ?_⟩
      rw [hx]; simp
    · rw [if_neg hc] at hA
      refine ⟨g, off + i, c - i, cur, ?_, h2, h3, by rw [hl]; omega, by omega, by omega, ?_⟩
      · rw [hl, hA]
        simp only [Option.map_some, Addr.add]
        split
        · next h => subst h; rfl
        · rfl
      · rw [hl]
        have h8 := congrArg (List.drop i) h7
        rw [List.drop_take, List.drop_drop] at h8
        exact h8

theorem run_append_room_at {P : Program} (w : World) (t ty e : TypeId) (i : TypeInfo) (ht : P.underlying t = some (.slice e)) (hi : P.info? e = some i) (hs : i.size = 1)
    (g off sLen sCap : Nat) (cur : Array Value) (hg : w.heap[g]? = some (.cells cur e (0, 0)))
    (a : Addr) (m c : Nat) (news : List Value) (hl : news.length = m) (hnews : ∀ j u, news[j]? = some u → w.cell? (a.add j) = some u) (h1 : ∀ u ∈ news, u.oneCell' = true)
    (hroom : sLen + m ≤ sCap) (hfit : off + sLen + news.length ≤ cur.size) :
    (Builtin.append_ #[t, t] ty #[.slice (some ⟨g, off, none⟩) sLen sCap, .slice (some a) m c]).run P w =
      .ok (.slice (some ⟨g, off, none⟩) (sLen + m) sCap) (w.setRow g (cur.toList.take (off + sLen) ++ news ++ cur.toList.drop (off + sLen + news.length)).toArray) := by
  have hf := run_firstCells_some (P := P) w i.size m a m c news (by rw [hs, Nat.mul_one]; exact hl) hnews
  rw [hs] at hf
  have hst := run_storeCells_at (P := P) g (off + sLen) e news 0 cur w hg (by simpa using hfit) h1
  simp only [Nat.add_zero] at hst
  have hadd : (⟨g, off, none⟩ : Addr).add sLen = ⟨g, off + sLen, none⟩ := by unfold Addr.add; split <;> simp_all
  simp [Builtin.append_, run_underlying ht, sizeOf, typeInfo, hi, Builtin.lenOf, hroom, hf, hs, hadd, hst]

/-- append onto a slice of the call's own. -/
theorem run_app_part {P : Program} {w : World} (t ty e : TypeId) (z : Value) (bytes : Nat) (ht : P.underlying t = some (.slice e))
    (hinfo : (P.info? e).map (fun i => (i.zero, i.size, i.bytes)) = some (some z, 1, bytes)) (hzs : z.cells.size = 1) (base : Nat) {v u : Value} {xs ys : List Value} (hown : Part w base e v xs)
    (hr : Rd w u ys) (h1 : ∀ y ∈ ys, y.oneCell' = true) (hb1 : 1 ≤ bytes) (hbytes : (xs.length + ys.length) * bytes ≤ 140737488355328) (hbase : base ≤ w.heap.size) :
    ∃ v' w', (Builtin.append_ #[t, t] ty #[v, u]).run P w = .ok v' w' ∧ Part w' base e v' (xs ++ ys) ∧ Turns (fun k => ∃ off n c, v = .slice (some ⟨k, off, none⟩) n c) w w' ∧
      ∀ g off n c, v' = .slice (some ⟨g, off, none⟩) n c → w.heap.size ≤ g ∨ ∃ off n c, v = .slice (some ⟨g, off, none⟩) n c := by
  rcases hown with ⟨rfl, rfl⟩ | ⟨g, off, cap, cur, rfl, hbg, hg, hc, hm, hs, hx⟩
  · obtain ⟨v', w', h4, h5, h6⟩ := run_app (P := P) (w := w) t ty e z bytes ht hinfo hzs w.heap.size (World.ownsRow_nil w _ _ _) hr h1 hb1 (by simpa using hbytes) (Nat.le_refl _)
    refine ⟨v', w', h4, ?_, Turns.of_below h6, ?_⟩
    · rcases h5.2 with ⟨rfl, h7⟩ | ⟨g, cap, cur, rfl, h7, h8, h9, h10, h11, h12⟩
      · left
        refine ⟨rfl, ?_⟩
        have := h5.1
        simp only [Nat.mul_one, List.nil_append, Nat.zero_add] at this h7 ⊢
        exact List.eq_nil_of_length_eq_zero (by omega)
      · right
        have hl : ([] ++ ys).length = ys.length := by simp
        refine ⟨g, 0, cap, cur, by simp, Nat.le_trans hbase h7, h8, by simpa using h9, h10, by omega, ?_⟩
        simp only [Nat.mul_one] at h12
        rw [List.drop_zero]
        simpa using h12
    · intro g off n c hv
      left
      rcases h5.2 with ⟨rfl, h7⟩ | ⟨g, cap, cur, rfl, h7, _⟩
      · cases hv
      · cases hv; exact h7
  · obtain ⟨i, hi, hz0, hz1, hz2⟩ := info_parts hinfo
    have hR : ∀ j y, xs[j]? = some y → w.cell? ((⟨g, off, none⟩ : Addr).add j) = some y := fun j y hj => by
      have hp : Part w base e (.slice (some ⟨g, off, none⟩) xs.length cap) xs := .inr ⟨g, off, cap, cur, rfl, hbg, hg, hc, hm, hs, hx⟩
      have hadd : (⟨g, off, none⟩ : Addr).add j = ⟨g, off + j, none⟩ := by unfold Addr.add; split <;> simp_all
      obtain ⟨A, c', hv, _, _, _, h3⟩ := hp.rd
      cases hv
      obtain ⟨hlt, rfl⟩ := List.getElem?_eq_some_iff.1 hj
      rcases h3 with h3 | ⟨b, o, hA, h3⟩
      · subst h3; simp at hlt
      · cases hA
        rw [hadd]
        exact h3 j hlt
    have h63 : xs.length + ys.length ≤ 140737488355328 := Nat.le_trans (Nat.le_mul_of_pos_right _ hb1) hbytes
    obtain ⟨A, c, rfl, hc1, hc2, h0, h3⟩ := hr
    cases A with
    | none =>
      obtain rfl : c = 0 := h0 rfl
      obtain rfl : ys = [] := List.eq_nil_of_length_eq_zero (by omega)
      refine ⟨.slice (some ⟨g, off, none⟩) xs.length cap, w, ?_, by rw [List.append_nil]; exact .inr ⟨g, off, cap, cur, rfl, hbg, hg, hc, hm, hs, hx⟩, Turns.refl _ _, fun g' off' n' c' hv => .inr ⟨_, _, _, hv⟩⟩
      simp [Builtin.append_, run_underlying ht, sizeOf, typeInfo, hi, Builtin.lenOf, Builtin.firstCells, loadCells, hc, storeCells]
    | some ad =>
      have hn : ∀ j u, ys[j]? = some u → w.cell? (ad.add j) = some u := by
        intro j y hj
        rcases h3 with rfl | ⟨b, o', hA, h3⟩
        · simp at hj
        · obtain rfl : ad = ⟨b, o', none⟩ := by simpa using hA
          obtain ⟨hlt, rfl⟩ := List.getElem?_eq_some_iff.1 hj
          rw [← h3 j hlt]
          congr 1
          unfold Addr.add; split <;> simp_all
      by_cases hroom : xs.length + ys.length ≤ cap
      · have hrun := run_append_room_at (P := P) w t ty e i ht hi hz1 g off xs.length cap cur hg ad ys.length c ys rfl hn h1 hroom (by omega)
        refine ⟨_, _, hrun, .inr ⟨g, off, cap, _, by rw [List.length_append], hbg, setRow_heap w g cur _ e (0, 0) hg, by rw [List.length_append]; exact hroom, hm, ?_, ?_⟩, Turns.of_only (Only.row w g _) ⟨off, _, _, rfl⟩, fun g' off' n' c' hv => by cases hv; exact .inr ⟨_, _, _, rfl⟩⟩
        · have : cur.toList.length = cur.size := Array.length_toList
          simp only [List.size_toArray, List.length_append, List.length_take, List.length_drop, this]
          omega
        · have hcl : cur.toList.length = cur.size := Array.length_toList
          have hto : (cur.toList.take (off + xs.length)).length = off + xs.length := by rw [List.length_take]; omega
          have h8 : (cur.toList.take (off + xs.length)).drop off = xs := by
            rw [List.drop_take, Nat.add_sub_cancel_left]; exact hx
          rw [List.toList_toArray, List.length_append, List.append_assoc, List.drop_append_of_le_length (by omega), h8, ← List.append_assoc]
          rw [List.take_append_of_le_length (by rw [List.length_append]; exact Nat.le_refl _), List.take_of_length_le (by rw [List.length_append]; exact Nat.le_refl _)]
      · have hrun := run_append_grow (P := P) (w := w) t ty e i z ht hi hz0 ⟨g, off, none⟩ xs.length cap xs (by rw [hz1, Nat.mul_one]) hR ad ys.length c ys (by rw [hz1, Nat.mul_one]) hn (by omega) (by omega) (by rw [hz2]; exact growslice_fits (by omega) hbytes)
        have hge := grownCap_ge w (xs.length + ys.length) cap e
        refine ⟨_, _, hrun, .inr ⟨w.heap.size, 0, _, _, by rw [List.length_append], hbase, heap_alloc_new w.drew _, by rw [List.length_append]; exact hge, grownCap_le_maxLen w _ _ e (by unfold maxLen; omega), ?_, ?_⟩, ?_, fun g' off' n' c' hv => by cases hv; exact .inl (Nat.le_refl _)⟩
        · simp only [Array.size_append, List.size_toArray, size_zeroCells, hzs]
          omega
        · simp only [Array.toList_append, List.drop_zero]
          rw [List.length_append, List.take_append_of_le_length (by simp), List.take_of_length_le (by simp)]
        · exact Turns.of_below (bw_al (bw_d1 (Below.refl _ _)) (Nat.le_refl _) _)

theorem wp_app_part {P : Program} {ops : Array Oper} {rest : List Oper} {o : Oper} {a : Act} {Q : Exit → Act → World → Prop} {w : World} (s x : Operand) (t : TypeId) (hgd : o.guard = none)
    (ho : o.op = .call { callee := .builtin .append, args := #[s, x], argTypes := #[t, t] }) (e : TypeId) (z : Value) (bytes : Nat) (ht : P.underlying t = some (.slice e))
    (hinfo : (P.info? e).map (fun i => (i.zero, i.size, i.bytes)) = some (some z, 1, bytes)) (hzs : z.cells.size = 1) (base : Nat) {v u : Value} {xs ys : List Value} (hs : a.eval s = v) (hown : Part w base e v xs)
    (hx : a.eval x = u) (hr : Rd w u ys) (h1 : ∀ y ∈ ys, y.oneCell' = true) (hb1 : 1 ≤ bytes) (hbytes : (xs.length + ys.length) * bytes ≤ 140737488355328) (hbase : base ≤ w.heap.size)
    (h : ∀ v' w', Part w' base e v' (xs ++ ys) → Turns (fun k => ∃ off n c, v = .slice (some ⟨k, off, none⟩) n c) w w' → (∀ g off n c, v' = .slice (some ⟨g, off, none⟩) n c → w.heap.size ≤ g ∨ ∃ off n c, v = .slice (some ⟨g, off, none⟩) n c) → wpList P ops Q rest (a.put o.dst v') w') : wpList P ops Q (o :: rest) a w :=
  wpList_plain hgd fun K hK => by
    obtain ⟨v', w', h4, h5, h6, h7⟩ := run_app_part (P := P) t o.type e z bytes ht hinfo hzs base hown hr h1 hb1 hbytes hbase
    show o.upon P a K Q ((execOp a.eval o).run P w)
    simp [execOp, ho, resolve, invoke, builtin, hs, hx, h4, Result.andThen]
    exact hK _ _ (h _ _ h5 h6 h7)
end Go.Proofs.YtdgpchacfdlleaaDoor

/-
  (*poly.part).fill.
-/
namespace Go.Proofs.YtdgpchacfdlleaaDoor
open Go.RowKit

theorem info33 : (Tryd.prog.info? 24).map (fun i => (i.zero, i.size, i.bytes)) = some (some (.slice none 0 0), 1, 24) := by kernel_rfl
theorem Rd.turns {S : Nat → Prop} {w w' : World} {v : Value} {xs : List Value} (h : Rd w v xs) (k : Turns S w w') (hn : ∀ b o n c, v = .slice (some ⟨b, o, none⟩) n c → ¬ S b) : Rd w' v xs := by
  obtain ⟨A, c, rfl, h1, h2, h0, h3⟩ := h
  refine ⟨A, c, rfl, h1, h2, h0, ?_⟩
  rcases h3 with h3 | ⟨b, o, rfl, h3⟩
  · exact .inl h3
  · exact .inr ⟨b, o, rfl, fun j hj => k.cell (hn b o _ _ rfl) (h3 j hj)⟩
theorem Part.turns {S : Nat → Prop} {w w' : World} {base : Nat} {e : TypeId} {v : Value} {xs : List Value} (h : Part w base e v xs) (k : Turns S w w') (hn : ∀ b, base ≤ b → ¬ S b) : Part w' base e v xs :=
  h.move fun g off n c hv => k.block g (h.lt g off n c hv).2 (hn g (h.lt g off n c hv).1)
/-- The first i of it. -/
theorem Part.take {w : World} {base : Nat} {e : TypeId} {A : Option Addr} {n c : Nat} {xs : List Value} (h : Part w base e (.slice A n c) xs) (i : Nat) (hi : i ≤ xs.length) (h0 : 0 < xs.length) : Part w base e (.slice A i c) (xs.take i) := by
  rcases h with ⟨hv, rfl⟩ | ⟨g, off, cap, cur, hv, h2, h3, h4, h5, h6, h7⟩
  · simp at h0
  · injection hv with e1 e2 e3
    subst e1 e3
    have hl : (xs.take i).length = i := by rw [List.length_take]; omega
    refine .inr ⟨g, off, c, cur, by rw [hl], h2, h3, by rw [hl]; omega, h5, h6, ?_⟩
    have h8 := congrArg (List.take i) h7
    rw [List.take_take, Nat.min_eq_left hi] at h8
    rw [hl, h8]

/-- The first i of it, and the rest: as they run. -/
theorem part_facts {P : Program} {w : World} {base : Nat} {e : TypeId} {v : Value} {xs : List Value} (h : Part w base e v xs) {t : TypeId} (ht : P.underlying t = some (.slice (P.elem t))) (hsz : ∀ w, (sizeOf (P.elem t)).run P w = .ok 1 w) (i : Nat) (h0 : 0 < i) (hi : i ≤ xs.length) :
    ∃ A2 c2 A3 c3, Part w base e (.slice A2 i c2) (xs.take i) ∧ Part w base e (.slice A3 (xs.length - i) c3) (xs.drop i) ∧
      (∀ w', (Instr.sliceAt t v none (some (.int .i64 i)) none).run P w' = .ok (.slice A2 i c2) w') ∧ (∀ w', (Instr.slice t v none (some (.int .i64 i)) none).run P w' = .ok (.slice A2 i c2) w') ∧
      (∀ w', (Instr.sliceAt t v (some (.int .i64 i)) none none).run P w' = .ok (.slice A3 (xs.length - i) c3) w') ∧ (∀ w', (Instr.slice t v (some (.int .i64 i)) none none).run P w' = .ok (.slice A3 (xs.length - i) c3) w') ∧ (∀ b, hold (.slice A3 (xs.length - i) c3) b → hold v b) := by
  obtain ⟨A, c, rfl, h1, h2, h3, _⟩ := id h.rd
  have f2 : ∀ w', (Instr.slice t (.slice A xs.length c) none (some (.int .i64 i)) none).run P w' = .ok (.slice A i c) w' := fun w' => by
    rw [run_slice_h (w := w') t A _ c ht .i64 i (by omega) (by omega), hsz]
    have hc0 : A.map (fun a => a.add 0) = A := by cases A <;> simp [Addr.add]
    simp [Result.andThen, sliced, hc0]
  have f3 : ∀ w', (Instr.slice t (.slice A xs.length c) (some (.int .i64 i)) none none).run P w' = .ok (.slice (if c = i then A else A.map (·.add i)) (xs.length - i) (c - i)) w' := fun w' => by
    rw [run_slice_l (w := w') t A _ c ht .i64 i (by omega) (by omega), hsz]
    simp [Result.andThen, sliced]
  refine ⟨A, c, _, _, h.take i hi (by omega), h.drop i hi _ rfl, fun w' => ?_, f2, fun w' => ?_, f3, fun b ⟨off, n, c', hh⟩ => ?_⟩
  · rw [run_sliceAt_slice (w := w') t _ _ _ _ ht]; exact f2 w'
  · rw [run_sliceAt_slice (w := w') t _ _ _ _ ht]; exact f3 w'
  · injection hh with e1 e2 e3
    rcases A with _ | a
    · simp at e1
    · rcases h with ⟨hv, _⟩ | ⟨g', off', cap, cur, hv, _⟩
      · cases hv
      · injection hv with hv _ _
        injection hv with hv
        subst hv
        split at e1
        · injection e1 with e1; injection e1 with e1; subst e1; exact ⟨_, _, _, rfl⟩
        · simp only [Option.map_some, Option.some.injEq] at e1
          have e2 := congrArg Addr.block e1
          have e3 : (Addr.add ⟨g', off', none⟩ i).block = g' := by unfold Addr.add; split <;> rfl
          rw [e3] at e2
          subst e2
          exact ⟨_, _, _, rfl⟩

theorem Turns.low {S : Nat → Prop} {w0 w w' : World} (h : Turns S w0 w) (k : Below w0.heap.size w w') : Turns S w0 w' :=
  ⟨k.os.trans h.os, k.tape.trans h.tape, k.output.trans h.output, Nat.le_trans h.size k.size, fun j hj hs => (k.block j hj).trans (h.block j hj hs)⟩
/-- A row of the call's own, while a block ahead of it is written. -/
theorem own_other {w : World} {base n : Nat} {e : TypeId} {v : Value} {xs : List Value} (h : w.ownsRow base e 1 v n xs) {b : Nat} (hb : b < base) (i : Nat) (x : Value) : (w.setCell ⟨b, i, none⟩ x).ownsRow base e 1 v n xs := by
  refine ⟨h.1, h.2.imp id ?_⟩
  rintro ⟨g, cap, cur, h1, h2, h3, h4⟩
  exact ⟨g, cap, cur, h1, h2, (Below.heap_setCell _ _ _ _ (by show g ≠ b; omega)).trans h3, h4⟩
end Go.Proofs.YtdgpchacfdlleaaDoor
end

section
/-
  A struct appended to a row of structs of the call's own, of whatever size.
-/
namespace Go.Proofs.YtdgpchacfdlleaaDoor
open Go.RowKit

theorem wp_app_struct {ops : Array Oper} {rest : List Oper} {o : Oper} {a : Act} {Q : Exit → Act → World → Prop} {w : World} (t T : TypeId) (sz nb : Nat) (z : Value) (s x : Operand) (hgd : o.guard = none)
    (ho : o.op = .call { callee := .builtin .append, args := #[s, x], argTypes := #[t, t] }) (ht : Tryd.prog.underlying t = some (.slice T)) (hin : (Tryd.prog.info? T).map (fun i => (i.zero, i.size, i.bytes)) = some (some z, sz, nb)) (hzs : z.cells.size = sz) (hsz : 0 < sz) (hnb : nb ≤ 1000)
    (base : Nat) {v : Value} {n : Nat} {xs cs : List Value} (hs : a.eval s = v) (hown : w.ownsRow base T sz v n xs) {g : Nat}
    (hx : a.eval x = .slice (some ⟨g, 0, none⟩) 1 1) (hb : Blk w g cs T) (hcs : cs.length = sz) (h1 : ∀ u ∈ cs, u.oneCell' = true) (hn : n ≤ 100000) (hbase : base ≤ w.heap.size)
    (h : ∀ v' w', w'.ownsRow base T sz v' (n + 1) (xs ++ cs) → Below base w w' → w.grownBy w' v.ownBlock → wpList Tryd.prog ops Q rest (a.put o.dst v') w') : wpList Tryd.prog ops Q (o :: rest) a w := by
  obtain ⟨i, hi, hz0, hz1, hz2⟩ := info_parts hin
  refine wpList_append_own w hgd s x t ho base T i z sz nb ht hi hz0 hz1 hz2 hzs hsz v n xs hs hown ⟨g, 0, none⟩ 1 1 cs hx (by omega) ?_ h1 (by unfold maxLen; omega) (Nat.le_trans (Nat.mul_le_mul_left _ hnb) (by omega)) hbase (fun v' w' h2 h3 _ => h v' w' h2 ((Below.refl base w).grown h3 hbase (fun k hk => (hown.lt k hk).1)) h3)
  intro j u hj
  have h2 := hb.at_ j hj
  unfold Addr.add
  split
  · next h0 => subst h0; exact h2
  · simpa using h2
/-- A row that turned in nothing but what was put behind it, or lies anew. -/
theorem row_new {w : World} {base n sz : Nat} {e : TypeId} {v : Value} {xs : List Value} (h : w.ownsRow base e sz v n xs) {b : Nat} (hb : hold v b) : base ≤ b ∧ b < w.heap.size := by
  obtain ⟨o, m, c, rfl⟩ := hb
  rcases h.2 with ⟨h1, _⟩ | ⟨g, cap, cur, h1, h2, h3, _⟩
  · cases h1
  · cases h1
    have h4 := h3
    exact ⟨h2, (Array.getElem?_eq_some_iff.1 h4).1⟩
theorem row_turns {S : Nat → Prop} {w w' : World} {base n sz : Nat} {e : TypeId} {v : Value} {xs : List Value} (h : w.ownsRow base e sz v n xs) (k : Turns S w w') (hS : ∀ b, hold v b → ¬ S b) : w'.ownsRow base e sz v n xs := by
  refine ⟨h.1, ?_⟩
  rcases h.2 with h1 | ⟨g, cap, cur, h1, h2, h3, h4⟩
  · exact .inl h1
  · refine .inr ⟨g, cap, cur, h1, h2, ?_, h4⟩
    have h5 := h3
    rw [k.block g (Array.getElem?_eq_some_iff.1 h5).1 (hS g ⟨_, _, _, h1⟩)]
    exact h3
/-- A cell of a row. -/
theorem row_cell {w : World} {base n sz : Nat} {e : TypeId} {v : Value} {xs : List Value} (h : w.ownsRow base e sz v n xs) {i : Nat} {x : Value} (hi : xs[i]? = some x) : ∃ g cap, v = .slice (some ⟨g, 0, none⟩) n cap ∧ w.cell? ⟨g, i, none⟩ = some x ∧ n ≤ cap ∧ cap ≤ maxLen := by
  have hlt := (List.getElem?_eq_some_iff.1 hi).1
  rcases h.2 with ⟨_, h1⟩ | ⟨g, cap, cur, h1, h2, h3, h4, h5, h6, h7⟩
  · subst h1; have := h.1; omega
  · refine ⟨g, cap, h1, ?_, h4, h5⟩
    rw [← h7, List.getElem?_take_of_lt (by have := h.1; omega)] at hi
    simp only [World.cell?, h3]
    simpa using hi
theorem flat_len {α : Type} (f : α → List Value) (sz : Nat) (hf : ∀ a, (f a).length = sz) : ∀ l : List α, (l.flatMap f).length = l.length * sz
  | [] => by simp
  | a :: r => by
    rw [List.flatMap_cons, List.length_append, hf, flat_len f sz hf r, List.length_cons, Nat.add_mul]
    omega
theorem flat_get {α : Type} (f : α → List Value) (sz : Nat) (hf : ∀ a, (f a).length = sz) : ∀ (l : List α) (i : Nat) (a : α), l[i]? = some a → ∀ j, j < sz → (l.flatMap f)[i * sz + j]? = (f a)[j]?
  | [], i, a, h, _, _ => by simp at h
  | b :: r, 0, a, h, j, hj => by
    cases h
    rw [List.flatMap_cons, Nat.zero_mul, Nat.zero_add, List.getElem?_append_left (by rw [hf]; exact hj)]
  | b :: r, i + 1, a, h, j, hj => by
    have ih := flat_get f sz hf r i a h j hj
    rw [List.flatMap_cons, List.getElem?_append_right (by rw [hf, Nat.add_mul]; omega), hf, ← ih]
    congr 1
    rw [Nat.add_mul]; omega
/-- What is read stays, if nothing of it has turned. -/
theorem Rd.moves {S : Nat → Prop} {w w' : World} {v : Value} {xs : List Value} (h : Rd w v xs) (k : Turns S w w') (hn : ∀ b, hold v b → ¬ S b) : Rd w' v xs := by
  by_cases hx : xs = []
  · obtain ⟨A, c, rfl, h1, h2, h0, _⟩ := h
    exact ⟨A, c, rfl, h1, h2, h0, .inl hx⟩
  · exact h.turns k fun b o n c hv => hn b ⟨o, n, c, hv⟩
end Go.Proofs.YtdgpchacfdlleaaDoor
end

section
/-
  A struct appended to a row of structs: where the row lies then.
-/
namespace Go.Proofs.YtdgpchacfdlleaaDoor
open Go.RowKit

theorem hold_own {v : Value} {k : Nat} (h : some k = v.ownBlock) (hs : ∃ A n c, v = .slice A n c) (hp : ∀ a n c, v = .slice (some a) n c → a.spot = none) : hold v k := by
  obtain ⟨A, n, c, rfl⟩ := hs
  cases A with
  | none => simp [Value.ownBlock] at h
  | some a =>
    obtain ⟨b, o, s⟩ := a
    have := hp _ _ _ rfl
    simp only at this
    subst this
    simp [Value.ownBlock] at h
    subst h
    exact ⟨_, _, _, rfl⟩
theorem run_app_row {P : Program} (w : World) (base : Nat) (t ty e : TypeId) (i : TypeInfo) (z : Value) (size bytes : Nat) (ht : P.underlying t = some (.slice e)) (hi : P.info? e = some i) (hz : i.zero = some z)
    (hsize : i.size = size) (hby : i.bytes = bytes) (hzs : z.cells.size = size) (hsz : 0 < size)
    (v : Value) (n : Nat) (xs : List Value) (hown : w.ownsRow base e size v n xs)
    (a : Addr) (m c : Nat) (news : List Value) (hl : news.length = m * size) (hnews : ∀ j u, news[j]? = some u → w.cell? (a.add j) = some u) (h1 : ∀ u ∈ news, u.oneCell' = true)
    (h63 : n + m ≤ maxLen) (hbytes : (n + m) * bytes ≤ 140737488355328) (hbase : base ≤ w.heap.size) :
    ∃ v' w', (Builtin.append_ #[t, t] ty #[v, .slice (some a) m c]).run P w = .ok v' w' ∧ w'.ownsRow base e size v' (n + m) (xs ++ news) ∧ Turns (hold v) w w' ∧ ∀ b, hold v' b → hold v b ∨ w.heap.size ≤ b := by
  have toT : ∀ w', w.grownBy w' v.ownBlock → Turns (hold v) w w' := fun w' h => ⟨h.os, h.tape, h.output, h.size, fun k hk hn => h.block k hk fun e => hn (hold_own e (by
    rcases hown.2 with ⟨rfl, _⟩ | ⟨g, cap, cur, rfl, _⟩
    · exact ⟨_, _, _, rfl⟩
    · exact ⟨_, _, _, rfl⟩) (by
    intro a n c hv
    rcases hown.2 with ⟨rfl, _⟩ | ⟨g, cap, cur, rfl, _⟩
    · cases hv
    · cases hv; rfl))⟩
  rcases hown.2 with ⟨rfl, rfl⟩ | ⟨g, cap, cur, rfl, hbg, hg, hnc, hcm, hcs, htake⟩
  · have hx : xs = [] := List.eq_nil_of_length_eq_zero (by simpa using hown.1)
    subst hx
    obtain ⟨v', w', h2, h3, h4, _⟩ := run_append_own (P := P) w w.heap.size t ty e i z size bytes ht hi hz hsize hby hzs hsz (.slice none 0 0) 0 [] (World.ownsRow_nil _ _ _ _) a m c news hl hnews h1 h63 hbytes (Nat.le_refl _)
    refine ⟨v', w', h2, ?_, toT w' h4, fun b hb => .inr (row_new h3 hb).1⟩
    exact ⟨h3.1, h3.2.imp id fun ⟨g, cap, cur, q1, q2, q3⟩ => ⟨g, cap, cur, q1, Nat.le_trans hbase q2, q3⟩⟩
  · obtain ⟨v', w', h2, h3, h4, _⟩ := run_append_own (P := P) w base t ty e i z size bytes ht hi hz hsize hby hzs hsz _ n xs hown a m c news hl hnews h1 h63 hbytes hbase
    refine ⟨v', w', h2, h3, toT w' h4, fun b hb => ?_⟩
    subst hsize
    subst hby
    by_cases hroom : n + m ≤ cap
    · have hfit : n * i.size + news.length ≤ cur.size := by rw [hl, hcs, ← Nat.add_mul]; exact Nat.mul_le_mul_right _ hroom
      have hr := run_append_room (P := P) w t ty e i ht hi g n cap cur hg a m c news hl hnews h1 hroom hfit
      rw [hr] at h2
      injection h2 with h2 _
      subst h2
      obtain ⟨o, n', c', hb⟩ := hb
      cases hb
      exact .inl ⟨_, _, _, rfl⟩
    · have holds : ∀ j u, xs[j]? = some u → w.cell? ((⟨g, 0, none⟩ : Addr).add j) = some u := hown.cells (g := g) rfl
      have hsmall : n + m ≤ 9223372036854775807 := by simp only [maxLen] at h63; omega
      have hr := run_append_grow (P := P) w t ty e i z ht hi hz ⟨g, 0, none⟩ n cap xs hown.1 holds a m c news hl hnews (by omega) (by omega) (growslice_fits (by omega) hbytes)
      rw [hr] at h2
      injection h2 with h2 _
      subst h2
      obtain ⟨o, n', c', hb⟩ := hb
      cases hb
      exact .inr (Nat.le_refl _)
theorem wp_app_row {ops : Array Oper} {rest : List Oper} {o : Oper} {a : Act} {Q : Exit → Act → World → Prop} {w : World} (t T : TypeId) (sz nb : Nat) (z : Value) (s x : Operand) (hgd : o.guard = none)
    (ho : o.op = .call { callee := .builtin .append, args := #[s, x], argTypes := #[t, t] }) (ht : Tryd.prog.underlying t = some (.slice T)) (hin : (Tryd.prog.info? T).map (fun i => (i.zero, i.size, i.bytes)) = some (some z, sz, nb)) (hzs : z.cells.size = sz) (hsz : 0 < sz) (hnb : nb ≤ 1000)
    (base : Nat) {v : Value} {n : Nat} {xs cs : List Value} (hs : a.eval s = v) (hown : w.ownsRow base T sz v n xs) {g : Nat}
    (hx : a.eval x = .slice (some ⟨g, 0, none⟩) 1 1) (hb : Blk w g cs T) (hcs : cs.length = sz) (h1 : ∀ u ∈ cs, u.oneCell' = true) (hn : n ≤ 1000000) (hbase : base ≤ w.heap.size)
    (h : ∀ v' w', w'.ownsRow base T sz v' (n + 1) (xs ++ cs) → Turns (hold v) w w' → (∀ b, hold v' b → hold v b ∨ w.heap.size ≤ b) → wpList Tryd.prog ops Q rest (a.put o.dst v') w') : wpList Tryd.prog ops Q (o :: rest) a w :=
  wpList_plain hgd fun K hK => by
    obtain ⟨i, hi, hz0, hz1, hz2⟩ := info_parts hin
    obtain ⟨v', w', h4, h5, h6, h7⟩ := run_app_row (P := Tryd.prog) w base t o.type T i z sz nb ht hi hz0 hz1 hz2 hzs hsz v n xs hown ⟨g, 0, none⟩ 1 1 cs (by omega) (by
      intro j u hj
      have h2 := hb.at_ j hj
      unfold Addr.add
      split
      · next h0 => subst h0; exact h2
      · simpa using h2) h1 (by unfold maxLen; omega) (Nat.le_trans (Nat.mul_le_mul_left _ hnb) (by omega)) hbase
    show o.upon Tryd.prog a K Q ((execOp a.eval o).run Tryd.prog w)
    simp [execOp, ho, resolve, invoke, builtin, hs, hx, h4, Result.andThen]
    exact hK _ _ (h _ _ h5 h6 h7)
theorem row_slice {w : World} {base n sz : Nat} {e : TypeId} {v : Value} {xs : List Value} (h : w.ownsRow base e sz v n xs) : ∃ A c, v = .slice A n c := by
  rcases h.2 with ⟨h1, h2⟩ | ⟨g, cap, cur, h1, _⟩
  · exact ⟨none, 0, by rw [h1, h2]⟩
  · exact ⟨_, _, h1⟩
theorem row_blk {w : World} {base n sz : Nat} {e : TypeId} {v : Value} {xs : List Value} (h : w.ownsRow base e sz v n xs) {b : Nat} (hb : hold v b) : ∃ cur, w.heap[b]? = some (.cells cur e (0, 0)) := by
  obtain ⟨o, m, c, rfl⟩ := hb
  rcases h.2 with ⟨h1, _⟩ | ⟨g, cap, cur, h1, h2, h3, _⟩
  · cases h1
  · cases h1
    exact ⟨cur, h3⟩
/-- What turned lies in S, or was not there. -/
theorem Turns.new {S S' : Nat → Prop} {w w' w2 : World} (h : Turns S w w') (k : Turns S' w' w2) (hs : ∀ j, S' j → j < w.heap.size → S j) : Turns S w w2 :=
  ⟨k.os.trans h.os, k.tape.trans h.tape, k.output.trans h.output, Nat.le_trans h.size k.size, fun j hj hn => (k.block j (Nat.lt_of_lt_of_le hj h.size) fun h' => hn (hs j h' hj)).trans (h.block j hj hn)⟩
end Go.Proofs.YtdgpchacfdlleaaDoor
end

section
/-
  A map from names to values of whatever kind: it reads as a rising list of names with their values.
-/
namespace Go.Proofs.YtdgpchacfdlleaaDoor
open Go.RowKit Go.ChangeMaps Go.MapKept

abbrev Bt := List UInt8
/-- Any value, told as it is. -/
def tok (v : Value) : Option (DataW Value × List MemPlace) := some (.held v, [])
def FD (fs : List (Bt × Value)) : DataW Value := .map (fs.map fun f => (.string f.1, .held f.2))
def lookF {α : Type} (fs : List (Bt × α)) (x : Bt) : Option α := (fs.find? fun f => f.1 == x).map Prod.snd
def insF {α : Type} (x : Bt × α) : List (Bt × α) → List (Bt × α)
  | [] => [x]
  | y :: r => if bytesBefore x.1 y.1 then x :: y :: r else y :: insF x r
def delF {α : Type} (fs : List (Bt × α)) (x : Bt) : List (Bt × α) := fs.filter fun f => !(f.1 == x)
def putF {α : Type} (fs : List (Bt × α)) (x : Bt) (v : α) : List (Bt × α) := insF (x, v) (delF fs x)
def Rise {α : Type} (fs : List (Bt × α)) : Prop := fs.Pairwise fun a b => bytesBefore a.1 b.1 = true

theorem mem_insF {α : Type} {x y : Bt × α} {fs : List (Bt × α)} : y ∈ insF x fs ↔ y = x ∨ y ∈ fs := by
  induction fs with
  | nil => simp [insF]
  | cons z r ih =>
    unfold insF
    split
    · simp
    · simp [ih]; constructor <;> rintro (h | h | h) <;> simp_all
theorem insF_rise {α : Type} {x : Bt × α} {fs : List (Bt × α)} (h : Rise fs) (hx : ∀ f ∈ fs, f.1 ≠ x.1) : Rise (insF x fs) := by
  induction fs with
  | nil => exact List.pairwise_singleton _ _
  | cons z r ih =>
    obtain ⟨h1, h2⟩ := List.pairwise_cons.1 h
    unfold insF
    split
    · refine List.pairwise_cons.2 ⟨fun a ha => ?_, h⟩
      rcases List.mem_cons.1 ha with rfl | ha
      · assumption
      · exact WideShapes.bytes_trans _ _ _ (by assumption) (h1 a ha)
    · refine List.pairwise_cons.2 ⟨fun a ha => ?_, ih h2 fun f hf => hx f (List.mem_cons_of_mem _ hf)⟩
      rcases mem_insF.1 ha with rfl | ha
      · have := hx z List.mem_cons_self
        rcases WideAt.bytes_total z.1 a.1 this with h | h
        · exact h
        · contradiction
      · exact h1 a ha
theorem delF_rise {α : Type} {fs : List (Bt × α)} (h : Rise fs) (x : Bt) : Rise (delF fs x) := h.sublist List.filter_sublist
theorem mem_delF {α : Type} {fs : List (Bt × α)} {x : Bt} {f : Bt × α} : f ∈ delF fs x ↔ f ∈ fs ∧ f.1 ≠ x := by
  simp [delF]
theorem putF_rise {α : Type} {fs : List (Bt × α)} (h : Rise fs) (x : Bt) (v : α) : Rise (putF fs x v) :=
  insF_rise (delF_rise h x) fun _ hf => (mem_delF.1 hf).2

/-! ### What the model's map is -/
theorem FD_has (fs : List (Bt × Value)) (x : Bt) : Maps.has (FD fs) (.string x) = (lookF fs x).isSome := by
  unfold FD lookF
  rw [Maps.has_eq]
  induction fs with
  | nil => rfl
  | cons f r ih =>
    have e : (Lit.string f.1).sameKey (.string x) = (f.1 == x) := rfl
    rw [List.map_cons, List.any_cons, ih, List.find?_cons]
    simp only [e]
    cases f.1 == x <;> simp
theorem FD_at (fs : List (Bt × Value)) (x : Bt) (z : Value) : (FD fs).atKey (.string x) (.held z) = .held ((lookF fs x).getD z) := by
  unfold FD lookF DataW.atKey
  induction fs with
  | nil => rfl
  | cons f r ih =>
    simp only [List.map_cons, List.find?_cons, Lit.sameKey] at ih ⊢
    cases f.1 == x
    · simpa using ih
    · simp
theorem FD_del (fs : List (Bt × Value)) (x : Bt) : (FD fs).del (.string x) = FD (delF fs x) := by
  unfold FD delF DataW.del
  simp only [List.filter_map]
  congr 1
theorem FD_ins (f : Bt × Value) (fs : List (Bt × Value)) : DataW.insert (.string f.1, .held f.2) (fs.map fun f => (Lit.string f.1, (.held f.2 : DataW Value))) = (insF f fs).map fun f => (Lit.string f.1, (.held f.2 : DataW Value)) := by
  induction fs with
  | nil => rfl
  | cons g r ih =>
    have e : (Lit.string f.1).before (.string g.1) = bytesBefore f.1 g.1 := rfl
    simp only [List.map_cons, DataW.insert, insF, e, ih]
    split <;> simp
theorem FD_put (fs : List (Bt × Value)) (x : Bt) (v : Value) : (FD fs).put (.string x) (.held v) = FD (putF fs x v) := by
  have h := FD_ins (x, v) (delF fs x)
  unfold FD DataW.put putF
  rw [← h]
  simp only [List.filter_map]
  rfl
theorem FD_size (fs : List (Bt × Value)) : Maps.size (FD fs) = fs.length := by simp [FD, Maps.size]
theorem FD_keys (fs : List (Bt × Value)) : strKeys (FD fs) = fs.map Prod.fst := by
  show (fs.map fun f => ((Lit.string f.1, (.held f.2 : DataW Value)) : Lit × DataW Value)).map (fun p => Go.strOf p.1) = _
  rw [List.map_map]
  rfl

/-- A map in a block. -/
def FMap (w : World) (b : Nat) (fs : List (Bt × Value)) : Prop := w.ownsMap Tryd.prog 9 tok b fs.length (FD fs)
theorem FMap.of {w : World} {b n : Nat} {fs : List (Bt × Value)} (h : w.ownsMap Tryd.prog 9 tok b n (FD fs)) : FMap w b fs := by
  obtain ⟨es, clock, hb, F, hs, hD⟩ := h
  refine ⟨es, clock, hb, F, ?_, hD⟩
  have h1 := congrArg Maps.size hD
  rw [FD_size] at h1
  rw [h1]
  simp [Maps.size, length_sorted]
theorem FMap.made (w : World) : FMap (w.alloc (.map #[] 0)) w.heap.size [] := World.ownsMap_made w Tryd.prog 9 tok
theorem FMap.lt {w : World} {b : Nat} {fs : List (Bt × Value)} (h : FMap w b fs) : b < w.heap.size := World.ownsMap.lt h
theorem FMap.keep {w w' : World} {b : Nat} {fs : List (Bt × Value)} (h : FMap w b fs) (hb : w'.heap[b]? = w.heap[b]?) : FMap w' b fs := by
  obtain ⟨es, clock, h1, F, hs, hD⟩ := h
  exact ⟨es, clock, hb.trans h1, F, hs, hD⟩
theorem FMap.stay {w w' : World} {b : Nat} {fs : List (Bt × Value)} (h : FMap w b fs) (hb : Below w.heap.size w w') : FMap w' b fs := h.keep (hb.block b h.lt)
theorem FMap.turns {S : Nat → Prop} {w w' : World} {b : Nat} {fs : List (Bt × Value)} (h : FMap w b fs) (k : Turns S w w') (hn : ¬ S b) : FMap w' b fs := h.keep (k.block b h.lt hn)
theorem strKeyed : Maps.Keyed Tryd.prog 9 := Maps.string_keyed Tryd.underlying9
theorem strKey (s : ByteArray) (hs : s.size ≤ maxLen) : keyOf Tryd.prog 9 (.string s) = some (.string s.data.toList) := by
  exact Go.WideMaps.keyOf_string_mk Tryd.underlying9 hs

/-- 'v, ok := m[k]' and 'm[k]'. -/
theorem FMap.look_ok {w : World} {b : Nat} {fs : List (Bt × Value)} (h : FMap w b fs) {t e : TypeId} (ht : Tryd.prog.underlying t = some (.map 9 e)) {z : Value} (hz : (zeroValue e).run Tryd.prog w = .ok z w) (s : ByteArray) (hs : s.size ≤ maxLen) :
    (Instr.lookup t (.map (some b)) (.string s) true).run Tryd.prog w = .ok (.tuple #[(lookF fs s.data.toList).getD z, .bool (lookF fs s.data.toList).isSome]) w := by
  obtain ⟨v, ps, h1, h2⟩ := World.ownsMap.look_ok h strKeyed ht hz (R := tok) (zd := .held z) (zp := []) rfl (strKey s hs)
  rw [FD_at] at h2
  rw [FD_has] at h1
  have : v = (lookF fs s.data.toList).getD z := by
    unfold tok at h2
    simp at h2
    exact h2.1
  rw [h1, this]
theorem FMap.look {w : World} {b : Nat} {fs : List (Bt × Value)} (h : FMap w b fs) {t e : TypeId} (ht : Tryd.prog.underlying t = some (.map 9 e)) {z : Value} (hz : (zeroValue e).run Tryd.prog w = .ok z w) (s : ByteArray) (hs : s.size ≤ maxLen) :
    (Instr.lookup t (.map (some b)) (.string s) false).run Tryd.prog w = .ok ((lookF fs s.data.toList).getD z) w := by
  obtain ⟨v, ps, h1, h2⟩ := World.ownsMap.lookup h strKeyed ht hz (R := tok) (zd := .held z) (zp := []) rfl (strKey s hs)
  rw [FD_at] at h2
  have : v = (lookF fs s.data.toList).getD z := by
    unfold tok at h2
    simp at h2
    exact h2.1
  rw [h1, this]
theorem turns_map {w w' : World} {b : Nat} (h : w.mapTurned w' b) : Only b w w' := by
  have hg := h.grown
  refine ⟨hg.os, hg.tape, hg.output, ?_, fun k hk => ?_⟩
  · obtain ⟨es, clock, es', clock', hb, rfl⟩ := h
    simp [setBlock]
  · obtain ⟨es, clock, es', clock', hb, rfl⟩ := h
    exact heap_setBlock_other hb _ hk
/-- 'len(m)'. -/
theorem FMap.len {w : World} {b : Nat} {fs : List (Bt × Value)} (h : FMap w b fs) {t e : TypeId} (ht : Tryd.prog.underlying t = some (.map 9 e)) (ty : TypeId) : (Builtin.len_ #[t] ty #[.map (some b)]).run Tryd.prog w = .ok (.int .i64 fs.length) w := by
  have := World.ownsMap.len h ht ty
  rwa [FD_size] at this
section
variable {w : World} {ops : Array Oper} {rest : List Oper} {o : Oper} {a : Act} {Q : Exit → Act → World → Prop}
/-- 'm[k] = v' in a walk. -/
theorem wp_fput {b : Nat} {fs : List (Bt × Value)} (m x v : Operand) (t e : TypeId) (hg : o.guard = none) (hop : o.op = Op.mapUpdate t m x v) (ht : Tryd.prog.underlying t = some (.map 9 e)) (hm : a.eval m = .map (some b)) (h : FMap w b fs) (hl : fs.length < maxLen) {s : ByteArray} {val : Value}
    (hx : a.eval x = .string s) (hv : a.eval v = val) (hs : s.size ≤ maxLen) (hK : ∀ w', FMap w' b (putF fs s.data.toList val) → Only b w w' → wpList Tryd.prog ops Q rest (a.put o.dst undef) w') : wpList Tryd.prog ops Q (o :: rest) a w := by
  refine wpList_mapUpdate_in w hg m x v t hop 9 e strKeyed ht tok b fs.length (FD fs) hm h hl (.string s) val (.string s.data.toList) hx hv (strKey s hs) (.held val) [] rfl fun w' h1 h2 => ?_
  rw [FD_put] at h1
  exact hK w' (FMap.of h1) (turns_map h2)
/-- 'delete(m, k)' in a walk. -/
theorem wp_fdel {b : Nat} {fs : List (Bt × Value)} (m x : Operand) (t e : TypeId) (hg : o.guard = none) (hop : o.op = Op.call { callee := Callee.builtin Builtin.delete, args := #[m, x], argTypes := #[t, 9] }) (ht : Tryd.prog.underlying t = some (.map 9 e)) (hm : a.eval m = .map (some b)) (h : FMap w b fs) {s : ByteArray}
    (hx : a.eval x = .string s) (hs : s.size ≤ maxLen) (hK : ∀ w', FMap w' b (delF fs s.data.toList) → Only b w w' → wpList Tryd.prog ops Q rest (a.put o.dst (.tuple #[])) w') : wpList Tryd.prog ops Q (o :: rest) a w := by
  refine wpList_delete_own w hg m x t 9 hop e strKeyed ht tok b fs.length (FD fs) hm h (.string s) (.string s.data.toList) hx (strKey s hs) fun w' h1 h2 => ?_
  rw [FD_del] at h1
  exact hK w' (FMap.of h1) (turns_map h2)
end
/-! ### What is in a list of files -/
theorem lookF_none {α : Type} {fs : List (Bt × α)} {x : Bt} : lookF fs x = none ↔ ∀ f ∈ fs, f.1 ≠ x := by
  unfold lookF
  rw [Option.map_eq_none_iff, List.find?_eq_none]
  simp
theorem lookF_mem {α : Type} {fs : List (Bt × α)} {x : Bt} {v : α} (h : lookF fs x = some v) : (x, v) ∈ fs := by
  unfold lookF at h
  obtain ⟨⟨y, u⟩, h1, rfl⟩ := Option.map_eq_some_iff.1 h
  have h2 := List.find?_some h1
  have h3 := List.mem_of_find?_eq_some h1
  simp only [beq_iff_eq] at h2
  subst h2
  exact h3
theorem delF_none {α : Type} {fs : List (Bt × α)} {x : Bt} (h : lookF fs x = none) : delF fs x = fs := by
  unfold delF
  rw [List.filter_eq_self]
  intro f hf
  simpa using lookF_none.1 h f hf
theorem insF_len {α : Type} (f : Bt × α) (fs : List (Bt × α)) : (insF f fs).length = fs.length + 1 := by
  induction fs with
  | nil => rfl
  | cons g r ih => unfold insF; split <;> simp [ih]
end Go.Proofs.YtdgpchacfdlleaaDoor
end

section
/-
  A map whose keys read as bytes, of whatever type they are (structs too).
-/
namespace Go.Proofs.YtdgpchacfdlleaaDoor
open Go.RowKit Go.ChangeMaps Go.MapKept

def KMap (k : TypeId) (w : World) (b : Nat) (fs : List (Bt × Value)) : Prop := w.ownsMap Tryd.prog k tok b fs.length (FD fs)
section
variable {k : TypeId} {w w' : World} {b : Nat} {fs : List (Bt × Value)}
theorem KMap.of {n : Nat} (h : w.ownsMap Tryd.prog k tok b n (FD fs)) : KMap k w b fs := by
  obtain ⟨es, clock, hb, F, hs, hD⟩ := h
  refine ⟨es, clock, hb, F, ?_, hD⟩
  have h1 := congrArg Maps.size hD
  rw [FD_size] at h1
  rw [h1]
  simp [Maps.size, length_sorted]
theorem KMap.made (k : TypeId) (w : World) : KMap k (w.alloc (.map #[] 0)) w.heap.size [] := World.ownsMap_made w Tryd.prog k tok
theorem KMap.lt (h : KMap k w b fs) : b < w.heap.size := World.ownsMap.lt h
theorem KMap.keep (h : KMap k w b fs) (hb : w'.heap[b]? = w.heap[b]?) : KMap k w' b fs := by
  obtain ⟨es, clock, h1, F, hs, hD⟩ := h
  exact ⟨es, clock, hb.trans h1, F, hs, hD⟩
theorem KMap.stay (h : KMap k w b fs) (hb : Below w.heap.size w w') : KMap k w' b fs := h.keep (hb.block b h.lt)
theorem KMap.turns {S : Nat → Prop} (h : KMap k w b fs) (t : Turns S w w') (hn : ¬ S b) : KMap k w' b fs := h.keep (t.block b h.lt hn)
/-- 'm[k]'. -/
theorem KMap.look (K : Maps.Keyed Tryd.prog k) (h : KMap k w b fs) {t e : TypeId} (ht : Tryd.prog.underlying t = some (.map k e)) {z : Value} (hz : (zeroValue e).run Tryd.prog w = .ok z w) {x : Value} {s : Bt} (hx : keyOf Tryd.prog k x = some (.string s)) :
    (Instr.lookup t (.map (some b)) x false).run Tryd.prog w = .ok ((lookF fs s).getD z) w := by
  obtain ⟨v, ps, h1, h2⟩ := World.ownsMap.lookup h K ht hz (R := tok) (zd := .held z) (zp := []) rfl hx
  rw [FD_at] at h2
  have : v = (lookF fs s).getD z := by
    unfold tok at h2
    simp at h2
    exact h2.1
  rw [h1, this]
variable {ops : Array Oper} {rest : List Oper} {o : Oper} {a : Act} {Q : Exit → Act → World → Prop}
/-- 'm[k] = v' in a walk. -/
theorem wp_kput (K : Maps.Keyed Tryd.prog k) (m x v : Operand) (t e : TypeId) (hg : o.guard = none) (hop : o.op = Op.mapUpdate t m x v) (ht : Tryd.prog.underlying t = some (.map k e)) (hm : a.eval m = .map (some b)) (h : KMap k w b fs) (hl : fs.length < maxLen) {y : Value} {s : Bt} {val : Value}
    (hx : a.eval x = y) (hv : a.eval v = val) (hs : keyOf Tryd.prog k y = some (.string s)) (hK : ∀ w', KMap k w' b (putF fs s val) → Only b w w' → wpList Tryd.prog ops Q rest (a.put o.dst undef) w') : wpList Tryd.prog ops Q (o :: rest) a w := by
  refine wpList_mapUpdate_in w hg m x v t hop k e K ht tok b fs.length (FD fs) hm h hl y val (.string s) hx hv hs (.held val) [] rfl fun w' h1 h2 => ?_
  rw [FD_put] at h1
  exact hK w' (KMap.of h1) (turns_map h2)
end
end Go.Proofs.YtdgpchacfdlleaaDoor
end

section
/-
  What was sealed with which id and number how often: the map of box, by a struct's keys.
-/
namespace Go.Proofs.YtdgpchacfdlleaaDoor
open Go.RowKit

theorem lookF_ins {α : Type} {x y : Bt} {v : α} : ∀ l : List (Bt × α), (∀ g ∈ l, g.1 ≠ x) → lookF (insF (x, v) l) y = if y = x then some v else lookF l y
  | [], _ => by
    unfold insF lookF
    by_cases h : y = x
    · subst h; simp
    · rw [if_neg h]
      have : (x == y) = false := by simpa using Ne.symm h
      simp [this]
  | g :: r, hl => by
    have ih := lookF_ins (x := x) (y := y) (v := v) r fun g hg => hl g (List.mem_cons_of_mem _ hg)
    have hg := hl g List.mem_cons_self
    unfold insF
    split
    · unfold lookF
      rw [List.find?_cons]
      by_cases h : y = x
      · subst h; simp
      · rw [if_neg h]
        have : (x == y) = false := by simpa using Ne.symm h
        simp only [this]
    · unfold lookF at ih ⊢
      rw [List.find?_cons, List.find?_cons]
      by_cases h : g.1 = y
      · have h2 : (g.1 == y) = true := by simpa using h
        rw [if_neg (by rw [← h]; exact hg)]
        simp only [h2]
      · have h2 : (g.1 == y) = false := by simpa using h
        simp only [h2]
        exact ih
theorem lookF_del {α : Type} {x y : Bt} (h : y ≠ x) : ∀ l : List (Bt × α), lookF (delF l x) y = lookF l y
  | [] => rfl
  | g :: r => by
    have ih := lookF_del h r
    unfold lookF delF at ih ⊢
    rw [List.filter_cons]
    by_cases h1 : g.1 = x
    · have h2 : (g.1 == x) = true := by simpa using h1
      have h3 : (g.1 == y) = false := by simpa using fun e : g.1 = y => h (e.symm.trans h1)
      simp only [h2, Bool.not_true, Bool.false_eq_true, if_false]
      rw [ih, List.find?_cons]
      simp only [h3]
    · have h2 : (g.1 == x) = false := by simpa using h1
      simp only [h2, Bool.not_false, if_true]
      rw [List.find?_cons, List.find?_cons]
      cases g.1 == y
      · exact ih
      · rfl
theorem lookF_put {α : Type} (l : List (Bt × α)) (x y : Bt) (v : α) : lookF (putF l x v) y = if y = x then some v else lookF l y := by
  unfold putF
  rw [lookF_ins]
  · split
    · rfl
    · rename_i h; exact lookF_del h l
  · intro g hg
    have := (List.mem_filter.1 hg).2
    simpa using this
theorem putF_le {α : Type} (l : List (Bt × α)) (x : Bt) (v : α) : (putF l x v).length ≤ l.length + 1 := by
  unfold putF
  rw [insF_len]
  exact Nat.succ_le_succ (List.length_filter_le _ _)
end Go.Proofs.YtdgpchacfdlleaaDoor
end

section
/-
  The key of box's map: an id and a number.
-/
namespace Go.Proofs.YtdgpchacfdlleaaDoor
open Go.RowKit

theorem use_wide : (match Tryd.prog.underlying 127 with | some (.array _ _) | some (.struct _) => true | _ => false) = true := by kernel_rfl
set_option maxRecDepth 100000 in
theorem use_law : Go.WideMaps.KeyLaw Tryd.prog 127 := deep_law_laid Tryd.laidOut (m := 4) (by omega) (of_decide_eq_true (by kernel_rfl)) (by kernel_rfl) use_wide
set_option maxRecDepth 100000 in
theorem use_keyed : Maps.Keyed Tryd.prog 127 := Maps.Keyed.of_law use_law
def useV (k : Kid) (n : Int) : Value := .agg (k.cells ++ [Value.int .i64 n]).toArray
def InI (n : Int) : Prop := -9223372036854775808 ≤ n ∧ n ≤ 9223372036854775807
set_option maxRecDepth 100000 in
theorem use_size : ∃ m, Tryd.prog.types.size = m + 3 := ⟨Tryd.prog.types.size - 3, by kernel_rfl⟩
theorem cells_use : Tryd.prog.cellsOf 127 = 7 := by kernel_rfl
theorem cells_kid : Tryd.prog.cellsOf 23 = 6 := by kernel_rfl
theorem cells_int1 : Tryd.prog.cellsOf 3 = 1 := by kernel_rfl
theorem wf_int {n : Int} (h : InI n) : (Lit.int .i64 n).wf = true := by
  unfold InI at h
  have h1 : IntKind.i64.min = -9223372036854775808 := by decide
  have h2 : IntKind.i64.max = 9223372036854775807 := by decide
  simp only [Lit.wf, h1, h2, Bool.and_eq_true, decide_eq_true_eq]
  exact h
set_option maxRecDepth 100000 in
theorem use_key (k : Kid) (n : Int) (hk : k.In) (hn : InI n) : ∃ s, keyOf Tryd.prog 127 (useV k n) = some (.string s) := by
  obtain ⟨a, b, c, d, e, f⟩ := k
  have ha : InI a := hk a (by simp [Kid.nums])
  have hb : InI b := hk b (by simp [Kid.nums])
  have hc : InI c := hk c (by simp [Kid.nums])
  have hd : InI d := hk d (by simp [Kid.nums])
  have he : InI e := hk e (by simp [Kid.nums])
  have hf : InI f := hk f (by simp [Kid.nums])
  obtain ⟨m, hm⟩ := use_size
  have hu := Tryd.underlying127
  have hi := Tryd.underlying23
  have hz := Tryd.underlying3
  have hform : (Tryd.prog.keyType 127 && (useV ⟨a, b, c, d, e, f⟩ n).formed Tryd.prog 127) = true := by
    rw [show Tryd.prog.keyType 127 = true by kernel_rfl]
    simp [Value.formed, useV, hu, cells_use, Kid.cells]
  unfold keyOf
  rw [hu]
  simp only
  rw [if_pos hform, hm]
  simp [Program.keyLits, hu, hi, hz, useV, Kid.cells, Value.cells, cells_use, cells_kid, cells_int1, wf_int ha, wf_int hb, wf_int hc, wf_int hd, wf_int he, wf_int hf, wf_int hn]
  rw [if_pos (by decide +kernel)]
  exact ⟨_, rfl⟩
end Go.Proofs.YtdgpchacfdlleaaDoor
end

section
/-
  Where a box lies, and that it stays.
-/
namespace Go.Proofs.YtdgpchacfdlleaaDoor
open Go.RowKit

/-- The bytes that an id and a number read as. -/
noncomputable def useB (k : Kid) (n : Int) : Bt := match keyOf Tryd.prog 127 (useV k n) with | some (.string s) => s | _ => []
theorem useB_key {k : Kid} {n : Int} (hk : k.In) (hn : InI n) : keyOf Tryd.prog 127 (useV k n) = some (.string (useB k n)) := by
  obtain ⟨s, hs⟩ := use_key k n hk hn
  unfold useB
  rw [hs]
theorem useV_inj {k k' : Kid} {n n' : Int} (h : useV k n = useV k' n') : (k, n) = (k', n') := by
  obtain ⟨a, b, c, d, e, f⟩ := k
  obtain ⟨a', b', c', d', e', f'⟩ := k'
  simp [useV, Kid.cells] at h
  obtain ⟨rfl, rfl, rfl, rfl, rfl, rfl, rfl⟩ := h
  rfl
set_option maxRecDepth 100000 in
theorem useB_inj {k k' : Kid} {n n' : Int} (hk : k.In) (hn : InI n) (hk' : k'.In) (hn' : InI n') (h : useB k n = useB k' n') : (k, n) = (k', n') :=
  useV_inj (use_law.inj (useB_key hk hn) (h ▸ useB_key hk' hn'))
structure Uses (us : List (Bt × Value)) (l : List (Kid × Int)) : Prop where
  look : ∀ k n, k.In → InI n → lookF us (useB k n) = if l.count (k, n) = 0 then none else some (.int .i64 (l.count (k, n)))
  le : us.length ≤ l.length
theorem Uses.nil : Uses [] [] := ⟨fun _ _ _ _ => rfl, Nat.le_refl _⟩
theorem Uses.put {us : List (Bt × Value)} {l : List (Kid × Int)} (h : Uses us l) {k : Kid} {n : Int} (hk : k.In) (hn : InI n) : Uses (putF us (useB k n) (.int .i64 ((l.count (k, n) : Int) + 1))) ((k, n) :: l) := by
  refine ⟨fun k' n' hk' hn' => ?_, by have := putF_le us (useB k n) (.int .i64 ((l.count (k, n) : Int) + 1)); have := h.le; simp; omega⟩
  rw [lookF_put]
  by_cases he : useB k' n' = useB k n
  · have := useB_inj hk' hn' hk hn he
    rw [if_pos he, this, List.count_cons_self, if_neg (by omega)]
    simp
  · have hne : (k', n') ≠ (k, n) := fun e => he (by cases e; rfl)
    rw [if_neg he, h.look k' n' hk' hn', List.count_cons_of_ne (Ne.symm hne)]

/-- An entry of what was sealed, as it lies. -/
structure EntS where
  x : SealE
  va : Value
  vt : Value
def EntS.cells (e : EntS) : List Value := e.x.id.cells ++ [.int .i64 e.x.n, e.va, e.vt]
theorem EntS.len (e : EntS) : e.cells.length = 9 := rfl
structure EntM where
  x : MarkE
  vt : Value
def EntM.cells (e : EntM) : List Value := e.x.id.cells ++ [e.vt]
theorem EntM.len (e : EntM) : e.cells.length = 7 := rfl
structure EntOk (w : World) (own : Nat → Prop) (v : Value) (xs : List Int) : Prop where
  rd : Rd w v (bs xs)
  isB : IsB xs
  mine : ∀ b, hold v b → own b
  typ : ∀ b, hold v b → ∃ cur, w.heap[b]? = some (.cells cur 5 (0, 0))
structure BoxAt (w : World) (B : Nat) (own : Nat → Prop) (g gu : Nat) (vs vS vM : Value) (sec : List Int) (ideal : Bool) (st : BoxI) (us : List (Bt × Value)) (es : List EntS) (ms : List EntM) : Prop where
  head : Blk w g [vs, .bool ideal, .bool true, vS, vM, .map (some gu), .int .i64 st.uses.length, .int .i64 (reps st.uses)] 59
  rowS : w.ownsRow B 130 9 vS es.length (es.flatMap EntS.cells)
  rowM : w.ownsRow B 136 7 vM ms.length (ms.flatMap EntM.cells)
  map : KMap 127 w gu us
  uses : Uses us st.uses
  seals : es.map EntS.x = st.seals
  marks : ms.map EntM.x = st.marks
  sec : EntOk w own vs sec
  entS : ∀ e ∈ es, EntOk w own e.va e.x.ad ∧ EntOk w own e.vt e.x.text
  entM : ∀ e ∈ ms, EntOk w own e.vt e.x.text
  og : own g
  ogu : own gu
  oS : ∀ b, hold vS b → own b ∧ b ≠ g ∧ b ≠ gu
  oM : ∀ b, hold vM b → own b ∧ b ≠ g ∧ b ≠ gu ∧ ¬ hold vS b
  ne : g ≠ gu
  dom : ∀ b, own b → B ≤ b ∧ b < w.heap.size
theorem EntOk.turns {S : Nat → Prop} {w w' : World} {own : Nat → Prop} {v : Value} {xs : List Int} (h : EntOk w own v xs) (k : Turns S w w') (hn : ∀ b, own b → ¬ S b) : EntOk w' own v xs :=
  ⟨h.rd.moves k fun b hb => hn b (h.mine b hb), h.isB, h.mine, fun b hb => by
    obtain ⟨cur, hc⟩ := h.typ b hb
    exact ⟨cur, (k.block b (Array.getElem?_eq_some_iff.1 hc).1 (hn b (h.mine b hb))).trans hc⟩⟩
/-- It stays, if just its own blocks have not turned. -/
theorem EntOk.moves {S : Nat → Prop} {w w' : World} {own own' : Nat → Prop} {v : Value} {xs : List Int} (h : EntOk w own v xs) (k : Turns S w w') (hn : ∀ b, hold v b → ¬ S b) (ho : ∀ b, hold v b → own b → own' b) : EntOk w' own' v xs :=
  ⟨h.rd.moves k hn, h.isB, fun b hb => ho b hb (h.mine b hb), fun b hb => by
    obtain ⟨cur, hc⟩ := h.typ b hb
    exact ⟨cur, (k.block b (Array.getElem?_eq_some_iff.1 hc).1 (hn b hb)).trans hc⟩⟩
/-- A new row of bytes. -/
theorem EntOk.of_own {w : World} {own : Nat → Prop} {base n : Nat} {v : Value} {xs : List Int} (h : w.ownsRow base 5 1 v n (bs xs)) (hB : IsB xs) (ho : ∀ b, hold v b → own b) : EntOk w own v xs :=
  ⟨Rd.of_own h, hB, ho, fun _ hb => row_blk h hb⟩
theorem EntOk.ne {w : World} {own : Nat → Prop} {v : Value} {xs : List Int} (h : EntOk w own v xs) {b : Nat} (hb : hold v b) {t : TypeId} {cur : Array Value} (hc : w.heap[b]? = some (.cells cur t (0, 0))) : t = 5 := by
  obtain ⟨cur', h1⟩ := h.typ b hb
  rw [hc] at h1
  injection h1 with h1
  injection h1
def BoxW (w : World) (B : Nat) (own : Nat → Prop) (g : Nat) (sec : List Int) (ideal : Bool) (st : BoxI) : Prop := ∃ gu vs vS vM us es ms, BoxAt w B own g gu vs vS vM sec ideal st us es ms
section
variable {w w' : World} {B : Nat} {own : Nat → Prop} {g gu : Nat} {vs vS vM : Value} {sec : List Int} {ideal : Bool} {st : BoxI} {us : List (Bt × Value)} {es : List EntS} {ms : List EntM}
theorem BoxAt.turns {S : Nat → Prop} (h : BoxAt w B own g gu vs vS vM sec ideal st us es ms) (k : Turns S w w') (hn : ∀ b, own b → ¬ S b) : BoxAt w' B own g gu vs vS vM sec ideal st us es ms :=
  ⟨h.head.turns k (hn g h.og), row_turns h.rowS k fun b hb => hn b (h.oS b hb).1, row_turns h.rowM k fun b hb => hn b (h.oM b hb).1, h.map.turns k (hn gu h.ogu), h.uses, h.seals, h.marks, h.sec.turns k hn,
    fun e he => ⟨(h.entS e he).1.turns k hn, (h.entS e he).2.turns k hn⟩, fun e he => (h.entM e he).turns k hn, h.og, h.ogu, h.oS, h.oM, h.ne, fun b hb => ⟨(h.dom b hb).1, Nat.lt_of_lt_of_le (h.dom b hb).2 k.size⟩⟩
/-- Where an entry's bytes lie nothing else of the box does. -/
theorem BoxAt.apart (h : BoxAt w B own g gu vs vS vM sec ideal st us es ms) {v : Value} {xs : List Int} (e : EntOk w own v xs) : ∀ b, hold v b → b ≠ g ∧ b ≠ gu ∧ ¬ hold vS b ∧ ¬ hold vM b := by
  intro b hb
  refine ⟨?_, ?_, fun hs => ?_, fun hs => ?_⟩
  · rintro rfl
    have := e.ne hb h.head
    revert this; decide
  · rintro rfl
    obtain ⟨es', clock, hm, _⟩ := h.map
    obtain ⟨cur, hc⟩ := e.typ b hb
    rw [hm] at hc
    cases hc
  · obtain ⟨cur, hc⟩ := row_blk h.rowS hs
    have := e.ne hb hc
    revert this; decide
  · obtain ⟨cur, hc⟩ := row_blk h.rowM hs
    have := e.ne hb hc
    revert this; decide
theorem BoxAt.stay (h : BoxAt w B own g gu vs vS vM sec ideal st us es ms) (k : Below w.heap.size w w') : BoxAt w' B own g gu vs vS vM sec ideal st us es ms := h.turns (S := fun _ => False) (Turns.of_below k) fun _ _ h => h
theorem BoxW.turns {S : Nat → Prop} (h : BoxW w B own g sec ideal st) (k : Turns S w w') (hn : ∀ b, own b → ¬ S b) : BoxW w' B own g sec ideal st := by
  obtain ⟨gu, vs, vS, vM, us, es, ms, h⟩ := h
  exact ⟨gu, vs, vS, vM, us, es, ms, h.turns k hn⟩
theorem BoxW.stay (h : BoxW w B own g sec ideal st) (k : Below w.heap.size w w') : BoxW w' B own g sec ideal st := h.turns (S := fun _ => False) (Turns.of_below k) fun _ _ h => h
theorem BoxW.dom (h : BoxW w B own g sec ideal st) : ∀ b, own b → B ≤ b ∧ b < w.heap.size := by
  obtain ⟨gu, vs, vS, vM, us, es, ms, h⟩ := h
  exact h.dom
end
/-- What a call that turns a box comes to. -/
def BoxRes (w : World) (B : Nat) (own : Nat → Prop) (g : Nat) (sec : List Int) (ideal : Bool) (out : List Int) (code : Int) (st' : BoxI) (e : Ending) (w' : World) : Prop :=
  ∃ v own', e = .returned (.tuple #[v, .int .i64 code]) ∧ w'.ownsRow w.heap.size 5 1 v out.length (bs out) ∧ BoxW w' B own' g sec ideal st' ∧ (∀ b, hold v b → ¬ own' b) ∧ (∀ b, b < w.heap.size → (own' b ↔ own b)) ∧ Turns own w w'
end Go.Proofs.YtdgpchacfdlleaaDoor
end

section
/-
  pack: a number's bytes, the highest first.
-/
namespace Go.Proofs.YtdgpchacfdlleaaDoor
open Go.RowKit

set_option maxHeartbeats 1000000 in
theorem highu64_any (v : Value) (xs : List Int) (x n : Int) (w : World) (hr : Rd w v (bs xs)) (hl : xs.length ≤ 70368744177664) (_hx0 : 0 ≤ x) (h0 : 0 ≤ n) (hn : n ≤ 8) :
    Calls Tryd.prog 108 #[v, .int .u64 x, .int .i64 n] w fun e w' => NewB (xs ++ hiL x n.toNat n.toNat) w e w' := by
  have hr0 := Lib.hid hr
  obtain ⟨A, c, rfl, _⟩ := hr
  obtain ⟨n, rfl⟩ := Int.eq_ofNat_of_zero_le h0
  simp only [Int.toNat_natCast]
  rw [bs_len] at hr0 ⊢
  go_enter Tryd.func108, Tryd.ntmps108
  go_wp2_with (at_builtin; refine wp_app _ _ 24 rfl rfl 5 (.int .u8 0) 1 Tryd.underlying24 info5 rfl w.heap.size rfl (World.ownsRow_nil _ _ _ _) rfl hr0.out (bs_one _) (by decide) (by rw [bs_len]; omega) (Nat.le_refl _) ?_; intro v' w1 hown1 _ hb1)
  simp only [Nat.zero_add, List.nil_append, bs_len] at hown1
  go_loopw [7, 8] (fun v i wr => ∃ r : Nat, r ≤ n ∧ i = .int .i64 ((r : Int) - 1) ∧ wr.ownsRow w.heap.size 5 1 v (xs.length + (n - r)) (bs (xs ++ hiL x n (n - r))) ∧ Below w.heap.size w wr) (fun _ i _ => (intOf i + 1).toNat)
  case atStart => exact ⟨n, Nat.le_refl _, rfl, by simpa [hiL] using hown1, hb1⟩
  case round =>
    obtain ⟨r, hk, rfl, hown, hb⟩ := hrel
    cases r with
    | zero =>
      go_wp2
      go_ret
      exact ⟨_, rfl, hb, by rw [List.length_append, hiL_len]; exact hown⟩
    | succ j =>
      have hsz := hb.size
      rw [show ((j + 1 : Nat) : Int) - 1 = (j : Int) by omega]
      have e1 : n - j = n - (j + 1) + 1 := by omega
      go_wp2_with (at_builtin; refine wp_app _ _ 24 rfl rfl 5 (.int .u8 0) 1 Tryd.underlying24 info5 rfl w.heap.size rfl (hown.alloc _) rfl (Rd.one _ _ _) (by intro y hy; simp at hy; subst hy; rfl) (by decide) (by simp; omega) (by simp; omega) ?_; intro v2 w2 hown2 _ hb2)
      go_roundw
      case rel =>
        refine ⟨j, by omega, by go_num, ?_, (hb.alloc hsz _).trans hb2⟩
        rw [e1, hiL_snoc, show n - 1 - (n - (j + 1)) = j by omega]
        simpa [bs, Nat.add_assoc] using hown2
      case measure => simp [intOf]
theorem put64_any (v : Value) (xs : List Int) (x : Int) (w : World) (hr : Rd w v (bs xs)) (hl : xs.length ≤ 70368744177664) (hx0 : 0 ≤ x) :
    Calls Tryd.prog 89 #[v, .int .u64 x] w fun e w' => NewB (xs ++ num8 x) w e w' := by
  go_enter Tryd.func89, Tryd.ntmps89
  go_wp2_with (go_at_call 108; refine (highu64_any _ xs _ _ _ hr hl hx0 (by omega) (by omega)).mono ?_; rintro e w' ⟨v', rfl, hb, ho⟩)
  go_ret
  exact ⟨_, rfl, hb, ho⟩
theorem putNum_any (k : Nat) (w : World) (hk : k ≤ 1099511627776) :
    Calls Tryd.prog 65 #[.slice none 0 0, .int .i64 k] w fun e w' => NewB (num8 k) w e w' := by
  go_enter Tryd.func65, Tryd.ntmps65
  go_wp2_with (go_at_call 89; refine (put64_any _ [] _ _ (Rd.nil _) (by simp) (by omega)).mono ?_; rintro e w' ⟨v', rfl, hb, ho⟩)
  go_ret
  exact ⟨_, rfl, hb, ho⟩
end Go.Proofs.YtdgpchacfdlleaaDoor
end

section
/-
  keys: which ids may be, and a number's nonce.
-/
namespace Go.Proofs.YtdgpchacfdlleaaDoor
open Go.RowKit

theorem info_six : (Tryd.prog.info? 138).map (·.size) = some 6 := by kernel_rfl
theorem numbers_any (k : Kid) (w : World) : Calls Tryd.prog 59 #[.agg k.cells.toArray] w fun e w' => e = .returned (.agg k.cells.toArray) ∧ Below w.heap.size w w' := by
  obtain ⟨a, b, c, d, e, f⟩ := k
  simp only [Kid.cells]
  have hb0 : Blk ((w.alloc (.cells #[.int .i64 a, .int .i64 b, .int .i64 c, .int .i64 d, .int .i64 e, .int .i64 f] 23)).alloc (.cells #[.int .i64 a, .int .i64 b, .int .i64 c, .int .i64 d, .int .i64 e, .int .i64 f] 138)) (w.heap.size + 1) [.int .i64 a, .int .i64 b, .int .i64 c, .int .i64 d, .int .i64 e, .int .i64 f] 138 := Blk.mk_ _ (by simp) rfl
  go_enter Tryd.func59, Tryd.ntmps59
  go_wp2_with fail
  refine ret_blk rfl rfl hb0 Tryd.underlying138 rfl info_six rfl rfl ?_
  exact ⟨rfl, bw_al (bw_al (Below.refl _ _) (Nat.le_refl _) _) (by simp) _⟩
theorem run_index_is {P : Program} {w : World} {t e : TypeId} {n : Nat} {k' k : IntKind} (hu : P.underlying t = some (.array n e)) (he : P.underlying e = some (.int k')) (hs : (P.info? e).map (·.size) = some 1)
    (cs : Array Value) (i : Nat) {v : Value} (hi : i < n) (hv : cs[i]? = some v) : (Instr.index t (.agg cs) (.int k (i : Int))).run P w = .ok v w := by
  obtain ⟨q, hq1, hq2⟩ := Option.map_eq_some_iff.1 hs
  have h1 : (0 : Int) ≤ (i : Int) ∧ (i : Int) < (n : Int) := by omega
  have h2 := run_part_int (P := P) (w := w) he cs i v hv
  simp [Instr.index, run_underlying hu, asIntOf, h1, sizeOf, typeInfo, hq1, hq2, hi, h2]

def okN (z : Int) : Bool := decide (0 ≤ z) && decide (z ≤ 1099511627776)
set_option maxRecDepth 100000 in
set_option maxHeartbeats 1000000 in
theorem valid_any (k : Kid) (w : World) : Calls Tryd.prog 23 #[.agg k.cells.toArray] w fun e w' => e = .returned (.bool k.ok) ∧ Below w.heap.size w w' := by
  have hok : k.ok = ((okN k.a && (okN k.b && (okN k.c && (okN k.d && (okN k.e && okN k.f))))) && decide (1 ≤ k.a) && decide (k.a ≤ 6) && decide (k.e ≤ 1)) := by
    unfold Kid.ok Kid.nums okN
    simp [List.all_cons]
  have NB := Lib.hid (fun w' => numbers_any k w')
  obtain ⟨a, b, c, d, e, f⟩ := k
  simp only [Kid.cells] at NB ⊢
  simp only at hok
  rw [hok]
  clear hok
  have hb0 : Blk (w.alloc (.cells #[.int .i64 a, .int .i64 b, .int .i64 c, .int .i64 d, .int .i64 e, .int .i64 f] 23)) w.heap.size [.int .i64 a, .int .i64 b, .int .i64 c, .int .i64 d, .int .i64 e, .int .i64 f] 23 := Blk.mk_ _ rfl rfl
  have hl0 : Below w.heap.size w (w.alloc (.cells #[.int .i64 a, .int .i64 b, .int .i64 c, .int .i64 d, .int .i64 e, .int .i64 f] 23)) := bw_al (Below.refl _ _) (Nat.le_refl _) _
  have i0 : ∀ w', (Instr.index 138 (.agg #[.int .i64 a, .int .i64 b, .int .i64 c, .int .i64 d, .int .i64 e, .int .i64 f]) (.int .i64 0)).run Tryd.prog w' = .ok (.int .i64 a) w' := fun w' => run_index_is (w := w') (k := .i64) Tryd.underlying138 Tryd.underlying3 (by kernel_rfl) #[.int .i64 a, .int .i64 b, .int .i64 c, .int .i64 d, .int .i64 e, .int .i64 f] 0 (v := .int .i64 a) (by decide) rfl
  have i1 : ∀ w', (Instr.index 138 (.agg #[.int .i64 a, .int .i64 b, .int .i64 c, .int .i64 d, .int .i64 e, .int .i64 f]) (.int .i64 1)).run Tryd.prog w' = .ok (.int .i64 b) w' := fun w' => run_index_is (w := w') (k := .i64) Tryd.underlying138 Tryd.underlying3 (by kernel_rfl) #[.int .i64 a, .int .i64 b, .int .i64 c, .int .i64 d, .int .i64 e, .int .i64 f] 1 (v := .int .i64 b) (by decide) rfl
  have i2 : ∀ w', (Instr.index 138 (.agg #[.int .i64 a, .int .i64 b, .int .i64 c, .int .i64 d, .int .i64 e, .int .i64 f]) (.int .i64 2)).run Tryd.prog w' = .ok (.int .i64 c) w' := fun w' => run_index_is (w := w') (k := .i64) Tryd.underlying138 Tryd.underlying3 (by kernel_rfl) #[.int .i64 a, .int .i64 b, .int .i64 c, .int .i64 d, .int .i64 e, .int .i64 f] 2 (v := .int .i64 c) (by decide) rfl
  have i3 : ∀ w', (Instr.index 138 (.agg #[.int .i64 a, .int .i64 b, .int .i64 c, .int .i64 d, .int .i64 e, .int .i64 f]) (.int .i64 3)).run Tryd.prog w' = .ok (.int .i64 d) w' := fun w' => run_index_is (w := w') (k := .i64) Tryd.underlying138 Tryd.underlying3 (by kernel_rfl) #[.int .i64 a, .int .i64 b, .int .i64 c, .int .i64 d, .int .i64 e, .int .i64 f] 3 (v := .int .i64 d) (by decide) rfl
  have i4 : ∀ w', (Instr.index 138 (.agg #[.int .i64 a, .int .i64 b, .int .i64 c, .int .i64 d, .int .i64 e, .int .i64 f]) (.int .i64 4)).run Tryd.prog w' = .ok (.int .i64 e) w' := fun w' => run_index_is (w := w') (k := .i64) Tryd.underlying138 Tryd.underlying3 (by kernel_rfl) #[.int .i64 a, .int .i64 b, .int .i64 c, .int .i64 d, .int .i64 e, .int .i64 f] 4 (v := .int .i64 e) (by decide) rfl
  have i5 : ∀ w', (Instr.index 138 (.agg #[.int .i64 a, .int .i64 b, .int .i64 c, .int .i64 d, .int .i64 e, .int .i64 f]) (.int .i64 5)).run Tryd.prog w' = .ok (.int .i64 f) w' := fun w' => run_index_is (w := w') (k := .i64) Tryd.underlying138 Tryd.underlying3 (by kernel_rfl) #[.int .i64 a, .int .i64 b, .int .i64 c, .int .i64 d, .int .i64 e, .int .i64 f] 5 (v := .int .i64 f) (by decide) rfl
  go_enter Tryd.func23, Tryd.ntmps23
  go_upto_region 2 with (go_at_call 59; refine (NB.out _).mono ?_; rintro e w1 ⟨rfl, hb1⟩)
  have hb2 := hb0.stay hb1
  have hl1 := bw_then hl0 hb1 hl0.size
  have q0 := hb2.at_ 0 rfl
  have q4 := hb2.at_ 4 rfl
  have HL := Lib.hid hl1
  clear hb0 hl0 hb1 hb2 hl1 NB
  go_wp2_with fail
  go_loopw [7] (fun x wr => ∃ k : Nat, k ≤ 6 ∧ x = .int .i64 k ∧ wr = w1 ∧ ([a, b, c, d, e, f].take k).all okN = true) (fun x _ => 6 - (intOf x).toNat)
  case atStart => exact ⟨0, by omega, rfl, rfl, rfl⟩
  case round =>
    obtain ⟨k, hk, rfl, rfl, hall⟩ := hrel
    rcases (show k = 0 ∨ k = 1 ∨ k = 2 ∨ k = 3 ∨ k = 4 ∨ k = 5 ∨ k = 6 by omega) with rfl | rfl | rfl | rfl | rfl | rfl | rfl
    · by_cases h1 : a < 0
      · go_wp2_with fail
        all_goals go_ret
        have hz : okN a = false := by unfold okN; simp; omega
        exact ⟨by simp [hz], HL.out⟩
      by_cases h2 : 1099511627776 < a
      · go_wp2_with fail
        all_goals go_ret
        have hz : okN a = false := by unfold okN; simp; omega
        exact ⟨by simp [hz], HL.out⟩
      have hz : okN a = true := by unfold okN; simp; omega
      go_wp2_with fail
      exact ⟨⟨1, by omega, by simp, by simp, by first | (simp [hz]; done) | simpa [hz] using hall⟩, by simp [intOf]⟩
    · by_cases h1 : b < 0
      · go_wp2_with fail
        all_goals go_ret
        have hz : okN b = false := by unfold okN; simp; omega
        exact ⟨by simp [hz], HL.out⟩
      by_cases h2 : 1099511627776 < b
      · go_wp2_with fail
        all_goals go_ret
        have hz : okN b = false := by unfold okN; simp; omega
        exact ⟨by simp [hz], HL.out⟩
      have hz : okN b = true := by unfold okN; simp; omega
      go_wp2_with fail
      exact ⟨⟨2, by omega, by simp, by simp, by first | (simp [hz]; done) | simpa [hz] using hall⟩, by simp [intOf]⟩
    · by_cases h1 : c < 0
      · go_wp2_with fail
        all_goals go_ret
        have hz : okN c = false := by unfold okN; simp; omega
        exact ⟨by simp [hz], HL.out⟩
      by_cases h2 : 1099511627776 < c
      · go_wp2_with fail
        all_goals go_ret
        have hz : okN c = false := by unfold okN; simp; omega
        exact ⟨by simp [hz], HL.out⟩
      have hz : okN c = true := by unfold okN; simp; omega
      go_wp2_with fail
      exact ⟨⟨3, by omega, by simp, by simp, by first | (simp [hz]; done) | simpa [hz] using hall⟩, by simp [intOf]⟩
    · by_cases h1 : d < 0
      · go_wp2_with fail
        all_goals go_ret
        have hz : okN d = false := by unfold okN; simp; omega
        exact ⟨by simp [hz], HL.out⟩
      by_cases h2 : 1099511627776 < d
      · go_wp2_with fail
        all_goals go_ret
        have hz : okN d = false := by unfold okN; simp; omega
        exact ⟨by simp [hz], HL.out⟩
      have hz : okN d = true := by unfold okN; simp; omega
      go_wp2_with fail
      exact ⟨⟨4, by omega, by simp, by simp, by first | (simp [hz]; done) | simpa [hz] using hall⟩, by simp [intOf]⟩
    · by_cases h1 : e < 0
      · go_wp2_with fail
        all_goals go_ret
        have hz : okN e = false := by unfold okN; simp; omega
        exact ⟨by simp [hz], HL.out⟩
      by_cases h2 : 1099511627776 < e
      · go_wp2_with fail
        all_goals go_ret
        have hz : okN e = false := by unfold okN; simp; omega
        exact ⟨by simp [hz], HL.out⟩
      have hz : okN e = true := by unfold okN; simp; omega
      go_wp2_with fail
      exact ⟨⟨5, by omega, by simp, by simp, by first | (simp [hz]; done) | simpa [hz] using hall⟩, by simp [intOf]⟩
    · by_cases h1 : f < 0
      · go_wp2_with fail
        all_goals go_ret
        have hz : okN f = false := by unfold okN; simp; omega
        exact ⟨by simp [hz], HL.out⟩
      by_cases h2 : 1099511627776 < f
      · go_wp2_with fail
        all_goals go_ret
        have hz : okN f = false := by unfold okN; simp; omega
        exact ⟨by simp [hz], HL.out⟩
      have hz : okN f = true := by unfold okN; simp; omega
      go_wp2_with fail
      exact ⟨⟨6, by omega, by simp, by simp, by first | (simp [hz]; done) | simpa [hz] using hall⟩, by simp [intOf]⟩
    · have hall' : okN a = true ∧ okN b = true ∧ okN c = true ∧ okN d = true ∧ okN e = true ∧ okN f = true := by simpa using hall
      obtain ⟨ha, hb, hc, hd, he, hf⟩ := hall'
      clear hall
      by_cases h1 : 1 ≤ a
      · by_cases h2 : a ≤ 6
        · go_wp2_with fail
          all_goals go_ret
          exact ⟨by simp [ha, hb, hc, hd, he, hf, h1, h2], HL.out⟩
        · go_wp2_with fail
          all_goals go_ret
          exact ⟨by simp; omega, HL.out⟩
      · go_wp2_with fail
        all_goals go_ret
        exact ⟨by simp; omega, HL.out⟩
end Go.Proofs.YtdgpchacfdlleaaDoor
end
