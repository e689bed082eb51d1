/-
  Small lemmas of the seat's own: worlds that only grow, slices that read as lists, the closing of a law's row.
-/
import Derived.Test.YtlgcnnhlbkidmaaRows
import Derived.WalkKit
import Derived.WalkSpells
import Derived.WalkLawsBesides
import Derived.ProofKit
import Derived.OpenShut
import Derived.Deep.DeepHandedRow
import Derived.Lib.LaidTab
import Derived.Lib.Hide
import Derived.Laws.AppendOwnNone
namespace Go.Proofs.Ytlgcnnhlbkidmaa
open Go.ChangeShapes Go.WideShapes Go.ChangeAt Go.RowKit

/-! ### Worlds that only grow -/
theorem bw_al {B : Nat} {w W : World} (h : Below B w W) (hB : B ≤ W.heap.size) (o : Obj) : Below B w (W.alloc o) := h.alloc hB o
theorem bw_dr {B : Nat} {w W : World} (h : Below B w W) (n : Nat) : Below B w (W.drewN n) := ⟨h.os, h.tape, h.output, h.size, h.block⟩
theorem bw_d1 {B : Nat} {w W : World} (h : Below B w W) : Below B w W.drew := ⟨h.os, h.tape, h.output, h.size, h.block⟩
theorem bw_set {B : Nat} {w W : World} (h : Below B w W) (b o : Nat) (hB : B ≤ b) (v : Value) : Below B w (W.setCell ⟨b, o, none⟩ v) := h.setCell (p := ⟨b, o, none⟩) hB v
theorem bw_then {B : Nat} {w W W' : World} (h : Below B w W) (k : Below W.heap.size W W') (hB : B ≤ W.heap.size) : Below B w W' := h.trans (k.mono hB)

theorem cell_stay {w w' : World} (hb : Below w.heap.size w w') {a : Addr} {v : Value} (hc : w.cell? a = some v) : w'.cell? a = some v := (hb.cell (World.block_lt_of_cell? w a hc)).trans hc

/-! ### A block known whole -/
def Blk (w : World) (b : Nat) (cs : List Value) (t : TypeId) : Prop := w.heap[b]? = some (.cells cs.toArray t (0, 0))
section
variable {w w' : World} {b : Nat} {cs : List Value} {t : TypeId}
theorem Blk.lt (h : Blk w b cs t) : b < w.heap.size := (Array.getElem?_eq_some_iff.1 h).1
theorem Blk.get (h : Blk w b cs t) (i : Nat) : w.cell? ⟨b, i, none⟩ = cs[i]? := by
  unfold Blk at h; simp [World.cell?, h]
theorem Blk.cell (h : Blk w b cs t) (i : Nat) (hi : i < cs.length) : w.cell? ⟨b, i, none⟩ = some cs[i] := by rw [h.get, List.getElem?_eq_getElem hi]
theorem Blk.at_ (h : Blk w b cs t) (i : Nat) {v : Value} (hi : cs[i]? = some v) : w.cell? ⟨b, i, none⟩ = some v := by rw [h.get, hi]
theorem Blk.free (h : Blk w b cs t) (i : Nat) : w.frozen? ⟨b, i, none⟩ = false := by
  unfold Blk at h; simp [World.frozen?, h]
theorem Blk.set (h : Blk w b cs t) (i : Nat) (v : Value) : Blk (w.setCell ⟨b, i, none⟩ v) b (cs.set i v) t := by
  unfold Blk at *
  simp [World.setCell, Array.getElem?_modify, h]
theorem Blk.other (h : Blk w b cs t) {a : Addr} (hne : b ≠ a.block) (v : Value) : Blk (w.setCell a v) b cs t := by
  unfold Blk at *; rw [Below.heap_setCell _ _ _ _ hne]; exact h
theorem Blk.al (h : Blk w b cs t) (o : Obj) : Blk (w.alloc o) b cs t := (Below.heap_alloc w o b h.lt).trans h
theorem Blk.dr (h : Blk w b cs t) (n : Nat) : Blk (w.drewN n) b cs t := h
theorem Blk.d1 (h : Blk w b cs t) : Blk w.drew b cs t := h
theorem Blk.keep {B : Nat} (h : Blk w b cs t) (hb : Below B w w') (hB : b < B) : Blk w' b cs t := (hb.block b hB).trans h
theorem Blk.stay (h : Blk w b cs t) (hb : Below w.heap.size w w') : Blk w' b cs t := h.keep hb h.lt
theorem Blk.mk_ (w : World) {b : Nat} {arr : Array Value} {cs : List Value} {t : TypeId} (hb : b = w.heap.size) (ha : arr = cs.toArray) : Blk (w.alloc (.cells arr t)) b cs t := by subst hb ha; exact heap_alloc_new w _
theorem Blk.new (w : World) (cs : List Value) (t : TypeId) : Blk (w.alloc (.cells cs.toArray t)) w.heap.size cs t := heap_alloc_new w _
end

/-! ### One block that may have turned -/
structure Only (b : Nat) (w w' : World) : Prop where
  os : w'.os = w.os
  tape : w'.tape = w.tape
  output : w'.output = w.output
  size : w'.heap.size = w.heap.size
  block : ∀ k, k ≠ b → w'.heap[k]? = w.heap[k]?
theorem Only.set (w : World) (b i : Nat) (v : Value) : Only b w (w.setCell ⟨b, i, none⟩ v) :=
  ⟨rfl, rfl, rfl, by simp [World.setCell], fun k hk => Below.heap_setCell _ _ _ _ hk⟩
theorem Only.row (w : World) (b : Nat) (cs : Array Value) : Only b w (w.setRow b cs) := ⟨rfl, rfl, rfl, setRow_size _ _ _, fun k hk => setRow_other w b k cs hk⟩
theorem Only.below {B b : Nat} {w0 w w' : World} (h : Below B w0 w) (o : Only b w w') (hB : B ≤ b) : Below B w0 w' :=
  h.trans ⟨o.os, o.tape, o.output, Nat.le_of_eq o.size.symm, fun k hk => o.block k (by omega)⟩
theorem Blk.only {w w' : World} {b c : Nat} {cs : List Value} {t : TypeId} (h : Blk w c cs t) (o : Only b w w') (hne : c ≠ b) : Blk w' c cs t := (o.block c hne).trans h

/-- A whole array or struct read out of a block. -/
theorem wp_load_blk {P : Program} {ops : Array Oper} {rest : List Oper} {o : Oper} {a : Act} {w : World} {Q : Exit → Act → World → Prop} (hgd : o.guard = none) (ty : TypeId) (x : Operand) (ho : o.op = .load ty x)
    {g : Nat} (hx : a.eval x = .pointer (some ⟨g, 0, none⟩)) {t : TypeId} {cs : List Value} {d : TypeDesc} (hg : Blk w g cs t)
    (hu : P.underlying ty = some d) (hd : (match d with | .struct _ | .array _ _ => true | _ => false) = true) {n : Nat} (hi : (P.info? ty).map (·.size) = some n) (hn : cs.length = n)
    (h : wpList P ops Q rest (a.put o.dst (.agg cs.toArray)) w) : wpList P ops Q (o :: rest) a w :=
  wpList_load_row hgd ty x ho g hx t cs.toArray (0, 0) d hg hu hd (by rw [hi]; simp [hn]) h
/-- A whole array or struct written into a block. -/
theorem run_store_blk {P : Program} {w : World} (ty : TypeId) {g : Nat} {t : TypeId} {cs cs' : List Value} (hg : Blk w g cs t) (hone : ∀ v ∈ cs', v.oneCell' = true) (hl : cs'.length = cs.length)
    {n : Nat} (hi : (P.info? ty).map (·.size) = some n) (hn : cs'.length = n) : (Instr.storeAt ty (.pointer (some ⟨g, 0, none⟩)) (.agg cs'.toArray)).run P w = .ok () (w.setRow g cs'.toArray) := by
  obtain ⟨i, hi1, hi2⟩ := Option.map_eq_some_iff.1 hi
  have hst := run_storeCells_at P g 0 t cs' 0 cs.toArray w hg (by simp [hl]) hone
  simp only [Nat.zero_add, List.take_zero, List.nil_append] at hst
  rw [List.drop_of_length_le (by simp [hl]), List.append_nil] at hst
  simp [Instr.storeAt, Instr.sureAddr, storeVar, sizeOf, typeInfo, hi1, hi2, Value.cells, hn, hst]
theorem upon_store_blk {P : Program} {o : Oper} {ρ : Operand → Value} {a : Act} {w : World} {K : Act → World → Prop} {Q : Exit → Act → World → Prop} (ty : TypeId) (x y : Operand) (ho : o.op = .store ty x y)
    {g : Nat} (hx : ρ x = .pointer (some ⟨g, 0, none⟩)) {t : TypeId} {cs cs' : List Value} (hy : ρ y = .agg cs'.toArray) (hg : Blk w g cs t) (hone : ∀ v ∈ cs', v.oneCell' = true) (hl : cs'.length = cs.length)
    {n : Nat} (hi : (P.info? ty).map (·.size) = some n) (hn : cs'.length = n)
    (h : ∀ w', Blk w' g cs' t → Only g w w' → K (a.put o.dst undef) w') : o.upon P a K Q ((execOp ρ o).run P w) := by
  simp only [execOp, ho, Sem.run_bind, hx, hy, run_store_blk ty hg hone hl hi hn, Result.andThen_ok, Sem.run_pure, Oper.upon]
  exact h _ (setRow_heap w g cs.toArray cs'.toArray t (0, 0) hg) (Only.row w g _)
theorem wp_store_blk {P : Program} {ops : Array Oper} {rest : List Oper} {o : Oper} {a : Act} {w : World} {Q : Exit → Act → World → Prop} (hgd : o.guard = none) (ty : TypeId) (x y : Operand) (ho : o.op = .store ty x y)
    {g : Nat} (hx : a.eval x = .pointer (some ⟨g, 0, none⟩)) {t : TypeId} {cs cs' : List Value} (hy : a.eval y = .agg cs'.toArray) (hg : Blk w g cs t) (hone : ∀ v ∈ cs', v.oneCell' = true) (hl : cs'.length = cs.length)
    {n : Nat} (hi : (P.info? ty).map (·.size) = some n) (hn : cs'.length = n)
    (h : ∀ w', Blk w' g cs' t → Only g w w' → wpList P ops Q rest (a.put o.dst undef) w') : wpList P ops Q (o :: rest) a w :=
  wpList_plain hgd fun _ hK => upon_store_blk ty x y ho hx hy hg hone hl hi hn fun w' h1 h2 => hK _ _ (h w' h1 h2)
/-- The result is what a block holds. -/
theorem ret_blk {P : Program} {fn : Func} {R : Ending → World → Prop} {a : Act} {w : World} {p : Tmp} {ty : TypeId} (h : fn.results = #[.cell p ty]) {g : Nat} {t : TypeId} {cs : List Value} {d : TypeDesc}
    (hp : a.tmps.getD p undef = .pointer (some ⟨g, 0, none⟩)) (hg : Blk w g cs t) (hu : P.underlying ty = some d) (hd : (match d with | .struct _ | .array _ _ => true | _ => false) = true) {n : Nat} (hi : (P.info? ty).map (·.size) = some n)
    (hn : cs.length = n) (hdf : a.defers = []) (hR : R (.returned (.agg cs.toArray)) w) : bodyPost P fn R .ret a w :=
  bodyPost_ret (results_cell_row h a.tmps w g t cs.toArray (0, 0) d hp hg hu hd (by rw [hi]; simp [hn])) hdf hR

/-! ### A slice of one-cell values that reads as a list -/
def Rd (w : World) (v : Value) (xs : List Value) : Prop :=
  ∃ A c, v = .slice A xs.length c ∧ xs.length ≤ c ∧ c ≤ maxLen ∧ (A = none → c = 0) ∧ (xs = [] ∨ ∃ b o, A = some ⟨b, o, none⟩ ∧ ∀ j (h : j < xs.length), w.cell? ⟨b, o + j, none⟩ = some xs[j])
section
variable {w w' : World} {v : Value} {xs : List Value}
theorem Rd.stay {B : Nat} (h : Rd w v xs) (hb : Below B w w') (hB : w.heap.size ≤ B) : Rd w' v xs := by
  obtain ⟨A, c, rfl, h1, h2, h0, h3⟩ := h
  refine ⟨A, c, rfl, h1, h2, h0, ?_⟩
  rcases h3 with h3 | ⟨b, o, rfl, h3⟩
  · exact .inl h3
  · refine .inr ⟨b, o, rfl, fun j hj => ?_⟩
    have h4 := h3 j hj
    have hlt := World.block_lt_of_cell? w _ h4
    rw [hb.cell (p := ⟨b, o + j, none⟩) (by exact Nat.lt_of_lt_of_le hlt hB)]
    exact h4
theorem Rd.nil (w : World) : Rd w (.slice none 0 0) [] := ⟨none, 0, rfl, Nat.le_refl _, Nat.zero_le _, fun _ => rfl, .inl rfl⟩
theorem Rd.len (h : Rd w v xs) : xs.length ≤ 9223372036854775807 := by
  obtain ⟨A, c, rfl, h1, h2, _⟩ := h
  unfold maxLen at h2; omega
theorem Rd.of_own {base n : Nat} {e : TypeId} (h : w.ownsRow base e 1 v n xs) : Rd w v xs := by
  have hl := h.1
  rcases h.2 with ⟨rfl, rfl⟩ | ⟨g, cap, cur, rfl, _, hg, hn, hc, hs, ht⟩
  · obtain rfl : xs = [] := List.eq_nil_of_length_eq_zero (by omega)
    exact Rd.nil w
  · rw [Nat.mul_one] at hl ht hs
    refine ⟨some ⟨g, 0, none⟩, cap, by rw [hl], by omega, hc, (fun h => by cases h), .inr ⟨g, 0, rfl, fun j hj => ?_⟩⟩
    subst ht
    rw [Nat.zero_add]
    simp [World.cell?, hg]
theorem Rd.of_blk {b : Nat} {cs : List Value} {t : TypeId} (h : Blk w b cs t) (hm : cs.length ≤ 9223372036854775807) : Rd w (.slice (some ⟨b, 0, none⟩) cs.length cs.length) cs :=
  ⟨_, _, rfl, Nat.le_refl _, by unfold maxLen; omega, (fun h => by cases h), .inr ⟨b, 0, rfl, fun j hj => by rw [Nat.zero_add]; exact h.cell j hj⟩⟩
end

theorem Rd.one (w : World) (v : Value) (e : TypeId) : Rd (w.alloc (.cells #[v] e)) (.slice (some ⟨w.heap.size, 0, none⟩) 1 1) [v] := Rd.of_blk (Blk.new w [v] e) (by simp)

theorem Rd.addr {w : World} {A : Option Addr} {n c : Nat} {xs : List Value} (hr : Rd w (.slice A n c) xs) : n = xs.length ∧ ((A = none ∧ xs = []) ∨ ∃ a, A = some a ∧ ∀ j v, xs[j]? = some v → w.cell? (a.add j) = some v) := by
  obtain ⟨A', c', hv, h1, _, h0, h⟩ := hr
  cases hv
  refine ⟨rfl, ?_⟩
  cases A with
  | none =>
    have := h0 rfl
    exact .inl ⟨rfl, List.eq_nil_of_length_eq_zero (by omega)⟩
  | some a =>
    refine .inr ⟨a, rfl, fun j v hj => ?_⟩
    rcases h with rfl | ⟨b, o, ha, h⟩
    · simp at hj
    · obtain rfl : a = ⟨b, o, none⟩ := by simpa using ha
      obtain ⟨hlt, rfl⟩ := List.getElem?_eq_some_iff.1 hj
      rw [← h j hlt]
      congr 1
      unfold Addr.add; split <;> simp_all

/-- append onto a row of the call's own, whatever is appended. -/
theorem wp_app {P : Program} {ops : Array Oper} {rest : List Oper} {o : Oper} {a : Act} {Q : Exit → Act → World → Prop} {w : World} (s x : Operand) (t : TypeId) (hgd : o.guard = none)
    (ho : o.op = .call { callee := .builtin .append, args := #[s, x], argTypes := #[t, t] }) (e : TypeId) (z : Value) (bytes : Nat) (ht : P.underlying t = some (.slice e))
    (hinfo : (P.info? e).map (fun i => (i.zero, i.size, i.bytes)) = some (some z, 1, bytes)) (hzs : z.cells.size = 1) (base : Nat) {v u : Value} {n : Nat} {xs ys : List Value} (hs : a.eval s = v) (hown : w.ownsRow base e 1 v n xs)
    (hx : a.eval x = u) (hr : Rd w u ys) (h1 : ∀ y ∈ ys, y.oneCell' = true) (hb1 : 1 ≤ bytes) (hbytes : (n + ys.length) * bytes ≤ 140737488355328) (hbase : base ≤ w.heap.size)
    (h : ∀ v' w', w'.ownsRow base e 1 v' (n + ys.length) (xs ++ ys) → w.grownBy w' v.ownBlock → Below base w w' → wpList P ops Q rest (a.put o.dst v') w') : wpList P ops Q (o :: rest) a w := by
  obtain ⟨i, hi, hz0, hz1, hz2⟩ := info_parts hinfo
  have h63 : n + ys.length ≤ maxLen := by
    have h2 : n + ys.length ≤ (n + ys.length) * bytes := Nat.le_mul_of_pos_right _ hb1
    unfold maxLen; omega
  obtain ⟨A, c, rfl, hc1, hc2, h0, h3⟩ := hr
  cases A with
  | none =>
    obtain rfl : c = 0 := h0 rfl
    obtain rfl : ys = [] := List.eq_nil_of_length_eq_zero (by omega)
    refine wpList_append_own_none hgd s x t ho base e i 1 ht hi v n xs hs hown hx (h v w (by simpa using hown) ⟨rfl, rfl, rfl, Nat.le_refl _, fun _ _ _ => rfl⟩ (Below.refl _ _))
  | some ad =>
    refine wpList_append_own w hgd s x t ho base e i z 1 bytes ht hi hz0 hz1 hz2 hzs (by decide) v n xs hs hown ad ys.length c ys hx (by simp) ?_ h1 h63 hbytes hbase (fun v' w' h4 h5 _ => h v' w' h4 h5 ((Below.refl base w).grown h5 hbase (fun k hk => (hown.lt k hk).1)))
    intro j y hj
    rcases h3 with rfl | ⟨b, o', hA, h3⟩
    · simp at hj
    · obtain rfl : ad = ⟨b, o', none⟩ := by simpa using hA
      obtain ⟨hlt, rfl⟩ := List.getElem?_eq_some_iff.1 hj
      rw [← h3 j hlt]
      congr 1
      unfold Addr.add; split <;> simp_all

/-! ### Arrays of integers that are compared -/
theorem run_part_int {P : Program} {w : World} {e : TypeId} {k : IntKind} (he : P.underlying e = some (.int k)) (cs : Array Value) (off : Nat) (v : Value) (h : cs[off]? = some v) : (part e cs off).run P w = .ok v w := by
  simp [part, isAgg, run_underlying he, h]

theorem run_eq_ints {P : Program} {w : World} (d : Nat) (t e : TypeId) (n : Nat) (k : IntKind) (xs ys : List Int) (hx : xs.length = n) (hy : ys.length = n) (ht : P.underlying t = some (.array n e)) (he : P.underlying e = some (.int k)) (i : TypeInfo) (hi : P.info? e = some i) (hz : i.size = 1) :
    (Op.equalIn (d + 2) t (.agg (xs.map (Value.int k)).toArray) (.agg (ys.map (Value.int k)).toArray)).run P w = .ok (xs == ys) w := by
  obtain ⟨D, hD⟩ : ∃ D, D = d + 1 := ⟨_, rfl⟩
  rw [show d + 2 = D + 1 from by omega]
  simp only [Op.equalIn, Sem.run_bind, run_underlying ht, Result.andThen_ok]
  simp only [sizeOf, typeInfo, Sem.run_bind, run_program, Result.andThen_ok, hi, Sem.run_pure, hz, Nat.mul_one]
  rw [Std.Legacy.Range.forIn_eq_forIn_range']
  simp only [Std.Legacy.Range.size, Nat.sub_zero, Nat.add_sub_cancel, Nat.div_one]
  have key : ∀ (m s : Nat), s + m = n → ∀ (w : World),
      (forIn (m := Sem) (List.range' s m 1) ((none : Option Bool), ()) fun i __s => do
            let a ← part e (xs.map (Value.int k)).toArray i
            let b ← part e (ys.map (Value.int k)).toArray i
            let r ← Op.equalIn D e a b
            if (!r) = true then pure (ForInStep.done (some false, ())) else pure (ForInStep.yield (none, ()))).run P w =
        .ok (if xs.drop s == ys.drop s then (none, ()) else (some false, ())) w := by
    intro m
    induction m with
    | zero =>
      intro s hs w
      rw [List.drop_of_length_le (by omega), List.drop_of_length_le (by omega)]
      simp
    | succ m ih =>
      intro s hs w
      have h1 : s < xs.length := by omega
      have h2 : s < ys.length := by omega
      simp only [List.range'_succ, List.forIn_cons, Sem.run_bind]
      rw [run_part_int he _ s (.int k xs[s]) (by simp [h1]), Result.andThen_ok, run_part_int he _ s (.int k ys[s]) (by simp [h2]), Result.andThen_ok, hD, run_equalIn_int w d e k k _ _ he, Result.andThen_ok]
      have hbeq : (xs.drop s == ys.drop s) = ((xs[s] == ys[s]) && (xs.drop (s + 1) == ys.drop (s + 1))) := by
        rw [List.drop_eq_getElem_cons h1, List.drop_eq_getElem_cons h2, List.cons_beq_cons]
      rw [hbeq]
      by_cases hxy : xs[s] = ys[s]
      · simp only [hxy, beq_self_eq_true, Bool.not_true, Bool.false_eq_true, if_false, Sem.run_pure, Result.andThen_ok]
        rw [← hD, ih (s + 1) (by omega) w, Bool.true_and]
      · have hb : (xs[s] == ys[s]) = false := by simpa using hxy
        simp only [hb, Bool.not_false, if_true, Sem.run_pure, Result.andThen_ok, Bool.false_and, Bool.false_eq_true, if_false]
  rw [key n 0 (by omega) w]
  simp only [Result.andThen_ok, List.drop_zero]
  by_cases h : xs = ys
  · simp [h]
  · simp [h]

/-! ### The closing of a law's row: it answers true, and nothing that was there has turned -/
theorem trodAll_stays {H : Type} {enc : TypeId × Value → H} {P : Program} (hl : laidOutB P = true) {W W' : World} (hb : Below W.heap.size W W') :
    ∀ (ts : List TypeId) (vs : List Value) (ds : List (DataW H)) (ps : List MemPlace), (ts.all fun t => P.readableRec t && decide (t < P.types.size)) = true →
      DataW.TrodAll enc P W 0 (fun _ => true) true ts vs ds ps → (∀ x ∈ ps, x.block < W.heap.size) →
      DataW.TrodAll enc P W' 0 (fun b => decide (b < W.heap.size)) true ts vs ds ps := by
  intro ts
  induction ts with
  | nil =>
    intro vs ds ps _ h _
    cases vs <;> cases ds <;> simp_all [DataW.TrodAll]
  | cons t ts ih =>
    intro vs ds ps hr h hlt
    cases vs with
    | nil => cases ds <;> simp [DataW.TrodAll] at h
    | cons v vs =>
      cases ds with
      | nil => simp [DataW.TrodAll] at h
      | cons d ds =>
        simp only [List.all_cons, Bool.and_eq_true, decide_eq_true_eq] at hr
        obtain ⟨p, q, h1, h2, rfl⟩ := h
        refine ⟨p, q, Below.trod hl hr.1.1 hr.1.2 h1 hb (fun x hx => hlt x (List.mem_append_left _ hx)), ih vs ds q (by simpa using hr.2) h2 (fun x hx => hlt x (List.mem_append_right _ hx)), rfl⟩

theorem law_post {H : Type} {enc : TypeId × Value → H} {P : Program} {f : Func} {s : ChangeSpec} {W W' : World} {args : Array Value} {ds : List (DataW H)} {before : List MemPlace} {tb : TypeId}
    (hl : laidOutB P = true) (hr : (f.params.toList.all fun t => P.readableRec t && decide (t < P.types.size)) = true) (hrt : f.resultTypes = #[tb]) (htb : P.underlying tb = some .bool)
    (hv : s.vars = []) (hs : (s.fn H (ds ++ [])).results = [.lit (.bool true)]) (ha : (s.fn H (ds ++ [])).args = ds) (hsv : (s.fn H (ds ++ [])).vars = [])
    (hW : DataW.Whole enc P f.params.toList s.vars false W args.toList ds [] before) (hb : Below W.heap.size W W') : s.post enc P f false true false false W args (.bool true) W' := by
  have hW' := hW
  obtain ⟨p, q, hA, hV, rfl, _, _⟩ := hW
  rw [hv] at hV
  obtain rfl : q = [] := by simpa [DataW.TrodVars] using hV
  have hlt : ∀ x ∈ p, x.block < W.heap.size := fun x hx => hA.lt x hx
  refine ⟨ds, [], p ++ [], [], p, [], hW', ?_, ?_, ?_, hb.frame _, fun h => by cases h⟩
  · rw [hs, hrt]; exact trodAll_mk1 (shut_bool htb true)
  · rw [ha]; exact trodAll_stays hl hb _ _ _ _ hr hA hlt
  · rw [hv, hsv]; rfl

/-! ### Arguments that are rows of integers -/
theorem trod_arr_ints {H : Type} {enc : TypeId × Value → H} {P : Program} {w : World} {base : Nat} {spare : Nat → Bool} {held : Bool} {fuel : Nat} {t e : TypeId} {n : Nat} {k : IntKind} {cs : List Value} {x : DataW H × List MemPlace}
    (ht : P.underlying t = some (.array n e)) (he : P.underlying e = some (.int k)) (hc : P.cellsOf e = 1) (hct : P.cellsOf t = n)
    (h : DataW.trod enc P w base spare held fuel t cs = some x) : ∃ zs : List Int, zs.length = n ∧ cs = zs.map (Value.int k) ∧ ∀ z ∈ zs, (Lit.int k z).wf = true := by
  obtain ⟨xs, m, _, _, hlen, hxl, hx⟩ := DataW.trod_array ht h
  rw [hct] at hlen
  rw [hc] at hx
  have hcell : ∀ i (hi : i < cs.length), ∃ z, cs[i] = .int k z ∧ (Lit.int k z).wf = true := by
    intro i hi
    have h1 := hx i (by omega)
    rw [Nat.mul_one, List.drop_eq_getElem_cons hi, List.getElem?_eq_getElem (by omega)] at h1
    obtain ⟨z, hz, _, hw⟩ := DataW.trod_int he h1
    simp only [List.take_succ_cons, List.take_zero, List.cons.injEq, and_true] at hz
    exact ⟨z, hz, hw⟩
  refine ⟨cs.map intOf, by simpa using hlen, ?_, ?_⟩
  · apply List.ext_getElem (by simp)
    intro i h1 h2
    obtain ⟨z, hz, _⟩ := hcell i h1
    simp [hz, intOf]
  · intro z hz
    obtain ⟨v, hv, rfl⟩ := List.mem_map.1 hz
    obtain ⟨i, hi, rfl⟩ := List.mem_iff_getElem.1 hv
    obtain ⟨z, hz', hw⟩ := hcell i hi
    rw [hz']; exact hw

theorem Try.own : ownKnob Try.prog.godebug = none := by kernel_rfl
theorem Try.laidOut : laidOutB Try.prog = true := by kernel_rfl

theorem laid_none (P : Program) (w : World) : laidMetH P [] w := ⟨[], rfl, List.nodup_nil, fun _ _ h => by cases h⟩

/-- What a law's walk gives: true, and nothing that was there has turned. -/
def Holds (e : Ending) (w w' : World) : Prop := e = .returned (.bool true) ∧ Below w.heap.size w w'
end Go.Proofs.Ytlgcnnhlbkidmaa
