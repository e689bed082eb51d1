/-
  A piece of a slice that reads as a list.
-/
import Derived.Test.YtlgcnnhlbkidmaaSub
import Derived.Test.YtlgcnnhlbkidmaaSeq
namespace Go.Proofs.Ytlgcnnhlbkidmaa
open Go.RowKit

/-- A piece, from i to k. -/
theorem Rd.sub {w : World} {A : Option Addr} {n c : Nat} {xs : List Value} (h : Rd w (.slice A n c) xs) (i k : Nat) (hik : i ≤ k) (hk : k ≤ xs.length) (A' : Option Addr) (hA : A' = if c = i then A else A.map (·.add i)) :
    Rd w (.slice A' (k - i) (c - i)) ((xs.drop i).take (k - i)) := by
  obtain ⟨A0, c0, hv, h1, h2, h0, h3⟩ := h
  injection hv with e1 e2 e3
  subst e1 e2 e3
  have hl : ((xs.drop i).take (k - i)).length = k - i := by rw [List.length_take, List.length_drop]; omega
  refine ⟨A', c - i, by rw [hl], by rw [hl]; omega, by omega, fun hn => ?_, ?_⟩
  · subst hA
    by_cases hc : c = i
    · omega
    · rw [if_neg hc] at hn
      have := h0 (by simpa using hn)
      omega
  · rcases h3 with rfl | ⟨b, o, rfl, h3⟩
    · left; simp
    · by_cases hc : c = i
      · left
        rw [List.drop_of_length_le (by omega)]
        simp
      · right
        rw [if_neg hc] at hA
        refine ⟨b, o + i, ?_, fun j hj => ?_⟩
        · rw [hA]
          simp only [Option.map_some, Addr.add]
          split
          · next h => subst h; rfl
          · rfl
        · rw [hl] at hj
          rw [Nat.add_assoc, h3 (i + j) (by omega), List.getElem_take, List.getElem_drop]

/-- What is known of a slice that is held by its name. -/
theorem len_fact {P : Program} {w : World} {v : Value} {xs : List Value} (h : Rd w v xs) {t ty : TypeId} (ht : P.underlying t = some (.slice (P.elem t))) : ∀ w', (Builtin.len_ #[t] ty #[v]).run P w' = .ok (goInt xs.length) w' := by
  obtain ⟨A, c, rfl, _⟩ := h
  intro w'
  exact run_len_slice (w := w') t ty A _ c ht
theorem sub_fact {P : Program} {w : World} {v : Value} {xs : List Value} (h : Rd w v xs) {t : TypeId} (ht : P.underlying t = some (.slice (P.elem t))) (hsz : ∀ w, (sizeOf (P.elem t)).run P w = .ok 1 w) (i k : Nat) (hik : i ≤ k) (hk : k ≤ xs.length) :
    ∃ v', Rd w v' ((xs.drop i).take (k - i)) ∧ (∀ w', (Instr.sliceAt t v (some (.int .i64 i)) (some (.int .i64 k)) none).run P w' = .ok v' w') ∧ (∀ w', (Instr.slice t v (some (.int .i64 i)) (some (.int .i64 k)) none).run P w' = .ok v' w') ∧
      (i = 0 → ∀ w', (Instr.sliceAt t v none (some (.int .i64 k)) none).run P w' = .ok v' w') ∧ (i = 0 → ∀ w', (Instr.slice t v none (some (.int .i64 k)) none).run P w' = .ok v' w') ∧
      (k = xs.length → ∀ w', (Instr.sliceAt t v (some (.int .i64 i)) none none).run P w' = .ok v' w') ∧ (k = xs.length → ∀ w', (Instr.slice t v (some (.int .i64 i)) none none).run P w' = .ok v' w') := by
  have h0 := h
  obtain ⟨A, c, rfl, h1, h2, _⟩ := h
  have f1 : ∀ w', (Instr.slice t (.slice A xs.length c) (some (.int .i64 i)) (some (.int .i64 k)) none).run P w' = .ok (.slice (if c = i then A else A.map (·.add i)) (k - i) (c - i)) w' := fun w' => by
    rw [run_slice_lh (w := w') t A _ c ht .i64 .i64 i k (by omega) (by omega) (by omega), hsz]
    simp [Result.andThen, sliced]
  have f2 : i = 0 → ∀ w', (Instr.slice t (.slice A xs.length c) none (some (.int .i64 k)) none).run P w' = .ok (.slice (if c = i then A else A.map (·.add i)) (k - i) (c - i)) w' := fun hi w' => by
    subst hi
    rw [run_slice_h (w := w') t A _ c ht .i64 k (by omega) (by omega), hsz]
    simp [Result.andThen, sliced]
  have f3 : k = xs.length → ∀ w', (Instr.slice t (.slice A xs.length c) (some (.int .i64 i)) none none).run P w' = .ok (.slice (if c = i then A else A.map (·.add i)) (k - i) (c - i)) w' := fun hi w' => by
    subst hi
    rw [run_slice_l (w := w') t A _ c ht .i64 i (by omega) (by omega), hsz]
    simp [Result.andThen, sliced]
  refine ⟨_, h0.sub i k hik hk _ rfl, fun w' => ?_, f1, fun hi w' => ?_, f2, fun hi w' => ?_, f3⟩
  · rw [run_sliceAt_slice (w := w') t _ _ _ _ ht]; exact f1 w'
  · rw [run_sliceAt_slice (w := w') t _ _ _ _ ht]; exact f2 hi w'
  · rw [run_sliceAt_slice (w := w') t _ _ _ _ ht]; exact f3 hi w'

/-- append behind a guard that holds. -/
theorem wp_app_g {P : Program} {ops : Array Oper} {rest : List Oper} {o : Oper} {a : Act} {Q : Exit → Act → World → Prop} {w : World} (s x : Operand) (t : TypeId) (hgd : Region.wanted o (yielded ops a.tmps) = true)
    (ho : o.op = .call { callee := .builtin .append, args := #[s, x], argTypes := #[t, t] }) (e : TypeId) (z : Value) (bytes : Nat) (ht : P.underlying t = some (.slice e))
    (hinfo : (P.info? e).map (fun i => (i.zero, i.size, i.bytes)) = some (some z, 1, bytes)) (hzs : z.cells.size = 1) (base : Nat) {v u : Value} {n : Nat} {xs ys : List Value} (hs : a.eval s = v) (hown : w.ownsRow base e 1 v n xs)
    (hx : a.eval x = u) (hr : Rd w u ys) (h1 : ∀ y ∈ ys, y.oneCell' = true) (hb1 : 1 ≤ bytes) (hbytes : (n + ys.length) * bytes ≤ 140737488355328) (hbase : base ≤ w.heap.size)
    (h : ∀ v' w', w'.ownsRow base e 1 v' (n + ys.length) (xs ++ ys) → Below base w w' → wpList P ops Q rest (a.put o.dst v') w') : wpList P ops Q (o :: rest) a w :=
  wpList_step fun K hK => by
    rw [if_pos hgd]
    exact upon_app s x t ho e z bytes ht hinfo hzs base hs hown hx hr h1 hb1 hbytes hbase fun v' w' h2 h3 => hK _ _ (h v' w' h2 h3)
/-- A new row without cells. -/
theorem own_empty (w : World) (e : TypeId) : (w.alloc (.cells #[] e)).ownsRow w.heap.size e 1 (.slice (some ⟨w.heap.size, 0, none⟩) 0 0) 0 [] :=
  ⟨rfl, .inr ⟨w.heap.size, 0, #[], rfl, Nat.le_refl _, Blk.mk_ (cs := []) w rfl rfl, Nat.le_refl _, Nat.zero_le _, rfl, rfl⟩⟩

/-- A load of a piece of a block, in each later world. -/
theorem load_fact {P : Program} {w : World} {b : Nat} {cs : List Value} {t : TypeId} (h : Blk w b cs t) (ty : TypeId) (off : Nat) {ys : List Value} (hy : (cs.drop off).take ys.length = ys) {d : TypeDesc} (hu : P.underlying ty = some d)
    (hd : (match d with | .struct _ | .array _ _ => true | _ => false) = true) {n : Nat} (hi : (P.info? ty).map (·.size) = some n) (hn : ys.length = n) :
    ∀ w', Below w.heap.size w w' → (loadVar ty ⟨b, off, none⟩).run P w' = .ok (.agg ys.toArray) w' := fun w' hb =>
  run_loadVar_sub w' ty ((h.stay hb).part off hy) hu hd hi hn
/-- An operation behind a guard that holds, whose run is known. -/
theorem wp_value_g {P : Program} {ops : Array Oper} {rest : List Oper} {o : Oper} {a : Act} {w : World} {Q : Exit → Act → World → Prop} {v : Value} (hgd : Region.wanted o (yielded ops a.tmps) = true) (hr : (execOp a.eval o).run P w = .ok (.value v) w) (h : wpList P ops Q rest (a.put o.dst v) w) : wpList P ops Q (o :: rest) a w :=
  wpList_step fun K hK => by
    rw [if_pos hgd]
    show o.upon P a K Q ((execOp a.eval o).run P w)
    rw [hr]
    exact hK _ _ h

theorem exec_load_f {P : Program} {w : World} {o : Oper} {ρ : Operand → Value} {ty : TypeId} {x : Operand} (ho : o.op = .load ty x) {p : Addr} (hx : ρ x = .pointer (some p)) {v : Value} (hf : (loadVar ty p).run P w = .ok v w) : (execOp ρ o).run P w = .ok (.value v) w := by
  unfold execOp
  simp only [ho, hx, Instr.loadAt, Instr.sureAddr, Sem.run_bind, Sem.run_pure, Result.andThen_ok, hf]
theorem wp_load_f {P : Program} {ops : Array Oper} {rest : List Oper} {o : Oper} {a : Act} {w : World} {Q : Exit → Act → World → Prop} (hgd : Region.wanted o (yielded ops a.tmps) = true) (ty : TypeId) (x : Operand) (ho : o.op = .load ty x) {p : Addr} (hx : a.eval x = .pointer (some p)) {v : Value}
    (hf : (loadVar ty p).run P w = .ok v w) (h : wpList P ops Q rest (a.put o.dst v) w) : wpList P ops Q (o :: rest) a w := wp_value_g hgd (exec_load_f ho hx hf) h
theorem same_load {P : Program} {ops : Array Oper} {o : Oper} {a : Act} {w : World} (hgd : Region.wanted o (yielded ops a.tmps) = true) (ty : TypeId) (x : Operand) (ho : o.op = .load ty x) {p : Addr} (hx : a.eval x = .pointer (some p)) {v : Value} (hf : (loadVar ty p).run P w = .ok v w)
    (hv : a.tmps.getD (o.dst.getD 0) undef = v) : Same P ops o a w := by
  unfold Same
  rw [if_pos hgd, hv]
  exact exec_load_f ho hx hf
end Go.Proofs.Ytlgcnnhlbkidmaa
