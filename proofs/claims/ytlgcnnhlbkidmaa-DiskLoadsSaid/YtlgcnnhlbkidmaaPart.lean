/-
  Slices of the call's own that may begin anywhere in their arrays, and append onto them.
-/
import Derived.Test.YtlgcnnhlbkidmaaTurns
import Derived.Test.YtlgcnnhlbkidmaaSlice
import Derived.Test.YtlgcnnhlbkidmaaBytes
namespace Go.Proofs.Ytlgcnnhlbkidmaa
open Go.RowKit

/-- The slice lies in block b. -/
def hold (v : Value) (b : Nat) : Prop := ∃ off n c, v = .slice (some ⟨b, off, none⟩) n c
/-- A slice of the call's own: it may begin anywhere in its array. -/
def Part (w : World) (base : Nat) (e : TypeId) (v : Value) (xs : List Value) : Prop :=
  (v = .slice none 0 0 ∧ xs = []) ∨ ∃ g off cap cur, v = .slice (some ⟨g, off, none⟩) xs.length cap ∧ base ≤ g ∧ w.heap[g]? = some (.cells cur e (0, 0)) ∧ xs.length ≤ cap ∧ cap ≤ maxLen ∧ off + cap ≤ cur.size ∧ (cur.toList.drop off).take xs.length = xs
theorem Part.nil (w : World) (base : Nat) (e : TypeId) : Part w base e (.slice none 0 0) [] := .inl ⟨rfl, rfl⟩
theorem Part.rd {w : World} {base : Nat} {e : TypeId} {v : Value} {xs : List Value} (h : Part w base e v xs) : Rd w v xs := by
  rcases h with ⟨rfl, rfl⟩ | ⟨g, off, cap, cur, rfl, _, hg, h1, h2, h3, h4⟩
  · exact Rd.nil w
  · refine ⟨_, cap, rfl, h1, h2, (fun h => by cases h), .inr ⟨g, off, rfl, fun j hj => ?_⟩⟩
    have h5 : ((cur.toList.drop off).take xs.length)[j]? = some xs[j] := by rw [h4]; exact List.getElem?_eq_getElem hj
    rw [List.getElem?_take_of_lt hj, List.getElem?_drop] at h5
    simp only [World.cell?, hg]
    rw [← Array.getElem?_toList]
    simpa using h5
theorem Part.mono {w : World} {base base' : Nat} {e : TypeId} {v : Value} {xs : List Value} (h : Part w base e v xs) (hb : base' ≤ base) : Part w base' e v xs := by
  rcases h with h | ⟨g, off, cap, cur, h1, h2, h3⟩
  · exact .inl h
  · exact .inr ⟨g, off, cap, cur, h1, Nat.le_trans hb h2, h3⟩
theorem Part.move {w w' : World} {base : Nat} {e : TypeId} {v : Value} {xs : List Value} (h : Part w base e v xs) (hm : ∀ g off n c, v = .slice (some ⟨g, off, none⟩) n c → w'.heap[g]? = w.heap[g]?) : Part w' base e v xs := by
  rcases h with h | ⟨g, off, cap, cur, h1, h2, h3, h4⟩
  · exact .inl h
  · exact .inr ⟨g, off, cap, cur, h1, h2, (hm g off _ _ h1).trans h3, h4⟩
theorem Part.lt {w : World} {base : Nat} {e : TypeId} {v : Value} {xs : List Value} (h : Part w base e v xs) : ∀ g off n c, v = .slice (some ⟨g, off, none⟩) n c → base ≤ g ∧ g < w.heap.size := by
  intro g off n c hv
  rcases h with ⟨rfl, _⟩ | ⟨g', off', cap, cur, rfl, h2, h3, _⟩
  · cases hv
  · cases hv
    exact ⟨h2, (Array.getElem?_eq_some_iff.1 h3).1⟩
theorem Part.stay {w w' : World} {base : Nat} {e : TypeId} {v : Value} {xs : List Value} (h : Part w base e v xs) (hb : Below w.heap.size w w') : Part w' base e v xs :=
  h.move fun g off n c hv => hb.block g (h.lt g off n c hv).2
/-- The rest of it, from i on. -/
theorem Part.drop {w : World} {base : Nat} {e : TypeId} {A : Option Addr} {n c : Nat} {xs : List Value} (h : Part w base e (.slice A n c) xs) (i : Nat) (hi : i ≤ xs.length) (A' : Option Addr) (hA : A' = if c = i then A else A.map (·.add i)) : Part w base e (.slice A' (xs.length - i) (c - i)) (xs.drop i) := by
  rcases h with ⟨hv, rfl⟩ | ⟨g, off, cap, cur, hv, h2, h3, h4, h5, h6, h7⟩
  · cases hv
    simp at hi
    subst hi
    left
    subst hA
    exact ⟨rfl, rfl⟩
  · injection hv with e1 e2 e3
    subst e1 e3
    right
    have hl : (xs.drop i).length = xs.length - i := List.length_drop
    by_cases hc : c = i
    · rw [if_pos hc] at hA
      subst hA
      have hx : xs.drop i = [] := List.drop_of_length_le (by omega)
      refine ⟨g, off, c - i, cur, by rw [hl], h2, h3, by rw [hl]; omega, by omega, by omega, ?_⟩
      rw [hx]; simp
    · rw [if_neg hc] at hA
      refine ⟨g, off + i, c - i, cur, ?_, h2, h3, by rw [hl]; omega, by omega, by omega, ?_⟩
      · rw [hl, hA]
        simp only [Option.map_some, Addr.add]
        split
        · next h => subst h; rfl
        · rfl
      · rw [hl]
        have h8 := congrArg (List.drop i) h7
        rw [List.drop_take, List.drop_drop] at h8
        exact h8

theorem run_append_room_at {P : Program} (w : World) (t ty e : TypeId) (i : TypeInfo) (ht : P.underlying t = some (.slice e)) (hi : P.info? e = some i) (hs : i.size = 1)
    (g off sLen sCap : Nat) (cur : Array Value) (hg : w.heap[g]? = some (.cells cur e (0, 0)))
    (a : Addr) (m c : Nat) (news : List Value) (hl : news.length = m) (hnews : ∀ j u, news[j]? = some u → w.cell? (a.add j) = some u) (h1 : ∀ u ∈ news, u.oneCell' = true)
    (hroom : sLen + m ≤ sCap) (hfit : off + sLen + news.length ≤ cur.size) :
    (Builtin.append_ #[t, t] ty #[.slice (some ⟨g, off, none⟩) sLen sCap, .slice (some a) m c]).run P w =
      .ok (.slice (some ⟨g, off, none⟩) (sLen + m) sCap) (w.setRow g (cur.toList.take (off + sLen) ++ news ++ cur.toList.drop (off + sLen + news.length)).toArray) := by
  have hf := run_firstCells_some (P := P) w i.size m a m c news (by rw [hs, Nat.mul_one]; exact hl) hnews
  rw [hs] at hf
  have hst := run_storeCells_at (P := P) g (off + sLen) e news 0 cur w hg (by simpa using hfit) h1
  simp only [Nat.add_zero] at hst
  have hadd : (⟨g, off, none⟩ : Addr).add sLen = ⟨g, off + sLen, none⟩ := by unfold Addr.add; split <;> simp_all
  simp [Builtin.append_, run_underlying ht, sizeOf, typeInfo, hi, Builtin.lenOf, hroom, hf, hs, hadd, hst]

/-- append onto a slice of the call's own. -/
theorem run_app_part {P : Program} {w : World} (t ty e : TypeId) (z : Value) (bytes : Nat) (ht : P.underlying t = some (.slice e))
    (hinfo : (P.info? e).map (fun i => (i.zero, i.size, i.bytes)) = some (some z, 1, bytes)) (hzs : z.cells.size = 1) (base : Nat) {v u : Value} {xs ys : List Value} (hown : Part w base e v xs)
    (hr : Rd w u ys) (h1 : ∀ y ∈ ys, y.oneCell' = true) (hb1 : 1 ≤ bytes) (hbytes : (xs.length + ys.length) * bytes ≤ 140737488355328) (hbase : base ≤ w.heap.size) :
    ∃ v' w', (Builtin.append_ #[t, t] ty #[v, u]).run P w = .ok v' w' ∧ Part w' base e v' (xs ++ ys) ∧ Turns (fun k => ∃ off n c, v = .slice (some ⟨k, off, none⟩) n c) w w' ∧
      ∀ g off n c, v' = .slice (some ⟨g, off, none⟩) n c → w.heap.size ≤ g ∨ ∃ off n c, v = .slice (some ⟨g, off, none⟩) n c := by
  rcases hown with ⟨rfl, rfl⟩ | ⟨g, off, cap, cur, rfl, hbg, hg, hc, hm, hs, hx⟩
  · obtain ⟨v', w', h4, h5, h6⟩ := run_app (P := P) (w := w) t ty e z bytes ht hinfo hzs w.heap.size (World.ownsRow_nil w _ _ _) hr h1 hb1 (by simpa using hbytes) (Nat.le_refl _)
    refine ⟨v', w', h4, ?_, Turns.of_below h6, ?_⟩
    · rcases h5.2 with ⟨rfl, h7⟩ | ⟨g, cap, cur, rfl, h7, h8, h9, h10, h11, h12⟩
      · left
        refine ⟨rfl, ?_⟩
        have := h5.1
        simp only [Nat.mul_one, List.nil_append, Nat.zero_add] at this h7 ⊢
        exact List.eq_nil_of_length_eq_zero (by omega)
      · right
        have hl : ([] ++ ys).length = ys.length := by simp
        refine ⟨g, 0, cap, cur, by simp, Nat.le_trans hbase h7, h8, by simpa using h9, h10, by omega, ?_⟩
        simp only [Nat.mul_one] at h12
        rw [List.drop_zero]
        simpa using h12
    · intro g off n c hv
      left
      rcases h5.2 with ⟨rfl, h7⟩ | ⟨g, cap, cur, rfl, h7, _⟩
      · cases hv
      · cases hv; exact h7
  · obtain ⟨i, hi, hz0, hz1, hz2⟩ := info_parts hinfo
    have hR : ∀ j y, xs[j]? = some y → w.cell? ((⟨g, off, none⟩ : Addr).add j) = some y := fun j y hj => by
      have hp : Part w base e (.slice (some ⟨g, off, none⟩) xs.length cap) xs := .inr ⟨g, off, cap, cur, rfl, hbg, hg, hc, hm, hs, hx⟩
      have hadd : (⟨g, off, none⟩ : Addr).add j = ⟨g, off + j, none⟩ := by unfold Addr.add; split <;> simp_all
      obtain ⟨A, c', hv, _, _, _, h3⟩ := hp.rd
      cases hv
      obtain ⟨hlt, rfl⟩ := List.getElem?_eq_some_iff.1 hj
      rcases h3 with h3 | ⟨b, o, hA, h3⟩
      · subst h3; simp at hlt
      · cases hA
        rw [hadd]
        exact h3 j hlt
    have h63 : xs.length + ys.length ≤ 140737488355328 := Nat.le_trans (Nat.le_mul_of_pos_right _ hb1) hbytes
    obtain ⟨A, c, rfl, hc1, hc2, h0, h3⟩ := hr
    cases A with
    | none =>
      obtain rfl : c = 0 := h0 rfl
      obtain rfl : ys = [] := List.eq_nil_of_length_eq_zero (by omega)
      refine ⟨.slice (some ⟨g, off, none⟩) xs.length cap, w, ?_, by rw [List.append_nil]; exact .inr ⟨g, off, cap, cur, rfl, hbg, hg, hc, hm, hs, hx⟩, Turns.refl _ _, fun g' off' n' c' hv => .inr ⟨_, _, _, hv⟩⟩
      simp [Builtin.append_, run_underlying ht, sizeOf, typeInfo, hi, Builtin.lenOf, Builtin.firstCells, loadCells, hc, storeCells]
    | some ad =>
      have hn : ∀ j u, ys[j]? = some u → w.cell? (ad.add j) = some u := by
        intro j y hj
        rcases h3 with rfl | ⟨b, o', hA, h3⟩
        · simp at hj
        · obtain rfl : ad = ⟨b, o', none⟩ := by simpa using hA
          obtain ⟨hlt, rfl⟩ := List.getElem?_eq_some_iff.1 hj
          rw [← h3 j hlt]
          congr 1
          unfold Addr.add; split <;> simp_all
      by_cases hroom : xs.length + ys.length ≤ cap
      · have hrun := run_append_room_at (P := P) w t ty e i ht hi hz1 g off xs.length cap cur hg ad ys.length c ys rfl hn h1 hroom (by omega)
        refine ⟨_, _, hrun, .inr ⟨g, off, cap, _, by rw [List.length_append], hbg, setRow_heap w g cur _ e (0, 0) hg, by rw [List.length_append]; exact hroom, hm, ?_, ?_⟩, Turns.of_only (Only.row w g _) ⟨off, _, _, rfl⟩, fun g' off' n' c' hv => by cases hv; exact .inr ⟨_, _, _, rfl⟩⟩
        · have : cur.toList.length = cur.size := Array.length_toList
          simp only [List.size_toArray, List.length_append, List.length_take, List.length_drop, this]
          omega
        · have hcl : cur.toList.length = cur.size := Array.length_toList
          have hto : (cur.toList.take (off + xs.length)).length = off + xs.length := by rw [List.length_take]; omega
          have h8 : (cur.toList.take (off + xs.length)).drop off = xs := by
            rw [List.drop_take, Nat.add_sub_cancel_left]; exact hx
          rw [List.toList_toArray, List.length_append, List.append_assoc, List.drop_append_of_le_length (by omega), h8, ← List.append_assoc]
          rw [List.take_append_of_le_length (by rw [List.length_append]; exact Nat.le_refl _), List.take_of_length_le (by rw [List.length_append]; exact Nat.le_refl _)]
      · have hrun := run_append_grow (P := P) (w := w) t ty e i z ht hi hz0 ⟨g, off, none⟩ xs.length cap xs (by rw [hz1, Nat.mul_one]) hR ad ys.length c ys (by rw [hz1, Nat.mul_one]) hn (by omega) (by omega) (by rw [hz2]; exact growslice_fits (by omega) hbytes)
        have hge := grownCap_ge w (xs.length + ys.length) cap e
        refine ⟨_, _, hrun, .inr ⟨w.heap.size, 0, _, _, by rw [List.length_append], hbase, heap_alloc_new w.drew _, by rw [List.length_append]; exact hge, grownCap_le_maxLen w _ _ e (by unfold maxLen; omega), ?_, ?_⟩, ?_, fun g' off' n' c' hv => by cases hv; exact .inl (Nat.le_refl _)⟩
        · simp only [Array.size_append, List.size_toArray, size_zeroCells, hzs]
          omega
        · simp only [Array.toList_append, List.drop_zero]
          rw [List.length_append, List.take_append_of_le_length (by simp), List.take_of_length_le (by simp)]
        · exact Turns.of_below (bw_al (bw_d1 (Below.refl _ _)) (Nat.le_refl _) _)

theorem wp_app_part {P : Program} {ops : Array Oper} {rest : List Oper} {o : Oper} {a : Act} {Q : Exit → Act → World → Prop} {w : World} (s x : Operand) (t : TypeId) (hgd : o.guard = none)
    (ho : o.op = .call { callee := .builtin .append, args := #[s, x], argTypes := #[t, t] }) (e : TypeId) (z : Value) (bytes : Nat) (ht : P.underlying t = some (.slice e))
    (hinfo : (P.info? e).map (fun i => (i.zero, i.size, i.bytes)) = some (some z, 1, bytes)) (hzs : z.cells.size = 1) (base : Nat) {v u : Value} {xs ys : List Value} (hs : a.eval s = v) (hown : Part w base e v xs)
    (hx : a.eval x = u) (hr : Rd w u ys) (h1 : ∀ y ∈ ys, y.oneCell' = true) (hb1 : 1 ≤ bytes) (hbytes : (xs.length + ys.length) * bytes ≤ 140737488355328) (hbase : base ≤ w.heap.size)
    (h : ∀ v' w', Part w' base e v' (xs ++ ys) → Turns (fun k => ∃ off n c, v = .slice (some ⟨k, off, none⟩) n c) w w' → (∀ g off n c, v' = .slice (some ⟨g, off, none⟩) n c → w.heap.size ≤ g ∨ ∃ off n c, v = .slice (some ⟨g, off, none⟩) n c) → wpList P ops Q rest (a.put o.dst v') w') : wpList P ops Q (o :: rest) a w :=
  wpList_plain hgd fun K hK => by
    obtain ⟨v', w', h4, h5, h6, h7⟩ := run_app_part (P := P) t o.type e z bytes ht hinfo hzs base hown hr h1 hb1 hbytes hbase
    show o.upon P a K Q ((execOp a.eval o).run P w)
    simp [execOp, ho, resolve, invoke, builtin, hs, hx, h4, Result.andThen]
    exact hK _ _ (h _ _ h5 h6 h7)
end Go.Proofs.Ytlgcnnhlbkidmaa

/-
  (*poly.part).fill.
-/
namespace Go.Proofs.Ytlgcnnhlbkidmaa
open Go.RowKit

theorem info33 : (Try.prog.info? 22).map (fun i => (i.zero, i.size, i.bytes)) = some (some (.slice none 0 0), 1, 24) := by kernel_rfl
theorem Rd.turns {S : Nat → Prop} {w w' : World} {v : Value} {xs : List Value} (h : Rd w v xs) (k : Turns S w w') (hn : ∀ b o n c, v = .slice (some ⟨b, o, none⟩) n c → ¬ S b) : Rd w' v xs := by
  obtain ⟨A, c, rfl, h1, h2, h0, h3⟩ := h
  refine ⟨A, c, rfl, h1, h2, h0, ?_⟩
  rcases h3 with h3 | ⟨b, o, rfl, h3⟩
  · exact .inl h3
  · exact .inr ⟨b, o, rfl, fun j hj => k.cell (hn b o _ _ rfl) (h3 j hj)⟩
theorem Part.turns {S : Nat → Prop} {w w' : World} {base : Nat} {e : TypeId} {v : Value} {xs : List Value} (h : Part w base e v xs) (k : Turns S w w') (hn : ∀ b, base ≤ b → ¬ S b) : Part w' base e v xs :=
  h.move fun g off n c hv => k.block g (h.lt g off n c hv).2 (hn g (h.lt g off n c hv).1)
/-- The first i of it. -/
theorem Part.take {w : World} {base : Nat} {e : TypeId} {A : Option Addr} {n c : Nat} {xs : List Value} (h : Part w base e (.slice A n c) xs) (i : Nat) (hi : i ≤ xs.length) (h0 : 0 < xs.length) : Part w base e (.slice A i c) (xs.take i) := by
  rcases h with ⟨hv, rfl⟩ | ⟨g, off, cap, cur, hv, h2, h3, h4, h5, h6, h7⟩
  · simp at h0
  · injection hv with e1 e2 e3
    subst e1 e3
    have hl : (xs.take i).length = i := by rw [List.length_take]; omega
    refine .inr ⟨g, off, c, cur, by rw [hl], h2, h3, by rw [hl]; omega, h5, h6, ?_⟩
    have h8 := congrArg (List.take i) h7
    rw [List.take_take, Nat.min_eq_left hi] at h8
    rw [hl, h8]

/-- The first i of it, and the rest: as they run. -/
theorem part_facts {P : Program} {w : World} {base : Nat} {e : TypeId} {v : Value} {xs : List Value} (h : Part w base e v xs) {t : TypeId} (ht : P.underlying t = some (.slice (P.elem t))) (hsz : ∀ w, (sizeOf (P.elem t)).run P w = .ok 1 w) (i : Nat) (h0 : 0 < i) (hi : i ≤ xs.length) :
    ∃ A2 c2 A3 c3, Part w base e (.slice A2 i c2) (xs.take i) ∧ Part w base e (.slice A3 (xs.length - i) c3) (xs.drop i) ∧
      (∀ w', (Instr.sliceAt t v none (some (.int .i64 i)) none).run P w' = .ok (.slice A2 i c2) w') ∧ (∀ w', (Instr.slice t v none (some (.int .i64 i)) none).run P w' = .ok (.slice A2 i c2) w') ∧
      (∀ w', (Instr.sliceAt t v (some (.int .i64 i)) none none).run P w' = .ok (.slice A3 (xs.length - i) c3) w') ∧ (∀ w', (Instr.slice t v (some (.int .i64 i)) none none).run P w' = .ok (.slice A3 (xs.length - i) c3) w') ∧ (∀ b, hold (.slice A3 (xs.length - i) c3) b → hold v b) := by
  obtain ⟨A, c, rfl, h1, h2, h3, _⟩ := id h.rd
  have f2 : ∀ w', (Instr.slice t (.slice A xs.length c) none (some (.int .i64 i)) none).run P w' = .ok (.slice A i c) w' := fun w' => by
    rw [run_slice_h (w := w') t A _ c ht .i64 i (by omega) (by omega), hsz]
    have hc0 : A.map (fun a => a.add 0) = A := by cases A <;> simp [Addr.add]
    simp [Result.andThen, sliced, hc0]
  have f3 : ∀ w', (Instr.slice t (.slice A xs.length c) (some (.int .i64 i)) none none).run P w' = .ok (.slice (if c = i then A else A.map (·.add i)) (xs.length - i) (c - i)) w' := fun w' => by
    rw [run_slice_l (w := w') t A _ c ht .i64 i (by omega) (by omega), hsz]
    simp [Result.andThen, sliced]
  refine ⟨A, c, _, _, h.take i hi (by omega), h.drop i hi _ rfl, fun w' => ?_, f2, fun w' => ?_, f3, fun b ⟨off, n, c', hh⟩ => ?_⟩
  · rw [run_sliceAt_slice (w := w') t _ _ _ _ ht]; exact f2 w'
  · rw [run_sliceAt_slice (w := w') t _ _ _ _ ht]; exact f3 w'
  · injection hh with e1 e2 e3
    rcases A with _ | a
    · simp at e1
    · rcases h with ⟨hv, _⟩ | ⟨g', off', cap, cur, hv, _⟩
      · cases hv
      · injection hv with hv _ _
        injection hv with hv
        subst hv
        split at e1
        · injection e1 with e1; injection e1 with e1; subst e1; exact ⟨_, _, _, rfl⟩
        · simp only [Option.map_some, Option.some.injEq] at e1
          have e2 := congrArg Addr.block e1
          have e3 : (Addr.add ⟨g', off', none⟩ i).block = g' := by unfold Addr.add; split <;> rfl
          rw [e3] at e2
          subst e2
          exact ⟨_, _, _, rfl⟩

theorem Turns.low {S : Nat → Prop} {w0 w w' : World} (h : Turns S w0 w) (k : Below w0.heap.size w w') : Turns S w0 w' :=
  ⟨k.os.trans h.os, k.tape.trans h.tape, k.output.trans h.output, Nat.le_trans h.size k.size, fun j hj hs => (k.block j hj).trans (h.block j hj hs)⟩
/-- A row of the call's own, while a block ahead of it is written. -/
theorem own_other {w : World} {base n : Nat} {e : TypeId} {v : Value} {xs : List Value} (h : w.ownsRow base e 1 v n xs) {b : Nat} (hb : b < base) (i : Nat) (x : Value) : (w.setCell ⟨b, i, none⟩ x).ownsRow base e 1 v n xs := by
  refine ⟨h.1, h.2.imp id ?_⟩
  rintro ⟨g, cap, cur, h1, h2, h3, h4⟩
  exact ⟨g, cap, cur, h1, h2, (Below.heap_setCell _ _ _ _ (by show g ≠ b; omega)).trans h3, h4⟩
end Go.Proofs.Ytlgcnnhlbkidmaa
