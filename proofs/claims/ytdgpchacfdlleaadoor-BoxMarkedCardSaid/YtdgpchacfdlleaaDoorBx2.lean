/-
  Texts of mine in one: KeysB, NonceB, CopyL, BoxX, NonceC, PickB.
-/
import Derived.Test.YtdgpchacfdlleaaDoorBx1
import Derived.Deep.Cut
import Derived.Laws.ResultCell
section
/-
  keys: which ids may be, and a number's nonce.
-/
namespace Go.Proofs.YtdgpchacfdlleaaDoor
open Go.RowKit

theorem info_six : (Tryd.prog.info? 138).map (·.size) = some 6 := by kernel_rfl
theorem numbers_any (k : Kid) (w : World) : Calls Tryd.prog 59 #[.agg k.cells.toArray] w fun e w' => e = .returned (.agg k.cells.toArray) ∧ Below w.heap.size w w' := by
  obtain ⟨a, b, c, d, e, f⟩ := k
  simp only [Kid.cells]
  have hb0 : Blk ((w.alloc (.cells #[.int .i64 a, .int .i64 b, .int .i64 c, .int .i64 d, .int .i64 e, .int .i64 f] 23)).alloc (.cells #[.int .i64 a, .int .i64 b, .int .i64 c, .int .i64 d, .int .i64 e, .int .i64 f] 138)) (w.heap.size + 1) [.int .i64 a, .int .i64 b, .int .i64 c, .int .i64 d, .int .i64 e, .int .i64 f] 138 := Blk.mk_ _ (by simp) rfl
  go_enter Tryd.func59, Tryd.ntmps59
  go_wp2_with fail
  refine ret_blk rfl rfl hb0 Tryd.underlying138 rfl info_six rfl rfl ?_
  exact ⟨rfl, bw_al (bw_al (Below.refl _ _) (Nat.le_refl _) _) (by simp) _⟩
theorem run_index_is {P : Program} {w : World} {t e : TypeId} {n : Nat} {k' k : IntKind} (hu : P.underlying t = some (.array n e)) (he : P.underlying e = some (.int k')) (hs : (P.info? e).map (·.size) = some 1)
    (cs : Array Value) (i : Nat) {v : Value} (hi : i < n) (hv : cs[i]? = some v) : (Instr.index t (.agg cs) (.int k (i : Int))).run P w = .ok v w := by
  obtain ⟨q, hq1, hq2⟩ := Option.map_eq_some_iff.1 hs
  have h1 : (0 : Int) ≤ (i : Int) ∧ (i : Int) < (n : Int) := by omega
  have h2 := run_part_int (P := P) (w := w) he cs i v hv
  simp [Instr.index, run_underlying hu, asIntOf, h1, sizeOf, typeInfo, hq1, hq2, hi, h2]

def okN (z : Int) : Bool := decide (0 ≤ z) && decide (z ≤ 1099511627776)
set_option maxRecDepth 100000 in
set_option maxHeartbeats 1000000 in
theorem valid_any (k : Kid) (w : World) : Calls Tryd.prog 23 #[.agg k.cells.toArray] w fun e w' => e = .returned (.bool k.ok) ∧ Below w.heap.size w w' := by
  have hok : k.ok = ((okN k.a && (okN k.b && (okN k.c && (okN k.d && (okN k.e && okN k.f))))) && decide (1 ≤ k.a) && decide (k.a ≤ 6) && decide (k.e ≤ 1)) := by
    unfold Kid.ok Kid.nums okN
    simp [List.all_cons]
  have NB := Lib.hid (fun w' => numbers_any k w')
  obtain ⟨a, b, c, d, e, f⟩ := k
  simp only [Kid.cells] at NB ⊢
  simp only at hok
  rw [hok]
  clear hok
  have hb0 : Blk (w.alloc (.cells #[.int .i64 a, .int .i64 b, .int .i64 c, .int .i64 d, .int .i64 e, .int .i64 f] 23)) w.heap.size [.int .i64 a, .int .i64 b, .int .i64 c, .int .i64 d, .int .i64 e, .int .i64 f] 23 := Blk.mk_ _ rfl rfl
  have hl0 : Below w.heap.size w (w.alloc (.cells #[.int .i64 a, .int .i64 b, .int .i64 c, .int .i64 d, .int .i64 e, .int .i64 f] 23)) := bw_al (Below.refl _ _) (Nat.le_refl _) _
  have i0 : ∀ w', (Instr.index 138 (.agg #[.int .i64 a, .int .i64 b, .int .i64 c, .int .i64 d, .int .i64 e, .int .i64 f]) (.int .i64 0)).run Tryd.prog w' = .ok (.int .i64 a) w' := fun w' => run_index_is (w := w') (k := .i64) Tryd.underlying138 Tryd.underlying3 (by kernel_rfl) #[.int .i64 a, .int .i64 b, .int .i64 c, .int .i64 d, .int .i64 e, .int .i64 f] 0 (v := .int .i64 a) (by decide) rfl
  have i1 : ∀ w', (Instr.index 138 (.agg #[.int .i64 a, .int .i64 b, .int .i64 c, .int .i64 d, .int .i64 e, .int .i64 f]) (.int .i64 1)).run Tryd.prog w' = .ok (.int .i64 b) w' := fun w' => run_index_is (w := w') (k := .i64) Tryd.underlying138 Tryd.underlying3 (by kernel_rfl) #[.int .i64 a, .int .i64 b, .int .i64 c, .int .i64 d, .int .i64 e, .int .i64 f] 1 (v := .int .i64 b) (by decide) rfl
  have i2 : ∀ w', (Instr.index 138 (.agg #[.int .i64 a, .int .i64 b, .int .i64 c, .int .i64 d, .int .i64 e, .int .i64 f]) (.int .i64 2)).run Tryd.prog w' = .ok (.int .i64 c) w' := fun w' => run_index_is (w := w') (k := .i64) Tryd.underlying138 Tryd.underlying3 (by kernel_rfl) #[.int .i64 a, .int .i64 b, .int .i64 c, .int .i64 d, .int .i64 e, .int .i64 f] 2 (v := .int .i64 c) (by decide) rfl
  have i3 : ∀ w', (Instr.index 138 (.agg #[.int .i64 a, .int .i64 b, .int .i64 c, .int .i64 d, .int .i64 e, .int .i64 f]) (.int .i64 3)).run Tryd.prog w' = .ok (.int .i64 d) w' := fun w' => run_index_is (w := w') (k := .i64) Tryd.underlying138 Tryd.underlying3 (by kernel_rfl) #[.int .i64 a, .int .i64 b, .int .i64 c, .int .i64 d, .int .i64 e, .int .i64 f] 3 (v := .int .i64 d) (by decide) rfl
  have i4 : ∀ w', (Instr.index 138 (.agg #[.int .i64 a, .int .i64 b, .int .i64 c, .int .i64 d, .int .i64 e, .int .i64 f]) (.int .i64 4)).run Tryd.prog w' = .ok (.int .i64 e) w' := fun w' => run_index_is (w := w') (k := .i64) Tryd.underlying138 Tryd.underlying3 (by kernel_rfl) #[.int .i64 a, .int .i64 b, .int .i64 c, .int .i64 d, .int .i64 e, .int .i64 f] 4 (v := .int .i64 e) (by decide) rfl
  have i5 : ∀ w', (Instr.index 138 (.agg #[.int .i64 a, .int .i64 b, .int .i64 c, .int .i64 d, .int .i64 e, .int .i64 f]) (.int .i64 5)).run Tryd.prog w' = .ok (.int .i64 f) w' := fun w' => run_index_is (w := w') (k := .i64) Tryd.underlying138 Tryd.underlying3 (by kernel_rfl) #[.int .i64 a, .int .i64 b, .int .i64 c, .int .i64 d, .int .i64 e, .int .i64 f] 5 (v := .int .i64 f) (by decide) rfl
  go_enter Tryd.func23, Tryd.ntmps23
  go_upto_region 2 with (go_at_call 59; refine (NB.out _).mono ?_; rintro e w1 ⟨rfl, hb1⟩)
  have hb2 := hb0.stay hb1
  have hl1 := bw_then hl0 hb1 hl0.size
  have q0 := hb2.at_ 0 rfl
  have q4 := hb2.at_ 4 rfl
  have HL := Lib.hid hl1
  clear hb0 hl0 hb1 hb2 hl1 NB
  go_wp2_with fail
  go_loopw [7] (fun x wr => ∃ k : Nat, k ≤ 6 ∧ x = .int .i64 k ∧ wr = w1 ∧ ([a, b, c, d, e, f].take k).all okN = true) (fun x _ => 6 - (intOf x).toNat)
  case atStart => exact ⟨0, by omega, rfl, rfl, rfl⟩
  case round =>
    obtain ⟨k, hk, rfl, rfl, hall⟩ := hrel
    rcases (show k = 0 ∨ k = 1 ∨ k = 2 ∨ k = 3 ∨ k = 4 ∨ k = 5 ∨ k = 6 by omega) with rfl | rfl | rfl | rfl | rfl | rfl | rfl
    · by_cases h1 : a < 0
      · go_wp2_with fail
        all_goals go_ret
        have hz : okN a = false := by unfold okN; simp; omega
        exact ⟨by simp [hz], HL.out⟩
      by_cases h2 : 1099511627776 < a
      · go_wp2_with fail
        all_goals go_ret
        have hz : okN a = false := by unfold okN; simp; omega
        exact ⟨by simp [hz], HL.out⟩
      have hz : okN a = true := by unfold okN; simp; omega
      go_wp2_with fail
      exact ⟨⟨1, by omega, by simp, by simp, by first | (simp [hz]; done) | simpa [hz] using hall⟩, by simp [intOf]⟩
    · by_cases h1 : b < 0
      · go_wp2_with fail
        all_goals go_ret
        have hz : okN b = false := by unfold okN; simp; omega
        exact ⟨by simp [hz], HL.out⟩
      by_cases h2 : 1099511627776 < b
      · go_wp2_with fail
        all_goals go_ret
        have hz : okN b = false := by unfold okN; simp; omega
        exact ⟨by simp [hz], HL.out⟩
      have hz : okN b = true := by unfold okN; simp; omega
      go_wp2_with fail
      exact ⟨⟨2, by omega, by simp, by simp, by first | (simp [hz]; done) | simpa [hz] using hall⟩, by simp [intOf]⟩
    · by_cases h1 : c < 0
      · go_wp2_with fail
        all_goals go_ret
        have hz : okN c = false := by unfold okN; simp; omega
        exact ⟨by simp [hz], HL.out⟩
      by_cases h2 : 1099511627776 < c
      · go_wp2_with fail
        all_goals go_ret
        have hz : okN c = false := by unfold okN; simp; omega
        exact ⟨by simp [hz], HL.out⟩
      have hz : okN c = true := by unfold okN; simp; omega
      go_wp2_with fail
      exact ⟨⟨3, by omega, by simp, by simp, by first | (simp [hz]; done) | simpa [hz] using hall⟩, by simp [intOf]⟩
    · by_cases h1 : d < 0
      · go_wp2_with fail
        all_goals go_ret
        have hz : okN d = false := by unfold okN; simp; omega
        exact ⟨by simp [hz], HL.out⟩
      by_cases h2 : 1099511627776 < d
      · go_wp2_with fail
        all_goals go_ret
        have hz : okN d = false := by unfold okN; simp; omega
        exact ⟨by simp [hz], HL.out⟩
      have hz : okN d = true := by unfold okN; simp; omega
      go_wp2_with fail
      exact ⟨⟨4, by omega, by simp, by simp, by first | (simp [hz]; done) | simpa [hz] using hall⟩, by simp [intOf]⟩
    · by_cases h1 : e < 0
      · go_wp2_with fail
        all_goals go_ret
        have hz : okN e = false := by unfold okN; simp; omega
        exact ⟨by simp [hz], HL.out⟩
      by_cases h2 : 1099511627776 < e
      · go_wp2_with fail
        all_goals go_ret
        have hz : okN e = false := by unfold okN; simp; omega
        exact ⟨by simp [hz], HL.out⟩
      have hz : okN e = true := by unfold okN; simp; omega
      go_wp2_with fail
      exact ⟨⟨5, by omega, by simp, by simp, by first | (simp [hz]; done) | simpa [hz] using hall⟩, by simp [intOf]⟩
    · by_cases h1 : f < 0
      · go_wp2_with fail
        all_goals go_ret
        have hz : okN f = false := by unfold okN; simp; omega
        exact ⟨by simp [hz], HL.out⟩
      by_cases h2 : 1099511627776 < f
      · go_wp2_with fail
        all_goals go_ret
        have hz : okN f = false := by unfold okN; simp; omega
        exact ⟨by simp [hz], HL.out⟩
      have hz : okN f = true := by unfold okN; simp; omega
      go_wp2_with fail
      exact ⟨⟨6, by omega, by simp, by simp, by first | (simp [hz]; done) | simpa [hz] using hall⟩, by simp [intOf]⟩
    · have hall' : okN a = true ∧ okN b = true ∧ okN c = true ∧ okN d = true ∧ okN e = true ∧ okN f = true := by simpa using hall
      obtain ⟨ha, hb, hc, hd, he, hf⟩ := hall'
      clear hall
      by_cases h1 : 1 ≤ a
      · by_cases h2 : a ≤ 6
        · go_wp2_with fail
          all_goals go_ret
          exact ⟨by simp [ha, hb, hc, hd, he, hf, h1, h2], HL.out⟩
        · go_wp2_with fail
          all_goals go_ret
          exact ⟨by simp; omega, HL.out⟩
      · go_wp2_with fail
        all_goals go_ret
        exact ⟨by simp; omega, HL.out⟩
end Go.Proofs.YtdgpchacfdlleaaDoor
end

section
/-
  keys: a number's nonce.
-/
namespace Go.Proofs.YtdgpchacfdlleaaDoor
open Go.RowKit

/-- Two results, the first of them what a block holds. -/
theorem ret_blk2 {P : Program} {fn : Func} {R : Ending → World → Prop} {a : Act} {w : World} {p u : Tmp} {ty : TypeId} (h : fn.results = #[.cell p ty, .tmp u]) {g : Nat} {t : TypeId} {cs : List Value} {d : TypeDesc}
    (hp : a.tmps.getD p undef = .pointer (some ⟨g, 0, none⟩)) (hg : Blk w g cs t) (hu : P.underlying ty = some d) (hd : (match d with | .struct _ | .array _ _ => true | _ => false) = true) {n : Nat} (hi : (P.info? ty).map (·.size) = some n)
    (hn : cs.length = n) (hdf : a.defers = []) (hR : R (.returned (.tuple #[.agg cs.toArray, a.tmps.getD u undef])) w) : bodyPost P fn R .ret a w := by
  refine bodyPost_ret ?_ hdf hR
  have hp' : a.tmps[p]?.getD undef = .pointer (some ⟨g, 0, none⟩) := by simpa using hp
  simp [results, h, hp', asAddr, run_loadVar_row w g t ty cs.toArray (0, 0) d hg hu hd (by rw [hi]; simp [hn])]
def nonceB (n : Int) : Bool := decide (0 ≤ n) && decide (n ≤ 1099511627776)
theorem info_nonce : (Tryd.prog.info? 46).map (·.size) = some 12 := by kernel_rfl
set_option maxRecDepth 100000 in
theorem nonce_no (n : Int) (w : World) (h : nonceB n = false) : Calls Tryd.prog 26 #[.int .i64 n] w fun e w' => e = .returned (.tuple #[.agg (bs (List.replicate 12 0)).toArray, .bool false]) ∧ Below w.heap.size w w' := by
  unfold nonceB at h
  have hb0 : Blk ((w.alloc (.cells #[.int .u8 0, .int .u8 0, .int .u8 0, .int .u8 0, .int .u8 0, .int .u8 0, .int .u8 0, .int .u8 0, .int .u8 0, .int .u8 0, .int .u8 0, .int .u8 0] 46)).alloc (.cells #[.int .u8 0, .int .u8 0, .int .u8 0, .int .u8 0, .int .u8 0, .int .u8 0, .int .u8 0, .int .u8 0, .int .u8 0, .int .u8 0, .int .u8 0, .int .u8 0] 46)) w.heap.size [.int .u8 0, .int .u8 0, .int .u8 0, .int .u8 0, .int .u8 0, .int .u8 0, .int .u8 0, .int .u8 0, .int .u8 0, .int .u8 0, .int .u8 0, .int .u8 0] 46 := (Blk.mk_ w rfl rfl).al _
  go_enter Tryd.func26, Tryd.ntmps26
  by_cases h1 : n < 0
  · go_wp2_with fail
    refine ret_blk2 rfl rfl hb0 Tryd.underlying46 rfl info_nonce rfl rfl ?_
    exact ⟨rfl, bw_al (bw_al (Below.refl _ _) (Nat.le_refl _) _) (by simp) _⟩
  · have h2 : 1099511627776 < n := by simp at h; omega
    go_wp2_with fail
    refine ret_blk2 rfl rfl hb0 Tryd.underlying46 rfl info_nonce rfl rfl ?_
    exact ⟨rfl, bw_al (bw_al (Below.refl _ _) (Nat.le_refl _) _) (by simp) _⟩
end Go.Proofs.YtdgpchacfdlleaaDoor
end

section
/-
  copy into a piece of an array; a piece of an array.
-/
namespace Go.Proofs.YtdgpchacfdlleaaDoor
open Go.RowKit

/-- copy of a slice that is longer than where it goes. -/
theorem wp_copy_low {P : Program} {ops : Array Oper} {rest : List Oper} {o : Oper} {a : Act} {w : World} {Q : Exit → Act → World → Prop} (d s : Operand) (dT sT : TypeId) (hgd : o.guard = none)
    (ho : o.op = .call { callee := .builtin .copy, args := #[d, s], argTypes := #[dT, sT] }) (elem : TypeId) (hu : P.underlying dT = some (.slice elem)) (hs : (P.info? elem).map (·.size) = some 1)
    {g off dLen dCap : Nat} (hd : a.eval d = .slice (some ⟨g, off, none⟩) dLen dCap) {u : Value} {ys : List Value} (hx : a.eval s = u) (hr : Rd w u ys) (hne : 0 < ys.length) (hle : dLen ≤ ys.length)
    {cur : List Value} {t : TypeId} (hg : Blk w g cur t) (hfit : off + dLen ≤ cur.length) (h1 : ∀ y ∈ ys, y.oneCell' = true)
    (h : ∀ w', Blk w' g (cur.take off ++ ys.take dLen ++ cur.drop (off + dLen)) t → Only g w w' → wpList P ops Q rest (a.put o.dst (goInt dLen)) w') : wpList P ops Q (o :: rest) a w :=
  wpList_plain hgd fun K hK => by
    show o.upon P a K Q ((execOp a.eval o).run P w)
    obtain ⟨A, c, rfl, hc1, hc2, h0, h3⟩ := hr
    have hlt : (ys.take dLen).length = dLen := by rw [List.length_take]; exact Nat.min_eq_left hle
    rcases h3 with rfl | ⟨b, o', rfl, h3⟩
    · simp at hne
    · have hrun := run_copy_row (P := P) w dT sT o.type elem g off dLen dCap ⟨b, o', none⟩ ys.length c cur.toArray t (ys.take dLen) hu hs hg (hlt.trans (Nat.min_eq_right hle).symm) (by
        intro j y hj
        have hj2 : j < dLen := by have := (List.getElem?_eq_some_iff.1 hj).1; omega
        rw [List.getElem?_take_of_lt hj2] at hj
        obtain ⟨hlt, rfl⟩ := List.getElem?_eq_some_iff.1 hj
        rw [← h3 j hlt]
        congr 1
        unfold Addr.add; split <;> simp_all) (by rw [hlt]; simpa using hfit) (fun y hy => h1 y (List.mem_of_mem_take hy))
      rw [hlt] at hrun
      simp [execOp, ho, resolve, invoke, builtin, hd, hx, hrun, Result.andThen]
      exact hK _ _ (h _ (show _ = _ by simpa using setRow_heap w g cur.toArray (cur.take off ++ ys.take dLen ++ cur.drop (off + dLen)).toArray t (0, 0) hg) (Only.row w g _))

theorem arr_slice_l {P : Program} (w : World) (t : TypeId) {e : TypeId} {n : Nat} (o l : Nat) (hl : l ≤ n) (hne : n ≠ l) (ha : P.arrayLen t = n) (he : P.elem t = e) (hu : P.underlying t = some (.array n e)) (hs : (P.info? e).map (·.size) = some 1) :
    (Instr.sliceAt t (.pointer (some ⟨o, 0, none⟩)) (some (.int .i64 l)) none none).run P w = .ok (.slice (some ⟨o, l, none⟩) (n - l) (n - l)) w := by
  obtain ⟨q, hq1, hq2⟩ := Option.map_eq_some_iff.1 hs
  rw [run_sliceAt_array_l (P := P) w t ⟨o, 0, none⟩ (by rw [ha, he]; exact hu) .i64 l (by omega) (by rw [ha]; omega)]
  rw [he, ha]
  have hadd : (⟨o, 0, none⟩ : Addr).add l = ⟨o, l, none⟩ := by unfold Addr.add; split <;> simp_all
  simp [sizeOf, typeInfo, hq1, hq2, slicedAt, hne, hadd]
end Go.Proofs.YtdgpchacfdlleaaDoor
end

section
/-
  The box of either kind: what it answers, as pure functions.
-/
namespace Go.Proofs.YtdgpchacfdlleaaDoor
open Go.RowKit

/-- What a real box does. -/
structure RealF where
  rseal : List Int → Kid → Int → List Int → List Int → List Int
  ropn : List Int → Kid → Int → List Int → List Int → Int × List Int
  rmark : List Int → Kid → List Int → List Int
def sealX (R : RealF) (sec : List Int) (ideal : Bool) (st : BoxI) (id : Kid) (n : Int) (ad text : List Int) : Int × List Int × BoxI :=
  if askB id n ≠ 0 then (1, [], st) else if 65536 < ad.length ∨ 65536 < text.length then (5, [], st) else
  (0, if ideal = true then putL st.seals.length (text.length + 16) else R.rseal sec id n ad text, ⟨if ideal = true then st.seals ++ [⟨id, n, ad, text⟩] else st.seals, st.marks, (id, n) :: st.uses⟩)
def openX (R : RealF) (sec : List Int) (ideal : Bool) (st : BoxI) (id : Kid) (n : Int) (ad hidden : List Int) : Int × List Int :=
  if ideal = true then openS st id n ad hidden else if askB id n ≠ 0 then (1, []) else R.ropn sec id n ad hidden
def markX (R : RealF) (sec : List Int) (ideal : Bool) (st : BoxI) (id : Kid) (text : List Int) : Int × List Int × BoxI :=
  if ideal = true then markS st id text else if askB id 0 ≠ 0 then (1, [], st) else (0, R.rmark sec id text, st)
def checkX (R : RealF) (sec : List Int) (ideal : Bool) (st : BoxI) (id : Kid) (text mark : List Int) : Bool :=
  if ideal = true then checkS st id text mark else if askB id 0 ≠ 0 ∨ mark.length ≠ 32 then false else decide (mark = R.rmark sec id text)
theorem sealX_ideal (R : RealF) (sec : List Int) (st : BoxI) (id : Kid) (n : Int) (ad text : List Int) : sealX R sec true st id n ad text = sealS st id n ad text := by
  unfold sealX sealS
  simp
theorem openX_ideal (R : RealF) (sec : List Int) (st : BoxI) (id : Kid) (n : Int) (ad h : List Int) : openX R sec true st id n ad h = openS st id n ad h := by
  unfold openX; simp
theorem markX_ideal (R : RealF) (sec : List Int) (st : BoxI) (id : Kid) (text : List Int) : markX R sec true st id text = markS st id text := by
  unfold markX; simp
theorem checkX_ideal (R : RealF) (sec : List Int) (st : BoxI) (id : Kid) (text mark : List Int) : checkX R sec true st id text mark = checkS st id text mark := by
  unfold checkX; simp
/-- Few enough things were done. -/
structure Few (st : BoxI) : Prop where
  seals : st.seals.length ≤ 100000
  marks : st.marks.length ≤ 100000
  uses : st.uses.length ≤ 100000
theorem isB_nil : IsB [] := fun _ h => by cases h
theorem sealS_isB (st : BoxI) (id : Kid) (n : Int) (ad text : List Int) : IsB (sealS st id n ad text).2.1 := by
  unfold sealS
  split
  · exact isB_nil
  split
  · exact isB_nil
  · exact putL_isB _ _
theorem openS_isB {st : BoxI} (hs : ∀ x ∈ st.seals, IsB x.text) (id : Kid) (n : Int) (ad h : List Int) : IsB (openS st id n ad h).2 := by
  unfold openS
  split
  · exact isB_nil
  split
  · exact isB_nil
  split
  · exact isB_nil
  split
  · exact isB_nil
  · rename_i x hx
    split
    · obtain ⟨k, _, h2⟩ := Option.bind_eq_some_iff.1 hx
      exact hs x (List.mem_of_getElem? h2)
    · exact isB_nil
theorem markS_isB (st : BoxI) (id : Kid) (text : List Int) : IsB (markS st id text).2.1 := by
  unfold markS
  split
  · exact isB_nil
  · exact putL_isB _ _
/-- What was sealed is opened, whatever was sealed behind. -/
theorem open_sealS {st : BoxI} {id : Kid} {n : Int} {ad text : List Int} (h0 : (sealS st id n ad text).1 = 0) (hm : st.seals.length ≤ 100000) (st' : BoxI) (hst : ∃ l, st'.seals = (sealS st id n ad text).2.2.seals ++ l) :
    openS st' id n ad (sealS st id n ad text).2.1 = (0, text) := by
  obtain ⟨l, hl⟩ := hst
  unfold sealS at h0 hl ⊢
  by_cases h1 : askB id n ≠ 0
  · rw [if_pos h1] at h0; cases h0
  rw [if_neg h1] at h0 hl ⊢
  by_cases h2 : 65536 < ad.length ∨ 65536 < text.length
  · rw [if_pos h2] at h0; cases h0
  rw [if_neg h2] at hl ⊢
  have hlt : st.seals.length < st'.seals.length := by rw [hl]; simp
  have hget : st'.seals[st.seals.length]? = some ⟨id, n, ad, text⟩ := by rw [hl]; simp
  have hp := putL_len st.seals.length (text.length + 16) (by omega)
  unfold openS
  simp only
  rw [if_neg h1, if_neg (by rw [hp]; omega), if_neg (by rw [hp]; omega), findL_put hlt (by omega) (by omega)]
  simp only [Option.bind_some, hget]
  rw [if_pos ⟨trivial, trivial, trivial, hp⟩]
end Go.Proofs.YtdgpchacfdlleaaDoor
end

section
/-
  keys: a number's nonce; what is wrong with an id and a number.
-/
namespace Go.Proofs.YtdgpchacfdlleaaDoor
open Go.RowKit

def nonceL (n : Int) : List Int := List.replicate 4 0 ++ num8 n
theorem nonceL_len (n : Int) : (nonceL n).length = 12 := by unfold nonceL; rw [List.length_append, num8_len]; rfl
theorem nonceL_isB (n : Int) : IsB (nonceL n) := by
  intro z hz
  rcases List.mem_append.1 hz with h | h
  · have := (List.mem_replicate.1 h).2; omega
  · exact hiL_isB _ _ _ z h
theorem slice12l (w : World) (o : Nat) : (Instr.sliceAt 46 (.pointer (some ⟨o, 0, none⟩)) (some (.int .i64 4)) none none).run Tryd.prog w = .ok (.slice (some ⟨o, 4, none⟩) 8 8) w :=
  arr_slice_l w 46 o 4 (by decide) (by decide) (by kernel_rfl) (by kernel_rfl) Tryd.underlying46 (by kernel_rfl)
set_option maxRecDepth 100000 in
set_option maxHeartbeats 1000000 in
theorem nonce_ok (n : Nat) (w : World) (h : n ≤ 1099511627776) : Calls Tryd.prog 26 #[.int .i64 n] w fun e w' => e = .returned (.tuple #[.agg (bs (nonceL n)).toArray, .bool true]) ∧ Below w.heap.size w w' := by
  obtain ⟨B, hB⟩ : ∃ B, w.heap.size = B := ⟨_, rfl⟩
  have PN := Lib.hid (fun w' => putNum_any n w' h)
  go_enter Tryd.func26, Tryd.ntmps26
  go_upto_region 4 with fail
  obtain ⟨W, hW⟩ : ∃ W, (w.alloc (.cells (bs (List.replicate 12 0)).toArray 46)).alloc (.cells (bs (List.replicate 12 0)).toArray 46) = W := ⟨_, rfl⟩
  change Code.wp _ _ _ _ ((w.alloc (.cells (bs (List.replicate 12 0)).toArray 46)).alloc (.cells (bs (List.replicate 12 0)).toArray 46))
  have b0 : Blk W B (bs (List.replicate 12 0)) 46 := by rw [← hW]; exact (Blk.mk_ _ hB.symm rfl).al _
  have b1 : Blk W (B + 1) (bs (List.replicate 12 0)) 46 := by rw [← hW]; exact Blk.mk_ _ (by simp [hB]) rfl
  have bb : Below B w W := by rw [← hW]; exact bw_al (bw_al (Below.refl _ _) (by omega) _) (by simp; omega) _
  have hz : W.heap.size = B + 2 := by rw [← hW]; simp [hB]
  rw [hW]
  clear hW
  have s12 := fun w => slice12l w (B + 1)
  refine region_plan ⟨[0, 0, 2, 7], [2, 3], [0, 0, 0, 1]⟩
    [⟨[0, 1], [0], some 2⟩, ⟨[], [0], some 3⟩, ⟨[], [], none⟩] 17 (by kernel_rfl) (by kernel_rfl) (by kernel_rfl) (by kernel_rfl) rfl ?_
  simp only [SeqGo, opsAt_cons, opsAt_nil, List.getElem?_cons, Option.toList_some, List.singleton_append, ↓reduceIte, Nat.reduceEqDiff, Nat.reduceSub]
  go_wp2_with fail
  refine ⟨by (simp only [Sames, Same]; go_simp), ?_⟩
  go_wp2_with (go_at_call 65; refine (PN.out _).mono ?_; rintro e w2 ⟨v2, rfl, hb2, ho2⟩)
  refine ⟨by (simp only [Sames, Same]; go_simp), ?_⟩
  have c0 := b0.d1.stay hb2
  have c1 := b1.d1.stay hb2
  have r2 : Rd w2 v2 (bs (num8 n)) := Rd.of_own ho2
  have hl8 : (bs (num8 (n : Int))).length = 8 := by rw [bs_len, num8_len]
  have L8 := Lib.hid hl8
  clear hl8
  go_wp2_with (refine wp_copy_low (.tmp 12) (.tmp 14) 24 24 rfl rfl 5 Tryd.underlying24 (by kernel_rfl) rfl rfl r2 (by rw [L8.out]; decide) (by rw [L8.out]; decide) c1 (by rw [bs_len, List.length_replicate]; decide) (bs_one _) ?_; intro w4 b4 on4)
  refine ⟨trivial, ?_⟩
  have b4' : Blk w4 (B + 1) (bs (nonceL n)) 46 := by
    have e : (bs (List.replicate 12 0)).take 4 ++ (bs (num8 (n : Int))).take 8 ++ (bs (List.replicate 12 0)).drop (4 + 8) = bs (nonceL n) := by
      have t8 : (bs (num8 (n : Int))).take 8 = bs (num8 (n : Int)) := List.take_of_length_le (by rw [L8.out]; decide)
      rw [t8, nonceL, bs_append]
      simp [bs]
    rw [← e]; exact b4
  have d0 := c0.only on4 (by omega)
  have hb4 : Below B w w4 := on4.below (bw_then (bw_d1 bb) hb2 (by have := bb.size; simp; omega)) (by omega)
  go_wp2_with (first
    | (refine wp_load_blk rfl 46 (.tmp 4) rfl rfl b4' Tryd.underlying46 rfl (n := 12) (by kernel_rfl) (by rw [bs_len, nonceL_len]) ?_)
    | (refine wp_store_blk rfl 46 (.tmp 2) (.tmp 16) rfl rfl rfl (cs' := bs (nonceL n)) d0 (bs_one _) (by rw [bs_len, nonceL_len]; rfl) (n := 12) (by kernel_rfl) (by rw [bs_len, nonceL_len]) ?_; intro w5 b5 on5))
  refine ret_blk2 rfl rfl b5 Tryd.underlying46 rfl info_nonce (by rw [bs_len, nonceL_len]) rfl ?_
  exact ⟨rfl, by rw [hB]; exact on5.below hb4 (Nat.le_refl _)⟩

/-- The twelve bytes that a number's nonce comes to, and whether there is one. -/
def nonceX (n : Int) : List Int := if nonceB n = true then nonceL n else List.replicate 12 0
theorem nonceX_len (n : Int) : (nonceX n).length = 12 := by unfold nonceX; split; exact nonceL_len n; rfl
theorem nonce_any (n : Int) (w : World) : Calls Tryd.prog 26 #[.int .i64 n] w fun e w' => e = .returned (.tuple #[.agg (bs (nonceX n)).toArray, .bool (nonceB n)]) ∧ Below w.heap.size w w' := by
  unfold nonceX
  cases hn : nonceB n with
  | true =>
    have h0 : 0 ≤ n ∧ n ≤ 1099511627776 := by unfold nonceB at hn; simpa using hn
    obtain ⟨m, rfl⟩ := Int.eq_ofNat_of_zero_le h0.1
    exact nonce_ok m w (by omega)
  | false => exact nonce_no n w hn
theorem ask_eq (k : Kid) (n : Int) : askB k n = if nonceB n = true ∧ k.ok = true then 0 else 1 := by
  unfold askB nonceB
  by_cases h : 0 ≤ n ∧ n ≤ 1099511627776
  · simp [h.1, h.2]
  · rw [if_neg (fun hh => h ⟨hh.1, hh.2.1⟩), if_neg (fun hh => h (by simpa using hh.1))]
set_option maxRecDepth 100000 in
/-- What is wrong with an id and a number. -/
theorem ask_any (w : World) (g : Nat) (cs : List Value) (k : Kid) (n : Int) (hb : Blk w g cs 59) (h2 : cs[2]? = some (.bool true)) :
    Calls Tryd.prog 53 #[.pointer (some ⟨g, 0, none⟩), .agg k.cells.toArray, .int .i64 n] w fun e w' => e = .returned (.int .i64 (askB k n)) ∧ Below w.heap.size w w' := by
  rw [ask_eq]
  obtain ⟨r, hr⟩ : ∃ r : Int, (if nonceB n = true ∧ k.ok = true then 0 else 1) = r := ⟨_, rfl⟩
  rw [hr]
  have HR := Lib.hid (fun _ : Unit => hr)
  clear hr
  obtain ⟨B, hB⟩ : ∃ B, w.heap.size = B := ⟨_, rfl⟩
  have hg : g < B := by rw [← hB]; exact hb.lt
  have VA := Lib.hid (fun w' => valid_any k w')
  have KL := Lib.hid (show k.cells.length = 6 from rfl)
  have NL := Lib.hid (show (bs (nonceX n)).length = 12 by rw [bs_len, nonceX_len])
  have NN := Lib.hid (fun w' => nonce_any n w')
  generalize k.cells = kc at *
  generalize nonceB n = bn at *
  generalize k.ok = bk at *
  generalize nonceX n = nx at *
  go_enter Tryd.func53, Tryd.ntmps53
  go_upto_region 1 with fail
  obtain ⟨W, hW⟩ : ∃ W, w.alloc (.cells kc.toArray 23) = W := ⟨_, rfl⟩
  change Code.wp _ _ _ _ (w.alloc (.cells kc.toArray 23))
  have b0 : Blk W B kc 23 := by rw [← hW]; exact Blk.mk_ _ hB.symm rfl
  have y2 : W.cell? ⟨g, 2, none⟩ = some (.bool true) := by rw [← hW]; exact (hb.al _).at_ 2 h2
  have bb : Below B w W := by rw [← hW]; exact bw_al (Below.refl _ _) (by omega) _
  rw [hW]
  have hz : W.heap.size = B + 1 := by rw [← hW]; simp [hB]
  clear hW hb h2
  have HB0 := Lib.hid b0; have HBB := Lib.hid bb
  clear b0 bb
  go_upto_region 4 with (first
    | (go_at_call 26; refine (NN.out _).mono ?_; rintro e w2 ⟨rfl, hb2⟩)
    | (refine wp_store_blk rfl 46 (.tmp 7) (.tmp 21) rfl rfl rfl (cs' := bs nx) (Blk.mk_ (cs := bs (List.replicate 12 0)) _ rfl rfl) (bs_one _) (by rw [NL.out]; rfl) (n := 12) (by kernel_rfl) NL.out ?_; intro w3 b3 on3))
  have hl3 : Below W.heap.size W w3 := on3.below (bw_al hb2 hb2.size _) hb2.size
  have HL3 := Lib.hid hl3
  have c0 := HB0.out.stay hl3
  clear on3 b3 hb2 hl3 y2
  have lk := load_fact (P := Tryd.prog) c0 23 0 (ys := kc) (by rw [List.drop_zero, List.take_length]) Tryd.underlying23 rfl (n := 6) (by kernel_rfl) KL.out
  have lk3 := lk w3 (Below.refl _ _)
  have HE := Lib.hid (show Below B w w3 from bw_then HBB.out HL3.out (by have := HBB.out.size; omega))
  have HS : B ≤ w3.heap.size := by have := HL3.out.size; omega
  clear lk c0
  cases bn with
  | false =>
    go_wp2_with fail
    all_goals go_ret
    have hr := HR.out ()
    simp at hr
    exact ⟨by rw [← hr]; rfl, by rw [hB]; exact HE.out⟩
  | true =>
    cases bk with
    | false =>
      go_wp2_with (first
        | (refine wp_load_f (by rfl) 23 (.tmp 4) rfl rfl lk3 ?_)
        | (go_at_call 23; refine (VA.out _).mono ?_; rintro e w4 ⟨rfl, hb4⟩))
      all_goals go_ret
      have hr := HR.out ()
      simp at hr
      exact ⟨by rw [← hr]; rfl, by rw [hB]; exact bw_then HE.out hb4 HS⟩
    | true =>
      go_wp2_with (first
        | (refine wp_load_f (by rfl) 23 (.tmp 4) rfl rfl lk3 ?_)
        | (go_at_call 23; refine (VA.out _).mono ?_; rintro e w4 ⟨rfl, hb4⟩))
      all_goals go_ret
      have hr := HR.out ()
      simp at hr
      exact ⟨by rw [← hr]; rfl, by rw [hB]; exact bw_then HE.out hb4 HS⟩
end Go.Proofs.YtdgpchacfdlleaaDoor
end

section
/-
  The laws of box: bytes that were told, turned.
-/
namespace Go.Proofs.YtdgpchacfdlleaaDoor
open Go.RowKit

/-- What was told: a row of slices, each a text of its own. -/
structure ToldAt (w : World) (Z : Nat) (ok : Nat → Prop) (tv : Value) (vals : List Value) (told : List (List Int)) : Prop where
  row : w.ownsRow Z 24 1 tv vals.length vals
  len : vals.length = told.length
  each : ∀ (j : Nat) (u : Value) (x : List Int), vals[j]? = some u → told[j]? = some x → EntOk w ok u x
def turnLast (b : List Int) (y : Int) : List Int := b.set (b.length - 1) (bits .xor .u8 (b.getD (b.length - 1) 0) y)
def pickL (told : List (List Int)) (a : ActBS) : List Int := if told = [] then a.text else turnLast (told.getD (a.at_.toNat % told.length) []) a.by_
theorem xor_byte (x y : Int) (hx : 0 ≤ x ∧ x ≤ 255) (hy : 0 ≤ y ∧ y ≤ 255) : 0 ≤ bits .xor .u8 x y ∧ bits .xor .u8 x y ≤ 255 := by
  obtain ⟨X, rfl⟩ := Int.eq_ofNat_of_zero_le hx.1
  obtain ⟨Y, rfl⟩ := Int.eq_ofNat_of_zero_le hy.1
  rw [show bits .xor .u8 (X : Int) (Y : Int) = ((X ^^^ Y : Nat) : Int) from u8_xor_nat X Y (by omega) (by omega)]
  have := Nat.xor_lt_two_pow (n := 8) (show X < 2 ^ 8 by omega) (show Y < 2 ^ 8 by omega)
  omega
theorem turnLast_isB {b : List Int} (h : IsB b) {y : Int} (hy : 0 ≤ y ∧ y ≤ 255) : IsB (turnLast b y) := by
  intro z hz
  unfold turnLast at hz
  rcases List.mem_or_eq_of_mem_set hz with h1 | h1
  · exact h z h1
  · rw [h1]; exact xor_byte _ _ (h.at_ _) hy
theorem set_rd {w : World} {g q c : Nat} {x : List Int} {e : TypeId} {base : Nat} (h : w.ownsRow base e 1 (.slice (some ⟨g, 0, none⟩) (q + 1) c) (q + 1) (bs x)) (z : Int) : Rd (w.setCell ⟨g, q, none⟩ (.int .u8 z)) (.slice (some ⟨g, 0, none⟩) (q + 1) c) (bs (x.set q z)) := by
  have hl : x.length = q + 1 := by have := h.1; rw [bs_len] at this; omega
  rcases h.2 with ⟨h1, _⟩ | ⟨g', cap, cur, h1, h2, h3, h4, h5, h6, h7⟩
  · cases h1
  · cases h1
    refine ⟨some ⟨g, 0, none⟩, c, by rw [bs_len, List.length_set, hl], by rw [bs_len, List.length_set, hl]; exact h4, h5, (fun h => by cases h), .inr ⟨g, 0, rfl, fun j hj => ?_⟩⟩
    rw [bs_len, List.length_set, hl] at hj
    rw [Nat.zero_add]
    have hb : Blk w g cur.toList e := by unfold Blk; simpa using h3
    have hb2 := hb.set q (.int .u8 z)
    rw [hb2.get]
    have hc : ∀ i, i < q + 1 → cur.toList[i]? = (bs x)[i]? := fun i hi => by
      have := congrArg (fun l => l[i]?) h7
      rw [List.getElem?_take_of_lt (by omega)] at this
      exact this
    have hcl : q < cur.toList.length := by rw [Array.length_toList]; omega
    by_cases hjq : j = q
    · subst hjq
      rw [List.getElem?_set_self hcl]
      simp [bs]
    · rw [List.getElem?_set_ne (Ne.symm hjq), hc j hj]
      simp [bs, List.getElem_set_ne (Ne.symm hjq), List.getElem?_eq_getElem (show j < x.length by omega)]
set_option maxRecDepth 100000 in
set_option maxHeartbeats 1000000 in
theorem pick08_any (w : World) (Z : Nat) (ok : Nat → Prop) (tv : Value) (vals : List Value) (told : List (List Int)) (a : ActBS) (h : ToldAt w Z ok tv vals told) (ha : ActB w a) (hn : told.length ≤ 1000) (hs : ∀ x ∈ told, x.length ≤ 1000000) :
    Calls Tryd.prog 21 #[tv, .agg a.cells.toArray] w fun e w' => ∃ v, e = .returned v ∧ Rd w' v (bs (pickL told a)) ∧ IsB (pickL told a) ∧ Below w.heap.size w w' := by
  obtain ⟨Z0, hZ0⟩ : ∃ z, w.heap.size = z := ⟨_, rfl⟩
  have hAt := ha.at_
  have hBy := ha.by_
  have HRT := Lib.hid ha.rt; have HIT := Lib.hid ha.isT
  obtain ⟨A, c, rfl⟩ := row_slice h.row
  have hlen := h.len
  obtain ⟨m, hm⟩ : ∃ m, vals.length = m := ⟨_, rfl⟩
  have HT := Lib.hid h
  have HM := Lib.hid (fun _ : Unit => hm)
  rw [hm] at hlen ⊢
  obtain ⟨Aa, ca, hva, _⟩ := id ha.ra
  obtain ⟨At, ct, hvt, _⟩ := id ha.rt
  obtain ⟨kd, ⟨ia, ib, ic, id_, ie, if_⟩, n, va, ad, vt, text, at_, by_⟩ := a
  simp only at hva hvt hAt hBy HRT HIT
  subst hva hvt
  simp only [bs_len] at HRT ⊢
  simp only [ActBS.cells]
  obtain ⟨lt, hlt⟩ : ∃ l, text.length = l := ⟨_, rfl⟩
  obtain ⟨la, hla⟩ : ∃ l, ad.length = l := ⟨_, rfl⟩
  rw [hlt] at HRT ⊢
  rw [hla]
  have HP := Lib.hid (show ∀ hid, pickL told ⟨kd, ⟨ia, ib, ic, id_, ie, if_⟩, n, .slice Aa la ca, ad, .slice At lt ct, text, at_, by_⟩ = hid → pickL told ⟨kd, ⟨ia, ib, ic, id_, ie, if_⟩, n, .slice Aa ad.length ca, ad, .slice At text.length ct, text, at_, by_⟩ = hid from fun hid h => h)
  clear h ha hm hlt hla
  go_enter Tryd.func21, Tryd.ntmps21
  go_upto_region 1 with fail
  obtain ⟨W, hW⟩ : ∃ W, w.alloc (.cells #[.int .u8 kd, .int .i64 ia, .int .i64 ib, .int .i64 ic, .int .i64 id_, .int .i64 ie, .int .i64 if_, .int .i64 n, .slice Aa la ca, .slice At lt ct, .int .u8 at_, .int .u8 by_] 26) = W := ⟨_, rfl⟩
  change Code.wp _ _ _ _ (w.alloc (.cells #[.int .u8 kd, .int .i64 ia, .int .i64 ib, .int .i64 ic, .int .i64 id_, .int .i64 ie, .int .i64 if_, .int .i64 n, .slice Aa la ca, .slice At lt ct, .int .u8 at_, .int .u8 by_] 26))
  have b0 : Blk W Z0 [.int .u8 kd, .int .i64 ia, .int .i64 ib, .int .i64 ic, .int .i64 id_, .int .i64 ie, .int .i64 if_, .int .i64 n, .slice Aa la ca, .slice At lt ct, .int .u8 at_, .int .u8 by_] 26 := by rw [← hW]; exact Blk.mk_ _ hZ0.symm rfl
  have bb : Below Z0 w W := by rw [← hW]; exact bw_al (Below.refl _ _) (by omega) _
  have hz : W.heap.size = Z0 + 1 := by rw [← hW]; simp [hZ0]
  rw [hW]
  clear hW
  have y9 := b0.at_ 9 rfl
  have y10 := b0.at_ 10 rfl
  have HB := Lib.hid bb; have HB0 := Lib.hid b0
  clear bb b0
  by_cases h0 : m = 0
  · have ht : told = [] := List.eq_nil_of_length_eq_zero (by omega)
    have HTN := Lib.hid ht
    subst h0
    clear ht hlen hn hs
    go_wp2_with fail
    all_goals go_ret
    have e : ∀ a : ActBS, pickL told a = a.text := fun a => by rw [pickL, if_pos HTN.out]
    exact ⟨_, rfl, by rw [e]; exact HRT.out.stay HB.out (by omega), by rw [e]; exact HIT.out, by first | exact HB.out | (rw [hZ0]; exact HB.out)⟩
  · obtain ⟨q, rfl⟩ := Int.eq_ofNat_of_zero_le hAt.1
    obtain ⟨k, hk⟩ : ∃ k, q % m = k := ⟨_, rfl⟩
    have hkm : k < m := by rw [← hk]; exact Nat.mod_lt _ (by omega)
    obtain ⟨u, hu⟩ : ∃ u, vals[k]? = some u := ⟨vals[k]'(by rw [HM.out ()]; exact hkm), List.getElem?_eq_getElem _⟩
    obtain ⟨x, hx⟩ : ∃ x, told[k]? = some x := ⟨told[k]'(by omega), List.getElem?_eq_getElem _⟩
    have hent := HT.out.each k u x hu hx
    have hxl := hs x (List.mem_of_getElem? hx)
    obtain ⟨gT, cap, hA, hcell, hmc, hcm⟩ := row_cell HT.out.row hu
    cases hA
    rw [HM.out ()] at hmc
    have hcw : W.cell? ⟨gT, k, none⟩ = some u := (HB.out.cell (p := ⟨gT, k, none⟩) (by rw [← hZ0]; exact World.block_lt_of_cell? w _ hcell)).trans hcell
    have hpk : pickL told ⟨kd, ⟨ia, ib, ic, id_, ie, if_⟩, n, .slice Aa ad.length ca, ad, .slice At text.length ct, text, (q : Int), by_⟩ = turnLast x by_ := by
      rw [pickL, if_neg (by intro h; rw [h] at hlen; simp at hlen; omega)]
      simp only [Int.toNat_natCast]
      rw [← hlen, hk, List.getD_eq_getElem?_getD, hx]
      rfl
    obtain ⟨Au, cu, hvu, hcu, _⟩ := id hent.rd
    rw [bs_len] at hvu hcu
    subst hvu
    obtain ⟨xl, hxl2⟩ : ∃ l, x.length = l := ⟨_, rfl⟩
    rw [hxl2] at hcw hxl hcu
    have hrx := hent.rd.stay HB.out (by omega)
    rw [hxl2] at hrx
    have CL := Lib.hid (clone_any _ x W hrx (by omega))
    have HX := Lib.hid (fun _ : Unit => hxl2)
    have HPK := Lib.hid hpk; have HIX := Lib.hid hent.isB
    have hkI : ((q : Int) % (m : Int)) = (k : Int) := by rw [← hk]; exact (Int.natCast_emod q m).symm ▸ rfl
    have hkT : Int.tmod (q : Int) (m : Int) = (k : Int) := by rw [← hk]; exact rfl
    clear hent hu hx hpk hrx hxl2 hcell HP
    have HLN := Lib.hid (fun _ : Unit => hlen)
    clear hlen
    go_upto_region 4 with (go_at_call 52; refine CL.out.mono ?_; rintro e w2 ⟨v2, rfl, hb2, ho2⟩; rw [HX.out ()] at ho2; obtain ⟨A2, c2, rfl⟩ := row_slice ho2)
    have hz2 := hb2.size
    have HO2 := Lib.hid ho2
    have bb2 : Below Z0 w w2 := bw_then HB.out hb2 (by omega)
    have HB2 := Lib.hid bb2
    have z6 := ((HB0.out.stay hb2).at_ 11 rfl)
    clear bb2
    cases xl with
    | zero =>
      have hx0 : x = [] := List.eq_nil_of_length_eq_zero (HX.out ())
      have HX0 := Lib.hid hx0
      clear hx0 ho2 hb2
      go_wp2_with fail
      all_goals go_ret
      have e : turnLast x by_ = [] := by rw [HX0.out]; rfl
      have e2 := HPK.out
      rw [e] at e2
      have ho := HO2.out
      rw [HX0.out] at ho
      refine ⟨_, rfl, ?_, ?_, by first | exact HB2.out | (rw [hZ0]; exact HB2.out)⟩
      · refine (show Rd w2 _ (bs (pickL told ⟨kd, ⟨ia, ib, ic, id_, ie, if_⟩, n, .slice Aa ad.length ca, ad, .slice At text.length ct, text, (q : Int), by_⟩)) from ?_)
        rw [e2]
        exact Rd.of_own ho
      · refine (show IsB (pickL told ⟨kd, ⟨ia, ib, ic, id_, ie, if_⟩, n, .slice Aa ad.length ca, ad, .slice At text.length ct, text, (q : Int), by_⟩) from ?_)
        rw [e2]
        exact fun z hz => by cases hz
    | succ p =>
      have hg2 : ∃ g2, A2 = some ⟨g2, 0, none⟩ ∧ W.heap.size ≤ g2 ∧ w2.cell? ⟨g2, p, none⟩ = some (.int .u8 (x.getD p 0)) ∧ w2.frozen? ⟨g2, p, none⟩ = false ∧ p + 1 ≤ c2 := by
        have hxp : (bs x)[p]? = some (.int .u8 (x.getD p 0)) := by
          have hpl : p < x.length := by have := HX.out (); omega
          simp [bs, List.getD_eq_getElem?_getD, List.getElem?_eq_getElem hpl]
        obtain ⟨g2, cap2, e1, e2, e3, _⟩ := row_cell ho2 hxp
        cases e1
        obtain ⟨cur, e4⟩ := row_blk ho2 ⟨_, _, _, rfl⟩
        exact ⟨g2, rfl, (row_new ho2 ⟨_, _, _, rfl⟩).1, e2, by simp [World.frozen?, e4], e3⟩
      obtain ⟨g2, rfl, hg2, y2, f2, hpc⟩ := hg2
      have hpI : ((p + 1 : Nat) : Int) - 1 = (p : Int) := by omega
      have hwp : IntKind.i64.wrap (p : Int) = (p : Int) := by rw [IntKind.wrap_i64]; omega
      have hnp : ¬ ((p : Int) + 1 ≤ (p : Int)) := by omega
      have y2d : w2.drew.cell? ⟨g2, p, none⟩ = some (.int .u8 (x.getD p 0)) := y2
      have f2d : w2.drew.frozen? ⟨g2, p, none⟩ = false := f2
      have z6d : w2.drew.cell? ⟨Z0, 11, none⟩ = some (.int .u8 by_) := z6
      clear ho2 hb2
      go_upto_region 5 with fail
      refine region_plan ⟨[0, 0, 2, 6, 15, 31, 0, 64, 255, 511, 1023], [10], [0, 0, 0, 0, 0, 0, 0, 0, 0, 0, 0]⟩
        [⟨[0, 1, 2, 3, 4, 5, 6, 7, 8, 9], [2, 3, 4, 5, 6, 7, 8, 9], some 10⟩, ⟨[], [], none⟩] 35 (by kernel_rfl) (by kernel_rfl) (by kernel_rfl) (by kernel_rfl) rfl ?_
      simp only [SeqGo, opsAt_cons, opsAt_nil, List.getElem?_cons, Option.toList_some, List.singleton_append, ↓reduceIte, Nat.reduceEqDiff, Nat.reduceSub]
      go_wp2_with fail
      refine ⟨by (simp only [Sames, Same]; go_simp), ?_⟩
      go_wp2_with fail
      refine ⟨trivial, ?_⟩
      go_wp2_with fail
      all_goals (try go_ret)
      have e : turnLast x by_ = x.set p (bits .xor .u8 (x.getD p 0) by_) := by
        unfold turnLast
        rw [HX.out (), Nat.add_sub_cancel]
      have e2 := HPK.out
      have hi := turnLast_isB HIX.out hBy
      rw [e] at e2 hi
      refine ⟨_, rfl, ?_, ?_, ?_⟩
      · refine (show Rd _ _ (bs (pickL told ⟨kd, ⟨ia, ib, ic, id_, ie, if_⟩, n, .slice Aa ad.length ca, ad, .slice At text.length ct, text, (q : Int), by_⟩)) from ?_)
        rw [e2]
        exact set_rd HO2.out _
      · refine (show IsB (pickL told ⟨kd, ⟨ia, ib, ic, id_, ie, if_⟩, n, .slice Aa ad.length ca, ad, .slice At text.length ct, text, (q : Int), by_⟩) from ?_)
        rw [e2]
        exact hi
      · have := bw_set (bw_d1 HB2.out) g2 p (by omega) (.int .u8 (bits .xor .u8 (x.getD p 0) by_))
        first | exact this | (rw [hZ0]; exact this)
end Go.Proofs.YtdgpchacfdlleaaDoor
end
