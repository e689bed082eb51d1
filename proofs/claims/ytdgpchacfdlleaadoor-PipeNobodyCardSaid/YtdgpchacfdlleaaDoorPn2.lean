/-
  Texts of mine in one: NonceB, CopyL, NonceC.
-/
import Derived.Test.YtdgpchacfdlleaaDoorPn1
import Derived.Laws.ResultCell
section
/-
  keys: a number's nonce.
-/
namespace Go.Proofs.YtdgpchacfdlleaaDoor
open Go.RowKit

/-- Two results, the first of them what a block holds. -/
theorem ret_blk2 {P : Program} {fn : Func} {R : Ending → World → Prop} {a : Act} {w : World} {p u : Tmp} {ty : TypeId} (h : fn.results = #[.cell p ty, .tmp u]) {g : Nat} {t : TypeId} {cs : List Value} {d : TypeDesc}
    (hp : a.tmps.getD p undef = .pointer (some ⟨g, 0, none⟩)) (hg : Blk w g cs t) (hu : P.underlying ty = some d) (hd : (match d with | .struct _ | .array _ _ => true | _ => false) = true) {n : Nat} (hi : (P.info? ty).map (·.size) = some n)
    (hn : cs.length = n) (hdf : a.defers = []) (hR : R (.returned (.tuple #[.agg cs.toArray, a.tmps.getD u undef])) w) : bodyPost P fn R .ret a w := by
  refine bodyPost_ret ?_ hdf hR
  have hp' : a.tmps[p]?.getD undef = .pointer (some ⟨g, 0, none⟩) := by simpa using hp
  simp [results, h, hp', asAddr, run_loadVar_row w g t ty cs.toArray (0, 0) d hg hu hd (by rw [hi]; simp [hn])]
def nonceB (n : Int) : Bool := decide (0 ≤ n) && decide (n ≤ 1099511627776)
theorem info_nonce : (Tryd.prog.info? 46).map (·.size) = some 12 := by kernel_rfl
set_option maxRecDepth 100000 in
theorem nonce_no (n : Int) (w : World) (h : nonceB n = false) : Calls Tryd.prog 26 #[.int .i64 n] w fun e w' => e = .returned (.tuple #[.agg (bs (List.replicate 12 0)).toArray, .bool false]) ∧ Below w.heap.size w w' := by
  unfold nonceB at h
  have hb0 : Blk ((w.alloc (.cells #[.int .u8 0, .int .u8 0, .int .u8 0, .int .u8 0, .int .u8 0, .int .u8 0, .int .u8 0, .int .u8 0, .int .u8 0, .int .u8 0, .int .u8 0, .int .u8 0] 46)).alloc (.cells #[.int .u8 0, .int .u8 0, .int .u8 0, .int .u8 0, .int .u8 0, .int .u8 0, .int .u8 0, .int .u8 0, .int .u8 0, .int .u8 0, .int .u8 0, .int .u8 0] 46)) w.heap.size [.int .u8 0, .int .u8 0, .int .u8 0, .int .u8 0, .int .u8 0, .int .u8 0, .int .u8 0, .int .u8 0, .int .u8 0, .int .u8 0, .int .u8 0, .int .u8 0] 46 := (Blk.mk_ w rfl rfl).al _
  go_enter Tryd.func26, Tryd.ntmps26
  by_cases h1 : n < 0
  · go_wp2_with fail
    refine ret_blk2 rfl rfl hb0 Tryd.underlying46 rfl info_nonce rfl rfl ?_
    exact ⟨rfl, bw_al (bw_al (Below.refl _ _) (Nat.le_refl _) _) (by simp) _⟩
  · have h2 : 1099511627776 < n := by simp at h; omega
    go_wp2_with fail
    refine ret_blk2 rfl rfl hb0 Tryd.underlying46 rfl info_nonce rfl rfl ?_
    exact ⟨rfl, bw_al (bw_al (Below.refl _ _) (Nat.le_refl _) _) (by simp) _⟩
end Go.Proofs.YtdgpchacfdlleaaDoor
end

section
/-
  copy into a piece of an array; a piece of an array.
-/
namespace Go.Proofs.YtdgpchacfdlleaaDoor
open Go.RowKit

/-- copy of a slice that is longer than where it goes. -/
theorem wp_copy_low {P : Program} {ops : Array Oper} {rest : List Oper} {o : Oper} {a : Act} {w : World} {Q : Exit → Act → World → Prop} (d s : Operand) (dT sT : TypeId) (hgd : o.guard = none)
    (ho : o.op = .call { callee := .builtin .copy, args := #[d, s], argTypes := #[dT, sT] }) (elem : TypeId) (hu : P.underlying dT = some (.slice elem)) (hs : (P.info? elem).map (·.size) = some 1)
    {g off dLen dCap : Nat} (hd : a.eval d = .slice (some ⟨g, off, none⟩) dLen dCap) {u : Value} {ys : List Value} (hx : a.eval s = u) (hr : Rd w u ys) (hne : 0 < ys.length) (hle : dLen ≤ ys.length)
    {cur : List Value} {t : TypeId} (hg : Blk w g cur t) (hfit : off + dLen ≤ cur.length) (h1 : ∀ y ∈ ys, y.oneCell' = true)
    (h : ∀ w', Blk w' g (cur.take off ++ ys.take dLen ++ cur.drop (off + dLen)) t → Only g w w' → wpList P ops Q rest (a.put o.dst (goInt dLen)) w') : wpList P ops Q (o :: rest) a w :=
  wpList_plain hgd fun K hK => by
    show o.upon P a K Q ((execOp a.eval o).run P w)
    obtain ⟨A, c, rfl, hc1, hc2, h0, h3⟩ := hr
    have hlt : (ys.take dLen).length = dLen := by rw [List.length_take]; exact Nat.min_eq_left hle
    rcases h3 with rfl | ⟨b, o', rfl, h3⟩
    · simp at hne
    · have hrun := run_copy_row (P := P) w dT sT o.type elem g off dLen dCap ⟨b, o', none⟩ ys.length c cur.toArray t (ys.take dLen) hu hs hg (hlt.trans (Nat.min_eq_right hle).symm) (by
        intro j y hj
        have hj2 : j < dLen := by have := (List.getElem?_eq_some_iff.1 hj).1; omega
        rw [List.getElem?_take_of_lt hj2] at hj
        obtain ⟨hlt, rfl⟩ := List.getElem?_eq_some_iff.1 hj
        rw [← h3 j hlt]
        congr 1
        unfold Addr.add; split <;> simp_all) (by rw [hlt]; simpa using hfit) (fun y hy => h1 y (List.mem_of_mem_take hy))
      rw [hlt] at hrun
      simp [execOp, ho, resolve, invoke, builtin, hd, hx, hrun, Result.andThen]
      exact hK _ _ (h _ (show _ = _ by simpa using setRow_heap w g cur.toArray (cur.take off ++ ys.take dLen ++ cur.drop (off + dLen)).toArray t (0, 0) hg) (Only.row w g _))

theorem arr_slice_l {P : Program} (w : World) (t : TypeId) {e : TypeId} {n : Nat} (o l : Nat) (hl : l ≤ n) (hne : n ≠ l) (ha : P.arrayLen t = n) (he : P.elem t = e) (hu : P.underlying t = some (.array n e)) (hs : (P.info? e).map (·.size) = some 1) :
    (Instr.sliceAt t (.pointer (some ⟨o, 0, none⟩)) (some (.int .i64 l)) none none).run P w = .ok (.slice (some ⟨o, l, none⟩) (n - l) (n - l)) w := by
  obtain ⟨q, hq1, hq2⟩ := Option.map_eq_some_iff.1 hs
  rw [run_sliceAt_array_l (P := P) w t ⟨o, 0, none⟩ (by rw [ha, he]; exact hu) .i64 l (by omega) (by rw [ha]; omega)]
  rw [he, ha]
  have hadd : (⟨o, 0, none⟩ : Addr).add l = ⟨o, l, none⟩ := by unfold Addr.add; split <;> simp_all
  simp [sizeOf, typeInfo, hq1, hq2, slicedAt, hne, hadd]
end Go.Proofs.YtdgpchacfdlleaaDoor
end

section
/-
  keys: a number's nonce; what is wrong with an id and a number.
-/
namespace Go.Proofs.YtdgpchacfdlleaaDoor
open Go.RowKit

def nonceL (n : Int) : List Int := List.replicate 4 0 ++ num8 n
theorem nonceL_len (n : Int) : (nonceL n).length = 12 := by unfold nonceL; rw [List.length_append, num8_len]; rfl
theorem nonceL_isB (n : Int) : IsB (nonceL n) := by
  intro z hz
  rcases List.mem_append.1 hz with h | h
  · have := (List.mem_replicate.1 h).2; omega
  · exact hiL_isB _ _ _ z h
theorem slice12l (w : World) (o : Nat) : (Instr.sliceAt 46 (.pointer (some ⟨o, 0, none⟩)) (some (.int .i64 4)) none none).run Tryd.prog w = .ok (.slice (some ⟨o, 4, none⟩) 8 8) w :=
  arr_slice_l w 46 o 4 (by decide) (by decide) (by kernel_rfl) (by kernel_rfl) Tryd.underlying46 (by kernel_rfl)
set_option maxRecDepth 100000 in
set_option maxHeartbeats 1000000 in
theorem nonce_ok (n : Nat) (w : World) (h : n ≤ 1099511627776) : Calls Tryd.prog 26 #[.int .i64 n] w fun e w' => e = .returned (.tuple #[.agg (bs (nonceL n)).toArray, .bool true]) ∧ Below w.heap.size w w' := by
  obtain ⟨B, hB⟩ : ∃ B, w.heap.size = B := ⟨_, rfl⟩
  have PN := Lib.hid (fun w' => putNum_any n w' h)
  go_enter Tryd.func26, Tryd.ntmps26
  go_upto_region 4 with fail
  obtain ⟨W, hW⟩ : ∃ W, (w.alloc (.cells (bs (List.replicate 12 0)).toArray 46)).alloc (.cells (bs (List.replicate 12 0)).toArray 46) = W := ⟨_, rfl⟩
  change Code.wp _ _ _ _ ((w.alloc (.cells (bs (List.replicate 12 0)).toArray 46)).alloc (.cells (bs (List.replicate 12 0)).toArray 46))
  have b0 : Blk W B (bs (List.replicate 12 0)) 46 := by rw [← hW]; exact (Blk.mk_ _ hB.symm rfl).al _
  have b1 : Blk W (B + 1) (bs (List.replicate 12 0)) 46 := by rw [← hW]; exact Blk.mk_ _ (by simp [hB]) rfl
  have bb : Below B w W := by rw [← hW]; exact bw_al (bw_al (Below.refl _ _) (by omega) _) (by simp; omega) _
  have hz : W.heap.size = B + 2 := by rw [← hW]; simp [hB]
  rw [hW]
  clear hW
  have s12 := fun w => slice12l w (B + 1)
  refine region_plan ⟨[0, 0, 2, 7], [2, 3], [0, 0, 0, 1]⟩
    [⟨[0, 1], [0], some 2⟩, ⟨[], [0], some 3⟩, ⟨[], [], none⟩] 17 (by kernel_rfl) (by kernel_rfl) (by kernel_rfl) (by kernel_rfl) rfl ?_
  simp only [SeqGo, opsAt_cons, opsAt_nil, List.getElem?_cons, Option.toList_some, List.singleton_append, ↓reduceIte, Nat.reduceEqDiff, Nat.reduceSub]
  go_wp2_with fail
  refine ⟨by (simp only [Sames, Same]; go_simp), ?_⟩
  go_wp2_with (go_at_call 65; refine (PN.out _).mono ?_; rintro e w2 ⟨v2, rfl, hb2, ho2⟩)
  refine ⟨by (simp only [Sames, Same]; go_simp), ?_⟩
  have c0 := b0.d1.stay hb2
  have c1 := b1.d1.stay hb2
  have r2 : Rd w2 v2 (bs (num8 n)) := Rd.of_own ho2
  have hl8 : (bs (num8 (n : Int))).length = 8 := by rw [bs_len, num8_len]
  have L8 := Lib.hid hl8
  clear hl8
  go_wp2_with (refine wp_copy_low (.tmp 12) (.tmp 14) 24 24 rfl rfl 5 Tryd.underlying24 (by kernel_rfl) rfl rfl r2 (by rw [L8.out]; decide) (by rw [L8.out]; decide) c1 (by rw [bs_len, List.length_replicate]; decide) (bs_one _) ?_; intro w4 b4 on4)
  refine ⟨trivial, ?_⟩
  have b4' : Blk w4 (B + 1) (bs (nonceL n)) 46 := by
    have e : (bs (List.replicate 12 0)).take 4 ++ (bs (num8 (n : Int))).take 8 ++ (bs (List.replicate 12 0)).drop (4 + 8) = bs (nonceL n) := by
      have t8 : (bs (num8 (n : Int))).take 8 = bs (num8 (n : Int)) := List.take_of_length_le (by rw [L8.out]; decide)
      rw [t8, nonceL, bs_append]
      simp [bs]
    rw [← e]; exact b4
  have d0 := c0.only on4 (by omega)
  have hb4 : Below B w w4 := on4.below (bw_then (bw_d1 bb) hb2 (by have := bb.size; simp; omega)) (by omega)
  go_wp2_with (first
    | (refine wp_load_blk rfl 46 (.tmp 4) rfl rfl b4' Tryd.underlying46 rfl (n := 12) (by kernel_rfl) (by rw [bs_len, nonceL_len]) ?_)
    | (refine wp_store_blk rfl 46 (.tmp 2) (.tmp 16) rfl rfl rfl (cs' := bs (nonceL n)) d0 (bs_one _) (by rw [bs_len, nonceL_len]; rfl) (n := 12) (by kernel_rfl) (by rw [bs_len, nonceL_len]) ?_; intro w5 b5 on5))
  refine ret_blk2 rfl rfl b5 Tryd.underlying46 rfl info_nonce (by rw [bs_len, nonceL_len]) rfl ?_
  exact ⟨rfl, by rw [hB]; exact on5.below hb4 (Nat.le_refl _)⟩

/-- The twelve bytes that a number's nonce comes to, and whether there is one. -/
def nonceX (n : Int) : List Int := if nonceB n = true then nonceL n else List.replicate 12 0
theorem nonceX_len (n : Int) : (nonceX n).length = 12 := by unfold nonceX; split; exact nonceL_len n; rfl
theorem nonce_any (n : Int) (w : World) : Calls Tryd.prog 26 #[.int .i64 n] w fun e w' => e = .returned (.tuple #[.agg (bs (nonceX n)).toArray, .bool (nonceB n)]) ∧ Below w.heap.size w w' := by
  unfold nonceX
  cases hn : nonceB n with
  | true =>
    have h0 : 0 ≤ n ∧ n ≤ 1099511627776 := by unfold nonceB at hn; simpa using hn
    obtain ⟨m, rfl⟩ := Int.eq_ofNat_of_zero_le h0.1
    exact nonce_ok m w (by omega)
  | false => exact nonce_no n w hn
theorem ask_eq (k : Kid) (n : Int) : askB k n = if nonceB n = true ∧ k.ok = true then 0 else 1 := by
  unfold askB nonceB
  by_cases h : 0 ≤ n ∧ n ≤ 1099511627776
  · simp [h.1, h.2]
  · rw [if_neg (fun hh => h ⟨hh.1, hh.2.1⟩), if_neg (fun hh => h (by simpa using hh.1))]
set_option maxRecDepth 100000 in
/-- What is wrong with an id and a number. -/
theorem ask_any (w : World) (g : Nat) (cs : List Value) (k : Kid) (n : Int) (hb : Blk w g cs 59) (h2 : cs[2]? = some (.bool true)) :
    Calls Tryd.prog 53 #[.pointer (some ⟨g, 0, none⟩), .agg k.cells.toArray, .int .i64 n] w fun e w' => e = .returned (.int .i64 (askB k n)) ∧ Below w.heap.size w w' := by
  rw [ask_eq]
  obtain ⟨r, hr⟩ : ∃ r : Int, (if nonceB n = true ∧ k.ok = true then 0 else 1) = r := ⟨_, rfl⟩
  rw [hr]
  have HR := Lib.hid (fun _ : Unit => hr)
  clear hr
  obtain ⟨B, hB⟩ : ∃ B, w.heap.size = B := ⟨_, rfl⟩
  have hg : g < B := by rw [← hB]; exact hb.lt
  have VA := Lib.hid (fun w' => valid_any k w')
  have KL := Lib.hid (show k.cells.length = 6 from rfl)
  have NL := Lib.hid (show (bs (nonceX n)).length = 12 by rw [bs_len, nonceX_len])
  have NN := Lib.hid (fun w' => nonce_any n w')
  generalize k.cells = kc at *
  generalize nonceB n = bn at *
  generalize k.ok = bk at *
  generalize nonceX n = nx at *
  go_enter Tryd.func53, Tryd.ntmps53
  go_upto_region 1 with fail
  obtain ⟨W, hW⟩ : ∃ W, w.alloc (.cells kc.toArray 23) = W := ⟨_, rfl⟩
  change Code.wp _ _ _ _ (w.alloc (.cells kc.toArray 23))
  have b0 : Blk W B kc 23 := by rw [← hW]; exact Blk.mk_ _ hB.symm rfl
  have y2 : W.cell? ⟨g, 2, none⟩ = some (.bool true) := by rw [← hW]; exact (hb.al _).at_ 2 h2
  have bb : Below B w W := by rw [← hW]; exact bw_al (Below.refl _ _) (by omega) _
  rw [hW]
  have hz : W.heap.size = B + 1 := by rw [← hW]; simp [hB]
  clear hW hb h2
  have HB0 := Lib.hid b0; have HBB := Lib.hid bb
  clear b0 bb
  go_upto_region 4 with (first
    | (go_at_call 26; refine (NN.out _).mono ?_; rintro e w2 ⟨rfl, hb2⟩)
    | (refine wp_store_blk rfl 46 (.tmp 7) (.tmp 21) rfl rfl rfl (cs' := bs nx) (Blk.mk_ (cs := bs (List.replicate 12 0)) _ rfl rfl) (bs_one _) (by rw [NL.out]; rfl) (n := 12) (by kernel_rfl) NL.out ?_; intro w3 b3 on3))
  have hl3 : Below W.heap.size W w3 := on3.below (bw_al hb2 hb2.size _) hb2.size
  have HL3 := Lib.hid hl3
  have c0 := HB0.out.stay hl3
  clear on3 b3 hb2 hl3 y2
  have lk := load_fact (P := Tryd.prog) c0 23 0 (ys := kc) (by rw [List.drop_zero, List.take_length]) Tryd.underlying23 rfl (n := 6) (by kernel_rfl) KL.out
  have lk3 := lk w3 (Below.refl _ _)
  have HE := Lib.hid (show Below B w w3 from bw_then HBB.out HL3.out (by have := HBB.out.size; omega))
  have HS : B ≤ w3.heap.size := by have := HL3.out.size; omega
  clear lk c0
  cases bn with
  | false =>
    go_wp2_with fail
    all_goals go_ret
    have hr := HR.out ()
    simp at hr
    exact ⟨by rw [← hr]; rfl, by rw [hB]; exact HE.out⟩
  | true =>
    cases bk with
    | false =>
      go_wp2_with (first
        | (refine wp_load_f (by rfl) 23 (.tmp 4) rfl rfl lk3 ?_)
        | (go_at_call 23; refine (VA.out _).mono ?_; rintro e w4 ⟨rfl, hb4⟩))
      all_goals go_ret
      have hr := HR.out ()
      simp at hr
      exact ⟨by rw [← hr]; rfl, by rw [hB]; exact bw_then HE.out hb4 HS⟩
    | true =>
      go_wp2_with (first
        | (refine wp_load_f (by rfl) 23 (.tmp 4) rfl rfl lk3 ?_)
        | (go_at_call 23; refine (VA.out _).mono ?_; rintro e w4 ⟨rfl, hb4⟩))
      all_goals go_ret
      have hr := HR.out ()
      simp at hr
      exact ⟨by rw [← hr]; rfl, by rw [hB]; exact bw_then HE.out hb4 HS⟩
end Go.Proofs.YtdgpchacfdlleaaDoor
end
