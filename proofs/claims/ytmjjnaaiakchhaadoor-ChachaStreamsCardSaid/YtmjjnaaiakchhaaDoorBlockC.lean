/-
  chacha.Block: the program's block.
-/
import Derived.Test.YtmjjnaaiakchhaaDoorBlockR
import Derived.Test.YtmjjnaaiakchhaaDoorBegun
import Derived.Test.YtmjjnaaiakchhaaDoorTab
namespace Go.Proofs.YtmjjnaaiakchhaaDoor
open Go.RowKit

theorem rows_lt (i : Nat) : rowsL.getD i 0 < 16 := by
  by_cases h : i < 32
  · revert i; decide
  · rw [List.getD_eq_getElem?_getD, List.getElem?_eq_none (by simp [rowsL]; omega)]; decide
theorem ns_get (xs : List Nat) (i : Nat) (h : i < xs.length) : (ns xs)[i]? = some (.int .i64 (xs.getD i 0 : Nat)) := by simp [ns, List.getD_eq_getElem?_getD, h]
theorem ns_one (xs : List Nat) : ∀ y ∈ ns xs, y.oneCell' = true := by
  intro y hy
  obtain ⟨x, _, rfl⟩ := List.mem_map.1 hy
  rfl
theorem ns_len (xs : List Nat) : (ns xs).length = xs.length := by simp [ns]

def rowAt (k j : Nat) : Nat := rowsL.getD (4 * k + j) 0
def crow (s : List Int) : Nat → List Int
  | 0 => s
  | k + 1 => qr (crow s k) (rowAt k 0) (rowAt k 1) (rowAt k 2) (rowAt k 3)
theorem crow_len (s : List Int) (k : Nat) : (crow s k).length = s.length := by induction k with | zero => rfl | succ k ih => simp [crow, qr_len, ih]
theorem crow_all (s : List Int) : crow s 8 = roundB (roundA s 4) 4 := rfl
theorem rowAt_lt (k j : Nat) : rowAt k j < 16 := rows_lt _


theorem index_rows (w : World) (k : Nat) (hk : k < 8) : (Instr.index 65 (.agg (ns rowsL).toArray) (.int .i64 (k : Int))).run Tryd.prog w = .ok (.agg (ns [rowAt k 0, rowAt k 1, rowAt k 2, rowAt k 3]).toArray) w := by
  rcases k with _ | _ | _ | _ | _ | _ | _ | _ | k
  all_goals first | omega | kernel_rfl

theorem run_index_us {P : Program} {w : World} {t e : TypeId} {n : Nat} {k' k : IntKind} (hu : P.underlying t = some (.array n e)) (he : P.underlying e = some (.int k')) (hs : (P.info? e).map (·.size) = some 1)
    (cs : Array Value) (i : Nat) {v : Value} (hi : i < n) (hv : cs[i]? = some v) : (Instr.index t (.agg cs) (.int k (i : Int))).run P w = .ok v w := by
  obtain ⟨q, hq1, hq2⟩ := Option.map_eq_some_iff.1 hs
  have h1 : (0 : Int) ≤ (i : Int) ∧ (i : Int) < (n : Int) := by omega
  have h2 := run_part_int (P := P) (w := w) he cs i v hv
  simp [Instr.index, run_underlying hu, asIntOf, h1, sizeOf, typeInfo, hq1, hq2, hi, h2]

theorem upon_copy {P : Program} {o : Oper} {ρ : Operand → Value} {a : Act} {w : World} {K : Act → World → Prop} {Q : Exit → Act → World → Prop} (d s : Operand) (dT sT : TypeId)
    (ho : o.op = .call { callee := .builtin .copy, args := #[d, s], argTypes := #[dT, sT] }) (elem : TypeId) (hu : P.underlying dT = some (.slice elem)) (hs : (P.info? elem).map (·.size) = some 1)
    {g off dLen dCap : Nat} (hd : ρ d = .slice (some ⟨g, off, none⟩) dLen dCap) {u : Value} {ys : List Value} (hx : ρ s = u) (hr : Rd w u ys) (hne : 0 < ys.length) (hle : ys.length ≤ dLen)
    {cur : List Value} {t : TypeId} (hg : Blk w g cur t) (hfit : off + ys.length ≤ cur.length) (h1 : ∀ y ∈ ys, y.oneCell' = true)
    (h : ∀ w', Blk w' g (cur.take off ++ ys ++ cur.drop (off + ys.length)) t → Only g w w' → K (a.put o.dst (goInt ys.length)) w') : o.upon P a K Q ((execOp ρ o).run P w) := by
  obtain ⟨A, c, rfl, hc1, hc2, h0, h3⟩ := hr
  rcases h3 with rfl | ⟨b, o', rfl, h3⟩
  · simp at hne
  · have hrun := run_copy_row (P := P) w dT sT o.type elem g off dLen dCap ⟨b, o', none⟩ ys.length c cur.toArray t ys hu hs hg (Nat.min_eq_left hle).symm (by
      intro j y hj
      obtain ⟨hlt, rfl⟩ := List.getElem?_eq_some_iff.1 hj
      rw [← h3 j hlt]
      congr 1
      unfold Addr.add; split <;> simp_all) (by simpa using hfit) h1
    simp [execOp, ho, resolve, invoke, builtin, hd, hx, hrun, Result.andThen]
    exact h _ (show _ = _ by simpa using setRow_heap w g cur.toArray (cur.take off ++ ys ++ cur.drop (off + ys.length)).toArray t (0, 0) hg) (Only.row w g _)

theorem slice_out (w : World) (o k : Nat) (hk : k < 16) : (Instr.sliceAt 27 (.pointer (some ⟨o, 0, none⟩)) (some (.int .i64 (4 * (k : Int)))) none none).run Tryd.prog w = .ok (.slice (some ⟨o, 4 * k, none⟩) (64 - 4 * k) (64 - 4 * k)) w := by
  have ha : Tryd.prog.arrayLen 27 = 64 := by kernel_rfl
  have he : Tryd.prog.elem 27 = 5 := by kernel_rfl
  obtain ⟨q, hq1, hq2⟩ := Option.map_eq_some_iff.1 (show (Tryd.prog.info? 5).map (·.size) = some 1 by kernel_rfl)
  have e1 : (4 * (k : Int)).toNat = 4 * k := by omega
  have e2 : ¬ 64 = 4 * k := by omega
  rw [run_sliceAt_array_l (P := Tryd.prog) w 27 ⟨o, 0, none⟩ (by rw [ha, he]; exact Tryd.underlying27) .i64 (4 * (k : Int)) (by omega) (by rw [ha]; omega)]
  rw [he, ha]
  simp [sizeOf, typeInfo, hq1, hq2, slicedAt, e1, e2, Addr.add]
  intro h0
  omega

theorem splice_zero (a l : List Int) (n m q : Nat) (ha : a.length = n) (hl : l.length = q) :
    (bs (a ++ List.replicate m 0)).take n ++ bs l ++ (bs (a ++ List.replicate m 0)).drop (n + q) = bs ((a ++ l) ++ List.replicate (m - q) 0) := by
  subst ha hl
  simp [bs, ← List.map_drop, List.drop_append, List.drop_replicate]

structure CInv (B g : Nat) (w wr : World) (key nonce s0 s : List Int) : Prop where
  h : B + 2 < g
  k : Blk wr B (bs key) 22
  n : Blk wr (B + 1) (bs nonce) 24
  o : Blk wr (B + 2) (bs (List.replicate 64 0)) 27
  s0 : Blk wr g (us s0) 62
  s : Blk wr (g + 1) (us s) 62
  t : Tab wr
  p : 0 < B
  b : Below B w wr

theorem CInv.put {B g : Nat} {w wr : World} {key nonce s0 s : List Int} (h : CInv B g w wr key nonce s0 s) (i : Nat) (x : Int) : CInv B g w (wr.setCell ⟨g + 1, i, none⟩ (.int .u32 x)) key nonce s0 (s.set i x) :=
  have hh := h.h
  ⟨h.h, h.k.other (by simp; omega) _, h.n.other (by simp; omega) _, h.o.other (by simp; omega) _, h.s0.other (by simp) _, by rw [← us_set]; exact h.s.set i _, h.t.other (by simp) _, h.p, bw_set h.b _ _ (by omega) _⟩
theorem CInv.only {B g r : Nat} {w wr w2 : World} {key nonce s0 s : List Int} (h : CInv B g w wr key nonce s0 s) (ho : Only r wr w2) (hr : g + 1 < r) : CInv B g w w2 key nonce s0 s :=
  have hh := h.h
  ⟨h.h, h.k.only ho (by omega), h.n.only ho (by omega), h.o.only ho (by omega), h.s0.only ho (by omega), h.s.only ho (by omega), h.t.only ho (by omega), h.p, ho.below h.b (by omega)⟩
theorem CInv.al {B g : Nat} {w wr : World} {key nonce s0 s : List Int} (h : CInv B g w wr key nonce s0 s) (o : Obj) : CInv B g w (wr.alloc o) key nonce s0 s :=
  ⟨h.h, h.k.al _, h.n.al _, h.o.al _, h.s0.al _, h.s.al _, h.t.al _, h.p, bw_al h.b (by have := h.h; have := h.s.lt; omega) _⟩
theorem CInv.d1 {B g : Nat} {w wr : World} {key nonce s0 s : List Int} (h : CInv B g w wr key nonce s0 s) : CInv B g w wr.drew key nonce s0 s :=
  ⟨h.h, h.k, h.n, h.o, h.s0, h.s, h.t, h.p, bw_d1 h.b⟩
theorem CInv.stay {B g : Nat} {w wr w2 : World} {key nonce s0 s : List Int} (h : CInv B g w wr key nonce s0 s) (hb : Below wr.heap.size wr w2) : CInv B g w w2 key nonce s0 s :=
  ⟨h.h, h.k.stay hb, h.n.stay hb, h.o.stay hb, h.s0.stay hb, h.s.stay hb, h.t.stay hb, h.p, bw_then h.b hb (by have := h.h; have := h.s.lt; omega)⟩

set_option maxRecDepth 8000 in
set_option maxHeartbeats 1000000 in
theorem blockc_any (key nonce : List Int) (c : Int) (w : World) (hk : key.length = 32) (hn : nonce.length = 12) (hkb : IsB key) (hnb : IsB nonce) (ht : Tab w) :
    Calls Tryd.prog 15 #[.agg (bs key).toArray, .int .u32 c, .agg (bs nonce).toArray] w fun e w' => e = .returned (.agg (bs (block key c nonce)).toArray) ∧ Below w.heap.size w w' := by
  have HC := Lib.hid (fun w => first_any key nonce c w hk hn hkb hnb)
  have HF := Lib.hid (fun _ : Unit => first_begin key c nonce hkb hnb)
  have HK := Lib.hid hk
  have HN := Lib.hid hn
  clear hk hn hkb hnb
  obtain ⟨B, hB⟩ : ∃ B, w.heap.size = B := ⟨_, rfl⟩
  go_enter Tryd.func15, Tryd.ntmps15
  go_upto_region 1 with fail
  have hp : 0 < B := by rw [← hB]; exact ht.lt
  have b0 : Blk (((w.alloc (.cells (bs key).toArray 22)).alloc (.cells (bs nonce).toArray 24)).alloc (.cells (bs (List.replicate 64 0)).toArray 27)) B (bs key) 22 := ((Blk.mk_ _ hB.symm rfl).al _).al _
  have b1 : Blk (((w.alloc (.cells (bs key).toArray 22)).alloc (.cells (bs nonce).toArray 24)).alloc (.cells (bs (List.replicate 64 0)).toArray 27)) (B + 1) (bs nonce) 24 := (Blk.mk_ _ (by simp [hB]) rfl).al _
  have b2 : Blk (((w.alloc (.cells (bs key).toArray 22)).alloc (.cells (bs nonce).toArray 24)).alloc (.cells (bs (List.replicate 64 0)).toArray 27)) (B + 2) (bs (List.replicate 64 0)) 27 := Blk.mk_ _ (by simp [hB]) rfl
  have bt : Tab (((w.alloc (.cells (bs key).toArray 22)).alloc (.cells (bs nonce).toArray 24)).alloc (.cells (bs (List.replicate 64 0)).toArray 27)) := ((ht.al _).al _).al _
  have bb : Below B w (((w.alloc (.cells (bs key).toArray 22)).alloc (.cells (bs nonce).toArray 24)).alloc (.cells (bs (List.replicate 64 0)).toArray 27)) := bw_al (bw_al (bw_al (Below.refl _ _) (by omega) _) (by simp; omega) _) (by simp; omega) _
  change Code.wp _ _ _ _ (((w.alloc (.cells (bs key).toArray 22)).alloc (.cells (bs nonce).toArray 24)).alloc (.cells (bs (List.replicate 64 0)).toArray 27))
  generalize (((w.alloc (.cells (bs key).toArray 22)).alloc (.cells (bs nonce).toArray 24)).alloc (.cells (bs (List.replicate 64 0)).toArray 27)) = w1 at *
  go_upto_region 2 with (first
      | (refine wp_load_blk rfl 22 (.tmp 3) rfl rfl b0 Tryd.underlying22 rfl (n := 32) (by kernel_rfl) (by rw [bs_len, HK.out]) ?_)
      | (refine wp_load_blk rfl 24 (.tmp 5) rfl rfl b1 Tryd.underlying24 rfl (n := 12) (by kernel_rfl) (by rw [bs_len, HN.out]) ?_)
      | (go_at_call 34; refine (HC.out _).mono ?_; rintro e w' ⟨rfl, hb⟩)
      | (refine wp_store_blk rfl 62 (.tmp 7) (.tmp 17) rfl rfl rfl (cs := us z16) (Blk.mk_ _ rfl rfl) (us_one _) (by rw [us_len, firstN_len]; rfl) (n := 16) (by kernel_rfl) (by rw [us_len, firstN_len]) ?_; intro w2 hb2 ho2))
  have hs1 := hb.size
  have hg1 := b2.lt
  have c0 : Blk w2 B (bs key) 22 := ((b0.stay hb).al _).only ho2 (by omega)
  have c1 : Blk w2 (B + 1) (bs nonce) 24 := ((b1.stay hb).al _).only ho2 (by omega)
  have c2 : Blk w2 (B + 2) (bs (List.replicate 64 0)) 27 := ((b2.stay hb).al _).only ho2 (by omega)
  have ct : Tab w2 := ((bt.stay hb).al _).only ho2 (by omega)
  have cb : Below B w w2 := ho2.below (bw_al (bw_then bb hb (by omega)) (by omega) _) (by omega)
  have hz : w2.heap.size = w'.heap.size + 1 := by rw [ho2.size]; simp
  have hgg : B + 2 < w'.heap.size := by omega
  obtain ⟨s0, hs0⟩ : ∃ s0, firstN key c nonce 3 = s0 := ⟨_, rfl⟩
  have hl0 : s0.length = 16 := by rw [← hs0, firstN_len]
  have HL := Lib.hid hl0
  have HS := Lib.hid (fun _ : Unit => hs0)
  rw [hs0] at hb2 ⊢
  clear hl0 hs0 b0 b1 b2 bt bb ho2 hb hs1 hg1 HC ht
  generalize w'.heap.size = g at *
  go_wp2_with (first
      | (refine wp_load_blk rfl 62 (.tmp 7) rfl rfl hb2 Tryd.underlying62 rfl (n := 16) (by kernel_rfl) (by rw [us_len, HL.out]) ?_)
      | (refine wp_store_blk rfl 62 (.tmp 8) (.tmp 18) rfl rfl rfl (cs := us z16) (Blk.mk_ _ hz.symm rfl) (us_one _) (by rw [us_len, HL.out]; rfl) (n := 16) (by kernel_rfl) (by rw [us_len, HL.out]) ?_; intro w3 hb3 ho3))
  have inv0 : CInv B g w w3 key nonce s0 (rounds s0 0) := ⟨hgg, (c0.al _).only ho3 (by omega), (c1.al _).only ho3 (by omega), (c2.al _).only ho3 (by omega), (hb2.al _).only ho3 (by omega), hb3, (ct.al _).only ho3 (by omega), hp, ho3.below (bw_al cb (by omega) _) (by omega)⟩
  clear c0 c1 c2 ct cb hb2 hb3 ho3 hz
  go_loopw [19] (fun i wr => ∃ j : Nat, j ≤ 10 ∧ i = .int .i64 j ∧ CInv B g w wr key nonce s0 (rounds s0 j)) (fun i _ => 10 - (intOf i).toNat)
  case atStart => exact ⟨0, by omega, rfl, inv0⟩
  case round =>
    obtain ⟨j, hj, rfl, inv⟩ := hrel
    clear inv0
    by_cases hlt : j < 10
    · go_wp2_with (first
        | (refine wp_load_tab rfl 65 (.global 0) rfl rfl inv.t Tryd.underlying65 rfl (by kernel_rfl) ?_))
      try simp only [show decide ((j : Int) < 10) = true from decide_eq_true (by omega)]
      go_loopw [22] (fun i wr => ∃ k : Nat, k ≤ 8 ∧ i = .int .i64 k ∧ CInv B g w wr key nonce s0 (crow (rounds s0 j) k)) (fun i _ => 8 - (intOf i).toNat)
      case atStart => exact ⟨0, by omega, rfl, inv⟩
      case round =>
        obtain ⟨k, hk, rfl, inv⟩ := hrel
        by_cases hlk : k < 8
        · have hl := crow_len (rounds s0 j) k
          rw [rounds_len, HL.out] at hl
          obtain ⟨s1, hs1⟩ : ∃ s1, crow (rounds s0 j) k = s1 := ⟨_, rfl⟩
          rw [hs1] at inv hl
          have HL1 := Lib.hid hl
          have HS1 := Lib.hid (fun _ : Unit => hs1)
          clear hl hs1
          have hix := index_rows wr k hlk
          go_upto_region 8 with (refine wp_store_blk rfl 64 (.tmp 10) (.tmp 24) rfl rfl rfl (cs := ns [0, 0, 0, 0]) (Blk.mk_ _ rfl rfl) (ns_one _) rfl (n := 4) (by kernel_rfl) rfl ?_; intro w2 hb2 ho2)
          have inv2 : CInv B g w w2 key nonce s0 s1 := (inv.al _).only ho2 inv.s.lt
          have hr := inv.s.lt
          clear ho2 hix inv
          generalize wr.heap.size = r at *
          have q0 := rowAt_lt k 0
          have q1 := rowAt_lt k 1
          have q2 := rowAt_lt k 2
          have q3 := rowAt_lt k 3
          have HX := Lib.hid (fun _ : Unit => show crow (rounds s0 j) (k + 1) = qr (crow (rounds s0 j) k) (rowAt k 0) (rowAt k 1) (rowAt k 2) (rowAt k 3) from rfl)
          generalize rowAt k 0 = r0 at *
          generalize rowAt k 1 = r1 at *
          generalize rowAt k 2 = r2 at *
          generalize rowAt k 3 = r3 at *
          obtain ⟨Q, hQ⟩ : ∃ Q, Q = quarter (s1.getD r0 0) (s1.getD r1 0) (s1.getD r2 0) (s1.getD r3 0) := ⟨_, rfl⟩
          have HQ := Lib.hid (fun _ : Unit => hQ)
          clear hQ
          refine region_draws [(26, ?v26), (27, ?v27), (28, ?v28), (29, ?v29), (30, ?v30), (31, ?v31), (32, ?v32), (33, ?v33), (34, ?v34), (35, ?v35), (36, ?v36), (37, ?v37), (38, ?v38), (39, ?v39), (40, ?v40), (41, ?v41), (42, ?v42), (43, ?v43), (44, ?v44), (45, ?v45), (46, ?v46), (47, ?v47), (48, ?v48), (49, ?v49),
              (25, .tuple #[.int .u32 Q.1, .int .u32 Q.2.1, .int .u32 Q.2.2.1, .int .u32 Q.2.2.2]), (51, .int .u32 Q.1), (52, .int .u32 Q.2.1), (53, .int .u32 Q.2.2.1), (54, .int .u32 Q.2.2.2), (55, ?v55), (56, ?v56), (57, ?v57), (58, ?v58)] [50]
            (fun L T wr => CInv B g w wr key nonce s0 (if L 37 then (((s1.set r0 Q.1).set r1 Q.2.1).set r2 Q.2.2.1).set r3 Q.2.2.2 else if L 35 then ((s1.set r0 Q.1).set r1 Q.2.1).set r2 Q.2.2.1 else if L 33 then (s1.set r0 Q.1).set r1 Q.2.1 else if L 31 then s1.set r0 Q.1 else s1) ∧
              Blk wr r (ns [r0, r1, r2, r3]) 64 ∧ (L 24 = true → T 50 = .tuple #[.int .u32 Q.1, .int .u32 Q.2.1, .int .u32 Q.2.2.1, .int .u32 Q.2.2.2]))
            (fun _ => undef) (by kernel_rfl) (by kernel_rfl) 78 rfl (by kernel_rfl) ?g0 ?hops ?hend
          case g0 => exact ⟨inv2.d1, hb2.d1, fun h => by simp at h⟩
          case hops =>
            simp only [AllFrom]
            refine ⟨?_, ?_, ?_, ?_, ?_, ?_, ?_, ?_, ?_, ?_, ?_, ?_, ?_, ?_, ?_, ?_, ?_, ?_, ?_, ?_, ?_, ?_, ?_, ?_, ?_, ?_, ?_, ?_, ?_, ?_, ?_, ?_, ?_, ?_, ?_, ?_, ?_, ?_, trivial⟩
            · (intro L T w hpre hpost hG; skip; first | exact .inl ⟨rfl, rfl⟩ | (refine .inl ⟨rfl, ?_⟩; simp only [execOp]; go_simp; (try go_ints); (try go_simp); (try rw [if_pos (by omega)]); (first | done | rfl)))
            · (intro L T w hpre hpost hG; (have c := hG.2.1.at_ 0 (ns_get [r0, r1, r2, r3] 0 (by simp))); first | exact .inl ⟨rfl, rfl⟩ | (refine .inl ⟨rfl, ?_⟩; simp only [execOp]; go_simp; (try go_ints); (try go_simp); (try rw [if_pos (by omega)]); (first | done | rfl)))
            · (intro L T w hpre hpost hG; skip; first | exact .inl ⟨rfl, rfl⟩ | (refine .inl ⟨rfl, ?_⟩; simp only [execOp]; go_simp; (try go_ints); (try go_simp); (try rw [if_pos (by omega)]); (first | done | rfl)))
            · (intro L T w hpre hpost hG; (have c := hG.2.1.at_ 1 (ns_get [r0, r1, r2, r3] 1 (by simp))); first | exact .inl ⟨rfl, rfl⟩ | (refine .inl ⟨rfl, ?_⟩; simp only [execOp]; go_simp; (try go_ints); (try go_simp); (try rw [if_pos (by omega)]); (first | done | rfl)))
            · (intro L T w hpre hpost hG; skip; first | exact .inl ⟨rfl, rfl⟩ | (refine .inl ⟨rfl, ?_⟩; simp only [execOp]; go_simp; (try go_ints); (try go_simp); (try rw [if_pos (by omega)]); (first | done | rfl)))
            · (intro L T w hpre hpost hG; (have c := hG.2.1.at_ 2 (ns_get [r0, r1, r2, r3] 2 (by simp))); first | exact .inl ⟨rfl, rfl⟩ | (refine .inl ⟨rfl, ?_⟩; simp only [execOp]; go_simp; (try go_ints); (try go_simp); (try rw [if_pos (by omega)]); (first | done | rfl)))
            · (intro L T w hpre hpost hG; skip; first | exact .inl ⟨rfl, rfl⟩ | (refine .inl ⟨rfl, ?_⟩; simp only [execOp]; go_simp; (try go_ints); (try go_simp); (try rw [if_pos (by omega)]); (first | done | rfl)))
            · (intro L T w hpre hpost hG; (have c := hG.2.1.at_ 3 (ns_get [r0, r1, r2, r3] 3 (by simp))); first | exact .inl ⟨rfl, rfl⟩ | (refine .inl ⟨rfl, ?_⟩; simp only [execOp]; go_simp; (try go_ints); (try go_simp); (try rw [if_pos (by omega)]); (first | done | rfl)))
            · (intro L T w hpre hpost hG; skip; first | exact .inl ⟨rfl, rfl⟩ | (refine .inl ⟨rfl, ?_⟩; simp only [execOp]; go_simp; (try go_ints); (try go_simp); (try rw [if_pos (by omega)]); (first | done | rfl)))
            · (intro L T w hpre hpost hG; (have c := hG.2.1.at_ 0 (ns_get [r0, r1, r2, r3] 0 (by simp))); first | exact .inl ⟨rfl, rfl⟩ | (refine .inl ⟨rfl, ?_⟩; simp only [execOp]; go_simp; (try go_ints); (try go_simp); (try rw [if_pos (by omega)]); (first | done | rfl)))
            · (intro L T w hpre hpost hG; skip; first | exact .inl ⟨rfl, rfl⟩ | (refine .inl ⟨rfl, ?_⟩; simp only [execOp]; go_simp; (try go_ints); (try go_simp); (try rw [if_pos (by omega)]); (first | done | rfl)))
            · (intro L T w hpre hpost hG; (simp only [hpost 31 _ rfl rfl, hpost 33 _ rfl rfl, hpost 35 _ rfl rfl, hpost 37 _ rfl rfl, Bool.false_eq_true, if_false] at hG; have c := hG.1.s.at_ r0 (us_get _ _ (by rw [HL1.out]; omega))); first | exact .inl ⟨rfl, rfl⟩ | (refine .inl ⟨rfl, ?_⟩; simp only [execOp]; go_simp; (try go_ints); (try go_simp); (try rw [if_pos (by omega)]); (first | done | rfl)))
            · (intro L T w hpre hpost hG; skip; first | exact .inl ⟨rfl, rfl⟩ | (refine .inl ⟨rfl, ?_⟩; simp only [execOp]; go_simp; (try go_ints); (try go_simp); (try rw [if_pos (by omega)]); (first | done | rfl)))
            · (intro L T w hpre hpost hG; (have c := hG.2.1.at_ 1 (ns_get [r0, r1, r2, r3] 1 (by simp))); first | exact .inl ⟨rfl, rfl⟩ | (refine .inl ⟨rfl, ?_⟩; simp only [execOp]; go_simp; (try go_ints); (try go_simp); (try rw [if_pos (by omega)]); (first | done | rfl)))
            · (intro L T w hpre hpost hG; skip; first | exact .inl ⟨rfl, rfl⟩ | (refine .inl ⟨rfl, ?_⟩; simp only [execOp]; go_simp; (try go_ints); (try go_simp); (try rw [if_pos (by omega)]); (first | done | rfl)))
            · (intro L T w hpre hpost hG; (simp only [hpost 31 _ rfl rfl, hpost 33 _ rfl rfl, hpost 35 _ rfl rfl, hpost 37 _ rfl rfl, Bool.false_eq_true, if_false] at hG; have c := hG.1.s.at_ r1 (us_get _ _ (by rw [HL1.out]; omega))); first | exact .inl ⟨rfl, rfl⟩ | (refine .inl ⟨rfl, ?_⟩; simp only [execOp]; go_simp; (try go_ints); (try go_simp); (try rw [if_pos (by omega)]); (first | done | rfl)))
            · (intro L T w hpre hpost hG; skip; first | exact .inl ⟨rfl, rfl⟩ | (refine .inl ⟨rfl, ?_⟩; simp only [execOp]; go_simp; (try go_ints); (try go_simp); (try rw [if_pos (by omega)]); (first | done | rfl)))
            · (intro L T w hpre hpost hG; (have c := hG.2.1.at_ 2 (ns_get [r0, r1, r2, r3] 2 (by simp))); first | exact .inl ⟨rfl, rfl⟩ | (refine .inl ⟨rfl, ?_⟩; simp only [execOp]; go_simp; (try go_ints); (try go_simp); (try rw [if_pos (by omega)]); (first | done | rfl)))
            · (intro L T w hpre hpost hG; skip; first | exact .inl ⟨rfl, rfl⟩ | (refine .inl ⟨rfl, ?_⟩; simp only [execOp]; go_simp; (try go_ints); (try go_simp); (try rw [if_pos (by omega)]); (first | done | rfl)))
            · (intro L T w hpre hpost hG; (simp only [hpost 31 _ rfl rfl, hpost 33 _ rfl rfl, hpost 35 _ rfl rfl, hpost 37 _ rfl rfl, Bool.false_eq_true, if_false] at hG; have c := hG.1.s.at_ r2 (us_get _ _ (by rw [HL1.out]; omega))); first | exact .inl ⟨rfl, rfl⟩ | (refine .inl ⟨rfl, ?_⟩; simp only [execOp]; go_simp; (try go_ints); (try go_simp); (try rw [if_pos (by omega)]); (first | done | rfl)))
            · (intro L T w hpre hpost hG; skip; first | exact .inl ⟨rfl, rfl⟩ | (refine .inl ⟨rfl, ?_⟩; simp only [execOp]; go_simp; (try go_ints); (try go_simp); (try rw [if_pos (by omega)]); (first | done | rfl)))
            · (intro L T w hpre hpost hG; (have c := hG.2.1.at_ 3 (ns_get [r0, r1, r2, r3] 3 (by simp))); first | exact .inl ⟨rfl, rfl⟩ | (refine .inl ⟨rfl, ?_⟩; simp only [execOp]; go_simp; (try go_ints); (try go_simp); (try rw [if_pos (by omega)]); (first | done | rfl)))
            · (intro L T w hpre hpost hG; skip; first | exact .inl ⟨rfl, rfl⟩ | (refine .inl ⟨rfl, ?_⟩; simp only [execOp]; go_simp; (try go_ints); (try go_simp); (try rw [if_pos (by omega)]); (first | done | rfl)))
            · (intro L T w hpre hpost hG; (simp only [hpost 31 _ rfl rfl, hpost 33 _ rfl rfl, hpost 35 _ rfl rfl, hpost 37 _ rfl rfl, Bool.false_eq_true, if_false] at hG; have c := hG.1.s.at_ r3 (us_get _ _ (by rw [HL1.out]; omega))); first | exact .inl ⟨rfl, rfl⟩ | (refine .inl ⟨rfl, ?_⟩; simp only [execOp]; go_simp; (try go_ints); (try go_simp); (try rw [if_pos (by omega)]); (first | done | rfl)))
            · intro L T w hL hpre hpost hG
              obtain ⟨h1, h2, h3⟩ := hG
              refine .inl ⟨rfl, fun a K hK => ?_⟩
              simp only [execOp]
              go_simp
              refine (quarter_any _ _ _ _ _).mono ?_
              rintro e w' ⟨rfl, rfl⟩
              refine hK _ _ ⟨by simpa using h1, h2, fun _ => by rw [HQ.out ()]; simp⟩
            · (intro L T w hpre hpost hG; (have c := hG.2.2 (hpre 24 rfl rfl)); first | exact .inl ⟨rfl, rfl⟩ | (refine .inl ⟨rfl, ?_⟩; simp only [execOp]; go_simp; (try go_ints); (try go_simp); (try rw [if_pos (by omega)]); (first | done | rfl)))
            · (intro L T w hpre hpost hG; skip; first | exact .inl ⟨rfl, rfl⟩ | (refine .inl ⟨rfl, ?_⟩; simp only [execOp]; go_simp; (try go_ints); (try go_simp); (try rw [if_pos (by omega)]); (first | done | rfl)))
            · (intro L T w hpre hpost hG; skip; first | exact .inl ⟨rfl, rfl⟩ | (refine .inl ⟨rfl, ?_⟩; simp only [execOp]; go_simp; (try go_ints); (try go_simp); (try rw [if_pos (by omega)]); (first | done | rfl)))
            · (intro L T w hpre hpost hG; skip; first | exact .inl ⟨rfl, rfl⟩ | (refine .inl ⟨rfl, ?_⟩; simp only [execOp]; go_simp; (try go_ints); (try go_simp); (try rw [if_pos (by omega)]); (first | done | rfl)))
            · (intro L T w hpre hpost hG; skip; first | exact .inl ⟨rfl, rfl⟩ | (refine .inl ⟨rfl, ?_⟩; simp only [execOp]; go_simp; (try go_ints); (try go_simp); (try rw [if_pos (by omega)]); (first | done | rfl)))
            · (intro L T w hpre hpost hG; skip; first | exact .inl ⟨rfl, rfl⟩ | (refine .inl ⟨rfl, ?_⟩; simp only [execOp]; go_simp; (try go_ints); (try go_simp); (try rw [if_pos (by omega)]); (first | done | rfl)))
            · intro L T w hL hpre hpost hG
              obtain ⟨h1, h2, h3⟩ := hG
              have l31 : L 31 = false := hL
              have l33 : L 33 = false := hpost 33 _ rfl rfl
              have l35 : L 35 = false := hpost 35 _ rfl rfl
              have l37 : L 37 = false := hpost 37 _ rfl rfl
              simp only [l31, l33, l35, l37, Bool.false_eq_true, if_false] at h1
              have c := h1.s.at_ r0 (us_get _ _ (by rw [HL1.out]; omega))
              have c1 := h1.s.free r0
              refine .inl ⟨rfl, fun a K hK => ?_⟩
              simp only [execOp]
              go_simp
              refine hK undef _ ⟨?_, h2.other (by simp; omega) _, by simpa using h3⟩
              simp only [l31, l33, l35, l37]
              exact h1.put r0 Q.1
            · (intro L T w hpre hpost hG; skip; first | exact .inl ⟨rfl, rfl⟩ | (refine .inl ⟨rfl, ?_⟩; simp only [execOp]; go_simp; (try go_ints); (try go_simp); (try rw [if_pos (by omega)]); (first | done | rfl)))
            · intro L T w hL hpre hpost hG
              obtain ⟨h1, h2, h3⟩ := hG
              have l31 : L 31 = true := hpre 31 rfl rfl
              have l33 : L 33 = false := hL
              have l35 : L 35 = false := hpost 35 _ rfl rfl
              have l37 : L 37 = false := hpost 37 _ rfl rfl
              simp only [l31, l33, l35, l37, Bool.false_eq_true, if_false, if_true] at h1
              have c := h1.s.at_ r1 (us_get _ _ (by simp only [List.length_set]; rw [HL1.out]; omega))
              have c1 := h1.s.free r1
              refine .inl ⟨rfl, fun a K hK => ?_⟩
              simp only [execOp]
              go_simp
              refine hK undef _ ⟨?_, h2.other (by simp; omega) _, by simpa using h3⟩
              simp only [l31, l33, l35, l37]
              exact h1.put r1 Q.2.1
            · (intro L T w hpre hpost hG; skip; first | exact .inl ⟨rfl, rfl⟩ | (refine .inl ⟨rfl, ?_⟩; simp only [execOp]; go_simp; (try go_ints); (try go_simp); (try rw [if_pos (by omega)]); (first | done | rfl)))
            · intro L T w hL hpre hpost hG
              obtain ⟨h1, h2, h3⟩ := hG
              have l31 : L 31 = true := hpre 31 rfl rfl
              have l33 : L 33 = true := hpre 33 rfl rfl
              have l35 : L 35 = false := hL
              have l37 : L 37 = false := hpost 37 _ rfl rfl
              simp only [l33, l35, l37, Bool.false_eq_true, if_false, if_true] at h1
              have c := h1.s.at_ r2 (us_get _ _ (by simp only [List.length_set]; rw [HL1.out]; omega))
              have c1 := h1.s.free r2
              refine .inl ⟨rfl, fun a K hK => ?_⟩
              simp only [execOp]
              go_simp
              refine hK undef _ ⟨?_, h2.other (by simp; omega) _, by simpa using h3⟩
              simp only [l31, l33, l35, l37]
              exact h1.put r2 Q.2.2.1
            · (intro L T w hpre hpost hG; skip; first | exact .inl ⟨rfl, rfl⟩ | (refine .inl ⟨rfl, ?_⟩; simp only [execOp]; go_simp; (try go_ints); (try go_simp); (try rw [if_pos (by omega)]); (first | done | rfl)))
            · intro L T w hL hpre hpost hG
              obtain ⟨h1, h2, h3⟩ := hG
              have l31 : L 31 = true := hpre 31 rfl rfl
              have l33 : L 33 = true := hpre 33 rfl rfl
              have l35 : L 35 = true := hpre 35 rfl rfl
              have l37 : L 37 = false := hL
              simp only [l35, l37, Bool.false_eq_true, if_false, if_true] at h1
              have c := h1.s.at_ r3 (us_get _ _ (by simp only [List.length_set]; rw [HL1.out]; omega))
              have c1 := h1.s.free r3
              refine .inl ⟨rfl, fun a K hK => ?_⟩
              simp only [execOp]
              go_simp
              refine hK undef _ ⟨?_, h2.other (by simp; omega) _, by simpa using h3⟩
              simp only [l31, l33, l35, l37]
              exact h1.put r3 Q.2.2.2
          case hend =>
            intro L T w hall hG
            obtain ⟨h1, h2, h3⟩ := hG
            rw [if_pos (hall 37 (by decide) rfl)] at h1
            simp only [fillT, fillP, List.foldl_cons, List.foldl_nil, Act.put]
            go_wp2_with fail
            refine ⟨⟨k + 1, by omega, by go_num, ?_⟩, by simp [intOf]; omega⟩
            rw [HX.out (), HS1.out (), qr, ← HQ.out ()]
            exact h1
        · obtain rfl : k = 8 := by omega
          go_wp2_with fail
          go_roundw
          case rel => exact ⟨j + 1, by omega, by go_num, inv⟩
          case measure => simp [intOf]; omega
    · obtain rfl : j = 10 := by omega
      simp only [Int.cast_ofNat_Int]
      have hl := rounds_len s0 10
      rw [HL.out] at hl
      obtain ⟨sr, hsr⟩ : ∃ sr, rounds s0 10 = sr := ⟨_, rfl⟩
      rw [hsr] at inv hl
      have HR := Lib.hid hl
      have HSR := Lib.hid (fun _ : Unit => hsr)
      clear hl hsr
      go_upto_region 12 with fail
      have inv1 := inv.al (.cells (bs (List.replicate 64 0)).toArray 27)
      have hbo : Blk (wr.alloc (.cells (bs (List.replicate 64 0)).toArray 27)) wr.heap.size (bs (List.replicate 64 0)) 27 := Blk.mk_ _ rfl rfl
      have ho := inv.s.lt
      change Code.wp _ _ _ _ (wr.alloc (.cells (bs (List.replicate 64 0)).toArray 27))
      generalize wr.alloc (.cells (bs (List.replicate 64 0)).toArray 27) = w2 at *
      clear inv
      generalize wr.heap.size = o at *
      go_wp2_with (refine wp_load_blk rfl 62 (.tmp 8) rfl rfl inv1.s Tryd.underlying62 rfl (n := 16) (by kernel_rfl) (by rw [us_len, HR.out]) ?_)
      go_loopw [62] (fun i wr => ∃ k : Nat, k ≤ 16 ∧ i = .int .i64 k ∧ CInv B g w wr key nonce s0 sr ∧ Blk wr o (bs (outK sr s0 k ++ List.replicate (64 - 4 * k) 0)) 27) (fun i _ => 16 - (intOf i).toNat)
      case atStart => exact ⟨0, by omega, rfl, inv1, hbo⟩
      case round =>
        obtain ⟨k, hk, rfl, inv, hbo⟩ := hrel
        by_cases hlk : k < 16
        · have hix := run_index_us (P := Tryd.prog) (w := wr) (k := .i64) Tryd.underlying62 Tryd.underlying23 (by kernel_rfl) (us sr).toArray k hlk (v := .int .u32 (sr.getD k 0)) (by simpa using us_get sr k (by rw [HR.out]; omega))
          go_upto_region 15 with fail
          clear hix
          refine region_draws [(66, ?v66), (67, ?v67), (68, .slice (some ⟨o, 4 * k, none⟩) (64 - 4 * k) (64 - 4 * k)), (69, ?v69), (70, ?v70), (71, ?v71), (72, ?v72), (73, .int .u32 ((sr.getD k 0 + s0.getD k 0) % 4294967296))] [74, 75]
            (fun L T wr => CInv B g w wr key nonce s0 sr ∧ Blk wr o (bs (if L 9 then outK sr s0 (k + 1) ++ List.replicate (64 - 4 * (k + 1)) 0 else outK sr s0 k ++ List.replicate (64 - 4 * k) 0)) 27 ∧
              (L 8 = true → L 9 = false → Rd wr (T 74) (bs (lowN ((sr.getD k 0 + s0.getD k 0) % 4294967296) 4))))
            (fun _ => undef) (by kernel_rfl) (by kernel_rfl) 78 rfl (by kernel_rfl) ?g0 ?hops ?hend
          case g0 => exact ⟨inv.d1, hbo.d1, fun h => by simp at h⟩
          case hops =>
            simp only [AllFrom]
            refine ⟨?_, ?_, ?_, ?_, ?_, ?_, ?_, ?_, ?_, ?_, trivial⟩
            · (intro L T w hpre hpost hG; skip; first | exact .inl ⟨rfl, rfl⟩ | (refine .inl ⟨rfl, ?_⟩; simp only [execOp]; go_simp; (try go_ints); (try go_simp); (try rw [if_pos (by omega)]); (first | done | rfl)))
            · (intro L T w hpre hpost hG; skip; first | exact .inl ⟨rfl, rfl⟩ | (refine .inl ⟨rfl, ?_⟩; simp only [execOp]; go_simp; (try go_ints); (try go_simp); (try rw [if_pos (by omega)]); (first | done | rfl)))
            · (intro L T w hpre hpost hG; (have c := slice_out w o k hlk); first | exact .inl ⟨rfl, rfl⟩ | (refine .inl ⟨rfl, ?_⟩; simp only [execOp]; go_simp; (try go_ints); (try go_simp); (try rw [if_pos (by omega)]); (first | done | rfl)))
            · (intro L T w hpre hpost hG; skip; first | exact .inl ⟨rfl, rfl⟩ | (refine .inl ⟨rfl, ?_⟩; simp only [execOp]; go_simp; (try go_ints); (try go_simp); (try rw [if_pos (by omega)]); (first | done | rfl)))
            · (intro L T w hpre hpost hG; skip; first | exact .inl ⟨rfl, rfl⟩ | (refine .inl ⟨rfl, ?_⟩; simp only [execOp]; go_simp; (try go_ints); (try go_simp); (try rw [if_pos (by omega)]); (first | done | rfl)))
            · (intro L T w hpre hpost hG; skip; first | exact .inl ⟨rfl, rfl⟩ | (refine .inl ⟨rfl, ?_⟩; simp only [execOp]; go_simp; (try go_ints); (try go_simp); (try rw [if_pos (by omega)]); (first | done | rfl)))
            · (intro L T w hpre hpost hG; (have c := hG.1.s0.at_ k (us_get _ _ (by rw [HL.out]; omega))); first | exact .inl ⟨rfl, rfl⟩ | (refine .inl ⟨rfl, ?_⟩; simp only [execOp]; go_simp; (try go_ints); (try go_simp); (try rw [if_pos (by omega)]); (first | done | rfl)))
            · (intro L T w hpre hpost hG; skip; first | exact .inl ⟨rfl, rfl⟩ | (refine .inl ⟨rfl, ?_⟩; simp only [execOp]; go_simp; (try go_ints); (try go_simp); (try rw [if_pos (by omega)]); (first | done | rfl)))
            · intro L T w hL hpre hpost hG
              obtain ⟨h1, h2, h3⟩ := hG
              have l9 : L 9 = false := hpost 9 _ rfl rfl
              refine .inl ⟨rfl, fun a K hK => ?_⟩
              simp only [execOp]
              go_simp
              refine (putLe32_any _ [] _ _ (Rd.nil _) (by simp) (by omega)).mono ?_
              rintro e w' ⟨v, rfl, hb, hw⟩
              refine hK _ _ ⟨h1.stay hb, by simpa using h2.stay hb, fun _ _ => by simpa using Rd.of_own hw⟩
            · intro L T w hL hpre hpost hG
              obtain ⟨h1, h2, h3⟩ := hG
              have l9 : L 9 = false := hL
              simp only [l9, Bool.false_eq_true, if_false] at h2
              refine .inl ⟨rfl, fun a K hK => ?_⟩
              refine upon_copy (.tmp 68) (.tmp 74) 30 30 rfl 5 Tryd.underlying30 (by kernel_rfl) rfl rfl (h3 (hpre 8 rfl rfl) l9) (by rw [bs_len, lowN_len]; omega) (by rw [bs_len, lowN_len]; omega) h2 (by rw [bs_len, bs_len, lowN_len, List.length_append, outK_len, List.length_replicate]; omega) (bs_one _) ?_
              intro w' hb ho'
              refine hK _ _ ⟨h1.only ho' ho, ?_, fun _ h => by simp at h⟩
              rw [if_pos (by simp), outK, show 64 - 4 * (k + 1) = 64 - 4 * k - 4 from by omega]
              rw [bs_len, lowN_len, splice_zero _ _ _ _ 4 (outK_len _ _ _) (lowN_len _ _)] at hb
              exact hb
          case hend =>
            intro L T w hall hG
            obtain ⟨h1, h2, h3⟩ := hG
            rw [if_pos (hall 9 (by decide) rfl)] at h2
            simp only [fillT, fillP, List.foldl_cons, List.foldl_nil, Act.put]
            go_wp2_with fail
            refine ⟨⟨k + 1, by omega, by go_num, h1, h2⟩, by simp [intOf]; omega⟩
        · obtain rfl : k = 16 := by omega
          go_wp2_with (first
            | (refine wp_load_blk rfl 27 (.tmp 11) rfl rfl hbo Tryd.underlying27 rfl (n := 64) (by kernel_rfl) (by rw [bs_len, List.length_append, outK_len, List.length_replicate]) ?_)
            | (refine wp_store_blk rfl 27 (.tmp 6) (.tmp 77) rfl rfl rfl inv.o (bs_one _) (by rw [bs_len, bs_len, List.length_append, outK_len, List.length_replicate, List.length_replicate]) (n := 64) (by kernel_rfl) (by rw [bs_len, List.length_append, outK_len, List.length_replicate]) ?_; intro w' hb ho'))
          refine ret_blk rfl rfl hb Tryd.underlying27 rfl (n := 64) (by kernel_rfl) (by rw [bs_len, List.length_append, outK_len, List.length_replicate]) rfl ?_
          rw [hB]
          refine ⟨?_, ho'.below inv.b (by omega)⟩
          rw [show block key c nonce = outK sr s0 16 from by rw [block, ← HF.out (), HS.out (), HSR.out ()]]
          simp
end Go.Proofs.YtmjjnaaiakchhaaDoor
