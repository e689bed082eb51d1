/-
  intaglioref02.begin: a block's numbers at first.
-/
import Derived.Test.YtmjjnaaiakchhaaDoorFirst
import Derived.Test.YtmjjnaaiakchhaaDoorFlow
import Derived.Deep.DeepCutAuto
namespace Go.Proofs.YtmjjnaaiakchhaaDoor
open Go.RowKit

/-- The cells of 'At'. -/
def atV (key : List Int) (c : Int) (nonce : List Int) : List Value := bs key ++ (.int .u32 c :: bs nonce)
theorem atV_len (key : List Int) (c : Int) (nonce : List Int) : (atV key c nonce).length = key.length + 1 + nonce.length := by simp [atV, bs]; omega
theorem atV_key (key : List Int) (c : Int) (nonce : List Int) (i : Nat) (h : i < key.length) : (atV key c nonce)[i]? = some (.int .u8 (key.getD i 0)) := by
  rw [atV, List.getElem?_append_left (by simpa [bs] using h)]; simp [bs, List.getD_eq_getElem?_getD, h]
theorem atV_c (key : List Int) (c : Int) (nonce : List Int) (hk : key.length = 32) : (atV key c nonce)[32]? = some (.int .u32 c) := by
  rw [atV, List.getElem?_append_right (by simp [bs, hk])]; simp [bs, hk]
theorem atV_nonce (key : List Int) (c : Int) (nonce : List Int) (hk : key.length = 32) (i : Nat) (h : i < nonce.length) : (atV key c nonce)[33 + i]? = some (.int .u8 (nonce.getD i 0)) := by
  rw [atV, List.getElem?_append_right (by simp [bs, hk]; omega)]
  have : 33 + i - (bs key).length = i + 1 := by simp [bs, hk]; omega
  rw [this, List.getElem?_cons_succ]; simp [bs, List.getD_eq_getElem?_getD, h]

def plusK (xs : List Int) (at_ k : Nat) (s : List Int) : List Int :=
  s.set (at_ + k / 4) ((s.getD (at_ + k / 4) 0 + xs.getD k 0 % 4294967296 * 2 ^ (8 * (k % 4))) % 4294967296)
def beginK (key : List Int) : Nat → List Int
  | 0 => [1634760805, 857760878, 2036477234, 1797285236, 0, 0, 0, 0, 0, 0, 0, 0, 0, 0, 0, 0]
  | k + 1 => plusK key 4 k (beginK key k)
def beginN (key : List Int) (c : Int) (nonce : List Int) : Nat → List Int
  | 0 => (beginK key 32).set 12 c
  | k + 1 => plusK nonce 13 k (beginN key c nonce k)
theorem plusK_len (xs : List Int) (a k : Nat) (s : List Int) : (plusK xs a k s).length = s.length := by simp [plusK]
theorem beginK_len (key : List Int) (n : Nat) : (beginK key n).length = 16 := by induction n with | zero => rfl | succ n ih => simp [beginK, plusK_len, ih]
theorem beginN_len (key : List Int) (c : Int) (nonce : List Int) (n : Nat) : (beginN key c nonce n).length = 16 := by induction n with | zero => simp [beginN, beginK_len] | succ n ih => simp [beginN, plusK_len, ih]

structure BeginInv (B : Nat) (w wr : World) (xs : List Value) (s : List Int) : Prop where
  x : Blk wr B xs 26
  o : Blk wr (B + 1) (us z16) 62
  s : Blk wr (B + 1 + 1) (us s) 62
  b : Below B w wr
theorem BeginInv.put {B : Nat} {w wr : World} {xs : List Value} {s : List Int} (h : BeginInv B w wr xs s) (i : Nat) (x : Int) : BeginInv B w (wr.setCell ⟨B + 1 + 1, i, none⟩ (.int .u32 x)) xs (s.set i x) :=
  ⟨h.x.other (by simp; omega) _, h.o.other (by simp) _, by rw [← us_set]; exact h.s.set i _, bw_set h.b _ _ (by omega) _⟩
theorem BeginInv.d1 {B : Nat} {w wr : World} {xs : List Value} {s : List Int} (h : BeginInv B w wr xs s) : BeginInv B w wr.drew xs s := ⟨h.x, h.o, h.s, bw_d1 h.b⟩

set_option maxHeartbeats 1000000 in
set_option maxRecDepth 8000 in
theorem begin_any (key nonce : List Int) (c : Int) (w : World) (hk : key.length = 32) (hn : nonce.length = 12) (_hkb : IsB key) (_hnb : IsB nonce) :
    Calls Tryd.prog 37 #[.agg (atV key c nonce).toArray] w fun e w' => e = .returned (.agg (us (beginN key c nonce 12)).toArray) ∧ Below w.heap.size w w' := by
  have HK := Lib.hid hk
  have HN := Lib.hid hn
  clear hk hn
  obtain ⟨B, hB⟩ : ∃ B, w.heap.size = B := ⟨_, rfl⟩
  go_enter Tryd.func37, Tryd.ntmps37
  go_wp2_with fail
  change Code.wp _ _ _ _ (((w.alloc (.cells (atV key c nonce).toArray 26)).alloc (.cells (us z16).toArray 62)).alloc (.cells (us (beginK key 0)).toArray 62))
  have inv0 : BeginInv B w (((w.alloc (.cells (atV key c nonce).toArray 26)).alloc (.cells (us z16).toArray 62)).alloc (.cells (us (beginK key 0)).toArray 62)) (atV key c nonce) (beginK key 0) :=
    ⟨((Blk.mk_ _ hB.symm rfl).al _).al _, (Blk.mk_ _ (by simp [hB]) rfl).al _, Blk.mk_ _ (by simp [hB]) rfl, bw_al (bw_al (bw_al (Below.refl _ _) (by omega) _) (by simp; omega) _) (by simp; omega) _⟩
  generalize (((w.alloc (.cells (atV key c nonce).toArray 26)).alloc (.cells (us z16).toArray 62)).alloc (.cells (us (beginK key 0)).toArray 62)) = w1 at *
  go_loopw [4] (fun i wr => ∃ k : Nat, k ≤ 32 ∧ i = .int .i64 k ∧ BeginInv B w wr (atV key c nonce) (beginK key k)) (fun i _ => 32 - (intOf i).toNat)
  case atStart => exact ⟨0, by omega, rfl, inv0⟩
  case round =>
    obtain ⟨k, hk32, rfl, inv⟩ := hrel
    by_cases hlt : k < 32
    · obtain ⟨d, hd⟩ : ∃ d, k / 4 = d := ⟨_, rfl⟩
      obtain ⟨m, hm⟩ : ∃ m, k % 4 = m := ⟨_, rfl⟩
      have e1 : (k : Int) / 4 = (d : Int) := by omega
      have e2 : (k : Int) % 4 = (m : Int) := by omega
      have e3 : d < 8 := by omega
      have e4 : m < 4 := by omega
      have HD := Lib.hid hd
      have HM := Lib.hid hm
      clear hd hm
      go_upto_region 9 with fail
      refine region_draws [(14, ?v14), (15, ?v15), (16, ?v16), (17, ?v17), (18, ?v18), (19, ?v19), (20, ?v20), (21, ?v21), (22, ?v22), (23, ?v23), (24, ?v24), (25, ?v25), (26, ?v26), (27, ?v27), (28, ?v28), (29, ?v29), (30, ?v30), (31, ?v31), (32, ?v32)] []
        (fun L T wr => BeginInv B w wr (atV key c nonce) (if L 19 = true then beginK key (k + 1) else beginK key k))
        (fun _ => undef) (by kernel_rfl) (by kernel_rfl) 60 rfl (by kernel_rfl) ?g0 ?hops ?hend
      case g0 => exact inv.d1
      case hops =>
        simp only [AllFrom]
        refine ⟨?_, ?_, ?_, ?_, ?_, ?_, ?_, ?_, ?_, ?_, ?_, ?_, ?_, ?_, ?_, ?_, ?_, ?_, ?_, ?_,  trivial⟩
        iterate 7 (· (intro L T w hpre hpost hG; skip; first | exact .inl ⟨rfl, rfl⟩ | (refine .inl ⟨rfl, ?_⟩; simp only [execOp]; go_simp; (try go_ints); (try go_simp); (try rw [if_pos (by omega)]); (first | done | rfl))))
        · (intro L T w hpre hpost hG; (rw [if_neg (by simp [hpost 19 _ rfl rfl])] at hG; have c := hG.s.at_ (4 + d) (us_get _ _ (by rw [beginK_len]; omega))); first | exact .inl ⟨rfl, rfl⟩ | (refine .inl ⟨rfl, ?_⟩; simp only [execOp]; go_simp; (try go_ints); (try go_simp); (try rw [if_pos (by omega)]); (first | done | rfl)))
        iterate 3 (· (intro L T w hpre hpost hG; skip; first | exact .inl ⟨rfl, rfl⟩ | (refine .inl ⟨rfl, ?_⟩; simp only [execOp]; go_simp; (try go_ints); (try go_simp); (try rw [if_pos (by omega)]); (first | done | rfl))))
        · (intro L T w hpre hpost hG; (have c := (show BeginInv B _ w _ (if L 19 = true then _ else _) from hG).x.at_ k (atV_key key c nonce k (by rw [HK.out]; omega))); first | exact .inl ⟨rfl, rfl⟩ | (refine .inl ⟨rfl, ?_⟩; simp only [execOp]; go_simp; (try go_ints); (try go_simp); (try rw [if_pos (by omega)]); (first | done | rfl)))
        iterate 7 (· (intro L T w hpre hpost hG; skip; first | exact .inl ⟨rfl, rfl⟩ | (refine .inl ⟨rfl, ?_⟩; simp only [execOp]; go_simp; (try go_ints); (try go_simp); (try rw [if_pos (by omega)]); (first | done | rfl))))
        · intro L T w hL hpre hpost hG
          rw [if_neg (by simp [hL])] at hG
          have c5 := hG.s.at_ (4 + d) (us_get _ _ (by rw [beginK_len]; omega))
          have c1 := hG.s.free (4 + d)
          refine .inl ⟨rfl, fun a K hK => ?_⟩
          simp only [execOp]
          go_simp
          refine hK undef _ (show BeginInv B _ _ _ (if (L 19 || (19 == 19)) = true then beginK key (k + 1) else beginK key k) from ?_)
          rw [if_pos (by simp), show beginK key (k + 1) = plusK key 4 k (beginK key k) from rfl, plusK, HD.out, HM.out]
          exact hG.put (4 + d) _
      case hend =>
        intro L T w hall hG
        rw [if_pos (hall 19 (by decide) rfl)] at hG
        simp only [fillT, fillP, List.foldl_cons, List.foldl_nil, Act.put]
        go_wp2_with fail
        exact ⟨⟨k + 1, by omega, by go_num, hG⟩, by simp [intOf]; omega⟩
    · obtain rfl : k = 32 := by omega
      simp only [Int.cast_ofNat_Int]
      have c0 := inv.x.at_ 32 (atV_c key c nonce HK.out)
      have c1 := inv.s.at_ 12 (us_get _ _ (by rw [beginK_len]; omega))
      have c2 := inv.s.free 12
      have inv1 : BeginInv B w _ (atV key c nonce) (beginN key c nonce 0) := inv.put 12 c
      go_wp2_with fail
      clear c0 c1 c2 inv
      generalize wr.setCell ⟨B + 1 + 1, 12, none⟩ (.int .u32 c) = w1 at *
      go_loopw [5] (fun i wr => ∃ k : Nat, k ≤ 12 ∧ i = .int .i64 k ∧ BeginInv B w wr (atV key c nonce) (beginN key c nonce k)) (fun i _ => 12 - (intOf i).toNat)
      case atStart => exact ⟨0, by omega, rfl, inv1⟩
      case round =>
        obtain ⟨k, hk12, rfl, inv⟩ := hrel
        by_cases hlt : k < 12
        · obtain ⟨d, hd⟩ : ∃ d, k / 4 = d := ⟨_, rfl⟩
          obtain ⟨m, hm⟩ : ∃ m, k % 4 = m := ⟨_, rfl⟩
          have e1 : (k : Int) / 4 = (d : Int) := by omega
          have e2 : (k : Int) % 4 = (m : Int) := by omega
          have e3 : d < 3 := by omega
          have e4 : m < 4 := by omega
          have HD := Lib.hid hd
          have HM := Lib.hid hm
          clear hd hm
          go_upto_region 14 with fail
          refine region_draws [(40, ?v40), (41, ?v41), (42, ?v42), (43, ?v43), (44, ?v44), (45, ?v45), (46, ?v46), (47, ?v47), (48, ?v48), (49, ?v49), (50, ?v50), (51, ?v51), (52, ?v52), (53, ?v53), (54, ?v54), (55, ?v55), (56, ?v56), (57, ?v57), (58, ?v58)] []
            (fun L T wr => BeginInv B w wr (atV key c nonce) (if L 19 = true then beginN key c nonce (k + 1) else beginN key c nonce k))
            (fun _ => undef) (by kernel_rfl) (by kernel_rfl) 60 rfl (by kernel_rfl) ?g0 ?hops ?hend
          case g0 => exact inv.d1
          case hops =>
            simp only [AllFrom]
            refine ⟨?_, ?_, ?_, ?_, ?_, ?_, ?_, ?_, ?_, ?_, ?_, ?_, ?_, ?_, ?_, ?_, ?_, ?_, ?_, ?_,  trivial⟩
            iterate 7 (· (intro L T w hpre hpost hG; skip; first | exact .inl ⟨rfl, rfl⟩ | (refine .inl ⟨rfl, ?_⟩; simp only [execOp]; go_simp; (try go_ints); (try go_simp); (try rw [if_pos (by omega)]); (first | done | rfl))))
            · (intro L T w hpre hpost hG; (rw [if_neg (by simp [hpost 19 _ rfl rfl])] at hG; have c := hG.s.at_ (13 + d) (us_get _ _ (by rw [beginN_len]; omega))); first | exact .inl ⟨rfl, rfl⟩ | (refine .inl ⟨rfl, ?_⟩; simp only [execOp]; go_simp; (try go_ints); (try go_simp); (try rw [if_pos (by omega)]); (first | done | rfl)))
            iterate 3 (· (intro L T w hpre hpost hG; skip; first | exact .inl ⟨rfl, rfl⟩ | (refine .inl ⟨rfl, ?_⟩; simp only [execOp]; go_simp; (try go_ints); (try go_simp); (try rw [if_pos (by omega)]); (first | done | rfl))))
            · (intro L T w hpre hpost hG; (have c := (show BeginInv B _ w _ (if L 19 = true then _ else _) from hG).x.at_ (33 + k) (atV_nonce key c nonce HK.out k (by rw [HN.out]; omega))); first | exact .inl ⟨rfl, rfl⟩ | (refine .inl ⟨rfl, ?_⟩; simp only [execOp]; go_simp; (try go_ints); (try go_simp); (try rw [if_pos (by omega)]); (first | done | rfl)))
            iterate 7 (· (intro L T w hpre hpost hG; skip; first | exact .inl ⟨rfl, rfl⟩ | (refine .inl ⟨rfl, ?_⟩; simp only [execOp]; go_simp; (try go_ints); (try go_simp); (try rw [if_pos (by omega)]); (first | done | rfl))))
            · intro L T w hL hpre hpost hG
              rw [if_neg (by simp [hL])] at hG
              have c5 := hG.s.at_ (13 + d) (us_get _ _ (by rw [beginN_len]; omega))
              have c1 := hG.s.free (13 + d)
              refine .inl ⟨rfl, fun a K hK => ?_⟩
              simp only [execOp]
              go_simp
              refine hK undef _ (show BeginInv B _ _ _ (if (L 19 || (19 == 19)) = true then beginN key c nonce (k + 1) else beginN key c nonce k) from ?_)
              rw [if_pos (by simp), show beginN key c nonce (k + 1) = plusK nonce 13 k (beginN key c nonce k) from rfl, plusK, HD.out, HM.out]
              exact hG.put (13 + d) _
          case hend =>
            intro L T w hall hG
            rw [if_pos (hall 19 (by decide) rfl)] at hG
            simp only [fillT, fillP, List.foldl_cons, List.foldl_nil, Act.put]
            go_wp2_with fail
            exact ⟨⟨k + 1, by omega, by go_num, hG⟩, by simp [intOf]; omega⟩
        · obtain rfl : k = 12 := by omega
          go_wp2_with (first
            | (refine wp_load_blk rfl 62 (.tmp 3) rfl rfl inv.s Tryd.underlying62 rfl (n := 16) (by kernel_rfl) (by rw [us_len, beginN_len]) ?_)
            | (refine wp_store_blk rfl 62 (.tmp 2) (.tmp 59) rfl rfl rfl inv.o (us_one _) (by rw [us_len, us_len, beginN_len]; rfl) (n := 16) (by kernel_rfl) (by rw [us_len, beginN_len]) ?_; intro w' hb ho))
          refine ret_blk rfl rfl hb Tryd.underlying62 rfl (n := 16) (by kernel_rfl) (by rw [us_len, beginN_len]) rfl ?_
          rw [hB]
          exact ⟨rfl, ho.below inv.b (by omega)⟩
end Go.Proofs.YtmjjnaaiakchhaaDoor
