/-
  Texts of mine in one: PolyU, PolyS, PolyV, Own, Write, MacSum, New, Mark, Same, Seal, Open, ROpen, AwakeA, Els, With.
-/
import Derived.Test.YtmjjnaaiakchhaaDoorAb5
import Derived.Lib.SlBytesConst
import Derived.Deep.Slices
section
/-
  The reference's number modulo 2^130 - 5.
-/
namespace Go.Proofs.YtmjjnaaiakchhaaDoor
open Go.RowKit

def foldN (N : Int) : Int := N % p130 + 5 * (N / p130)
theorem foldN_mod (N : Int) : foldN N % pr = N % pr := by
  have h : N = p130 * (N / p130) + N % p130 := (Int.mul_ediv_add_emod N p130).symm
  have e : N - foldN N = pr * (N / p130) := by
    unfold foldN p130 pr at *
    omega
  exact (Int.emod_eq_emod_iff_emod_sub_eq_zero.2 (Int.emod_eq_zero_of_dvd ⟨N / p130, e⟩)).symm
def foldK (N : Int) : Nat → Int
  | 0 => N
  | k + 1 => foldN (foldK N k)
theorem foldK_mod (N : Int) (k : Nat) : foldK N k % pr = N % pr := by
  induction k with
  | zero => rfl
  | succ k ih => rw [foldK, foldN_mod, ih]
theorem foldK_small (N : Int) (h0 : 0 ≤ N) (h : N < big40) : 0 ≤ foldK N 8 ∧ foldK N 8 < p130 := by
  have s1 : ∀ M : Int, 0 ≤ M → M < p130 → foldN M = M := fun M h1 h2 => by
    unfold foldN
    rw [Int.emod_eq_of_lt h1 h2, Int.ediv_eq_zero_of_lt h1 h2]
    omega
  have a1 : 0 ≤ foldN N ∧ foldN N < 12554203470773361527671578846415332832204710888928069025792 := by
    unfold foldN p130 big40 at *
    omega
  have a2 : 0 ≤ foldN (foldN N) ∧ foldN (foldN N) < 1361129467683753853899615447493456723904 := by
    generalize foldN N = M at *
    unfold foldN p130 at *
    omega
  have a3 : 0 ≤ foldN (foldN (foldN N)) ∧ foldN (foldN (foldN N)) < p130 := by
    generalize foldN (foldN N) = M at *
    unfold foldN p130 at *
    omega
  have e : foldK N 8 = foldN (foldN (foldN N)) := by
    show foldN (foldN (foldN (foldN (foldN (foldN (foldN (foldN N))))))) = _
    rw [s1 (foldN (foldN (foldN N))) a3.1 a3.2, s1 _ a3.1 a3.2, s1 _ a3.1 a3.2, s1 _ a3.1 a3.2, s1 _ a3.1 a3.2]
  rw [e]
  exact a3

theorem set_take (zs : List Int) (j : Nat) (d : Int) (h : j < zs.length) : (zs.set j d).take (j + 1) = zs.take j ++ [d] := by
  have h1 := take_snoc (zs.set j d) j (by rw [List.length_set]; exact h)
  rw [h1, List.take_set_of_le (Nat.le_refl _)]
  congr 2
  simp [List.getD_eq_getElem?_getD, h]
/-- Where the subtraction stands. -/
structure SInv (w1 wr : World) (go : Nat) (xs ps zs : List Int) (j : Nat) (c : Int) : Prop where
  blk : Blk wr go (ni zs) 3
  len : zs.length = 40
  isB : IsB zs
  c01 : c = 0 ∨ c = 1
  val : leV (xs.take j) - leV (ps.take j) = leV (zs.take j) - 256 ^ j * c
  b : Below w1.heap.size w1 wr
theorem SInv.step {w1 wr w' : World} {go : Nat} {xs ps zs : List Int} {j : Nat} {c d c' : Int} (h : SInv w1 wr go xs ps zs j c) (hj : j < 40) (hx : xs.length = 40) (hp : ps.length = 40) (hd : 0 ≤ d ∧ d ≤ 255) (hc : c' = 0 ∨ c' = 1)
    (hv : xs.getD j 0 - ps.getD j 0 - c = d - 256 * c') (hb : Blk w' go (ni (zs.set j d)) 3) (hbl : Below w1.heap.size w1 w') : SInv w1 w' go xs ps (zs.set j d) (j + 1) c' := by
  refine ⟨hb, by rw [List.length_set]; exact h.len, Upto.set (m := 255) h.isB j hd, hc, ?_, hbl⟩
  have hv2 := h.val
  rw [leV_snoc xs j (by omega), leV_snoc ps j (by omega), set_take zs j d (by rw [h.len]; omega), leV_append, List.length_take, h.len, Nat.min_eq_left (by omega), Int.pow_succ]
  simp only [leV, Int.mul_zero, Int.add_zero]
  generalize leV (xs.take j) = A at *
  generalize leV (ps.take j) = B at *
  generalize leV (zs.take j) = C at *
  generalize (256 : Int) ^ j = q at *
  have e : q * xs.getD j 0 - q * ps.getD j 0 - q * c = q * d - q * 256 * c' := by
    rw [← Int.mul_sub, ← Int.mul_sub, hv, Int.mul_sub, Int.mul_assoc]
  omega

structure RInv (w wr : World) (v : Value) (xs : List Int) (N : Int) : Prop where
  num : Num wr v xs
  val : leV xs = N
  b : Below w.heap.size w wr

set_option maxRecDepth 100000 in
set_option maxHeartbeats 4000000 in
theorem rest_any (w : World) (u : Value) (xs : List Int) (hu : Num w u xs) : Calls Tryd.prog 61 #[u] w (NumRes (leV xs % pr) w) := by
  have hr := leV_range hu.isB
  rw [hu.len, big40_eq] at hr
  obtain ⟨i, hi, hz0, hz1, hz2⟩ := info_parts info3
  have HU := Lib.hid hu
  clear hu
  go_enter Tryd.func61, Tryd.ntmps61
  go_wp2_with fail
  go_loopw [0, 3] (fun v x wr => ∃ (k : Nat) (ys : List Int), k ≤ 8 ∧ x = .int .i64 k ∧ RInv w wr v ys (foldK (leV xs) k)) (fun _ x _ => 8 - (intOf x).toNat)
  case atStart => exact ⟨0, xs, by omega, rfl, HU.out, rfl, Below.refl _ _⟩
  case round =>
    obtain ⟨k, ys, hk, rfl, inv⟩ := hrel
    have HI := Lib.hid inv
    clear inv
    by_cases hlt : k < 8
    · go_wp2_with (go_at_call 71; refine (fold_any _ _ ys HI.out.num).mono ?_; rintro e w9 ⟨v9, y9, rfl, h1, h2, h3⟩)
      refine ⟨⟨k + 1, y9, by omega, by go_num, h1, ?_, bw_then HI.out.b h3 HI.out.b.size⟩, by simp [intOf]; omega⟩
      rw [h2, HI.out.val]
      rfl
    · obtain rfl : k = 8 := by omega
      have hs := foldK_small (leV xs) hr.1 hr.2
      have hmod := foldK_mod (leV xs) 8
      rw [← HI.out.val] at hs hmod
      have HS := Lib.hid (fun _ : Unit => hs)
      have HM := Lib.hid (fun _ : Unit => hmod)
      clear hs hmod hr
      go_upto_region 7 with (go_at_call 72; refine (prime_any _).mono ?_; rintro e w9 ⟨vp, yp, rfl, hp1, hp2, hp3⟩)
      have hs2 := HI.out.b.size
      have hb9 : Below w.heap.size w w9 := bw_then HI.out.b hp3 hs2
      have HN := Lib.hid (HI.out.num.stay hp3)
      have HP := Lib.hid hp1
      have HPV := Lib.hid (fun _ : Unit => hp2)
      clear hp1 hp2
      obtain ⟨M, hM⟩ : ∃ M, leV ys = M := ⟨_, rfl⟩
      have HMV := Lib.hid (fun _ : Unit => hM)
      clear hM
      go_loopw [0, 5] (fun v x wr => ∃ (k : Nat) (zs : List Int), x = .int .i64 k ∧ Num wr v zs ∧ ((k = 0 ∧ leV zs = M) ∨ (k = 1 ∧ leV zs = M - pr ∧ pr ≤ M)) ∧ Below w9.heap.size w9 wr) (fun _ x _ => 2 - (intOf x).toNat)
      case atStart => exact ⟨0, ys, rfl, HN.out, .inl ⟨rfl, HMV.out ()⟩, Below.refl _ _⟩
      case round =>
        obtain ⟨k, zs, rfl, hnum, hkv, hbl⟩ := hrel
        obtain ⟨wo, rfl⟩ : ∃ wo : World, wo = wr := ⟨_, rfl⟩
        have hk1 : k ≤ 1 := by omega
        have hk2 : (k : Int) < 2 := by omega
        have hMs := HS.out ()
        rw [HMV.out ()] at hMs
        have hMm := HM.out ()
        rw [HMV.out ()] at hMm
        have hpv : pr = 1361129467683753853853498429727072845819 := rfl
        have hp130 : p130 = 1361129467683753853853498429727072845824 := rfl
        have BL := Lib.hid (below_any wo _ _ zs yp hnum (HP.out.stay hbl))
        rw [HPV.out ()] at BL
        by_cases hlt : leV zs < pr
        · have hd : decide (leV zs < pr) = true := decide_eq_true hlt
          have hres : leV zs = leV xs % pr := by
            rw [← hMm]
            have hz := (leV_range hnum.isB).1
            rcases hkv with ⟨_, h⟩ | ⟨_, h, _⟩
            · rw [h] at hlt ⊢
              rw [Int.emod_eq_of_lt (by omega) hlt]
            · rw [h] at hlt hz ⊢
              rw [← Int.emod_eq_of_lt hz hlt]
              exact Int.sub_emod_right M pr
          have HR := Lib.hid (fun _ : Unit => hres)
          have HNZ := Lib.hid hnum
          rw [hd] at BL
          clear hres hd hlt hkv hMs hMm hpv hp130 hnum
          go_wp2_with (go_at_call 73; refine BL.out.mono ?_; rintro e wa ⟨rfl, hba⟩)
          all_goals go_ret
          exact ⟨_, zs, rfl, HNZ.out.stay hba, HR.out (), bw_then hb9 (bw_then hbl hba hbl.size) hb9.size⟩
        · have hd : decide (leV zs < pr) = false := decide_eq_false hlt
          have hk0 : k = 0 ∧ leV zs = M := by
            rcases hkv with h | ⟨_, h, _⟩
            · exact h
            · omega
          obtain ⟨rfl, hzM⟩ := hk0
          have hge : pr ≤ M := by omega
          rw [hd] at BL
          have HZM := Lib.hid (fun _ : Unit => hzM)
          have HGE := Lib.hid (fun _ : Unit => hge)
          have HNZ := Lib.hid hnum
          clear hkv hMs hMm hpv hp130 hnum hd hlt hzM hge
          go_upto_region 11 with (first
            | (go_at_call 73; refine BL.out.mono ?_; rintro e wa ⟨rfl, hba⟩)
            | (refine wpList_make_full wa rfl (.const (.int .i64 40)) (.const (.int .i64 40)) 98 rfl wa.heap.size 3 i _ 1 Tryd.underlying98 hi hz0 hz1 .i64 .i64 _ _ 40 rfl rfl rfl rfl (by rw [hz2]; decide) (by decide) (Nat.le_refl _) ?_; intro wb hown hgrow))
          have hbab : Below wa.heap.size wa wb := (Below.refl _ _).grown hgrow (Nat.le_refl _) (fun k h => by cases h)
          have hout : Blk wb wa.heap.size (ni (List.replicate 40 0)) 3 := by
            have h := blk_of_own hown
            rw [show (Value.cells (Value.int IntKind.i64 0)) = #[Value.int IntKind.i64 0] from rfl, Nat.mul_one, toList_madeCells_one] at h
            simpa [ni] using h
          obtain ⟨go, hgo⟩ : ∃ go, wa.heap.size = go := ⟨_, rfl⟩
          have hbl2 : Below w9.heap.size w9 wa := bw_then hbl hba hbl.size
          have NZ := HNZ.out.stay hba
          have NP := HP.out.stay hbl2
          obtain ⟨bu, ou, cu, hvu, hbu, hu1, hu2, hu3⟩ := NZ.rd.cells (by rw [ni_len, NZ.len]; decide)
          obtain ⟨bv, ov, cv, hvv, hbv, hv1, hv2, hv3⟩ := NP.rd.cells (by rw [ni_len, NP.len]; decide)
          rw [ni_len, NZ.len] at hvu hu1
          rw [ni_len, NP.len] at hvv hv1
          subst hvu hvv
          rw [hgo] at hout hbu hbv
          simp only [hgo]
          have HNZ2 := Lib.hid NZ
          have HNP2 := Lib.hid NP
          have HU3 := Lib.hid hu3
          have HV3 := Lib.hid hv3
          have HOUT := Lib.hid hout
          clear NZ NP hown hgrow hu3 hv3 hout hba
          go_wp2_with fail
          go_loopw [6, 8] (fun c x wr => ∃ (j : Nat) (cc : Int) (os : List Int), j ≤ 40 ∧ x = .int .i64 j ∧ c = .int .i64 cc ∧ SInv wa wr go zs yp os j cc) (fun _ x _ => 40 - (intOf x).toNat)
          case atStart => exact ⟨0, 0, _, by omega, rfl, rfl, HOUT.out, by simp, fun z hz => by obtain ⟨_, rfl⟩ := List.mem_replicate.1 hz; exact ⟨Int.le_refl _, by decide⟩, .inl rfl, by simp [leV], hbab⟩
          case round =>
            obtain ⟨j, cc, os, hj40, rfl, rfl, inv⟩ := hrel
            by_cases hjl : j < 40
            · obtain ⟨x, hx⟩ : ∃ x, zs.getD j 0 = x := ⟨_, rfl⟩
              obtain ⟨p, hp⟩ : ∃ p, yp.getD j 0 = p := ⟨_, rfl⟩
              have hxr := HNZ2.out.isB.at_ j
              have hpr := HNP2.out.isB.at_ j
              rw [hx] at hxr
              rw [hp] at hpr
              have e1 : wr.cell? ⟨bu, ou + j, none⟩ = some (.int .i64 x) := by rw [← hx]; exact HU3.out wr inv.b j _ (ni_get zs j (by rw [HNZ2.out.len]; omega))
              have e2 : wr.cell? ⟨bv, ov + j, none⟩ = some (.int .i64 p) := by rw [← hp]; exact HV3.out wr inv.b j _ (ni_get yp j (by rw [HNP2.out.len]; omega))
              obtain ⟨o, ho⟩ : ∃ o, os.getD j 0 = o := ⟨_, rfl⟩
              have e3 : wr.cell? ⟨go, j, none⟩ = some (.int .i64 o) := by rw [← ho]; exact inv.blk.at_ _ (ni_get os j (by rw [inv.len]; omega))
              have e4 := inv.blk.free j
              have hc01 := inv.c01
              have hcr : 0 ≤ cc ∧ cc ≤ 1 := by omega
              have HI2 := Lib.hid inv
              have HX := Lib.hid (fun _ : Unit => hx)
              have HPJ := Lib.hid (fun _ : Unit => hp)
              clear inv hx hp ho hc01
              go_upto_region 14 with fail
              go_quiet (fail)
              by_cases hneg : x - p - cc < 0
              · go_wp2_with fail
                go_roundw
                case rel =>
                  refine ⟨j + 1, 1, _, by omega, by go_num, rfl, SInv.step HI2.out hjl HNZ2.out.len HNP2.out.len (d := x - p - cc + 256) (by omega) (.inr rfl) (by rw [HX.out (), HPJ.out ()]; omega) ?_ ?_⟩
                  · have h := Blk.set (w := wr.drewN nq) (show Blk (wr.drewN nq) go _ _ from HI2.out.blk) j (.int .i64 (x - p - cc + 256))
                    rwa [ni_set] at h
                  · exact (bw_dr HI2.out.b nq).setCell (by show wa.heap.size ≤ go; omega) _
                case measure => simp [intOf]; omega
              · go_wp2_with fail
                go_roundw
                case rel =>
                  refine ⟨j + 1, 0, _, by omega, by go_num, rfl, SInv.step HI2.out hjl HNZ2.out.len HNP2.out.len (d := x - p - cc) (by omega) (.inl rfl) (by rw [HX.out (), HPJ.out ()]; omega) ?_ ?_⟩
                  · have h := Blk.set (w := wr.drewN nq) (show Blk (wr.drewN nq) go _ _ from HI2.out.blk) j (.int .i64 (x - p - cc))
                    rwa [ni_set] at h
                  · exact (bw_dr HI2.out.b nq).setCell (by show wa.heap.size ≤ go; omega) _
                case measure => simp [intOf]; omega
            · obtain rfl : j = 40 := by omega
              go_wp2_with fail
              have hv := inv.val
              have ho := leV_range inv.isB
              rw [List.take_of_length_le (by rw [HNZ2.out.len]; exact Nat.le_refl _), List.take_of_length_le (by rw [HNP2.out.len]; exact Nat.le_refl _), List.take_of_length_le (by rw [inv.len]; exact Nat.le_refl _), HZM.out (), HPV.out (), big40_eq] at hv
              rw [inv.len, big40_eq] at ho
              have hge := HGE.out ()
              have hcc : cc = 0 := by
                have := inv.c01
                unfold big40 at *
                omega
              subst hcc
              refine ⟨⟨1, os, rfl, ⟨?_, inv.len, inv.isB⟩, .inr ⟨rfl, by omega, hge⟩, bw_then hbl2 inv.b hbl2.size⟩, by simp [intOf]⟩
              have := Rd.of_blk inv.blk (by rw [ni_len, inv.len]; decide)
              rwa [ni_len, inv.len] at this
end Go.Proofs.YtmjjnaaiakchhaaDoor
end

section
/-
  The reference's Clamp and bytes16.
-/
namespace Go.Proofs.YtmjjnaaiakchhaaDoor
open Go.RowKit

theorem bs_get (xs : List Int) (i : Nat) (h : i < xs.length) : (bs xs)[i]? = some (.int .u8 (xs.getD i 0)) := by simp [bs, List.getD_eq_getElem?_getD, h]
theorem bs_set (xs : List Int) (i : Nat) (y : Int) : (bs xs).set i (.int .u8 y) = bs (xs.set i y) := by simp [bs, List.map_set]
theorem clampL_len (key : List Int) : (clampL key).length = 16 := by simp [clampL]
theorem clampL_get (key : List Int) (i : Nat) (h : i < 16) : (clampL key).getD i 0 = if i % 4 = 3 then key.getD i 0 % 16 else if 0 < i ∧ i % 4 = 0 then key.getD i 0 / 4 * 4 else key.getD i 0 := by
  simp [clampL, List.getD_eq_getElem?_getD, h]
theorem clampL_isB {key : List Int} (hk : IsB key) : IsB (clampL key) := by
  intro z hz
  obtain ⟨i, _, rfl⟩ := List.mem_map.1 hz
  have h := hk.at_ i
  split
  · omega
  · split <;> omega

structure KInv (w wr : World) (B go : Nat) (ks : List Int) (k : Nat) : Prop where
  key : Blk wr B (bs ks) 22
  out : Blk wr go (bs ((clampL ks).take k ++ List.replicate (16 - k) 0)) 5
  b : Below B w wr
  ne : B < go
theorem KInv.step {w wr w' : World} {B go : Nat} {key : List Int} {k : Nat} {y : Int} (h : KInv w wr B go key k) (hk : k < 16) (hy : (clampL key).getD k 0 = y) (ho : Blk w' go (bs (((clampL key).take k ++ List.replicate (16 - k) 0).set k y)) 5) (hon : Only go wr w') : KInv w w' B go key (k + 1) := by
  refine ⟨h.key.only hon (by have := h.ne; omega), ?_, hon.below h.b (by have := h.ne; omega), h.ne⟩
  rwa [← hy, fill_set _ _ _ (clampL_len key) hk] at ho

set_option maxRecDepth 100000 in
set_option maxHeartbeats 4000000 in
theorem clamp_any (w : World) (key : List Int) (hk : key.length = 32) (hkb : IsB key) : Calls Tryd.prog 60 #[.agg (bs key).toArray] w fun e w' => ∃ go, e = .returned (.slice (some ⟨go, 0, none⟩) 16 16) ∧ Blk w' go (bs (clampL key)) 5 ∧ Below w.heap.size w w' := by
  obtain ⟨i, hi, hz0, hz1, hz2⟩ := info_parts info5
  obtain ⟨B, hB⟩ : ∃ B, w.heap.size = B := ⟨_, rfl⟩
  go_enter Tryd.func60, Tryd.ntmps60
  go_upto_region 1 with fail
  have b1 : Blk (w.alloc (.cells (bs key).toArray 22)) B (bs key) 22 := Blk.mk_ _ hB.symm rfl
  have bb : Below B w (w.alloc (.cells (bs key).toArray 22)) := bw_al (Below.refl _ _) (by omega) _
  generalize w.alloc (.cells (bs key).toArray 22) = w1 at *
  have hBw := b1.lt
  go_upto_region 2 with (refine wpList_make_full w1 rfl (.const (.int .i64 16)) (.const (.int .i64 16)) 30 rfl w1.heap.size 5 i _ 1 Tryd.underlying30 hi hz0 hz1 .i64 .i64 _ _ 16 rfl rfl rfl rfl (by rw [hz2]; decide) (by decide) (Nat.le_refl _) ?_; intro w2 hown hgrow)
  have hb2 : Below w1.heap.size w1 w2 := (Below.refl _ _).grown hgrow (Nat.le_refl _) (fun k h => by cases h)
  have inv0 : KInv w w2 B w1.heap.size key 0 := by
    refine ⟨b1.stay hb2, ?_, bw_then bb hb2 (by omega), hBw⟩
    have h := blk_of_own hown
    rw [show (Value.cells (Value.int IntKind.u8 0)) = #[Value.int IntKind.u8 0] from rfl, Nat.mul_one, toList_madeCells_one] at h
    simpa [bs] using h
  obtain ⟨go, hgo⟩ : ∃ go, w1.heap.size = go := ⟨_, rfl⟩
  rw [hgo] at inv0
  simp only [hgo]
  clear hown hgrow hb2 b1 bb
  go_wp2_with fail
  go_loopw [4] (fun x wr => ∃ k : Nat, k ≤ 16 ∧ x = .int .i64 k ∧ KInv w wr B go key k) (fun x _ => 16 - (intOf x).toNat)
  case atStart => exact ⟨0, by omega, rfl, inv0⟩
  case round =>
    obtain ⟨k, hk16, rfl, inv⟩ := hrel
    by_cases hlt : k < 16
    · obtain ⟨x, hx⟩ : ∃ x, key.getD k 0 = x := ⟨_, rfl⟩
      have hxr := hkb.at_ k
      rw [hx] at hxr
      have e1 : wr.cell? ⟨B, k, none⟩ = some (.int .u8 x) := by rw [← hx]; exact inv.key.at_ k (bs_get key k (by omega))
      have e2 : wr.cell? ⟨go, k, none⟩ = some (.int .u8 0) := by
        refine inv.out.at_ k ?_
        rw [bs, List.getElem?_map, List.getElem?_append_right (by rw [List.length_take, clampL_len]; omega), List.length_take, clampL_len, Nat.min_eq_left (by omega), Nat.sub_self, List.getElem?_replicate, if_pos (by omega)]
        rfl
      have e3 := inv.out.free k
      have hne : B ≠ go := by have := inv.ne; omega
      have hcl := clampL_get key k hlt
      rw [hx] at hcl
      have HI := Lib.hid inv
      have o1 : ∀ y z, Only go wr ((wr.setCell ⟨go, k, none⟩ y).setCell ⟨go, k, none⟩ z) := fun y z => (Only.set wr go k y).trans (Only.set _ go k z)
      have HO := Lib.hid o1
      have B1 := Lib.hid (fun y => by have := inv.out.set k (.int .u8 y); rwa [bs_set] at this)
      have B2 := Lib.hid (fun y z => by have := (inv.out.set k (.int .u8 y)).set k (.int .u8 z); rwa [List.set_set, bs_set] at this)
      clear inv inv0 hx o1
      rcases (show k % 4 = 3 ∨ (0 < k ∧ k % 4 = 0) ∨ (¬ k % 4 = 3 ∧ ¬ (0 < k ∧ k % 4 = 0)) by omega) with hm | hm | hm
      · rw [if_pos hm] at hcl
        have hmi : (k : Int) % 4 = 3 := by omega
        have HCL := Lib.hid (fun _ : Unit => hcl)
        clear hcl
        go_wp2_with fail
        go_roundw
        case rel => exact ⟨k + 1, by omega, by go_num, HI.out.step hlt (HCL.out ()) (B2.out _ _) (HO.out _ _)⟩
        case measure => simp [intOf]; omega
      · rw [if_neg (by omega), if_pos hm] at hcl
        have hmi : (k : Int) % 4 = 0 := by omega
        have hk0 : (0 : Int) < (k : Int) := by omega
        have HCL := Lib.hid (fun _ : Unit => hcl)
        clear hcl
        go_wp2_with fail
        go_roundw
        case rel => exact ⟨k + 1, by omega, by go_num, HI.out.step hlt (HCL.out ()) (B2.out _ _) (HO.out _ _)⟩
        case measure => simp [intOf]; omega
      · rw [if_neg hm.1, if_neg hm.2] at hcl
        obtain ⟨m, hm4⟩ : ∃ m, k % 4 = m := ⟨_, rfl⟩
        have hmi : (k : Int) % 4 = (m : Int) := by omega
        have hm3 : ¬ (m : Int) = 3 := by omega
        have HCL := Lib.hid (fun _ : Unit => hcl)
        clear hcl
        by_cases hk0 : (0 : Int) < (k : Int)
        · have hm0 : ¬ (m : Int) = 0 := by omega
          clear hm hm4
          go_wp2_with fail
          go_roundw
          case rel => exact ⟨k + 1, by omega, by go_num, HI.out.step hlt (HCL.out ()) (B1.out _) (Only.set wr go k _)⟩
          case measure => simp [intOf]; omega
        · clear hm hm4
          go_wp2_with fail
          go_roundw
          case rel => exact ⟨k + 1, by omega, by go_num, HI.out.step hlt (HCL.out ()) (B1.out _) (Only.set wr go k _)⟩
          case measure => simp [intOf]; omega
    · obtain rfl : k = 16 := by omega
      go_wp2_with fail
      all_goals go_ret
      refine ⟨go, rfl, ?_, by rw [hB]; exact inv.b⟩
      have := inv.out
      rwa [List.take_of_length_le (by rw [clampL_len]; exact Nat.le_refl _), Nat.sub_self, List.replicate_zero, List.append_nil] at this

structure OInv (w wr : World) (go : Nat) (xs : List Int) (k : Nat) : Prop where
  out : Blk wr go (bs (xs.take k ++ List.replicate (16 - k) 0)) 53
  b : Below w.heap.size w wr

set_option maxRecDepth 100000 in
set_option maxHeartbeats 4000000 in
theorem bytes16_any (w : World) (u : Value) (xs : List Int) (hu : Num w u xs) : Calls Tryd.prog 64 #[u] w fun e w' => e = .returned (.agg (bs (xs.take 16)).toArray) ∧ Below w.heap.size w w' := by
  obtain ⟨bu, ou, cu, rfl, hbu, hu1, hu2, hu3⟩ := hu.rd.cells (by rw [ni_len, hu.len]; decide)
  rw [ni_len, hu.len] at hu1 ⊢
  have HU := Lib.hid hu
  have HU3 := Lib.hid hu3
  clear hu hu3
  obtain ⟨B, hB⟩ : ∃ B, w.heap.size = B := ⟨_, rfl⟩
  go_enter Tryd.func64, Tryd.ntmps64
  go_upto_region 2 with fail
  change Code.wp _ _ _ _ ((w.alloc (.cells (bs (List.replicate 16 0)).toArray 53)).alloc (.cells (bs (List.replicate 16 0)).toArray 53))
  have b0 : Blk ((w.alloc (.cells (bs (List.replicate 16 0)).toArray 53)).alloc (.cells (bs (List.replicate 16 0)).toArray 53)) B (bs (List.replicate 16 0)) 53 := (Blk.mk_ _ hB.symm rfl).al _
  have b1 : Blk ((w.alloc (.cells (bs (List.replicate 16 0)).toArray 53)).alloc (.cells (bs (List.replicate 16 0)).toArray 53)) (B + 1) (bs (List.replicate 16 0)) 53 := Blk.mk_ _ (by simp [hB]) rfl
  have bb : Below B w ((w.alloc (.cells (bs (List.replicate 16 0)).toArray 53)).alloc (.cells (bs (List.replicate 16 0)).toArray 53)) := bw_al (bw_al (Below.refl _ _) (by omega) _) (by simp; omega) _
  generalize ((w.alloc (.cells (bs (List.replicate 16 0)).toArray 53)).alloc (.cells (bs (List.replicate 16 0)).toArray 53)) = w1 at *
  have inv0 : OInv w w1 (B + 1) xs 0 := ⟨by simpa using b1, by rw [hB]; exact bb⟩
  have HB0 := Lib.hid b0
  clear b0 b1 bb
  go_wp2_with fail
  go_loopw [4] (fun x wr => ∃ k : Nat, k ≤ 16 ∧ x = .int .i64 k ∧ OInv w wr (B + 1) xs k ∧ Blk wr B (bs (List.replicate 16 0)) 53) (fun x _ => 16 - (intOf x).toNat)
  case atStart => exact ⟨0, by omega, rfl, inv0, HB0.out⟩
  case round =>
    obtain ⟨k, hk16, rfl, inv, hb0⟩ := hrel
    by_cases hlt : k < 16
    · obtain ⟨x, hx⟩ : ∃ x, xs.getD k 0 = x := ⟨_, rfl⟩
      have hxr := HU.out.isB.at_ k
      rw [hx] at hxr
      have e1 : wr.cell? ⟨bu, ou + k, none⟩ = some (.int .i64 x) := by rw [← hx]; exact HU3.out wr inv.b k _ (ni_get xs k (by rw [HU.out.len]; omega))
      have e2 : wr.cell? ⟨B + 1, k, none⟩ = some (.int .u8 0) := by
        refine inv.out.at_ k ?_
        rw [bs, List.getElem?_map, List.getElem?_append_right (by rw [List.length_take, HU.out.len]; omega), List.length_take, HU.out.len, Nat.min_eq_left (by omega), Nat.sub_self, List.getElem?_replicate, if_pos (by omega)]
        rfl
      have e3 := inv.out.free k
      have e4 : (xs.take k ++ List.replicate (16 - k) 0).set k x = xs.take (k + 1) ++ List.replicate (16 - (k + 1)) 0 := by
        have h1 := take_snoc xs k (by rw [HU.out.len]; omega)
        have hti : (xs.take k).length = k := by rw [List.length_take, HU.out.len]; omega
        rw [List.set_append_right _ _ (by omega), hti, Nat.sub_self, show 16 - k = (16 - (k + 1)) + 1 by omega, List.replicate_succ, List.set_cons_zero, h1, hx]
        simp
      have i2 : OInv w (wr.setCell ⟨B + 1, k, none⟩ (.int .u8 x)) (B + 1) xs (k + 1) ∧ Blk (wr.setCell ⟨B + 1, k, none⟩ (.int .u8 x)) B (bs (List.replicate 16 0)) 53 := by
        refine ⟨⟨?_, inv.b.setCell (by show w.heap.size ≤ B + 1; omega) _⟩, hb0.other (by show B ≠ B + 1; omega) _⟩
        have := inv.out.set k (.int .u8 x)
        rwa [bs_set, e4] at this
      have HI := Lib.hid i2
      clear inv hb0 i2 e4 hx inv0
      go_wp2_with fail
      go_roundw
      case rel => exact ⟨k + 1, by omega, by go_num, HI.out⟩
      case measure => simp [intOf]; omega
    · obtain rfl : k = 16 := by omega
      have ho := inv.out
      rw [Nat.sub_self, List.replicate_zero, List.append_nil] at ho
      have hlen : (bs (xs.take 16)).length = 16 := by rw [bs_len, List.length_take, HU.out.len]; rfl
      go_wp2_with (first
        | (refine wp_load_blk rfl 53 (.tmp 3) rfl rfl ho Tryd.underlying53 rfl (n := 16) (by kernel_rfl) hlen ?_)
        | (refine wp_store_blk rfl 53 (.tmp 2) (.tmp 16) rfl rfl rfl hb0 (bs_one _) (by rw [hlen]; rfl) (n := 16) (by kernel_rfl) hlen ?_; intro w' hb hon))
      refine ret_blk rfl rfl hb Tryd.underlying53 rfl (n := 16) (by kernel_rfl) hlen rfl ?_
      exact ⟨rfl, hon.below inv.b (by omega)⟩
end Go.Proofs.YtmjjnaaiakchhaaDoor
end

section
/-
  The reference's Sum and Add.
-/
namespace Go.Proofs.YtmjjnaaiakchhaaDoor
open Go.RowKit

theorem arr_slice {P : Program} (w : World) (t : TypeId) {e : TypeId} {n : Nat} (o : Nat) (ha : P.arrayLen t = n) (he : P.elem t = e) (hu : P.underlying t = some (.array n e)) (hs : (P.info? e).map (·.size) = some 1) :
    (Instr.sliceAt t (.pointer (some ⟨o, 0, none⟩)) none none none).run P w = .ok (.slice (some ⟨o, 0, none⟩) n n) w := by
  obtain ⟨q, hq1, hq2⟩ := Option.map_eq_some_iff.1 hs
  rw [run_sliceAt_array_all (P := P) w t ⟨o, 0, none⟩ (by rw [ha, he]; exact hu)]
  rw [he, ha]
  simp [sizeOf, typeInfo, hq1, hq2, slicedAt, Addr.add]
theorem slice32 (w : World) (o : Nat) : (Instr.sliceAt 22 (.pointer (some ⟨o, 0, none⟩)) none none none).run Tryd.prog w = .ok (.slice (some ⟨o, 0, none⟩) 32 32) w :=
  arr_slice w _ o (by kernel_rfl) (by kernel_rfl) Tryd.underlying22 (by kernel_rfl)
theorem slice16 (w : World) (o : Nat) : (Instr.sliceAt 53 (.pointer (some ⟨o, 0, none⟩)) none none none).run Tryd.prog w = .ok (.slice (some ⟨o, 0, none⟩) 16 16) w :=
  arr_slice w _ o (by kernel_rfl) (by kernel_rfl) Tryd.underlying53 (by kernel_rfl)

/-- The digits of a number, so many. -/
theorem take_low {xs : List Int} (hx : IsB xs) (n : Nat) (hn : n ≤ xs.length) : xs.take n = lowN (leV xs) n := by
  have h1 := leV_range (xs := xs.take n) fun z hz => hx z (List.mem_of_mem_take hz)
  have h2 := leV_range hx
  have h3 := leV_append (xs.take n) (xs.drop n)
  rw [List.take_append_drop, List.length_take, Nat.min_eq_left hn] at h3
  rw [List.length_take, Nat.min_eq_left hn] at h1
  refine leV_inj (fun z hz => hx z (List.mem_of_mem_take hz)) (lowN_isB _ _) (by rw [List.length_take, lowN_len]; omega) ?_
  rw [leV_lowN _ _ h2.1, h3, Int.add_mul_emod_self_left, Int.emod_eq_of_lt h1.1 h1.2]

theorem take20_val {xs : List Int} (hx : IsB xs) (hl : xs.length = 40) (h : leV xs < 256 ^ 20) : leV (xs.take 20) = leV xs := by
  have h1 := leV_range (xs := xs.take 20) fun z hz => hx z (List.mem_of_mem_take hz)
  have h2 := leV_range (xs := xs.drop 20) fun z hz => hx z (List.mem_of_mem_drop hz)
  have h3 := leV_append (xs.take 20) (xs.drop 20)
  rw [List.take_append_drop, List.length_take, Nat.min_eq_left (by omega)] at h3
  generalize leV (xs.take 20) = a at *
  generalize leV (xs.drop 20) = b at *
  have e20 : (256 : Int) ^ 20 = 1461501637330902918203684832716283019655932542976 := by decide
  rw [e20] at *
  omega
theorem piece_range {xs : List Int} (hx : IsB xs) (q : Nat) : 0 ≤ leV ((xs.drop q).take 16 ++ [1]) ∧ leV ((xs.drop q).take 16 ++ [1]) < 174224571863520493293247799005065324265472 := by
  have hb : IsB ((xs.drop q).take 16 ++ [1]) := fun z hz => by
    rcases List.mem_append.1 hz with hz | hz
    · exact hx z (List.mem_of_mem_drop (List.mem_of_mem_take hz))
    · obtain rfl := List.mem_singleton.1 hz; exact ⟨by decide, by decide⟩
  have h1 := leV_range hb
  have h2 : ((xs.drop q).take 16 ++ [1]).length ≤ 17 := by simp; omega
  have h4 : (256 : Int) ^ ((xs.drop q).take 16 ++ [1]).length ≤ 256 ^ 17 := by
    have h5 := Nat.pow_le_pow_right (show 0 < 256 by decide) h2
    have e1 : (256 : Int) ^ ((xs.drop q).take 16 ++ [1]).length = ((256 ^ ((xs.drop q).take 16 ++ [1]).length : Nat) : Int) := by rw [Int.natCast_pow]; rfl
    have e2 : (256 : Int) ^ 17 = ((256 ^ 17 : Nat) : Int) := by rw [Int.natCast_pow]; rfl
    rw [e1, e2]
    exact Int.ofNat_le.2 h5
  have e17 : (256 : Int) ^ 17 = 87112285931760246646623899502532662132736 := by decide
  rw [e17] at h4
  omega

theorem slice32from (w : World) (o : Nat) : (Instr.sliceAt 22 (.pointer (some ⟨o, 0, none⟩)) (some (.int .i64 16)) none none).run Tryd.prog w = .ok (.slice (some ⟨o, 16, none⟩) 16 16) w := by
  have ha : Tryd.prog.arrayLen 22 = 32 := by kernel_rfl
  have he : Tryd.prog.elem 22 = 5 := by kernel_rfl
  obtain ⟨q, hq1, hq2⟩ := Option.map_eq_some_iff.1 (show (Tryd.prog.info? 5).map (·.size) = some 1 by kernel_rfl)
  rw [run_sliceAt_array_l (P := Tryd.prog) w 22 ⟨o, 0, none⟩ (by rw [ha, he]; exact Tryd.underlying22) .i64 16 (by decide) (by rw [ha]; decide)]
  rw [he, ha]
  simp [sizeOf, typeInfo, hq1, hq2, slicedAt, Addr.add]
theorem Rd.of_part {w : World} {b : Nat} {cs : List Value} {t : TypeId} (h : Blk w b cs t) (off n : Nat) (hn : off + n ≤ cs.length) (hm : n ≤ 9223372036854775807) : Rd w (.slice (some ⟨b, off, none⟩) n n) ((cs.drop off).take n) := by
  have hl : ((cs.drop off).take n).length = n := by rw [List.length_take, List.length_drop]; omega
  refine ⟨_, n, by rw [hl], by omega, by unfold maxLen; omega, (fun h => by cases h), .inr ⟨b, off, rfl, fun j hj => ?_⟩⟩
  rw [hl] at hj
  rw [h.get, List.getElem_take, List.getElem_drop, List.getElem?_eq_getElem (by omega)]

set_option maxRecDepth 100000 in
set_option maxHeartbeats 4000000 in
theorem sum03_any (w : World) (v : Value) (key xs : List Int) (hk : key.length = 32) (hkb : IsB key) (hr : Rd w v (bs xs)) (hx : IsB xs) (hl : xs.length ≤ 1000000000000) :
    Calls Tryd.prog 47 #[.agg (bs key).toArray, v] w fun e w' => e = .returned (.agg (bs (tagL key xs)).toArray) ∧ Below w.heap.size w w' := by
  obtain ⟨i, hi, hz0, hz1, hz2⟩ := info_parts info3
  obtain ⟨B, hB⟩ : ∃ B, w.heap.size = B := ⟨_, rfl⟩
  have HK := Lib.hid hk
  have HKB := Lib.hid hkb
  have HR := Lib.hid hr
  have HX := Lib.hid hx
  clear hk hkb hx
  have hel : Tryd.prog.underlying 30 = some (.slice (Tryd.prog.elem 30)) := by kernel_rfl
  have hsz : ∀ w, (sizeOf (Tryd.prog.elem 30)).run Tryd.prog w = .ok 1 w := fun w => by kernel_rfl
  have hlv : ∀ w', (Builtin.len_ #[30] 3 #[v]).run Tryd.prog w' = .ok (goInt xs.length) w' := by
    have := len_fact hr (ty := 3) hel
    rwa [bs_len] at this
  have HSF := Lib.hid (fun i k => sub_fact hr hel hsz i k)
  clear hr hel hsz
  go_enter Tryd.func47, Tryd.ntmps47
  go_upto_region 1 with fail
  change Code.wp _ _ _ _ ((w.alloc (.cells (bs key).toArray 22)).alloc (.cells (bs (List.replicate 16 0)).toArray 53))
  have b0 : Blk ((w.alloc (.cells (bs key).toArray 22)).alloc (.cells (bs (List.replicate 16 0)).toArray 53)) B (bs key) 22 := (Blk.mk_ _ hB.symm rfl).al _
  have b1 : Blk ((w.alloc (.cells (bs key).toArray 22)).alloc (.cells (bs (List.replicate 16 0)).toArray 53)) (B + 1) (bs (List.replicate 16 0)) 53 := Blk.mk_ _ (by simp [hB]) rfl
  have bb : Below B w ((w.alloc (.cells (bs key).toArray 22)).alloc (.cells (bs (List.replicate 16 0)).toArray 53)) := bw_al (bw_al (Below.refl _ _) (by omega) _) (by simp; omega) _
  generalize ((w.alloc (.cells (bs key).toArray 22)).alloc (.cells (bs (List.replicate 16 0)).toArray 53)) = w1 at *
  have hBw := b1.lt
  have B0 := Lib.hid b0
  have B1 := Lib.hid b1
  have BB := Lib.hid bb
  clear b1 bb
  have CL := Lib.hid (clamp_any w1 key HK.out HKB.out)
  go_upto_region 2 with (first
    | (refine wp_load_blk rfl 22 (.tmp 2) rfl rfl b0 Tryd.underlying22 rfl (n := 32) (by kernel_rfl) (by rw [bs_len, HK.out]) ?_)
    | (go_at_call 60; refine CL.out.mono ?_; rintro e w2 ⟨gc, rfl, hbc, hb2⟩)
    | (go_at_call 59; refine (number_any _ _ (clampL key) (by have := Rd.of_blk hbc (by rw [bs_len, clampL_len]; decide); rwa [bs_len, clampL_len] at this) (clampL_isB HKB.out) (by rw [clampL_len]; decide)).mono ?_; rintro e w3 ⟨vr, ry, rfl, hr1, hr2, hb3⟩))
  have bw3 : Below w1.heap.size w1 w3 := bw_then hb2 hb3 hb2.size
  go_upto_region 3 with (refine wpList_make_full w3 rfl (.const (.int .i64 40)) (.const (.int .i64 40)) 98 rfl w3.heap.size 3 i _ 1 Tryd.underlying98 hi hz0 hz1 .i64 .i64 _ _ 40 rfl rfl rfl rfl (by rw [hz2]; decide) (by decide) (Nat.le_refl _) ?_; intro w4 hown hgrow)
  have hb4 : Below w3.heap.size w3 w4 := (Below.refl _ _).grown hgrow (Nat.le_refl _) (fun k h => by cases h)
  have hn4 : Num w4 (.slice (some ⟨w3.heap.size, 0, none⟩) 40 40) (List.replicate 40 0) := by
    have h := blk_of_own hown
    rw [show (Value.cells (Value.int IntKind.i64 0)) = #[Value.int IntKind.i64 0] from rfl, Nat.mul_one, toList_madeCells_one] at h
    refine ⟨?_, by simp, fun z hz => by obtain ⟨_, rfl⟩ := List.mem_replicate.1 hz; exact ⟨Int.le_refl _, by decide⟩⟩
    have h2 := Rd.of_blk h (by simp)
    simpa [ni] using h2
  have bw4 : Below w1.heap.size w1 w4 := bw_then bw3 hb4 bw3.size
  have HR1 := Lib.hid (hr1.stay hb4)
  have HRV := Lib.hid (fun _ : Unit => hr2)
  have HN4 := Lib.hid hn4
  clear hbc hr1 hr2 hown hgrow hn4 b0 hb2 hb3 hb4
  go_wp2_with fail
  go_loopw [6, 7] (fun s x wr => ∃ (k : Nat) (ss : List Int), 16 * k < xs.length + 16 ∧ x = .int .i64 (16 * k : Nat) ∧ Num wr s ss ∧ leV ss = hK (leV (clampL key)) xs k ∧ Below w4.heap.size w4 wr) (fun _ x _ => xs.length + 16 - (intOf x).toNat)
  case atStart => exact ⟨0, _, by omega, rfl, HN4.out, leV_zeros _, Below.refl _ _⟩
  case round =>
    obtain ⟨k, ss, hk, rfl, hnum, hval, hbl⟩ := hrel
    obtain ⟨q, hq⟩ : ∃ q, 16 * k = q := ⟨_, rfl⟩
    rw [hq] at hk
    rw [hq]
    have HQ := Lib.hid (fun _ : Unit => hq)
    have HNU := Lib.hid hnum
    have HVA := Lib.hid (fun _ : Unit => hval)
    clear hnum hval hq
    by_cases hlt : q < xs.length
    · obtain ⟨m, hm⟩ : ∃ m, min (q + 16) xs.length = m := ⟨_, rfl⟩
      have hmi : (if (xs.length : Int) < (q : Int) + 16 then (xs.length : Int) else (q : Int) + 16) = (m : Int) := by split <;> omega
      obtain ⟨vp, hvp, s1, s2, _, _, _, _⟩ := HSF.out q m (by omega) (by rw [bs_len]; omega)
      obtain ⟨wo, rfl⟩ : ∃ wo : World, wo = wr := ⟨_, rfl⟩
      have bbo : Below B w wo := bw_then BB.out (bw_then bw4 hbl bw4.size) (by omega)
      have hpe : ((bs xs).drop q).take (m - q) = bs ((xs.drop q).take 16) := by
        rw [bs, ← List.map_drop, ← List.map_take]
        congr 1
        by_cases h16 : q + 16 ≤ xs.length
        · rw [show m - q = 16 by omega]
        · rw [List.take_of_length_le (by rw [List.length_drop]; omega), List.take_of_length_le (by rw [List.length_drop]; omega)]
      rw [hpe] at hvp
      have hvp2 := hvp.stay bbo (by omega)
      obtain ⟨pc, hpc⟩ : ∃ pc, (xs.drop q).take 16 = pc := ⟨_, rfl⟩
      have hpl : pc.length ≤ 16 := by rw [← hpc, List.length_take]; omega
      have hpr := piece_range HX.out q
      rw [hpc] at hvp2 hpr
      have hpb : IsB (pc ++ [1]) := fun z hz => by
        rcases List.mem_append.1 hz with hz | hz
        · rw [← hpc] at hz; exact HX.out z (List.mem_of_mem_drop (List.mem_of_mem_take hz))
        · obtain rfl := List.mem_singleton.1 hz; exact ⟨by decide, by decide⟩
      have HVP := Lib.hid hvp2
      have HPC := Lib.hid (fun _ : Unit => (⟨hpc, hpl, hpr, hpb⟩ : (xs.drop q).take 16 = pc ∧ pc.length ≤ 16 ∧ (0 ≤ leV (pc ++ [1]) ∧ leV (pc ++ [1]) < 174224571863520493293247799005065324265472) ∧ IsB (pc ++ [1])))
      clear hvp hvp2 hpc hpr hpb hpe hm
      go_upto_region 9 with (first
        | (at_builtin; refine wp_app (.tmp 19) (.tmp 27) 30 rfl rfl 5 (.int .u8 0) 1 Tryd.underlying30 info5 rfl wo.heap.size rfl (World.ownsRow_nil _ _ _ _) rfl HVP.out (bs_one _) (by decide) (by rw [bs_len]; omega) (Nat.le_refl _) ?_; intro v5 w5 hown5 _ hb5)
        | (at_builtin; refine wp_app (.tmp 29) (.tmp 30) 30 rfl rfl 5 (.int .u8 0) 1 Tryd.underlying30 info5 rfl wo.heap.size rfl (hown5.alloc _) rfl (Rd.one _ _ _) (by intro y hy; simp at hy; subst hy; rfl) (by decide) (by rw [bs_len]; simp; omega) (by have := hb5.size; simp; omega) ?_; intro v6 w6 hown6 _ hb6))
      have bw56 : Below wo.heap.size wo w6 := Below.trans (bw_al hb5 hb5.size _) hb6
      have hr6 : Rd w6 v6 (bs (pc ++ [1])) := by
        have := Rd.of_own hown6
        simpa [bs] using this
      have HN6 := Lib.hid (HNU.out.stay bw56)
      have HR6 := Lib.hid ((HR1.out.stay hbl).stay bw56)
      have HNB := Lib.hid (number_any w6 v6 (pc ++ [1]) hr6 (HPC.out ()).2.2.2 (by have := (HPC.out ()).2.1; simp; omega))
      have hsr := hK_range (leV (clampL key)) xs k
      rw [← HVA.out ()] at hsr
      have hlr := (HPC.out ()).2.2.1
      have hcr := leV_range (clampL_isB HKB.out)
      rw [clampL_len, show (256 : Int) ^ 16 = 340282366920938463463374607431768211456 by decide] at hcr
      have e20 : (256 : Int) ^ 20 = 1461501637330902918203684832716283019655932542976 := by decide
      have hprv : pr = 1361129467683753853853498429727072845819 := rfl
      have hbig : big40 = 2135987035920910082395021706169552114602704522356652769947041607822219725780640550022962086936576 := rfl
      have hsum : leV ss + leV (pc ++ [1]) < 256 ^ 20 := by omega
      have hsum2 : leV ss + leV (pc ++ [1]) < big40 := by omega
      have hcr2 : leV (clampL key) < 256 ^ 20 := by omega
      have HSUM := Lib.hid (fun _ : Unit => (⟨hsum, hsum2, hcr2⟩ : leV ss + leV (pc ++ [1]) < 256 ^ 20 ∧ leV ss + leV (pc ++ [1]) < big40 ∧ leV (clampL key) < 256 ^ 20))
      clear hsr hlr hcr e20 hprv hbig hsum hsum2 hcr2 hown6 hown5 hr6
      go_wp2_with (first
        | (go_at_call 59; refine HNB.out.mono ?_; rintro e w7 ⟨v7, y7, rfl, hn7, hv7, hb7⟩; have HN7 := Lib.hid hn7; have HV7 := Lib.hid (fun _ : Unit => hv7); clear hn7 hv7)
        | (go_at_call 63; refine (plus_any w7 _ _ ss y7 (HN6.out.stay hb7) HN7.out (by rw [HV7.out ()]; exact (HSUM.out ()).2.1)).mono ?_; rintro e w8 ⟨v8, y8, rfl, hn8, hv8, hb8⟩; have HN8 := Lib.hid hn8; have HV8 := Lib.hid (fun _ : Unit => hv8); clear hn8 hv8)
        | (go_at_call 62; refine (times_any w8 _ _ y8 ry HN8.out ((HR6.out.stay hb7).stay hb8)).mono ?_; rintro e w9 ⟨v9, y9, rfl, hn9, hv9, hb9⟩; have HN9 := Lib.hid hn9; have HV9 := Lib.hid (fun _ : Unit => hv9); clear hn9 hv9)
        | (go_at_call 61; refine (rest_any w9 _ y9 HN9.out).mono ?_; rintro e w10 ⟨v10, y10, rfl, hn10, hv10, hb10⟩; have HN10 := Lib.hid hn10; have HV10 := Lib.hid (fun _ : Unit => hv10); clear hn10 hv10))
      refine ⟨⟨k + 1, y10, by have := HQ.out (); omega, ?_, HN10.out, ?_, ?_⟩, by simp [intOf]; omega⟩
      · have := HQ.out ()
        congr 1
        omega
      · have hsm := HSUM.out ()
        rw [HV10.out (), HV9.out (), take20_val HN8.out.isB HN8.out.len (by rw [HV8.out (), HV7.out ()]; exact hsm.1), take20_val HR1.out.isB HR1.out.len (by rw [HRV.out ()]; exact hsm.2.2), HV8.out (), HV7.out (), HRV.out (), hK, HQ.out (), (HPC.out ()).1, HVA.out ()]
      · have b67 := bw_then bw56 hb7 bw56.size
        have b68 := bw_then b67 hb8 b67.size
        have b69 := bw_then b68 hb9 b68.size
        exact bw_then hbl (bw_then b69 hb10 b69.size) hbl.size
    · obtain ⟨wo, rfl⟩ : ∃ wo : World, wo = wr := ⟨_, rfl⟩
      have hb1o := bw_then bw4 hbl bw4.size
      have hkk : k = (xs.length + 15) / 16 := by have := HQ.out (); omega
      have hB1 := B1.out.stay hb1o
      have hk16 : Rd wo (.slice (some ⟨B, 16, none⟩) 16 16) (bs ((key.drop 16).take 16)) := by
        have := Rd.of_part (B0.out.stay hb1o) 16 16 (by rw [bs_len, HK.out]; decide) (by decide)
        simpa [bs, List.map_take, List.map_drop] using this
      have hik : IsB ((key.drop 16).take 16) := fun z hz => HKB.out z (List.mem_of_mem_drop (List.mem_of_mem_take hz))
      have hlk : ((key.drop 16).take 16).length = 16 := by rw [List.length_take, List.length_drop, HK.out]; rfl
      have NB := Lib.hid (number_any wo _ _ hk16 hik (by rw [hlk]; decide))
      have hsr := hK_range (leV (clampL key)) xs k
      rw [← HVA.out ()] at hsr
      have hlr := leV_range hik
      rw [hlk, show (256 : Int) ^ 16 = 340282366920938463463374607431768211456 by decide] at hlr
      have hsum : leV ss + leV ((key.drop 16).take 16) < big40 := by
        have hprv : pr = 1361129467683753853853498429727072845819 := rfl
        have hbig : big40 = 2135987035920910082395021706169552114602704522356652769947041607822219725780640550022962086936576 := rfl
        omega
      have HSUM := Lib.hid hsum
      have HKK := Lib.hid (fun _ : Unit => hkk)
      have HBB := Lib.hid (bw_then BB.out hb1o (by omega))
      have s16 := slice32from wo B
      have HB1 := Lib.hid hB1
      have hBo : B + 1 < wo.heap.size := hB1.lt
      have hlt16 : ∀ ys : List Int, ys.length = 40 → (bs (ys.take 16)).length = 16 := fun ys hy => by rw [bs_len, List.length_take, hy]; rfl
      clear hsr hlr hsum hkk hik hlk hk16 hB1 hb1o
      go_wp2_with (first
        | (go_at_call 59; refine NB.out.mono ?_; rintro e w7 ⟨v7, y7, rfl, hn7, hv7, hb7⟩; have HN7 := Lib.hid hn7; have HV7 := Lib.hid (fun _ : Unit => hv7); clear hn7 hv7)
        | (go_at_call 63; refine (plus_any w7 _ _ ss y7 (HNU.out.stay hb7) HN7.out (by rw [HV7.out ()]; exact HSUM.out)).mono ?_; rintro e w8 ⟨v8, y8, rfl, hn8, hv8, hb8⟩; have HN8 := Lib.hid hn8; have HV8 := Lib.hid (fun _ : Unit => hv8); clear hn8 hv8)
        | (go_at_call 64; refine (bytes16_any w8 _ y8 HN8.out).mono ?_; rintro e w9 ⟨rfl, hb9⟩)
        | (refine wp_store_blk rfl 53 (.tmp 4) (.tmp 43) rfl rfl rfl ((HB1.out.stay hb7).stay hb8 |>.stay hb9) (bs_one _) (by rw [hlt16 _ HN8.out.len]; rfl) (n := 16) (by kernel_rfl) (hlt16 _ HN8.out.len) ?_; intro w' hbx hon))
      refine ret_blk rfl rfl hbx Tryd.underlying53 rfl (n := 16) (by kernel_rfl) (hlt16 _ HN8.out.len) rfl ?_
      have b78 := bw_then hb7 hb8 hb7.size
      have b79 := bw_then b78 hb9 b78.size
      refine ⟨?_, by rw [hB]; exact hon.below (bw_then HBB.out b79 (by omega)) (by omega)⟩
      rw [take_low HN8.out.isB 16 (by rw [HN8.out.len]; decide), HV8.out (), HV7.out (), HVA.out (), HKK.out (), tagL]
end Go.Proofs.YtmjjnaaiakchhaaDoor
end

section
/-
  A row of the call's own: its cells, and a cell of it that is set.
-/
namespace Go.Proofs.YtmjjnaaiakchhaaDoor
open Go.RowKit

theorem ownsRow_cases {w : World} {base n : Nat} {e : TypeId} {v : Value} {xs : List Value} (h : w.ownsRow base e 1 v n xs) :
    (v = .slice none 0 0 ∧ n = 0 ∧ xs = []) ∨ ∃ g cap, v = .slice (some ⟨g, 0, none⟩) n cap ∧ base ≤ g ∧ g < w.heap.size ∧ n ≤ cap ∧ cap ≤ maxLen ∧
      (∀ (j : Nat) y, xs[j]? = some y → w.cell? ⟨g, j, none⟩ = some y) ∧ (∀ (j : Nat), w.frozen? ⟨g, j, none⟩ = false) ∧
      ∀ (j : Nat) y, j < n → (w.setCell ⟨g, j, none⟩ y).ownsRow base e 1 v n (xs.set j y) := by
  obtain ⟨hl, ⟨rfl, rfl⟩ | ⟨g, cap, cur, rfl, hb, hg, hn, hc, hs, ht⟩⟩ := h
  · exact .inl ⟨rfl, rfl, List.eq_nil_of_length_eq_zero (by omega)⟩
  · refine .inr ⟨g, cap, rfl, hb, (Array.getElem?_eq_some_iff.1 hg).1, hn, hc, fun j y hj => ?_, fun j => ?_, fun j y hj => ?_⟩
    · have hlt := (List.getElem?_eq_some_iff.1 hj).1
      rw [← ht, List.getElem?_take_of_lt (by omega)] at hj
      simp [World.cell?, hg]
      simpa using hj
    · simp [World.frozen?, hg]
    · refine ⟨by simpa using hl, .inr ⟨g, cap, cur.setIfInBounds j y, rfl, hb, ?_, hn, hc, by simpa using hs, ?_⟩⟩
      · simp [World.setCell, Array.getElem?_modify, hg]
      · rw [← ht, Array.toList_setIfInBounds, List.take_set]
end Go.Proofs.YtmjjnaaiakchhaaDoor
end

section
/-
  A Mac, and what is written to it.
-/
namespace Go.Proofs.YtmjjnaaiakchhaaDoor
open Go.RowKit

/-- A Mac of a key, of what was written by now. -/
structure MacAt (w : World) (g : Nat) (key xs : List Int) (held : Value) (r0 r1 s0 s1 s2 a0 a1 a2 : Int) : Prop where
  blk : Blk w g (macC held r0 r1 s0 s1 s2 a0 a1 a2 true) 92
  held : Part w (g + 1) 5 held (bs (xs.drop (16 * (xs.length / 16))))
  r : IsW1 r0 ∧ IsW1 r1
  rv : leW [r0, r1] = leV (clampL key)
  s : IsW [s0, s1, s2]
  sv : leW [s0, s1, s2] = leV ((key.drop 16).take 16)
  acc : AccOk [a0, a1, a2] (hK (leV (clampL key)) xs (xs.length / 16))
def Mac (w : World) (g : Nat) (key xs : List Int) (S : Nat → Prop) : Prop := ∃ held r0 r1 s0 s1 s2 a0 a1 a2, MacAt w g key xs held r0 r1 s0 s1 s2 a0 a1 a2 ∧ ∀ b, hold held b → S b
theorem Mac.lt {w : World} {g : Nat} {key xs : List Int} {S : Nat → Prop} (h : Mac w g key xs S) : g < w.heap.size := by
  obtain ⟨_, _, _, _, _, _, _, _, _, h, _⟩ := h
  exact h.blk.lt
theorem Mac.stay {w w' : World} {g : Nat} {key xs : List Int} {S : Nat → Prop} (h : Mac w g key xs S) (hb : Below w.heap.size w w') : Mac w' g key xs S := by
  obtain ⟨a, b, c, d, e, f, i, j, k, h, hs⟩ := h
  exact ⟨a, b, c, d, e, f, i, j, k, ⟨h.blk.stay hb, h.held.stay hb, h.r, h.rv, h.s, h.sv, h.acc⟩, hs⟩
/-- Its memory is there already. -/
theorem Mac.clip {w : World} {g : Nat} {key xs : List Int} {S : Nat → Prop} (h : Mac w g key xs S) : Mac w g key xs (fun b => S b ∧ g < b ∧ b < w.heap.size) := by
  obtain ⟨a, b, c, d, e, f, i, j, k, h, hs⟩ := h
  exact ⟨a, b, c, d, e, f, i, j, k, h, fun x hx => ⟨hs x hx, by obtain ⟨o, n, c', e'⟩ := hx; exact h.held.lt _ _ _ _ e'⟩⟩
theorem Mac.turns {w w' : World} {g : Nat} {key xs : List Int} {S T : Nat → Prop} (h : Mac w g key xs S) (ht : Turns T w w') (hg : ¬ T g) (hT : ∀ b, S b → ¬ T b) : Mac w' g key xs S := by
  obtain ⟨a, b, c, d, e, f, i, j, k, h, hs⟩ := h
  refine ⟨a, b, c, d, e, f, i, j, k, ⟨h.blk.turns ht hg, h.held.move fun g' off n c' e' => ?_, h.r, h.rv, h.s, h.sv, h.acc⟩, hs⟩
  exact ht.block g' (h.held.lt _ _ _ _ e').2 (hT _ (hs _ ⟨_, _, _, e'⟩))
theorem Mac.mono {w : World} {g : Nat} {key xs : List Int} {S T : Nat → Prop} (h : Mac w g key xs S) (hT : ∀ b, S b → T b) : Mac w g key xs T := by
  obtain ⟨a, b, c, d, e, f, i, j, k, h, hs⟩ := h
  exact ⟨a, b, c, d, e, f, i, j, k, h, fun x hx => hT x (hs x hx)⟩
theorem clampV {key : List Int} (hk : IsB key) : leV (clampL key) < 21267647932558653966460912964485513216 := by
  have hb := clampL_isB hk
  have hl := clampL_len key
  have e : clampL key = (clampL key).take 15 ++ [(clampL key).getD 15 0] := by
    rw [← take_snoc (clampL key) 15 (by omega), List.take_of_length_le (by omega)]
  have h15 := clampL_get key 15 (by decide)
  rw [if_pos (by decide)] at h15
  have hx := hk.at_ 15
  have h1 := leV_range (xs := (clampL key).take 15) fun z hz => hb z (List.mem_of_mem_take hz)
  rw [List.length_take, hl, show min 15 16 = 15 from rfl] at h1
  rw [e, leV_append, List.length_take, hl, show min 15 16 = 15 from rfl, h15]
  simp only [leV]
  have e15 : (256 : Int) ^ 15 = 1329227995784915872903807060280344576 := by decide
  rw [e15] at *
  omega

set_option maxRecDepth 100000 in
set_option maxHeartbeats 4000000 in
theorem write_any (w : World) (g : Nat) (key xs ys : List Int) (v : Value) {S : Nat → Prop} (hkb : IsB key) (hm : Mac w g key xs S) (hd : Rd w v (bs ys)) (hys : IsB ys) (hxs : IsB xs) (hl : xs.length + ys.length ≤ 1000000000000) :
    Calls Tryd.prog 41 #[.pointer (some ⟨g, 0, none⟩), v] w fun e w' => e = .returned (.tuple #[]) ∧ Mac w' g key (xs ++ ys) (fun b => S b ∨ w.heap.size ≤ b) ∧ Turns (fun b => b = g ∨ S b) w w' := by
  obtain ⟨held, r0, r1, s0, s1, s2, a0, a1, a2, hm, hS⟩ := hm
  have HS := Lib.hid hS
  clear hS
  obtain ⟨q, hq⟩ : ∃ q, xs.length / 16 = q := ⟨_, rfl⟩
  have hqx : 16 * q ≤ xs.length := by omega
  have hall : xs.drop (16 * q) ++ ys = (xs ++ ys).drop (16 * q) := by rw [List.drop_append_of_le_length hqx]
  have hheld := hm.held
  rw [hq] at hheld
  have FI := Lib.hid (fill_any w g held r0 r1 s0 s1 s2 a0 a1 a2 true (xs.drop (16 * q)) ys v hm.blk hheld hd (by rw [List.length_drop]; omega))
  rw [hall] at FI
  have HM := Lib.hid hm
  have m9 := hm.blk.at_ 9 rfl
  have HCV := Lib.hid (clampV hkb)
  have HXY := Lib.hid (show IsB (xs ++ ys) from fun z hz => by
    rcases List.mem_append.1 hz with hz | hz
    · exact hxs z hz
    · exact hys z hz)
  have HQ := Lib.hid (fun _ : Unit => hq)
  have hql : ((xs ++ ys).drop (16 * q)).length = xs.length + ys.length - 16 * q := by rw [List.length_drop, List.length_append]
  obtain ⟨n, hn⟩ : ∃ n, ((xs ++ ys).drop (16 * q)).length / 16 = n := ⟨_, rfl⟩
  have hn2 : (xs.length + ys.length - 16 * q) / 16 = n := by rw [← hql]; exact hn
  have HN := Lib.hid (fun _ : Unit => hn)
  have hnq : (xs ++ ys).length / 16 = q + n := by rw [List.length_append]; omega
  have HNQ := Lib.hid (fun _ : Unit => hnq)
  clear hm hd hkb hheld hall hq hn hql hnq
  go_enter Tryd.func41, Tryd.ntmps41
  go_upto_region 1 with fail
  go_wp2_with (go_at_call 53; refine FI.out.mono ?_; rintro e w2 ⟨ov, w1, _, hv, ps, rfl, inv, htu, hhb⟩; have hlo : ∀ w', (Builtin.len_ #[34] 3 #[ov]).run Tryd.prog w' = .ok (goInt n) w' := (by
    have h1 := inv.out
    have h2 := len_fact (P := Tryd.prog) (Rd.of_own h1) (t := 34) (ty := 3) (by kernel_rfl)
    have h3 := h1.1
    rw [Nat.mul_one] at h3
    rw [h3, HN.out ()] at h2
    exact h2))
  have HI := Lib.hid inv
  have HT := Lib.hid htu
  have HHB := Lib.hid hhb
  clear hhb
  have ha0 : Blk w2 g (macC hv r0 r1 s0 s1 s2 a0 a1 a2 true) 92 ∧ AccOk [a0, a1, a2] (hK (leV (clampL key)) (xs ++ ys) (q + 0)) := by
    refine ⟨inv.mac, ?_⟩
    have := HM.out.acc
    rw [HQ.out ()] at this
    rwa [Nat.add_zero, hK_append _ _ _ _ hqx]
  have HA0 := Lib.hid ha0
  clear inv htu ha0 m9
  go_loopw [21] (fun x wr => ∃ (j : Nat) (a0 a1 a2 : Int), j ≤ n ∧ x = .int .i64 j ∧ (Blk wr g (macC hv r0 r1 s0 s1 s2 a0 a1 a2 true) 92 ∧ AccOk [a0, a1, a2] (hK (leV (clampL key)) (xs ++ ys) (q + j))) ∧ Turns (fun b => b = g) w2 wr) (fun x _ => n - (intOf x).toNat)
  case atStart => exact ⟨0, a0, a1, a2, Nat.zero_le _, rfl, HA0.out, Turns.refl _ _⟩
  case round =>
    obtain ⟨j, b0, b1, b2, hj, rfl, hba, htr⟩ := hrel
    have HBA := Lib.hid hba
    have HTR := Lib.hid htr
    clear hba htr HA0
    by_cases hlt : j < n
    · have hio := HI.out.out
      rw [HN.out ()] at hio
      rcases ownsRow_cases hio with ⟨rfl, hn0, _⟩ | ⟨go, cap, rfl, hgo, hgol, hnc, hcm, hcell, _, _⟩
      · omega
      have hpl : ps.length = n := by have := hio.1; rw [Nat.mul_one] at this; exact this
      obtain ⟨pv, hpv⟩ : ∃ pv, ps[j]? = some pv := ⟨_, List.getElem?_eq_getElem (by omega)⟩
      have hgg : go ≠ g := by
        have := HM.out.blk.lt
        have := HI.out.lo
        omega
      have e1 : wr.cell? ⟨go, j, none⟩ = some pv := HTR.out.cell hgg (hcell j pv hpv)
      obtain ⟨hpp, hpx⟩ := HI.out.pcs j pv hpv
      have hpr : Rd wr pv (bs (((xs ++ ys).drop (16 * (q + j))).take 16)) := by
        have h1 := hpp.turns (HI.out.tu.trans HTR.out) (fun b hb => by omega)
        have h2 := h1.rd
        rwa [List.drop_drop, ← Nat.mul_add] at h2
      have hpb : IsB (((xs ++ ys).drop (16 * (q + j))).take 16) := fun z hz => HXY.out z (List.mem_of_mem_drop (List.mem_of_mem_take hz))
      have ST := Lib.hid (step_any wr g hv r0 r1 s0 s1 s2 b0 b1 b2 true _ pv _ HBA.out.1 HM.out.r (by rw [HM.out.rv]; exact HCV.out) HBA.out.2 hpr hpb (by rw [List.length_take]; omega))
      rw [HM.out.rv] at ST
      unfold maxLen at hcm
      clear hio hpp hpr hpb hpv hcell
      go_wp2_with (go_at_call 54; refine ST.out.mono ?_; rintro e w3 ⟨rfl, n0, n1, n2, hac, hbk, hts⟩)
      refine ⟨⟨j + 1, n0, n1, n2, by omega, by go_num, ⟨hbk, ?_⟩, HTR.out.trans hts⟩, by simp [intOf]; omega⟩
      rw [← Nat.add_assoc]
      exact hac
    · obtain rfl : j = n := by omega
      go_wp2_with fail
      go_end0
      refine ⟨rfl, ⟨hv, r0, r1, s0, s1, s2, b0, b1, b2, ⟨HBA.out.1, ?_, HM.out.r, HM.out.rv, HM.out.s, HM.out.sv, ?_⟩, fun b hb => (HHB.out b hb).elim .inr fun h => .inl (HS.out b h)⟩, (HT.out.mono fun b hb => hb.imp_right (HS.out b)).trans (HTR.out.mono fun b hb => .inl hb)⟩
      · have h1 := HI.out.held.turns (HI.out.tu.trans HTR.out) (fun b hb => by omega)
        rw [HN.out (), List.drop_drop, ← Nat.mul_add] at h1
        rw [HNQ.out ()]
        exact h1
      · rw [HNQ.out ()]
        exact HBA.out.2
end Go.Proofs.YtmjjnaaiakchhaaDoor
end

section
/-
  (*poly.Mac).Sum.
-/
namespace Go.Proofs.YtmjjnaaiakchhaaDoor
open Go.RowKit

theorem tagL_len (key xs : List Int) : (tagL key xs).length = 16 := by rw [tagL, lowN_len]
theorem tagL_isB (key xs : List Int) : IsB (tagL key xs) := lowN_isB _ _
theorem macC_one (held : Value) (r0 r1 s0 s1 s2 a0 a1 a2 : Int) (on : Bool) (hh : held.oneCell' = true) : ∀ y ∈ macC held r0 r1 s0 s1 s2 a0 a1 a2 on, y.oneCell' = true := by
  intro y hy
  simp only [macC, List.mem_cons, List.not_mem_nil, or_false] at hy
  rcases hy with rfl | rfl | rfl | rfl | rfl | rfl | rfl | rfl | rfl | rfl <;> first | exact hh | rfl

set_option maxRecDepth 100000 in
set_option maxHeartbeats 8000000 in
theorem macsum_any (w : World) (g : Nat) (key xs : List Int) {S : Nat → Prop} (hkb : IsB key) (hxs : IsB xs) (hk : key.length = 32) (hm : Mac w g key xs S) :
    Calls Tryd.prog 44 #[.pointer (some ⟨g, 0, none⟩)] w fun e w' => e = .returned (.agg (bs (tagL key xs)).toArray) ∧ Below w.heap.size w w' := by
  obtain ⟨held, r0, r1, s0, s1, s2, a0, a1, a2, hm, _⟩ := hm
  obtain ⟨B, hB⟩ : ∃ B, w.heap.size = B := ⟨_, rfl⟩
  have HM := Lib.hid hm
  have HCV := Lib.hid (clampV hkb)
  have HXS := Lib.hid hxs
  have HKB := Lib.hid hkb
  have HK := Lib.hid hk
  have hgl := hm.blk.lt
  obtain ⟨ht, hht⟩ : ∃ ht, xs.drop (16 * (xs.length / 16)) = ht := ⟨_, rfl⟩
  have hhl : ht.length = xs.length % 16 := by rw [← hht, List.length_drop]; omega
  have hheld := hm.held
  rw [hht] at hheld
  obtain ⟨A, c, hv, hc1, hc2, _⟩ := id hheld.rd
  rw [bs_len] at hv hc1
  subst hv
  unfold maxLen at hc2
  have HT := Lib.hid (fun _ : Unit => (⟨hht, hhl⟩ : xs.drop (16 * (xs.length / 16)) = ht ∧ ht.length = xs.length % 16))
  have HP := Lib.hid hheld
  have m9 := hm.blk.at_ 9 rfl
  clear hm hkb hxs hheld hht hk hhl
  go_enter Tryd.func44, Tryd.ntmps44
  go_upto_region 2 with fail
  change Code.wp _ _ _ _ ((w.alloc (.cells (bs (List.replicate 16 0)).toArray 53)).alloc (.cells (bs (List.replicate 16 0)).toArray 53))
  have b0 : Blk ((w.alloc (.cells (bs (List.replicate 16 0)).toArray 53)).alloc (.cells (bs (List.replicate 16 0)).toArray 53)) B (bs (List.replicate 16 0)) 53 := (Blk.mk_ _ hB.symm rfl).al _
  have b1 : Blk ((w.alloc (.cells (bs (List.replicate 16 0)).toArray 53)).alloc (.cells (bs (List.replicate 16 0)).toArray 53)) (B + 1) (bs (List.replicate 16 0)) 53 := Blk.mk_ _ (by simp [hB]) rfl
  have bb : Below B w ((w.alloc (.cells (bs (List.replicate 16 0)).toArray 53)).alloc (.cells (bs (List.replicate 16 0)).toArray 53)) := bw_al (bw_al (Below.refl _ _) (by omega) _) (by simp; omega) _
  generalize ((w.alloc (.cells (bs (List.replicate 16 0)).toArray 53)).alloc (.cells (bs (List.replicate 16 0)).toArray 53)) = w1 at *
  rw [hB] at hgl
  have hm1 := HM.out.blk.keep bb hgl
  have m9' := hm1.at_ 9 rfl
  have hB1 : B + 1 < w1.heap.size := b1.lt
  have HB := Lib.hid (⟨b0, b1, bb⟩ : _ ∧ _ ∧ _)
  have kr := load_fact hm1 88 1 (ys := [.int .u64 r0, .int .u64 r1]) rfl Tryd.underlying88 rfl (n := 2) (by kernel_rfl) rfl
  have ka := load_fact hm1 90 6 (ys := [.int .u64 a0, .int .u64 a1, .int .u64 a2]) rfl Tryd.underlying90 rfl (n := 3) (by kernel_rfl) rfl
  have ks := load_fact hm1 90 3 (ys := uq [s0, s1, s2]) rfl Tryd.underlying90 rfl (n := 3) (by kernel_rfl) rfl
  have k0 : ∀ w', Below w1.heap.size w1 w' → w'.cell? ⟨g, 0, none⟩ = some (.slice A ht.length c) := fun w' h => (hm1.stay h).at_ 0 rfl
  have HM1 := Lib.hid hm1
  clear b0 b1 bb m9 hm1
  go_upto_region 4 with fail
  have hbl0 : Below w1.heap.size w1 w1.drew := bw_d1 (Below.refl _ _)
  refine region_plan ⟨[0, 1, 3, 7, 0, 16, 48, 112, 255, 0, 1023], [9, 10], [0, 0, 0, 0, 0, 0, 0, 0, 0, 0, 1]⟩
    [⟨[0, 1, 2, 3, 4, 5, 6, 7, 8], [1, 2, 3, 5, 6, 7, 8], some 9⟩, ⟨[], [1, 2, 3, 5, 6, 7, 8], some 10⟩, ⟨[], [], none⟩] 57 (by kernel_rfl) (by kernel_rfl) (by kernel_rfl) (by kernel_rfl) rfl ?_
  simp only [SeqGo, opsAt_cons, opsAt_nil, List.getElem?_cons, Option.toList_some, List.singleton_append, ↓reduceIte, Nat.reduceEqDiff, Nat.reduceSub]
  go_wp2_with (first
    | (refine wp_load_f rfl 88 (.tmp 18) rfl rfl (kr _ (by assumption)) ?_)
    | (refine wp_load_f rfl 90 (.tmp 22) rfl rfl (ka _ (by assumption)) ?_))
  refine ⟨by
    simp only [Sames]
    refine ⟨?_, ?_, ?_, ?_, ?_, ?_, ?_, trivial⟩
    all_goals first
      | exact same_load rfl 88 (.tmp 18) rfl rfl (kr _ (by assumption)) rfl
      | exact same_load rfl 90 (.tmp 22) rfl rfl (ka _ (by assumption)) rfl
      | (simp only [Same]; go_simp), ?_⟩
  go_wp2_with fail
  refine ⟨by
    simp only [Sames]
    refine ⟨?_, ?_, ?_, ?_, ?_, ?_, ?_, trivial⟩
    all_goals first
      | exact same_load rfl 88 (.tmp 18) rfl rfl (kr _ (by first | exact bw_d1 (bw_al (Below.refl _ _) (Nat.le_refl _) _) | exact bw_al (bw_d1 (Below.refl _ _)) (Nat.le_refl _) _)) rfl
      | exact same_load rfl 90 (.tmp 22) rfl rfl (ka _ (by first | exact bw_d1 (bw_al (Below.refl _ _) (Nat.le_refl _) _) | exact bw_al (bw_d1 (Below.refl _ _)) (Nat.le_refl _) _)) rfl
      | (simp only [Same]; go_simp), ?_⟩
  --TAIL
  go_upto_region 5 with (refine wp_store_blk rfl 92 (.tmp 4) (.tmp 24) rfl rfl rfl (cs := macC (.slice none 0 0) 0 0 0 0 0 0 0 0 false) (cs' := macC (.slice none 0 0) r0 r1 0 0 0 a0 a1 a2 false) (Blk.d1 (Blk.mk_ _ rfl rfl)) (macC_one _ _ _ _ _ _ _ _ _ _ rfl) rfl (n := 10) (by kernel_rfl) rfl ?_; intro w2 hbx hon)
  refine ⟨trivial, ?_⟩
  go_upto_region 5 with fail
  have bl2 : Below w1.heap.size w1 w2 := hon.below (bw_d1 (bw_al (Below.refl _ _) (Nat.le_refl _) _)) (Nat.le_refl _)
  obtain ⟨g4, hg4⟩ : ∃ g4, w1.heap.size = g4 := ⟨_, rfl⟩
  have HBX := Lib.hid (show Blk w2 g4 (macC (.slice none 0 0) r0 r1 0 0 0 a0 a1 a2 false) 92 from by rw [← hg4]; exact hbx)
  have HG4 := Lib.hid (fun _ : Unit => hg4)
  have hB14 : B + 1 < g4 := by omega
  simp only [hg4]
  clear hbx hon kr ka hbl0 hg4 m9'
  by_cases hh : ht.length = 0
  · have hnp : ¬ (0 : Int) < (ht.length : Int) := by omega
    have HAC := Lib.hid (show AccOk [a0, a1, a2] (hK (leV (clampL key)) xs ((xs.length + 15) / 16)) from by
      have h := HM.out.acc
      have h2 := (HT.out ()).2
      rwa [show (xs.length + 15) / 16 = xs.length / 16 by omega])
    have F4 := HBX
    have bl3 := bl2
    have NW := Lib.hid HAC.out.2.1
    have SR := Lib.hid (fun _ : Unit => (show leW [a0, a1, a2] % pr + leW [s0, s1, s2] < 6277101735386680763835789423207666416102355444464034512896 from by
      have h1 := hK_range (leV (clampL key)) xs ((xs.length + 15) / 16)
      have h2 := HAC.out.2.2.2
      have h3 := HM.out.sv
      have h4 := leV_range (xs := (key.drop 16).take 16) fun z hz => HKB.out z (List.mem_of_mem_drop (List.mem_of_mem_take hz))
      rw [List.length_take, List.length_drop, HK.out, show (256 : Int) ^ min 16 (32 - 16) = 340282366920938463463374607431768211456 by decide] at h4
      rw [h2, h3]
      unfold pr at h1
      omega))
    go_upto_region 7 with fail
    refine region_draws [(38, ?v38), (39, .agg (uq [a0, a1, a2]).toArray), (41, ?v41), (42, ?v42), (43, ?v43), (44, .agg (uq [s0, s1, s2]).toArray)] [40, 45, 5]
      (fun L T wx => Below w2.heap.size w2 wx ∧ (L 2 = true → ∃ l : List Int, T 40 = .agg (uq l).toArray ∧ l.length = 3 ∧ IsW l ∧ leW l = leW [a0, a1, a2] % pr) ∧ (L 7 = true → ∃ y : List Int, T 45 = .agg (uq y).toArray ∧ y.length = 3 ∧ IsW y ∧ leW y = leW [a0, a1, a2] % pr + leW [s0, s1, s2]) ∧
        (L 8 = true → ∃ g9, T 5 = .pointer (some ⟨g9, 0, none⟩) ∧ w2.heap.size ≤ g9 ∧ (L 9 = false → Blk wx g9 (uq [0, 0, 0]) 90) ∧ (L 9 = true → ∃ y : List Int, T 45 = .agg (uq y).toArray ∧ Blk wx g9 (uq y) 90)))
      (fun _ => undef) (by kernel_rfl) (by kernel_rfl) 57 rfl (by kernel_rfl) ?g0 ?hops ?hend
    case g0 => exact ⟨bw_d1 (Below.refl _ _), (fun h => by simp at h), (fun h => by simp at h), (fun h => by simp at h)⟩
    case hops =>
      simp only [AllFrom]
      refine ⟨?_, ?_, ?_, ?_, ?_, ?_, ?_, ?_, ?_, ?_, trivial⟩
      · (intro L T w hpre hpost hG; skip; first | exact .inl ⟨rfl, rfl⟩ | (refine .inl ⟨rfl, ?_⟩; simp only [execOp]; go_simp; (try go_ints); (try go_simp); (try rw [if_pos (by omega)]); (first | done | rfl)))
      · (intro L T w hpre hpost hG; exact .inl ⟨rfl, exec_load_sub 90 (.tmp 38) rfl rfl ((F4.out.stay hG.1).part 6 rfl) Tryd.underlying90 rfl (n := 3) (by kernel_rfl) rfl⟩)
      · intro L T w hL hpre hpost hG
        obtain ⟨h1, h2, h3, h4⟩ := hG
        refine .inl ⟨rfl, fun a K hK => ?_⟩
        simp only [execOp]
        go_simp
        refine (least_any w a0 a1 a2 NW.out).mono ?_
        rintro e w' ⟨l, rfl, q1, q2, q3, hb⟩
        refine hK _ _ ⟨bw_then h1 hb h1.size, fun _ => ⟨l, by simp, q1, q2, q3⟩, fun h => by simpa using h3 (by simpa using h), fun h => ?_⟩
        obtain ⟨g9, x1, x2, x3, x4⟩ := h4 (by simpa using h)
        refine ⟨g9, by simpa using x1, x2, fun h => (x3 (by simpa using h)).stay hb, fun h => ?_⟩
        obtain ⟨y, y1, y2⟩ := x4 (by simpa using h)
        exact ⟨y, by simpa using y1, y2.stay hb⟩
      · (intro L T w hpre hpost hG; skip; first | exact .inl ⟨rfl, rfl⟩ | (refine .inl ⟨rfl, ?_⟩; simp only [execOp]; go_simp; (try go_ints); (try go_simp); (try rw [if_pos (by omega)]); (first | done | rfl)))
      · (intro L T w hpre hpost hG; skip; first | exact .inl ⟨rfl, rfl⟩ | (refine .inl ⟨rfl, ?_⟩; simp only [execOp]; go_simp; (try go_ints); (try go_simp); (try rw [if_pos (by omega)]); (first | done | rfl)))
      · (intro L T w hpre hpost hG; skip; first | exact .inl ⟨rfl, rfl⟩ | (refine .inl ⟨rfl, ?_⟩; simp only [execOp]; go_simp; (try go_ints); (try go_simp); (try rw [if_pos (by omega)]); (first | done | rfl)))
      · (intro L T w hpre hpost hG; exact .inl ⟨rfl, exec_load_sub 90 (.tmp 43) rfl rfl (((HM1.out.stay bl3).stay hG.1).part 3 rfl) Tryd.underlying90 rfl (n := 3) (by kernel_rfl) rfl⟩)
      · intro L T w hL hpre hpost hG
        obtain ⟨h1, h2, h3, h4⟩ := hG
        obtain ⟨l, l1, l2, l3, l4⟩ := h2 (hpre 2 rfl rfl)
        refine .inl ⟨rfl, fun a K hK => ?_⟩
        simp only [execOp]
        go_simp
        try rw [l1]
        refine (add_any w l [s0, s1, s2] l2 rfl l3 HM.out.s).mono ?_
        rintro e w' ⟨rfl, hb⟩
        have hs : leW l + leW [s0, s1, s2] < 6277101735386680763835789423207666416102355444464034512896 := by rw [l4]; have := SR.out (); omega
        refine hK _ _ ⟨bw_then h1 hb h1.size, fun h => ⟨l, by simpa using l1, l2, l3, l4⟩, fun _ => ⟨addW l [s0, s1, s2], by simp, (addW_len _ _).trans l2, adK_isW l3 3, by rw [addW_val l2 rfl l3 HM.out.s hs, l4]⟩, fun h => ?_⟩
        obtain ⟨g9, x1, x2, x3, x4⟩ := h4 (by simpa using h)
        have h9 := hpost 9 _ rfl rfl
        refine ⟨g9, by simpa using x1, x2, fun h => (x3 h9).stay hb, fun h => by simp [h9] at h⟩
      · intro L T w hL hpre hpost hG
        obtain ⟨h1, h2, h3, h4⟩ := hG
        have h9 := hpost 9 _ rfl rfl
        refine .inl ⟨rfl, fun a K hK => ?_⟩
        simp only [execOp]
        go_simp
        have hsz := h1.size
        refine hK (.pointer (some ⟨w.heap.size, 0, none⟩)) _ ⟨bw_al h1 (by omega) _, fun h => by simpa using h2 (by simpa using h), fun h => by simpa using h3 (by simpa using h), fun _ => ⟨w.heap.size, by simp, by omega, fun _ => Blk.mk_ w rfl rfl, fun h => by simp [h9] at h⟩⟩
      · intro L T w hL hpre hpost hG
        obtain ⟨h1, h2, h3, h4⟩ := hG
        obtain ⟨y, y1, y2, y3, y4⟩ := h3 (hpre 7 rfl rfl)
        obtain ⟨g9, x1, x2, x3, x4⟩ := h4 (hpre 8 rfl rfl)
        refine .inl ⟨rfl, fun a K hK => ?_⟩
        have hl9 : (uq y).length = 3 := (uq_len y).trans y2
        refine upon_store_blk 90 (.tmp 5) (.tmp 45) rfl x1 y1 (x3 hL) (uq_one _) (hl9.trans rfl) (n := 3) (by kernel_rfl) hl9 fun w' hbn hon => hK undef _ ⟨hon.below h1 x2, fun h => by simpa using h2 (by simpa using h), fun _ => ⟨y, by simpa using y1, y2, y3, y4⟩, fun _ => ⟨g9, by simpa using x1, x2, fun h => by simp at h, fun _ => ⟨y, by simpa using y1, hbn⟩⟩⟩
    case hend =>
      intro L T w9 hall hG
      obtain ⟨h1, h2, h3, h4⟩ := hG
      obtain ⟨y, y1, y2, y3, y4⟩ := h3 (hall 7 (by decide) (by kernel_rfl))
      obtain ⟨g9, x1, x2, x3, x4⟩ := h4 (hall 8 (by decide) (by kernel_rfl))
      obtain ⟨y', y1', hb9⟩ := x4 (hall 9 (by decide) (by kernel_rfl))
      simp only [fillT, fillP, List.foldl_cons, List.foldl_nil, Act.put, x1, y1, List.setIfInBounds_toArray, List.set_cons_succ, List.set_cons_zero]
      have hyy : uq y' = uq y := by
        have h := y1'.symm.trans y1
        injection h with h
        have h6 := congrArg Array.toList h
        simpa using h6
      rw [hyy] at hb9
      obtain ⟨z0, z1, z2, rfl⟩ : ∃ a b c, y = [a, b, c] := match y, y2 with | [a, b, c], _ => ⟨a, b, c, rfl⟩
      have e0 := hb9.at_ 0 rfl
      have e1 := hb9.at_ 1 rfl
      have hz0 := y3 z0 (by simp)
      have hz1 := y3 z1 (by simp)
      have hz2 := y3 z2 (by simp)
      have hval : lowN z0 8 ++ lowN z1 8 = tagL key xs := by
        refine leV_inj (fun z hz => by rcases List.mem_append.1 hz with hz | hz <;> exact lowN_isB _ _ z hz) (lowN_isB _ _) (by rw [List.length_append, lowN_len, lowN_len, tagL, lowN_len]) ?_
        rw [tagL, leV_append, lowN_len, leV_lowN _ _ hz0.1, leV_lowN _ _ hz1.1, leV_lowN _ _ (by
          have h1 := (hK_range (leV (clampL key)) xs ((xs.length + 15) / 16)).1
          have h4 := (leV_range (xs := (key.drop 16).take 16) fun z hz => HKB.out z (List.mem_of_mem_drop (List.mem_of_mem_take hz))).1
          omega), ← HAC.out.2.2.2, ← HM.out.sv, ← y4]
        rw [show (256 : Int) ^ 8 = 18446744073709551616 by decide, show (256 : Int) ^ 16 = 340282366920938463463374607431768211456 by decide]
        simp only [leW]
        omega
      have HVAL := Lib.hid (fun _ : Unit => hval)
      have k0 : ∀ w', Below w9.heap.size w9 w' → w'.cell? ⟨g9, 0, none⟩ = some (.int .u64 z0) := fun w' h => (hb9.stay h).at_ 0 rfl
      have k1 : ∀ w', Below w9.heap.size w9 w' → w'.cell? ⟨g9, 1, none⟩ = some (.int .u64 z1) := fun w' h => (hb9.stay h).at_ 1 rfl
      have s16 := fun w => slice16 w (B + 1)
      have bl9 : Below w1.heap.size w1 w9 := bl3.trans (h1.mono bl3.size)
      have BL9 := Lib.hid bl9
      clear h2 h3 h4 x1 x3 x4 hall y1 y1' hb9 hyy hval y3 y4 L h1
      go_upto_region 8 with fail
      have hbl0 : Below w9.heap.size w9 w9.drew := bw_d1 (Below.refl _ _)
      refine region_plan ⟨[0, 0, 2, 6, 0, 16, 62, 126, 254, 511], [3, 6, 7, 8, 9], [0, 0, 0, 0, 0, 0, 1, 2, 3, 4]⟩
        [⟨[0, 1, 2, 4, 5], [0, 1, 2, 4, 5], some 3⟩, ⟨[], [0, 4, 5], some 6⟩, ⟨[], [0], some 7⟩, ⟨[], [0], some 8⟩, ⟨[], [0], some 9⟩, ⟨[], [], none⟩] 57 (by kernel_rfl) (by kernel_rfl) (by kernel_rfl) (by kernel_rfl) rfl ?_
      simp only [SeqGo, opsAt_cons, opsAt_nil, List.getElem?_cons, Option.toList_some, List.singleton_append, ↓reduceIte, Nat.reduceEqDiff, Nat.reduceSub]
      go_wp2_with fail
      refine ⟨by (simp only [Sames, Same]; go_simp), ?_⟩
      go_wp2_with (go_at_call 43; refine (putLe64_any _ [] z0 _ (Rd.nil _) (by decide) hz0.1).mono ?_; rintro e wa ⟨va, rfl, hba, hoa⟩; obtain ⟨Aa, ca, rfl, _⟩ := id (Rd.of_own hoa); have hbla := bw_then hbl0 hba hbl0.size; have HRA := Lib.hid (Rd.of_own hoa); clear hoa)
      refine ⟨by (simp only [Sames, Same]; go_simp), ?_⟩
      go_wp2_with (go_at_call 43; refine (putLe64_any _ [] z1 _ (Rd.nil _) (by decide) hz1.1).mono ?_; rintro e wb ⟨vb, rfl, hbb, hob⟩; obtain ⟨Ab, cb, rfl, _⟩ := id (Rd.of_own hob); have hblb := bw_then hbla hbb hbla.size; have HRB := Lib.hid (Rd.of_own hob); clear hob)
      refine ⟨by (simp only [Sames, Same]; go_simp), ?_⟩
      go_wp2_with fail
      refine ⟨by (simp only [Sames, Same]; go_simp), ?_⟩
      go_wp2_with (go_at_call 58; refine (join2_any _ wb.heap.size _ _ 30 (lowN z0 8) (lowN z1 8) (by first | exact Blk.mk_ _ rfl rfl | exact Blk.d1 (Blk.mk_ _ rfl rfl)) ((HRA.out.stay hbb (Nat.le_refl _)).stay (bw_al (Below.refl _ _) (Nat.le_refl _) _) (Nat.le_refl _)) (HRB.out.stay (bw_al (Below.refl _ _) (Nat.le_refl _) _) (Nat.le_refl _)) (by rw [lowN_len, lowN_len]; decide)).mono ?_; rintro e wj ⟨vj, rfl, hrj, hbj⟩; have hblj := bw_then (bw_al hblb hblb.size _) hbj (by have := hblb.size; simp; omega))
      refine ⟨by (simp only [Sames, Same]; go_simp), ?_⟩
      have hblw := BL9.out.trans (hblj.mono BL9.out.size)
      have hjl : (bs (lowN z0 8 ++ lowN z1 8)).length = 16 := by rw [bs_len, List.length_append, lowN_len, lowN_len]
      have HRJ := Lib.hid hrj
      clear hrj
      go_wp2_with (refine wp_copy (.tmp 46) (.tmp 54) 30 30 rfl rfl 5 Tryd.underlying30 (by kernel_rfl) rfl rfl HRJ.out (by rw [hjl]; decide) (by rw [hjl]; exact Nat.le_refl _) (HB.out.2.1.stay hblw) (by rw [hjl]; decide) (bs_one _) ?_; intro wk hbk honk)
      refine ⟨trivial, ?_⟩
      rw [hjl] at hbk
      have hbk2 : Blk wk (B + 1) (bs (tagL key xs)) 53 := by
        rw [← HVAL.out ()]
        rw [Nat.zero_add, List.drop_of_length_le (by rw [bs_len, List.length_replicate]; exact Nat.le_refl _), List.take_zero, List.nil_append, List.append_nil] at hbk
        exact hbk
      have htl : (bs (tagL key xs)).length = 16 := by rw [bs_len, tagL, lowN_len]
      have hbB := (HB.out.1.stay hblw).only honk (by omega)
      have HBW := Lib.hid (honk.below (bw_then HB.out.2.2 hblw (by omega)) (by omega))
      clear hbk
      go_wp2_with (first
        | (refine wp_load_blk rfl 53 (.tmp 3) rfl rfl hbk2 Tryd.underlying53 rfl (n := 16) (by kernel_rfl) htl ?_)
        | (refine wp_store_blk rfl 53 (.tmp 2) (.tmp 56) rfl rfl rfl hbB (bs_one _) (by rw [htl]; rfl) (n := 16) (by kernel_rfl) htl ?_; intro wz hbz honz))
      refine ret_blk rfl rfl hbz Tryd.underlying53 rfl (n := 16) (by kernel_rfl) htl rfl ?_
      exact ⟨rfl, by rw [hB]; exact honz.below HBW.out (Nat.le_refl _)⟩
  · have hnp : (0 : Int) < (ht.length : Int) := by omega
    have hp2 : Rd w2 (.slice A ht.length c) (bs ht) := by
      have h1 := HP.out.rd
      have h2 := h1.stay HB.out.2.2 (by omega)
      exact h2.stay bl2 (Nat.le_refl _)
    have hbt : IsB ht := fun z hz => by rw [← (HT.out ()).1] at hz; exact HXS.out z (List.mem_of_mem_drop hz)
    have ST := Lib.hid (step_any w2 g4 (.slice none 0 0) r0 r1 0 0 0 a0 a1 a2 false _ _ ht HBX.out HM.out.r (by rw [HM.out.rv]; exact HCV.out) HM.out.acc hp2 hbt (by have := (HT.out ()).2; omega))
    go_upto_region 7 with (go_at_call 54; refine ST.out.mono ?_; rintro e w3 ⟨rfl, n0, n1, n2, hac, hbk, hts⟩)
    have HAC := Lib.hid (show AccOk [n0, n1, n2] (hK (leV (clampL key)) xs ((xs.length + 15) / 16)) from by
      have h2 := HT.out ()
      rw [HM.out.rv] at hac
      rw [show (xs.length + 15) / 16 = xs.length / 16 + 1 by omega, hK, h2.1, List.take_of_length_le (by omega)]
      exact hac)
    have F4 := Lib.hid hbk
    have bl3 : Below w1.heap.size w1 w3 := bl2.trans ⟨hts.os, hts.tape, hts.output, hts.size, fun j hj => hts.block j (by have := bl2.size; omega) (by have := HG4.out (); omega)⟩
    clear hac hbk hts hp2 hbt
    have NW := Lib.hid HAC.out.2.1
    have SR := Lib.hid (fun _ : Unit => (show leW [n0, n1, n2] % pr + leW [s0, s1, s2] < 6277101735386680763835789423207666416102355444464034512896 from by
      have h1 := hK_range (leV (clampL key)) xs ((xs.length + 15) / 16)
      have h2 := HAC.out.2.2.2
      have h3 := HM.out.sv
      have h4 := leV_range (xs := (key.drop 16).take 16) fun z hz => HKB.out z (List.mem_of_mem_drop (List.mem_of_mem_take hz))
      rw [List.length_take, List.length_drop, HK.out, show (256 : Int) ^ min 16 (32 - 16) = 340282366920938463463374607431768211456 by decide] at h4
      rw [h2, h3]
      unfold pr at h1
      omega))
    refine region_draws [(38, ?v38), (39, .agg (uq [n0, n1, n2]).toArray), (41, ?v41), (42, ?v42), (43, ?v43), (44, .agg (uq [s0, s1, s2]).toArray)] [40, 45, 5]
      (fun L T wx => Below w3.heap.size w3 wx ∧ (L 2 = true → ∃ l : List Int, T 40 = .agg (uq l).toArray ∧ l.length = 3 ∧ IsW l ∧ leW l = leW [n0, n1, n2] % pr) ∧ (L 7 = true → ∃ y : List Int, T 45 = .agg (uq y).toArray ∧ y.length = 3 ∧ IsW y ∧ leW y = leW [n0, n1, n2] % pr + leW [s0, s1, s2]) ∧
        (L 8 = true → ∃ g9, T 5 = .pointer (some ⟨g9, 0, none⟩) ∧ w3.heap.size ≤ g9 ∧ (L 9 = false → Blk wx g9 (uq [0, 0, 0]) 90) ∧ (L 9 = true → ∃ y : List Int, T 45 = .agg (uq y).toArray ∧ Blk wx g9 (uq y) 90)))
      (fun _ => undef) (by kernel_rfl) (by kernel_rfl) 57 rfl (by kernel_rfl) ?g0 ?hops ?hend
    case g0 => exact ⟨bw_d1 (Below.refl _ _), (fun h => by simp at h), (fun h => by simp at h), (fun h => by simp at h)⟩
    case hops =>
      simp only [AllFrom]
      refine ⟨?_, ?_, ?_, ?_, ?_, ?_, ?_, ?_, ?_, ?_, trivial⟩
      · (intro L T w hpre hpost hG; skip; first | exact .inl ⟨rfl, rfl⟩ | (refine .inl ⟨rfl, ?_⟩; simp only [execOp]; go_simp; (try go_ints); (try go_simp); (try rw [if_pos (by omega)]); (first | done | rfl)))
      · (intro L T w hpre hpost hG; exact .inl ⟨rfl, exec_load_sub 90 (.tmp 38) rfl rfl ((F4.out.stay hG.1).part 6 rfl) Tryd.underlying90 rfl (n := 3) (by kernel_rfl) rfl⟩)
      · intro L T w hL hpre hpost hG
        obtain ⟨h1, h2, h3, h4⟩ := hG
        refine .inl ⟨rfl, fun a K hK => ?_⟩
        simp only [execOp]
        go_simp
        refine (least_any w n0 n1 n2 NW.out).mono ?_
        rintro e w' ⟨l, rfl, q1, q2, q3, hb⟩
        refine hK _ _ ⟨bw_then h1 hb h1.size, fun _ => ⟨l, by simp, q1, q2, q3⟩, fun h => by simpa using h3 (by simpa using h), fun h => ?_⟩
        obtain ⟨g9, x1, x2, x3, x4⟩ := h4 (by simpa using h)
        refine ⟨g9, by simpa using x1, x2, fun h => (x3 (by simpa using h)).stay hb, fun h => ?_⟩
        obtain ⟨y, y1, y2⟩ := x4 (by simpa using h)
        exact ⟨y, by simpa using y1, y2.stay hb⟩
      · (intro L T w hpre hpost hG; skip; first | exact .inl ⟨rfl, rfl⟩ | (refine .inl ⟨rfl, ?_⟩; simp only [execOp]; go_simp; (try go_ints); (try go_simp); (try rw [if_pos (by omega)]); (first | done | rfl)))
      · (intro L T w hpre hpost hG; skip; first | exact .inl ⟨rfl, rfl⟩ | (refine .inl ⟨rfl, ?_⟩; simp only [execOp]; go_simp; (try go_ints); (try go_simp); (try rw [if_pos (by omega)]); (first | done | rfl)))
      · (intro L T w hpre hpost hG; skip; first | exact .inl ⟨rfl, rfl⟩ | (refine .inl ⟨rfl, ?_⟩; simp only [execOp]; go_simp; (try go_ints); (try go_simp); (try rw [if_pos (by omega)]); (first | done | rfl)))
      · (intro L T w hpre hpost hG; exact .inl ⟨rfl, exec_load_sub 90 (.tmp 43) rfl rfl (((HM1.out.stay bl3).stay hG.1).part 3 rfl) Tryd.underlying90 rfl (n := 3) (by kernel_rfl) rfl⟩)
      · intro L T w hL hpre hpost hG
        obtain ⟨h1, h2, h3, h4⟩ := hG
        obtain ⟨l, l1, l2, l3, l4⟩ := h2 (hpre 2 rfl rfl)
        refine .inl ⟨rfl, fun a K hK => ?_⟩
        simp only [execOp]
        go_simp
        try rw [l1]
        refine (add_any w l [s0, s1, s2] l2 rfl l3 HM.out.s).mono ?_
        rintro e w' ⟨rfl, hb⟩
        have hs : leW l + leW [s0, s1, s2] < 6277101735386680763835789423207666416102355444464034512896 := by rw [l4]; have := SR.out (); omega
        refine hK _ _ ⟨bw_then h1 hb h1.size, fun h => ⟨l, by simpa using l1, l2, l3, l4⟩, fun _ => ⟨addW l [s0, s1, s2], by simp, (addW_len _ _).trans l2, adK_isW l3 3, by rw [addW_val l2 rfl l3 HM.out.s hs, l4]⟩, fun h => ?_⟩
        obtain ⟨g9, x1, x2, x3, x4⟩ := h4 (by simpa using h)
        have h9 := hpost 9 _ rfl rfl
        refine ⟨g9, by simpa using x1, x2, fun h => (x3 h9).stay hb, fun h => by simp [h9] at h⟩
      · intro L T w hL hpre hpost hG
        obtain ⟨h1, h2, h3, h4⟩ := hG
        have h9 := hpost 9 _ rfl rfl
        refine .inl ⟨rfl, fun a K hK => ?_⟩
        simp only [execOp]
        go_simp
        have hsz := h1.size
        refine hK (.pointer (some ⟨w.heap.size, 0, none⟩)) _ ⟨bw_al h1 (by omega) _, fun h => by simpa using h2 (by simpa using h), fun h => by simpa using h3 (by simpa using h), fun _ => ⟨w.heap.size, by simp, by omega, fun _ => Blk.mk_ w rfl rfl, fun h => by simp [h9] at h⟩⟩
      · intro L T w hL hpre hpost hG
        obtain ⟨h1, h2, h3, h4⟩ := hG
        obtain ⟨y, y1, y2, y3, y4⟩ := h3 (hpre 7 rfl rfl)
        obtain ⟨g9, x1, x2, x3, x4⟩ := h4 (hpre 8 rfl rfl)
        refine .inl ⟨rfl, fun a K hK => ?_⟩
        have hl9 : (uq y).length = 3 := (uq_len y).trans y2
        refine upon_store_blk 90 (.tmp 5) (.tmp 45) rfl x1 y1 (x3 hL) (uq_one _) (hl9.trans rfl) (n := 3) (by kernel_rfl) hl9 fun w' hbn hon => hK undef _ ⟨hon.below h1 x2, fun h => by simpa using h2 (by simpa using h), fun _ => ⟨y, by simpa using y1, y2, y3, y4⟩, fun _ => ⟨g9, by simpa using x1, x2, fun h => by simp at h, fun _ => ⟨y, by simpa using y1, hbn⟩⟩⟩
    case hend =>
      intro L T w9 hall hG
      obtain ⟨h1, h2, h3, h4⟩ := hG
      obtain ⟨y, y1, y2, y3, y4⟩ := h3 (hall 7 (by decide) (by kernel_rfl))
      obtain ⟨g9, x1, x2, x3, x4⟩ := h4 (hall 8 (by decide) (by kernel_rfl))
      obtain ⟨y', y1', hb9⟩ := x4 (hall 9 (by decide) (by kernel_rfl))
      simp only [fillT, fillP, List.foldl_cons, List.foldl_nil, Act.put, x1, y1, List.setIfInBounds_toArray, List.set_cons_succ, List.set_cons_zero]
      have hyy : uq y' = uq y := by
        have h := y1'.symm.trans y1
        injection h with h
        have h6 := congrArg Array.toList h
        simpa using h6
      rw [hyy] at hb9
      obtain ⟨z0, z1, z2, rfl⟩ : ∃ a b c, y = [a, b, c] := match y, y2 with | [a, b, c], _ => ⟨a, b, c, rfl⟩
      have e0 := hb9.at_ 0 rfl
      have e1 := hb9.at_ 1 rfl
      have hz0 := y3 z0 (by simp)
      have hz1 := y3 z1 (by simp)
      have hz2 := y3 z2 (by simp)
      have hval : lowN z0 8 ++ lowN z1 8 = tagL key xs := by
        refine leV_inj (fun z hz => by rcases List.mem_append.1 hz with hz | hz <;> exact lowN_isB _ _ z hz) (lowN_isB _ _) (by rw [List.length_append, lowN_len, lowN_len, tagL, lowN_len]) ?_
        rw [tagL, leV_append, lowN_len, leV_lowN _ _ hz0.1, leV_lowN _ _ hz1.1, leV_lowN _ _ (by
          have h1 := (hK_range (leV (clampL key)) xs ((xs.length + 15) / 16)).1
          have h4 := (leV_range (xs := (key.drop 16).take 16) fun z hz => HKB.out z (List.mem_of_mem_drop (List.mem_of_mem_take hz))).1
          omega), ← HAC.out.2.2.2, ← HM.out.sv, ← y4]
        rw [show (256 : Int) ^ 8 = 18446744073709551616 by decide, show (256 : Int) ^ 16 = 340282366920938463463374607431768211456 by decide]
        simp only [leW]
        omega
      have HVAL := Lib.hid (fun _ : Unit => hval)
      have k0 : ∀ w', Below w9.heap.size w9 w' → w'.cell? ⟨g9, 0, none⟩ = some (.int .u64 z0) := fun w' h => (hb9.stay h).at_ 0 rfl
      have k1 : ∀ w', Below w9.heap.size w9 w' → w'.cell? ⟨g9, 1, none⟩ = some (.int .u64 z1) := fun w' h => (hb9.stay h).at_ 1 rfl
      have s16 := fun w => slice16 w (B + 1)
      have bl9 : Below w1.heap.size w1 w9 := bl3.trans (h1.mono bl3.size)
      have BL9 := Lib.hid bl9
      clear h2 h3 h4 x1 x3 x4 hall y1 y1' hb9 hyy hval y3 y4 L h1
      go_upto_region 8 with fail
      have hbl0 : Below w9.heap.size w9 w9.drew := bw_d1 (Below.refl _ _)
      refine region_plan ⟨[0, 0, 2, 6, 0, 16, 62, 126, 254, 511], [3, 6, 7, 8, 9], [0, 0, 0, 0, 0, 0, 1, 2, 3, 4]⟩
        [⟨[0, 1, 2, 4, 5], [0, 1, 2, 4, 5], some 3⟩, ⟨[], [0, 4, 5], some 6⟩, ⟨[], [0], some 7⟩, ⟨[], [0], some 8⟩, ⟨[], [0], some 9⟩, ⟨[], [], none⟩] 57 (by kernel_rfl) (by kernel_rfl) (by kernel_rfl) (by kernel_rfl) rfl ?_
      simp only [SeqGo, opsAt_cons, opsAt_nil, List.getElem?_cons, Option.toList_some, List.singleton_append, ↓reduceIte, Nat.reduceEqDiff, Nat.reduceSub]
      go_wp2_with fail
      refine ⟨by (simp only [Sames, Same]; go_simp), ?_⟩
      go_wp2_with (go_at_call 43; refine (putLe64_any _ [] z0 _ (Rd.nil _) (by decide) hz0.1).mono ?_; rintro e wa ⟨va, rfl, hba, hoa⟩; obtain ⟨Aa, ca, rfl, _⟩ := id (Rd.of_own hoa); have hbla := bw_then hbl0 hba hbl0.size; have HRA := Lib.hid (Rd.of_own hoa); clear hoa)
      refine ⟨by (simp only [Sames, Same]; go_simp), ?_⟩
      go_wp2_with (go_at_call 43; refine (putLe64_any _ [] z1 _ (Rd.nil _) (by decide) hz1.1).mono ?_; rintro e wb ⟨vb, rfl, hbb, hob⟩; obtain ⟨Ab, cb, rfl, _⟩ := id (Rd.of_own hob); have hblb := bw_then hbla hbb hbla.size; have HRB := Lib.hid (Rd.of_own hob); clear hob)
      refine ⟨by (simp only [Sames, Same]; go_simp), ?_⟩
      go_wp2_with fail
      refine ⟨by (simp only [Sames, Same]; go_simp), ?_⟩
      go_wp2_with (go_at_call 58; refine (join2_any _ wb.heap.size _ _ 30 (lowN z0 8) (lowN z1 8) (by first | exact Blk.mk_ _ rfl rfl | exact Blk.d1 (Blk.mk_ _ rfl rfl)) ((HRA.out.stay hbb (Nat.le_refl _)).stay (bw_al (Below.refl _ _) (Nat.le_refl _) _) (Nat.le_refl _)) (HRB.out.stay (bw_al (Below.refl _ _) (Nat.le_refl _) _) (Nat.le_refl _)) (by rw [lowN_len, lowN_len]; decide)).mono ?_; rintro e wj ⟨vj, rfl, hrj, hbj⟩; have hblj := bw_then (bw_al hblb hblb.size _) hbj (by have := hblb.size; simp; omega))
      refine ⟨by (simp only [Sames, Same]; go_simp), ?_⟩
      have hblw := BL9.out.trans (hblj.mono BL9.out.size)
      have hjl : (bs (lowN z0 8 ++ lowN z1 8)).length = 16 := by rw [bs_len, List.length_append, lowN_len, lowN_len]
      have HRJ := Lib.hid hrj
      clear hrj
      go_wp2_with (refine wp_copy (.tmp 46) (.tmp 54) 30 30 rfl rfl 5 Tryd.underlying30 (by kernel_rfl) rfl rfl HRJ.out (by rw [hjl]; decide) (by rw [hjl]; exact Nat.le_refl _) (HB.out.2.1.stay hblw) (by rw [hjl]; decide) (bs_one _) ?_; intro wk hbk honk)
      refine ⟨trivial, ?_⟩
      rw [hjl] at hbk
      have hbk2 : Blk wk (B + 1) (bs (tagL key xs)) 53 := by
        rw [← HVAL.out ()]
        rw [Nat.zero_add, List.drop_of_length_le (by rw [bs_len, List.length_replicate]; exact Nat.le_refl _), List.take_zero, List.nil_append, List.append_nil] at hbk
        exact hbk
      have htl : (bs (tagL key xs)).length = 16 := by rw [bs_len, tagL, lowN_len]
      have hbB := (HB.out.1.stay hblw).only honk (by omega)
      have HBW := Lib.hid (honk.below (bw_then HB.out.2.2 hblw (by omega)) (by omega))
      clear hbk
      go_wp2_with (first
        | (refine wp_load_blk rfl 53 (.tmp 3) rfl rfl hbk2 Tryd.underlying53 rfl (n := 16) (by kernel_rfl) htl ?_)
        | (refine wp_store_blk rfl 53 (.tmp 2) (.tmp 56) rfl rfl rfl hbB (bs_one _) (by rw [htl]; rfl) (n := 16) (by kernel_rfl) htl ?_; intro wz hbz honz))
      refine ret_blk rfl rfl hbz Tryd.underlying53 rfl (n := 16) (by kernel_rfl) htl rfl ?_
      exact ⟨rfl, by rw [hB]; exact honz.below HBW.out (Nat.le_refl _)⟩
end Go.Proofs.YtmjjnaaiakchhaaDoor
end

section
/-
  poly.New.
-/
namespace Go.Proofs.YtmjjnaaiakchhaaDoor
open Go.RowKit

theorem land_mul (a b c d q : Nat) (k : Nat) (hq : q = 2 ^ k) (ha : a < q) (hc : c < q) : (a + q * b) &&& (c + q * d) = (a &&& c) + q * (b &&& d) := by
  subst hq
  have h1 := Nat.div_add_mod ((a + 2 ^ k * b) &&& (c + 2 ^ k * d)) (2 ^ k)
  rw [Nat.and_div_two_pow, Nat.and_mod_two_pow, Nat.add_mul_div_left _ _ (Nat.two_pow_pos k), Nat.add_mul_div_left _ _ (Nat.two_pow_pos k), Nat.div_eq_of_lt ha, Nat.div_eq_of_lt hc, Nat.zero_add, Nat.zero_add, Nat.add_mul_mod_self_left, Nat.add_mul_mod_self_left, Nat.mod_eq_of_lt ha, Nat.mod_eq_of_lt hc] at h1
  omega
/-- The words of a key, of which some bits count. -/
theorem and_bytes : ∀ (xs ms : List Nat), xs.length = ms.length → (∀ x ∈ xs, x < 256) → (∀ m ∈ ms, m < 256) → (leV (xs.map Int.ofNat)).toNat &&& (leV (ms.map Int.ofNat)).toNat = (leV ((List.zipWith (· &&& ·) xs ms).map Int.ofNat)).toNat := by
  intro xs
  induction xs with
  | nil => intro ms h _ _; cases ms <;> simp_all [leV]
  | cons x xs ih =>
    intro ms h hx hm
    cases ms with
    | nil => simp at h
    | cons m ms =>
      have ih2 := ih ms (by simpa using h) (fun z hz => hx z (by simp [hz])) (fun z hz => hm z (by simp [hz]))
      have nn : ∀ l : List Nat, 0 ≤ leV (l.map Int.ofNat) := fun l => by
        induction l with
        | nil => simp [leV]
        | cons a l ih => simp only [List.map_cons, leV]; have : (0 : Int) ≤ Int.ofNat a := Int.natCast_nonneg a; omega
      have h1 := nn xs
      have h2 := nn ms
      have h3 := nn (List.zipWith (· &&& ·) xs ms)
      simp only [List.map_cons, leV, List.zipWith_cons_cons]
      have e1 : (Int.ofNat x + 256 * leV (xs.map Int.ofNat)).toNat = x + 256 * (leV (xs.map Int.ofNat)).toNat := by
        have : Int.ofNat x = (x : Int) := rfl
        omega
      have e2 : (Int.ofNat m + 256 * leV (ms.map Int.ofNat)).toNat = m + 256 * (leV (ms.map Int.ofNat)).toNat := by
        have : Int.ofNat m = (m : Int) := rfl
        omega
      have e3 : (Int.ofNat (x &&& m) + 256 * leV ((List.zipWith (· &&& ·) xs ms).map Int.ofNat)).toNat = (x &&& m) + 256 * (leV ((List.zipWith (· &&& ·) xs ms).map Int.ofNat)).toNat := by
        have : Int.ofNat (x &&& m) = ((x &&& m : Nat) : Int) := rfl
        omega
      rw [e1, e2, e3, land_mul x _ m _ 256 8 rfl (hx x (by simp)) (hm m (by simp)), ih2]
theorem byte_and255 (x : Nat) (h : x < 256) : x &&& 255 = x := by
  rw [show (255 : Nat) = 2 ^ 8 - 1 from rfl, Nat.and_two_pow_sub_one_eq_mod]; omega
theorem byte_and15 (x : Nat) (_h : x < 256) : x &&& 15 = x % 16 := by
  rw [show (15 : Nat) = 2 ^ 4 - 1 from rfl, Nat.and_two_pow_sub_one_eq_mod]
theorem byte_and252 : ∀ x : Fin 256, x.val &&& 252 = x.val / 4 * 4 := by decide +kernel
theorem and_of {X M R : Int} (h1 : 0 ≤ X) (h2 : X < 18446744073709551616) (h3 : 0 ≤ M) (h4 : M < 18446744073709551616) (h5 : 0 ≤ R) (key : X.toNat &&& M.toNat = R.toNat) : bits .and .u64 X M = R := by
  have h := u64_and_nat X.toNat M.toNat (by omega) (by omega)
  rw [Int.toNat_of_nonneg h1, Int.toNat_of_nonneg h3, key, Int.toNat_of_nonneg h5] at h
  exact h
/-- A word and its mask. -/
theorem word_and (x0 x1 x2 x3 x4 x5 x6 x7 : Int) (m0 m4 : Nat) (hm : m0 = 255 ∨ m0 = 252) (hm4 : m4 = 252) (h : IsB [x0, x1, x2, x3, x4, x5, x6, x7]) :
    bits .and .u64 (leV [x0, x1, x2, x3, x4, x5, x6, x7]) ((leV ([m0, 255, 255, 15, m4, 255, 255, 15].map Int.ofNat))) = leV [if m0 = 255 then x0 else x0 / 4 * 4, x1, x2, x3 % 16, x4 / 4 * 4, x5, x6, x7 % 16] := by
  obtain ⟨y0, rfl⟩ := Int.eq_ofNat_of_zero_le (h x0 (by simp)).1
  obtain ⟨y1, rfl⟩ := Int.eq_ofNat_of_zero_le (h x1 (by simp)).1
  obtain ⟨y2, rfl⟩ := Int.eq_ofNat_of_zero_le (h x2 (by simp)).1
  obtain ⟨y3, rfl⟩ := Int.eq_ofNat_of_zero_le (h x3 (by simp)).1
  obtain ⟨y4, rfl⟩ := Int.eq_ofNat_of_zero_le (h x4 (by simp)).1
  obtain ⟨y5, rfl⟩ := Int.eq_ofNat_of_zero_le (h x5 (by simp)).1
  obtain ⟨y6, rfl⟩ := Int.eq_ofNat_of_zero_le (h x6 (by simp)).1
  obtain ⟨y7, rfl⟩ := Int.eq_ofNat_of_zero_le (h x7 (by simp)).1
  have b0 := (h y0 (by simp)).2
  have b1 := (h y1 (by simp)).2
  have b2 := (h y2 (by simp)).2
  have b3 := (h y3 (by simp)).2
  have b4 := (h y4 (by simp)).2
  have b5 := (h y5 (by simp)).2
  have b6 := (h y6 (by simp)).2
  have b7 := (h y7 (by simp)).2
  have key := and_bytes [y0, y1, y2, y3, y4, y5, y6, y7] [m0, 255, 255, 15, m4, 255, 255, 15] rfl (by intro x hx; simp at hx; omega) (by intro x hx; simp at hx; omega)
  have e0 : y0 &&& m0 = if m0 = 255 then y0 else y0 / 4 * 4 := by
    rcases hm with rfl | rfl
    · rw [if_pos rfl]; exact byte_and255 y0 (by omega)
    · rw [if_neg (by decide)]; exact byte_and252 ⟨y0, by omega⟩
  subst hm4
  have e4 : y4 &&& 252 = y4 / 4 * 4 := byte_and252 ⟨y4, by omega⟩
  simp only [List.zipWith_cons_cons, List.zipWith_nil_left, e0, e4, byte_and255 y1 (by omega), byte_and255 y2 (by omega), byte_and15 y3 (by omega), byte_and255 y5 (by omega), byte_and255 y6 (by omega), byte_and15 y7 (by omega)] at key
  rcases hm with rfl | rfl
  · refine and_of ?_ ?_ ?_ ?_ ?_ (key.trans ?_)
    all_goals (try (simp only [List.map_cons, List.map_nil, leV, if_true, Int.ofNat_eq_natCast]; omega))
  · refine and_of ?_ ?_ ?_ ?_ ?_ (key.trans ?_)
    all_goals (try (simp only [List.map_cons, List.map_nil, leV, show ((252 : Nat) = 255) = False by simp, if_false, Int.ofNat_eq_natCast]; omega))
theorem leN8 (xs : List Int) (a : Nat) : leN xs a 8 = leV [xs.getD a 0, xs.getD (a + 1) 0, xs.getD (a + 2) 0, xs.getD (a + 3) 0, xs.getD (a + 4) 0, xs.getD (a + 5) 0, xs.getD (a + 6) 0, xs.getD (a + 7) 0] := by
  have e0 : (256 : Int) ^ 0 = 1 := by decide
  have e1 : (256 : Int) ^ 1 = 256 := by decide
  have e2 : (256 : Int) ^ 2 = 65536 := by decide
  have e3 : (256 : Int) ^ 3 = 16777216 := by decide
  have e4 : (256 : Int) ^ 4 = 4294967296 := by decide
  have e5 : (256 : Int) ^ 5 = 1099511627776 := by decide
  have e6 : (256 : Int) ^ 6 = 281474976710656 := by decide
  have e7 : (256 : Int) ^ 7 = 72057594037927936 := by decide
  simp only [leN, leV, e0, e1, e2, e3, e4, e5, e6, e7, Nat.add_zero]
  omega
theorem clampL_parts (key : List Int) : clampL key = [key.getD 0 0, key.getD 1 0, key.getD 2 0, key.getD 3 0 % 16, key.getD 4 0 / 4 * 4, key.getD 5 0, key.getD 6 0, key.getD 7 0 % 16] ++ [key.getD 8 0 / 4 * 4, key.getD 9 0, key.getD 10 0, key.getD 11 0 % 16, key.getD 12 0 / 4 * 4, key.getD 13 0, key.getD 14 0, key.getD 15 0 % 16] := rfl
theorem key8 {key : List Int} (hk : IsB key) (a : Nat) : IsB [key.getD a 0, key.getD (a + 1) 0, key.getD (a + 2) 0, key.getD (a + 3) 0, key.getD (a + 4) 0, key.getD (a + 5) 0, key.getD (a + 6) 0, key.getD (a + 7) 0] := by
  intro z hz
  simp only [List.mem_cons, List.not_mem_nil, or_false] at hz
  rcases hz with rfl | rfl | rfl | rfl | rfl | rfl | rfl | rfl <;> exact hk.at_ _
theorem and_r0 {key : List Int} (hk : IsB key) : bits .and .u64 (leN key 0 8) 1152921487695413247 = leV [key.getD 0 0, key.getD 1 0, key.getD 2 0, key.getD 3 0 % 16, key.getD 4 0 / 4 * 4, key.getD 5 0, key.getD 6 0, key.getD 7 0 % 16] := by
  rw [leN8]
  exact word_and _ _ _ _ _ _ _ _ 255 252 (.inl rfl) rfl (key8 hk 0)
theorem and_r1 {key : List Int} (hk : IsB key) : bits .and .u64 (leN key 8 8) 1152921487695413244 = leV [key.getD 8 0 / 4 * 4, key.getD 9 0, key.getD 10 0, key.getD 11 0 % 16, key.getD 12 0 / 4 * 4, key.getD 13 0, key.getD 14 0, key.getD 15 0 % 16] := by
  rw [leN8]
  exact word_and _ _ _ _ _ _ _ _ 252 252 (.inr rfl) rfl (key8 hk 8)
theorem leV8_range {xs : List Int} (h : IsB xs) (hl : xs.length = 8) : IsW1 (leV xs) := by
  have := leV_range h
  rw [hl, show (256 : Int) ^ 8 = 18446744073709551616 by decide] at this
  unfold IsW1
  omega
theorem r_val {key : List Int} (hk : IsB key) : ∃ r0 r1, bits .and .u64 (leN key 0 8) 1152921487695413247 = r0 ∧ bits .and .u64 (leN key 8 8) 1152921487695413244 = r1 ∧ (IsW1 r0 ∧ IsW1 r1) ∧ leW [r0, r1] = leV (clampL key) := by
  refine ⟨_, _, and_r0 hk, and_r1 hk, ⟨?_, ?_⟩, ?_⟩
  · refine leV8_range (fun z hz => clampL_isB hk z ?_) rfl
    rw [clampL_parts]; exact List.mem_append_left _ hz
  · refine leV8_range (fun z hz => clampL_isB hk z ?_) rfl
    rw [clampL_parts]; exact List.mem_append_right _ hz
  · rw [clampL_parts, leV_append]
    simp only [leW, Int.mul_zero, Int.add_zero]
    have e8 : (256 : Int) ^ 8 = 18446744073709551616 := by decide
    simp only [List.length_cons, List.length_nil, Nat.zero_add, Nat.reduceAdd, e8]
theorem s_val {key : List Int} (hk : IsB key) (hl : key.length = 32) : IsW [leN key 16 8, leN key 24 8, 0] ∧ leW [leN key 16 8, leN key 24 8, 0] = leV ((key.drop 16).take 16) := by
  have r1 := leN_range hk 16 8
  have r2 := leN_range hk 24 8
  rw [show (256 : Int) ^ 8 = 18446744073709551616 by decide] at r1 r2
  refine ⟨fun z hz => by simp at hz; omega, ?_⟩
  have h1 := leN_add key 16 8 8
  have h2 := leN_eq key 16 16
  rw [hl, List.replicate_zero, List.append_nil] at h2
  simp only [Nat.reduceAdd] at h1
  rw [← h2, h1, show (256 : Int) ^ 8 = 18446744073709551616 by decide]
  simp only [leW, Int.mul_zero, Int.add_zero]

set_option maxRecDepth 100000 in
set_option maxHeartbeats 4000000 in
theorem new_any (w : World) (key : List Int) (hk : key.length = 32) (hkb : IsB key) : Calls Tryd.prog 40 #[.agg (bs key).toArray] w fun e w' => ∃ g, e = .returned (.pointer (some ⟨g, 0, none⟩)) ∧ w.heap.size ≤ g ∧ Mac w' g key [] (fun _ => False) ∧ Below w.heap.size w w' := by
  obtain ⟨r0, r1, hr0, hr1, hrr, hrv⟩ := r_val hkb
  obtain ⟨hsw, hsv⟩ := s_val hkb hk
  obtain ⟨t0, ht0⟩ : ∃ t, leN key 16 8 = t := ⟨_, rfl⟩
  obtain ⟨t1, ht1⟩ : ∃ t, leN key 24 8 = t := ⟨_, rfl⟩
  rw [ht0, ht1] at hsw hsv
  obtain ⟨n0, hn0⟩ : ∃ n, leN key 0 8 = n := ⟨_, rfl⟩
  obtain ⟨n1, hn1⟩ : ∃ n, leN key 8 8 = n := ⟨_, rfl⟩
  rw [hn0] at hr0
  rw [hn1] at hr1
  obtain ⟨B, hB⟩ : ∃ B, w.heap.size = B := ⟨_, rfl⟩
  have HK := Lib.hid hk
  have HKB := Lib.hid hkb
  have HRR := Lib.hid (fun _ : Unit => (⟨hrr, hrv, hsw, hsv⟩ : (IsW1 r0 ∧ IsW1 r1) ∧ leW [r0, r1] = leV (clampL key) ∧ IsW [t0, t1, 0] ∧ leW [t0, t1, 0] = leV ((key.drop 16).take 16)))
  have L0 := Lib.hid (fun v w hr => by have := le64_any v key 0 w hr hkb (by decide) (by decide); rwa [show (0 : Int).toNat = 0 from rfl, hn0] at this)
  have L1 := Lib.hid (fun v w hr => by have := le64_any v key 8 w hr hkb (by decide) (by decide); rwa [show (8 : Int).toNat = 8 from rfl, hn1] at this)
  have L2 := Lib.hid (fun v w hr => by have := le64_any v key 16 w hr hkb (by decide) (by decide); rwa [show (16 : Int).toNat = 16 from rfl, ht0] at this)
  have L3 := Lib.hid (fun v w hr => by have := le64_any v key 24 w hr hkb (by decide) (by decide); rwa [show (24 : Int).toNat = 24 from rfl, ht1] at this)
  clear hk hkb hrr hrv hsw hsv ht0 ht1 hn0 hn1
  have s32 := fun w => slice32 w B
  go_enter Tryd.func40, Tryd.ntmps40
  go_upto_region 2 with fail
  have b0 : Blk ((w.alloc (.cells (bs key).toArray 22)).alloc (.cells (macC (.slice none 0 0) 0 0 0 0 0 0 0 0 true).toArray 92)) B (bs key) 22 := (Blk.mk_ _ hB.symm rfl).al _
  have b1 : Blk ((w.alloc (.cells (bs key).toArray 22)).alloc (.cells (macC (.slice none 0 0) 0 0 0 0 0 0 0 0 true).toArray 92)) (B + 1) (macC (.slice none 0 0) 0 0 0 0 0 0 0 0 true) 92 := Blk.mk_ _ (by simp [hB]) rfl
  have bb : Below B w ((w.alloc (.cells (bs key).toArray 22)).alloc (.cells (macC (.slice none 0 0) 0 0 0 0 0 0 0 0 true).toArray 92)) := bw_al (bw_al (Below.refl _ _) (by omega) _) (by simp; omega) _
  change Code.wp _ _ _ _ ((w.alloc (.cells (bs key).toArray 22)).alloc (.cells (macC (.slice none 0 0) 0 0 0 0 0 0 0 0 true).toArray 92))
  generalize ((w.alloc (.cells (bs key).toArray 22)).alloc (.cells (macC (.slice none 0 0) 0 0 0 0 0 0 0 0 true).toArray 92)) = w1 at *
  have hr0' : Rd w1 (.slice (some ⟨B, 0, none⟩) 32 32) (bs key) := by
    have := Rd.of_blk b0 (by rw [bs_len, HK.out]; decide); rwa [bs_len, HK.out] at this
  have C0 := Lib.hid (L0.out _ _ (show Rd w1.drew (.slice (some ⟨B, 0, none⟩) 32 32) (bs key) from hr0'))
  have m1 := b1.at_ 1 rfl
  have f1 := b1.free 1
  refine region_plan ⟨[0, 0, 2, 6, 1, 17, 63, 127], [2, 7], [0, 0, 0, 1, 0, 0, 1, 1]⟩
    [⟨[0, 1, 4, 5], [1, 4, 5], some 2⟩, ⟨[3, 6], [3, 4, 5, 6], some 7⟩, ⟨[], [], none⟩] 29 (by kernel_rfl) (by kernel_rfl) (by kernel_rfl) (by kernel_rfl) rfl ?_
  simp only [SeqGo, opsAt_cons, opsAt_nil, List.getElem?_cons, Option.toList_some, List.singleton_append, ↓reduceIte, Nat.reduceEqDiff, Nat.reduceSub]
  go_wp2_with fail
  refine ⟨by (simp only [Sames, Same]; go_simp), ?_⟩
  go_wp2_with (go_at_call 52; refine C0.out.mono ?_; rintro e w4 ⟨rfl, hw4⟩; subst hw4)
  refine ⟨by (simp only [Sames, Same]; go_simp), ?_⟩
  go_wp2_with fail
  refine ⟨trivial, ?_⟩
  go_upto_region 3 with fail
  have b2 := (b1.set 1 (.int .u64 r0)).d1
  have k2 : Blk (w1.setCell ⟨B + 1, 1, none⟩ (.int .u64 r0)).drew B (bs key) 22 := (b0.other (a := ⟨B + 1, 1, none⟩) (by show B ≠ B + 1; omega) _).d1
  have bb2 : Below B w (w1.setCell ⟨B + 1, 1, none⟩ (.int .u64 r0)).drew := bw_d1 (bb.setCell (p := ⟨B + 1, 1, none⟩) (by show B ≤ B + 1; omega) _)
  generalize (w1.setCell ⟨B + 1, 1, none⟩ (.int .u64 r0)).drew = w2 at *
  have hr2 : Rd w2 (.slice (some ⟨B, 0, none⟩) 32 32) (bs key) := by
    have := Rd.of_blk k2 (by rw [bs_len, HK.out]; decide); rwa [bs_len, HK.out] at this
  have C1 := Lib.hid (L1.out _ _ (show Rd w2.drew (.slice (some ⟨B, 0, none⟩) 32 32) (bs key) from hr2))
  clear m1 f1 b0 b1 bb hr0' hr2
  have m2 := b2.at_ 2 rfl
  have f2 := b2.free 2
  refine region_plan ⟨[0, 0, 2, 6, 1, 17, 63, 127], [2, 7], [0, 0, 0, 1, 0, 0, 1, 1]⟩
    [⟨[0, 1, 4, 5], [1, 4, 5], some 2⟩, ⟨[3, 6], [3, 4, 5, 6], some 7⟩, ⟨[], [], none⟩] 29 (by kernel_rfl) (by kernel_rfl) (by kernel_rfl) (by kernel_rfl) rfl ?_
  simp only [SeqGo, opsAt_cons, opsAt_nil, List.getElem?_cons, Option.toList_some, List.singleton_append, ↓reduceIte, Nat.reduceEqDiff, Nat.reduceSub]
  go_wp2_with fail
  refine ⟨by (simp only [Sames, Same]; go_simp), ?_⟩
  go_wp2_with (go_at_call 52; refine C1.out.mono ?_; rintro e w4 ⟨rfl, hw4⟩; subst hw4)
  refine ⟨by (simp only [Sames, Same]; go_simp), ?_⟩
  go_wp2_with fail
  refine ⟨trivial, ?_⟩
  go_upto_region 4 with fail
  have b3 := (b2.set 2 (.int .u64 r1)).d1
  have k3 : Blk (w2.setCell ⟨B + 1, 2, none⟩ (.int .u64 r1)).drew B (bs key) 22 := (k2.other (a := ⟨B + 1, 2, none⟩) (by show B ≠ B + 1; omega) _).d1
  have bb3 : Below B w (w2.setCell ⟨B + 1, 2, none⟩ (.int .u64 r1)).drew := bw_d1 (bb2.setCell (p := ⟨B + 1, 2, none⟩) (by show B ≤ B + 1; omega) _)
  generalize (w2.setCell ⟨B + 1, 2, none⟩ (.int .u64 r1)).drew = w3 at *
  have hr3 : Rd w3 (.slice (some ⟨B, 0, none⟩) 32 32) (bs key) := by
    have := Rd.of_blk k3 (by rw [bs_len, HK.out]; decide); rwa [bs_len, HK.out] at this
  have C2 := Lib.hid (L2.out _ _ (show Rd w3.drew (.slice (some ⟨B, 0, none⟩) 32 32) (bs key) from hr3))
  have C3 := Lib.hid (L3.out _ _ (show Rd w3.drew (.slice (some ⟨B, 0, none⟩) 32 32) (bs key) from hr3))
  have B3 := Lib.hid b3.d1
  have m3 := b3.at_ 3 rfl
  clear m2 f2 b2 k2 bb2 hr3
  refine region_plan ⟨[0, 0, 2, 0, 14, 30, 63, 127, 255], [2, 4, 8], [0, 0, 0, 0, 1, 2, 2, 2, 2]⟩
    [⟨[0, 1, 3], [1, 3], some 2⟩, ⟨[], [3], some 4⟩, ⟨[5, 6, 7], [5, 6, 7], some 8⟩, ⟨[], [], none⟩] 29 (by kernel_rfl) (by kernel_rfl) (by kernel_rfl) (by kernel_rfl) rfl ?_
  simp only [SeqGo, opsAt_cons, opsAt_nil, List.getElem?_cons, Option.toList_some, List.singleton_append, ↓reduceIte, Nat.reduceEqDiff, Nat.reduceSub]
  go_wp2_with fail
  refine ⟨by (simp only [Sames, Same]; go_simp), ?_⟩
  go_wp2_with (go_at_call 52; refine C2.out.mono ?_; rintro e w4 ⟨rfl, hw4⟩; subst hw4)
  refine ⟨by (simp only [Sames, Same]; go_simp), ?_⟩
  go_wp2_with (go_at_call 52; refine C3.out.mono ?_; rintro e w4 ⟨rfl, hw4⟩; subst hw4)
  refine ⟨by (simp only [Sames, Same]; go_simp), ?_⟩
  go_wp2_with (refine wp_store_sub rfl 90 (.tmp 27) (.tmp 25) rfl rfl (ys := uq [t0, t1, 0]) rfl B3.out (uq_one _) (by show 3 + 3 ≤ 10; decide) (n := 3) (by kernel_rfl) rfl ?_; intro w5 hbx hon)
  refine ⟨trivial, ?_⟩
  go_wp2_with fail
  all_goals go_ret
  obtain ⟨q1, q2, q3, q4⟩ := HRR.out ()
  refine ⟨B + 1, rfl, by omega, ⟨.slice none 0 0, r0, r1, t0, t1, 0, 0, 0, 0, ⟨hbx, Part.nil _ _ _, q1, q2, q3, q4, ⟨rfl, ?_, by decide, rfl⟩⟩, fun b ⟨_, _, _, h⟩ => by cases h⟩, by rw [hB]; exact hon.below (bw_d1 bb3) (by omega)⟩
  intro z hz
  simp at hz
  omega
end Go.Proofs.YtmjjnaaiakchhaaDoor
end

section
/-
  The mark of a text that is hidden: the program's, and the document's.
-/
namespace Go.Proofs.YtmjjnaaiakchhaaDoor
open Go.RowKit

/-- copy of a slice that is longer than where it goes. -/
theorem wp_copy_low {P : Program} {ops : Array Oper} {rest : List Oper} {o : Oper} {a : Act} {w : World} {Q : Exit → Act → World → Prop} (d s : Operand) (dT sT : TypeId) (hgd : o.guard = none)
    (ho : o.op = .call { callee := .builtin .copy, args := #[d, s], argTypes := #[dT, sT] }) (elem : TypeId) (hu : P.underlying dT = some (.slice elem)) (hs : (P.info? elem).map (·.size) = some 1)
    {g off dLen dCap : Nat} (hd : a.eval d = .slice (some ⟨g, off, none⟩) dLen dCap) {u : Value} {ys : List Value} (hx : a.eval s = u) (hr : Rd w u ys) (hne : 0 < ys.length) (hle : dLen ≤ ys.length)
    {cur : List Value} {t : TypeId} (hg : Blk w g cur t) (hfit : off + dLen ≤ cur.length) (h1 : ∀ y ∈ ys, y.oneCell' = true)
    (h : ∀ w', Blk w' g (cur.take off ++ ys.take dLen ++ cur.drop (off + dLen)) t → Only g w w' → wpList P ops Q rest (a.put o.dst (goInt dLen)) w') : wpList P ops Q (o :: rest) a w :=
  wpList_plain hgd fun K hK => by
    show o.upon P a K Q ((execOp a.eval o).run P w)
    obtain ⟨A, c, rfl, hc1, hc2, h0, h3⟩ := hr
    have hlt : (ys.take dLen).length = dLen := by rw [List.length_take]; exact Nat.min_eq_left hle
    rcases h3 with rfl | ⟨b, o', rfl, h3⟩
    · simp at hne
    · have hrun := run_copy_row (P := P) w dT sT o.type elem g off dLen dCap ⟨b, o', none⟩ ys.length c cur.toArray t (ys.take dLen) hu hs hg (hlt.trans (Nat.min_eq_right hle).symm) (by
        intro j y hj
        have hj2 : j < dLen := by have := (List.getElem?_eq_some_iff.1 hj).1; omega
        rw [List.getElem?_take_of_lt hj2] at hj
        obtain ⟨hlt, rfl⟩ := List.getElem?_eq_some_iff.1 hj
        rw [← h3 j hlt]
        congr 1
        unfold Addr.add; split <;> simp_all) (by rw [hlt]; simpa using hfit) (fun y hy => h1 y (List.mem_of_mem_take hy))
      rw [hlt] at hrun
      simp [execOp, ho, resolve, invoke, builtin, hd, hx, hrun, Result.andThen]
      exact hK _ _ (h _ (show _ = _ by simpa using setRow_heap w g cur.toArray (cur.take off ++ ys.take dLen ++ cur.drop (off + dLen)).toArray t (0, 0) hg) (Only.row w g _))

/-- The key of one mark. -/
def onceL (key nonce : List Int) : List Int := (block key 0 nonce).take 32
def markT (ad hidden : List Int) : List Int := filledL ad ++ filledL hidden ++ lowN ad.length 8 ++ lowN hidden.length 8
def markL (key nonce ad hidden : List Int) : List Int := tagL (onceL key nonce) (markT ad hidden)
theorem onceL_len (key nonce : List Int) : (onceL key nonce).length = 32 := by rw [onceL, List.length_take, block_len]; rfl
theorem onceL_isB (key nonce : List Int) : IsB (onceL key nonce) := fun z hz => block_isB _ _ _ z (List.mem_of_mem_take hz)
theorem markL_len (key nonce ad hidden : List Int) : (markL key nonce ad hidden).length = 16 := tagL_len _ _
theorem markL_isB (key nonce ad hidden : List Int) : IsB (markL key nonce ad hidden) := tagL_isB _ _
theorem markT_isB {ad hidden : List Int} (ha : IsB ad) (hh : IsB hidden) : IsB (markT ad hidden) := fun z hz => by
  simp only [markT, List.mem_append] at hz
  rcases hz with ((hz | hz) | hz) | hz
  · exact filledL_isB ha z hz
  · exact filledL_isB hh z hz
  · exact lowN_isB _ _ z hz
  · exact lowN_isB _ _ z hz
theorem isB_append {xs ys : List Int} (hx : IsB xs) (hy : IsB ys) : IsB (xs ++ ys) := fun z hz => (List.mem_append.1 hz).elim (hx z) (hy z)
theorem slice32d (w : World) (o : Nat) : (Instr.sliceAt 22 (.pointer (some ⟨o, 0, none⟩)) none none none).run Tryd.prog w = .ok (.slice (some ⟨o, 0, none⟩) 32 32) w :=
  arr_slice w 22 o (by kernel_rfl) (by kernel_rfl) Tryd.underlying22 (by kernel_rfl)
theorem slice64d (w : World) (o : Nat) : (Instr.sliceAt 27 (.pointer (some ⟨o, 0, none⟩)) none none none).run Tryd.prog w = .ok (.slice (some ⟨o, 0, none⟩) 64 64) w :=
  arr_slice w 27 o (by kernel_rfl) (by kernel_rfl) Tryd.underlying27 (by kernel_rfl)

set_option maxRecDepth 100000 in
set_option maxHeartbeats 4000000 in
theorem mark_any (w : World) (key nonce ad hidden : List Int) (va vh : Value) (hk : key.length = 32) (hn : nonce.length = 12) (hkb : IsB key) (hnb : IsB nonce) (hab : IsB ad) (hhb : IsB hidden) (hra : Rd w va (bs ad)) (hrh : Rd w vh (bs hidden))
    (ht : Tab w) (hla : ad.length ≤ 1000000) (hlh : hidden.length ≤ 1000000) :
    Calls Tryd.prog 27 #[.agg (bs key).toArray, .agg (bs nonce).toArray, va, vh] w fun e w' => e = .returned (.agg (bs (markL key nonce ad hidden)).toArray) ∧ Below w.heap.size w w' := by
  have HK := Lib.hid hk
  have HN := Lib.hid hn
  have HKB := Lib.hid hkb
  have HNB := Lib.hid hnb
  have HAB := Lib.hid hab
  have HHB := Lib.hid hhb
  have HRA := Lib.hid hra
  have HRH := Lib.hid hrh
  have hlva : ∀ w', (Builtin.len_ #[30] 3 #[va]).run Tryd.prog w' = .ok (goInt ad.length) w' := by
    have := len_fact (P := Tryd.prog) hra (t := 30) (ty := 3) (by kernel_rfl)
    rwa [bs_len] at this
  have hlvh : ∀ w', (Builtin.len_ #[30] 3 #[vh]).run Tryd.prog w' = .ok (goInt hidden.length) w' := by
    have := len_fact (P := Tryd.prog) hrh (t := 30) (ty := 3) (by kernel_rfl)
    rwa [bs_len] at this
  have HT := Lib.hid ht
  have HLA := Lib.hid (fun _ : Unit => hlva)
  have HLH := Lib.hid (fun _ : Unit => hlvh)
  clear hk hn hkb hnb hab hhb hra hrh ht hlva hlvh
  obtain ⟨B, hB⟩ : ∃ B, w.heap.size = B := ⟨_, rfl⟩
  go_enter Tryd.func27, Tryd.ntmps27
  go_upto_region 1 with fail
  obtain ⟨W, hW⟩ : ∃ W, ((w.alloc (.cells (bs key).toArray 22)).alloc (.cells (bs nonce).toArray 24)).alloc (.cells (bs (List.replicate 16 0)).toArray 53) = W := ⟨_, rfl⟩
  change Code.wp _ _ _ _ (((w.alloc (.cells (bs key).toArray 22)).alloc (.cells (bs nonce).toArray 24)).alloc (.cells (bs (List.replicate 16 0)).toArray 53))
  have b0 : Blk W B (bs key) 22 := by rw [← hW]; exact ((Blk.mk_ _ hB.symm rfl).al _).al _
  have b1 : Blk W (B + 1) (bs nonce) 24 := by rw [← hW]; exact (Blk.mk_ _ (by simp [hB]) rfl).al _
  have b2 : Blk W (B + 2) (bs (List.replicate 16 0)) 53 := by rw [← hW]; exact Blk.mk_ _ (by simp [hB]) rfl
  have bb : Below B w W := by rw [← hW]; exact bw_al (bw_al (bw_al (Below.refl _ _) (by omega) _) (by simp; omega) _) (by simp; omega) _
  rw [hW]
  have hz1 : W.heap.size = B + 3 := by rw [← hW]; simp [hB]
  clear hW
  have HKL := Lib.hid (show (bs key).length = 32 by rw [bs_len, HK.out])
  have HNL := Lib.hid (show (bs nonce).length = 12 by rw [bs_len, HN.out])
  have HBL := Lib.hid (show (bs (block key 0 nonce)).length = 64 by rw [bs_len, block_len])
  have BC := Lib.hid (blockc_any key nonce 0 W HK.out HN.out HKB.out HNB.out (HT.out.keep bb (by rw [← hB]; exact HT.out.lt)))
  have BB := Lib.hid bb
  have B2 := Lib.hid b2
  clear bb b2
  go_upto_region 2 with (first
    | (refine wp_load_blk rfl 22 (.tmp 4) rfl rfl b0 Tryd.underlying22 rfl (n := 32) (by kernel_rfl) HKL.out ?_)
    | (refine wp_load_blk rfl 24 (.tmp 5) rfl rfl b1 Tryd.underlying24 rfl (n := 12) (by kernel_rfl) HNL.out ?_)
    | (go_at_call 15; refine BC.out.mono ?_; rintro e w2 ⟨rfl, hb2⟩)
    | (refine wp_store_blk rfl 27 (.tmp 9) (.tmp 14) rfl rfl rfl (cs' := bs (block key 0 nonce)) (Blk.mk_ (cs := bs (List.replicate 64 0)) _ rfl rfl) (bs_one _) (by rw [HBL.out]; rfl) (n := 64) (by kernel_rfl) HBL.out ?_; intro w3 b3 on3))
  have hs2 := hb2.size
  have hs3 : w3.heap.size = w2.heap.size + 1 := by rw [on3.size]; simp
  have bb3 : Below W.heap.size W w3 := on3.below (bw_al hb2 hs2 _) hs2
  generalize w2.heap.size = C at *
  clear on3 hb2 b0 b1
  go_upto_region 3 with fail
  obtain ⟨W3, hW3⟩ : ∃ W3, w3.alloc (.cells (bs (List.replicate 32 0)).toArray 22) = W3 := ⟨_, rfl⟩
  change Code.wp _ _ _ _ (w3.alloc (.cells (bs (List.replicate 32 0)).toArray 22))
  have c3 : Blk W3 C (bs (block key 0 nonce)) 27 := by rw [← hW3]; exact b3.al _
  have c4 : Blk W3 (C + 1) (bs (List.replicate 32 0)) 22 := by rw [← hW3]; exact Blk.mk_ _ hs3.symm rfl
  have bw3 : Below W.heap.size W W3 := by rw [← hW3]; exact bw_al bb3 (by omega) _
  rw [hW3]
  clear hW3 b3 bb3
  have s32 := fun w => slice32d w (C + 1)
  have s64 := fun w => slice64d w C
  refine region_plan ⟨[0, 0, 3], [2], [0, 0, 0]⟩
    [⟨[0, 1], [0, 1], some 2⟩, ⟨[], [], none⟩] 40 (by kernel_rfl) (by kernel_rfl) (by kernel_rfl) (by kernel_rfl) rfl ?_
  simp only [SeqGo, opsAt_cons, opsAt_nil, List.getElem?_cons, Option.toList_some, List.singleton_append, ↓reduceIte, Nat.reduceEqDiff, Nat.reduceSub]
  go_wp2_with fail
  refine ⟨by (simp only [Sames, Same]; go_simp), ?_⟩
  have hr3 : Rd W3.drew (.slice (some ⟨C, 0, none⟩) 64 64) (bs (block key 0 nonce)) := by have := Rd.of_blk c3.d1 (by rw [HBL.out]; decide); rwa [HBL.out] at this
  go_wp2_with (refine wp_copy_low (.tmp 15) (.tmp 16) 30 30 rfl rfl 5 Tryd.underlying30 (by kernel_rfl) rfl rfl hr3 (by rw [HBL.out]; decide) (by rw [HBL.out]; decide) c4.d1 (by rw [bs_len, List.length_replicate]; exact Nat.le_refl _) (bs_one _) ?_; intro w4 b4 on4)
  refine ⟨trivial, ?_⟩
  have b4' : Blk w4 (C + 1) (bs (onceL key nonce)) 22 := by
    rw [List.take_zero, List.nil_append, List.drop_of_length_le (by rw [bs_len, List.length_replicate]; decide), List.append_nil, bs, ← List.map_take] at b4
    exact b4
  have bw4 : Below W.heap.size W w4 := on4.below (bw_d1 bw3) (by omega)
  have HOL := Lib.hid (show (bs (onceL key nonce)).length = 32 by rw [bs_len, onceL_len])
  have NW := Lib.hid (new_any w4 (onceL key nonce) (onceL_len _ _) (onceL_isB _ _))
  clear b4 on4 hr3 c3 c4 bw3 s32 s64
  go_upto_region 5 with (first
    | (refine wp_load_blk rfl 22 (.tmp 10) rfl rfl b4' Tryd.underlying22 rfl (n := 32) (by kernel_rfl) HOL.out ?_)
    | (go_at_call 40; refine NW.out.mono ?_; rintro e w5 ⟨g, rfl, hg, hm5, hb5⟩))
  have bw5 : Below W.heap.size W w5 := bw_then bw4 hb5 bw4.size
  have hgW : W.heap.size ≤ g := Nat.le_trans bw4.size hg
  have hgl := hm5.lt
  clear b4' hb5 bw4
  have F1 := Lib.hid (filled_any w5 va ad (HRA.out.stay (bw_then BB.out bw5 (by omega)) (by omega)) (by omega))
  go_upto_region 6 with (first
    | (go_at_call 42; refine F1.out.mono ?_; rintro e w6 ⟨v6, rfl, hb6, ho6⟩; have WR := Lib.hid (write_any w6 g (onceL key nonce) [] (filledL ad) v6 (onceL_isB _ _) (hm5.stay hb6) (Rd.of_own ho6) (filledL_isB HAB.out) (fun z hz => by simp at hz) (by have := filledL_len ad; simp only [List.length_nil]; omega)); rw [List.nil_append] at WR)
    | (go_at_call 41; refine WR.out.mono ?_; rintro e w7 ⟨rfl, hm7, ht7⟩))
  have bw6 : Below W.heap.size W w6 := bw_then bw5 hb6 bw5.size
  have bw7 : Below W.heap.size W w7 := Turns.below bw6 ht7 bw6.size (fun j hj => by rcases hj with rfl | h; exact hgW; exact h.elim)
  have hm7' := hm7.mono (T := fun b => W.heap.size ≤ b) fun b hb => hb.elim False.elim fun h => Nat.le_trans bw6.size h
  clear WR F1 hm5 hm7 ht7 ho6 bw5 bw6 hb6
  have F2 := Lib.hid (filled_any w7 vh hidden (HRH.out.stay (bw_then BB.out bw7 (by omega)) (by omega)) (by omega))
  go_upto_region 7 with (first
    | (go_at_call 42; refine F2.out.mono ?_; rintro e w8 ⟨v8, rfl, hb8, ho8⟩; have WR := Lib.hid (write_any w8 g (onceL key nonce) (filledL ad) (filledL hidden) v8 (onceL_isB _ _) (hm7'.stay hb8) (Rd.of_own ho8) (filledL_isB HHB.out) (filledL_isB HAB.out) (by have := filledL_len ad; have := filledL_len hidden; omega)))
    | (go_at_call 41; refine WR.out.mono ?_; rintro e w9 ⟨rfl, hm9, ht9⟩))
  have bw8 : Below W.heap.size W w8 := bw_then bw7 hb8 bw7.size
  have bw9 : Below W.heap.size W w9 := Turns.below bw8 ht9 bw8.size (fun j hj => by rcases hj with rfl | h; exact hgW; exact h)
  have hm9' := hm9.mono (T := fun b => W.heap.size ≤ b) fun b hb => hb.elim id fun h => Nat.le_trans bw8.size h
  clear WR F2 hm7' hm9 ht9 ho8 bw7 bw8 hb8
  have hlva := HLA.out ()
  have hlvh := HLH.out ()
  obtain ⟨na, hna⟩ : ∃ n, ad.length = n := ⟨_, rfl⟩
  obtain ⟨nh, hnh⟩ : ∃ n, hidden.length = n := ⟨_, rfl⟩
  have HNA := Lib.hid (fun _ : Unit => hna)
  have HNH := Lib.hid (fun _ : Unit => hnh)
  rw [hna] at hlva hla
  rw [hnh] at hlvh hlh
  have tok : True := trivial
  clear hna hnh
  go_upto_region 8 with (first
    | (go_at_call 43; have _t := tok; refine (putLe64_any _ [] (na : Int) _ (Rd.nil _) (by decide) (by omega)).mono ?_; rintro e wa ⟨v10, rfl, hba, hoa⟩; clear tok)
    | (go_at_call 43; refine (putLe64_any _ _ (nh : Int) _ (Rd.of_own hoa) (by rw [List.nil_append, lowN_len]; decide) (by omega)).mono ?_; rintro e wb ⟨v11, rfl, hbb, hob⟩; have WR := Lib.hid (write_any wb g (onceL key nonce) (filledL ad ++ filledL hidden) _ v11 (onceL_isB _ _) ((hm9'.stay hba).stay hbb) (Rd.of_own hob) (isB_append (isB_append (fun z hz => by simp at hz) (lowN_isB _ _)) (lowN_isB _ _)) (isB_append (filledL_isB HAB.out) (filledL_isB HHB.out)) (by have := filledL_len ad; have := filledL_len hidden; simp only [List.length_append, lowN_len, List.length_nil]; have := HNA.out (); have := HNH.out (); omega)))
    | (go_at_call 41; refine WR.out.mono ?_; rintro e wc ⟨rfl, hmc, htc⟩))
  have bwa : Below W.heap.size W wa := bw_then bw9 hba bw9.size
  have bwb : Below W.heap.size W wb := bw_then bwa hbb bwa.size
  have bwc : Below W.heap.size W wc := Turns.below bwb htc bwb.size (fun j hj => by rcases hj with rfl | h; exact hgW; exact h)
  have e9 : filledL ad ++ filledL hidden ++ ([] ++ lowN (na : Int) (64 / 8) ++ lowN (nh : Int) (64 / 8)) = markT ad hidden := by
    rw [markT, HNA.out (), HNH.out (), List.nil_append]
    simp only [List.append_assoc]
  rw [e9] at hmc
  have SM := Lib.hid (macsum_any wc g (onceL key nonce) (markT ad hidden) (onceL_isB _ _) (markT_isB HAB.out HHB.out) (onceL_len _ _) hmc)
  have HML := Lib.hid (show (bs (tagL (onceL key nonce) (markT ad hidden))).length = 16 by rw [bs_len, tagL_len])
  have hBc : B < wc.heap.size := by have := bwc.size; omega
  clear WR hmc htc e9 bwa bwb hm9' bw9 hba hbb hoa hob hlva hlvh
  go_wp2_with (first
    | (go_at_call 44; refine SM.out.mono ?_; rintro e wd ⟨rfl, hbd⟩)
    | (refine wp_store_blk rfl 53 (.tmp 8) (.tmp 39) rfl rfl rfl ((B2.out.stay bwc).stay hbd) (bs_one _) (by rw [HML.out]; rfl) (n := 16) (by kernel_rfl) HML.out ?_; intro wz hbz honz))
  refine ret_blk rfl rfl hbz Tryd.underlying53 rfl (n := 16) (by kernel_rfl) HML.out rfl ?_
  have bwd := bw_then bwc hbd bwc.size
  exact ⟨rfl, by rw [hB]; exact honz.below (bw_then BB.out bwd (by omega)) (by omega)⟩

/-- A struct that is built, whose run is known. -/
theorem wp_built {P : Program} {ops : Array Oper} {rest : List Oper} {o : Oper} {a : Act} {w : World} {Q : Exit → Act → World → Prop} (hgd : o.guard = none) (t : TypeId) (parts : Array (Nat × Operand)) (ho : o.op = .build t parts) {vs : Array (Nat × Value)} (hv : (parts.map fun (i, x) => (i, a.eval x)) = vs) {cs : Array Value}
    (hb : ∀ w, (Instr.build t vs).run P w = .ok (.agg cs) w) (h : wpList P ops Q rest (a.put o.dst (.agg cs)) w) : wpList P ops Q (o :: rest) a w :=
  wpList_plain hgd fun K hK => by
    show o.upon P a K Q ((execOp a.eval o).run P w)
    have : (execOp a.eval o).run P w = .ok (.value (.agg cs)) w := by
      subst hv
      simp [execOp, ho, hb]
    rw [this]
    exact hK _ _ h
theorem rangeTake_step (xs : List Int) (n k : Nat) (hn : n ≤ xs.length) (hk : k < n) : (xs.take k ++ List.replicate (n - k) 0).set k (xs.getD k 0) = xs.take (k + 1) ++ List.replicate (n - (k + 1)) 0 := by
  have h1 := take_snoc xs k (by omega)
  have hti : (xs.take k).length = k := by rw [List.length_take]; omega
  rw [List.set_append_right _ _ (by omega), hti, Nat.sub_self, show n - k = (n - (k + 1)) + 1 by omega, List.replicate_succ, List.set_cons_zero, h1]
  simp

set_option maxRecDepth 100000 in
set_option maxHeartbeats 4000000 in
theorem rmark_any (w : World) (key nonce ad hidden : List Int) (va vh : Value) (hk : key.length = 32) (hn : nonce.length = 12) (hkb : IsB key) (hnb : IsB nonce) (hab : IsB ad) (hhb : IsB hidden) (hra : Rd w va (bs ad)) (hrh : Rd w vh (bs hidden))
    (hla : ad.length ≤ 1000000) (hlh : hidden.length ≤ 1000000) :
    Calls Tryd.prog 28 #[.agg (bs key).toArray, .agg (bs nonce).toArray, va, vh] w fun e w' => e = .returned (.agg (bs (markL key nonce ad hidden)).toArray) ∧ Below w.heap.size w w' := by
  have HK := Lib.hid hk
  have HN := Lib.hid hn
  have HKB := Lib.hid hkb
  have HNB := Lib.hid hnb
  have HAB := Lib.hid hab
  have HHB := Lib.hid hhb
  have HRA := Lib.hid hra
  have HRH := Lib.hid hrh
  have hlva : ∀ w', (Builtin.len_ #[30] 3 #[va]).run Tryd.prog w' = .ok (goInt ad.length) w' := by
    have := len_fact (P := Tryd.prog) hra (t := 30) (ty := 3) (by kernel_rfl)
    rwa [bs_len] at this
  have hlvh : ∀ w', (Builtin.len_ #[30] 3 #[vh]).run Tryd.prog w' = .ok (goInt hidden.length) w' := by
    have := len_fact (P := Tryd.prog) hrh (t := 30) (ty := 3) (by kernel_rfl)
    rwa [bs_len] at this
  have HLA := Lib.hid (fun _ : Unit => hlva)
  have HLH := Lib.hid (fun _ : Unit => hlvh)
  clear hk hn hkb hnb hab hhb hra hrh hlva hlvh
  obtain ⟨B, hB⟩ : ∃ B, w.heap.size = B := ⟨_, rfl⟩
  go_enter Tryd.func28, Tryd.ntmps28
  go_upto_region 1 with fail
  obtain ⟨W, hW⟩ : ∃ W, ((w.alloc (.cells (bs key).toArray 22)).alloc (.cells (bs nonce).toArray 24)).alloc (.cells (bs (List.replicate 16 0)).toArray 53) = W := ⟨_, rfl⟩
  change Code.wp _ _ _ _ (((w.alloc (.cells (bs key).toArray 22)).alloc (.cells (bs nonce).toArray 24)).alloc (.cells (bs (List.replicate 16 0)).toArray 53))
  have b0 : Blk W B (bs key) 22 := by rw [← hW]; exact ((Blk.mk_ _ hB.symm rfl).al _).al _
  have b1 : Blk W (B + 1) (bs nonce) 24 := by rw [← hW]; exact (Blk.mk_ _ (by simp [hB]) rfl).al _
  have b2 : Blk W (B + 2) (bs (List.replicate 16 0)) 53 := by rw [← hW]; exact Blk.mk_ _ (by simp [hB]) rfl
  have bb : Below B w W := by rw [← hW]; exact bw_al (bw_al (bw_al (Below.refl _ _) (by omega) _) (by simp; omega) _) (by simp; omega) _
  rw [hW]
  have hz1 : W.heap.size = B + 3 := by rw [← hW]; simp [hB]
  clear hW
  have HKL := Lib.hid (show (bs key).length = 32 by rw [bs_len, HK.out])
  have HNL := Lib.hid (show (bs nonce).length = 12 by rw [bs_len, HN.out])
  have BC := Lib.hid (blockr_any key nonce 0 W HK.out HN.out HKB.out HNB.out)
  have hba := at_fold0 key nonce HK.out HN.out
  have hba2 := at_size key HK.out
  have hkl := HKL.out
  have hnl := HNL.out
  have BB := Lib.hid bb
  have B2 := Lib.hid b2
  clear bb b2
  go_upto_region 2 with (first
    | (refine wp_load_blk rfl 22 (.tmp 4) rfl rfl b0 Tryd.underlying22 rfl (n := 32) (by kernel_rfl) HKL.out ?_)
    | (refine wp_load_blk rfl 24 (.tmp 5) rfl rfl b1 Tryd.underlying24 rfl (n := 12) (by kernel_rfl) HNL.out ?_)
    | (go_at_call 17; refine BC.out.mono ?_; rintro e w2 ⟨v2, rfl, hb2, ho2⟩))
  have hs2 := hb2.size
  have hr2 := Rd.of_own ho2
  obtain ⟨bg, bo, bc, rfl, hbc, hbm, hcell⟩ := hr2.cellAt (by rw [bs_len, block_len]; decide)
  rw [bs_len, block_len]
  rw [bs_len, block_len] at hbc
  have HCELL := Lib.hid hcell
  have HR2 := Lib.hid hr2
  clear ho2 hcell hr2 b0 b1 hba hba2 hkl hnl
  go_upto_region 3 with fail
  obtain ⟨W3, hW3⟩ : ∃ W3, w2.alloc (.cells (bs (List.replicate 32 0)).toArray 22) = W3 := ⟨_, rfl⟩
  change Code.wp _ _ _ _ (w2.alloc (.cells (bs (List.replicate 32 0)).toArray 22))
  have bw3 : Below W.heap.size W W3 := by rw [← hW3]; exact bw_al hb2 hs2 _
  have bw23 : Below w2.heap.size w2 W3 := by rw [← hW3]; exact bw_al (Below.refl _ _) (Nat.le_refl _) _
  obtain ⟨C, hC⟩ : ∃ C, w2.heap.size = C := ⟨_, rfl⟩
  have c4 : Blk W3 C (bs (List.replicate 32 0)) 22 := by rw [← hW3]; exact Blk.mk_ _ hC.symm rfl
  rw [hW3, hC]
  clear hW3
  have hbg : bg < C := by
    have h := HCELL.out 0 _ (List.getElem?_eq_getElem (by rw [bs_len, block_len]; decide))
    rw [← hC]
    exact World.block_lt_of_cell? w2 ⟨bg, bo + 0, none⟩ h
  have I0 := Lib.hid (⟨c4, Below.refl _ _⟩ : Blk W3 C (bs (List.replicate 32 0)) 22 ∧ Below C W3 W3)
  have BW3 := Lib.hid bw3
  have BW23 := Lib.hid bw23
  have hCW : C < W3.heap.size := c4.lt
  rw [hC] at hs2
  clear c4 bw3 bw23 hb2
  have hbl64 : (block key 0 nonce).length = 64 := block_len _ _ _
  have HXB := Lib.hid (block_isB key 0 nonce)
  have HEQ := Lib.hid (fun _ : Unit => show onceL key nonce = (block key 0 nonce).take 32 from rfl)
  have HB64 := Lib.hid (fun _ : Unit => hbl64)
  clear hbl64
  generalize block key 0 nonce = xs at *
  go_wp2_with fail
  go_loopw [11] (fun x wr => ∃ k : Nat, k ≤ 32 ∧ x = .int .i64 k ∧ Blk wr C (bs (xs.take k ++ List.replicate (32 - k) 0)) 22 ∧ Below C W3 wr) (fun x _ => 32 - (intOf x).toNat)
  case atStart => exact ⟨0, Nat.zero_le _, rfl, I0.out⟩
  case round =>
    obtain ⟨k, hk, rfl, c1, cb⟩ := hrel
    obtain ⟨wo, rfl⟩ : ∃ wo : World, wo = wr := ⟨_, rfl⟩
    clear I0
    by_cases hlt : k < 32
    · obtain ⟨y, hy⟩ : ∃ y, xs.getD k 0 = y := ⟨_, rfl⟩
      have e1 : wo.cell? ⟨bg, bo + k, none⟩ = some (.int .u8 y) := by
        have h := HCELL.out k (.int .u8 y) (by rw [bs_get xs k (by rw [HB64.out ()]; omega), hy])
        exact (cb.cell (p := ⟨bg, bo + k, none⟩) hbg).trans ((BW23.out.cell (p := ⟨bg, bo + k, none⟩) (by show bg < _; omega)).trans h)
      have e3 : wo.cell? ⟨C, k, none⟩ = some (.int .u8 0) := by
        refine c1.at_ k ?_
        rw [bs, List.getElem?_map, List.getElem?_append_right (by rw [List.length_take]; omega), List.length_take, HB64.out (), Nat.min_eq_left (by omega), Nat.sub_self, List.getElem?_replicate, if_pos (by omega)]
        rfl
      have f3 := c1.free k
      have h4 := rangeTake_step xs 32 k (by rw [HB64.out ()]; decide) hlt
      rw [hy] at h4
      have HC := Lib.hid (show Blk (wo.setCell ⟨C, k, none⟩ (.int .u8 y)) C (bs (xs.take (k + 1) ++ List.replicate (32 - (k + 1)) 0)) 22 ∧ Below C W3 (wo.setCell ⟨C, k, none⟩ (.int .u8 y)) from by
        refine ⟨?_, bw_set cb _ _ (Nat.le_refl _) _⟩
        have h := c1.set k (.int .u8 y)
        rwa [bs_set, h4] at h)
      clear c1 cb h4 hy
      go_wp2_with fail
      refine ⟨⟨k + 1, by omega, by go_num, HC.out⟩, by simp [intOf]; omega⟩
    · obtain rfl : k = 32 := by omega
      rw [Nat.sub_self, List.replicate_zero, List.append_nil] at c1
      have bwo : Below W.heap.size W wo := BW3.out.trans (cb.mono hs2)
      have HC1 := Lib.hid c1
      have R1 := Lib.hid (rfilled_any wo va ad (HRA.out.stay (bw_then BB.out bwo (by omega)) (by omega)) (by omega))
      have R2 := Lib.hid (fun w' hb => rfilled_any w' vh hidden (HRH.out.stay (bw_then BB.out (bw_then bwo hb bwo.size) (by omega)) (by omega)) (by omega))
      have hBo : B < wo.heap.size := by have := bwo.size; omega
      have tok : True := trivial
      clear c1 cb
      go_upto_region 8 with (first
        | (go_at_call 46; have _t := tok; refine R1.out.mono ?_; rintro e w5 ⟨v5, rfl, hb5, ho5⟩; clear tok)
        | (go_at_call 46; refine (R2.out _ hb5).mono ?_; rintro e w6 ⟨v6, rfl, hb6, ho6⟩)
        | (go_at_call 45; refine (both_any w6 _ _ (filledL ad) (filledL hidden) ((Rd.of_own ho5).stay hb6 (Nat.le_refl _)) (Rd.of_own ho6) (by have := filledL_len ad; have := filledL_len hidden; omega)).mono ?_; rintro e w7 ⟨v7, rfl, hb7, ho7⟩))
      have b56 := bw_then hb5 hb6 hb5.size
      have b57 := bw_then b56 hb7 b56.size
      have HO7 := Lib.hid ho7
      obtain ⟨na, hna⟩ : ∃ n, ad.length = n := ⟨_, rfl⟩
      obtain ⟨nh, hnh⟩ : ∃ n, hidden.length = n := ⟨_, rfl⟩
      have hlva := HLA.out ()
      have hlvh := HLH.out ()
      have HNA := Lib.hid (fun _ : Unit => hna)
      have HNH := Lib.hid (fun _ : Unit => hnh)
      have hfa := filledL_len ad
      have hfh := filledL_len hidden
      have HFL := Lib.hid (show (filledL ad).length + (filledL hidden).length ≤ 2000030 by omega)
      rw [hna] at hlva hla
      rw [hnh] at hlvh hlh
      clear ho7 ho5 ho6 R1 R2 b56 hb5 hb6 hb7 hna hnh hfa hfh
      go_upto_region 9 with (first
        | (go_at_call 39; refine (rlow_any (na : Int) 8 _ (by omega) (by omega) (by decide) (by decide)).mono ?_; rintro e wa ⟨va1, rfl, hba, hoa⟩)
        | (go_at_call 45; refine (both_any wa _ _ _ _ ((Rd.of_own HO7.out).stay hba (Nat.le_refl _)) (Rd.of_own hoa) (by rw [List.length_append, lowN_len]; have := HFL.out; have e8 : (8 : Int).toNat = 8 := rfl; omega)).mono ?_; rintro e wb ⟨vb1, rfl, hbb, hob⟩))
      have ba := bw_then b57 hba b57.size
      have bb1 := bw_then ba hbb ba.size
      have HOB := Lib.hid hob
      clear hoa hob hlva hba hbb ba b57
      go_upto_region 10 with (first
        | (go_at_call 39; refine (rlow_any (nh : Int) 8 _ (by omega) (by omega) (by decide) (by decide)).mono ?_; rintro e wc ⟨vc1, rfl, hbc1, hoc⟩)
        | (go_at_call 45; refine (both_any wc _ _ _ _ ((Rd.of_own HOB.out).stay hbc1 (Nat.le_refl _)) (Rd.of_own hoc) (by rw [List.length_append, List.length_append, lowN_len, lowN_len]; have := HFL.out; have e8 : (8 : Int).toNat = 8 := rfl; omega)).mono ?_; rintro e wd ⟨vd1, rfl, hbd, hod⟩))
      have bc1 := bw_then bb1 hbc1 bb1.size
      have bd := bw_then bc1 hbd bc1.size
      have e9 : filledL ad ++ filledL hidden ++ lowN (na : Int) (8 : Int).toNat ++ lowN (nh : Int) (8 : Int).toNat = markT ad hidden := by
        rw [markT, HNA.out (), HNH.out ()]; rfl
      rw [e9] at hod
      have hlmt : (markT ad hidden).length ≤ 1000000000000 := by
        simp only [markT, List.length_append, lowN_len]
        have := HFL.out
        omega
      have hc4 : Blk wd C (bs (xs.take 32)) 22 := HC1.out.stay bd
      rw [← HEQ.out ()] at hc4
      have HOL := Lib.hid (show (bs (onceL key nonce)).length = 32 by rw [bs_len, onceL_len])
      have HML := Lib.hid (show (bs (tagL (onceL key nonce) (markT ad hidden))).length = 16 by rw [bs_len, tagL_len])
      have SM := Lib.hid (sum03_any wd vd1 (onceL key nonce) (markT ad hidden) (onceL_len _ _) (onceL_isB _ _) (Rd.of_own hod) (markT_isB HAB.out HHB.out) hlmt)
      have bwd := bw_then bwo bd bwo.size
      have hBd := bwd.size
      clear hod e9 hlmt bb1 bc1 bd hbc1 hbd hoc hlvh
      go_wp2_with (first
        | (refine wp_load_blk rfl 22 (.tmp 10) rfl rfl hc4 Tryd.underlying22 rfl (n := 32) (by kernel_rfl) HOL.out ?_)
        | (go_at_call 47; refine SM.out.mono ?_; rintro e we ⟨rfl, hbe⟩)
        | (refine wp_store_blk rfl 53 (.tmp 8) (.tmp 46) rfl rfl rfl ((B2.out.stay bwd).stay hbe) (bs_one _) (by rw [HML.out]; rfl) (n := 16) (by kernel_rfl) HML.out ?_; intro wz hbz honz))
      refine ret_blk rfl rfl hbz Tryd.underlying53 rfl (n := 16) (by kernel_rfl) HML.out rfl ?_
      have bwe := bw_then bwd hbe bwd.size
      exact ⟨rfl, by rw [hB]; exact honz.below (bw_then BB.out bwe (by omega)) (by omega)⟩
end Go.Proofs.YtmjjnaaiakchhaaDoor
end

section
/-
  aead.Same: whether two texts have the same bytes.
-/
namespace Go.Proofs.YtmjjnaaiakchhaaDoor
open Go.RowKit

theorem xor_zero_iff (a b : Nat) : a ^^^ b = 0 ↔ a = b := by
  constructor
  · intro h
    have h1 : b = a ^^^ (a ^^^ b) := by rw [← Nat.xor_assoc, Nat.xor_self, Nat.zero_xor]
    rw [h, Nat.xor_zero] at h1
    exact h1.symm
  · rintro rfl; exact Nat.xor_self _
theorem or_xor (o x y : Int) (ho : 0 ≤ o ∧ o ≤ 255) (hx : 0 ≤ x ∧ x ≤ 255) (hy : 0 ≤ y ∧ y ≤ 255) : ∃ r, bits .or .u8 o (bits .xor .u8 x y) = r ∧ (0 ≤ r ∧ r ≤ 255) ∧ (r = 0 ↔ o = 0 ∧ x = y) := by
  obtain ⟨O, rfl⟩ := Int.eq_ofNat_of_zero_le ho.1
  obtain ⟨X, rfl⟩ := Int.eq_ofNat_of_zero_le hx.1
  obtain ⟨Y, rfl⟩ := Int.eq_ofNat_of_zero_le hy.1
  have h1 := u8_xor_nat X Y (by omega) (by omega)
  have h5 : X ^^^ Y < 2 ^ 8 := Nat.xor_lt_two_pow (by omega) (by omega)
  have h2 := u8_or_nat O (X ^^^ Y) (by omega) h5
  have h6 : O ||| (X ^^^ Y) < 2 ^ 8 := Nat.or_lt_two_pow (by omega) h5
  refine ⟨_, by rw [h1, h2], ⟨by omega, by omega⟩, ?_⟩
  rw [show (((O ||| (X ^^^ Y) : Nat) : Int) = 0) = ((O ||| (X ^^^ Y)) = 0) by simp, Nat.or_eq_zero_iff, xor_zero_iff]
  omega
theorem take_eq_step (xs ys : List Int) (k : Nat) (hx : k < xs.length) (hy : k < ys.length) : xs.take (k + 1) = ys.take (k + 1) ↔ xs.take k = ys.take k ∧ xs.getD k 0 = ys.getD k 0 := by
  rw [take_snoc xs k hx, take_snoc ys k hy]
  constructor
  · intro h
    have h1 := List.append_inj h (by rw [List.length_take, List.length_take]; omega)
    exact ⟨h1.1, by simpa using h1.2⟩
  · rintro ⟨h1, h2⟩
    rw [h1, h2]

set_option maxRecDepth 100000 in
set_option maxHeartbeats 1000000 in
theorem same_any (w : World) (u v : Value) (xs ys : List Int) (hu : Rd w u (bs xs)) (hv : Rd w v (bs ys)) (hx : IsB xs) (hy : IsB ys) :
    Calls Tryd.prog 29 #[u, v] w fun e w' => e = .returned (.bool (eqB xs ys)) ∧ Below w.heap.size w w' := by
  have hlu : ∀ w', (Builtin.len_ #[30] 3 #[u]).run Tryd.prog w' = .ok (goInt xs.length) w' := by
    have := len_fact (P := Tryd.prog) hu (t := 30) (ty := 3) (by kernel_rfl)
    rwa [bs_len] at this
  have hlv : ∀ w', (Builtin.len_ #[30] 3 #[v]).run Tryd.prog w' = .ok (goInt ys.length) w' := by
    have := len_fact (P := Tryd.prog) hv (t := 30) (ty := 3) (by kernel_rfl)
    rwa [bs_len] at this
  have hmx := hu.len
  have hmy := hv.len
  rw [bs_len] at hmx hmy
  have HU := Lib.hid hu
  have HV := Lib.hid hv
  have HX := Lib.hid hx
  have HY := Lib.hid hy
  clear hu hv hx hy
  obtain ⟨n, hn⟩ : ∃ n, xs.length = n := ⟨_, rfl⟩
  obtain ⟨m, hm⟩ : ∃ m, ys.length = m := ⟨_, rfl⟩
  have HN := Lib.hid (fun _ : Unit => (⟨hn, hm⟩ : xs.length = n ∧ ys.length = m))
  rw [hn] at hmx hlu
  rw [hm] at hmy hlv
  obtain ⟨q, hq⟩ : ∃ q : Nat, min n m = q := ⟨_, rfl⟩
  have hqi : min (n : Int) (m : Int) = (q : Int) := by omega
  have hqn : q ≤ n := by omega
  have hqm : q ≤ m := by omega
  have HQ := Lib.hid (fun _ : Unit => hq)
  clear hn hm hq
  have HE := Lib.hid (fun _ : Unit => show xs.take 0 = ys.take 0 from rfl)
  have HNM := Lib.hid (fun _ : Unit => (⟨(HN.out ()).1, (HN.out ()).2⟩ : xs.length = n ∧ ys.length = m))
  rcases (show (q = n ∧ n < m) ∨ (q = n ∧ n = m) ∨ (q = m ∧ m < n) by omega) with ⟨rfl, hc⟩ | ⟨rfl, rfl⟩ | ⟨rfl, hc⟩
  all_goals
    go_enter Tryd.func29, Tryd.ntmps29
    go_wp2_with fail
    go_loopw [5, 12] (fun x i wr => ∃ (k : Nat) (o : Int), k ≤ q ∧ i = .int .i64 k ∧ x = .int .u8 o ∧ (0 ≤ o ∧ o ≤ 255) ∧ (o = 0 ↔ xs.take k = ys.take k) ∧ Below w.heap.size w wr) (fun _ i _ => q - (intOf i).toNat)
    case atStart => exact ⟨0, 0, Nat.zero_le _, rfl, rfl, by decide, by simp, Below.refl _ _⟩
    case round =>
      obtain ⟨k, o, hk, rfl, rfl, ho, hoe, hbl⟩ := hrel
      obtain ⟨wo, rfl⟩ : ∃ wo : World, wo = wr := ⟨_, rfl⟩
      by_cases hlt : k < q
      · obtain ⟨bu, ou, cu, rfl, hu1, hu2, hu3⟩ := (HU.out.stay hbl (Nat.le_refl _)).cellAt (by have := (HNM.out ()).1; rw [bs_len]; omega)
        obtain ⟨bv, ov, cv, rfl, hv1, hv2, hv3⟩ := (HV.out.stay hbl (Nat.le_refl _)).cellAt (by have := (HNM.out ()).2; rw [bs_len]; omega)
        obtain ⟨x, hx⟩ : ∃ x, xs.getD k 0 = x := ⟨_, rfl⟩
        obtain ⟨y, hy⟩ : ∃ y, ys.getD k 0 = y := ⟨_, rfl⟩
        have e1 : wo.cell? ⟨bu, ou + k, none⟩ = some (.int .u8 x) := by rw [← hx]; exact hu3 k _ (bs_get xs k (by have := (HNM.out ()).1; omega))
        have e2 : wo.cell? ⟨bv, ov + k, none⟩ = some (.int .u8 y) := by rw [← hy]; exact hv3 k _ (bs_get ys k (by have := (HNM.out ()).2; omega))
        have hxr := HX.out.at_ k
        have hyr := HY.out.at_ k
        rw [hx] at hxr
        rw [hy] at hyr
        obtain ⟨r, hr, hrr, hre⟩ := or_xor o x y ho hxr hyr
        have hst := take_eq_step xs ys k (by have := (HNM.out ()).1; omega) (by have := (HNM.out ()).2; omega)
        rw [hx, hy] at hst
        have HRE := Lib.hid (show r = 0 ↔ xs.take (k + 1) = ys.take (k + 1) from by rw [hre, hst, hoe])
        have HBL := Lib.hid hbl
        clear hre hst hoe hx hy hu3 hv3 hbl
        have hk1 : (k : Int) < ((bs xs).length : Int) := by rw [bs_len]; have := (HNM.out ()).1; omega
        have hk2 : (k : Int) < ((bs ys).length : Int) := by rw [bs_len]; have := (HNM.out ()).2; omega
        have hk3 : ¬ ((bs xs).length : Int) ≤ (k : Int) := by omega
        have hk4 : ¬ ((bs ys).length : Int) ≤ (k : Int) := by omega
        go_upto_region 5 with fail
        refine region_plan ⟨[0, 0, 0, 6, 14, 0, 0, 96, 224, 510, 1023, 2047], [], [0, 0, 0, 0, 0, 0, 0, 0, 0, 0, 0, 0]⟩
          [⟨[0, 1, 2, 3, 4, 5, 6, 7, 8, 9, 10, 11], [3, 4, 7, 8, 9, 10], none⟩] 36 (by kernel_rfl) (by kernel_rfl) (by kernel_rfl) (by kernel_rfl) rfl ?_
        simp only [SeqGo, opsAt_cons, opsAt_nil, List.getElem?_cons, Option.toList_some, List.singleton_append, ↓reduceIte, Nat.reduceEqDiff, Nat.reduceSub]
        go_wp2_with fail
        refine ⟨by (simp only [Sames, Same]; go_simp), ?_⟩
        go_wp2_with fail
        refine ⟨⟨k + 1, r, by omega, by go_num, rfl, hrr, HRE.out, bw_d1 HBL.out⟩, by simp [intOf]; omega⟩
      · obtain rfl : k = q := by omega
        have hres : eqB xs ys = (decide (o = 0) && decide (xs.length = ys.length)) := by
          have h1 := (HNM.out ()).1
          have h2 := (HNM.out ()).2
          unfold eqB
          rw [Bool.eq_iff_iff]
          simp only [beq_iff_eq, Bool.and_eq_true, decide_eq_true_eq, hoe]
          constructor
          · rintro rfl; exact ⟨rfl, rfl⟩
          · rintro ⟨h3, h4⟩
            rwa [List.take_of_length_le (by omega), List.take_of_length_le (by omega)] at h3
        rw [(HNM.out ()).1, (HNM.out ()).2] at hres
        have HRES := Lib.hid (fun _ : Unit => hres)
        clear hres hoe
        by_cases ho0 : o = 0
        · subst ho0
          go_wp2_with fail
          all_goals go_ret
          refine ⟨?_, hbl⟩
          rw [HRES.out ()]
          simp
          try (rw [Bool.eq_iff_iff]; simp only [beq_iff_eq, decide_eq_true_eq]; omega)
        · go_wp2_with fail
          all_goals go_ret
          refine ⟨?_, hbl⟩
          rw [HRES.out ()]
          simp [ho0]
end Go.Proofs.YtmjjnaaiakchhaaDoor
end

section
/-
  Texts that are sealed and opened: the program's, and the document's.
-/
namespace Go.Proofs.YtmjjnaaiakchhaaDoor
open Go.RowKit

def sealE (ad text : List Int) : Int := if 65536 < text.length ∨ 65536 < ad.length then 5 else 0
def sealL (key nonce ad text : List Int) : List Int := xorAll key nonce 1 text ++ markL key nonce ad (xorAll key nonce 1 text)
def sealF (key nonce ad text : List Int) : List Int := if 65536 < text.length ∨ 65536 < ad.length then [] else sealL key nonce ad text
def openE (key nonce ad sealed : List Int) : Int :=
  if sealed.length < 16 then 4 else if 65536 < ad.length ∨ 65536 < sealed.length - 16 then 5 else
  if markL key nonce ad (sealed.take (sealed.length - 16)) = sealed.drop (sealed.length - 16) then 0 else 6
def openF (key nonce ad sealed : List Int) : List Int := if openE key nonce ad sealed = 0 then xorAll key nonce 1 (sealed.take (sealed.length - 16)) else []
theorem xorAll_len1 (key nonce xs : List Int) (h : xs.length ≤ 65536) : (xorAll key nonce 1 xs).length = xs.length := by
  rw [xorAll_len, if_pos (by unfold room; omega)]
theorem sealL_isB (key nonce ad : List Int) {text : List Int} (h : IsB text) : IsB (sealL key nonce ad text) := isB_append (xorAll_isB _ _ _ h) (markL_isB _ _ _ _)
theorem sealF_isB (key nonce ad : List Int) {text : List Int} (h : IsB text) : IsB (sealF key nonce ad text) := by
  unfold sealF; split
  · intro z hz; simp at hz
  · exact sealL_isB _ _ _ h
theorem sealL_len (key nonce ad text : List Int) (h : text.length ≤ 65536) : (sealL key nonce ad text).length = text.length + 16 := by
  rw [sealL, List.length_append, xorAll_len1 _ _ _ h, markL_len]
theorem openF_isB (key nonce ad : List Int) {sealed : List Int} (h : IsB sealed) : IsB (openF key nonce ad sealed) := by
  unfold openF; split
  · exact xorAll_isB _ _ _ fun z hz => h z (List.mem_of_mem_take hz)
  · intro z hz; simp at hz
/-- What was sealed is opened. -/
theorem open_seal (key nonce ad text : List Int) (hl : text.length ≤ 65536) (ha : ad.length ≤ 65536) (hb : IsB text) : openE key nonce ad (sealL key nonce ad text) = 0 ∧ openF key nonce ad (sealL key nonce ad text) = text := by
  have h1 := sealL_len key nonce ad text hl
  have hx := xorAll_len1 key nonce text hl
  have ht : (sealL key nonce ad text).take text.length = xorAll key nonce 1 text := by rw [sealL, ← hx, List.take_left]
  have hd : (sealL key nonce ad text).drop text.length = markL key nonce ad (xorAll key nonce 1 text) := by rw [sealL, ← hx, List.drop_left]
  have he : openE key nonce ad (sealL key nonce ad text) = 0 := by
    unfold openE
    rw [h1, Nat.add_sub_cancel, if_neg (by omega), if_neg (by omega), ht, hd, if_pos rfl]
  refine ⟨he, ?_⟩
  rw [openF, if_pos he, h1, Nat.add_sub_cancel, ht]
  have hr : (text.length : Int) ≤ room 1 := by unfold room; omega
  have e1 : xorAll key nonce 1 text = xorL key nonce 1 0 text text.length := by rw [xorAll, if_pos hr]
  rw [e1, xorAll, xorL_len, if_pos hr, xorL_back _ _ _ _ hb]
theorem slice16d (w : World) (o : Nat) : (Instr.sliceAt 53 (.pointer (some ⟨o, 0, none⟩)) none none none).run Tryd.prog w = .ok (.slice (some ⟨o, 0, none⟩) 16 16) w :=
  arr_slice w 53 o (by kernel_rfl) (by kernel_rfl) Tryd.underlying53 (by kernel_rfl)

theorem at_fold (key nonce : List Int) (c : Int) (hk : key.length = 32) (hn : nonce.length = 12) :
    (bs nonce).zipIdx.foldl (fun cs (x : Value × Nat) => cs.setIfInBounds (33 + x.snd) x.fst) (((bs key).zipIdx.foldl (fun cs (x : Value × Nat) => cs.setIfInBounds x.snd x.fst) #[.int .u8 0, .int .u8 0, .int .u8 0, .int .u8 0, .int .u8 0, .int .u8 0, .int .u8 0, .int .u8 0, .int .u8 0, .int .u8 0, .int .u8 0, .int .u8 0, .int .u8 0, .int .u8 0, .int .u8 0, .int .u8 0, .int .u8 0, .int .u8 0, .int .u8 0, .int .u8 0, .int .u8 0, .int .u8 0, .int .u8 0, .int .u8 0, .int .u8 0, .int .u8 0, .int .u8 0, .int .u8 0, .int .u8 0, .int .u8 0, .int .u8 0, .int .u8 0, .int .u32 0, .int .u8 0, .int .u8 0, .int .u8 0, .int .u8 0, .int .u8 0, .int .u8 0, .int .u8 0, .int .u8 0, .int .u8 0, .int .u8 0, .int .u8 0, .int .u8 0]).setIfInBounds 32 (.int .u32 c)) = (atV key c nonce).toArray := by
  have hl0 : (bs key).length = 32 := by rw [bs_len, hk]
  have hl1 : (bs nonce).length = 12 := by rw [bs_len, hn]
  have e1 := foldl_put0 (bs key) #[.int .u8 0, .int .u8 0, .int .u8 0, .int .u8 0, .int .u8 0, .int .u8 0, .int .u8 0, .int .u8 0, .int .u8 0, .int .u8 0, .int .u8 0, .int .u8 0, .int .u8 0, .int .u8 0, .int .u8 0, .int .u8 0, .int .u8 0, .int .u8 0, .int .u8 0, .int .u8 0, .int .u8 0, .int .u8 0, .int .u8 0, .int .u8 0, .int .u8 0, .int .u8 0, .int .u8 0, .int .u8 0, .int .u8 0, .int .u8 0, .int .u8 0, .int .u8 0, .int .u32 0, .int .u8 0, .int .u8 0, .int .u8 0, .int .u8 0, .int .u8 0, .int .u8 0, .int .u8 0, .int .u8 0, .int .u8 0, .int .u8 0, .int .u8 0, .int .u8 0] (by rw [hl0]; decide)
  have hY := at_size key hk
  generalize ((bs key).zipIdx.foldl (fun cs (x : Value × Nat) => cs.setIfInBounds x.snd x.fst) #[.int .u8 0, .int .u8 0, .int .u8 0, .int .u8 0, .int .u8 0, .int .u8 0, .int .u8 0, .int .u8 0, .int .u8 0, .int .u8 0, .int .u8 0, .int .u8 0, .int .u8 0, .int .u8 0, .int .u8 0, .int .u8 0, .int .u8 0, .int .u8 0, .int .u8 0, .int .u8 0, .int .u8 0, .int .u8 0, .int .u8 0, .int .u8 0, .int .u8 0, .int .u8 0, .int .u8 0, .int .u8 0, .int .u8 0, .int .u8 0, .int .u8 0, .int .u8 0, .int .u32 0, .int .u8 0, .int .u8 0, .int .u8 0, .int .u8 0, .int .u8 0, .int .u8 0, .int .u8 0, .int .u8 0, .int .u8 0, .int .u8 0, .int .u8 0, .int .u8 0]) = Y at *
  rw [hl0] at e1
  have e2 := foldl_put 33 (bs nonce) 0 (Y.setIfInBounds 32 (.int .u32 c)) (by rw [hl1, Array.size_setIfInBounds, hY]; decide)
  apply Array.toList_inj.1
  rw [e2, Array.toList_setIfInBounds, e1, hl1]
  have t0 : (bs key ++ List.drop 32 (#[.int .u8 0, .int .u8 0, .int .u8 0, .int .u8 0, .int .u8 0, .int .u8 0, .int .u8 0, .int .u8 0, .int .u8 0, .int .u8 0, .int .u8 0, .int .u8 0, .int .u8 0, .int .u8 0, .int .u8 0, .int .u8 0, .int .u8 0, .int .u8 0, .int .u8 0, .int .u8 0, .int .u8 0, .int .u8 0, .int .u8 0, .int .u8 0, .int .u8 0, .int .u8 0, .int .u8 0, .int .u8 0, .int .u8 0, .int .u8 0, .int .u8 0, .int .u8 0, .int .u32 0, .int .u8 0, .int .u8 0, .int .u8 0, .int .u8 0, .int .u8 0, .int .u8 0, .int .u8 0, .int .u8 0, .int .u8 0, .int .u8 0, .int .u8 0, .int .u8 0] : Array Value).toList).set 32 (.int .u32 c) = bs key ++ (.int .u32 c :: List.replicate 12 (Value.int .u8 0)) := by
    rw [List.set_append_right _ _ (by omega), hl0]; rfl
  rw [t0]
  have t1 : (bs key ++ (Value.int .u32 c :: List.replicate 12 (Value.int .u8 0))).take (33 + 0) = bs key ++ [.int .u32 c] := by
    rw [List.take_append, hl0, List.take_of_length_le (by rw [hl0]; decide)]; rfl
  have t2 : (bs key ++ (Value.int .u32 c :: List.replicate 12 (Value.int .u8 0))).drop (33 + 0 + 12) = [] := by
    apply List.drop_of_length_le; rw [List.length_append, hl0, List.length_cons, List.length_replicate]; exact Nat.le_refl _
  rw [t1, t2, List.append_nil, atV, List.append_assoc]
  rfl
def SealRes (key nonce ad text : List Int) (w : World) (e : Ending) (w' : World) : Prop :=
  ∃ v, e = .returned (.tuple #[v, .int .i64 (sealE ad text)]) ∧ Rd w' v (bs (sealF key nonce ad text)) ∧ Below w.heap.size w w'

set_option maxRecDepth 100000 in
set_option maxHeartbeats 2000000 in
theorem seal_any (w : World) (key nonce ad text : List Int) (va vt : Value) (hk : key.length = 32) (hn : nonce.length = 12) (hkb : IsB key) (hnb : IsB nonce) (hab : IsB ad) (htb : IsB text) (hra : Rd w va (bs ad)) (hrt : Rd w vt (bs text)) (ht : Tab w) :
    Calls Tryd.prog 30 #[.agg (bs key).toArray, .agg (bs nonce).toArray, va, vt] w (SealRes key nonce ad text w) := by
  have HK := Lib.hid hk
  have HN := Lib.hid hn
  have HKB := Lib.hid hkb
  have HNB := Lib.hid hnb
  have HAB := Lib.hid hab
  have HTB := Lib.hid htb
  have HRA := Lib.hid hra
  have HRT := Lib.hid hrt
  have hma := hra.len
  have hmt := hrt.len
  rw [bs_len] at hma hmt
  have hlva : ∀ w', (Builtin.len_ #[30] 3 #[va]).run Tryd.prog w' = .ok (goInt ad.length) w' := by
    have := len_fact (P := Tryd.prog) hra (t := 30) (ty := 3) (by kernel_rfl)
    rwa [bs_len] at this
  have hlvt : ∀ w', (Builtin.len_ #[30] 3 #[vt]).run Tryd.prog w' = .ok (goInt text.length) w' := by
    have := len_fact (P := Tryd.prog) hrt (t := 30) (ty := 3) (by kernel_rfl)
    rwa [bs_len] at this
  have HT := Lib.hid ht
  clear hk hn hkb hnb hab htb hra hrt ht
  obtain ⟨B, hB⟩ : ∃ B, w.heap.size = B := ⟨_, rfl⟩
  go_enter Tryd.func30, Tryd.ntmps30
  go_upto_region 1 with fail
  obtain ⟨W, hW⟩ : ∃ W, (w.alloc (.cells (bs key).toArray 22)).alloc (.cells (bs nonce).toArray 24) = W := ⟨_, rfl⟩
  change Code.wp _ _ _ _ ((w.alloc (.cells (bs key).toArray 22)).alloc (.cells (bs nonce).toArray 24))
  have b0 : Blk W B (bs key) 22 := by rw [← hW]; exact (Blk.mk_ _ hB.symm rfl).al _
  have b1 : Blk W (B + 1) (bs nonce) 24 := by rw [← hW]; exact Blk.mk_ _ (by simp [hB]) rfl
  have bb : Below B w W := by rw [← hW]; exact bw_al (bw_al (Below.refl _ _) (by omega) _) (by simp; omega) _
  rw [hW]
  have hz1 : W.heap.size = B + 2 := by rw [← hW]; simp [hB]
  clear hW
  by_cases h1 : 65536 < text.length
  · have h1' : (65536 : Int) < (text.length : Int) := by omega
    go_wp2_with fail
    all_goals go_ret2
    exact ⟨_, by rw [sealE, if_pos (.inl h1)]; rfl, by rw [sealF, if_pos (.inl h1)]; exact Rd.nil _, by rw [hB]; exact bb⟩
  by_cases h2 : 65536 < ad.length
  · have h1' : ¬ (65536 : Int) < (text.length : Int) := by omega
    have h2' : (65536 : Int) < (ad.length : Int) := by omega
    go_wp2_with fail
    all_goals go_ret2
    exact ⟨_, by rw [sealE, if_pos (.inr h2)]; rfl, by rw [sealF, if_pos (.inr h2)]; exact Rd.nil _, by rw [hB]; exact bb⟩
  have hE : sealE ad text = 0 := by rw [sealE, if_neg (by omega)]
  have hF : sealF key nonce ad text = sealL key nonce ad text := by rw [sealF, if_neg (by omega)]
  have hroom : (text.length : Int) ≤ room 1 := by unfold room; omega
  have HE := Lib.hid (fun _ : Unit => (⟨hE, hF, hroom⟩ : sealE ad text = 0 ∧ sealF key nonce ad text = sealL key nonce ad text ∧ (text.length : Int) ≤ room 1))
  have HXL := Lib.hid (fun _ : Unit => xorAll_len1 key nonce text (by omega))
  have HXB := Lib.hid (xorAll_isB key nonce 1 HTB.out)
  have HSL := Lib.hid (fun _ : Unit => show sealL key nonce ad text = xorAll key nonce 1 text ++ markL key nonce ad (xorAll key nonce 1 text) from rfl)
  have hd1 : decide ((text.length : Int) ≤ room 1) = true := decide_eq_true hroom
  have CX := Lib.hid (chxor_any W key nonce 1 vt text HK.out HN.out HKB.out HNB.out (by decide) (HRT.out.stay bb (by omega)) HTB.out (HT.out.keep bb (by rw [← hB]; exact HT.out.lt)) (by omega))
  unfold XorRes at CX
  rw [hd1] at CX
  have HKL := Lib.hid (show (bs key).length = 32 by rw [bs_len, HK.out])
  have HNL := Lib.hid (show (bs nonce).length = 12 by rw [bs_len, HN.out])
  have BB := Lib.hid bb
  clear hE hF hroom hd1 bb
  go_upto_region 4 with (first
    | (refine wp_load_blk rfl 22 (.tmp 4) rfl rfl b0 Tryd.underlying22 rfl (n := 32) (by kernel_rfl) HKL.out ?_)
    | (refine wp_load_blk rfl 24 (.tmp 5) rfl rfl b1 Tryd.underlying24 rfl (n := 12) (by kernel_rfl) HNL.out ?_)
    | (go_at_call 23; refine CX.out.mono ?_; rintro e w2 ⟨vx, rfl, hrx, hb2, _, hox⟩))
  have hox' := hox (HE.out ()).2.2
  generalize hX : xorAll key nonce 1 text = X at *
  have HOX := Lib.hid hox'
  have HRX := Lib.hid hrx
  have hs2 := hb2.size
  have bbw2 := bw_then BB.out hb2 (by omega)
  have MK := Lib.hid (mark_any w2 key nonce ad X va vx HK.out HN.out HKB.out HNB.out HAB.out HXB.out (HRA.out.stay bbw2 (by omega)) hrx (HT.out.keep bbw2 (by rw [← hB]; exact HT.out.lt)) (by omega) (by rw [HXL.out ()]; omega))
  have HML := Lib.hid (show (bs (markL key nonce ad X)).length = 16 by rw [bs_len, markL_len])
  have c0 := b0.stay hb2
  have c1 := b1.stay hb2
  have HB2 := Lib.hid hb2
  have HBW := Lib.hid bbw2
  clear hox hox' hrx hX b0 b1 hb2 bbw2
  go_upto_region 7 with (first
    | (refine wp_load_blk rfl 22 (.tmp 4) rfl rfl c0 Tryd.underlying22 rfl (n := 32) (by kernel_rfl) HKL.out ?_)
    | (refine wp_load_blk rfl 24 (.tmp 5) rfl rfl c1 Tryd.underlying24 rfl (n := 12) (by kernel_rfl) HNL.out ?_)
    | (go_at_call 27; refine MK.out.mono ?_; rintro e w3 ⟨rfl, hb3⟩)
    | (refine wp_store_blk rfl 53 (.tmp 12) (.tmp 34) rfl rfl rfl (cs' := bs (markL key nonce ad X)) (Blk.mk_ (cs := bs (List.replicate 16 0)) _ rfl rfl) (bs_one _) (by rw [HML.out]; rfl) (n := 16) (by kernel_rfl) HML.out ?_; intro w4 b4 on4))
  have s16 := fun w => slice16d w w3.heap.size
  have hs3 := hb3.size
  have bw4 : Below w2.heap.size w2 w4 := on4.below (bw_al hb3 hs3 _) hs3
  have hr4 : Rd w4 (.slice (some ⟨w3.heap.size, 0, none⟩) 16 16) (bs (markL key nonce ad X)) := by
    have := Rd.of_blk b4 (by rw [HML.out]; decide); rwa [HML.out] at this
  have ho4 : w4.ownsRow W.heap.size 5 1 vx text.length (bs X) := ownsRow_keep HOX.out bw4 (Nat.le_refl _)
  have hs4 := bw4.size
  have HO4 := Lib.hid ho4
  have HR4 := Lib.hid hr4
  clear hb3 on4 b4 c0 c1 hr4 ho4
  go_wp2_with (at_builtin; refine wp_app (.tmp 35) (.tmp 36) 30 rfl rfl 5 (.int .u8 0) 1 Tryd.underlying30 info5 rfl W.heap.size rfl HO4.out rfl HR4.out (bs_one _) (by decide) (by rw [HML.out]; omega) (by omega) ?_; intro v5 w5 ho5 _ hb5)
  all_goals go_ret2
  have hr5 := Rd.of_own ho5
  rw [← bs_append] at hr5
  refine ⟨v5, by rw [(HE.out ()).1]; rfl, by rw [(HE.out ()).2.1, HSL.out ()]; exact hr5, ?_⟩
  rw [hB]
  exact (bw_then HBW.out bw4 (by omega)).trans (hb5.mono (by omega))
set_option maxRecDepth 100000 in
set_option maxHeartbeats 2000000 in
theorem rseal_any (w : World) (key nonce ad text : List Int) (va vt : Value) (hk : key.length = 32) (hn : nonce.length = 12) (hkb : IsB key) (hnb : IsB nonce) (hab : IsB ad) (htb : IsB text) (hra : Rd w va (bs ad)) (hrt : Rd w vt (bs text)) :
    Calls Tryd.prog 33 #[.agg (bs key).toArray, .agg (bs nonce).toArray, va, vt] w (SealRes key nonce ad text w) := by
  have HK := Lib.hid hk
  have HN := Lib.hid hn
  have HKB := Lib.hid hkb
  have HNB := Lib.hid hnb
  have HAB := Lib.hid hab
  have HTB := Lib.hid htb
  have HRA := Lib.hid hra
  have HRT := Lib.hid hrt
  have hma := hra.len
  have hmt := hrt.len
  rw [bs_len] at hma hmt
  have hlva : ∀ w', (Builtin.len_ #[30] 3 #[va]).run Tryd.prog w' = .ok (goInt ad.length) w' := by
    have := len_fact (P := Tryd.prog) hra (t := 30) (ty := 3) (by kernel_rfl)
    rwa [bs_len] at this
  have hlvt : ∀ w', (Builtin.len_ #[30] 3 #[vt]).run Tryd.prog w' = .ok (goInt text.length) w' := by
    have := len_fact (P := Tryd.prog) hrt (t := 30) (ty := 3) (by kernel_rfl)
    rwa [bs_len] at this
  clear hk hn hkb hnb hab htb hra hrt
  obtain ⟨B, hB⟩ : ∃ B, w.heap.size = B := ⟨_, rfl⟩
  go_enter Tryd.func33, Tryd.ntmps33
  go_upto_region 1 with fail
  obtain ⟨W, hW⟩ : ∃ W, (w.alloc (.cells (bs key).toArray 22)).alloc (.cells (bs nonce).toArray 24) = W := ⟨_, rfl⟩
  change Code.wp _ _ _ _ ((w.alloc (.cells (bs key).toArray 22)).alloc (.cells (bs nonce).toArray 24))
  have b0 : Blk W B (bs key) 22 := by rw [← hW]; exact (Blk.mk_ _ hB.symm rfl).al _
  have b1 : Blk W (B + 1) (bs nonce) 24 := by rw [← hW]; exact Blk.mk_ _ (by simp [hB]) rfl
  have bb : Below B w W := by rw [← hW]; exact bw_al (bw_al (Below.refl _ _) (by omega) _) (by simp; omega) _
  rw [hW]
  have hz1 : W.heap.size = B + 2 := by rw [← hW]; simp [hB]
  clear hW
  by_cases h1 : 65536 < text.length
  · have h1' : (65536 : Int) < (text.length : Int) := by omega
    go_wp2_with fail
    all_goals go_ret2
    exact ⟨_, by rw [sealE, if_pos (.inl h1)]; rfl, by rw [sealF, if_pos (.inl h1)]; exact Rd.nil _, by rw [hB]; exact bb⟩
  by_cases h2 : 65536 < ad.length
  · have h1' : ¬ (65536 : Int) < (text.length : Int) := by omega
    have h2' : (65536 : Int) < (ad.length : Int) := by omega
    go_wp2_with fail
    all_goals go_ret2
    exact ⟨_, by rw [sealE, if_pos (.inr h2)]; rfl, by rw [sealF, if_pos (.inr h2)]; exact Rd.nil _, by rw [hB]; exact bb⟩
  have hE : sealE ad text = 0 := by rw [sealE, if_neg (by omega)]
  have hF : sealF key nonce ad text = sealL key nonce ad text := by rw [sealF, if_neg (by omega)]
  have hroom : (text.length : Int) ≤ room 1 := by unfold room; omega
  have HE := Lib.hid (fun _ : Unit => (⟨hE, hF, hroom⟩ : sealE ad text = 0 ∧ sealF key nonce ad text = sealL key nonce ad text ∧ (text.length : Int) ≤ room 1))
  have HXL := Lib.hid (fun _ : Unit => xorAll_len1 key nonce text (by omega))
  have HXB := Lib.hid (xorAll_isB key nonce 1 HTB.out)
  have HSL := Lib.hid (fun _ : Unit => show sealL key nonce ad text = xorAll key nonce 1 text ++ markL key nonce ad (xorAll key nonce 1 text) from rfl)
  have hd1 : decide ((text.length : Int) ≤ room 1) = true := decide_eq_true hroom
  have CX := Lib.hid (xor02_any W key nonce 1 vt text HK.out HN.out HKB.out HNB.out (by decide) (HRT.out.stay bb (by omega)) (by omega))
  unfold XorResR at CX
  rw [hd1] at CX
  have HKL := Lib.hid (show (bs key).length = 32 by rw [bs_len, HK.out])
  have HNL := Lib.hid (show (bs nonce).length = 12 by rw [bs_len, HN.out])
  have BB := Lib.hid bb
  have hba2 := at_size key HK.out
  have hba := at_fold key nonce 1 HK.out HN.out
  have hkl := HKL.out
  have hnl := HNL.out
  clear hE hF hroom hd1 bb
  go_upto_region 4 with (first
    | (refine wp_load_blk rfl 22 (.tmp 4) rfl rfl b0 Tryd.underlying22 rfl (n := 32) (by kernel_rfl) HKL.out ?_)
    | (refine wp_load_blk rfl 24 (.tmp 5) rfl rfl b1 Tryd.underlying24 rfl (n := 12) (by kernel_rfl) HNL.out ?_)
    | (go_at_call 25; refine CX.out.mono ?_; rintro e w2 ⟨vx, rfl, hrx, hb2⟩))
  clear hba hba2 hkl hnl
  generalize hX : xorAll key nonce 1 text = X at *
  have HRX := Lib.hid hrx
  have hs2 := hb2.size
  have bbw2 := bw_then BB.out hb2 (by omega)
  have MK := Lib.hid (rmark_any w2 key nonce ad X va vx HK.out HN.out HKB.out HNB.out HAB.out HXB.out (HRA.out.stay bbw2 (by omega)) hrx (by omega) (by rw [HXL.out ()]; omega))
  have HML := Lib.hid (show (bs (markL key nonce ad X)).length = 16 by rw [bs_len, markL_len])
  have c0 := b0.stay hb2
  have c1 := b1.stay hb2
  have HB2 := Lib.hid hb2
  have HBW := Lib.hid bbw2
  clear hrx hX b0 b1 hb2 bbw2
  go_upto_region 5 with (first
    | (refine wp_load_blk rfl 22 (.tmp 4) rfl rfl c0 Tryd.underlying22 rfl (n := 32) (by kernel_rfl) HKL.out ?_)
    | (refine wp_load_blk rfl 24 (.tmp 5) rfl rfl c1 Tryd.underlying24 rfl (n := 12) (by kernel_rfl) HNL.out ?_)
    | (go_at_call 28; refine MK.out.mono ?_; rintro e w3 ⟨rfl, hb3⟩)
    | (refine wp_store_blk rfl 53 (.tmp 12) (.tmp 33) rfl rfl rfl (cs' := bs (markL key nonce ad X)) (Blk.mk_ (cs := bs (List.replicate 16 0)) _ rfl rfl) (bs_one _) (by rw [HML.out]; rfl) (n := 16) (by kernel_rfl) HML.out ?_; intro w4 b4 on4))
  have s16 := fun w => slice16d w w3.heap.size
  have hs3 := hb3.size
  have bw4 : Below w2.heap.size w2 w4 := on4.below (bw_al hb3 hs3 _) hs3
  have hr4 : Rd w4 (.slice (some ⟨w3.heap.size, 0, none⟩) 16 16) (bs (markL key nonce ad X)) := by
    have := Rd.of_blk b4 (by rw [HML.out]; decide); rwa [HML.out] at this
  have hs4 := bw4.size
  have BO := Lib.hid (both_any w4 vx _ X (markL key nonce ad X) (HRX.out.stay bw4 (Nat.le_refl _)) hr4 (by rw [HXL.out (), markL_len]; omega))
  clear hb3 on4 b4 c0 c1 hr4
  go_wp2_with (go_at_call 45; refine BO.out.mono ?_; rintro e w5 ⟨v5, rfl, hb5, ho5⟩)
  all_goals go_ret2
  have hr5 := Rd.of_own ho5
  refine ⟨v5, by rw [(HE.out ()).1]; rfl, by rw [(HE.out ()).2.1, HSL.out ()]; exact hr5, ?_⟩
  rw [hB]
  exact bw_then (bw_then HBW.out bw4 (by omega)) hb5 (by omega)
end Go.Proofs.YtmjjnaaiakchhaaDoor
end

section
/-
  aead.Open.
-/
namespace Go.Proofs.YtmjjnaaiakchhaaDoor
open Go.RowKit

def OpenRes (key nonce ad sealed : List Int) (w : World) (e : Ending) (w' : World) : Prop :=
  ∃ v, e = .returned (.tuple #[v, .int .i64 (openE key nonce ad sealed)]) ∧ Rd w' v (bs (openF key nonce ad sealed)) ∧ Below w.heap.size w w'

set_option maxRecDepth 100000 in
set_option maxHeartbeats 2000000 in
theorem open_any (w : World) (key nonce ad sealed : List Int) (va vs : Value) (hk : key.length = 32) (hn : nonce.length = 12) (hkb : IsB key) (hnb : IsB nonce) (hab : IsB ad) (hsb : IsB sealed) (hra : Rd w va (bs ad)) (hrs : Rd w vs (bs sealed)) (ht : Tab w) :
    Calls Tryd.prog 31 #[.agg (bs key).toArray, .agg (bs nonce).toArray, va, vs] w (OpenRes key nonce ad sealed w) := by
  have HK := Lib.hid hk
  have HN := Lib.hid hn
  have HKB := Lib.hid hkb
  have HNB := Lib.hid hnb
  have HAB := Lib.hid hab
  have HSB := Lib.hid hsb
  have HRA := Lib.hid hra
  have hma := hra.len
  have hms := hrs.len
  rw [bs_len] at hma hms
  have hlva : ∀ w', (Builtin.len_ #[30] 3 #[va]).run Tryd.prog w' = .ok (goInt ad.length) w' := by
    have := len_fact (P := Tryd.prog) hra (t := 30) (ty := 3) (by kernel_rfl)
    rwa [bs_len] at this
  have hlvs : ∀ w', (Builtin.len_ #[30] 3 #[vs]).run Tryd.prog w' = .ok (goInt sealed.length) w' := by
    have := len_fact (P := Tryd.prog) hrs (t := 30) (ty := 3) (by kernel_rfl)
    rwa [bs_len] at this
  have HT := Lib.hid ht
  clear hk hn hkb hnb hab hsb hra ht
  obtain ⟨B, hB⟩ : ∃ B, w.heap.size = B := ⟨_, rfl⟩
  obtain ⟨W, hW⟩ : ∃ W, (w.alloc (.cells (bs key).toArray 22)).alloc (.cells (bs nonce).toArray 24) = W := ⟨_, rfl⟩
  have b0 : Blk W B (bs key) 22 := by rw [← hW]; exact (Blk.mk_ _ hB.symm rfl).al _
  have b1 : Blk W (B + 1) (bs nonce) 24 := by rw [← hW]; exact Blk.mk_ _ (by simp [hB]) rfl
  have bb : Below B w W := by rw [← hW]; exact bw_al (bw_al (Below.refl _ _) (by omega) _) (by simp; omega) _
  have hz1 : W.heap.size = B + 2 := by rw [← hW]; simp [hB]
  have HW := Lib.hid (fun _ : Unit => hW)
  clear hW
  by_cases h16 : sealed.length < 16
  · have hneg : (sealed.length : Int) - 16 < 0 := by omega
    clear hrs
    go_enter Tryd.func31, Tryd.ntmps31
    go_upto_region 1 with fail
    change Code.wp _ _ _ _ ((w.alloc (.cells (bs key).toArray 22)).alloc (.cells (bs nonce).toArray 24))
    rw [HW.out ()]
    go_wp2_with fail
    all_goals go_ret2
    have e : openE key nonce ad sealed = 4 := by rw [openE, if_pos h16]
    exact ⟨_, by rw [e]; rfl, by rw [openF, e, if_neg (by decide)]; exact Rd.nil _, by rw [hB]; exact bb⟩
  obtain ⟨n, hn⟩ : ∃ n : Nat, sealed.length = n + 16 := ⟨sealed.length - 16, by omega⟩
  have hni : (sealed.length : Int) - 16 = (n : Int) := by omega
  by_cases h2 : 65536 < ad.length ∨ 65536 < n
  · clear hrs
    go_enter Tryd.func31, Tryd.ntmps31
    go_upto_region 1 with fail
    change Code.wp _ _ _ _ ((w.alloc (.cells (bs key).toArray 22)).alloc (.cells (bs nonce).toArray 24))
    rw [HW.out ()]
    have e : openE key nonce ad sealed = 5 := by rw [openE, if_neg h16, if_pos (by rw [hn, Nat.add_sub_cancel]; exact h2)]
    have HE := Lib.hid (fun _ : Unit => e)
    have hF : openF key nonce ad sealed = [] := by rw [openF, e, if_neg (by decide)]
    have HF := Lib.hid (fun _ : Unit => hF)
    clear hn h16 e hF
    by_cases h3 : 65536 < ad.length
    · have h3' : (65536 : Int) < (ad.length : Int) := by omega
      clear h2
      go_wp2_with fail
      all_goals go_ret2
      exact ⟨_, by rw [HE.out ()]; rfl, by rw [HF.out ()]; exact Rd.nil _, by rw [hB]; exact bb⟩
    · have h3' : ¬ (65536 : Int) < (ad.length : Int) := by omega
      have h4' : (65536 : Int) < (n : Int) := by omega
      clear h2
      go_wp2_with fail
      all_goals go_ret2
      exact ⟨_, by rw [HE.out ()]; rfl, by rw [HF.out ()]; exact Rd.nil _, by rw [hB]; exact bb⟩
  obtain ⟨vn, hvn, _, _, s01, s02, _, _⟩ := sub_fact (P := Tryd.prog) hrs (t := 30) (by kernel_rfl) (fun w => by kernel_rfl) 0 n (by omega) (by rw [bs_len]; omega)
  obtain ⟨vm, hvm, _, _, _, _, s11, s12⟩ := sub_fact (P := Tryd.prog) hrs (t := 30) (by kernel_rfl) (fun w => by kernel_rfl) n sealed.length (by omega) (by rw [bs_len]; omega)
  replace s01 := s01 rfl
  replace s02 := s02 rfl
  replace s11 := s11 (by rw [bs_len])
  replace s12 := s12 (by rw [bs_len])
  have HVN := Lib.hid (show Rd w vn (bs (sealed.take n)) from by simpa [bs] using hvn)
  have HVM := Lib.hid (show Rd w vm (bs (sealed.drop n)) from by
    rw [List.take_of_length_le (by rw [List.length_drop, bs_len]; exact Nat.le_refl _)] at hvm
    simpa [bs, List.map_drop] using hvm)
  have HNB1 := Lib.hid (show IsB (sealed.take n) from fun z hz => HSB.out z (List.mem_of_mem_take hz))
  have HNB2 := Lib.hid (show IsB (sealed.drop n) from fun z hz => HSB.out z (List.mem_of_mem_drop hz))
  have HTL := Lib.hid (fun _ : Unit => show (sealed.take n).length = n by rw [List.length_take]; omega)
  have HSN := Lib.hid (fun _ : Unit => hn)
  have h3 : ¬ (65536 : Int) < (ad.length : Int) := by omega
  have h4 : ¬ (65536 : Int) < (n : Int) := by omega
  have h5 : ¬ (n : Int) < 0 := by omega
  have hal : ad.length ≤ 65536 := by omega
  have hnl : n ≤ 65536 := by omega
  have HKL := Lib.hid (show (bs key).length = 32 by rw [bs_len, HK.out])
  have HNL := Lib.hid (show (bs nonce).length = 12 by rw [bs_len, HN.out])
  have HML := Lib.hid (show (bs (markL key nonce ad (sealed.take n))).length = 16 by rw [bs_len, markL_len])
  have hTW := HT.out.keep bb (by rw [← hB]; exact HT.out.lt)
  have MK := Lib.hid (fun w' (hb : Below W.heap.size W w') => mark_any w' key nonce ad (sealed.take n) va vn HK.out HN.out HKB.out HNB.out HAB.out HNB1.out (HRA.out.stay (bw_then bb hb (by omega)) (by omega)) (HVN.out.stay (bw_then bb hb (by omega)) (by omega)) (hTW.stay hb) (by omega) (by rw [HTL.out ()]; omega))
  have hE : openE key nonce ad sealed = if eqB (markL key nonce ad (sealed.take n)) (sealed.drop n) = true then 0 else 6 := by
    rw [openE, if_neg h16, hn, Nat.add_sub_cancel, if_neg (by omega)]
    simp [eqB]
  have HE := Lib.hid (fun _ : Unit => hE)
  have HF := Lib.hid (fun _ : Unit => (show openF key nonce ad sealed = if openE key nonce ad sealed = 0 then xorAll key nonce 1 (sealed.take n) else [] from by rw [openF, hn, Nat.add_sub_cancel]))
  have HTW := Lib.hid hTW
  have BB := Lib.hid bb
  clear hvn hvm hrs h16 h2 hn hTW hE bb hal
  go_enter Tryd.func31, Tryd.ntmps31
  go_upto_region 1 with fail
  change Code.wp _ _ _ _ ((w.alloc (.cells (bs key).toArray 22)).alloc (.cells (bs nonce).toArray 24))
  rw [HW.out ()]
  go_upto_region 6 with fail
  have k0 := load_fact b0 22 0 (ys := bs key) (by rw [List.drop_zero, List.take_length]) Tryd.underlying22 rfl (n := 32) (by kernel_rfl) HKL.out
  have k1 := load_fact b1 24 0 (ys := bs nonce) (by rw [List.drop_zero, List.take_length]) Tryd.underlying24 rfl (n := 12) (by kernel_rfl) HNL.out
  generalize hM : markL key nonce ad (sealed.take n) = M at *
  have HMM := Lib.hid (fun _ : Unit => hM)
  clear hM b0 b1
  refine region_draws [(28, .agg (bs key).toArray), (29, .agg (bs nonce).toArray), (30, ?v30), (31, ?v31), (32, ?v32), (33, vn)] [34, 11]
    (fun L T wx => Below W.heap.size W wx ∧ (L 6 = true → T 34 = .agg (bs M).toArray) ∧ (L 7 = true → ∃ g, T 11 = .pointer (some ⟨g, 0, none⟩) ∧ W.heap.size ≤ g ∧ (L 8 = false → Blk wx g (bs (List.replicate 16 0)) 53) ∧ (L 8 = true → Blk wx g (bs M) 53)))
    (fun _ => undef) (by kernel_rfl) (by kernel_rfl) 53 rfl (by kernel_rfl) ?g0 ?hops ?hend
  case g0 => exact ⟨bw_d1 (Below.refl _ _), (fun h => by simp at h), (fun h => by simp at h)⟩
  case hops =>
    simp only [AllFrom]
    refine ⟨?_, ?_, ?_, ?_, ?_, ?_, ?_, ?_, ?_, trivial⟩
    · intro L T w hpre hpost hG
      exact .inl ⟨rfl, exec_load_f rfl rfl (k0 _ hG.1)⟩
    · intro L T w hpre hpost hG
      exact .inl ⟨rfl, exec_load_f rfl rfl (k1 _ hG.1)⟩
    · (intro L T w hpre hpost hG; skip; first | exact .inl ⟨rfl, rfl⟩ | (refine .inl ⟨rfl, ?_⟩; simp only [execOp]; go_simp; (try go_ints); (try go_simp); (try rw [if_pos (by omega)]); (first | done | rfl)))
    · (intro L T w hpre hpost hG; skip; first | exact .inl ⟨rfl, rfl⟩ | (refine .inl ⟨rfl, ?_⟩; simp only [execOp]; go_simp; (try go_ints); (try go_simp); (try rw [if_pos (by omega)]); (first | done | rfl)))
    · (intro L T w hpre hpost hG; skip; first | exact .inl ⟨rfl, rfl⟩ | (refine .inl ⟨rfl, ?_⟩; simp only [execOp]; go_simp; (try go_ints); (try go_simp); (try rw [if_pos (by omega)]); (first | done | rfl)))
    · (intro L T w hpre hpost hG; skip; first | exact .inl ⟨rfl, rfl⟩ | (refine .inl ⟨rfl, ?_⟩; simp only [execOp]; go_simp; (try go_ints); (try go_simp); (try rw [if_pos (by omega)]); (first | done | rfl)))
    · intro L T w hL hpre hpost hG
      obtain ⟨h1, h2, h3⟩ := hG
      refine .inl ⟨rfl, fun a K hK => ?_⟩
      simp only [execOp]
      go_simp
      refine (MK.out w h1).mono ?_
      rintro e w' ⟨rfl, hb⟩
      refine hK _ _ ⟨bw_then h1 hb h1.size, fun _ => by simp, fun h => ?_⟩
      obtain ⟨g, x1, x2, x3, x4⟩ := h3 (by simpa using h)
      exact ⟨g, by simpa using x1, x2, fun h => (x3 (by simpa using h)).stay hb, fun h => (x4 (by simpa using h)).stay hb⟩
    · intro L T w hL hpre hpost hG
      obtain ⟨h1, h2, h3⟩ := hG
      have h8 := hpost 8 _ rfl rfl
      refine .inl ⟨rfl, fun a K hK => ?_⟩
      simp only [execOp]
      go_simp
      have hsz := h1.size
      refine hK (.pointer (some ⟨w.heap.size, 0, none⟩)) _ ⟨bw_al h1 (by omega) _, fun h => by simpa using h2 (by simpa using h), fun _ => ⟨w.heap.size, by simp, by omega, fun _ => Blk.mk_ w rfl rfl, fun h => by simp [h8] at h⟩⟩
    · intro L T w hL hpre hpost hG
      obtain ⟨h1, h2, h3⟩ := hG
      have y1 := h2 (hpre 6 rfl rfl)
      obtain ⟨g, x1, x2, x3, x4⟩ := h3 (hpre 7 rfl rfl)
      refine .inl ⟨rfl, fun a K hK => ?_⟩
      refine upon_store_blk 53 (.tmp 11) (.tmp 34) rfl x1 y1 (x3 hL) (bs_one _) (by rw [HML.out]; rfl) (n := 16) (by kernel_rfl) HML.out fun w' hbn hon => hK undef _ ⟨hon.below h1 x2, fun _ => by simpa using y1, fun _ => ⟨g, by simpa using x1, x2, fun h => by simp at h, fun _ => hbn⟩⟩
  case hend =>
    intro L T w2 hall hG
    obtain ⟨h1, h2, h3⟩ := hG
    have y1 := h2 (hall 6 (by decide) (by kernel_rfl))
    obtain ⟨g, x1, x2, x3, x4⟩ := h3 (hall 7 (by decide) (by kernel_rfl))
    have b2 := x4 (hall 8 (by decide) (by kernel_rfl))
    simp only [fillT, fillP, List.foldl_cons, List.foldl_nil, Act.put, x1, y1, List.setIfInBounds_toArray, List.set_cons_succ, List.set_cons_zero]
    have HG := Lib.hid h1
    clear h2 h3 x1 x3 x4 y1 hall L
    have hw2s := h1.size
    have SM := Lib.hid (fun w' (hb : Below w2.heap.size w2 w') => same_any w' (.slice (some ⟨g, 0, none⟩) 16 16) vm M (sealed.drop n) (by
      have h := Rd.of_blk (b2.stay hb) (by rw [HML.out]; decide)
      rwa [HML.out] at h) (HVM.out.stay (bw_then BB.out (bw_then HG.out hb HG.out.size) (by omega)) (by omega)) (by rw [← HMM.out ()]; exact markL_isB _ _ _ _) HNB2.out)
    have s16 := fun w => slice16d w g
    clear b2 h1
    go_upto_region 7 with fail
    have hbl0 : Below w2.heap.size w2 w2.drew := bw_d1 (Below.refl _ _)
    refine region_plan ⟨[0, 0, 0, 6, 15, 31], [4], [0, 0, 0, 0, 0, 1]⟩
      [⟨[0, 1, 2, 3], [0, 3], some 4⟩, ⟨[5], [5], none⟩] 53 (by kernel_rfl) (by kernel_rfl) (by kernel_rfl) (by kernel_rfl) rfl ?_
    simp only [SeqGo, opsAt_cons, opsAt_nil, List.getElem?_cons, Option.toList_some, List.singleton_append, ↓reduceIte, Nat.reduceEqDiff, Nat.reduceSub]
    go_wp2_with fail
    refine ⟨by (simp only [Sames, Same]; go_simp), ?_⟩
    by_cases hq : eqB M (sealed.drop n) = true
    · have hE : openE key nonce ad sealed = 0 := by rw [HE.out (), if_pos hq]
      have HEE := Lib.hid (fun _ : Unit => hE)
      have HFF := Lib.hid (fun _ : Unit => (show openF key nonce ad sealed = xorAll key nonce 1 (sealed.take n) from by rw [HF.out (), if_pos hE]))
      rw [hq] at SM
      clear hE hq HE HF
      go_wp2_with (go_at_call 29; refine (SM.out _ hbl0).mono ?_; rintro e w3 ⟨rfl, hb3⟩; have hbl3 : Below w2.heap.size w2 w3 := bw_then hbl0 hb3 hbl0.size; clear hb3)
      refine ⟨by (simp only [Sames, Same]; go_simp), ?_⟩
      have bw3 := bw_then HG.out hbl3 HG.out.size
      have hroom : ((sealed.take n).length : Int) ≤ room 1 := by rw [HTL.out ()]; unfold room; omega
      have CX := Lib.hid (fun w' (hb : Below W.heap.size W w') => chxor_any w' key nonce 1 vn (sealed.take n) HK.out HN.out HKB.out HNB.out (by decide) (HVN.out.stay (bw_then BB.out hb (by omega)) (by omega)) HNB1.out (HTW.out.stay hb) (by rw [HTL.out ()]; omega))
      unfold XorRes at CX
      rw [decide_eq_true hroom] at CX
      clear hroom SM
      go_upto_region 9 with fail
      have hbl4 : Below W.heap.size W w3.drew := bw_d1 bw3
      refine region_plan ⟨[0, 0, 0, 0, 12, 31, 63, 127, 127, 255, 1023], [5], [0, 0, 0, 0, 0, 0, 1, 1, 1, 1, 1]⟩
        [⟨[0, 1, 2, 3, 4], [0, 1, 4], some 5⟩, ⟨[6, 7, 8, 9, 10], [7, 8], none⟩] 53 (by kernel_rfl) (by kernel_rfl) (by kernel_rfl) (by kernel_rfl) rfl ?_
      simp only [SeqGo, opsAt_cons, opsAt_nil, List.getElem?_cons, Option.toList_some, List.singleton_append, ↓reduceIte, Nat.reduceEqDiff, Nat.reduceSub]
      go_wp2_with (first
        | (refine wp_load_f rfl 22 (.tmp 4) rfl rfl (k0 _ (by assumption)) ?_)
        | (refine wp_load_f rfl 24 (.tmp 5) rfl rfl (k1 _ (by assumption)) ?_))
      refine ⟨⟨same_load rfl 22 (.tmp 4) rfl rfl (k0 _ (by assumption)) rfl, same_load rfl 24 (.tmp 5) rfl rfl (k1 _ (by assumption)) rfl, by (simp only [Same]; go_simp), trivial⟩, ?_⟩
      go_wp2_with (go_at_call 23; refine (CX.out _ hbl4).mono ?_; rintro e w5 ⟨vx, rfl, hrx, hb5, _⟩)
      refine ⟨by (simp only [Sames, Same]; go_simp), ?_⟩
      go_wp2_with fail
      all_goals go_ret2
      refine ⟨vx, by rw [HEE.out ()]; rfl, by rw [HFF.out ()]; exact hrx, ?_⟩
      rw [hB]
      exact bw_then BB.out (bw_then hbl4 hb5 hbl4.size) (by omega)
    · have hE : openE key nonce ad sealed = 6 := by rw [HE.out (), if_neg hq]
      have HEE := Lib.hid (fun _ : Unit => hE)
      have HFF := Lib.hid (fun _ : Unit => (show openF key nonce ad sealed = [] from by rw [HF.out (), hE, if_neg (by decide)]))
      rw [Bool.not_eq_true] at hq
      rw [hq] at SM
      clear hE hq HE HF
      go_wp2_with (go_at_call 29; refine (SM.out _ hbl0).mono ?_; rintro e w3 ⟨rfl, hb3⟩; have hbl3 : Below w2.heap.size w2 w3 := bw_then hbl0 hb3 hbl0.size; clear hb3)
      refine ⟨by (simp only [Sames, Same]; go_simp), ?_⟩
      have bw3 := bw_then HG.out hbl3 HG.out.size
      go_wp2_with fail
      all_goals go_ret2
      refine ⟨_, by rw [HEE.out ()]; rfl, by rw [HFF.out ()]; exact Rd.nil _, ?_⟩
      rw [hB]
      exact bw_then BB.out bw3 (by omega)
end Go.Proofs.YtmjjnaaiakchhaaDoor
end

section
/-
  intaglioref04.Open.
-/
namespace Go.Proofs.YtmjjnaaiakchhaaDoor
open Go.RowKit
theorem eq_of_getD {xs ys : List Int} {n : Nat} (hx : xs.length = n) (hy : ys.length = n) (h : ∀ j, j < n → xs.getD j 0 = ys.getD j 0) : xs = ys := by
  apply List.ext_getElem (by omega)
  intro j h1 h2
  have := h j (by omega)
  rwa [List.getD_eq_getElem?_getD, List.getD_eq_getElem?_getD, List.getElem?_eq_getElem h1, List.getElem?_eq_getElem h2] at this

set_option maxRecDepth 100000 in
set_option maxHeartbeats 2000000 in
theorem ropen_any (w : World) (key nonce ad sealed : List Int) (va vs : Value) (hk : key.length = 32) (hn : nonce.length = 12) (hkb : IsB key) (hnb : IsB nonce) (hab : IsB ad) (hsb : IsB sealed) (hra : Rd w va (bs ad)) (hrs : Rd w vs (bs sealed)) :
    Calls Tryd.prog 32 #[.agg (bs key).toArray, .agg (bs nonce).toArray, va, vs] w (OpenRes key nonce ad sealed w) := by
  have HK := Lib.hid hk
  have HN := Lib.hid hn
  have HKB := Lib.hid hkb
  have HNB := Lib.hid hnb
  have HAB := Lib.hid hab
  have HSB := Lib.hid hsb
  have HRA := Lib.hid hra
  have HRS := Lib.hid hrs
  have hma := hra.len
  have hms := hrs.len
  rw [bs_len] at hma hms
  have hlva : ∀ w', (Builtin.len_ #[30] 3 #[va]).run Tryd.prog w' = .ok (goInt ad.length) w' := by
    have := len_fact (P := Tryd.prog) hra (t := 30) (ty := 3) (by kernel_rfl)
    rwa [bs_len] at this
  have hlvs : ∀ w', (Builtin.len_ #[30] 3 #[vs]).run Tryd.prog w' = .ok (goInt sealed.length) w' := by
    have := len_fact (P := Tryd.prog) hrs (t := 30) (ty := 3) (by kernel_rfl)
    rwa [bs_len] at this
  clear hk hn hkb hnb hab hsb hra
  obtain ⟨B, hB⟩ : ∃ B, w.heap.size = B := ⟨_, rfl⟩
  obtain ⟨W, hW⟩ : ∃ W, (w.alloc (.cells (bs key).toArray 22)).alloc (.cells (bs nonce).toArray 24) = W := ⟨_, rfl⟩
  have b0 : Blk W B (bs key) 22 := by rw [← hW]; exact (Blk.mk_ _ hB.symm rfl).al _
  have b1 : Blk W (B + 1) (bs nonce) 24 := by rw [← hW]; exact Blk.mk_ _ (by simp [hB]) rfl
  have bb : Below B w W := by rw [← hW]; exact bw_al (bw_al (Below.refl _ _) (by omega) _) (by simp; omega) _
  have hz1 : W.heap.size = B + 2 := by rw [← hW]; simp [hB]
  have HW := Lib.hid (fun _ : Unit => hW)
  clear hW
  by_cases h16 : sealed.length < 16
  · have hneg : (sealed.length : Int) - 16 < 0 := by omega
    clear hrs
    go_enter Tryd.func32, Tryd.ntmps32
    go_upto_region 1 with fail
    change Code.wp _ _ _ _ ((w.alloc (.cells (bs key).toArray 22)).alloc (.cells (bs nonce).toArray 24))
    rw [HW.out ()]
    go_wp2_with fail
    all_goals go_ret2
    have e : openE key nonce ad sealed = 4 := by rw [openE, if_pos h16]
    exact ⟨_, by rw [e]; rfl, by rw [openF, e, if_neg (by decide)]; exact Rd.nil _, by rw [hB]; exact bb⟩
  obtain ⟨n, hn⟩ : ∃ n : Nat, sealed.length = n + 16 := ⟨sealed.length - 16, by omega⟩
  have hni : (sealed.length : Int) - 16 = (n : Int) := by omega
  by_cases h2 : 65536 < ad.length ∨ 65536 < n
  · clear hrs
    go_enter Tryd.func32, Tryd.ntmps32
    go_upto_region 1 with fail
    change Code.wp _ _ _ _ ((w.alloc (.cells (bs key).toArray 22)).alloc (.cells (bs nonce).toArray 24))
    rw [HW.out ()]
    have e : openE key nonce ad sealed = 5 := by rw [openE, if_neg h16, if_pos (by rw [hn, Nat.add_sub_cancel]; exact h2)]
    have HE := Lib.hid (fun _ : Unit => e)
    have hF : openF key nonce ad sealed = [] := by rw [openF, e, if_neg (by decide)]
    have HF := Lib.hid (fun _ : Unit => hF)
    clear hn h16 e hF
    by_cases h3 : 65536 < ad.length
    · have h3' : (65536 : Int) < (ad.length : Int) := by omega
      clear h2
      go_wp2_with fail
      all_goals go_ret2
      exact ⟨_, by rw [HE.out ()]; rfl, by rw [HF.out ()]; exact Rd.nil _, by rw [hB]; exact bb⟩
    · have h3' : ¬ (65536 : Int) < (ad.length : Int) := by omega
      have h4' : (65536 : Int) < (n : Int) := by omega
      clear h2
      go_wp2_with fail
      all_goals go_ret2
      exact ⟨_, by rw [HE.out ()]; rfl, by rw [HF.out ()]; exact Rd.nil _, by rw [hB]; exact bb⟩
  obtain ⟨vn, hvn, _, _, s01, s02, _, _⟩ := sub_fact (P := Tryd.prog) hrs (t := 30) (by kernel_rfl) (fun w => by kernel_rfl) 0 n (by omega) (by rw [bs_len]; omega)
  obtain ⟨vm, hvm, _, _, _, _, s11, s12⟩ := sub_fact (P := Tryd.prog) hrs (t := 30) (by kernel_rfl) (fun w => by kernel_rfl) n sealed.length (by omega) (by rw [bs_len]; omega)
  replace s01 := s01 rfl
  replace s02 := s02 rfl
  replace s11 := s11 (by rw [bs_len])
  replace s12 := s12 (by rw [bs_len])
  have HVN := Lib.hid (show Rd w vn (bs (sealed.take n)) from by simpa [bs] using hvn)
  have HVM := Lib.hid (show Rd w vm (bs (sealed.drop n)) from by
    rw [List.take_of_length_le (by rw [List.length_drop, bs_len]; exact Nat.le_refl _)] at hvm
    simpa [bs, List.map_drop] using hvm)
  have HNB1 := Lib.hid (show IsB (sealed.take n) from fun z hz => HSB.out z (List.mem_of_mem_take hz))
  have HNB2 := Lib.hid (show IsB (sealed.drop n) from fun z hz => HSB.out z (List.mem_of_mem_drop hz))
  have HTL := Lib.hid (fun _ : Unit => show (sealed.take n).length = n by rw [List.length_take]; omega)
  have HSN := Lib.hid (fun _ : Unit => hn)
  have h3 : ¬ (65536 : Int) < (ad.length : Int) := by omega
  have h4 : ¬ (65536 : Int) < (n : Int) := by omega
  have h5 : ¬ (n : Int) < 0 := by omega
  have hal : ad.length ≤ 65536 := by omega
  have hnl : n ≤ 65536 := by omega
  have HKL := Lib.hid (show (bs key).length = 32 by rw [bs_len, HK.out])
  have HNL := Lib.hid (show (bs nonce).length = 12 by rw [bs_len, HN.out])
  have HML := Lib.hid (show (bs (markL key nonce ad (sealed.take n))).length = 16 by rw [bs_len, markL_len])
  have MK := Lib.hid (fun w' (hb : Below W.heap.size W w') => rmark_any w' key nonce ad (sealed.take n) va vn HK.out HN.out HKB.out HNB.out HAB.out HNB1.out (HRA.out.stay (bw_then bb hb (by omega)) (by omega)) (HVN.out.stay (bw_then bb hb (by omega)) (by omega)) (by omega) (by rw [HTL.out ()]; omega))
  have hE : openE key nonce ad sealed = if eqB (markL key nonce ad (sealed.take n)) (sealed.drop n) = true then 0 else 6 := by
    rw [openE, if_neg h16, hn, Nat.add_sub_cancel, if_neg (by omega)]
    simp [eqB]
  have HE := Lib.hid (fun _ : Unit => hE)
  have HF := Lib.hid (fun _ : Unit => (show openF key nonce ad sealed = if openE key nonce ad sealed = 0 then xorAll key nonce 1 (sealed.take n) else [] from by rw [openF, hn, Nat.add_sub_cancel]))
  have BB := Lib.hid bb
  clear hvn hvm hrs h16 h2 hn hE bb hal
  go_enter Tryd.func32, Tryd.ntmps32
  go_upto_region 1 with fail
  change Code.wp _ _ _ _ ((w.alloc (.cells (bs key).toArray 22)).alloc (.cells (bs nonce).toArray 24))
  rw [HW.out ()]
  go_upto_region 6 with fail
  have k0 := load_fact b0 22 0 (ys := bs key) (by rw [List.drop_zero, List.take_length]) Tryd.underlying22 rfl (n := 32) (by kernel_rfl) HKL.out
  have k1 := load_fact b1 24 0 (ys := bs nonce) (by rw [List.drop_zero, List.take_length]) Tryd.underlying24 rfl (n := 12) (by kernel_rfl) HNL.out
  generalize hM : markL key nonce ad (sealed.take n) = M at *
  have HMM := Lib.hid (fun _ : Unit => hM)
  clear hM b0 b1
  refine region_draws [(27, .agg (bs key).toArray), (28, .agg (bs nonce).toArray), (29, ?v29), (30, ?v30), (31, ?v31), (32, vn)] [33, 11]
    (fun L T wx => Below W.heap.size W wx ∧ (L 6 = true → T 33 = .agg (bs M).toArray) ∧ (L 7 = true → ∃ g, T 11 = .pointer (some ⟨g, 0, none⟩) ∧ W.heap.size ≤ g ∧ (L 8 = false → Blk wx g (bs (List.replicate 16 0)) 53) ∧ (L 8 = true → Blk wx g (bs M) 53)))
    (fun _ => undef) (by kernel_rfl) (by kernel_rfl) 59 rfl (by kernel_rfl) ?g0 ?hops ?hend
  case g0 => exact ⟨bw_d1 (Below.refl _ _), (fun h => by simp at h), (fun h => by simp at h)⟩
  case hops =>
    simp only [AllFrom]
    refine ⟨?_, ?_, ?_, ?_, ?_, ?_, ?_, ?_, ?_, trivial⟩
    · intro L T w hpre hpost hG
      exact .inl ⟨rfl, exec_load_f rfl rfl (k0 _ hG.1)⟩
    · intro L T w hpre hpost hG
      exact .inl ⟨rfl, exec_load_f rfl rfl (k1 _ hG.1)⟩
    · (intro L T w hpre hpost hG; skip; first | exact .inl ⟨rfl, rfl⟩ | (refine .inl ⟨rfl, ?_⟩; simp only [execOp]; go_simp; (try go_ints); (try go_simp); (try rw [if_pos (by omega)]); (first | done | rfl)))
    · (intro L T w hpre hpost hG; skip; first | exact .inl ⟨rfl, rfl⟩ | (refine .inl ⟨rfl, ?_⟩; simp only [execOp]; go_simp; (try go_ints); (try go_simp); (try rw [if_pos (by omega)]); (first | done | rfl)))
    · (intro L T w hpre hpost hG; skip; first | exact .inl ⟨rfl, rfl⟩ | (refine .inl ⟨rfl, ?_⟩; simp only [execOp]; go_simp; (try go_ints); (try go_simp); (try rw [if_pos (by omega)]); (first | done | rfl)))
    · (intro L T w hpre hpost hG; skip; first | exact .inl ⟨rfl, rfl⟩ | (refine .inl ⟨rfl, ?_⟩; simp only [execOp]; go_simp; (try go_ints); (try go_simp); (try rw [if_pos (by omega)]); (first | done | rfl)))
    · intro L T w hL hpre hpost hG
      obtain ⟨h1, h2, h3⟩ := hG
      refine .inl ⟨rfl, fun a K hK => ?_⟩
      simp only [execOp]
      go_simp
      refine (MK.out w h1).mono ?_
      rintro e w' ⟨rfl, hb⟩
      refine hK _ _ ⟨bw_then h1 hb h1.size, fun _ => by simp, fun h => ?_⟩
      obtain ⟨g, x1, x2, x3, x4⟩ := h3 (by simpa using h)
      exact ⟨g, by simpa using x1, x2, fun h => (x3 (by simpa using h)).stay hb, fun h => (x4 (by simpa using h)).stay hb⟩
    · intro L T w hL hpre hpost hG
      obtain ⟨h1, h2, h3⟩ := hG
      have h8 := hpost 8 _ rfl rfl
      refine .inl ⟨rfl, fun a K hK => ?_⟩
      simp only [execOp]
      go_simp
      have hsz := h1.size
      refine hK (.pointer (some ⟨w.heap.size, 0, none⟩)) _ ⟨bw_al h1 (by omega) _, fun h => by simpa using h2 (by simpa using h), fun _ => ⟨w.heap.size, by simp, by omega, fun _ => Blk.mk_ w rfl rfl, fun h => by simp [h8] at h⟩⟩
    · intro L T w hL hpre hpost hG
      obtain ⟨h1, h2, h3⟩ := hG
      have y1 := h2 (hpre 6 rfl rfl)
      obtain ⟨g, x1, x2, x3, x4⟩ := h3 (hpre 7 rfl rfl)
      refine .inl ⟨rfl, fun a K hK => ?_⟩
      refine upon_store_blk 53 (.tmp 11) (.tmp 33) rfl x1 y1 (x3 hL) (bs_one _) (by rw [HML.out]; rfl) (n := 16) (by kernel_rfl) HML.out fun w' hbn hon => hK undef _ ⟨hon.below h1 x2, fun _ => by simpa using y1, fun _ => ⟨g, by simpa using x1, x2, fun h => by simp at h, fun _ => hbn⟩⟩
  case hend =>
    intro L T w2 hall hG
    obtain ⟨h1, h2, h3⟩ := hG
    have y1 := h2 (hall 6 (by decide) (by kernel_rfl))
    obtain ⟨g, x1, x2, x3, x4⟩ := h3 (hall 7 (by decide) (by kernel_rfl))
    have b2 := x4 (hall 8 (by decide) (by kernel_rfl))
    simp only [fillT, fillP, List.foldl_cons, List.foldl_nil, Act.put, x1, y1, List.setIfInBounds_toArray, List.set_cons_succ, List.set_cons_zero]
    have HG := Lib.hid h1
    clear h2 h3 x1 x3 x4 y1 hall L
    have hw2s := h1.size
    obtain ⟨bv, ov, cv, rfl, hv1, hv2, hv3⟩ := HRS.out.cellAt (by rw [bs_len]; omega)
    rw [bs_len] at hv1 ⊢
    have hbv : bv < B := by
      have h := hv3 0 _ (List.getElem?_eq_getElem (by rw [bs_len]; omega))
      rw [← hB]
      exact World.block_lt_of_cell? w ⟨bv, ov + 0, none⟩ h
    have HV3 := Lib.hid hv3
    have HVN2 := Lib.hid (show Rd w (.slice (some ⟨bv, ov, none⟩) n cv) (bs (sealed.take n)) from by
      have h := Rd.take HRS.out n (by rw [bs_len]; omega)
      rwa [bs, ← List.map_take] at h)
    have HB2 := Lib.hid b2
    have HMB := Lib.hid (show IsB M from by rw [← HMM.out ()]; exact markL_isB _ _ _ _)
    have HMLN := Lib.hid (show M.length = 16 from by rw [← HMM.out ()]; exact markL_len _ _ _ _)
    have hsl : sealed.length = n + 16 := HSN.out ()
    have kM : ∀ w', Below w2.heap.size w2 w' → ∀ j, j < 16 → w'.cell? ⟨g, j, none⟩ = some (.int .u8 (M.getD j 0)) := fun w' h j hj => (HB2.out.stay h).at_ j (bs_get M j (by rw [HMLN.out]; exact hj))
    have kS : ∀ w', Below w2.heap.size w2 w' → ∀ j, j < 16 → w'.cell? ⟨bv, ov + (n + j), none⟩ = some (.int .u8 (sealed.getD (n + j) 0)) := fun w' h j hj => by
      have h1 := HV3.out (n + j) _ (bs_get sealed (n + j) (by omega))
      have h2 := bw_then BB.out (bw_then HG.out h HG.out.size) (by omega)
      exact (h2.cell (p := ⟨bv, ov + (n + j), none⟩) (by show bv < B; exact hbv)).trans h1
    have KM := Lib.hid kM
    have KS := Lib.hid kS
    clear b2 h1 hv3 kM kS
    go_wp2_with fail
    go_loopw [12] (fun x wr => ∃ k : Nat, k ≤ 16 ∧ x = .int .i64 k ∧ (∀ j, j < k → M.getD j 0 = sealed.getD (n + j) 0) ∧ Below w2.heap.size w2 wr) (fun x _ => 16 - (intOf x).toNat)
    case atStart => exact ⟨0, Nat.zero_le _, rfl, (fun j hj => by omega), Below.refl _ _⟩
    case round =>
      obtain ⟨k, hk, rfl, hall, hbl⟩ := hrel
      obtain ⟨wo, rfl⟩ : ∃ wo : World, wo = wr := ⟨_, rfl⟩
      by_cases hlt : k < 16
      · obtain ⟨x, hx⟩ : ∃ x, M.getD k 0 = x := ⟨_, rfl⟩
        obtain ⟨y, hy⟩ : ∃ y, sealed.getD (n + k) 0 = y := ⟨_, rfl⟩
        have e1 := KM.out wo hbl k hlt
        have e2 := KS.out wo hbl k hlt
        rw [hx] at e1
        rw [hy] at e2
        have hk3 : ¬ (16 : Int) ≤ (k : Int) := by omega
        have hk4 : ¬ ((n : Int) + 16) ≤ (n : Int) + (k : Int) := by omega
        have HALL := Lib.hid (fun _ : Unit => hall)
        have HXY := Lib.hid (fun _ : Unit => (⟨hx, hy⟩ : M.getD k 0 = x ∧ sealed.getD (n + k) 0 = y))
        have HBL := Lib.hid hbl
        have hw2o := hbl.size
        have hw0 : 0 ≤ (n : Int) + (k : Int) := by omega
        have hw1 : IntKind.i64.wrap ((n : Int) + (k : Int)) = (n : Int) + (k : Int) := by rw [IntKind.wrap_i64]; omega
        have hw2 : ((n : Int) + (k : Int)).toNat = n + k := by omega
        clear hall hx hy hbl
        by_cases hxy : x = y
        · subst hxy
          go_upto_region 10 with fail
          refine region_plan ⟨[0, 1, 3, 0, 0, 0, 48, 120, 248, 511], [], [0, 0, 0, 0, 0, 0, 0, 0, 0, 0]⟩
            [⟨[0, 1, 2, 3, 4, 5, 6, 7, 8, 9], [1, 2, 6, 7, 8, 9], none⟩] 59 (by kernel_rfl) (by kernel_rfl) (by kernel_rfl) (by kernel_rfl) rfl ?_
          simp only [SeqGo, opsAt_cons, opsAt_nil, List.getElem?_cons, Option.toList_some, List.singleton_append, ↓reduceIte, Nat.reduceEqDiff, Nat.reduceSub]
          go_wp2_with fail
          refine ⟨by (simp only [Sames, Same]; go_simp), ?_⟩
          clear hw1
          go_wp2_with fail
          refine ⟨⟨k + 1, by omega, by go_num, (fun j hj => ?_), bw_d1 HBL.out⟩, by simp [intOf]; omega⟩
          rcases Nat.lt_or_ge j k with h | h
          · exact HALL.out () j h
          · obtain rfl : j = k := by omega
            rw [(HXY.out ()).1, (HXY.out ()).2]
        · have hE : openE key nonce ad sealed = 6 := by
            rw [HE.out (), if_neg]
            intro h
            have h1 : M = sealed.drop n := by simpa [eqB] using h
            refine hxy ?_
            rw [← (HXY.out ()).1, ← (HXY.out ()).2, h1]
            simp [List.getD_eq_getElem?_getD]
          have HEE := Lib.hid (fun _ : Unit => hE)
          have HFF := Lib.hid (fun _ : Unit => (show openF key nonce ad sealed = [] from by rw [HF.out (), hE, if_neg (by decide)]))
          clear hE
          go_upto_region 10 with fail
          refine region_plan ⟨[0, 1, 3, 0, 0, 0, 48, 120, 248, 511], [], [0, 0, 0, 0, 0, 0, 0, 0, 0, 0]⟩
            [⟨[0, 1, 2, 3, 4, 5, 6, 7, 8, 9], [1, 2, 6, 7, 8, 9], none⟩] 59 (by kernel_rfl) (by kernel_rfl) (by kernel_rfl) (by kernel_rfl) rfl ?_
          simp only [SeqGo, opsAt_cons, opsAt_nil, List.getElem?_cons, Option.toList_some, List.singleton_append, ↓reduceIte, Nat.reduceEqDiff, Nat.reduceSub]
          go_wp2_with fail
          refine ⟨by (simp only [Sames, Same]; go_simp), ?_⟩
          clear hw1
          go_wp2_with fail
          all_goals go_ret2
          refine ⟨_, by rw [HEE.out ()]; rfl, by rw [HFF.out ()]; exact Rd.nil _, ?_⟩
          rw [hB]
          exact bw_then BB.out (bw_then HG.out (bw_d1 HBL.out) HG.out.size) (by omega)
      · obtain rfl : k = 16 := by omega
        have hMS : M = sealed.drop n := eq_of_getD HMLN.out (by rw [List.length_drop, hsl]; omega) fun j hj => by
          rw [hall j hj]; simp [List.getD_eq_getElem?_getD]
        have hE : openE key nonce ad sealed = 0 := by rw [HE.out (), if_pos (by simp [eqB, ← hMS])]
        have HEE := Lib.hid (fun _ : Unit => hE)
        have HFF := Lib.hid (fun _ : Unit => (show openF key nonce ad sealed = xorAll key nonce 1 (sealed.take n) from by rw [HF.out (), if_pos hE]))
        have bw3 := bw_then HG.out hbl HG.out.size
        have hroom : ((sealed.take n).length : Int) ≤ room 1 := by rw [HTL.out ()]; unfold room; omega
        have CX := Lib.hid (fun w' (hb : Below W.heap.size W w') => xor02_any w' key nonce 1 (.slice (some ⟨bv, ov, none⟩) n cv) (sealed.take n) HK.out HN.out HKB.out HNB.out (by decide) (HVN2.out.stay (bw_then BB.out hb (by omega)) (by omega)) (by rw [HTL.out ()]; omega))
        unfold XorResR at CX
        rw [decide_eq_true hroom] at CX
        have hba2 := at_size key HK.out
        have hba := at_fold key nonce 1 HK.out HN.out
        have hkl := HKL.out
        have hnl := HNL.out
        have hcv : ¬ cv < n := by omega
        clear hroom hMS hE hall HE HF
        go_upto_region 12 with fail
        have hbl4 : Below W.heap.size W wo.drew := bw_d1 bw3
        refine region_plan ⟨[0, 0, 3, 0, 0, 24, 63, 127, 255, 255, 511, 2047], [6], [0, 0, 0, 0, 0, 0, 0, 1, 1, 1, 1, 1]⟩
          [⟨[0, 1, 2, 3, 4, 5], [0, 1, 2, 5], some 6⟩, ⟨[7, 8, 9, 10, 11], [8, 9], none⟩] 59 (by kernel_rfl) (by kernel_rfl) (by kernel_rfl) (by kernel_rfl) rfl ?_
        simp only [SeqGo, opsAt_cons, opsAt_nil, List.getElem?_cons, Option.toList_some, List.singleton_append, ↓reduceIte, Nat.reduceEqDiff, Nat.reduceSub]
        go_wp2_with (first
          | (refine wp_load_f rfl 22 (.tmp 4) rfl rfl (k0 _ (by assumption)) ?_)
          | (refine wp_load_f rfl 24 (.tmp 5) rfl rfl (k1 _ (by assumption)) ?_))
        refine ⟨⟨same_load rfl 22 (.tmp 4) rfl rfl (k0 _ (by assumption)) rfl, same_load rfl 24 (.tmp 5) rfl rfl (k1 _ (by assumption)) rfl, by (simp only [Same]; go_simp), by (simp only [Same]; go_simp), trivial⟩, ?_⟩
        go_wp2_with (go_at_call 25; refine (CX.out _ hbl4).mono ?_; rintro e w5 ⟨vx, rfl, hrx, hb5⟩)
        refine ⟨by (simp only [Sames, Same]; go_simp), ?_⟩
        clear hba hba2 hkl hnl
        go_wp2_with fail
        all_goals go_ret2
        refine ⟨vx, by rw [HEE.out ()]; rfl, by rw [HFF.out ()]; exact hrx, ?_⟩
        rw [hB]
        exact bw_then BB.out (bw_then hbl4 hb5 hbl4.size) (by omega)
end Go.Proofs.YtmjjnaaiakchhaaDoor
end

section
/-
  The example of the laws on aead.
-/
namespace Go.Proofs.YtmjjnaaiakchhaaDoor
open Go.RowKit

def kA : List Int := [1, 0, 0, 0, 0, 0, 0, 0, 0, 0, 0, 0, 0, 0, 0, 0, 0, 0, 0, 0, 0, 0, 0, 0, 0, 0, 0, 0, 0, 0, 0, 0]
def nA : List Int := [2, 0, 0, 0, 0, 0, 0, 0, 0, 0, 0, 0]
def adA : List Int := [97, 100]
def abA : List Int := [97, 98]
def helloA : List Int := [104, 101, 108, 108, 111]
theorem isB_lit {xs : List Int} (h : xs.all (fun z => decide (0 ≤ z) && decide (z ≤ 255)) = true) : IsB xs := fun z hz => by
  have := List.all_eq_true.1 h z hz
  simpa using this

theorem rd_frozen (w : World) (xs : List Value) (e : TypeId) (fr : Nat × Nat) (hm : xs.length ≤ 9223372036854775807) : Rd (w.alloc (.cells xs.toArray e fr)) (.slice (some ⟨w.heap.size, 0, none⟩) xs.length xs.length) xs := by
  refine ⟨_, _, rfl, Nat.le_refl _, by unfold maxLen; omega, (fun h => by cases h), .inr ⟨w.heap.size, 0, rfl, fun j hj => ?_⟩⟩
  have h : (w.alloc (.cells xs.toArray e fr)).heap[w.heap.size]? = some (.cells xs.toArray e fr) := heap_alloc_new w _
  generalize w.alloc (.cells xs.toArray e fr) = w2 at *
  simp [World.cell?, h]
theorem rd_frozen2 (w : World) (o : Obj) (xs : List Value) (e : TypeId) (fr : Nat × Nat) (hm : xs.length ≤ 9223372036854775807) : Rd ((w.alloc o).alloc (.cells xs.toArray e fr)) (.slice (some ⟨w.heap.size + 1, 0, none⟩) xs.length xs.length) xs := by
  have h := rd_frozen (w.alloc o) xs e fr hm
  rwa [show (w.alloc o).heap.size = w.heap.size + 1 by simp] at h
theorem conv_of_rd {w : World} {v : Value} {xs : List Int} (hr : Rd w v (bs xs)) : (convert 30 9 v).run Tryd.prog w = .ok (.string (strOf xs)) w := by
  obtain ⟨A, c, rfl, _⟩ := id hr
  exact run_conv w A _ c xs hr

set_option maxRecDepth 100000 in
set_option maxHeartbeats 2000000 in
theorem awake04_any (w : World) (ht : Tab w) : Calls Tryd.prog 26 #[] w fun e w' => e = .returned (.bool true) ∧ Below w.heap.size w w' := by
  have HT := Lib.hid ht
  have kc := fun (w : World) (C : Array Value) (n c : Nat) => Lib.run_convert_bytes_const (P := Tryd.prog) w 30 5 C n c Tryd.underlying30 Tryd.underlying5
  have kc2 : ∀ (w : World) (o : Obj) (C : Array Value) (n c : Nat), (convert 30 30 (.slice (some ⟨w.heap.size + 1, 0, none⟩) n c)).run Tryd.prog ((w.alloc o).alloc (.cells C 5)) = .ok (.slice (some ⟨w.heap.size + 1, 0, none⟩) n c) ((w.alloc o).alloc (.cells C 5 (C.size, C.size + 1))) := fun w o C n c => by
    have h := kc (w.alloc o) C n c
    have hs : (w.alloc o).heap.size = w.heap.size + 1 := by simp
    rwa [hs] at h
  have SE := Lib.hid (show ∀ (w : World) va vt, Tab w → Rd w va (bs adA) → Rd w vt (bs helloA) → Calls Tryd.prog 30 #[.agg #[.int .u8 1, .int .u8 0, .int .u8 0, .int .u8 0, .int .u8 0, .int .u8 0, .int .u8 0, .int .u8 0, .int .u8 0, .int .u8 0, .int .u8 0, .int .u8 0, .int .u8 0, .int .u8 0, .int .u8 0, .int .u8 0, .int .u8 0, .int .u8 0, .int .u8 0, .int .u8 0, .int .u8 0, .int .u8 0, .int .u8 0, .int .u8 0, .int .u8 0, .int .u8 0, .int .u8 0, .int .u8 0, .int .u8 0, .int .u8 0, .int .u8 0, .int .u8 0], .agg #[.int .u8 2, .int .u8 0, .int .u8 0, .int .u8 0, .int .u8 0, .int .u8 0, .int .u8 0, .int .u8 0, .int .u8 0, .int .u8 0, .int .u8 0, .int .u8 0], va, vt] w (SealRes kA nA adA helloA w) from fun w va vt ht ha hv =>
    seal_any w kA nA adA helloA va vt rfl rfl (isB_lit (by decide)) (isB_lit (by decide)) (isB_lit (by decide)) (isB_lit (by decide)) ha hv ht)
  have OP := Lib.hid (show ∀ (w : World) ad sealed va vt, IsB ad → IsB sealed → Tab w → Rd w va (bs ad) → Rd w vt (bs sealed) → Calls Tryd.prog 31 #[.agg #[.int .u8 1, .int .u8 0, .int .u8 0, .int .u8 0, .int .u8 0, .int .u8 0, .int .u8 0, .int .u8 0, .int .u8 0, .int .u8 0, .int .u8 0, .int .u8 0, .int .u8 0, .int .u8 0, .int .u8 0, .int .u8 0, .int .u8 0, .int .u8 0, .int .u8 0, .int .u8 0, .int .u8 0, .int .u8 0, .int .u8 0, .int .u8 0, .int .u8 0, .int .u8 0, .int .u8 0, .int .u8 0, .int .u8 0, .int .u8 0, .int .u8 0, .int .u8 0], .agg #[.int .u8 2, .int .u8 0, .int .u8 0, .int .u8 0, .int .u8 0, .int .u8 0, .int .u8 0, .int .u8 0, .int .u8 0, .int .u8 0, .int .u8 0, .int .u8 0], va, vt] w (OpenRes kA nA ad sealed w) from fun w ad sealed va vt hab hsb ht ha hv =>
    open_any w kA nA ad sealed va vt rfl rfl (isB_lit (by decide)) (isB_lit (by decide)) hab hsb ha hv ht)
  have hSB := sealF_isB kA nA adA (text := helloA) (isB_lit (by decide))
  have hSE : sealE adA helloA = 0 := by decide
  have hSF : sealF kA nA adA helloA = sealL kA nA adA helloA := by rw [sealF, if_neg (by decide)]
  obtain ⟨hO1, hO2⟩ := open_seal kA nA adA helloA (by decide) (by decide) (isB_lit (by decide))
  rw [← hSF] at hO1 hO2
  have hSL : (sealF kA nA adA helloA).length = 21 := by rw [hSF, sealL_len _ _ _ _ (by decide)]; rfl
  have hG : openE kA nA abA [] = 4 := by decide
  unfold SealRes at SE
  unfold OpenRes at OP
  clear hSF ht
  generalize hS : sealF kA nA adA helloA = S at *
  rw [hSE] at SE
  have HS := Lib.hid (⟨hSB, hO1, hO2, hSL⟩ : IsB S ∧ openE kA nA adA S = 0 ∧ openF kA nA adA S = helloA ∧ S.length = 21)
  have HG := Lib.hid (fun _ : Unit => hG)
  clear hSB hO1 hO2 hSL hG hSE hS
  go_enter Tryd.func26, Tryd.ntmps26
  have tok1 : True := trivial
  go_upto_region 2 with (go_at_call 30; refine (SE.out _ _ _ ((HT.out.al _).al _) ((rd_frozen w (bs adA) 5 (2, 3) (by decide)).stay (bw_al (Below.refl _ _) (Nat.le_refl _) _) (Nat.le_refl _)) (rd_frozen2 w _ (bs helloA) 5 (5, 6) (by decide))).mono ?_; rintro e w2 ⟨vs, rfl, hrs, hb2⟩)
  have bw2 : Below w.heap.size w w2 := bw_then (bw_al (bw_al (Below.refl _ _) (Nat.le_refl _) _) (by simp) _) hb2 (by simp; omega)
  have HRS := Lib.hid hrs
  have HB2 := Lib.hid bw2
  have hlv : ∀ w', (Builtin.len_ #[30] 3 #[vs]).run Tryd.prog w' = .ok (goInt (21 : Nat)) w' := by
    have := len_fact (P := Tryd.prog) hrs (t := 30) (ty := 3) (by kernel_rfl)
    rwa [bs_len, HS.out.2.2.2] at this
  clear hrs hb2 bw2
  go_upto_region 3 with (go_at_call 31; refine (OP.out _ adA S _ _ (isB_lit (by decide)) HS.out.1 ((HT.out.stay HB2.out).al _) (rd_frozen w2 (bs adA) 5 (2, 3) (by decide)) (HRS.out.stay (bw_al (Below.refl _ _) (Nat.le_refl _) _) (Nat.le_refl _))).mono ?_; rintro e w3 ⟨vt, rfl, hrt, hb3⟩)
  rw [HS.out.2.1]
  rw [HS.out.2.2.1] at hrt
  have bw3 : Below w2.heap.size w2 w3 := bw_then (bw_al (Below.refl _ _) (Nat.le_refl _) _) hb3 (by simp)
  have bw03 := bw_then HB2.out bw3 HB2.out.size
  have HRT := Lib.hid hrt
  have HB3 := Lib.hid bw03
  clear hrt hb3 bw3 bw03
  go_upto_region 4 with (go_at_call 31; refine (OP.out _ abA [] _ _ (isB_lit (by decide)) (fun z hz => by simp at hz) ((HT.out.stay HB3.out).al _) (rd_frozen w3 (bs abA) 5 (2, 3) (by decide)) (Rd.nil _)).mono ?_; rintro e w4 ⟨vu, rfl, hru, hb4⟩)
  rw [HG.out ()]
  have bw4 : Below w3.heap.size w3 w4 := bw_then (bw_al (Below.refl _ _) (Nat.le_refl _) _) hb4 (by simp)
  have hcv := conv_of_rd (HRT.out.stay bw4 (Nat.le_refl _))
  rw [show strOf helloA = ⟨#[104, 101, 108, 108, 111]⟩ from rfl] at hcv
  have HB4 := Lib.hid (bw_then HB3.out bw4 HB3.out.size)
  clear hb4 bw4 hru
  go_wp2_with fail
  all_goals go_ret
  exact ⟨rfl, HB4.out⟩
end Go.Proofs.YtmjjnaaiakchhaaDoor
end

section
/-
  Arguments, read: slices, rows of bytes.
-/
namespace Go.Proofs.YtmjjnaaiakchhaaDoor
open Go.ChangeShapes Go.WideShapes Go.ChangeAt Go.RowKit

theorem byte_of_wf {z : Int} (h : (Lit.int .u8 z).wf = true) : 0 ≤ z ∧ z ≤ 255 := by
  simp [Lit.wf] at h
  have e1 : IntKind.u8.min = 0 := rfl
  have e2 : IntKind.u8.max = 255 := rfl
  omega
theorem cells_u8 : Tryd.prog.cellsOf 5 = 1 := by kernel_rfl

/-- A slice whose elements have 'sz' cells each. -/
def Els (w : World) (v : Value) (n sz : Nat) (f : Nat → List Value) : Prop :=
  ∃ A cap, v = .slice A n cap ∧ n ≤ cap ∧ cap ≤ maxLen ∧ (A = none → cap = 0) ∧ (n ≠ 0 → ∃ b o, A = some ⟨b, o, none⟩ ∧ b < w.heap.size ∧ ∀ i, i < n → (f i).length = sz ∧ ∀ j, j < sz → w.cell? ⟨b, o + i * sz + j, none⟩ = (f i)[j]?)
theorem Els.stay {w w' : World} {v : Value} {n sz : Nat} {f : Nat → List Value} {B : Nat} (h : Els w v n sz f) (hb : Below B w w') (hB : w.heap.size ≤ B) : Els w' v n sz f := by
  obtain ⟨A, cap, rfl, h1, h2, h0, h3⟩ := h
  refine ⟨A, cap, rfl, h1, h2, h0, fun hn => ?_⟩
  obtain ⟨b, o, rfl, hlt, h4⟩ := h3 hn
  refine ⟨b, o, rfl, Nat.lt_of_lt_of_le hlt hb.size, fun i hi => ⟨(h4 i hi).1, fun j hj => ?_⟩⟩
  rw [hb.cell (p := ⟨b, o + i * sz + j, none⟩) (Nat.lt_of_lt_of_le hlt hB)]
  exact (h4 i hi).2 j hj
theorem Els.len {w : World} {v : Value} {n sz : Nat} {f : Nat → List Value} (h : Els w v n sz f) : n ≤ 9223372036854775807 := by
  obtain ⟨A, cap, rfl, h1, h2, _, h3⟩ := h
  unfold maxLen at h2; omega

theorem els_of_trod {H : Type} {enc : TypeId × Value → H} {P : Program} {w : World} {base : Nat} {sp : Nat → Bool} {held : Bool} {fuel : Nat} {cs : List Value} {x : DataW H × List MemPlace} {t e : TypeId} {sz : Nat} (ht : P.underlying t = some (.slice e)) (hsz : P.cellsOf e = sz) (hpos : 0 < sz)
    {Pe : List Value → Prop} (hE : ∀ (n : Nat) (cs' : List Value) (d : DataW H × List MemPlace), DataW.trod enc P w base sp held n e cs' = some d → Pe cs') (h : DataW.trod enc P w base sp held fuel t cs = some x) :
    ∃ v n f, cs = [v] ∧ Els w v n sz f ∧ ∀ i, i < n → Pe (f i) := by
  rcases Deep.open_slice ht h with ⟨h1, _⟩ | ⟨a, len, cap, m, n', D, Pl, h1, _, hlc, hcm, hm, _, hall⟩
  · subst h1
    exact ⟨_, 0, fun _ => [], rfl, ⟨none, 0, rfl, Nat.le_refl _, Nat.zero_le _, fun _ => rfl, fun h => absurd rfl h⟩, fun i hi => by omega⟩
  · subst h1
    have hlm : len ≤ m := by rw [hm]; split <;> omega
    obtain ⟨f, hf⟩ := Deep.choose_lt (n := len) (p := fun i cs' => w.cells? base (a.add (i * sz)) sz = some cs' ∧ Pe cs') fun i hi => by
      obtain ⟨cs', h2, h3⟩ := hall i (by omega)
      rw [hsz] at h2
      exact ⟨cs', h2, hE _ _ _ h3⟩
    refine ⟨_, len, f, rfl, ⟨some a, cap, rfl, hlc, hcm, (fun h => by cases h), fun hn => ?_⟩, fun i hi => (hf i hi).2⟩
    have hc := fun i (hi : i < len) => World.cells?_some (hf i hi).1
    have h0 := hc 0 (by omega)
    have hspot : a.spot = none := by
      have h2 := h0.2.2 0 hpos
      rw [List.getElem?_eq_getElem (by omega)] at h2
      simp only [Nat.zero_mul, Addr.add, if_true, World.cell?] at h2
      cases hs : a.spot with
      | none => rfl
      | some q =>
        rw [hs] at h2
        split at h2 <;> simp at h2
    obtain ⟨b, o, s⟩ := a
    simp only at hspot
    subst hspot
    refine ⟨b, o, rfl, ?_, fun i hi => ⟨(hc i hi).2.1, fun j hj => ?_⟩⟩
    · have h2 := h0.2.2 0 hpos
      rw [List.getElem?_eq_getElem (by omega)] at h2
      have := World.block_lt_of_cell? w _ h2
      simpa [Addr.add] using this
    · have h2 := (hc i hi).2.2 j hj
      rw [← h2]
      congr 1
      unfold Addr.add
      by_cases hi0 : i * sz = 0 <;> by_cases hj0 : j = 0 <;> simp [hi0, hj0]

/-- An argument of a one-cell type is that cell. -/
theorem one_of_ok {P : Program} {W : World} {base : Nat} {t : TypeId} {v : Value} {d : TypeDesc} (ht : P.underlying t = some d) (hd : (match d with | .slice _ | .int _ | .bool | .string => true | _ => false) = true) (hv : Value.okWide P W .any base t v) : v.cells.toList = [v] := by
  cases v with
  | agg cs =>
    exfalso
    unfold Value.okWide at hv
    rw [ht] at hv
    cases d <;> simp at hd <;> simp [Cell.okWide, Cell.ok, ht] at hv
  | _ => rfl

/-- An argument that is a row of bytes. -/
theorem bytes_of_trod {H : Type} {enc : TypeId × Value → H} {w : World} {base : Nat} {sp : Nat → Bool} {held : Bool} {fuel : Nat} {cs : List Value} {x : DataW H × List MemPlace}
    (h : DataW.trod enc Tryd.prog w base sp held fuel 30 cs = some x) : ∃ v xs, cs = [v] ∧ IsB xs ∧ Rd w v (bs xs) := by
  obtain ⟨v, n, f, rfl, ⟨A, cap, rfl, h1, h2, h0, h3⟩, hP⟩ := els_of_trod (sz := 1) Tryd.underlying30 cells_u8 (by decide) (Pe := fun cs' => ∃ z, cs' = [.int .u8 z] ∧ 0 ≤ z ∧ z ≤ 255) (fun n cs' d hd => by
    obtain ⟨z, h1, _, h3⟩ := DataW.trod_int Tryd.underlying5 hd
    exact ⟨z, h1, byte_of_wf h3⟩) h
  obtain ⟨g, hg⟩ := Deep.choose_lt (n := n) (p := fun i z => f i = [.int .u8 z] ∧ 0 ≤ z ∧ z ≤ 255) hP
  refine ⟨_, (List.range n).map g, rfl, ?_, A, cap, by simp [bs], by simpa [bs] using h1, h2, h0, ?_⟩
  · intro z hz
    obtain ⟨i, hi, rfl⟩ := List.mem_map.1 hz
    exact (hg i (List.mem_range.1 hi)).2
  · by_cases hn : n = 0
    · left; subst hn; rfl
    · right
      obtain ⟨b, o, rfl, _, h4⟩ := h3 hn
      refine ⟨b, o, rfl, fun j hj => ?_⟩
      have hj' : j < n := by simpa [bs] using hj
      have h5 := (h4 j hj').2 0 (by decide)
      rw [(hg j hj').1] at h5
      simpa [bs] using h5
/-- An argument that is rows of bytes. -/
theorem rows_of_trod {H : Type} {enc : TypeId × Value → H} {w : World} {base : Nat} {sp : Nat → Bool} {held : Bool} {fuel : Nat} {cs : List Value} {x : DataW H × List MemPlace} {t : TypeId} (ht : Tryd.prog.underlying t = some (.slice 30)) (hc : Tryd.prog.cellsOf 30 = 1)
    (h : DataW.trod enc Tryd.prog w base sp held fuel t cs = some x) : ∃ v n f, cs = [v] ∧ Els w v n 1 f ∧ ∀ i, i < n → ∃ u xs, f i = [u] ∧ IsB xs ∧ Rd w u (bs xs) :=
  els_of_trod (sz := 1) ht hc (by decide) (fun _ _ _ hd => bytes_of_trod hd) h
theorem int_of_trod {H : Type} {enc : TypeId × Value → H} {w : World} {base : Nat} {sp : Nat → Bool} {held : Bool} {fuel : Nat} {cs : List Value} {x : DataW H × List MemPlace} {t : TypeId} {k : IntKind} (ht : Tryd.prog.underlying t = some (.int k))
    (h : DataW.trod enc Tryd.prog w base sp held fuel t cs = some x) : ∃ z, cs = [.int k z] ∧ k.min ≤ z ∧ z ≤ k.max := by
  obtain ⟨z, h1, _, h3⟩ := DataW.trod_int ht h
  refine ⟨z, h1, ?_⟩
  simp [Lit.wf] at h3
  omega
end Go.Proofs.YtmjjnaaiakchhaaDoor
end

section
/-
  An argument of type 'With' (key, nonce, and what goes beside), read; and the start of a walk over it.
-/
namespace Go.Proofs.YtmjjnaaiakchhaaDoor
open Go.ChangeShapes Go.WideShapes Go.ChangeAt Go.RowKit

def withV (key nonce : List Int) (va : Value) : List Value := bs key ++ (bs nonce ++ [va])
theorem withV_len (key nonce : List Int) (va : Value) (hk : key.length = 32) (hn : nonce.length = 12) : (withV key nonce va).length = 45 := by simp [withV, bs_len, hk, hn]
theorem withV_ad (key nonce : List Int) (va : Value) (hk : key.length = 32) (hn : nonce.length = 12) : (withV key nonce va)[44]? = some va := by
  rw [withV, List.getElem?_append_right (by rw [bs_len]; omega), List.getElem?_append_right (by rw [bs_len, bs_len]; omega), bs_len, bs_len, hk, hn]; rfl
theorem withV_p0 (key nonce : List Int) (va : Value) : ((withV key nonce va).drop 0).take (bs key).length = bs key := by simp [withV]
theorem withV_p1 (key nonce : List Int) (va : Value) (hk : key.length = 32) : ((withV key nonce va).drop 32).take (bs nonce).length = bs nonce := by
  have h : (bs key).length = 32 := by rw [bs_len, hk]
  rw [withV, ← h, List.drop_left, List.take_left]

theorem with_of_trod {H : Type} {enc : TypeId × Value → H} {w : World} {base : Nat} {sp : Nat → Bool} {held : Bool} {fuel : Nat} {cs : List Value} {x : DataW H × List MemPlace}
    (h : DataW.trod enc Tryd.prog w base sp held fuel 52 cs = some x) :
    ∃ key nonce va ad, key.length = 32 ∧ nonce.length = 12 ∧ IsB key ∧ IsB nonce ∧ IsB ad ∧ Rd w va (bs ad) ∧ cs = withV key nonce va := by
  obtain ⟨xs, n, _, _, hl, hxl, hf⟩ := DataW.trod_struct Tryd.underlying52 h
  have h0 := hf 0 _ rfl
  have h1 := hf 1 _ rfl
  have h2 := hf 2 _ rfl
  rw [show Tryd.prog.cellsOf 52 = 45 by kernel_rfl] at hl
  match xs, hxl with
  | [x0, x1, x2], _ =>
    obtain ⟨key, hk, e0, w0⟩ := trod_arr_ints Tryd.underlying22 Tryd.underlying5 cellsU8 cells32 h0
    obtain ⟨nonce, hn, e1, w1⟩ := trod_arr_ints Tryd.underlying24 Tryd.underlying5 cellsU8 cells12 h1
    obtain ⟨va, ad, e2, hab, hra⟩ := bytes_of_trod h2
    refine ⟨key, nonce, va, ad, hk, hn, isB_of_wf w0, isB_of_wf w1, hab, hra, ?_⟩
    have e0' : (cs.drop 0).take (Tryd.prog.cellsOf 22) = bs key := e0
    have e1' : (cs.drop 32).take (Tryd.prog.cellsOf 24) = bs nonce := e1
    have e2' : (cs.drop 44).take (Tryd.prog.cellsOf 30) = [va] := e2
    rw [cells32] at e0'
    rw [cells12] at e1'
    rw [show Tryd.prog.cellsOf 30 = 1 by kernel_rfl] at e2'
    have key2 : ∀ (n k : Nat) (l : List Value), (cs.drop n).take k = l → cs.drop n = l ++ cs.drop (n + k) := by
      intro n k l hl
      rw [← hl, ← List.drop_drop, List.take_append_drop]
    have e : cs = cs.drop 0 := by simp
    rw [e, key2 0 32 _ e0', key2 32 12 _ e1', key2 44 1 _ e2', List.drop_of_length_le (by omega)]
    simp [withV]
end Go.Proofs.YtmjjnaaiakchhaaDoor
end
