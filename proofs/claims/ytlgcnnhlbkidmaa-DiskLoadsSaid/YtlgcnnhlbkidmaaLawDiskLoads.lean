/-
  The statement DiskLoads: whatever rows of files are laid, those are taken that the reference takes, and are told as they are. No condition.
-/
import Derived.Test.YtlgcnnhlbkidmaaAwakeD
import Derived.Test.YtlgcnnhlbkidmaaLoadsW
import Derived.Test.YtlgcnnhlbkidmaaPowerN
import Derived.Test.YtlgcnnhlbkidmaaKinds
namespace Go.Proofs.Ytlgcnnhlbkidmaa.lawDiskLoads
open Go.ChangeShapes Go.WideShapes Go.ChangeAt Go.RowKit

theorem cat_elem {w : World} {base : Nat} {v : Value} {L : List FileA} (ho : w.ownsRow base 107 3 v L.length (flatF L)) (hg : ∀ f ∈ L, FGood w f) {k : Nat} (hk : k < L.length) :
    ∃ b o c xn Ax nx cx xk, v = .slice (some ⟨b, o, none⟩) L.length c ∧ xn.size ≤ maxLen ∧ nx ≤ maxLen ∧ w.cell? ⟨b, o + k * 3, none⟩ = some (.string xn) ∧ w.cell? ⟨b, o + k * 3 + 1, none⟩ = some (.slice Ax nx cx) ∧ w.cell? ⟨b, o + k * 3 + 2, none⟩ = some (.int .i64 xk) := by
  have h := FR.of_own ho hg
  obtain ⟨A, c, rfl, _⟩ := h.sl
  obtain ⟨b, o, xn, Ax, nx, cx, xd, xk, rfl, _, hX, hnx, hxn, _, q0, q1, q2⟩ := h.elem hk
  have h4 := (h.good _ (List.mem_of_getElem? hX)).rd.len
  simp only [hnx] at h4
  exact ⟨b, o, c, xn, Ax, nx, cx, xk, rfl, hxn, h4, q0 w (Below.refl _ _), q1 w (Below.refl _ _), q2 w (Below.refl _ _)⟩
set_option maxRecDepth 100000 in
set_option maxHeartbeats 4000000 in
theorem walk (w : World) (u v : Value) (LU LV : List FileA) (hrU : FR w u LU) (hrV : FR w v LV) :
    Calls Try.prog 14 #[u, v] w fun e w' => e = .returned (.bool true) ∧ Below w.heap.size w w' := by
  obtain ⟨AU, cU, rfl, hU1, hU2, _⟩ := hrU.sl
  obtain ⟨AV, cV, rfl, hV1, hV2, _⟩ := hrV.sl
  obtain ⟨n, hn⟩ : ∃ n, LU.length = n := ⟨_, rfl⟩
  obtain ⟨m, hm⟩ : ∃ n, LV.length = n := ⟨_, rfl⟩
  rw [hn] at hrU hU1 ⊢
  rw [hm] at hrV hV1 ⊢
  have HRU := Lib.hid hrU; have HRV := Lib.hid hrV; have HN := Lib.hid (fun _ : Unit => hn); have HM := Lib.hid (fun _ : Unit => hm)
  clear hrU hrV hn hm
  go_enter Try.func14, Try.ntmps14
  by_cases hl1 : (70 : Int) < n
  · go_wp2_with (go_at_call 50; refine (awake09_any w).mono ?_; rintro e w' ⟨rfl, hb'⟩)
    all_goals go_ret
    exact ⟨rfl, hb'⟩
  by_cases hl2 : (70 : Int) < m
  · go_wp2_with (go_at_call 50; refine (awake09_any w).mono ?_; rintro e w' ⟨rfl, hb'⟩)
    all_goals go_ret
    exact ⟨rfl, hb'⟩
  go_wp2_with fail
  go_loopw [5] (fun x wr => ∃ (k : Nat), k ≤ n + m ∧ x = .int .i64 k ∧ Below w.heap.size w wr) (fun x _ => n + m - (intOf x).toNat)
  case atStart => exact ⟨0, Nat.zero_le _, rfl, Below.refl _ _⟩
  case round =>
    obtain ⟨k, hk, rfl, hbw⟩ := hrel
    obtain ⟨wo, rfl⟩ : ∃ wo : World, wo = wr := ⟨_, rfl⟩
    have HBW := Lib.hid hbw
    have hcl : ((LU ++ LV).length) = n + m := by rw [List.length_append, HN.out (), HM.out ()]
    by_cases hlt : k < n + m
    · have hs0 := World.ownsRow_made (e := 107) (size := 3) wo #[] 0 (Nat.le_refl _) (Nat.zero_le _) (by simp)
      have HS0 := Lib.hid hs0
      have l0 : Below wo.heap.size wo (wo.alloc (.cells #[] 107)) := bw_al (Below.refl _ _) (Nat.le_refl _) _
      have L0 := Lib.hid l0
      have HCL := Lib.hid (fun _ : Unit => hcl)
      clear hs0 l0 hcl
      have hkl : k < (LU ++ LV).length := by rw [HCL.out ()]; exact hlt
      go_upto_region 7 with (first
        | (have _t := ho11; clear _t; at_builtin; refine wp_app_files _ _ rfl rfl wo.heap.size rfl ho11 rfl (HRV.out.stay (HBW.out.trans (lb11.mono HBW.out.size)) (Nat.le_refl _)) (by rw [List.nil_append, HN.out ()]; omega) (by rw [HM.out ()]; omega) lb11.size ?_; intro v12 w12 ho12 hb12; have lb12 := lb11.trans hb12; clear ho11; rw [List.nil_append] at ho12; obtain ⟨b, o, c, xn, Ax, nx, cx, xk, rfl, hxn, hnx, q0, q1, q2⟩ := cat_elem ho12 (fun f hf => (List.mem_append.1 hf).elim (fun h1 => (HRU.out.good f h1).stay (HBW.out.trans (lb12.mono HBW.out.size)) (Nat.le_refl _)) (fun h1 => (HRV.out.good f h1).stay (HBW.out.trans (lb12.mono HBW.out.size)) (Nat.le_refl _))) hkl; clear ho12; rw [HCL.out ()])
        | (at_builtin; refine wp_app_files (l := []) _ _ rfl rfl wo.heap.size rfl HS0.out rfl (HRU.out.stay (bw_then HBW.out L0.out HBW.out.size) (Nat.le_refl _)) (Nat.zero_le _) (by rw [HN.out ()]; omega) L0.out.size ?_; intro v11 w11 ho11 hb11; have lb11 := L0.out.trans hb11))
      clear hkl q0 q1 q2 hb11 hb12 lb11
      have hz13 : w.heap.size ≤ w12.heap.size := Nat.le_trans HBW.out.size lb12.size
      have L13 := Lib.hid (bw_al (HBW.out.trans (lb12.mono HBW.out.size)) hz13 (.cells #[.string xn, .slice Ax nx cx, .int .i64 xk] 107))
      clear lb12 hbw
      by_cases h3 : (60 : Int) < xn.size
      · go_wp2_with (go_at_call 50; refine (awake09_any _).mono ?_; rintro e w' ⟨rfl, hb'⟩)
        all_goals go_ret
        exact ⟨rfl, bw_then L13.out hb' (by simp; omega)⟩
      by_cases h4 : (200 : Int) < nx
      · go_wp2_with (go_at_call 50; refine (awake09_any _).mono ?_; rintro e w' ⟨rfl, hb'⟩)
        all_goals go_ret
        exact ⟨rfl, bw_then L13.out hb' (by simp; omega)⟩
      go_wp2_with fail
      exact ⟨⟨k + 1, by omega, by simp, L13.out⟩, by simp [intOf]; omega⟩
    · obtain rfl : k = n + m := by omega
      go_upto_region 10 with (first
        | (go_at_call 42; refine (plug_any wo).mono ?_; rintro e w1 ⟨rfl, hp1, hb1, hs1⟩)
        | (go_at_call 54; refine (newdisk_any w1 (some wo.heap.size)).mono ?_; rintro e w2 ⟨g, own, rfl, hd2, hb2⟩)
        | (go_at_call 43; refine (rplug_any w2).mono ?_; rintro e w3 ⟨rfl, hp3, hb3, hs3⟩))
      have h2 := DP.made_ hp1 hb1 hs1 hd2 hb2
      have hI : LI wo.heap.size wo (w3.alloc (.cells #[.pointer (some ⟨w2.heap.size, 0, none⟩), .slice none 0 0] 110)) own g wo.heap.size (w2.heap.size + 1) (.pointer (some ⟨w2.heap.size, 0, none⟩)) [] (.slice none 0 0) [] :=
        ⟨(h2.stay (bw_al hb3 hb3.size _)).disk, Blk.mk_ w3 hs3.symm rfl, (fun ho => by have := (h2.disk.dom _ ho).2; omega), ⟨⟨none, 0, rfl, Nat.le_refl _, Nat.zero_le _, fun _ => rfl⟩, (fun i f hf => by simp at hf), (fun f hf => by simp at hf)⟩, (fun f hf => by simp at hf), (fun k hk => by obtain ⟨_, _, _, hk⟩ := hk; cases hk),
          Nat.le_trans h2.lt (Nat.le_succ _), bw_al (bw_then (bw_then hb1 hb2 hb1.size) hb3 h2.lt) (Nat.le_trans h2.lt hb3.size) _⟩
      clear hp1 hb1 hs1 hd2 hb2 hp3 hb3 h2 hlt hcl hbw
      obtain ⟨w4, hw4⟩ : ∃ w4, w3.alloc (.cells #[.pointer (some ⟨w2.heap.size, 0, none⟩), .slice none 0 0] 110) = w4 := ⟨_, rfl⟩
      change Code.wp _ _ _ _ (w3.alloc (.cells #[.pointer (some ⟨w2.heap.size, 0, none⟩), .slice none 0 0] 110))
      rw [hw4] at hI ⊢
      clear hw4 hs3
      obtain ⟨gx, hgx⟩ : ∃ gx, w2.heap.size + 1 = gx := ⟨_, rfl⟩
      obtain ⟨pv, hpv⟩ : ∃ pv, Value.pointer (some ⟨w2.heap.size, 0, none⟩) = pv := ⟨_, rfl⟩
      obtain ⟨gp, hgp⟩ : ∃ gp, wo.heap.size = gp := ⟨_, rfl⟩
      have HBX := HBW.out
      rw [hgx, hpv] at hI
      rw [hgp] at hI
      have HSZ := hgp ▸ HBW.out.size
      have HGP := Lib.hid (fun _ : Unit => hgp)
      have keepR : ∀ (wx : World), Below gp wo wx → ∀ u l, FR w u l → FR wx u l := fun wx hb u l h => h.stay (HBW.out.trans (hb.mono HSZ)) (Nat.le_refl _)
      rw [hgx, hpv, hgp]
      clear hgx hpv hgp HBX
      have HKR := Lib.hid keepR; have HLT := Lib.hid HSZ
      obtain ⟨lv0, hlv0⟩ : ∃ v, Value.slice none 0 0 = v := ⟨_, rfl⟩
      obtain ⟨m0, hm0⟩ : ∃ m, ([] : List FileA) = m := ⟨_, rfl⟩
      have hI0 : LI gp wo w4 own g gp gx pv (m0.map viewF) lv0 m0 := by rw [← hm0, ← hlv0]; exact hI
      have HOK0 := Lib.hid (show ∀ f ∈ m0, okF f = true from fun f hf => by rw [← hm0] at hf; cases hf)
      have HI0 := Lib.hid hI0
      clear keepR HSZ hI hI0 hlv0 hm0
      obtain ⟨z1, m1, e1, e2, hm⟩ := loads_eq m0 LU
      have HOK1 := Lib.hid (show ∀ f ∈ m1, okF f = true from fun f hf => (hm f hf).elim (HOK0.out f) (fun h => h.2))
      have HSUB := Lib.hid (show ∀ f ∈ m1, f ∈ m0 ∨ f ∈ LU from fun f hf => (hm f hf).imp id (fun h => h.1))
      have hId := HI0.out.stay (bw_d1 (Below.refl _ _))
      have LD := load_any _ _ _ _ _ _ _ LU hId.disk (HKR.out _ hId.b _ _ HRU.out) (by rw [HN.out ()]; omega) hId.sz
      rw [e1] at LD
      have HEL := Lib.hid (show ∀ f ∈ LU, f.data ≠ [] → ∀ k, hold f.v k → k < gp from fun f hf hx k hk => Nat.lt_of_lt_of_le (HRU.out.elem_lt f hf hx k hk) HLT.out)
      have RD := fun (wx : World) (ox : Nat → Prop) (h : LI gp wo wx ox g gp gx pv (m1.map viewF) lv0 m0) => rload_any wx gx pv lv0 m0 _ LU h.blk h.row (HKR.out _ h.b _ _ HRU.out) (by rw [HN.out ()]; omega) (fun f hf hx k hk e => by have := HEL.out f hf hx k hk; have := h.lo; omega)
      rw [e2] at RD
      have HID := Lib.hid hId; have LD := Lib.hid LD; have RD := Lib.hid RD
      clear hId e1 e2 hm
      refine region_plan ⟨[0, 0, 3, 0, 0, 31, 63, 127, 255, 511, 255, 1279, 3327, 7423, 16383, 32767, 65535], [2, 5, 9, 14], [0, 0, 0, 0, 0, 1, 2, 2, 2, 2, 2, 2, 2, 2, 3, 4, 4]⟩
        [⟨[0, 1, 3, 4], [], some 2⟩, ⟨[], [], some 5⟩, ⟨[6, 7, 8, 10, 11, 12, 13], [6, 11, 12, 13], some 9⟩, ⟨[], [11, 12, 13], some 14⟩, ⟨[15, 16], [15], none⟩] 109 (by kernel_rfl) (by kernel_rfl) (by kernel_rfl) (by kernel_rfl) rfl ?_
      simp only [SeqGo, opsAt_cons, opsAt_nil, List.getElem?_cons, Option.toList_some, List.singleton_append, ↓reduceIte, Nat.reduceEqDiff, Nat.reduceSub]
      go_wp2_with fail
      refine ⟨trivial, ?_⟩
      go_wp2_with (go_at_call 62; refine LD.out.mono ?_; rintro e wa1 ra; obtain ⟨rfl, own1, ha⟩ := HID.out.load ra; clear ra; have HA := Lib.hid ha; clear ha)
      refine ⟨trivial, ?_⟩
      go_wp2_with (go_at_call 63; refine (RD.out _ _ HA.out).mono ?_; rintro e wb1 rb; obtain ⟨rfl, lv1, hb⟩ := HA.out.rload rb HSUB.out HEL.out; clear rb; have HB1 := Lib.hid hb; have y1 : ∀ w', Below wb1.heap.size wb1 w' → w'.cell? ⟨gx, 1, none⟩ = some lv1 := fun w' h => (hb.stay h).blk.at_ 1 rfl; have rf1 : Below wb1.heap.size wb1 wb1 := Below.refl _ _; clear hb)
      refine ⟨by (simp only [Sames, Same]; go_simp), ?_⟩
      have IM := Lib.hid (image_any _ _ _ _ _ _ HB1.out.disk)
      go_wp2_with (go_at_call 65; refine IM.out.mono ?_; rintro e wc1 ⟨vi1, li, rfl, hoi, hgi, hvi, hbc1⟩)
      have SM := Lib.hid (rsame_any wc1 vi1 lv1 li m1 (FR.of_own hoi (fun f hf => (hgi f hf).good)) (HB1.out.stay hbc1).row hvi (fun f hf => (hgi f hf).k.1) (fun f hf => ok_kept (HOK1.out f hf)))
      clear hoi hgi hvi
      refine ⟨by (simp only [Sames, Same]; go_simp), ?_⟩
      go_wp2_with (go_at_call 64; refine SM.out.mono ?_; rintro e wd1 ⟨rfl, hbd⟩; have hbd1 := bw_next hbc1 hbd; clear hbd)
      refine ⟨by (simp only [Sames, Same]; go_simp), ?_⟩
      go_upto_region 12 with fail
      have HI1 := Lib.hid (HB1.out.stay hbd1)
      clear HB1 y1 rf1 hbc1 hbd1 IM SM LD RD HID HA HEL HSUB
      obtain ⟨z2, m2, e1, e2, hm⟩ := loads_eq m1 LV
      have HOK2 := Lib.hid (show ∀ f ∈ m2, okF f = true from fun f hf => (hm f hf).elim (HOK1.out f) (fun h => h.2))
      have HSUB := Lib.hid (show ∀ f ∈ m2, f ∈ m1 ∨ f ∈ LV from fun f hf => (hm f hf).imp id (fun h => h.1))
      have hId := HI1.out.stay (bw_d1 (Below.refl _ _))
      have LD := load_any _ _ _ _ _ _ _ LV hId.disk (HKR.out _ hId.b _ _ HRV.out) (by rw [HM.out ()]; omega) hId.sz
      rw [e1] at LD
      have HEL := Lib.hid (show ∀ f ∈ LV, f.data ≠ [] → ∀ k, hold f.v k → k < gp from fun f hf hx k hk => Nat.lt_of_lt_of_le (HRV.out.elem_lt f hf hx k hk) HLT.out)
      have RD := fun (wx : World) (ox : Nat → Prop) (h : LI gp wo wx ox g gp gx pv (m2.map viewF) lv1 m1) => rload_any wx gx pv lv1 m1 _ LV h.blk h.row (HKR.out _ h.b _ _ HRV.out) (by rw [HM.out ()]; omega) (fun f hf hx k hk e => by have := HEL.out f hf hx k hk; have := h.lo; omega)
      rw [e2] at RD
      have HID := Lib.hid hId; have LD := Lib.hid LD; have RD := Lib.hid RD
      clear hId e1 e2 hm
      refine region_plan ⟨[0, 0, 3, 0, 0, 31, 63, 127, 255, 511, 255, 1279, 3327, 7423, 16383, 32767, 65535], [2, 5, 9, 14], [0, 0, 0, 0, 0, 1, 2, 2, 2, 2, 2, 2, 2, 2, 3, 4, 4]⟩
        [⟨[0, 1, 3, 4], [], some 2⟩, ⟨[], [], some 5⟩, ⟨[6, 7, 8, 10, 11, 12, 13], [6, 11, 12, 13], some 9⟩, ⟨[], [11, 12, 13], some 14⟩, ⟨[15, 16], [15], none⟩] 109 (by kernel_rfl) (by kernel_rfl) (by kernel_rfl) (by kernel_rfl) rfl ?_
      simp only [SeqGo, opsAt_cons, opsAt_nil, List.getElem?_cons, Option.toList_some, List.singleton_append, ↓reduceIte, Nat.reduceEqDiff, Nat.reduceSub]
      go_wp2_with fail
      refine ⟨trivial, ?_⟩
      go_wp2_with (go_at_call 62; refine LD.out.mono ?_; rintro e wa2 ra; obtain ⟨rfl, own2, ha⟩ := HID.out.load ra; clear ra; have HA := Lib.hid ha; clear ha)
      refine ⟨trivial, ?_⟩
      go_wp2_with (go_at_call 63; refine (RD.out _ _ HA.out).mono ?_; rintro e wb2 rb; obtain ⟨rfl, lv2, hb⟩ := HA.out.rload rb HSUB.out HEL.out; clear rb; have HB2 := Lib.hid hb; have y2 : ∀ w', Below wb2.heap.size wb2 w' → w'.cell? ⟨gx, 1, none⟩ = some lv2 := fun w' h => (hb.stay h).blk.at_ 1 rfl; have rf2 : Below wb2.heap.size wb2 wb2 := Below.refl _ _; clear hb)
      refine ⟨by (simp only [Sames, Same]; go_simp), ?_⟩
      have IM := Lib.hid (image_any _ _ _ _ _ _ HB2.out.disk)
      go_wp2_with (go_at_call 65; refine IM.out.mono ?_; rintro e wc2 ⟨vi2, li, rfl, hoi, hgi, hvi, hbc2⟩)
      have SM := Lib.hid (rsame_any wc2 vi2 lv2 li m2 (FR.of_own hoi (fun f hf => (hgi f hf).good)) (HB2.out.stay hbc2).row hvi (fun f hf => (hgi f hf).k.1) (fun f hf => ok_kept (HOK2.out f hf)))
      clear hoi hgi hvi
      refine ⟨by (simp only [Sames, Same]; go_simp), ?_⟩
      go_wp2_with (go_at_call 64; refine SM.out.mono ?_; rintro e wd2 ⟨rfl, hbd⟩; have hbd2 := bw_next hbc2 hbd; clear hbd)
      refine ⟨by (simp only [Sames, Same]; go_simp), ?_⟩
      go_upto_region 14 with fail
      have HI2 := Lib.hid (HB2.out.stay hbd2)
      clear HB2 y2 rf2 hbc2 hbd2 IM SM LD RD HID HA HEL HSUB
      go_upto_region 15 with (go_at_call 54; refine (newdisk_any _ none).mono ?_; rintro e wn ⟨gy, oy, rfl, hdy, hby⟩)
      have hI3 := (HI2.out.stay hby).stay (bw_d1 (Below.refl _ _))
      have hdy3 := hdy.stay (bw_d1 (Below.refl _ _))
      have hoy : ∀ k, oy k → wd2.heap.size ≤ k := fun k hk => (hdy.dom k hk).1
      have hgx2 := HI2.out.blk.lt
      have hln := HI2.out.disk.risen
      rw [List.length_map] at hln
      have HI3 := Lib.hid hI3; have HDY3 := Lib.hid hdy3; have HOY := Lib.hid hoy; have HLN := Lib.hid hln; have HNS := Lib.hid hby.size
      have IM := Lib.hid (image_any _ _ _ _ _ _ hI3.disk)
      clear hI3 hdy hdy3 hoy hln hby
      refine region_plan ⟨[0, 0, 2, 7, 15, 31, 63, 127, 63, 319, 831, 1855, 4095, 8191, 16383, 32767, 65535, 131071, 262143, 524287, 1048575, 2097151, 4194303], [2, 3, 7, 12, 16, 20], [0, 0, 0, 1, 2, 2, 2, 2, 2, 2, 2, 2, 3, 4, 4, 4, 4, 5, 5, 5, 5, 6, 6]⟩
        [⟨[0, 1], [], some 2⟩, ⟨[], [], some 3⟩, ⟨[4, 5, 6, 8, 9, 10, 11], [4, 9, 10, 11], some 7⟩, ⟨[], [9, 10, 11], some 12⟩, ⟨[13, 14, 15], [], some 16⟩, ⟨[17, 18, 19], [17], some 20⟩, ⟨[21, 22], [], none⟩] 109 (by kernel_rfl) (by kernel_rfl) (by kernel_rfl) (by kernel_rfl) rfl ?_
      simp only [SeqGo, opsAt_cons, opsAt_nil, List.getElem?_cons, Option.toList_some, List.singleton_append, ↓reduceIte, Nat.reduceEqDiff, Nat.reduceSub]
      go_wp2_with fail
      refine ⟨trivial, ?_⟩
      go_wp2_with (go_at_call 65; refine IM.out.mono ?_; rintro e wi ⟨vi, li, rfl, hoi, hgi, hvi, hbi⟩)
      have hil : li.length = m2.length := by have := congrArg List.length hvi; simpa using this
      have LD := load_any wi _ oy gy none [] vi li (HDY3.out.stay hbi) (FR.of_own hoi (fun f hf => (hgi f hf).good)) (by rw [hil]; have := HLN.out.2; omega) (Nat.le_trans HNS.out hbi.size)
      rw [load_again hvi (fun f hf => (hgi f hf).k.1) HOK2.out HLN.out.1 HLN.out.2] at LD
      have HIi := Lib.hid (HI3.out.stay hbi)
      have LD := Lib.hid LD; have HSI := Lib.hid (Nat.le_trans HNS.out hbi.size)
      clear hoi hgi hvi hbi hil IM
      refine ⟨trivial, ?_⟩
      go_wp2_with (go_at_call 62; refine LD.out.mono ?_; rintro e wl ⟨rfl, oz, hdz, _, htz⟩; have hbx := HIi.out.blk.turns htz (fun h => by have := HOY.out _ h; omega); have hrx := HIi.out.row.turns htz (fun k hk h => by have := HOY.out _ h; have := (HI2.out.lvb k hk).2.2.2; omega) (fun f hf hx k hk h => by have := HOY.out _ h; have := HIi.out.from_ f hf hx k hk; have := HI2.out.sz; omega); have HBX := Lib.hid hbx; have HRX := Lib.hid hrx; have HDZ := Lib.hid hdz; have HBL := Lib.hid (htz.below HIi.out.b HIi.out.sz (fun j hj => Nat.le_trans HI2.out.sz (HOY.out j hj))); have yl : ∀ w', Below wl.heap.size wl w' → w'.cell? ⟨gx, 1, none⟩ = some lv2 := fun w' h => (HBX.out.stay h).at_ 1 rfl; have rfl_ : Below wl.heap.size wl wl := Below.refl _ _; have HSL := Lib.hid (Nat.le_trans HSI.out htz.size); clear hbx hrx hdz htz)
      have IM := Lib.hid (image_any _ _ _ _ _ _ HDZ.out)
      refine ⟨by (simp only [Sames, Same]; go_simp), ?_⟩
      go_wp2_with (go_at_call 65; refine IM.out.mono ?_; rintro e wj ⟨vj, lj, rfl, hoj, hgj, hvj, hbj⟩)
      have SM := Lib.hid (rsame_any wj vj lv2 lj m2 (FR.of_own hoj (fun f hf => (hgj f hf).good)) (HRX.out.stay hbj (Nat.le_refl _)) hvj (fun f hf => (hgj f hf).k.1) (fun f hf => ok_kept (HOK2.out f hf)))
      clear hoj hgj hvj
      refine ⟨by (simp only [Sames, Same]; go_simp), ?_⟩
      go_wp2_with (go_at_call 64; refine SM.out.mono ?_; rintro e wk ⟨rfl, hbk⟩; have hbk2 := bw_next hbj hbk; clear hbk)
      have CR := create_any wk wd2.heap.size oz gy none Pow.none_ (m2.map viewF) ⟨#[97]⟩ (HDZ.out.stay hbk2) ⟨fun k hk => by (cases hk), fun _ => rfl⟩ ⟨Int.le_refl _, by decide⟩ (fun k hk => by cases hk) (by decide)
      rw [show createS Pow.none_ (m2.map viewF) ⟨#[97]⟩ = (8, Pow.none_, m2.map viewF) from by unfold createS; rw [if_pos (by decide)]; rfl] at CR
      have CR := Lib.hid CR
      have HDK := Lib.hid (HDZ.out.stay hbk2)
      have HBK := Lib.hid (bw_then HBL.out hbk2 (Nat.le_trans HI2.out.sz HSL.out)); have HSK := Lib.hid (Nat.le_trans HSL.out hbk2.size)
      refine ⟨trivial, ?_⟩
      go_wp2_with (go_at_call 55; refine CR.out.mono ?_; rintro e wq ⟨rfl, _, _, _, _, htq⟩)
      have HBQ := Lib.hid (htq.below HBK.out (Nat.le_trans HI2.out.sz HSK.out) (fun j hj => hj.elim (fun h => Nat.le_trans HI2.out.sz (HDK.out.dom j h).1) (fun h => by cases h)))
      have HSQ := Lib.hid (Nat.le_trans HSK.out htq.size)
      clear htq
      refine ⟨by (simp only [Sames, Same]; go_simp), ?_⟩
      go_wp2_with (go_at_call 50; refine (awake09_any _).mono ?_; rintro e w' ⟨rfl, hb'⟩)
      refine ⟨trivial, ?_⟩
      go_wp2_with fail
      all_goals go_ret
      refine ⟨rfl, HBW.out.trans (Below.mono ?_ HBW.out.size)⟩
      rw [HGP.out ()]
      exact bw_then HBQ.out hb' (Nat.le_trans HI2.out.sz HSQ.out)

set_option maxRecDepth 100000 in
theorem contract (H : Type) (enc : TypeId × Value → H) (W : World) (base : Nat) (args : Array Value) (ds gs : List (DataW H)) (before : List MemPlace)
    (hval : ∀ (j : Nat) t v, Try.f14.params[j]? = some t → args[j]? = some v → Value.okWide Try.prog W .any base t v)
    (hW : DataW.Whole enc Try.prog Try.f14.params.toList Rows.diskLoadsSpec.vars false W args.toList ds gs before) :
    Calls Try.prog 14 args W fun e W' => ∃ v, e = .returned v ∧ Rows.diskLoadsSpec.post enc Try.prog Try.f14 false true false false W args v W' := by
  have hW' := hW
  obtain ⟨p, q, hA0, hV, rfl, hfz, hnd⟩ := hW
  have hA : DataW.TrodAll enc Try.prog W 0 (fun _ => true) true Try.f14.params.toList args.toList ds p := hA0
  rw [Try.params14] at hA hval
  obtain ⟨v0, vs0, d0, ds0, p0, q0, hargs0, rfl, rfl, h0, r0⟩ := trodAll_cons hA
  obtain ⟨v1, vs1, d1, ds1, p1, q1, hargs1, e1, rfl, h1, r1⟩ := trodAll_cons r0
  subst e1
  obtain ⟨e9, e8, e7⟩ := trodAll_nil r1
  subst e9 e8 e7
  obtain rfl : args = #[v0, v1] := by cases args; simp_all
  obtain ⟨rfl, rfl⟩ := trodVars_none hV
  have hv0 := hval 0 _ v0 rfl rfl
  have hv1 := hval 1 _ v1 rfl rfl
  clear hA0
  obtain ⟨fuel0, hf0⟩ := h0
  obtain ⟨fuel1, hf1⟩ := h1
  rw [one_of_ok Try.underlying105 rfl hv0] at hf0
  obtain ⟨u0, l0, hcs0, hr0⟩ := files_of_trod hf0
  obtain rfl : v0 = u0 := by simpa using hcs0
  rw [one_of_ok Try.underlying105 rfl hv1] at hf1
  obtain ⟨u1, l1, hcs1, hr1⟩ := files_of_trod hf1
  obtain rfl : v1 = u1 := by simpa using hcs1
  refine (walk W v0 v1 l0 l1 hr0 hr1).mono fun e W' ⟨he, hb⟩ => ⟨_, he, ?_⟩
  exact law_post Try.laidOut (by kernel_rfl) (by kernel_rfl) Try.underlying4 rfl rfl rfl rfl hW' hb

set_option maxRecDepth 100000 in
theorem lifted (os : Os) (started : os.Started) (H : Type) (enc : TypeId × Value → H) (F : Stop.Interp) :
    ReturnsInHanded {} Try.checked os 14 .any ((OpenSpec.ofChange Rows.diskLoadsSpec).preRow enc Try.prog Try.f14 Rows.diskLoadsRow.domain false Rows.diskLoadsRow.laid) (((OpenSpec.ofChange Rows.diskLoadsSpec).at F).post enc Try.prog Try.f14 false true false false) := by
  obtain ⟨places, hx⟩ : ∃ places, DataW.whole enc Try.prog ((World.holding Try.prog os ⟨#[], #[], []⟩).forCall (fun _ _ => 0) ⟨#[], #[.slice none 0 0, .slice none 0 0], []⟩).memory Try.f14.params.toList Rows.diskLoadsSpec.vars false #[.slice none 0 0, .slice none 0 0].toList 8 = some ([.nil, .nil], [], places) := ⟨[], by kernel_rfl⟩
  refine returnsInHanded_of_row (C := Try.checked) (s := OpenSpec.ofChange Rows.diskLoadsSpec) Try.own started (by kernel_rfl) Try.func14
    (witness_row_at (enc := enc) (C := Try.checked) false (World.holding Try.prog os ⟨#[], #[], []⟩) #[.slice none 0 0, .slice none 0 0] rfl (by kernel_rfl) (by kernel_rfl) (by kernel_rfl)
      (OpenSpec.preRow_of_cond 8 hx (by kernel_rfl) (fun k hk => by cases hk) (by kernel_rfl) (laid_none _ _))) ?_
  intro W base args ds gs before hval hW _ _ _ _ _ _
  exact contract H enc W base args ds gs before hval hW

theorem proved : Rows.DiskLoadsSaid :=
  OpenClaim.holds_of_cond 14 Try.f14 rfl rfl rfl rfl rfl rfl rfl ⟨rfl, rfl, rfl, rfl, rfl⟩ rfl rfl rfl rfl rfl (by kernel_rfl) Try.func14 (by kernel_rfl)
    (of_decide_eq_true (by kernel_rfl)) (by unfold Func.isWrapper; first | (rw [if_pos (by decide +kernel)]; kernel_rfl) | (rw [if_neg (by decide +kernel)]; exact ⟨rfl, rfl⟩))
    (fun os started H enc _ F => by rw [OpenClaim.pre_eq_preRow]; exact lifted os started H enc F)
end Go.Proofs.Ytlgcnnhlbkidmaa.lawDiskLoads
