/-
  Texts of mine in one: OpenB, CheckB, NewB, BoxAny, ToldB, AwakeB, TabC.
-/
import Derived.Test.YtdgpchacfdlleaaDoorBx4
import Derived.Lib.SlBytesConst
section
/-
  box: an ideal box opens.
-/
namespace Go.Proofs.YtdgpchacfdlleaaDoor
open Go.RowKit

theorem findS_any {w : World} {B g gu : Nat} {own : Nat → Prop} {vs vS vM : Value} {sec : List Int} {ideal : Bool} {st : BoxI} {us : List (Bt × Value)} {es : List EntS} {ms : List EntM} (H : BoxAt w B own g gu vs vS vM sec ideal st us es ms) (v : Value) (hid : List Int)
    (hr : Rd w v (bs hid)) (hB : IsB hid) (hl : hid.length ≤ 1000000) :
    Calls Tryd.prog 56 #[.pointer (some ⟨g, 3, none⟩), v] w fun e w' => Below w.heap.size w w' ∧
      ((findL hid es.length = none ∧ e = .returned (.tuple #[.agg zero9.toArray, .bool false])) ∨ ∃ k x, findL hid es.length = some k ∧ es[k]? = some x ∧ e = .returned (.tuple #[.agg x.cells.toArray, .bool true])) :=
  findS_all w g _ vS B es v hid H.head rfl H.rowS hr hB hl (fun x hx => EntS.one (H.entS x hx).1 (H.entS x hx).2) _ (fun h _ hb => ⟨hb, .inl ⟨h, rfl⟩⟩) fun k x h1 h2 _ hb => ⟨hb, .inr ⟨k, x, h1, h2, rfl⟩⟩
theorem findM_any {w : World} {B g gu : Nat} {own : Nat → Prop} {vs vS vM : Value} {sec : List Int} {ideal : Bool} {st : BoxI} {us : List (Bt × Value)} {es : List EntS} {ms : List EntM} (H : BoxAt w B own g gu vs vS vM sec ideal st us es ms) (v : Value) (hid : List Int)
    (hr : Rd w v (bs hid)) (hB : IsB hid) (hl : hid.length ≤ 1000000) :
    Calls Tryd.prog 60 #[.pointer (some ⟨g, 4, none⟩), v] w fun e w' => Below w.heap.size w w' ∧
      ((findL hid ms.length = none ∧ e = .returned (.tuple #[.agg zero7.toArray, .bool false])) ∨ ∃ k x, findL hid ms.length = some k ∧ ms[k]? = some x ∧ e = .returned (.tuple #[.agg x.cells.toArray, .bool true])) :=
  findM_all w g _ vM B ms v hid H.head rfl H.rowM hr hB hl (fun x hx => EntM.one (H.entM x hx)) _ (fun h _ hb => ⟨hb, .inl ⟨h, rfl⟩⟩) fun k x h1 h2 _ hb => ⟨hb, .inr ⟨k, x, h1, h2, rfl⟩⟩
set_option maxRecDepth 100000 in
set_option maxHeartbeats 4000000 in
theorem open_ideal (w : World) (B g : Nat) (own : Nat → Prop) (sec : List Int) (st : BoxI) (kid : Kid) (n : Int) (va vh : Value) (ad hid : List Int) (h : BoxW w B own g sec true st)
    (hra : Rd w va (bs ad)) (hA : IsB ad) (hrh : Rd w vh (bs hid)) (hI : IsB hid) :
    Calls Tryd.prog 19 #[.pointer (some ⟨g, 0, none⟩), .agg kid.cells.toArray, .int .i64 n, va, vh] w fun e w' => ∃ v, e = .returned (.tuple #[v, .int .i64 (openS st kid n ad hid).1]) ∧ w'.ownsRow w.heap.size 5 1 v (openS st kid n ad hid).2.length (bs (openS st kid n ad hid).2) ∧ Below w.heap.size w w' := by
  obtain ⟨Z, hZ⟩ : ∃ Z, w.heap.size = Z := ⟨_, rfl⟩
  obtain ⟨R, hR⟩ : ∃ R : Ending → World → Prop, (fun e w' => ∃ v, e = .returned (.tuple #[v, .int .i64 (openS st kid n ad hid).1]) ∧ w'.ownsRow w.heap.size 5 1 v (openS st kid n ad hid).2.length (bs (openS st kid n ad hid).2) ∧ Below w.heap.size w w') = R := ⟨_, rfl⟩
  rw [hR]
  have END : ∀ (code : Int) (out : List Int), openS st kid n ad hid = (code, out) → ∀ v w', w'.ownsRow Z 5 1 v out.length (bs out) → Below Z w w' → R (.returned (.tuple #[v, .int .i64 code])) w' := by
    intro code out he v w' ho hb
    rw [← hR, he, hZ]
    exact ⟨v, rfl, ho, hb⟩
  have END0 := fun (code : Int) (he : openS st kid n ad hid = (code, [])) (w' : World) (hb : Below Z w w') => END code [] he (.slice none 0 0) w' (World.ownsRow_nil _ _ _ _) hb
  have END := Lib.hid END
  obtain ⟨gu, vs, vS, vM, us, es, ms, H⟩ := h
  have hdg := H.dom g H.og
  rw [hZ] at hdg
  have ASK := Lib.hid (fun (w' : World) (hb : Below w.heap.size w w') => ask_any w' g _ kid n (H.head.stay hb) rfl)
  obtain ⟨r, hr⟩ : ∃ r, askB kid n = r := ⟨_, rfl⟩
  rw [hr] at ASK
  have e1 : r ≠ 0 → openS st kid n ad hid = (r, []) := fun h0 => by
    have e1 : r = 1 := by have := hr; unfold askB at this; split at this <;> omega
    unfold openS; rw [if_pos (by rw [hr]; exact h0), e1]
  have e2 : r = 0 → hid.length < 16 → openS st kid n ad hid = (4, []) := fun h0 h1 => by
    unfold openS; rw [if_neg (by rw [hr, h0]; decide), if_pos h1]
  have e3 : r = 0 → ¬ hid.length < 16 → (65536 < ad.length ∨ 65552 < hid.length) → openS st kid n ad hid = (5, []) := fun h0 h1 h2 => by
    unfold openS; rw [if_neg (by rw [hr, h0]; decide), if_neg h1, if_pos h2]
  have e4 : r = 0 → ¬ hid.length < 16 → ¬ (65536 < ad.length ∨ 65552 < hid.length) → openS st kid n ad hid = match (findL hid st.seals.length).bind (fun k => st.seals[k]?) with
    | none => (6, [])
    | some x => if x.id = kid ∧ x.n = n ∧ x.ad = ad ∧ hid.length = x.text.length + 16 then (0, x.text) else (6, []) := fun h0 h1 h2 => by
    unfold openS; rw [if_neg (by rw [hr, h0]; decide), if_neg h1, if_neg h2]; rfl
  have E1 := Lib.hid (fun h w' hb => END0 _ (e1 h) w' hb)
  have E2 := Lib.hid (fun h h' w' hb => END0 _ (e2 h h') w' hb)
  have E3 := Lib.hid (fun h h' h2 w' hb => END0 _ (e3 h h' h2) w' hb)
  have E4 := Lib.hid e4
  clear e1 e2 e3 e4 hr hR END0
  obtain ⟨Aa, ca, rfl, hca, _⟩ := id hra
  obtain ⟨Ah, ch, rfl, hch, _⟩ := id hrh
  simp only [bs_len] at hra hrh hca hch ⊢
  obtain ⟨la, hla⟩ : ∃ l, ad.length = l := ⟨_, rfl⟩
  obtain ⟨lh, hlh⟩ : ∃ l, hid.length = l := ⟨_, rfl⟩
  rw [hla] at hra hca E3 E4 ⊢
  rw [hlh] at hrh hch E2 E3 E4 ⊢
  have HRA := Lib.hid hra; have HRH := Lib.hid hrh; have HLA := Lib.hid (fun _ : Unit => hla); have HLH := Lib.hid (fun _ : Unit => hlh)
  have HA := Lib.hid hA; have HI := Lib.hid hI; have HH := Lib.hid H
  clear hra hrh hla hlh hA hI
  obtain ⟨ia, ib, ic, id_, ie, if_⟩ := kid
  simp only [Kid.cells] at ASK ⊢
  go_enter Tryd.func19, Tryd.ntmps19
  go_upto_region 1 with fail
  obtain ⟨W, hW⟩ : ∃ W, w.alloc (.cells #[.int .i64 ia, .int .i64 ib, .int .i64 ic, .int .i64 id_, .int .i64 ie, .int .i64 if_] 23) = W := ⟨_, rfl⟩
  change Code.wp _ _ _ _ (w.alloc (.cells #[.int .i64 ia, .int .i64 ib, .int .i64 ic, .int .i64 id_, .int .i64 ie, .int .i64 if_] 23))
  have b0 : Blk W Z [.int .i64 ia, .int .i64 ib, .int .i64 ic, .int .i64 id_, .int .i64 ie, .int .i64 if_] 23 := by rw [← hW]; exact Blk.mk_ _ hZ.symm rfl
  have bb : Below Z w W := by rw [← hW]; exact bw_al (Below.refl _ _) (by omega) _
  have hz : W.heap.size = Z + 1 := by rw [← hW]; simp [hZ]
  rw [hW]
  clear hW
  have AW := Lib.hid (ASK.out W (by rw [hZ]; exact bb))
  clear H
  go_upto_region 2 with (first
    | (refine wp_load_blk rfl 23 (.tmp 6) rfl rfl b0 Tryd.underlying23 rfl (n := 6) (by kernel_rfl) rfl ?_)
    | (go_at_call 53; refine AW.out.mono ?_; rintro e w1 ⟨rfl, hb1⟩))
  have bb1 : Below Z w w1 := bw_then bb hb1 (by omega)
  have hz1 := hb1.size
  have k1 := b0.stay hb1
  have HB1 := Lib.hid bb1; have KK1 := Lib.hid k1
  clear bb bb1 k1 b0 hb1 AW ASK
  by_cases hr0 : r ≠ 0
  · go_wp2_with fail
    all_goals (try go_ret2)
    exact E1.out hr0 _ HB1.out
  obtain rfl : r = 0 := by omega
  clear hr0
  have H1 := HH.out.stay (by rw [hZ]; exact HB1.out)
  have y1 := H1.head.at_ 1 rfl
  have y3 := H1.head.at_ 3 rfl
  have HH1 := Lib.hid H1
  clear H1
  by_cases h16 : lh < 16
  · go_wp2_with fail
    all_goals (try go_ret2)
    exact E2.out trivial h16 _ HB1.out
  by_cases hl1 : 65536 < la
  · go_wp2_with fail
    all_goals (try go_ret2)
    exact E3.out trivial h16 (.inl hl1) _ HB1.out
  by_cases hl2 : 65552 < lh
  · go_wp2_with fail
    all_goals (try go_ret2)
    exact E3.out trivial h16 (.inr hl2) _ HB1.out
  have hopen := E4.out rfl h16 (by omega)
  have HO := Lib.hid hopen
  clear hopen
  have esl : es.length = st.seals.length := by rw [← HH.out.seals, List.length_map]
  have FS := findS_any HH1.out (.slice Ah lh ch) hid (HRH.out.stay HB1.out (by omega)) HI.out (by rw [HLH.out ()]; omega)
  rw [esl] at FS
  have FS := Lib.hid FS
  clear esl
  go_upto_region 12 with (first
    | (go_at_call 56; refine FS.out.mono ?_; rintro e w2 ⟨hb2, h2⟩; have H2 := Lib.hid h2; obtain ⟨cs9, bo, hcs9, hb9, rfl⟩ : ∃ (cs : List Value) (b : Bool), cs.length = 9 ∧ (∀ y ∈ cs, y.oneCell' = true) ∧ e = .returned (.tuple #[.agg cs.toArray, .bool b]) := (by
        rcases h2 with ⟨_, rfl⟩ | ⟨k, x, _, hx, rfl⟩
        · exact ⟨zero9, false, rfl, by intro y hy; simp [zero9] at hy; rcases hy with rfl | rfl <;> rfl, rfl⟩
        · exact ⟨x.cells, true, rfl, EntS.one (HH.out.entS x (List.mem_of_getElem? hx)).1 (HH.out.entS x (List.mem_of_getElem? hx)).2, rfl⟩); clear h2)
    | (refine wp_store_blk rfl 130 (.tmp 15) (.tmp 62) rfl rfl rfl (cs' := cs9) (Blk.mk_ (cs := zero9) _ rfl rfl) hb9 hcs9 (n := 9) (by kernel_rfl) hcs9 ?_; intro w3 b3 on3))
  have hb3 : Below Z w w3 := on3.below (bw_al (bw_then HB1.out hb2 (by omega)) (by have := hb2.size; omega) _) (by have := hb2.size; omega)
  have hz3 : w2.heap.size < w3.heap.size := by rw [on3.size]; simp
  have hB3 := Lib.hid hb3
  have k3 := KK1.out.stay (show Below w1.heap.size w1 w3 from on3.below (bw_al hb2 hb2.size _) hb2.size)
  have KK3 := Lib.hid k3
  have rt3 : ∀ v xs, EntOk w1 own v xs → Rd w3 v (bs xs) := fun v xs he => he.rd.stay (show Below w1.heap.size w1 w3 from on3.below (bw_al hb2 hb2.size _) hb2.size) (Nat.le_refl _)
  have RT3 := Lib.hid rt3
  have ENT := Lib.hid HH1.out.entS
  have SEA := Lib.hid HH.out.seals
  obtain ⟨q, hq⟩ : ∃ q, w2.heap.size = q := ⟨_, rfl⟩
  rw [hq] at b3 hz3 ⊢
  have B3 := Lib.hid b3
  have hqZ : Z ≤ q := by have := hb2.size; omega
  clear hb3 k3 rt3 on3 hb2 hq b3 y1 y3
  rcases H2.out with ⟨hn, he⟩ | ⟨k, x, hfk, hx, he⟩
  · injection he with he
    injection he with he
    have ho := HO.out
    rw [hn] at ho
    obtain ⟨hc1, hc2⟩ : cs9 = zero9 ∧ bo = false := by simpa using he
    subst hc1 hc2
    have HN := Lib.hid ho
    clear he hn ho
    go_wp2_with fail
    all_goals (try go_ret2)
    exact END.out 6 [] HN.out _ _ (World.ownsRow_nil _ _ _ _) hB3.out
  · injection he with he
    injection he with he
    have ho := HO.out
    have hx' : st.seals[k]? = some x.x := by rw [← SEA.out, List.getElem?_map, hx]; rfl
    rw [hfk, Option.bind_some, hx'] at ho
    simp only at ho
    obtain ⟨hc1, hc2⟩ : cs9 = x.cells ∧ bo = true := by simpa using he
    subst hc1 hc2
    have hent := ENT.out x (List.mem_of_getElem? hx)
    obtain ⟨⟨⟨ja, jb, jc, jd, je, jf⟩, jn, jad, jtext⟩, ja9, jt9⟩ := x
    simp only at ho hent
    have hra := RT3.out _ _ hent.1
    have hrt := RT3.out _ _ hent.2
    obtain ⟨Aj, cj, rfl, hcj, _⟩ := id hra
    obtain ⟨At, ct, rfl, hct, _⟩ := id hrt
    simp only [bs_len] at hra hrt hcj hct
    have HE := Lib.hid hent
    have HO2 := Lib.hid ho
    have HRAJ := Lib.hid hra; have HRTJ := Lib.hid hrt
    have b3 : Blk w3 q [.int .i64 ja, .int .i64 jb, .int .i64 jc, .int .i64 jd, .int .i64 je, .int .i64 jf, .int .i64 jn, .slice Aj jad.length cj, .slice At jtext.length ct] 130 := by
      have := B3.out
      simpa [EntS.cells, Kid.cells, bs_len] using this
    have c0 := b3.at_ 0 rfl
    have c1 := b3.at_ 1 rfl
    have c2 := b3.at_ 2 rfl
    have c3 := b3.at_ 3 rfl
    have c4 := b3.at_ 4 rfl
    have c5 := b3.at_ 5 rfl
    have c6 := b3.at_ 6 rfl
    have c7 := b3.at_ 7 rfl
    have c8 := b3.at_ 8 rfl
    have d0 := KK3.out.at_ 0 rfl
    have d1 := KK3.out.at_ 1 rfl
    have d2 := KK3.out.at_ 2 rfl
    have d3 := KK3.out.at_ 3 rfl
    have d4 := KK3.out.at_ 4 rfl
    have d5 := KK3.out.at_ 5 rfl
    clear he hent ho hra hrt hx hx' hfk hb9 hcs9 b3 FS
    obtain ⟨jal, hjal⟩ : ∃ l, jad.length = l := ⟨_, rfl⟩
    obtain ⟨jtl, hjtl⟩ : ∃ l, jtext.length = l := ⟨_, rfl⟩
    rw [hjal] at c7 HRAJ
    rw [hjtl] at c8 HRTJ HO2 hct
    have HJT := Lib.hid (fun _ : Unit => hjtl)
    clear hjal hjtl
    by_cases hE : (⟨ja, jb, jc, jd, je, jf⟩ : Kid) = ⟨ia, ib, ic, id_, ie, if_⟩ ∧ jn = n
    · obtain ⟨h1, rfl⟩ := hE
      injection h1 with h1 h2 h3 h4 h5 h6
      subst h1 h2 h3 h4 h5 h6
      have EQ := Lib.hid (equal_any _ _ jad ad w3 HRAJ.out (HRA.out.stay hB3.out (by omega)) HE.out.1.isB HA.out)
      obtain ⟨be, hbe⟩ : ∃ be, eqB jad ad = be := ⟨_, rfl⟩
      rw [hbe] at EQ
      have hbe' : be = true ↔ jad = ad := by rw [← hbe, eqB, beq_iff_eq]
      have HBE := Lib.hid hbe'
      clear hbe hbe' HH HH1 ENT SEA H2 B3 RT3
      cases be with
      | false =>
        have HN := Lib.hid (show openS st ⟨ja, jb, jc, jd, je, jf⟩ jn ad hid = (6, []) by rw [HO2.out, if_neg (fun hh => by have := HBE.out.2 hh.2.2.1; cases this)])
        go_wp2_with (go_at_call 20; refine EQ.out.mono ?_; rintro e w4 ⟨rfl, rfl⟩)
        all_goals (try go_ret2)
        all_goals exact END.out 6 [] HN.out _ _ (World.ownsRow_nil _ _ _ _) hB3.out
      | true =>
        have hja := HBE.out.1 rfl
        by_cases hln : lh = jtl + 16
        · have HY := Lib.hid (show openS st ⟨ja, jb, jc, jd, je, jf⟩ jn ad hid = (0, jtext) by rw [HO2.out, if_pos ⟨rfl, rfl, hja, hln⟩])
          have CL := Lib.hid (clone_any _ jtext w3 HRTJ.out (by rw [HJT.out ()]; omega))
          clear hja
          go_wp2_with (first
            | (go_at_call 20; refine EQ.out.mono ?_; rintro e w4 ⟨rfl, rfl⟩)
            | (go_at_call 52; refine CL.out.mono ?_; rintro e w5 ⟨v, rfl, hb5, ho5⟩))
          all_goals (try go_ret2)
          exact END.out 0 jtext HY.out _ _ (ownsRow_mono ho5 (by omega)) (bw_then hB3.out hb5 (by omega))
        · have HN := Lib.hid (show openS st ⟨ja, jb, jc, jd, je, jf⟩ jn ad hid = (6, []) by rw [HO2.out, if_neg (fun hh => hln hh.2.2.2)])
          have hjm : jtl ≤ 9223372036854775807 := by have := HRTJ.out.len; rw [bs_len, HJT.out ()] at this; exact this
          have hlI : ¬ ((lh : Int) = IntKind.i64.wrap ((jtl : Int) + 16)) := by rw [IntKind.wrap_i64]; omega
          have hwj : ∃ z, IntKind.i64.wrap ((jtl : Int) + 16) = z := ⟨_, rfl⟩
          obtain ⟨z, hz9⟩ := hwj
          rw [hz9] at hlI
          clear hja
          go_wp2_with (go_at_call 20; refine EQ.out.mono ?_; rintro e w4 ⟨rfl, rfl⟩)
          all_goals (try go_ret2)
          all_goals first | exact END.out 6 [] HN.out _ _ (World.ownsRow_nil _ _ _ _) hB3.out | (exfalso; omega)
    · have HN := Lib.hid (show openS st ⟨ia, ib, ic, id_, ie, if_⟩ n ad hid = (6, []) by rw [HO2.out, if_neg (fun hh => hE ⟨hh.1, hh.2.1⟩)])
      clear HO2 HH HH1 ENT SEA H2 B3 RT3 E1 E2 E3 E4 HO HE
      go_wp2_with fail
      all_goals (try go_ret2)
      all_goals first | exact END.out 6 [] HN.out _ _ (World.ownsRow_nil _ _ _ _) hB3.out | (exfalso; simp_all)
end Go.Proofs.YtdgpchacfdlleaaDoor
end

section
/-
  box: an ideal box checks a mark.
-/
namespace Go.Proofs.YtdgpchacfdlleaaDoor
open Go.RowKit

set_option maxRecDepth 100000 in
set_option maxHeartbeats 4000000 in
theorem check_ideal (w : World) (B g : Nat) (own : Nat → Prop) (sec : List Int) (st : BoxI) (kid : Kid) (vt vm : Value) (text mark : List Int) (h : BoxW w B own g sec true st)
    (hrt : Rd w vt (bs text)) (hT : IsB text) (hrm : Rd w vm (bs mark)) (hM : IsB mark) :
    Calls Tryd.prog 24 #[.pointer (some ⟨g, 0, none⟩), .agg kid.cells.toArray, vt, vm] w fun e w' => e = .returned (.bool (checkS st kid text mark)) ∧ Below w.heap.size w w' := by
  obtain ⟨Z, hZ⟩ : ∃ Z, w.heap.size = Z := ⟨_, rfl⟩
  obtain ⟨R, hR⟩ : ∃ R : Ending → World → Prop, (fun e w' => e = .returned (.bool (checkS st kid text mark)) ∧ Below w.heap.size w w') = R := ⟨_, rfl⟩
  rw [hR]
  have END : ∀ (b : Bool), checkS st kid text mark = b → ∀ w', Below Z w w' → R (.returned (.bool b)) w' := by
    intro b he w' hb
    rw [← hR, he, hZ]
    exact ⟨rfl, hb⟩
  have END := Lib.hid END
  obtain ⟨gu, vs, vS, vM, us, es, ms, H⟩ := h
  have hdg := H.dom g H.og
  rw [hZ] at hdg
  have ASK := Lib.hid (fun (w' : World) (hb : Below w.heap.size w w') => ask_any w' g _ kid 0 (H.head.stay hb) rfl)
  obtain ⟨r, hr⟩ : ∃ r, askB kid 0 = r := ⟨_, rfl⟩
  rw [hr] at ASK
  have e1 : (r ≠ 0 ∨ mark.length ≠ 32) → checkS st kid text mark = false := fun h0 => by
    unfold checkS; rw [if_pos (by rw [hr]; exact h0)]
  have e4 : r = 0 → mark.length = 32 → checkS st kid text mark = match (findL mark st.marks.length).bind (fun k => st.marks[k]?) with
    | none => false
    | some x => decide (x.id = kid) && decide (x.text = text) := fun h0 h1 => by
    unfold checkS; rw [if_neg (by rw [hr]; omega)]; rfl
  have E1 := Lib.hid (fun h w' hb => END.out _ (e1 h) w' hb)
  have E4 := Lib.hid e4
  clear e1 e4 hr hR
  obtain ⟨At, ct, rfl, hct, _⟩ := id hrt
  obtain ⟨Am, cm, rfl, hcm, _⟩ := id hrm
  simp only [bs_len] at hrt hrm hct hcm ⊢
  obtain ⟨lt, hlt⟩ : ∃ l, text.length = l := ⟨_, rfl⟩
  obtain ⟨lm, hlm⟩ : ∃ l, mark.length = l := ⟨_, rfl⟩
  rw [hlt] at hrt hct ⊢
  rw [hlm] at hrm hcm E1 E4 ⊢
  have HRT := Lib.hid hrt; have HRM := Lib.hid hrm; have HLT := Lib.hid (fun _ : Unit => hlt); have HLM := Lib.hid (fun _ : Unit => hlm)
  have HT := Lib.hid hT; have HM := Lib.hid hM; have HH := Lib.hid H
  clear hrt hrm hlt hlm hT hM
  obtain ⟨ia, ib, ic, id_, ie, if_⟩ := kid
  simp only [Kid.cells] at ASK ⊢
  go_enter Tryd.func24, Tryd.ntmps24
  go_upto_region 1 with fail
  obtain ⟨W, hW⟩ : ∃ W, w.alloc (.cells #[.int .i64 ia, .int .i64 ib, .int .i64 ic, .int .i64 id_, .int .i64 ie, .int .i64 if_] 23) = W := ⟨_, rfl⟩
  change Code.wp _ _ _ _ (w.alloc (.cells #[.int .i64 ia, .int .i64 ib, .int .i64 ic, .int .i64 id_, .int .i64 ie, .int .i64 if_] 23))
  have b0 : Blk W Z [.int .i64 ia, .int .i64 ib, .int .i64 ic, .int .i64 id_, .int .i64 ie, .int .i64 if_] 23 := by rw [← hW]; exact Blk.mk_ _ hZ.symm rfl
  have bb : Below Z w W := by rw [← hW]; exact bw_al (Below.refl _ _) (by omega) _
  have hz : W.heap.size = Z + 1 := by rw [← hW]; simp [hZ]
  rw [hW]
  clear hW
  have AW := Lib.hid (ASK.out W (by rw [hZ]; exact bb))
  have HB0 := Lib.hid b0; have HBB := Lib.hid bb
  clear H b0 bb ASK
  by_cases hr0 : r ≠ 0
  · go_wp2_with (first
      | (refine wp_load_blk rfl 23 (.tmp 5) rfl rfl HB0.out Tryd.underlying23 rfl (n := 6) (by kernel_rfl) rfl ?_)
      | (go_at_call 53; refine AW.out.mono ?_; rintro e w1 ⟨rfl, hb1⟩))
    all_goals (try go_ret)
    exact E1.out (.inl hr0) _ (bw_then HBB.out hb1 (by omega))
  obtain rfl : r = 0 := by omega
  clear hr0
  by_cases h32 : lm ≠ 32
  · have hI : ¬ ((lm : Int) = 32) := by omega
    go_wp2_with (first
      | (refine wp_load_blk rfl 23 (.tmp 5) rfl rfl HB0.out Tryd.underlying23 rfl (n := 6) (by kernel_rfl) rfl ?_)
      | (go_at_call 53; refine AW.out.mono ?_; rintro e w1 ⟨rfl, hb1⟩))
    all_goals (try go_ret)
    exact E1.out (.inr h32) _ (bw_then HBB.out hb1 (by omega))
  obtain rfl : lm = 32 := by omega
  clear h32
  have HO := Lib.hid (E4.out rfl rfl)
  have esl : ms.length = st.marks.length := by rw [← HH.out.marks, List.length_map]
  go_upto_region 3 with (first
    | (refine wp_load_blk rfl 23 (.tmp 5) rfl rfl HB0.out Tryd.underlying23 rfl (n := 6) (by kernel_rfl) rfl ?_)
    | (go_at_call 53; refine AW.out.mono ?_; rintro e w1 ⟨rfl, hb1⟩))
  have bb1 : Below Z w w1 := bw_then HBB.out hb1 (by omega)
  have hz1 := hb1.size
  have k1 := HB0.out.stay hb1
  have HB1 := Lib.hid bb1; have KK1 := Lib.hid k1
  have H1 := HH.out.stay (by rw [hZ]; exact bb1)
  have y1 := H1.head.at_ 1 rfl
  have FS := findM_any H1 (.slice Am 32 cm) mark (HRM.out.stay bb1 (by omega)) HM.out (by rw [HLM.out ()]; omega)
  rw [esl] at FS
  have FS := Lib.hid FS
  have HH1 := Lib.hid H1
  clear H1 bb1 k1 hb1 AW E1 E4 esl
  go_upto_region 5 with (first
    | (go_at_call 60; refine FS.out.mono ?_; rintro e w2 ⟨hb2, h2⟩; have H2 := Lib.hid h2; obtain ⟨cs9, bo, hcs9, hb9, rfl⟩ : ∃ (cs : List Value) (b : Bool), cs.length = 7 ∧ (∀ y ∈ cs, y.oneCell' = true) ∧ e = .returned (.tuple #[.agg cs.toArray, .bool b]) := (by
        rcases h2 with ⟨_, rfl⟩ | ⟨k, x, _, hx, rfl⟩
        · exact ⟨zero7, false, rfl, by intro y hy; simp [zero7] at hy; rcases hy with rfl | rfl <;> rfl, rfl⟩
        · exact ⟨x.cells, true, rfl, EntM.one (HH.out.entM x (List.mem_of_getElem? hx)), rfl⟩); clear h2)
    | (refine wp_store_blk rfl 136 (.tmp 9) (.tmp 32) rfl rfl rfl (cs' := cs9) (Blk.mk_ (cs := zero7) _ rfl rfl) hb9 hcs9 (n := 7) (by kernel_rfl) hcs9 ?_; intro w3 b3 on3))
  have hb3 : Below Z w w3 := on3.below (bw_al (bw_then HB1.out hb2 (by omega)) (by have := hb2.size; omega) _) (by have := hb2.size; omega)
  have hz3 : w2.heap.size < w3.heap.size := by rw [on3.size]; simp
  have hB3 := Lib.hid hb3
  have l13 : Below w1.heap.size w1 w3 := on3.below (bw_al hb2 hb2.size _) hb2.size
  have k3 := KK1.out.stay l13
  have KK3 := Lib.hid k3
  have rt3 : ∀ v xs, EntOk w1 own v xs → Rd w3 v (bs xs) := fun v xs he => he.rd.stay l13 (Nat.le_refl _)
  have RT3 := Lib.hid rt3
  have ENT := Lib.hid HH1.out.entM
  have SEA := Lib.hid HH.out.marks
  obtain ⟨q, hq⟩ : ∃ q, w2.heap.size = q := ⟨_, rfl⟩
  rw [hq] at b3 hz3 ⊢
  have B3 := Lib.hid b3
  have hqZ : Z ≤ q := by have := hb2.size; omega
  clear hb3 k3 rt3 on3 hb2 hq b3 y1 l13
  rcases H2.out with ⟨hn, he⟩ | ⟨k, x, hfk, hx, he⟩
  · injection he with he
    injection he with he
    have ho := HO.out
    rw [hn] at ho
    obtain ⟨hc1, hc2⟩ : cs9 = zero7 ∧ bo = false := by simpa using he
    subst hc1 hc2
    have HN := Lib.hid ho
    clear he hn ho
    go_wp2_with fail
    all_goals (try go_ret)
    exact END.out _ HN.out _ hB3.out
  · injection he with he
    injection he with he
    have ho := HO.out
    have hx' : st.marks[k]? = some x.x := by rw [← SEA.out, List.getElem?_map, hx]; rfl
    rw [hfk, Option.bind_some, hx'] at ho
    simp only at ho
    obtain ⟨hc1, hc2⟩ : cs9 = x.cells ∧ bo = true := by simpa using he
    subst hc1 hc2
    have hent := ENT.out x (List.mem_of_getElem? hx)
    obtain ⟨⟨⟨ja, jb, jc, jd, je, jf⟩, jtext⟩, jt9⟩ := x
    simp only at ho hent
    have hrt := RT3.out _ _ hent
    obtain ⟨At9, ct9, rfl, hct9, _⟩ := id hrt
    simp only [bs_len] at hrt hct9
    have HE := Lib.hid hent
    have HO2 := Lib.hid ho
    have HRTJ := Lib.hid hrt
    have b3 : Blk w3 q [.int .i64 ja, .int .i64 jb, .int .i64 jc, .int .i64 jd, .int .i64 je, .int .i64 jf, .slice At9 jtext.length ct9] 136 := by
      have := B3.out
      simpa [EntM.cells, Kid.cells, bs_len] using this
    have c0 := b3.at_ 0 rfl
    have c1 := b3.at_ 1 rfl
    have c2 := b3.at_ 2 rfl
    have c3 := b3.at_ 3 rfl
    have c4 := b3.at_ 4 rfl
    have c5 := b3.at_ 5 rfl
    have c6 := b3.at_ 6 rfl
    have d0 := KK3.out.at_ 0 rfl
    have d1 := KK3.out.at_ 1 rfl
    have d2 := KK3.out.at_ 2 rfl
    have d3 := KK3.out.at_ 3 rfl
    have d4 := KK3.out.at_ 4 rfl
    have d5 := KK3.out.at_ 5 rfl
    clear he hent ho hrt hx hx' hfk hb9 hcs9 b3 FS
    obtain ⟨jtl, hjtl⟩ : ∃ l, jtext.length = l := ⟨_, rfl⟩
    rw [hjtl] at c6 HRTJ hct9
    clear hjtl
    by_cases hE : (⟨ja, jb, jc, jd, je, jf⟩ : Kid) = ⟨ia, ib, ic, id_, ie, if_⟩
    · have hE0 := hE
      injection hE with h1 h2 h3 h4 h5 h6
      subst h1 h2 h3 h4 h5 h6
      have EQ := Lib.hid (equal_any _ _ jtext text w3 HRTJ.out (HRT.out.stay hB3.out (by omega)) HE.out.isB HT.out)
      have HN := Lib.hid (show checkS st ⟨ja, jb, jc, jd, je, jf⟩ text mark = eqB jtext text by
        rw [HO2.out, decide_eq_true rfl, Bool.true_and, eqB]
        by_cases hh : jtext = text
        · simp [hh]
        · simp [hh])
      obtain ⟨be, hbe⟩ : ∃ be, eqB jtext text = be := ⟨_, rfl⟩
      rw [hbe] at EQ HN
      clear hbe HH HH1 ENT SEA H2 B3 RT3 hE0 HO HO2
      go_wp2_with (go_at_call 20; refine EQ.out.mono ?_; rintro e w4 ⟨rfl, rfl⟩)
      all_goals (try go_ret)
      all_goals exact END.out _ HN.out _ hB3.out
    · have HN := Lib.hid (show checkS st ⟨ia, ib, ic, id_, ie, if_⟩ text mark = false by rw [HO2.out, decide_eq_false hE, Bool.false_and])
      clear HO2 HH HH1 ENT SEA H2 B3 RT3 HO HE
      go_wp2_with fail
      all_goals (try go_ret)
      all_goals first | exact END.out _ HN.out _ hB3.out | (exfalso; simp_all)
end Go.Proofs.YtdgpchacfdlleaaDoor
end

section
/-
  box: a new one; how much was sealed.
-/
namespace Go.Proofs.YtdgpchacfdlleaaDoor
open Go.RowKit

theorem no_hold (b : Nat) : ¬ hold (.slice none 0 0) b := by rintro ⟨o, n, c, h⟩; cases h
set_option maxRecDepth 100000 in
theorem newbox_any (w : World) (v : Value) (sec : List Int) (ideal : Bool) (hr : Rd w v (bs sec)) (hB : IsB sec) (hl : sec.length ≤ 70368744177664) :
    Calls Tryd.prog 17 #[v, .bool ideal] w fun e w' => ∃ g own, e = .returned (.pointer (some ⟨g, 0, none⟩)) ∧ BoxW w' w.heap.size own g sec ideal BoxI.new ∧ Below w.heap.size w w' := by
  have CL := Lib.hid (clone_any v sec w hr (by omega))
  have HB := Lib.hid hB
  clear hr hB
  have hmm := @run_makeMap Tryd.prog
  go_enter Tryd.func17, Tryd.ntmps17
  go_wp2_with (go_at_call 52; refine CL.out.mono ?_; rintro e w1 ⟨v1, rfl, hb1, ho1⟩; obtain ⟨A1, c1, rfl⟩ := row_slice ho1)
  all_goals go_ret
  have hz := hb1.size
  have e1 : Below w1.heap.size w1 ((w1.alloc (.map #[] 0)).alloc (.cells #[.slice A1 sec.length c1, .bool ideal, .bool true, .slice none 0 0, .slice none 0 0, .map (some w1.heap.size), .int .i64 0, .int .i64 0] 59)) := bw_al (bw_al (Below.refl _ _) (Nat.le_refl _) _) (by simp) _
  have hlt : ∀ b, hold (.slice A1 sec.length c1) b → w.heap.size ≤ b ∧ b < w1.heap.size := fun b h => row_new ho1 h
  refine ⟨w1.heap.size + 1, fun b => b = w1.heap.size ∨ b = w1.heap.size + 1 ∨ hold (.slice A1 sec.length c1) b, by simp, ⟨w1.heap.size, .slice A1 sec.length c1, .slice none 0 0, .slice none 0 0, [], [], [], ?_⟩, bw_then hb1 e1 hz⟩
  refine ⟨Blk.mk_ _ (by simp) rfl, World.ownsRow_nil _ _ _ _, World.ownsRow_nil _ _ _ _, (KMap.made _ w1).stay (bw_al (Below.refl _ _) (Nat.le_refl _) _), Uses.nil, rfl, rfl, ?_, (fun _ h => nomatch h), (fun _ h => nomatch h), .inr (.inl rfl), .inl rfl, fun b hb => absurd hb (no_hold b), fun b hb => absurd hb (no_hold b), by omega, fun b hb => ?_⟩
  · exact (EntOk.of_own (own := fun b => b = w1.heap.size ∨ b = w1.heap.size + 1 ∨ hold (.slice A1 sec.length c1) b) ho1 HB.out fun b hb => .inr (.inr hb)).moves (S := fun _ => False) (Turns.of_below e1) (fun _ _ h => h) (fun _ _ h => h)
  · simp only [World.size_alloc]
    rcases hb with rfl | rfl | hb
    · omega
    · omega
    · have := hlt b hb; omega
theorem sealed_any {w : World} {B g : Nat} {own : Nat → Prop} {sec : List Int} {ideal : Bool} {st : BoxI} (h : BoxW w B own g sec ideal st) :
    Calls Tryd.prog 29 #[.pointer (some ⟨g, 0, none⟩)] w fun e w' => e = .returned (.int .i64 st.uses.length) ∧ w = w' := by
  obtain ⟨gu, vs, vS, vM, us, es, ms, H⟩ := h
  have y6 := H.head.at_ 6 rfl
  clear H
  go_enter Tryd.func29, Tryd.ntmps29
  go_wp2_with fail
  all_goals go_ret
  exact ⟨rfl, rfl⟩
theorem repeats_any {w : World} {B g : Nat} {own : Nat → Prop} {sec : List Int} {ideal : Bool} {st : BoxI} (h : BoxW w B own g sec ideal st) :
    Calls Tryd.prog 30 #[.pointer (some ⟨g, 0, none⟩)] w fun e w' => e = .returned (.int .i64 (reps st.uses)) ∧ w = w' := by
  obtain ⟨gu, vs, vS, vM, us, es, ms, H⟩ := h
  have y7 := H.head.at_ 7 rfl
  clear H
  go_enter Tryd.func30, Tryd.ntmps30
  go_wp2_with fail
  all_goals go_ret
  exact ⟨rfl, rfl⟩
end Go.Proofs.YtdgpchacfdlleaaDoor
end

section
/-
  The box of either kind: its calls, in one form each.
-/
namespace Go.Proofs.YtdgpchacfdlleaaDoor
open Go.RowKit

/-- Which real boxes are covered. -/
def RealOK (_R : RealF) : Prop := False
def Kind (R : RealF) (ideal : Bool) : Prop := ideal = true ∨ RealOK R
theorem Kind.ideal (R : RealF) : Kind R true := .inl rfl
/-- A box, and where it may lie: above all that was there at first. -/
structure BoxUp (w0 w : World) (own : Nat → Prop) (g : Nat) (sec : List Int) (ideal : Bool) (st : BoxI) : Prop where
  box : BoxW w w0.heap.size own g sec ideal st
  low : Below w0.heap.size w0 w
section
variable {w0 w w' : World} {own : Nat → Prop} {g : Nat} {sec : List Int} {ideal : Bool} {st : BoxI}
theorem BoxUp.stay (h : BoxUp w0 w own g sec ideal st) (k : Below w.heap.size w w') : BoxUp w0 w' own g sec ideal st := ⟨h.box.stay k, bw_then h.low k h.low.size⟩
theorem BoxUp.turns {S : Nat → Prop} (h : BoxUp w0 w own g sec ideal st) (k : Turns S w w') (hn : ∀ b, own b → ¬ S b) (hs : ∀ b, S b → w0.heap.size ≤ b) : BoxUp w0 w' own g sec ideal st :=
  ⟨h.box.turns k hn, Turns.below h.low k h.low.size hs⟩
theorem BoxUp.fresh (h : BoxUp w0 w own g sec ideal st) {b : Nat} (hb : w.heap.size ≤ b) : ¬ own b := fun ho => by have := h.box.dom b ho; omega
theorem BoxUp.old (h : BoxUp w0 w own g sec ideal st) {b : Nat} (hb : b < w0.heap.size) : ¬ own b := fun ho => by have := h.box.dom b ho; omega
theorem BoxAt.mono {B B' gu : Nat} {vs vS vM : Value} {us : List (Bt × Value)} {es : List EntS} {ms : List EntM} (h : BoxAt w B own g gu vs vS vM sec ideal st us es ms) (hB : B' ≤ B) : BoxAt w B' own g gu vs vS vM sec ideal st us es ms :=
  ⟨h.head, ownsRow_mono h.rowS hB, ownsRow_mono h.rowM hB, h.map, h.uses, h.seals, h.marks, h.sec, h.entS, h.entM, h.og, h.ogu, h.oS, h.oM, h.ne, fun b hb => ⟨Nat.le_trans hB (h.dom b hb).1, (h.dom b hb).2⟩⟩
theorem BoxW.mono {B B' : Nat} (h : BoxW w B own g sec ideal st) (hB : B' ≤ B) : BoxW w B' own g sec ideal st := by
  obtain ⟨gu, vs, vS, vM, us, es, ms, h⟩ := h
  exact ⟨gu, vs, vS, vM, us, es, ms, h.mono hB⟩
end
/-- What a call that turns a box comes to. -/
def ResU (w0 w : World) (own : Nat → Prop) (g : Nat) (sec : List Int) (ideal : Bool) (out : List Int) (code : Int) (st' : BoxI) (e : Ending) (w' : World) : Prop :=
  ∃ v own', e = .returned (.tuple #[v, .int .i64 code]) ∧ Rd w' v (bs out) ∧ (∀ b, hold v b → w.heap.size ≤ b ∧ b < w'.heap.size ∧ ¬ own' b) ∧ BoxUp w0 w' own' g sec ideal st' ∧ (∀ b, b < w.heap.size → (own' b ↔ own b)) ∧ Turns own w w' ∧ IsB out ∧ ∀ b, hold v b → ∃ cur, w'.heap[b]? = some (.cells cur 5 (0, 0))
theorem ResU.of {w0 w w' : World} {own : Nat → Prop} {g : Nat} {sec : List Int} {ideal : Bool} {st : BoxI} (h : BoxUp w0 w own g sec ideal st) {out : List Int} {code : Int} {st' : BoxI} {e : Ending} (r : BoxRes w w0.heap.size own g sec ideal out code st' e w') (hB : IsB out) : ResU w0 w own g sec ideal out code st' e w' := by
  obtain ⟨v, own', rfl, h1, h2, h3, h4, h5⟩ := r
  refine ⟨v, own', rfl, Rd.of_own h1, fun b hb => ?_, ⟨h2, Turns.below h.low h5 h.low.size fun b hb => (h.box.dom b hb).1⟩, h4, h5, hB, fun b hb => row_blk h1 hb⟩
  have := row_new h1 hb
  exact ⟨this.1, this.2, h3 b hb⟩
section
variable {w0 w : World} {own : Nat → Prop} {g : Nat} {sec : List Int} {ideal : Bool} {st : BoxI}
theorem sealU (R : RealF) (hK : Kind R ideal) (h : BoxUp w0 w own g sec ideal st) (hf : Few st) (kid : Kid) (n : Int) (hid : kid.In) (hn : InI n) (va vt : Value) (ad text : List Int)
    (hra : Rd w va (bs ad)) (hA : IsB ad) (hrt : Rd w vt (bs text)) (hT : IsB text) (hna : ad ≠ [] → ∀ b, hold va b → ¬ own b) (hnt : text ≠ [] → ∀ b, hold vt b → ¬ own b) :
    Calls Tryd.prog 18 #[.pointer (some ⟨g, 0, none⟩), .agg kid.cells.toArray, .int .i64 n, va, vt] w (ResU w0 w own g sec ideal (sealX R sec ideal st kid n ad text).2.1 (sealX R sec ideal st kid n ad text).1 (sealX R sec ideal st kid n ad text).2.2) := by
  rcases hK with rfl | hK
  · rw [sealX_ideal]
    exact (seal_ideal w _ g own sec st kid n va vt ad text h.box hf hid hn hra hA hrt hT hna hnt).mono fun e w' r => ResU.of h r (sealS_isB _ _ _ _ _)
  · exact absurd hK id
theorem markU (R : RealF) (hK : Kind R ideal) (h : BoxUp w0 w own g sec ideal st) (hf : Few st) (kid : Kid) (vt : Value) (text : List Int) (hrt : Rd w vt (bs text)) (hT : IsB text) (hl : text.length ≤ 70368744177664) :
    Calls Tryd.prog 22 #[.pointer (some ⟨g, 0, none⟩), .agg kid.cells.toArray, vt] w (ResU w0 w own g sec ideal (markX R sec ideal st kid text).2.1 (markX R sec ideal st kid text).1 (markX R sec ideal st kid text).2.2) := by
  rcases hK with rfl | hK
  · rw [markX_ideal]
    exact (mark_ideal w _ g own sec st kid vt text h.box hf hrt hT hl).mono fun e w' r => ResU.of h r (markS_isB _ _ _)
  · exact absurd hK id
theorem openU (R : RealF) (hK : Kind R ideal) (h : BoxUp w0 w own g sec ideal st) (kid : Kid) (n : Int) (va vh : Value) (ad hidden : List Int) (hra : Rd w va (bs ad)) (hA : IsB ad) (hrh : Rd w vh (bs hidden)) (hH : IsB hidden) :
    Calls Tryd.prog 19 #[.pointer (some ⟨g, 0, none⟩), .agg kid.cells.toArray, .int .i64 n, va, vh] w fun e w' => ∃ v, e = .returned (.tuple #[v, .int .i64 (openX R sec ideal st kid n ad hidden).1]) ∧ Rd w' v (bs (openX R sec ideal st kid n ad hidden).2) ∧ (∀ b, hold v b → w.heap.size ≤ b ∧ b < w'.heap.size) ∧ Below w.heap.size w w' := by
  rcases hK with rfl | hK
  · rw [openX_ideal]
    exact (open_ideal w _ g own sec st kid n va vh ad hidden h.box hra hA hrh hH).mono fun e w' ⟨v, h1, h2, h3⟩ => ⟨v, h1, Rd.of_own h2, fun b hb => row_new h2 hb, h3⟩
  · exact absurd hK id
theorem checkU (R : RealF) (hK : Kind R ideal) (h : BoxUp w0 w own g sec ideal st) (kid : Kid) (vt vm : Value) (text mark : List Int) (hrt : Rd w vt (bs text)) (hT : IsB text) (hrm : Rd w vm (bs mark)) (hM : IsB mark) :
    Calls Tryd.prog 24 #[.pointer (some ⟨g, 0, none⟩), .agg kid.cells.toArray, vt, vm] w fun e w' => e = .returned (.bool (checkX R sec ideal st kid text mark)) ∧ Below w.heap.size w w' := by
  rcases hK with rfl | hK
  · rw [checkX_ideal]
    exact check_ideal w _ g own sec st kid vt vm text mark h.box hrt hT hrm hM
  · exact absurd hK id
end
theorem newU (w0 w : World) (v : Value) (sec : List Int) (ideal : Bool) (hr : Rd w v (bs sec)) (hB : IsB sec) (hl : sec.length ≤ 70368744177664) (hb : Below w0.heap.size w0 w) :
    Calls Tryd.prog 17 #[v, .bool ideal] w fun e w' => ∃ g own, e = .returned (.pointer (some ⟨g, 0, none⟩)) ∧ BoxUp w0 w' own g sec ideal BoxI.new ∧ Below w.heap.size w w' ∧ ∀ b, own b → w.heap.size ≤ b :=
  (newbox_any w v sec ideal hr hB hl).mono fun _ _ ⟨g, own, h1, h2, h3⟩ => ⟨g, own, h1, ⟨h2.mono hb.size, bw_then hb h3 hb.size⟩, h3, fun b hb => (h2.dom b hb).1⟩
end Go.Proofs.YtdgpchacfdlleaaDoor
end

section
/-
  The laws of box: one more thing that was told.
-/
namespace Go.Proofs.YtdgpchacfdlleaaDoor
open Go.RowKit

def toS (a : ActBS) : SealE := ⟨a.id, a.n, a.ad, a.text⟩
def toM (a : ActBS) : MarkE := ⟨a.id, a.text⟩
/-- Where the law's first loop stands. -/
structure Telling (w0 wr : World) (D : Nat) (own : Nat → Prop) (g : Nat) (st : BoxI) (tv : Value) (vals : List Value) (told : List (List Int)) (k : Nat) : Prop where
  at_ : ToldAt wr D (fun b => ¬ own b ∧ D ≤ b) tv vals told
  len : told.length = k
  apart : ∀ b, hold tv b → ¬ own b
  box : BoxUp w0 wr own g [] true st
  small : st.seals.length ≤ k ∧ st.marks.length ≤ k ∧ st.uses.length ≤ k
  short : ∀ x ∈ told, x.length ≤ 400
  low : w0.heap.size ≤ D
/-- A call has told, and it was put behind the others. -/
theorem Telling.step {w0 wr w1 w2 w3 : World} {D : Nat} {own own1 : Nat → Prop} {g k : Nat} {st st1 : BoxI} {tv tv' v1 : Value} {vals : List Value} {told : List (List Int)} {out : List Int} (h : Telling w0 wr D own g st tv vals told k) (hr : D ≤ wr.heap.size)
    (r1 : Rd w1 v1 (bs out)) (q1 : ∀ b, hold v1 b → wr.heap.size ≤ b ∧ b < w1.heap.size ∧ ¬ own1 b) (u1 : BoxUp w0 w1 own1 g [] true st1) (e1 : ∀ b, b < wr.heap.size → (own1 b ↔ own b)) (t1 : Turns own wr w1) (iB : IsB out) (ty : ∀ b, hold v1 b → ∃ cur, w1.heap[b]? = some (.cells cur 5 (0, 0)))
    (k2 : Below w1.heap.size w1 w2) (row : w3.ownsRow D 24 1 tv' (vals.length + 1) (vals ++ [v1])) (t3 : Turns (hold tv) w2 w3) (hh : ∀ b, hold tv' b → hold tv b ∨ w2.heap.size ≤ b)
    (hs : st1.seals.length ≤ k + 1 ∧ st1.marks.length ≤ k + 1 ∧ st1.uses.length ≤ k + 1) (ho : out.length ≤ 400) : Telling w0 w3 D own1 g st1 tv' (vals ++ [v1]) (told ++ [out]) (k + 1) := by
  have z1 := t1.size
  have z2 := k2.size
  have z3 := t3.size
  have htv : ∀ b, hold tv b → D ≤ b ∧ b < wr.heap.size := fun b hb => row_new h.at_.row hb
  have n1 : ∀ b, hold tv b → ¬ own1 b := fun b hb ho => h.apart b hb ((e1 b (htv b hb).2).1 ho)
  have t13 : Turns (fun b => own b ∨ hold tv b) wr w3 := ((t1.mono fun _ h => .inl h).trans (Turns.of_below k2)).trans (t3.mono fun _ h => .inr h)
  refine ⟨⟨?_, by rw [List.length_append, List.length_append, h.at_.len]; rfl, fun j u x hj hx => ?_⟩, by rw [List.length_append, h.len]; rfl, fun b hb => ?_, ?_, hs, fun x hx => ?_, h.low⟩
  · rw [List.length_append]; exact row
  · rcases Nat.lt_or_ge j vals.length with hlt | hge
    · rw [List.getElem?_append_left hlt] at hj
      rw [List.getElem?_append_left (by rw [← h.at_.len]; exact hlt)] at hx
      have h0 := h.at_.each j u x hj hx
      refine h0.moves t13 (fun b hb hs => ?_) (fun b hb hm => ⟨fun ho => ?_, hm.2⟩)
      · rcases hs with hs | hs
        · exact (h0.mine b hb).1 hs
        · obtain ⟨cur, hc⟩ := row_blk h.at_.row hs
          have := h0.ne hb hc
          revert this; decide
      · obtain ⟨cur, hc⟩ := h0.typ b hb
        exact hm.1 ((e1 b (Array.getElem?_eq_some_iff.1 hc).1).1 ho)
    · have hj0 : j - vals.length = 0 := by
        rw [List.getElem?_append_right hge] at hj
        have := (List.getElem?_eq_some_iff.1 hj).1
        simp at this; omega
      rw [List.getElem?_append_right hge, hj0] at hj
      rw [List.getElem?_append_right (by rw [← h.at_.len]; exact hge), show j - told.length = 0 by rw [← h.at_.len]; exact hj0] at hx
      obtain rfl : v1 = u := by simpa using hj
      obtain rfl : out = x := by simpa using hx
      have h1 : EntOk w1 (fun b => ¬ own1 b ∧ D ≤ b) v1 out := ⟨r1, iB, fun b hb => ⟨(q1 b hb).2.2, by have := (q1 b hb).1; omega⟩, ty⟩
      have h2 : EntOk w2 (fun b => ¬ own1 b ∧ D ≤ b) v1 out := h1.moves (S := fun _ => False) (Turns.of_below k2) (fun _ _ h => h) fun _ _ h => h
      exact h2.moves t3 (fun b hb hs => by have := (q1 b hb).1; have := (htv b hs).2; omega) fun _ _ h => h
  · rcases hh b hb with h1 | h1
    · exact n1 b h1
    · intro ho
      have := u1.box.dom b ho
      omega
  · exact (u1.stay k2).turns t3 (fun b ho hs => n1 b hs ho) (fun b hs => by have := (htv b hs).1; have := h.low; omega)
  · rcases List.mem_append.1 hx with hx | hx
    · exact h.short x hx
    · rw [List.mem_singleton.1 hx]; exact ho
/-- What a part of a row of acts reads. -/
theorem ActsAt.load {w w' : World} {v : Value} {l : List ActBS} (_h : ActsAt w v l) {b o i : Nat} {a : ActBS} (hc : ∀ j, j < 12 → w.cell? ⟨b, o + i * 12 + j, none⟩ = a.cells[j]?) {B : Nat} (hb : Below B w w') (hlt : b < B) (ty : TypeId) (off : Nat) {ys : List Value} {d : TypeDesc} {n : Nat} (hy : (a.cells.drop off).take ys.length = ys) (hoff : off + ys.length ≤ 12)
    (hu : Tryd.prog.underlying ty = some d) (hd : (match d with | .struct _ | .array _ _ => true | _ => false) = true) (hi : (Tryd.prog.info? ty).map (·.size) = some n) (hn : ys.length = n) : (loadVar ty ⟨b, o + i * 12 + off, none⟩).run Tryd.prog w' = .ok (.agg ys.toArray) w' := by
  refine run_loadVar_sub w' ty (fun j v hj => ?_) hu (by cases d <;> simp_all) hi hn
  have hjl := (List.getElem?_eq_some_iff.1 hj).1
  have h1 := hc (off + j) (by omega)
  rw [← Nat.add_assoc] at h1
  rw [hb.cell (p := ⟨b, o + i * 12 + off + j, none⟩) hlt, h1, ← hj]
  conv => rhs; rw [← hy]
  rw [List.getElem?_take_of_lt hjl, List.getElem?_drop]
end Go.Proofs.YtdgpchacfdlleaaDoor
end

section
/-
  box: the law's example.
-/
namespace Go.Proofs.YtdgpchacfdlleaaDoor
open Go.RowKit

def kid1 : Kid := ⟨3, 0, 0, 0, 0, 0⟩
def st81 : BoxI := ⟨[⟨kid1, 0, [], [7]⟩], [], [(kid1, 0)]⟩
def st82 : BoxI := ⟨[⟨kid1, 0, [], [7]⟩], [⟨kid1, [109]⟩], [(kid1, 0)]⟩
theorem kid1_in : kid1.In := by intro z hz; simp [Kid.nums, kid1] at hz; omega
theorem aw81 : sealS BoxI.new kid1 0 [] [7] = (0, putL 0 17, st81) := by
  have : askB kid1 0 = 0 := by decide
  unfold sealS; rw [if_neg (by rw [this]; decide), if_neg (by decide)]; rfl
theorem aw82 : openS st81 kid1 0 [] (putL 0 17) = (0, [7]) := by
  have := open_sealS (st := BoxI.new) (id := kid1) (n := 0) (ad := []) (text := [7]) (by rw [aw81]) (by decide) st81 ⟨[], by rw [aw81]; rfl⟩
  rwa [aw81] at this
theorem aw83 : openS st81 kid1 1 [] (putL 0 17) = (6, []) := by
  have h1 : askB kid1 1 = 0 := by decide
  have h2 : findL (putL 0 17) st81.seals.length = some 0 := findL_put (by decide) (by decide) (by decide)
  unfold openS
  rw [if_neg (by rw [h1]; decide), if_neg (by rw [putL_len _ _ (by decide)]; decide), if_neg (by rw [putL_len _ _ (by decide)]; decide), h2]
  simp [st81]
theorem aw84 : markS st81 kid1 [109] = (0, putL 0 32, st82) := by
  have : askB kid1 0 = 0 := by decide
  unfold markS; rw [if_neg (by rw [this]; decide)]; rfl
theorem aw85 (c : Int) : checkS st82 kid1 [c] (putL 0 32) = decide (c = 109) := by
  have h1 : askB kid1 0 = 0 := by decide
  have h2 : findL (putL 0 32) st82.marks.length = some 0 := findL_put (by decide) (by decide) (by decide)
  unfold checkS
  rw [if_neg (by rw [h1, putL_len _ _ (by decide)]; decide), h2]
  simp [st82]
  exact eq_comm
theorem one_any (w : World) : Calls Tryd.prog 51 #[] w fun e w' => e = .returned (.agg #[.int .i64 3, .int .i64 0, .int .i64 0, .int .i64 0, .int .i64 0, .int .i64 0]) ∧ Below w.heap.size w w' := by
  go_enter Tryd.func51, Tryd.ntmps51
  go_wp2_with (refine wp_store_blk rfl 23 (.tmp 0) (.tmp 1) rfl rfl rfl (cs' := [.int .i64 3, .int .i64 0, .int .i64 0, .int .i64 0, .int .i64 0, .int .i64 0]) (Blk.mk_ (cs := [.int .i64 0, .int .i64 0, .int .i64 0, .int .i64 0, .int .i64 0, .int .i64 0]) _ rfl rfl) (by intro y hy; simp at hy; rcases hy with rfl | rfl <;> rfl) rfl (n := 6) (by kernel_rfl) rfl ?_; intro w1 b1 on1)
  refine ret_blk rfl rfl b1 Tryd.underlying23 rfl (n := 6) (by kernel_rfl) rfl rfl ?_
  exact ⟨rfl, on1.below (bw_al (Below.refl _ _) (Nat.le_refl _) _) (Nat.le_refl _)⟩
theorem isB1 (c : Int) (h : 0 ≤ c ∧ c ≤ 255) : IsB [c] := by intro z hz; simp at hz; subst hz; exact h
theorem rd_frz (w : World) (xs : List Int) (fr : Nat × Nat) (hl : xs.length ≤ 9223372036854775807) : Rd (w.alloc (.cells (bs xs).toArray 5 fr)) (.slice (some ⟨w.heap.size, 0, none⟩) xs.length xs.length) (bs xs) := by
  refine ⟨_, _, by rw [bs_len], by rw [bs_len]; exact Nat.le_refl _, by unfold maxLen; omega, (fun h => by cases h), .inr ⟨w.heap.size, 0, rfl, fun j hj => ?_⟩⟩
  rw [Nat.zero_add]
  have h0 : (w.alloc (.cells (bs xs).toArray 5 fr)).heap[w.heap.size]? = some (.cells (bs xs).toArray 5 fr) := by
    show (w.heap.push _)[w.heap.size]? = _
    simp
  simp only [World.cell?, h0]
  simp [hj]
theorem hold_at {a n c b : Nat} (h : hold (.slice (some ⟨a, 0, none⟩) n c) b) : b = a := by
  obtain ⟨o, n', c', h⟩ := h
  cases h
  rfl
theorem awEq1 (w' : World) (u v : Value) (hu : Rd w' u (bs (putL 0 17))) (hv : Rd w' v (bs (List.replicate 17 0))) : Calls Tryd.prog 20 #[u, v] w' fun e w2 => e = .returned (.bool true) ∧ w' = w2 := by
  have eq1 : eqB (putL 0 17) (List.replicate 17 0) = true := by decide +kernel
  have := equal_any u v _ _ w' hu hv (putL_isB _ _) (by intro z hz; have := (List.mem_replicate.1 hz).2; omega)
  rwa [eq1] at this
theorem awEq2 (w' : World) (u v : Value) (hu : Rd w' u (bs [7])) (hv : Rd w' v (bs [7])) : Calls Tryd.prog 20 #[u, v] w' fun e w2 => e = .returned (.bool true) ∧ w' = w2 := by
  have eq2 : eqB [7] [7] = true := by decide
  have := equal_any u v _ _ w' hu hv (isB1 _ (by decide)) (isB1 _ (by decide))
  rwa [eq2] at this
theorem mk17 (w : World) : (Instr.makeSlice 24 (.int .i64 17) (.int .i64 17)).run Tryd.prog w = .ok (.slice (some ⟨w.heap.size, 0, none⟩) 17 17) (w.alloc (.cells (bs (List.replicate 17 0)).toArray 5)) := by
  obtain ⟨i, hi, hz0, hz1, hz2⟩ := info_parts info5
  have := run_make (P := Tryd.prog) w 24 5 i (.int .u8 0) Tryd.underlying24 hi hz0 .i64 .i64 17 17 (by decide) (by decide) (by rw [hz2]; decide) (by decide)
  rw [this, hz1]
  have e : madeCells (Value.int .u8 0).cells (Int.toNat 17 * 1) = (bs (List.replicate 17 0)).toArray := by
    apply Array.toList_inj.1
    rw [show (Value.int .u8 0).cells = #[Value.int .u8 0] from rfl, toList_madeCells_one]
    simp [bs]
  rw [e]
  rfl
def R0 : RealF := ⟨fun _ _ _ _ _ => [], fun _ _ _ _ _ => (0, []), fun _ _ _ => []⟩
theorem few81 : Few st81 := ⟨by decide, by decide, by decide⟩
theorem few80 : Few BoxI.new := ⟨by decide, by decide, by decide⟩
set_option maxRecDepth 100000 in
set_option maxHeartbeats 600000 in
theorem awake08_any (w : World) : Calls Tryd.prog 16 #[] w fun e w' => e = .returned (.bool true) ∧ Below w.heap.size w w' := by
  have kc := fun (w : World) (C : Array Value) (n c : Nat) => Lib.run_convert_bytes_const (P := Tryd.prog) w 24 5 C n c Tryd.underlying24 Tryd.underlying5
  go_enter Tryd.func16, Tryd.ntmps16
  go_upto_region 2 with (go_at_call 17; refine (newU w _ _ [115] true (rd_frz w [115] (1, 2) (by decide)) (isB1 _ (by decide)) (by decide) (bw_al (Below.refl _ _) (Nat.le_refl _) _)).mono ?_; rintro e w1 ⟨g, own, rfl, hw1, hb1, _⟩)
  have U1 := Lib.hid hw1
  clear hw1 hb1
  go_upto_region 3 with (first
    | (go_at_call 51; refine (one_any _).mono ?_; rintro e w2 ⟨rfl, hb2⟩)
    | (go_at_call 18; have u2 := (U1.out.stay hb2).stay (bw_al (Below.refl _ _) (Nat.le_refl _) (.cells #[.int .u8 7] 5)); have C := sealU R0 (Kind.ideal _) u2 few80 kid1 0 kid1_in (by unfold InI; omega) (.slice none 0 0) (.slice (some ⟨w2.heap.size, 0, none⟩) 1 1) [] [7] (Rd.nil _) isB_nil (Rd.one _ _ _) (isB1 _ (by decide)) (fun _ b hb => absurd hb (no_hold b)) (fun _ b hb => by rw [hold_at hb]; exact (U1.out.stay hb2).fresh (Nat.le_refl _)); rw [sealX_ideal, aw81] at C; refine C.mono ?_; rintro e w3 ⟨v3, own3, rfl, r3, q3, hu3, _, _⟩; clear C u2; obtain ⟨A3, c3, rfl, _⟩ := id r3))
  have U3 := Lib.hid hu3; have R3 := Lib.hid r3
  have L17 : (bs (putL 0 17)).length = 17 := by rw [bs_len, putL_len _ _ (by decide)]
  rw [L17] at R3 ⊢
  have N3 := Lib.hid (fun b hb => (q3 b hb).2.2)
  rw [L17] at N3
  clear hu3 r3 q3 hb2 L17
  go_upto_region 4 with (first
    | (go_at_call 51; refine (one_any _).mono ?_; rintro e w4 ⟨rfl, hb4⟩)
    | (go_at_call 19; have C := openU R0 (Kind.ideal _) (U3.out.stay hb4) kid1 0 (.slice none 0 0) _ [] (putL 0 17) (Rd.nil _) isB_nil (R3.out.stay hb4 (Nat.le_refl _)) (putL_isB _ _); rw [openX_ideal, aw82] at C; refine C.mono ?_; rintro e w5 ⟨v5, rfl, r5, q5, hb5⟩; clear C; obtain ⟨A5, c5, rfl, _⟩ := id r5))
  have U5 := Lib.hid ((U3.out.stay hb4).stay hb5); have R35 := Lib.hid (R3.out.stay (bw_next hb4 hb5) (Nat.le_refl _)); have R5 := Lib.hid r5; have N5 := Lib.hid (fun b hb => (U3.out.stay hb4).fresh (q5 b hb).1)
  clear hb4 hb5 r5 R3 U3 q5
  go_upto_region 5 with (first
    | (go_at_call 51; refine (one_any _).mono ?_; rintro e w6 ⟨rfl, hb6⟩)
    | (go_at_call 19; have C := openU R0 (Kind.ideal _) (U5.out.stay hb6) kid1 1 (.slice none 0 0) _ [] (putL 0 17) (Rd.nil _) isB_nil (R35.out.stay hb6 (Nat.le_refl _)) (putL_isB _ _); rw [openX_ideal, aw83] at C; refine C.mono ?_; rintro e w7 ⟨v7, rfl, r7, _, hb7⟩; clear C; obtain ⟨A7, c7, rfl, _⟩ := id r7))
  have U7 := Lib.hid ((U5.out.stay hb6).stay hb7); have R37 := Lib.hid (R35.out.stay (bw_next hb6 hb7) (Nat.le_refl _)); have R57 := Lib.hid (R5.out.stay (bw_next hb6 hb7) (Nat.le_refl _))
  clear hb6 hb7 r7 R35 R5 U5
  go_upto_region 6 with (first
    | (go_at_call 51; refine (one_any _).mono ?_; rintro e w8 ⟨rfl, hb8⟩)
    | (go_at_call 22; have u8 := (U7.out.stay hb8).stay (bw_al (Below.refl _ _) (Nat.le_refl _) (.cells #[.int .u8 109] 5 (1, 2))); have C := markU R0 (Kind.ideal _) u8 few81 kid1 _ [109] (rd_frz w8 [109] (1, 2) (by decide)) (isB1 _ (by decide)) (by decide); rw [markX_ideal, aw84] at C; refine C.mono ?_; rintro e w9 ⟨v9, own9, rfl, r9, q9, hu9, _, ht9, _⟩; clear C u8; obtain ⟨A9, c9, rfl, _⟩ := id r9))
  have l89 : Turns own3 w7 w9 := (Turns.of_below (bw_next hb8 (bw_al (Below.refl _ _) (Nat.le_refl _) (.cells #[.int .u8 109] 5 (1, 2))))).trans ht9
  have R39 := Lib.hid (R37.out.moves l89 N3.out)
  have R59 := Lib.hid (R57.out.moves l89 N5.out)
  have U9 := Lib.hid hu9; have R9 := Lib.hid r9
  have L32 : (bs (putL 0 32)).length = 32 := by rw [bs_len, putL_len _ _ (by decide)]
  rw [L32] at R9 ⊢
  have EQ1 := Lib.hid awEq1
  have EQ2 := Lib.hid awEq2
  have m17 := mk17
  have tokA : True := trivial
  have tokE : True := trivial
  have tokF : True := trivial
  have tokB : True := trivial
  have tokC : True := trivial
  clear hu9 r9 q9 hb8 l89 ht9 L32 R37 R57 N3 N5 U7
  go_wp2_with (first
    | (have _t := tokE; clear _t tokE; go_at_call 20; (refine (EQ1.out _ _ _ (R39.out.stay (bw_al (Below.refl _ _) (Nat.le_refl _) _) (Nat.le_refl _)) (Rd.of_blk (cs := bs (List.replicate 17 0)) (Blk.mk_ _ rfl rfl) (by decide))).mono ?_); rintro e wa ⟨rfl, rfl⟩)
    | (have _t := tokF; clear _t tokF; go_at_call 20; (refine (EQ2.out _ _ _ (R59.out.stay (bw_al (bw_al (Below.refl _ _) (Nat.le_refl _) _) (by simp) _) (Nat.le_refl _)) (Rd.of_blk (cs := bs [7]) (Blk.mk_ _ (by simp) rfl) (by decide))).mono ?_); rintro e wa ⟨rfl, rfl⟩)
    | (have _t := tokA; clear _t tokA; go_at_call 51; refine (one_any _).mono ?_; rintro e wc ⟨rfl, hbc⟩; have hb9c := bw_then (B := w9.heap.size) (bw_al (bw_al (Below.refl _ _) (Nat.le_refl _) _) (by simp) _) hbc (by simp; omega))
    | (have _t := tokC; clear _t tokC; go_at_call 24; have hk := bw_next hb9c (bw_al (Below.refl _ _) (Nat.le_refl _) (.cells #[.int .u8 109] 5 (1, 2))); have C := checkU R0 (Kind.ideal _) (U9.out.stay hk) kid1 _ _ [109] (putL 0 32) (rd_frz wc [109] (1, 2) (by decide)) (isB1 _ (by decide)) (R9.out.stay hk (Nat.le_refl _)) (putL_isB _ _); rw [checkX_ideal, aw85, show decide ((109 : Int) = 109) = true from rfl] at C; refine C.mono ?_; rintro e we ⟨rfl, hbe⟩; have hb9e := bw_next hk hbe; clear C hk hbe)
    | (have _t := tokB; clear _t tokB; go_at_call 51; refine (one_any _).mono ?_; rintro e wf ⟨rfl, hbf⟩; have hb9f := bw_next hb9e hbf)
    | (go_at_call 24; have hk := bw_next hb9f (bw_al (Below.refl _ _) (Nat.le_refl _) (.cells #[.int .u8 110] 5 (1, 2))); have C := checkU R0 (Kind.ideal _) (U9.out.stay hk) kid1 _ _ [110] (putL 0 32) (rd_frz wf [110] (1, 2) (by decide)) (isB1 _ (by decide)) (R9.out.stay hk (Nat.le_refl _)) (putL_isB _ _); rw [checkX_ideal, aw85, show decide ((110 : Int) = 109) = false from rfl] at C; refine C.mono ?_; rintro e wh ⟨rfl, hbh⟩; have hb9h := bw_next hk hbh; clear C hk hbh)
    | (go_at_call 29; have C := sealed_any (U9.out.stay hb9h).box; rw [show ((st82.uses.length : Nat) : Int) = 1 from rfl] at C; refine C.mono ?_; rintro e wi ⟨rfl, rfl⟩; clear C)
    | (go_at_call 30; have C := repeats_any (U9.out.stay hb9h).box; rw [show ((reps st82.uses : Nat) : Int) = 0 from rfl] at C; refine C.mono ?_; rintro e wi ⟨rfl, rfl⟩; clear C))
  go_wp2_with fail
  all_goals (try go_ret)
  exact ⟨rfl, (U9.out.stay hb9h).low⟩
end Go.Proofs.YtdgpchacfdlleaaDoor
end

section
/-
  The tables that the rows list, as they are laid.
-/
namespace Go.Proofs.YtdgpchacfdlleaaDoor

def ns64 (xs : List Nat) : List Value := xs.map fun (n : Nat) => Value.int .i64 (n : Int)
def ns32 (xs : List Nat) : List Value := xs.map fun (n : Nat) => Value.int .u32 (n : Int)
def rowsC : List Nat := [0, 4, 8, 12, 1, 5, 9, 13, 2, 6, 10, 14, 3, 7, 11, 15, 0, 5, 10, 15, 1, 6, 11, 12, 2, 7, 8, 13, 3, 4, 9, 14]
def startC : List Nat := [1779033703, 3144134277, 1013904242, 2773480762, 1359893119, 2600822924, 528734635, 1541459225]
def cubesC : List Nat := [1116352408, 1899447441, 3049323471, 3921009573, 961987163, 1508970993, 2453635748, 2870763221, 3624381080, 310598401, 607225278, 1426881987, 1925078388, 2162078206, 2614888103, 3248222580, 3835390401, 4022224774, 264347078, 604807628, 770255983, 1249150122, 1555081692, 1996064986, 2554220882, 2821834349, 2952996808, 3210313671, 3336571891, 3584528711, 113926993, 338241895, 666307205, 773529912, 1294757372, 1396182291, 1695183700, 1986661051, 2177026350, 2456956037, 2730485921, 2820302411, 3259730800, 3345764771, 3516065817, 3600352804, 4094571909, 275423344, 430227734, 506948616, 659060556, 883997877, 958139571, 1322822218, 1537002063, 1747873779, 1955562222, 2024104815, 2227730452, 2361852424, 2428436474, 2756734187, 3204031479, 3329325298]
def layT (cs : List Value) : Obj → Obj
  | .cells _ t frozen => .cells cs.toArray t frozen
  | o => o
end Go.Proofs.YtdgpchacfdlleaaDoor
end
