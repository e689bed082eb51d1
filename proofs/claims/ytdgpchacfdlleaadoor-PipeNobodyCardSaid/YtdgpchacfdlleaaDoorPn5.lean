/-
  Texts of mine in one: OpenB, CheckB, NewB, BoxAny, PipeD, PipeE, PipeS, Tree, PipeL, PipeK, PipeO, PipeN, Els, Kinds, ActB, FewB, PickB, ToldB, DeadB.
-/
import Derived.Test.YtdgpchacfdlleaaDoorPn4
import Derived.Deep.QuietTactic
import Derived.BigQuiet
import Derived.Deep.CutBlock
import Derived.Deep.DeepCutAuto
import Derived.Deep.Slices
section
/-
  box: an ideal box opens.
-/
namespace Go.Proofs.YtdgpchacfdlleaaDoor
open Go.RowKit

theorem findS_any {w : World} {B g gu : Nat} {own : Nat → Prop} {vs vS vM : Value} {sec : List Int} {ideal : Bool} {st : BoxI} {us : List (Bt × Value)} {es : List EntS} {ms : List EntM} (H : BoxAt w B own g gu vs vS vM sec ideal st us es ms) (v : Value) (hid : List Int)
    (hr : Rd w v (bs hid)) (hB : IsB hid) (hl : hid.length ≤ 1000000) :
    Calls Tryd.prog 56 #[.pointer (some ⟨g, 3, none⟩), v] w fun e w' => Below w.heap.size w w' ∧
      ((findL hid es.length = none ∧ e = .returned (.tuple #[.agg zero9.toArray, .bool false])) ∨ ∃ k x, findL hid es.length = some k ∧ es[k]? = some x ∧ e = .returned (.tuple #[.agg x.cells.toArray, .bool true])) :=
  findS_all w g _ vS B es v hid H.head rfl H.rowS hr hB hl (fun x hx => EntS.one (H.entS x hx).1 (H.entS x hx).2) _ (fun h _ hb => ⟨hb, .inl ⟨h, rfl⟩⟩) fun k x h1 h2 _ hb => ⟨hb, .inr ⟨k, x, h1, h2, rfl⟩⟩
theorem findM_any {w : World} {B g gu : Nat} {own : Nat → Prop} {vs vS vM : Value} {sec : List Int} {ideal : Bool} {st : BoxI} {us : List (Bt × Value)} {es : List EntS} {ms : List EntM} (H : BoxAt w B own g gu vs vS vM sec ideal st us es ms) (v : Value) (hid : List Int)
    (hr : Rd w v (bs hid)) (hB : IsB hid) (hl : hid.length ≤ 1000000) :
    Calls Tryd.prog 60 #[.pointer (some ⟨g, 4, none⟩), v] w fun e w' => Below w.heap.size w w' ∧
      ((findL hid ms.length = none ∧ e = .returned (.tuple #[.agg zero7.toArray, .bool false])) ∨ ∃ k x, findL hid ms.length = some k ∧ ms[k]? = some x ∧ e = .returned (.tuple #[.agg x.cells.toArray, .bool true])) :=
  findM_all w g _ vM B ms v hid H.head rfl H.rowM hr hB hl (fun x hx => EntM.one (H.entM x hx)) _ (fun h _ hb => ⟨hb, .inl ⟨h, rfl⟩⟩) fun k x h1 h2 _ hb => ⟨hb, .inr ⟨k, x, h1, h2, rfl⟩⟩
set_option maxRecDepth 100000 in
set_option maxHeartbeats 4000000 in
theorem open_ideal (w : World) (B g : Nat) (own : Nat → Prop) (sec : List Int) (st : BoxI) (kid : Kid) (n : Int) (va vh : Value) (ad hid : List Int) (h : BoxW w B own g sec true st)
    (hra : Rd w va (bs ad)) (hA : IsB ad) (hrh : Rd w vh (bs hid)) (hI : IsB hid) :
    Calls Tryd.prog 19 #[.pointer (some ⟨g, 0, none⟩), .agg kid.cells.toArray, .int .i64 n, va, vh] w fun e w' => ∃ v, e = .returned (.tuple #[v, .int .i64 (openS st kid n ad hid).1]) ∧ w'.ownsRow w.heap.size 5 1 v (openS st kid n ad hid).2.length (bs (openS st kid n ad hid).2) ∧ Below w.heap.size w w' := by
  obtain ⟨Z, hZ⟩ : ∃ Z, w.heap.size = Z := ⟨_, rfl⟩
  obtain ⟨R, hR⟩ : ∃ R : Ending → World → Prop, (fun e w' => ∃ v, e = .returned (.tuple #[v, .int .i64 (openS st kid n ad hid).1]) ∧ w'.ownsRow w.heap.size 5 1 v (openS st kid n ad hid).2.length (bs (openS st kid n ad hid).2) ∧ Below w.heap.size w w') = R := ⟨_, rfl⟩
  rw [hR]
  have END : ∀ (code : Int) (out : List Int), openS st kid n ad hid = (code, out) → ∀ v w', w'.ownsRow Z 5 1 v out.length (bs out) → Below Z w w' → R (.returned (.tuple #[v, .int .i64 code])) w' := by
    intro code out he v w' ho hb
    rw [← hR, he, hZ]
    exact ⟨v, rfl, ho, hb⟩
  have END0 := fun (code : Int) (he : openS st kid n ad hid = (code, [])) (w' : World) (hb : Below Z w w') => END code [] he (.slice none 0 0) w' (World.ownsRow_nil _ _ _ _) hb
  have END := Lib.hid END
  obtain ⟨gu, vs, vS, vM, us, es, ms, H⟩ := h
  have hdg := H.dom g H.og
  rw [hZ] at hdg
  have ASK := Lib.hid (fun (w' : World) (hb : Below w.heap.size w w') => ask_any w' g _ kid n (H.head.stay hb) rfl)
  obtain ⟨r, hr⟩ : ∃ r, askB kid n = r := ⟨_, rfl⟩
  rw [hr] at ASK
  have e1 : r ≠ 0 → openS st kid n ad hid = (r, []) := fun h0 => by
    have e1 : r = 1 := by have := hr; unfold askB at this; split at this <;> omega
    unfold openS; rw [if_pos (by rw [hr]; exact h0), e1]
  have e2 : r = 0 → hid.length < 16 → openS st kid n ad hid = (4, []) := fun h0 h1 => by
    unfold openS; rw [if_neg (by rw [hr, h0]; decide), if_pos h1]
  have e3 : r = 0 → ¬ hid.length < 16 → (65536 < ad.length ∨ 65552 < hid.length) → openS st kid n ad hid = (5, []) := fun h0 h1 h2 => by
    unfold openS; rw [if_neg (by rw [hr, h0]; decide), if_neg h1, if_pos h2]
  have e4 : r = 0 → ¬ hid.length < 16 → ¬ (65536 < ad.length ∨ 65552 < hid.length) → openS st kid n ad hid = match (findL hid st.seals.length).bind (fun k => st.seals[k]?) with
    | none => (6, [])
    | some x => if x.id = kid ∧ x.n = n ∧ x.ad = ad ∧ hid.length = x.text.length + 16 then (0, x.text) else (6, []) := fun h0 h1 h2 => by
    unfold openS; rw [if_neg (by rw [hr, h0]; decide), if_neg h1, if_neg h2]; rfl
  have E1 := Lib.hid (fun h w' hb => END0 _ (e1 h) w' hb)
  have E2 := Lib.hid (fun h h' w' hb => END0 _ (e2 h h') w' hb)
  have E3 := Lib.hid (fun h h' h2 w' hb => END0 _ (e3 h h' h2) w' hb)
  have E4 := Lib.hid e4
  clear e1 e2 e3 e4 hr hR END0
  obtain ⟨Aa, ca, rfl, hca, _⟩ := id hra
  obtain ⟨Ah, ch, rfl, hch, _⟩ := id hrh
  simp only [bs_len] at hra hrh hca hch ⊢
  obtain ⟨la, hla⟩ : ∃ l, ad.length = l := ⟨_, rfl⟩
  obtain ⟨lh, hlh⟩ : ∃ l, hid.length = l := ⟨_, rfl⟩
  rw [hla] at hra hca E3 E4 ⊢
  rw [hlh] at hrh hch E2 E3 E4 ⊢
  have HRA := Lib.hid hra; have HRH := Lib.hid hrh; have HLA := Lib.hid (fun _ : Unit => hla); have HLH := Lib.hid (fun _ : Unit => hlh)
  have HA := Lib.hid hA; have HI := Lib.hid hI; have HH := Lib.hid H
  clear hra hrh hla hlh hA hI
  obtain ⟨ia, ib, ic, id_, ie, if_⟩ := kid
  simp only [Kid.cells] at ASK ⊢
  go_enter Tryd.func19, Tryd.ntmps19
  go_upto_region 1 with fail
  obtain ⟨W, hW⟩ : ∃ W, w.alloc (.cells #[.int .i64 ia, .int .i64 ib, .int .i64 ic, .int .i64 id_, .int .i64 ie, .int .i64 if_] 23) = W := ⟨_, rfl⟩
  change Code.wp _ _ _ _ (w.alloc (.cells #[.int .i64 ia, .int .i64 ib, .int .i64 ic, .int .i64 id_, .int .i64 ie, .int .i64 if_] 23))
  have b0 : Blk W Z [.int .i64 ia, .int .i64 ib, .int .i64 ic, .int .i64 id_, .int .i64 ie, .int .i64 if_] 23 := by rw [← hW]; exact Blk.mk_ _ hZ.symm rfl
  have bb : Below Z w W := by rw [← hW]; exact bw_al (Below.refl _ _) (by omega) _
  have hz : W.heap.size = Z + 1 := by rw [← hW]; simp [hZ]
  rw [hW]
  clear hW
  have AW := Lib.hid (ASK.out W (by rw [hZ]; exact bb))
  clear H
  go_upto_region 2 with (first
    | (refine wp_load_blk rfl 23 (.tmp 6) rfl rfl b0 Tryd.underlying23 rfl (n := 6) (by kernel_rfl) rfl ?_)
    | (go_at_call 53; refine AW.out.mono ?_; rintro e w1 ⟨rfl, hb1⟩))
  have bb1 : Below Z w w1 := bw_then bb hb1 (by omega)
  have hz1 := hb1.size
  have k1 := b0.stay hb1
  have HB1 := Lib.hid bb1; have KK1 := Lib.hid k1
  clear bb bb1 k1 b0 hb1 AW ASK
  by_cases hr0 : r ≠ 0
  · go_wp2_with fail
    all_goals (try go_ret2)
    exact E1.out hr0 _ HB1.out
  obtain rfl : r = 0 := by omega
  clear hr0
  have H1 := HH.out.stay (by rw [hZ]; exact HB1.out)
  have y1 := H1.head.at_ 1 rfl
  have y3 := H1.head.at_ 3 rfl
  have HH1 := Lib.hid H1
  clear H1
  by_cases h16 : lh < 16
  · go_wp2_with fail
    all_goals (try go_ret2)
    exact E2.out trivial h16 _ HB1.out
  by_cases hl1 : 65536 < la
  · go_wp2_with fail
    all_goals (try go_ret2)
    exact E3.out trivial h16 (.inl hl1) _ HB1.out
  by_cases hl2 : 65552 < lh
  · go_wp2_with fail
    all_goals (try go_ret2)
    exact E3.out trivial h16 (.inr hl2) _ HB1.out
  have hopen := E4.out rfl h16 (by omega)
  have HO := Lib.hid hopen
  clear hopen
  have esl : es.length = st.seals.length := by rw [← HH.out.seals, List.length_map]
  have FS := findS_any HH1.out (.slice Ah lh ch) hid (HRH.out.stay HB1.out (by omega)) HI.out (by rw [HLH.out ()]; omega)
  rw [esl] at FS
  have FS := Lib.hid FS
  clear esl
  go_upto_region 12 with (first
    | (go_at_call 56; refine FS.out.mono ?_; rintro e w2 ⟨hb2, h2⟩; have H2 := Lib.hid h2; obtain ⟨cs9, bo, hcs9, hb9, rfl⟩ : ∃ (cs : List Value) (b : Bool), cs.length = 9 ∧ (∀ y ∈ cs, y.oneCell' = true) ∧ e = .returned (.tuple #[.agg cs.toArray, .bool b]) := (by
        rcases h2 with ⟨_, rfl⟩ | ⟨k, x, _, hx, rfl⟩
        · exact ⟨zero9, false, rfl, by intro y hy; simp [zero9] at hy; rcases hy with rfl | rfl <;> rfl, rfl⟩
        · exact ⟨x.cells, true, rfl, EntS.one (HH.out.entS x (List.mem_of_getElem? hx)).1 (HH.out.entS x (List.mem_of_getElem? hx)).2, rfl⟩); clear h2)
    | (refine wp_store_blk rfl 130 (.tmp 15) (.tmp 62) rfl rfl rfl (cs' := cs9) (Blk.mk_ (cs := zero9) _ rfl rfl) hb9 hcs9 (n := 9) (by kernel_rfl) hcs9 ?_; intro w3 b3 on3))
  have hb3 : Below Z w w3 := on3.below (bw_al (bw_then HB1.out hb2 (by omega)) (by have := hb2.size; omega) _) (by have := hb2.size; omega)
  have hz3 : w2.heap.size < w3.heap.size := by rw [on3.size]; simp
  have hB3 := Lib.hid hb3
  have k3 := KK1.out.stay (show Below w1.heap.size w1 w3 from on3.below (bw_al hb2 hb2.size _) hb2.size)
  have KK3 := Lib.hid k3
  have rt3 : ∀ v xs, EntOk w1 own v xs → Rd w3 v (bs xs) := fun v xs he => he.rd.stay (show Below w1.heap.size w1 w3 from on3.below (bw_al hb2 hb2.size _) hb2.size) (Nat.le_refl _)
  have RT3 := Lib.hid rt3
  have ENT := Lib.hid HH1.out.entS
  have SEA := Lib.hid HH.out.seals
  obtain ⟨q, hq⟩ : ∃ q, w2.heap.size = q := ⟨_, rfl⟩
  rw [hq] at b3 hz3 ⊢
  have B3 := Lib.hid b3
  have hqZ : Z ≤ q := by have := hb2.size; omega
  clear hb3 k3 rt3 on3 hb2 hq b3 y1 y3
  rcases H2.out with ⟨hn, he⟩ | ⟨k, x, hfk, hx, he⟩
  · injection he with he
    injection he with he
    have ho := HO.out
    rw [hn] at ho
    obtain ⟨hc1, hc2⟩ : cs9 = zero9 ∧ bo = false := by simpa using he
    subst hc1 hc2
    have HN := Lib.hid ho
    clear he hn ho
    go_wp2_with fail
    all_goals (try go_ret2)
    exact END.out 6 [] HN.out _ _ (World.ownsRow_nil _ _ _ _) hB3.out
  · injection he with he
    injection he with he
    have ho := HO.out
    have hx' : st.seals[k]? = some x.x := by rw [← SEA.out, List.getElem?_map, hx]; rfl
    rw [hfk, Option.bind_some, hx'] at ho
    simp only at ho
    obtain ⟨hc1, hc2⟩ : cs9 = x.cells ∧ bo = true := by simpa using he
    subst hc1 hc2
    have hent := ENT.out x (List.mem_of_getElem? hx)
    obtain ⟨⟨⟨ja, jb, jc, jd, je, jf⟩, jn, jad, jtext⟩, ja9, jt9⟩ := x
    simp only at ho hent
    have hra := RT3.out _ _ hent.1
    have hrt := RT3.out _ _ hent.2
    obtain ⟨Aj, cj, rfl, hcj, _⟩ := id hra
    obtain ⟨At, ct, rfl, hct, _⟩ := id hrt
    simp only [bs_len] at hra hrt hcj hct
    have HE := Lib.hid hent
    have HO2 := Lib.hid ho
    have HRAJ := Lib.hid hra; have HRTJ := Lib.hid hrt
    have b3 : Blk w3 q [.int .i64 ja, .int .i64 jb, .int .i64 jc, .int .i64 jd, .int .i64 je, .int .i64 jf, .int .i64 jn, .slice Aj jad.length cj, .slice At jtext.length ct] 130 := by
      have := B3.out
      simpa [EntS.cells, Kid.cells, bs_len] using this
    have c0 := b3.at_ 0 rfl
    have c1 := b3.at_ 1 rfl
    have c2 := b3.at_ 2 rfl
    have c3 := b3.at_ 3 rfl
    have c4 := b3.at_ 4 rfl
    have c5 := b3.at_ 5 rfl
    have c6 := b3.at_ 6 rfl
    have c7 := b3.at_ 7 rfl
    have c8 := b3.at_ 8 rfl
    have d0 := KK3.out.at_ 0 rfl
    have d1 := KK3.out.at_ 1 rfl
    have d2 := KK3.out.at_ 2 rfl
    have d3 := KK3.out.at_ 3 rfl
    have d4 := KK3.out.at_ 4 rfl
    have d5 := KK3.out.at_ 5 rfl
    clear he hent ho hra hrt hx hx' hfk hb9 hcs9 b3 FS
    obtain ⟨jal, hjal⟩ : ∃ l, jad.length = l := ⟨_, rfl⟩
    obtain ⟨jtl, hjtl⟩ : ∃ l, jtext.length = l := ⟨_, rfl⟩
    rw [hjal] at c7 HRAJ
    rw [hjtl] at c8 HRTJ HO2 hct
    have HJT := Lib.hid (fun _ : Unit => hjtl)
    clear hjal hjtl
    by_cases hE : (⟨ja, jb, jc, jd, je, jf⟩ : Kid) = ⟨ia, ib, ic, id_, ie, if_⟩ ∧ jn = n
    · obtain ⟨h1, rfl⟩ := hE
      injection h1 with h1 h2 h3 h4 h5 h6
      subst h1 h2 h3 h4 h5 h6
      have EQ := Lib.hid (equal_any _ _ jad ad w3 HRAJ.out (HRA.out.stay hB3.out (by omega)) HE.out.1.isB HA.out)
      obtain ⟨be, hbe⟩ : ∃ be, eqB jad ad = be := ⟨_, rfl⟩
      rw [hbe] at EQ
      have hbe' : be = true ↔ jad = ad := by rw [← hbe, eqB, beq_iff_eq]
      have HBE := Lib.hid hbe'
      clear hbe hbe' HH HH1 ENT SEA H2 B3 RT3
      cases be with
      | false =>
        have HN := Lib.hid (show openS st ⟨ja, jb, jc, jd, je, jf⟩ jn ad hid = (6, []) by rw [HO2.out, if_neg (fun hh => by have := HBE.out.2 hh.2.2.1; cases this)])
        go_wp2_with (go_at_call 20; refine EQ.out.mono ?_; rintro e w4 ⟨rfl, rfl⟩)
        all_goals (try go_ret2)
        all_goals exact END.out 6 [] HN.out _ _ (World.ownsRow_nil _ _ _ _) hB3.out
      | true =>
        have hja := HBE.out.1 rfl
        by_cases hln : lh = jtl + 16
        · have HY := Lib.hid (show openS st ⟨ja, jb, jc, jd, je, jf⟩ jn ad hid = (0, jtext) by rw [HO2.out, if_pos ⟨rfl, rfl, hja, hln⟩])
          have CL := Lib.hid (clone_any _ jtext w3 HRTJ.out (by rw [HJT.out ()]; omega))
          clear hja
          go_wp2_with (first
            | (go_at_call 20; refine EQ.out.mono ?_; rintro e w4 ⟨rfl, rfl⟩)
            | (go_at_call 52; refine CL.out.mono ?_; rintro e w5 ⟨v, rfl, hb5, ho5⟩))
          all_goals (try go_ret2)
          exact END.out 0 jtext HY.out _ _ (ownsRow_mono ho5 (by omega)) (bw_then hB3.out hb5 (by omega))
        · have HN := Lib.hid (show openS st ⟨ja, jb, jc, jd, je, jf⟩ jn ad hid = (6, []) by rw [HO2.out, if_neg (fun hh => hln hh.2.2.2)])
          have hjm : jtl ≤ 9223372036854775807 := by have := HRTJ.out.len; rw [bs_len, HJT.out ()] at this; exact this
          have hlI : ¬ ((lh : Int) = IntKind.i64.wrap ((jtl : Int) + 16)) := by rw [IntKind.wrap_i64]; omega
          have hwj : ∃ z, IntKind.i64.wrap ((jtl : Int) + 16) = z := ⟨_, rfl⟩
          obtain ⟨z, hz9⟩ := hwj
          rw [hz9] at hlI
          clear hja
          go_wp2_with (go_at_call 20; refine EQ.out.mono ?_; rintro e w4 ⟨rfl, rfl⟩)
          all_goals (try go_ret2)
          all_goals first | exact END.out 6 [] HN.out _ _ (World.ownsRow_nil _ _ _ _) hB3.out | (exfalso; omega)
    · have HN := Lib.hid (show openS st ⟨ia, ib, ic, id_, ie, if_⟩ n ad hid = (6, []) by rw [HO2.out, if_neg (fun hh => hE ⟨hh.1, hh.2.1⟩)])
      clear HO2 HH HH1 ENT SEA H2 B3 RT3 E1 E2 E3 E4 HO HE
      go_wp2_with fail
      all_goals (try go_ret2)
      all_goals first | exact END.out 6 [] HN.out _ _ (World.ownsRow_nil _ _ _ _) hB3.out | (exfalso; simp_all)
end Go.Proofs.YtdgpchacfdlleaaDoor
end

section
/-
  box: an ideal box checks a mark.
-/
namespace Go.Proofs.YtdgpchacfdlleaaDoor
open Go.RowKit

set_option maxRecDepth 100000 in
set_option maxHeartbeats 4000000 in
theorem check_ideal (w : World) (B g : Nat) (own : Nat → Prop) (sec : List Int) (st : BoxI) (kid : Kid) (vt vm : Value) (text mark : List Int) (h : BoxW w B own g sec true st)
    (hrt : Rd w vt (bs text)) (hT : IsB text) (hrm : Rd w vm (bs mark)) (hM : IsB mark) :
    Calls Tryd.prog 24 #[.pointer (some ⟨g, 0, none⟩), .agg kid.cells.toArray, vt, vm] w fun e w' => e = .returned (.bool (checkS st kid text mark)) ∧ Below w.heap.size w w' := by
  obtain ⟨Z, hZ⟩ : ∃ Z, w.heap.size = Z := ⟨_, rfl⟩
  obtain ⟨R, hR⟩ : ∃ R : Ending → World → Prop, (fun e w' => e = .returned (.bool (checkS st kid text mark)) ∧ Below w.heap.size w w') = R := ⟨_, rfl⟩
  rw [hR]
  have END : ∀ (b : Bool), checkS st kid text mark = b → ∀ w', Below Z w w' → R (.returned (.bool b)) w' := by
    intro b he w' hb
    rw [← hR, he, hZ]
    exact ⟨rfl, hb⟩
  have END := Lib.hid END
  obtain ⟨gu, vs, vS, vM, us, es, ms, H⟩ := h
  have hdg := H.dom g H.og
  rw [hZ] at hdg
  have ASK := Lib.hid (fun (w' : World) (hb : Below w.heap.size w w') => ask_any w' g _ kid 0 (H.head.stay hb) rfl)
  obtain ⟨r, hr⟩ : ∃ r, askB kid 0 = r := ⟨_, rfl⟩
  rw [hr] at ASK
  have e1 : (r ≠ 0 ∨ mark.length ≠ 32) → checkS st kid text mark = false := fun h0 => by
    unfold checkS; rw [if_pos (by rw [hr]; exact h0)]
  have e4 : r = 0 → mark.length = 32 → checkS st kid text mark = match (findL mark st.marks.length).bind (fun k => st.marks[k]?) with
    | none => false
    | some x => decide (x.id = kid) && decide (x.text = text) := fun h0 h1 => by
    unfold checkS; rw [if_neg (by rw [hr]; omega)]; rfl
  have E1 := Lib.hid (fun h w' hb => END.out _ (e1 h) w' hb)
  have E4 := Lib.hid e4
  clear e1 e4 hr hR
  obtain ⟨At, ct, rfl, hct, _⟩ := id hrt
  obtain ⟨Am, cm, rfl, hcm, _⟩ := id hrm
  simp only [bs_len] at hrt hrm hct hcm ⊢
  obtain ⟨lt, hlt⟩ : ∃ l, text.length = l := ⟨_, rfl⟩
  obtain ⟨lm, hlm⟩ : ∃ l, mark.length = l := ⟨_, rfl⟩
  rw [hlt] at hrt hct ⊢
  rw [hlm] at hrm hcm E1 E4 ⊢
  have HRT := Lib.hid hrt; have HRM := Lib.hid hrm; have HLT := Lib.hid (fun _ : Unit => hlt); have HLM := Lib.hid (fun _ : Unit => hlm)
  have HT := Lib.hid hT; have HM := Lib.hid hM; have HH := Lib.hid H
  clear hrt hrm hlt hlm hT hM
  obtain ⟨ia, ib, ic, id_, ie, if_⟩ := kid
  simp only [Kid.cells] at ASK ⊢
  go_enter Tryd.func24, Tryd.ntmps24
  go_upto_region 1 with fail
  obtain ⟨W, hW⟩ : ∃ W, w.alloc (.cells #[.int .i64 ia, .int .i64 ib, .int .i64 ic, .int .i64 id_, .int .i64 ie, .int .i64 if_] 23) = W := ⟨_, rfl⟩
  change Code.wp _ _ _ _ (w.alloc (.cells #[.int .i64 ia, .int .i64 ib, .int .i64 ic, .int .i64 id_, .int .i64 ie, .int .i64 if_] 23))
  have b0 : Blk W Z [.int .i64 ia, .int .i64 ib, .int .i64 ic, .int .i64 id_, .int .i64 ie, .int .i64 if_] 23 := by rw [← hW]; exact Blk.mk_ _ hZ.symm rfl
  have bb : Below Z w W := by rw [← hW]; exact bw_al (Below.refl _ _) (by omega) _
  have hz : W.heap.size = Z + 1 := by rw [← hW]; simp [hZ]
  rw [hW]
  clear hW
  have AW := Lib.hid (ASK.out W (by rw [hZ]; exact bb))
  have HB0 := Lib.hid b0; have HBB := Lib.hid bb
  clear H b0 bb ASK
  by_cases hr0 : r ≠ 0
  · go_wp2_with (first
      | (refine wp_load_blk rfl 23 (.tmp 5) rfl rfl HB0.out Tryd.underlying23 rfl (n := 6) (by kernel_rfl) rfl ?_)
      | (go_at_call 53; refine AW.out.mono ?_; rintro e w1 ⟨rfl, hb1⟩))
    all_goals (try go_ret)
    exact E1.out (.inl hr0) _ (bw_then HBB.out hb1 (by omega))
  obtain rfl : r = 0 := by omega
  clear hr0
  by_cases h32 : lm ≠ 32
  · have hI : ¬ ((lm : Int) = 32) := by omega
    go_wp2_with (first
      | (refine wp_load_blk rfl 23 (.tmp 5) rfl rfl HB0.out Tryd.underlying23 rfl (n := 6) (by kernel_rfl) rfl ?_)
      | (go_at_call 53; refine AW.out.mono ?_; rintro e w1 ⟨rfl, hb1⟩))
    all_goals (try go_ret)
    exact E1.out (.inr h32) _ (bw_then HBB.out hb1 (by omega))
  obtain rfl : lm = 32 := by omega
  clear h32
  have HO := Lib.hid (E4.out rfl rfl)
  have esl : ms.length = st.marks.length := by rw [← HH.out.marks, List.length_map]
  go_upto_region 3 with (first
    | (refine wp_load_blk rfl 23 (.tmp 5) rfl rfl HB0.out Tryd.underlying23 rfl (n := 6) (by kernel_rfl) rfl ?_)
    | (go_at_call 53; refine AW.out.mono ?_; rintro e w1 ⟨rfl, hb1⟩))
  have bb1 : Below Z w w1 := bw_then HBB.out hb1 (by omega)
  have hz1 := hb1.size
  have k1 := HB0.out.stay hb1
  have HB1 := Lib.hid bb1; have KK1 := Lib.hid k1
  have H1 := HH.out.stay (by rw [hZ]; exact bb1)
  have y1 := H1.head.at_ 1 rfl
  have FS := findM_any H1 (.slice Am 32 cm) mark (HRM.out.stay bb1 (by omega)) HM.out (by rw [HLM.out ()]; omega)
  rw [esl] at FS
  have FS := Lib.hid FS
  have HH1 := Lib.hid H1
  clear H1 bb1 k1 hb1 AW E1 E4 esl
  go_upto_region 5 with (first
    | (go_at_call 60; refine FS.out.mono ?_; rintro e w2 ⟨hb2, h2⟩; have H2 := Lib.hid h2; obtain ⟨cs9, bo, hcs9, hb9, rfl⟩ : ∃ (cs : List Value) (b : Bool), cs.length = 7 ∧ (∀ y ∈ cs, y.oneCell' = true) ∧ e = .returned (.tuple #[.agg cs.toArray, .bool b]) := (by
        rcases h2 with ⟨_, rfl⟩ | ⟨k, x, _, hx, rfl⟩
        · exact ⟨zero7, false, rfl, by intro y hy; simp [zero7] at hy; rcases hy with rfl | rfl <;> rfl, rfl⟩
        · exact ⟨x.cells, true, rfl, EntM.one (HH.out.entM x (List.mem_of_getElem? hx)), rfl⟩); clear h2)
    | (refine wp_store_blk rfl 136 (.tmp 9) (.tmp 32) rfl rfl rfl (cs' := cs9) (Blk.mk_ (cs := zero7) _ rfl rfl) hb9 hcs9 (n := 7) (by kernel_rfl) hcs9 ?_; intro w3 b3 on3))
  have hb3 : Below Z w w3 := on3.below (bw_al (bw_then HB1.out hb2 (by omega)) (by have := hb2.size; omega) _) (by have := hb2.size; omega)
  have hz3 : w2.heap.size < w3.heap.size := by rw [on3.size]; simp
  have hB3 := Lib.hid hb3
  have l13 : Below w1.heap.size w1 w3 := on3.below (bw_al hb2 hb2.size _) hb2.size
  have k3 := KK1.out.stay l13
  have KK3 := Lib.hid k3
  have rt3 : ∀ v xs, EntOk w1 own v xs → Rd w3 v (bs xs) := fun v xs he => he.rd.stay l13 (Nat.le_refl _)
  have RT3 := Lib.hid rt3
  have ENT := Lib.hid HH1.out.entM
  have SEA := Lib.hid HH.out.marks
  obtain ⟨q, hq⟩ : ∃ q, w2.heap.size = q := ⟨_, rfl⟩
  rw [hq] at b3 hz3 ⊢
  have B3 := Lib.hid b3
  have hqZ : Z ≤ q := by have := hb2.size; omega
  clear hb3 k3 rt3 on3 hb2 hq b3 y1 l13
  rcases H2.out with ⟨hn, he⟩ | ⟨k, x, hfk, hx, he⟩
  · injection he with he
    injection he with he
    have ho := HO.out
    rw [hn] at ho
    obtain ⟨hc1, hc2⟩ : cs9 = zero7 ∧ bo = false := by simpa using he
    subst hc1 hc2
    have HN := Lib.hid ho
    clear he hn ho
    go_wp2_with fail
    all_goals (try go_ret)
    exact END.out _ HN.out _ hB3.out
  · injection he with he
    injection he with he
    have ho := HO.out
    have hx' : st.marks[k]? = some x.x := by rw [← SEA.out, List.getElem?_map, hx]; rfl
    rw [hfk, Option.bind_some, hx'] at ho
    simp only at ho
    obtain ⟨hc1, hc2⟩ : cs9 = x.cells ∧ bo = true := by simpa using he
    subst hc1 hc2
    have hent := ENT.out x (List.mem_of_getElem? hx)
    obtain ⟨⟨⟨ja, jb, jc, jd, je, jf⟩, jtext⟩, jt9⟩ := x
    simp only at ho hent
    have hrt := RT3.out _ _ hent
    obtain ⟨At9, ct9, rfl, hct9, _⟩ := id hrt
    simp only [bs_len] at hrt hct9
    have HE := Lib.hid hent
    have HO2 := Lib.hid ho
    have HRTJ := Lib.hid hrt
    have b3 : Blk w3 q [.int .i64 ja, .int .i64 jb, .int .i64 jc, .int .i64 jd, .int .i64 je, .int .i64 jf, .slice At9 jtext.length ct9] 136 := by
      have := B3.out
      simpa [EntM.cells, Kid.cells, bs_len] using this
    have c0 := b3.at_ 0 rfl
    have c1 := b3.at_ 1 rfl
    have c2 := b3.at_ 2 rfl
    have c3 := b3.at_ 3 rfl
    have c4 := b3.at_ 4 rfl
    have c5 := b3.at_ 5 rfl
    have c6 := b3.at_ 6 rfl
    have d0 := KK3.out.at_ 0 rfl
    have d1 := KK3.out.at_ 1 rfl
    have d2 := KK3.out.at_ 2 rfl
    have d3 := KK3.out.at_ 3 rfl
    have d4 := KK3.out.at_ 4 rfl
    have d5 := KK3.out.at_ 5 rfl
    clear he hent ho hrt hx hx' hfk hb9 hcs9 b3 FS
    obtain ⟨jtl, hjtl⟩ : ∃ l, jtext.length = l := ⟨_, rfl⟩
    rw [hjtl] at c6 HRTJ hct9
    clear hjtl
    by_cases hE : (⟨ja, jb, jc, jd, je, jf⟩ : Kid) = ⟨ia, ib, ic, id_, ie, if_⟩
    · have hE0 := hE
      injection hE with h1 h2 h3 h4 h5 h6
      subst h1 h2 h3 h4 h5 h6
      have EQ := Lib.hid (equal_any _ _ jtext text w3 HRTJ.out (HRT.out.stay hB3.out (by omega)) HE.out.isB HT.out)
      have HN := Lib.hid (show checkS st ⟨ja, jb, jc, jd, je, jf⟩ text mark = eqB jtext text by
        rw [HO2.out, decide_eq_true rfl, Bool.true_and, eqB]
        by_cases hh : jtext = text
        · simp [hh]
        · simp [hh])
      obtain ⟨be, hbe⟩ : ∃ be, eqB jtext text = be := ⟨_, rfl⟩
      rw [hbe] at EQ HN
      clear hbe HH HH1 ENT SEA H2 B3 RT3 hE0 HO HO2
      go_wp2_with (go_at_call 20; refine EQ.out.mono ?_; rintro e w4 ⟨rfl, rfl⟩)
      all_goals (try go_ret)
      all_goals exact END.out _ HN.out _ hB3.out
    · have HN := Lib.hid (show checkS st ⟨ia, ib, ic, id_, ie, if_⟩ text mark = false by rw [HO2.out, decide_eq_false hE, Bool.false_and])
      clear HO2 HH HH1 ENT SEA H2 B3 RT3 HO HE
      go_wp2_with fail
      all_goals (try go_ret)
      all_goals first | exact END.out _ HN.out _ hB3.out | (exfalso; simp_all)
end Go.Proofs.YtdgpchacfdlleaaDoor
end

section
/-
  box: a new one; how much was sealed.
-/
namespace Go.Proofs.YtdgpchacfdlleaaDoor
open Go.RowKit

theorem no_hold (b : Nat) : ¬ hold (.slice none 0 0) b := by rintro ⟨o, n, c, h⟩; cases h
set_option maxRecDepth 100000 in
theorem newbox_any (w : World) (v : Value) (sec : List Int) (ideal : Bool) (hr : Rd w v (bs sec)) (hB : IsB sec) (hl : sec.length ≤ 70368744177664) :
    Calls Tryd.prog 17 #[v, .bool ideal] w fun e w' => ∃ g own, e = .returned (.pointer (some ⟨g, 0, none⟩)) ∧ BoxW w' w.heap.size own g sec ideal BoxI.new ∧ Below w.heap.size w w' := by
  have CL := Lib.hid (clone_any v sec w hr (by omega))
  have HB := Lib.hid hB
  clear hr hB
  have hmm := @run_makeMap Tryd.prog
  go_enter Tryd.func17, Tryd.ntmps17
  go_wp2_with (go_at_call 52; refine CL.out.mono ?_; rintro e w1 ⟨v1, rfl, hb1, ho1⟩; obtain ⟨A1, c1, rfl⟩ := row_slice ho1)
  all_goals go_ret
  have hz := hb1.size
  have e1 : Below w1.heap.size w1 ((w1.alloc (.map #[] 0)).alloc (.cells #[.slice A1 sec.length c1, .bool ideal, .bool true, .slice none 0 0, .slice none 0 0, .map (some w1.heap.size), .int .i64 0, .int .i64 0] 59)) := bw_al (bw_al (Below.refl _ _) (Nat.le_refl _) _) (by simp) _
  have hlt : ∀ b, hold (.slice A1 sec.length c1) b → w.heap.size ≤ b ∧ b < w1.heap.size := fun b h => row_new ho1 h
  refine ⟨w1.heap.size + 1, fun b => b = w1.heap.size ∨ b = w1.heap.size + 1 ∨ hold (.slice A1 sec.length c1) b, by simp, ⟨w1.heap.size, .slice A1 sec.length c1, .slice none 0 0, .slice none 0 0, [], [], [], ?_⟩, bw_then hb1 e1 hz⟩
  refine ⟨Blk.mk_ _ (by simp) rfl, World.ownsRow_nil _ _ _ _, World.ownsRow_nil _ _ _ _, (KMap.made _ w1).stay (bw_al (Below.refl _ _) (Nat.le_refl _) _), Uses.nil, rfl, rfl, ?_, (fun _ h => nomatch h), (fun _ h => nomatch h), .inr (.inl rfl), .inl rfl, fun b hb => absurd hb (no_hold b), fun b hb => absurd hb (no_hold b), by omega, fun b hb => ?_⟩
  · exact (EntOk.of_own (own := fun b => b = w1.heap.size ∨ b = w1.heap.size + 1 ∨ hold (.slice A1 sec.length c1) b) ho1 HB.out fun b hb => .inr (.inr hb)).moves (S := fun _ => False) (Turns.of_below e1) (fun _ _ h => h) (fun _ _ h => h)
  · simp only [World.size_alloc]
    rcases hb with rfl | rfl | hb
    · omega
    · omega
    · have := hlt b hb; omega
theorem sealed_any {w : World} {B g : Nat} {own : Nat → Prop} {sec : List Int} {ideal : Bool} {st : BoxI} (h : BoxW w B own g sec ideal st) :
    Calls Tryd.prog 29 #[.pointer (some ⟨g, 0, none⟩)] w fun e w' => e = .returned (.int .i64 st.uses.length) ∧ w = w' := by
  obtain ⟨gu, vs, vS, vM, us, es, ms, H⟩ := h
  have y6 := H.head.at_ 6 rfl
  clear H
  go_enter Tryd.func29, Tryd.ntmps29
  go_wp2_with fail
  all_goals go_ret
  exact ⟨rfl, rfl⟩
theorem repeats_any {w : World} {B g : Nat} {own : Nat → Prop} {sec : List Int} {ideal : Bool} {st : BoxI} (h : BoxW w B own g sec ideal st) :
    Calls Tryd.prog 30 #[.pointer (some ⟨g, 0, none⟩)] w fun e w' => e = .returned (.int .i64 (reps st.uses)) ∧ w = w' := by
  obtain ⟨gu, vs, vS, vM, us, es, ms, H⟩ := h
  have y7 := H.head.at_ 7 rfl
  clear H
  go_enter Tryd.func30, Tryd.ntmps30
  go_wp2_with fail
  all_goals go_ret
  exact ⟨rfl, rfl⟩
end Go.Proofs.YtdgpchacfdlleaaDoor
end

section
/-
  The box of either kind: its calls, in one form each.
-/
namespace Go.Proofs.YtdgpchacfdlleaaDoor
open Go.RowKit

/-- Which real boxes are covered. -/
def RealOK (_R : RealF) : Prop := False
def Kind (R : RealF) (ideal : Bool) : Prop := ideal = true ∨ RealOK R
theorem Kind.ideal (R : RealF) : Kind R true := .inl rfl
/-- A box, and where it may lie: above all that was there at first. -/
structure BoxUp (w0 w : World) (own : Nat → Prop) (g : Nat) (sec : List Int) (ideal : Bool) (st : BoxI) : Prop where
  box : BoxW w w0.heap.size own g sec ideal st
  low : Below w0.heap.size w0 w
section
variable {w0 w w' : World} {own : Nat → Prop} {g : Nat} {sec : List Int} {ideal : Bool} {st : BoxI}
theorem BoxUp.stay (h : BoxUp w0 w own g sec ideal st) (k : Below w.heap.size w w') : BoxUp w0 w' own g sec ideal st := ⟨h.box.stay k, bw_then h.low k h.low.size⟩
theorem BoxUp.turns {S : Nat → Prop} (h : BoxUp w0 w own g sec ideal st) (k : Turns S w w') (hn : ∀ b, own b → ¬ S b) (hs : ∀ b, S b → w0.heap.size ≤ b) : BoxUp w0 w' own g sec ideal st :=
  ⟨h.box.turns k hn, Turns.below h.low k h.low.size hs⟩
theorem BoxUp.fresh (h : BoxUp w0 w own g sec ideal st) {b : Nat} (hb : w.heap.size ≤ b) : ¬ own b := fun ho => by have := h.box.dom b ho; omega
theorem BoxUp.old (h : BoxUp w0 w own g sec ideal st) {b : Nat} (hb : b < w0.heap.size) : ¬ own b := fun ho => by have := h.box.dom b ho; omega
theorem BoxAt.mono {B B' gu : Nat} {vs vS vM : Value} {us : List (Bt × Value)} {es : List EntS} {ms : List EntM} (h : BoxAt w B own g gu vs vS vM sec ideal st us es ms) (hB : B' ≤ B) : BoxAt w B' own g gu vs vS vM sec ideal st us es ms :=
  ⟨h.head, ownsRow_mono h.rowS hB, ownsRow_mono h.rowM hB, h.map, h.uses, h.seals, h.marks, h.sec, h.entS, h.entM, h.og, h.ogu, h.oS, h.oM, h.ne, fun b hb => ⟨Nat.le_trans hB (h.dom b hb).1, (h.dom b hb).2⟩⟩
theorem BoxW.mono {B B' : Nat} (h : BoxW w B own g sec ideal st) (hB : B' ≤ B) : BoxW w B' own g sec ideal st := by
  obtain ⟨gu, vs, vS, vM, us, es, ms, h⟩ := h
  exact ⟨gu, vs, vS, vM, us, es, ms, h.mono hB⟩
end
/-- What a call that turns a box comes to. -/
def ResU (w0 w : World) (own : Nat → Prop) (g : Nat) (sec : List Int) (ideal : Bool) (out : List Int) (code : Int) (st' : BoxI) (e : Ending) (w' : World) : Prop :=
  ∃ v own', e = .returned (.tuple #[v, .int .i64 code]) ∧ Rd w' v (bs out) ∧ (∀ b, hold v b → w.heap.size ≤ b ∧ b < w'.heap.size ∧ ¬ own' b) ∧ BoxUp w0 w' own' g sec ideal st' ∧ (∀ b, b < w.heap.size → (own' b ↔ own b)) ∧ Turns own w w' ∧ IsB out ∧ ∀ b, hold v b → ∃ cur, w'.heap[b]? = some (.cells cur 5 (0, 0))
theorem ResU.of {w0 w w' : World} {own : Nat → Prop} {g : Nat} {sec : List Int} {ideal : Bool} {st : BoxI} (h : BoxUp w0 w own g sec ideal st) {out : List Int} {code : Int} {st' : BoxI} {e : Ending} (r : BoxRes w w0.heap.size own g sec ideal out code st' e w') (hB : IsB out) : ResU w0 w own g sec ideal out code st' e w' := by
  obtain ⟨v, own', rfl, h1, h2, h3, h4, h5⟩ := r
  refine ⟨v, own', rfl, Rd.of_own h1, fun b hb => ?_, ⟨h2, Turns.below h.low h5 h.low.size fun b hb => (h.box.dom b hb).1⟩, h4, h5, hB, fun b hb => row_blk h1 hb⟩
  have := row_new h1 hb
  exact ⟨this.1, this.2, h3 b hb⟩
section
variable {w0 w : World} {own : Nat → Prop} {g : Nat} {sec : List Int} {ideal : Bool} {st : BoxI}
theorem sealU (R : RealF) (hK : Kind R ideal) (h : BoxUp w0 w own g sec ideal st) (hf : Few st) (kid : Kid) (n : Int) (hid : kid.In) (hn : InI n) (va vt : Value) (ad text : List Int)
    (hra : Rd w va (bs ad)) (hA : IsB ad) (hrt : Rd w vt (bs text)) (hT : IsB text) (hna : ad ≠ [] → ∀ b, hold va b → ¬ own b) (hnt : text ≠ [] → ∀ b, hold vt b → ¬ own b) :
    Calls Tryd.prog 18 #[.pointer (some ⟨g, 0, none⟩), .agg kid.cells.toArray, .int .i64 n, va, vt] w (ResU w0 w own g sec ideal (sealX R sec ideal st kid n ad text).2.1 (sealX R sec ideal st kid n ad text).1 (sealX R sec ideal st kid n ad text).2.2) := by
  rcases hK with rfl | hK
  · rw [sealX_ideal]
    exact (seal_ideal w _ g own sec st kid n va vt ad text h.box hf hid hn hra hA hrt hT hna hnt).mono fun e w' r => ResU.of h r (sealS_isB _ _ _ _ _)
  · exact absurd hK id
theorem markU (R : RealF) (hK : Kind R ideal) (h : BoxUp w0 w own g sec ideal st) (hf : Few st) (kid : Kid) (vt : Value) (text : List Int) (hrt : Rd w vt (bs text)) (hT : IsB text) (hl : text.length ≤ 70368744177664) :
    Calls Tryd.prog 22 #[.pointer (some ⟨g, 0, none⟩), .agg kid.cells.toArray, vt] w (ResU w0 w own g sec ideal (markX R sec ideal st kid text).2.1 (markX R sec ideal st kid text).1 (markX R sec ideal st kid text).2.2) := by
  rcases hK with rfl | hK
  · rw [markX_ideal]
    exact (mark_ideal w _ g own sec st kid vt text h.box hf hrt hT hl).mono fun e w' r => ResU.of h r (markS_isB _ _ _)
  · exact absurd hK id
theorem openU (R : RealF) (hK : Kind R ideal) (h : BoxUp w0 w own g sec ideal st) (kid : Kid) (n : Int) (va vh : Value) (ad hidden : List Int) (hra : Rd w va (bs ad)) (hA : IsB ad) (hrh : Rd w vh (bs hidden)) (hH : IsB hidden) :
    Calls Tryd.prog 19 #[.pointer (some ⟨g, 0, none⟩), .agg kid.cells.toArray, .int .i64 n, va, vh] w fun e w' => ∃ v, e = .returned (.tuple #[v, .int .i64 (openX R sec ideal st kid n ad hidden).1]) ∧ Rd w' v (bs (openX R sec ideal st kid n ad hidden).2) ∧ (∀ b, hold v b → w.heap.size ≤ b ∧ b < w'.heap.size) ∧ Below w.heap.size w w' := by
  rcases hK with rfl | hK
  · rw [openX_ideal]
    exact (open_ideal w _ g own sec st kid n va vh ad hidden h.box hra hA hrh hH).mono fun e w' ⟨v, h1, h2, h3⟩ => ⟨v, h1, Rd.of_own h2, fun b hb => row_new h2 hb, h3⟩
  · exact absurd hK id
theorem checkU (R : RealF) (hK : Kind R ideal) (h : BoxUp w0 w own g sec ideal st) (kid : Kid) (vt vm : Value) (text mark : List Int) (hrt : Rd w vt (bs text)) (hT : IsB text) (hrm : Rd w vm (bs mark)) (hM : IsB mark) :
    Calls Tryd.prog 24 #[.pointer (some ⟨g, 0, none⟩), .agg kid.cells.toArray, vt, vm] w fun e w' => e = .returned (.bool (checkX R sec ideal st kid text mark)) ∧ Below w.heap.size w w' := by
  rcases hK with rfl | hK
  · rw [checkX_ideal]
    exact check_ideal w _ g own sec st kid vt vm text mark h.box hrt hT hrm hM
  · exact absurd hK id
end
theorem newU (w0 w : World) (v : Value) (sec : List Int) (ideal : Bool) (hr : Rd w v (bs sec)) (hB : IsB sec) (hl : sec.length ≤ 70368744177664) (hb : Below w0.heap.size w0 w) :
    Calls Tryd.prog 17 #[v, .bool ideal] w fun e w' => ∃ g own, e = .returned (.pointer (some ⟨g, 0, none⟩)) ∧ BoxUp w0 w' own g sec ideal BoxI.new ∧ Below w.heap.size w w' ∧ ∀ b, own b → w.heap.size ≤ b :=
  (newbox_any w v sec ideal hr hB hl).mono fun _ _ ⟨g, own, h1, h2, h3⟩ => ⟨g, own, h1, ⟨h2.mono hb.size, bw_then hb h3 hb.size⟩, h3, fun b hb => (h2.dom b hb).1⟩
end Go.Proofs.YtdgpchacfdlleaaDoor
end

section
/-
  pipe: where an end lies; its small calls.
-/
namespace Go.Proofs.YtdgpchacfdlleaaDoor
open Go.RowKit

abbrev nI (n : Nat) : Value := .int .i64 (n : Int)
/-- An end's cells. -/
def pipeC (gb : Nat) (p : PipeS) : List Value :=
  [.pointer (some ⟨gb, 0, none⟩), .int .i64 p.k.life, .int .i64 p.k.conn, .int .i64 p.k.peer, nI p.side, .int .i64 0, nI p.S, .int .i64 0, .int .i64 0, .int .i64 0, nI p.E, .int .i64 0,
    nI (p.c0 / p.S), nI (p.c0 % p.S), nI p.c0, nI (p.c1 / p.S), nI (p.c1 % p.S), nI p.c1, .bool p.closed]
theorem kid_any (w : World) (life conn peer label e s : Int) : Calls Tryd.prog 84 #[.agg #[.int .i64 life, .int .i64 conn, .int .i64 peer], .int .i64 label, .int .i64 e, .int .i64 s] w fun r w' => r = .returned (.agg #[.int .i64 label, .int .i64 e, .int .i64 life, .int .i64 conn, .int .i64 s, .int .i64 peer]) ∧ Below w.heap.size w w' := by
  obtain ⟨Z, hZ⟩ : ∃ z, w.heap.size = z := ⟨_, rfl⟩
  go_enter Tryd.func84, Tryd.ntmps84
  go_wp2_with (refine wp_store_blk rfl 23 (.tmp 8) (.tmp 18) rfl rfl rfl (cs' := [.int .i64 label, .int .i64 e, .int .i64 life, .int .i64 conn, .int .i64 s, .int .i64 peer]) (Blk.mk_ (cs := [.int .i64 0, .int .i64 0, .int .i64 0, .int .i64 0, .int .i64 0, .int .i64 0]) _ (by simp [hZ]) rfl) (by intro y hy; simp at hy; rcases hy with rfl | rfl | rfl | rfl | rfl | rfl <;> rfl) rfl (n := 6) (by kernel_rfl) rfl ?_; intro w1 b1 on1)
  refine ret_blk rfl rfl b1 Tryd.underlying23 rfl (n := 6) (by kernel_rfl) rfl rfl ?_
  refine ⟨rfl, ?_⟩
  have := on1.below (bw_al (bw_al (Below.refl Z w) (by omega) _) (by simp; omega) _) (show Z ≤ Z + 1 by omega)
  first | exact this | (rw [hZ]; exact this)
theorem fid_any (w : World) (k : KeyS) (e s : Int) : Calls Tryd.prog 49 #[.agg #[.int .i64 k.life, .int .i64 k.conn, .int .i64 k.peer], .int .i64 e, .int .i64 s] w fun r w' => r = .returned (.agg (fid k e s).cells.toArray) ∧ Below w.heap.size w w' := by
  obtain ⟨life, conn, peer⟩ := k
  obtain ⟨Z, hZ⟩ : ∃ z, w.heap.size = z := ⟨_, rfl⟩
  simp only [fid, Kid.cells]
  have KA := Lib.hid (fun w' => kid_any w' life conn peer 6 e s)
  go_enter Tryd.func49, Tryd.ntmps49
  go_upto_region 1 with fail
  obtain ⟨W, hW⟩ : ∃ W, (w.alloc (.cells #[.int .i64 life, .int .i64 conn, .int .i64 peer] 68)).alloc (.cells #[.int .i64 0, .int .i64 0, .int .i64 0, .int .i64 0, .int .i64 0, .int .i64 0] 23) = W := ⟨_, rfl⟩
  have b0 : Blk W Z [.int .i64 life, .int .i64 conn, .int .i64 peer] 68 := by rw [← hW]; exact (Blk.mk_ _ hZ.symm rfl).al _
  have b1 : Blk W (Z + 1) [.int .i64 0, .int .i64 0, .int .i64 0, .int .i64 0, .int .i64 0, .int .i64 0] 23 := by rw [← hW]; exact Blk.mk_ _ (by simp [hZ]) rfl
  have bb : Below Z w W := by rw [← hW]; exact bw_al (bw_al (Below.refl _ _) (by omega) _) (by simp; omega) _
  have hsz : Z + 2 ≤ W.heap.size := by rw [← hW]; simp; omega
  rw [hW]
  have y0 := b0.at_ 0 rfl
  have y1 := b0.at_ 1 rfl
  have y2 := b0.at_ 2 rfl
  have B1 := Lib.hid b1; have BB := Lib.hid bb
  clear hW b0 b1 bb
  go_wp2_with (first
    | (go_at_call 84; refine (KA.out _).mono ?_; rintro r w1 ⟨rfl, hb1⟩)
    | (refine wp_store_blk rfl 23 (.tmp 6) (.tmp 10) rfl rfl rfl (cs' := [.int .i64 6, .int .i64 e, .int .i64 life, .int .i64 conn, .int .i64 s, .int .i64 peer]) (B1.out.stay hb1) (by intro y hy; simp at hy; rcases hy with rfl | rfl | rfl | rfl | rfl | rfl <;> rfl) rfl (n := 6) (by kernel_rfl) rfl ?_; intro w2 b2 on2))
  refine ret_blk rfl rfl b2 Tryd.underlying23 rfl (n := 6) (by kernel_rfl) rfl rfl ?_
  refine ⟨rfl, ?_⟩
  have := on2.below (bw_then BB.out hb1 (by omega)) (show Z ≤ Z + 1 by omega)
  first | exact this | (rw [hZ]; exact this)
theorem popen_any (w : World) (g gb : Nat) (p : PipeS) (hb : Blk w g (pipeC gb p) 119) : Calls Tryd.prog 70 #[.pointer (some ⟨g, 0, none⟩)] w fun r w' => r = .returned (.int .i64 (if p.closed = true then 14 else 0)) ∧ w = w' := by
  have y0 := hb.at_ 0 (v := .pointer (some ⟨gb, 0, none⟩)) rfl
  have y18 := hb.at_ 18 (v := .bool p.closed) rfl
  obtain ⟨c, hc⟩ : ∃ c, p.closed = c := ⟨_, rfl⟩
  rw [hc] at y18 ⊢
  clear hb hc
  cases c with
  | true =>
    go_enter Tryd.func70, Tryd.ntmps70
    go_wp2_with fail
    all_goals (try go_ret)
    exact ⟨rfl, rfl⟩
  | false =>
    go_enter Tryd.func70, Tryd.ntmps70
    go_wp2_with fail
    all_goals (try go_ret)
    exact ⟨rfl, rfl⟩
end Go.Proofs.YtdgpchacfdlleaaDoor
end

section
/-
  pipe: whether there is a next frame; on to the next one.
-/
namespace Go.Proofs.YtdgpchacfdlleaaDoor
open Go.RowKit

set_option maxRecDepth 100000 in
set_option maxHeartbeats 1000000 in
theorem spent_any (w : World) (g gb : Nat) (p : PipeS) (s : Nat) (hs : s < 2) (hb : Blk w g (pipeC gb p) 119) : Calls Tryd.prog 98 #[.pointer (some ⟨g, 0, none⟩), .int .i64 s] w fun r w' => r = .returned (.bool (p.spent s)) ∧ Below w.heap.size w w' := by
  have y6 : w.drew.cell? ⟨g, 6, none⟩ = some (nI p.S) := hb.d1.at_ 6 rfl
  have y10 : w.drew.cell? ⟨g, 10, none⟩ = some (nI p.E) := hb.d1.at_ 10 rfl
  have y12 : w.drew.cell? ⟨g, 12, none⟩ = some (nI (p.c0 / p.S)) := hb.d1.at_ 12 rfl
  have y15 : w.drew.cell? ⟨g, 15, none⟩ = some (nI (p.c1 / p.S)) := hb.d1.at_ 15 rfl
  unfold nI at y6 y10 y12 y15
  have hdr : Below w.heap.size w w.drew := bw_d1 (Below.refl _ _)
  have HD := Lib.hid hdr
  clear hb hdr
  by_cases hS : p.S = 0
  · have hsp : p.spent s = true := by unfold PipeS.spent; simp [hS]
    rw [hsp]
    have hS0 : (p.S : Int) = 0 := by omega
    rw [hS0] at y6
    have HSP := Lib.hid hsp
    clear hsp hS hS0 y10 y12 y15
    go_enter Tryd.func98, Tryd.ntmps98
    go_upto_region 1 with fail
    refine region_plan ⟨[0, 1, 3, 7, 15, 31, 63, 127, 127, 255, 767, 2047, 4095, 8191, 127, 16511, 49279, 114815, 245887, 524287, 1048575, 2097151], [], [0, 0, 0, 0, 0, 0, 0, 0, 0, 0, 0, 0, 0, 0, 0, 0, 0, 0, 0, 0, 0, 0]⟩
      [⟨[0, 1, 2, 3, 4, 5, 6, 7, 8, 9, 10, 11, 12, 13, 14, 15, 16, 17, 18, 19, 20, 21], [1, 2, 3, 4, 5, 9, 10, 11, 12, 13, 15, 16, 17, 18, 19], none⟩] 26 (by kernel_rfl) (by kernel_rfl) (by kernel_rfl) (by kernel_rfl) rfl ?_
    simp only [SeqGo, opsAt_cons, opsAt_nil, List.getElem?_cons, Option.toList_some, List.singleton_append, ↓reduceIte, Nat.reduceEqDiff, Nat.reduceSub]
    go_wp2_with fail
    iterate 3 (try (first | refine And.intro (a := True) trivial ?_ | refine And.intro (show Sames _ _ _ _ _ from by (simp only [Sames, Same]; go_simp; try simp [undef])) ?_); try go_wp2_with fail)
    all_goals (try go_ret)
    exact ⟨rfl, HD.out⟩
  · have hsp : p.spent s = decide (p.E < p.cnt s / p.S) := by unfold PipeS.spent; simp [hS]
    obtain ⟨S, hSS⟩ : ∃ S, p.S = S := ⟨_, rfl⟩
    obtain ⟨E, hE⟩ : ∃ E, p.E = E := ⟨_, rfl⟩
    obtain ⟨q0, hq0⟩ : ∃ q, p.c0 / p.S = q := ⟨_, rfl⟩
    obtain ⟨q1, hq1⟩ : ∃ q, p.c1 / p.S = q := ⟨_, rfl⟩
    rw [hq0] at y12
    rw [hq1] at y15
    rw [hSS] at y6 hS
    rw [hE] at y10
    have hS0 : ¬ ((S : Int) = 0) := by omega
    have HS := Lib.hid hS
    rcases (show s = 0 ∨ s = 1 by omega) with rfl | rfl
    · have e : p.cnt 0 / p.S = q0 := hq0
      rw [hsp, e, hE]
      clear hsp e hq0 hq1 hSS hE hS
      go_enter Tryd.func98, Tryd.ntmps98
      go_upto_region 1 with fail
      refine region_plan ⟨[0, 1, 3, 7, 15, 31, 63, 127, 127, 255, 767, 2047, 4095, 8191, 127, 16511, 49279, 114815, 245887, 524287, 1048575, 2097151], [], [0, 0, 0, 0, 0, 0, 0, 0, 0, 0, 0, 0, 0, 0, 0, 0, 0, 0, 0, 0, 0, 0]⟩
        [⟨[0, 1, 2, 3, 4, 5, 6, 7, 8, 9, 10, 11, 12, 13, 14, 15, 16, 17, 18, 19, 20, 21], [1, 2, 3, 4, 5, 9, 10, 11, 12, 13, 15, 16, 17, 18, 19], none⟩] 26 (by kernel_rfl) (by kernel_rfl) (by kernel_rfl) (by kernel_rfl) rfl ?_
      simp only [SeqGo, opsAt_cons, opsAt_nil, List.getElem?_cons, Option.toList_some, List.singleton_append, ↓reduceIte, Nat.reduceEqDiff, Nat.reduceSub]
      go_wp2_with fail
      iterate 3 (try (first | refine And.intro (a := True) trivial ?_ | refine And.intro (show Sames _ _ _ _ _ from by (simp only [Sames, Same]; go_simp; try simp [undef])) ?_); try go_wp2_with fail)
      all_goals (try go_ret)
      exact ⟨by first | rfl | simp [HS.out], HD.out⟩
    · have e : p.cnt 1 / p.S = q1 := hq1
      rw [hsp, e, hE]
      clear hsp e hq0 hq1 hSS hE hS
      go_enter Tryd.func98, Tryd.ntmps98
      go_upto_region 1 with fail
      refine region_plan ⟨[0, 1, 3, 7, 15, 31, 63, 127, 127, 255, 767, 2047, 4095, 8191, 127, 16511, 49279, 114815, 245887, 524287, 1048575, 2097151], [], [0, 0, 0, 0, 0, 0, 0, 0, 0, 0, 0, 0, 0, 0, 0, 0, 0, 0, 0, 0, 0, 0]⟩
        [⟨[0, 1, 2, 3, 4, 5, 6, 7, 8, 9, 10, 11, 12, 13, 14, 15, 16, 17, 18, 19, 20, 21], [1, 2, 3, 4, 5, 9, 10, 11, 12, 13, 15, 16, 17, 18, 19], none⟩] 26 (by kernel_rfl) (by kernel_rfl) (by kernel_rfl) (by kernel_rfl) rfl ?_
      simp only [SeqGo, opsAt_cons, opsAt_nil, List.getElem?_cons, Option.toList_some, List.singleton_append, ↓reduceIte, Nat.reduceEqDiff, Nat.reduceSub]
      go_wp2_with fail
      iterate 3 (try (first | refine And.intro (a := True) trivial ?_ | refine And.intro (show Sames _ _ _ _ _ from by (simp only [Sames, Same]; go_simp; try simp [undef])) ?_); try go_wp2_with fail)
      all_goals (try go_ret)
      exact ⟨by first | rfl | simp [HS.out], HD.out⟩
theorem succ_div {c S : Nat} (h : 0 < S) : (c % S + 1 = S → (c + 1) / S = c / S + 1 ∧ (c + 1) % S = 0) ∧ (c % S + 1 ≠ S → (c + 1) / S = c / S ∧ (c + 1) % S = c % S + 1) := by
  have h1 := Nat.div_add_mod c S
  have h2 := Nat.mod_lt c h
  refine ⟨fun e => ?_, fun e => ?_⟩
  · have : c + 1 = (c / S + 1) * S := by rw [Nat.add_mul, Nat.mul_comm]; omega
    rw [this]
    exact ⟨Nat.mul_div_cancel _ h, Nat.mul_mod_left _ _⟩
  · have h3 : c + 1 = (c % S + 1) + S * (c / S) := by omega
    have h4 : c % S + 1 < S := by omega
    refine ⟨?_, ?_⟩
    · rw [h3, Nat.add_mul_div_left _ _ h, Nat.div_eq_of_lt h4, Nat.zero_add]
    · rw [h3, Nat.add_mul_mod_self_left, Nat.mod_eq_of_lt h4]
end Go.Proofs.YtdgpchacfdlleaaDoor
end

section
/-
  pipe: on to the next frame.
-/
namespace Go.Proofs.YtdgpchacfdlleaaDoor
open Go.RowKit

set_option linter.unusedSimpArgs false in
set_option maxRecDepth 100000 in
set_option maxHeartbeats 1000000 in
theorem step_any (w : World) (g gb : Nat) (p : PipeS) (s : Nat) (hs : s < 2) (hS : 0 < p.S) (hc : p.cnt s ≤ 1000000000000000) (hb : Blk w g (pipeC gb p) 119) :
    Calls Tryd.prog 99 #[.pointer (some ⟨g, 0, none⟩), .int .i64 s] w fun r w' => r = .returned (.tuple #[]) ∧ Blk w' g (pipeC gb (p.step s)) 119 ∧ Turns (fun k => k = g) w w' := by
  rcases (show s = 0 ∨ s = 1 by omega) with rfl | rfl
  · have y6 : w.cell? ⟨g, 6, none⟩ = some (nI p.S) := hb.at_ 6 rfl
    have y12 : w.cell? ⟨g, 12, none⟩ = some (nI (p.c0 / p.S)) := hb.at_ 12 rfl
    have y13 : w.cell? ⟨g, 13, none⟩ = some (nI (p.c0 % p.S)) := hb.at_ 13 rfl
    have y14 : w.cell? ⟨g, 14, none⟩ = some (nI p.c0) := hb.at_ 14 rfl
    have f14 := hb.free 14
    have f13 := hb.free 13
    have f132 := (hb.set 14 (.int .i64 ((p.c0 : Int) + 1))).free 13
    have y132 : (w.setCell ⟨g, 14, none⟩ (.int .i64 ((p.c0 : Int) + 1))).cell? ⟨g, 13, none⟩ = some (nI (p.c0 % p.S)) := (hb.set 14 (.int .i64 ((p.c0 : Int) + 1))).at_ 13 rfl
    have b1 := (hb.set 14 (.int .i64 ((p.c0 : Int) + 1))).set 13 (.int .i64 (((p.c0 % p.S : Nat) : Int) + 1))
    have hml := Nat.mod_lt p.c0 hS
    have hdv := Nat.div_le_self p.c0 p.S
    have hqv := Nat.mod_le p.c0 p.S
    have SD := Lib.hid (succ_div (c := p.c0) hS)
    have B1 := Lib.hid b1
    have hcc : p.c0 ≤ 1000000000000000 := hc
    obtain ⟨S, hSS⟩ : ∃ S, p.S = S := ⟨_, rfl⟩
    obtain ⟨qq, hqq⟩ : ∃ q, p.c0 % p.S = q := ⟨_, rfl⟩
    obtain ⟨ee, hee⟩ : ∃ q, p.c0 / p.S = q := ⟨_, rfl⟩
    obtain ⟨cc, hcc2⟩ : ∃ q, p.c0 = q := ⟨_, rfl⟩
    unfold nI at y6 y12 y13 y14 y132
    rw [hqq] at y13 y132 hml B1 hqv
    rw [hee] at y12 hdv
    rw [hSS] at y6 hml
    rw [hcc2] at y14 hcc B1 f132 y132 hdv hqv
    have HSS := Lib.hid (fun _ : Unit => hSS); have HQQ := Lib.hid (fun _ : Unit => hqq); have HEE := Lib.hid (fun _ : Unit => hee); have HCC := Lib.hid (fun _ : Unit => hcc2)
    clear hb b1 hSS hqq hee hcc2 hc hS
    go_enter Tryd.func99, Tryd.ntmps99
    go_upto_region 3 with fail
    obtain ⟨W, hW⟩ : ∃ W, (w.setCell ⟨g, 14, none⟩ (.int .i64 ((cc : Int) + 1))).setCell ⟨g, 13, none⟩ (.int .i64 ((qq : Int) + 1)) = W := ⟨_, rfl⟩
    have b2 := B1.out
    have t2 : Turns (fun k => k = g) w W := by rw [← hW]; exact (Turns.set (S := fun k => k = g) w g 14 _ rfl).trans (Turns.set (S := fun k => k = g) _ g 13 _ rfl)
    rw [hW] at b2 ⊢
    have b2d := b2.d1
    have z6 : W.drew.cell? ⟨g, 6, none⟩ = some (nI p.S) := b2d.at_ 6 rfl
    have z13 : W.drew.cell? ⟨g, 13, none⟩ = some (.int .i64 ((qq : Int) + 1)) := b2d.at_ 13 rfl
    have z12 : W.drew.cell? ⟨g, 12, none⟩ = some (nI (p.c0 / p.S)) := b2d.at_ 12 rfl
    have g12 := b2d.free 12
    have g13 := b2d.free 13
    have b3 := (b2.set 12 (.int .i64 ((ee : Int) + 1))).d1
    have g132 := b3.free 13
    have z132 := b3.at_ (v := .int .i64 ((qq : Int) + 1)) 13 rfl
    unfold nI at z6 z12
    rw [HSS.out ()] at z6
    rw [HEE.out ()] at z12
    have B2 := Lib.hid b2; have T2 := Lib.hid t2
    clear b2 b2d b3 t2 hW y6 y12 y13 y14 y132 f14 f13 f132
    refine region_plan ⟨[0, 1, 3, 7, 0, 16, 48, 112, 240, 511], [], [0, 0, 0, 0, 0, 0, 0, 0, 0, 0]⟩
      [⟨[0, 1, 2, 3, 4, 5, 6, 7, 8, 9], [1, 2, 3, 5, 6, 7, 8, 9], none⟩] 45 (by kernel_rfl) (by kernel_rfl) (by kernel_rfl) (by kernel_rfl) rfl ?_
    simp only [SeqGo, opsAt_cons, opsAt_nil, List.getElem?_cons, Option.toList_some, List.singleton_append, ↓reduceIte, Nat.reduceEqDiff, Nat.reduceSub]
    by_cases hq : qq + 1 = S
    · have hqI : (S : Int) = (qq : Int) + 1 := by omega
      rw [hqI] at z6
      have HQ := Lib.hid (fun _ : Unit => hq)
      clear hq hqI hml
      go_wp2_with fail
      iterate 2 (try (first | refine And.intro (a := True) trivial ?_ | refine And.intro (show Sames _ _ _ _ _ from by (simp only [Sames, Same]; go_simp)) ?_); try go_wp2_with fail)
      all_goals (try go_ret)
      all_goals (try refine bodyPost_end (results_none rfl _ _ _) rfl ?_)
      obtain ⟨a1, a2⟩ := SD.out.1 (by rw [HQQ.out (), HSS.out ()]; exact HQ.out ())
      rw [HEE.out (), HCC.out ()] at a1
      rw [HCC.out ()] at a2
      have B := ((B2.out.set 12 (.int .i64 ((ee : Int) + 1))).set 13 (.int .i64 0)).d1
      refine ⟨rfl, ?_, ?_⟩
      · have el : pipeC gb (p.step 0) = ((((pipeC gb p).set 14 (.int .i64 ((cc : Int) + 1))).set 13 (.int .i64 ((qq : Int) + 1))).set 12 (.int .i64 ((ee : Int) + 1))).set 13 (.int .i64 0) := by
          simp only [pipeC, PipeS.step, nI, List.set_cons_zero, List.set_cons_succ, if_true, if_false, reduceIte, Nat.one_ne_zero, HCC.out (), a1, a2]
          simp
        rw [el]; first | exact B | exact (B2.out.d1.set 12 (.int .i64 ((ee : Int) + 1))).set 13 (.int .i64 0)
      · exact (T2.out.trans ((Turns.set (S := fun k => k = g) _ g 12 _ rfl).trans (Turns.set (S := fun k => k = g) _ g 13 _ rfl))).d1
    · have hqI : ¬ ((qq : Int) + 1 = (S : Int)) := by omega
      have HQ := Lib.hid (fun _ : Unit => hq)
      clear hq
      go_wp2_with fail
      iterate 2 (try (first | refine And.intro (a := True) trivial ?_ | refine And.intro (show Sames _ _ _ _ _ from by (simp only [Sames, Same]; go_simp)) ?_); try go_wp2_with fail)
      all_goals (try go_ret)
      all_goals (try refine bodyPost_end (results_none rfl _ _ _) rfl ?_)
      obtain ⟨a1, a2⟩ := SD.out.2 (by rw [HQQ.out (), HSS.out ()]; exact HQ.out ())
      rw [HEE.out (), HCC.out ()] at a1
      rw [HQQ.out (), HCC.out ()] at a2
      have a3 := HEE.out ()
      rw [HCC.out ()] at a3
      have B := B2.out.d1
      refine ⟨rfl, ?_, ?_⟩
      · have el : pipeC gb (p.step 0) = (((pipeC gb p).set 14 (.int .i64 ((cc : Int) + 1))).set 13 (.int .i64 ((qq : Int) + 1))) := by
          simp only [pipeC, PipeS.step, nI, List.set_cons_zero, List.set_cons_succ, if_true, if_false, reduceIte, Nat.one_ne_zero, HCC.out (), a1, a2, HEE.out ()]
          simp only [← Int.natCast_ediv, a3, Int.natCast_add, Int.natCast_one]
        rw [el]; exact B
      · exact T2.out.d1
  · have y6 : w.cell? ⟨g, 6, none⟩ = some (nI p.S) := hb.at_ 6 rfl
    have y15 : w.cell? ⟨g, 15, none⟩ = some (nI (p.c1 / p.S)) := hb.at_ 15 rfl
    have y16 : w.cell? ⟨g, 16, none⟩ = some (nI (p.c1 % p.S)) := hb.at_ 16 rfl
    have y17 : w.cell? ⟨g, 17, none⟩ = some (nI p.c1) := hb.at_ 17 rfl
    have f17 := hb.free 17
    have f16 := hb.free 16
    have f162 := (hb.set 17 (.int .i64 ((p.c1 : Int) + 1))).free 16
    have y162 : (w.setCell ⟨g, 17, none⟩ (.int .i64 ((p.c1 : Int) + 1))).cell? ⟨g, 16, none⟩ = some (nI (p.c1 % p.S)) := (hb.set 17 (.int .i64 ((p.c1 : Int) + 1))).at_ 16 rfl
    have b1 := (hb.set 17 (.int .i64 ((p.c1 : Int) + 1))).set 16 (.int .i64 (((p.c1 % p.S : Nat) : Int) + 1))
    have hml := Nat.mod_lt p.c1 hS
    have hdv := Nat.div_le_self p.c1 p.S
    have hqv := Nat.mod_le p.c1 p.S
    have SD := Lib.hid (succ_div (c := p.c1) hS)
    have B1 := Lib.hid b1
    have hcc : p.c1 ≤ 1000000000000000 := hc
    obtain ⟨S, hSS⟩ : ∃ S, p.S = S := ⟨_, rfl⟩
    obtain ⟨qq, hqq⟩ : ∃ q, p.c1 % p.S = q := ⟨_, rfl⟩
    obtain ⟨ee, hee⟩ : ∃ q, p.c1 / p.S = q := ⟨_, rfl⟩
    obtain ⟨cc, hcc2⟩ : ∃ q, p.c1 = q := ⟨_, rfl⟩
    unfold nI at y6 y15 y16 y17 y162
    rw [hqq] at y16 y162 hml B1 hqv
    rw [hee] at y15 hdv
    rw [hSS] at y6 hml
    rw [hcc2] at y17 hcc B1 f162 y162 hdv hqv
    have HSS := Lib.hid (fun _ : Unit => hSS); have HQQ := Lib.hid (fun _ : Unit => hqq); have HEE := Lib.hid (fun _ : Unit => hee); have HCC := Lib.hid (fun _ : Unit => hcc2)
    clear hb b1 hSS hqq hee hcc2 hc hS
    go_enter Tryd.func99, Tryd.ntmps99
    go_upto_region 3 with fail
    obtain ⟨W, hW⟩ : ∃ W, (w.setCell ⟨g, 17, none⟩ (.int .i64 ((cc : Int) + 1))).setCell ⟨g, 16, none⟩ (.int .i64 ((qq : Int) + 1)) = W := ⟨_, rfl⟩
    have b2 := B1.out
    have t2 : Turns (fun k => k = g) w W := by rw [← hW]; exact (Turns.set (S := fun k => k = g) w g 17 _ rfl).trans (Turns.set (S := fun k => k = g) _ g 16 _ rfl)
    rw [hW] at b2 ⊢
    have b2d := b2.d1
    have z6 : W.drew.cell? ⟨g, 6, none⟩ = some (nI p.S) := b2d.at_ 6 rfl
    have z16 : W.drew.cell? ⟨g, 16, none⟩ = some (.int .i64 ((qq : Int) + 1)) := b2d.at_ 16 rfl
    have z15 : W.drew.cell? ⟨g, 15, none⟩ = some (nI (p.c1 / p.S)) := b2d.at_ 15 rfl
    have g15 := b2d.free 15
    have g16 := b2d.free 16
    have b3 := (b2.set 15 (.int .i64 ((ee : Int) + 1))).d1
    have g162 := b3.free 16
    have z162 := b3.at_ (v := .int .i64 ((qq : Int) + 1)) 16 rfl
    unfold nI at z6 z15
    rw [HSS.out ()] at z6
    rw [HEE.out ()] at z15
    have B2 := Lib.hid b2; have T2 := Lib.hid t2
    clear b2 b2d b3 t2 hW y6 y15 y16 y17 y162 f17 f16 f162
    refine region_plan ⟨[0, 1, 3, 7, 0, 16, 48, 112, 240, 511], [], [0, 0, 0, 0, 0, 0, 0, 0, 0, 0]⟩
      [⟨[0, 1, 2, 3, 4, 5, 6, 7, 8, 9], [1, 2, 3, 5, 6, 7, 8, 9], none⟩] 45 (by kernel_rfl) (by kernel_rfl) (by kernel_rfl) (by kernel_rfl) rfl ?_
    simp only [SeqGo, opsAt_cons, opsAt_nil, List.getElem?_cons, Option.toList_some, List.singleton_append, ↓reduceIte, Nat.reduceEqDiff, Nat.reduceSub]
    by_cases hq : qq + 1 = S
    · have hqI : (S : Int) = (qq : Int) + 1 := by omega
      rw [hqI] at z6
      have HQ := Lib.hid (fun _ : Unit => hq)
      clear hq hqI hml
      go_wp2_with fail
      iterate 2 (try (first | refine And.intro (a := True) trivial ?_ | refine And.intro (show Sames _ _ _ _ _ from by (simp only [Sames, Same]; go_simp)) ?_); try go_wp2_with fail)
      all_goals (try go_ret)
      all_goals (try refine bodyPost_end (results_none rfl _ _ _) rfl ?_)
      obtain ⟨a1, a2⟩ := SD.out.1 (by rw [HQQ.out (), HSS.out ()]; exact HQ.out ())
      rw [HEE.out (), HCC.out ()] at a1
      rw [HCC.out ()] at a2
      have B := ((B2.out.set 15 (.int .i64 ((ee : Int) + 1))).set 16 (.int .i64 0)).d1
      refine ⟨rfl, ?_, ?_⟩
      · have el : pipeC gb (p.step 1) = ((((pipeC gb p).set 17 (.int .i64 ((cc : Int) + 1))).set 16 (.int .i64 ((qq : Int) + 1))).set 15 (.int .i64 ((ee : Int) + 1))).set 16 (.int .i64 0) := by
          simp only [pipeC, PipeS.step, nI, List.set_cons_zero, List.set_cons_succ, if_true, if_false, reduceIte, Nat.one_ne_zero, HCC.out (), a1, a2]
          simp
        rw [el]; first | exact B | exact (B2.out.d1.set 15 (.int .i64 ((ee : Int) + 1))).set 16 (.int .i64 0)
      · exact (T2.out.trans ((Turns.set (S := fun k => k = g) _ g 15 _ rfl).trans (Turns.set (S := fun k => k = g) _ g 16 _ rfl))).d1
    · have hqI : ¬ ((qq : Int) + 1 = (S : Int)) := by omega
      have HQ := Lib.hid (fun _ : Unit => hq)
      clear hq
      go_wp2_with fail
      iterate 2 (try (first | refine And.intro (a := True) trivial ?_ | refine And.intro (show Sames _ _ _ _ _ from by (simp only [Sames, Same]; go_simp)) ?_); try go_wp2_with fail)
      all_goals (try go_ret)
      all_goals (try refine bodyPost_end (results_none rfl _ _ _) rfl ?_)
      obtain ⟨a1, a2⟩ := SD.out.2 (by rw [HQQ.out (), HSS.out ()]; exact HQ.out ())
      rw [HEE.out (), HCC.out ()] at a1
      rw [HQQ.out (), HCC.out ()] at a2
      have a3 := HEE.out ()
      rw [HCC.out ()] at a3
      have B := B2.out.d1
      refine ⟨rfl, ?_, ?_⟩
      · have el : pipeC gb (p.step 1) = (((pipeC gb p).set 17 (.int .i64 ((cc : Int) + 1))).set 16 (.int .i64 ((qq : Int) + 1))) := by
          simp only [pipeC, PipeS.step, nI, List.set_cons_zero, List.set_cons_succ, if_true, if_false, reduceIte, Nat.one_ne_zero, HCC.out (), a1, a2, HEE.out ()]
          simp only [← Int.natCast_ediv, a3, Int.natCast_add, Int.natCast_one]
        rw [el]; exact B
      · exact T2.out.d1
end Go.Proofs.YtdgpchacfdlleaaDoor
end

section
/-
  A region whose order Go leaves open, whose effects may come in any of some orders: it does what its operations do in each order of the effects, if each operation that only looks would see the same at any later time. Plain Lean, no program in sight.
-/
namespace Go.Proofs.YtdgpchacfdlleaaDoor
open Go

structure TPlan where
  /-- who stands ahead of each, as bits -/
  anc : List Nat
  /-- those that act -/
  effs : List Nat
def TPlan.ahead (p : TPlan) (i j : Nat) : Bool := (p.anc.getD i 0).testBit j
def TPlan.act (p : TPlan) (i : Nat) : Bool := p.effs.contains i
/-- All acts ahead of it have come. -/
def TPlan.rdy (p : TPlan) (s : List Nat) (i : Nat) : Bool := p.effs.all fun e => !p.ahead i e || s.contains e
def TPlan.prev (p : TPlan) (s : List Nat) (i : Nat) : Bool := match s with | [] => false | _ :: s' => p.rdy s' i
def TPlan.floatsAt (p : TPlan) (n : Nat) (s : List Nat) : List Nat := (List.range n).filter fun i => !p.act i && p.rdy s i && !p.prev s i
def TPlan.checksAt (p : TPlan) (l : List Oper) (s : List Nat) : List Nat := (List.range l.length).filter fun i => !p.act i && p.rdy s i && (match l[i]? with | some o => !plainKind o | none => false) && s.all fun e => !p.ahead e i
def TPlan.nexts (p : TPlan) (s : List Nat) : List Nat := p.effs.filter fun i => !s.contains i && p.rdy s i

mutual
inductive Tree where | node (floats checks : List Nat) (kids : Kids)
inductive Kids where
  | done
  | last (i : Nat) (t : Tree)
  | cons (i : Nat) (t : Tree) (k : Kids)
end
def Kids.of (f : Nat → Tree) : List Nat → Kids
  | [] => .done
  | [i] => .last i (f i)
  | i :: j :: r => .cons i (f i) (Kids.of f (j :: r))
def TPlan.tree (p : TPlan) (l : List Oper) : Nat → List Nat → Tree
  | 0, s => .node (p.floatsAt l.length s) (p.checksAt l s) .done
  | f + 1, s => .node (p.floatsAt l.length s) (p.checksAt l s) (Kids.of (fun i => p.tree l f (i :: s)) (p.nexts s))

mutual
/-- What the walk owes, act by act. -/
def TreeGo (P : Program) (l : List Oper) (Q : Exit → Act → World → Prop) : Tree → Act → World → Prop
  | .node F C k, a, w => wpList P l.toArray (fun e a' w' => e = .normal ∧ w' = w ∧ Sames P l.toArray a' w (opsAt l C) ∧ KidsGo P l Q k a' w) (opsAt l F) a w
def KidsGo (P : Program) (l : List Oper) (Q : Exit → Act → World → Prop) : Kids → Act → World → Prop
  | .done, a, w => Q .normal a w
  | .last i t, a, w => wpList P l.toArray (fun e a2 w2 => e = .normal ∧ TreeGo P l Q t a2 w2) (opsAt l [i]) a w
  | .cons i t r, a, w => wpList P l.toArray (fun e a2 w2 => e = .normal ∧ TreeGo P l Q t a2 w2) (opsAt l [i]) a w ∧ KidsGo P l Q r a w
end

/-- What is owed behind the floats. -/
def NextGo (l : List Oper) (p : TPlan) (P : Program) (Q : Exit → Act → World → Prop) (G : Nat → List Nat → Act → World → Prop) : Nat → List Nat → Act → World → Prop
  | 0, _, a, w => Q .normal a w
  | f + 1, s, a, w => (p.nexts s = [] → Q .normal a w) ∧ ∀ i ∈ p.nexts s, wpList P l.toArray (fun e a2 w2 => e = .normal ∧ G f (i :: s) a2 w2) (opsAt l [i]) a w
/-- The same, by how many acts are still to come. -/
def FuelGo (P : Program) (l : List Oper) (p : TPlan) (Q : Exit → Act → World → Prop) : Nat → List Nat → Act → World → Prop
  | 0, s, a, w => wpList P l.toArray (fun e a' w' => e = .normal ∧ w' = w ∧ Sames P l.toArray a' w (opsAt l (p.checksAt l s)) ∧ Q .normal a' w) (opsAt l (p.floatsAt l.length s)) a w
  | f + 1, s, a, w => wpList P l.toArray (fun e a' w' => e = .normal ∧ w' = w ∧ Sames P l.toArray a' w (opsAt l (p.checksAt l s)) ∧
      (p.nexts s = [] → Q .normal a' w) ∧ ∀ i ∈ p.nexts s, wpList P l.toArray (fun e a2 w2 => e = .normal ∧ FuelGo P l p Q f (i :: s) a2 w2) (opsAt l [i]) a' w) (opsAt l (p.floatsAt l.length s)) a w

theorem upon_both {P : Program} {o : Oper} {a : Act} {K K' : Act → World → Prop} {Q Q' : Exit → Act → World → Prop} (hK : ∀ a w, K a w → K' a w) (hQ : ∀ e a w, Q e a w → Q' e a w) (r : Result Next) (hh : o.upon P a K Q r) : o.upon P a K' Q' r := by
  cases r with
  | ok n w' =>
    cases n <;> simp only [Oper.upon] at hh ⊢
    case value v => exact hK _ _ hh
    case skip => exact hK _ _ hh
    case defer d => exact hK _ _ hh
    case enter f args =>
      refine Calls.mono hh fun e w'' he => ?_
      cases e with
      | returned v => exact hK _ _ he
      | panicked c => exact hQ _ _ _ he
      | outgrown => obtain ⟨a9, w9, h9⟩ := he; exact ⟨a9, w9, hQ _ _ _ h9⟩
    case row rw args => exact Rows.mono hh fun v w'' he => hK _ _ he
  | halt x w' =>
    cases x <;> simp only [Oper.upon] at hh ⊢
    case panic v => exact hQ _ _ _ hh
theorem wpList_weaken {P : Program} {ops : Array Oper} {Q Q' : Exit → Act → World → Prop} (h : ∀ e a w, Q e a w → Q' e a w) : ∀ (l : List Oper) (a : Act) (w : World), wpList P ops Q l a w → wpList P ops Q' l a w
  | [], a, w, hh => h _ _ _ hh
  | o :: r, a, w, hh => by
    simp only [wpList] at hh ⊢
    split
    · rename_i hw
      rw [if_pos hw] at hh
      rcases hh with hh | ⟨h1, a9, w9, h9⟩
      · left
        unfold Oper.wp at hh ⊢
        exact upon_both (fun a w => wpList_weaken h r a w) h _ hh
      · exact .inr ⟨h1, a9, w9, h _ _ _ h9⟩
    · rename_i hw
      rw [if_neg hw] at hh
      exact wpList_weaken h r _ _ hh

theorem kids_fuel {P : Program} {l : List Oper} {Q : Exit → Act → World → Prop} {p : TPlan} {f : Nat} {s : List Nat} (ih : ∀ (i : Nat) (a : Act) (w : World), TreeGo P l Q (p.tree l f (i :: s)) a w → FuelGo P l p Q f (i :: s) a w) {a : Act} {w : World} :
    ∀ is : List Nat, KidsGo P l Q (Kids.of (fun i => p.tree l f (i :: s)) is) a w → (is = [] → Q .normal a w) ∧ ∀ i ∈ is, wpList P l.toArray (fun e a2 w2 => e = .normal ∧ FuelGo P l p Q f (i :: s) a2 w2) (opsAt l [i]) a w
  | [], h => ⟨fun _ => by simpa [Kids.of, KidsGo] using h, fun i hi => by cases hi⟩
  | [i], h => ⟨fun e => (by cases e), fun j hj => by
      obtain rfl := List.mem_singleton.1 hj
      simp only [Kids.of, KidsGo] at h
      exact wpList_weaken (fun e a w h => ⟨h.1, ih _ _ _ h.2⟩) _ _ _ h⟩
  | i :: j :: r, h => ⟨fun e => (by cases e), fun m hm => by
      simp only [Kids.of, KidsGo] at h
      rcases List.mem_cons.1 hm with rfl | hm
      · exact wpList_weaken (fun e a w h => ⟨h.1, ih _ _ _ h.2⟩) _ _ _ h.1
      · exact (kids_fuel ih (j :: r) h.2).2 m hm⟩
theorem tree_fuel {P : Program} {l : List Oper} {Q : Exit → Act → World → Prop} {p : TPlan} : ∀ (f : Nat) (s : List Nat) (a : Act) (w : World), TreeGo P l Q (p.tree l f s) a w → FuelGo P l p Q f s a w
  | 0, s, a, w, h => by
    simp only [TPlan.tree, TreeGo, KidsGo] at h
    exact h
  | f + 1, s, a, w, h => by
    simp only [TPlan.tree, TreeGo] at h
    exact wpList_weaken (fun e a w h => ⟨h.1, h.2.1, h.2.2.1, kids_fuel (fun i => tree_fuel f (i :: s)) _ h.2.2.2⟩) _ _ _ h

/-- What a plan has to keep. -/
def TPlan.ok (p : TPlan) (l : List Oper) (N : Nat) : Bool :=
  let n := l.length
  let dst (j : Nat) : Option Nat := (l[j]?).bind (·.dst)
  decide (p.effs.Nodup) && (p.effs.all fun e => decide (e < n)) &&
  (List.range n).all fun i => match l[i]? with
    | none => true
    | some o =>
      -- who stands ahead
      ((List.range n).all fun j => !p.ahead i j || o.after.toList.any fun e => Region.binds .any e && (e.on == j || p.ahead e.on j)) &&
      (o.after.toList.all fun e => !Region.binds .any e || (p.ahead i e.on && decide (e.on < i))) &&
      ((List.range n).all fun j => !p.ahead i j || ((List.range n).all fun m => !p.ahead j m || p.ahead i m)) &&
      -- slots
      (match o.dst with | none => true | some d => decide (d < N)) &&
      ((List.range n).all fun j => i == j || dst i == none || !(dst i == dst j)) &&
      ((List.range n).all fun j => match dst j with
        | none => true
        | some t => !(o.looksAt l.toArray).contains t || p.ahead i j || (p.ahead j i && (p.act i || plainKind o))) &&
      (match o.op with | .select .. => false | _ => true) &&
      (p.act i || (valueKind o && o.dst.isSome))

structure TOK (p : TPlan) (l : List Oper) (N : Nat) : Prop where
  nodup : p.effs.Nodup
  efflt : ∀ e ∈ p.effs, e < l.length
  step : ∀ (i : Nat) (o : Oper) (j : Nat), l[i]? = some o → j < l.length → p.ahead i j = true → ∃ e ∈ o.after, Region.binds .any e = true ∧ (e.on = j ∨ p.ahead e.on j = true)
  dep : ∀ (i : Nat) (o : Oper), l[i]? = some o → ∀ e ∈ o.after, Region.binds .any e = true → p.ahead i e.on = true ∧ e.on < i
  trans : ∀ (i j m : Nat), i < l.length → j < l.length → m < l.length → p.ahead i j = true → p.ahead j m = true → p.ahead i m = true
  lt : ∀ (i : Nat) (o : Oper) (d : Nat), l[i]? = some o → o.dst = some d → d < N
  one : ∀ (i j : Nat) (oi oj : Oper) (d : Nat), l[i]? = some oi → l[j]? = some oj → oi.dst = some d → oj.dst = some d → i = j
  reads : ∀ (i j : Nat) (oi oj : Oper) (t : Nat), l[i]? = some oi → l[j]? = some oj → oj.dst = some t → t ∈ oi.looksAt l.toArray → p.ahead i j = true ∨ (p.ahead j i = true ∧ (p.act i = true ∨ plainKind oi = true))
  sel : ∀ (i : Nat) (o : Oper), l[i]? = some o → ∀ cs b, o.op ≠ .select cs b
  flo : ∀ (i : Nat) (o : Oper), l[i]? = some o → p.act i = false → valueKind o = true ∧ ∃ d, o.dst = some d

theorem TOK.of {p : TPlan} {l : List Oper} {N : Nat} (h : p.ok l N = true) : TOK p l N := by
  unfold TPlan.ok at h
  simp only [Bool.and_eq_true, decide_eq_true_eq, List.all_eq_true, List.mem_range] at h
  obtain ⟨⟨hnd, hlt⟩, hall⟩ := h
  have hat := fun (i : Nat) (o : Oper) (ho : l[i]? = some o) => by
    have h1 := hall i (List.getElem?_eq_some_iff.1 ho).1
    rw [ho] at h1
    simp only [Bool.and_eq_true, List.all_eq_true, List.mem_range] at h1
    exact h1
  have hil : ∀ (i : Nat) (o : Oper), l[i]? = some o → i < l.length := fun i o ho => (List.getElem?_eq_some_iff.1 ho).1
  refine ⟨hnd, fun e he => by simpa using hlt e he, ?_, ?_, ?_, ?_, ?_, ?_, ?_, ?_⟩
  · intro i o j ho hj ha
    have h1 := (hat i o ho).1.1.1.1.1.1.1 j hj
    rw [ha] at h1
    simp only [Bool.not_true, Bool.false_or, List.any_eq_true, Bool.and_eq_true, Bool.or_eq_true, beq_iff_eq] at h1
    obtain ⟨e, he, h2, h3⟩ := h1
    exact ⟨e, by simpa using he, h2, h3⟩
  · intro i o ho e he hb
    have h1 := (hat i o ho).1.1.1.1.1.1.2 e (by simpa using he)
    rw [hb] at h1
    simpa using h1
  · intro i j m hi hj hm h1 h2
    have h3 := (hat i l[i] (List.getElem?_eq_getElem hi)).1.1.1.1.1.2 j hj
    rw [h1] at h3
    simp only [Bool.not_true, Bool.false_or, List.all_eq_true, List.mem_range] at h3
    have h4 := h3 m hm
    rw [h2] at h4
    simpa using h4
  · intro i o d ho hd
    have h1 := (hat i o ho).1.1.1.1.2
    rw [hd] at h1
    simpa using h1
  · intro i j oi oj d hi hj hdi hdj
    have h1 := (hat i oi hi).1.1.1.2 j (hil j oj hj)
    simpa [hi, hj, hdi, hdj] using h1
  · intro i j oi oj t hi hj hdj ht
    have h1 := (hat i oi hi).1.1.2 j (hil j oj hj)
    rw [hj] at h1
    simp only [Option.bind_some, hdj] at h1
    have h2 : (oi.looksAt l.toArray).contains t = true := by simpa using ht
    rw [h2] at h1
    simpa using h1
  · intro i o ho cs b hc
    have h1 := (hat i o ho).1.2
    rw [hc] at h1
    cases h1
  · intro i o ho hact
    have h1 := (hat i o ho).2
    rw [hact] at h1
    simp only [Bool.false_or, Bool.and_eq_true] at h1
    exact ⟨h1.1, Option.isSome_iff_exists.1 h1.2⟩

section
variable {P : Program} {l : List Oper} {p : TPlan} {N : Nat}

theorem TOK.lower (h : TOK p l N) : ∀ (i : Nat) (o : Oper), l[i]? = some o → ∀ j, j < l.length → p.ahead i j = true → j < i := by
  intro i
  induction i using Nat.strongRecOn with
  | ind i ih =>
    intro o ho j hj ha
    obtain ⟨e, he, hb, h1⟩ := h.step i o j ho hj ha
    have h2 := (h.dep i o ho e he hb).2
    have hi : i < l.length := (List.getElem?_eq_some_iff.1 ho).1
    rcases h1 with rfl | h1
    · exact h2
    · have := ih e.on h2 l[e.on] (List.getElem?_eq_getElem (by omega)) j hj h1
      omega
theorem TOK.closed (h : TOK p l N) {L : Nat → Bool} (hc : Came l.toArray L) : ∀ (i : Nat) (o : Oper), l[i]? = some o → (∀ e ∈ o.after, Region.binds .any e = true → L e.on = true) → ∀ j, j < l.length → p.ahead i j = true → L j = true := by
  intro i
  induction i using Nat.strongRecOn with
  | ind i ih =>
    intro o ho hd j hj ha
    obtain ⟨e, he, hb, h1⟩ := h.step i o j ho hj ha
    have h2 := (h.dep i o ho e he hb).2
    have hi : i < l.length := (List.getElem?_eq_some_iff.1 ho).1
    have h3 := hd e he hb
    rcases h1 with rfl | h1
    · exact h3
    · have hget : l[e.on]? = some l[e.on] := List.getElem?_eq_getElem (by omega)
      exact ih e.on h2 l[e.on] hget (fun e' he' hb' => hc.shut e.on l[e.on] (by simp) h3 e' he' hb') j hj h1
theorem TOK.closed' (h : TOK p l N) {L : Nat → Bool} (hc : Came l.toArray L) (i : Nat) (o : Oper) (ho : l[i]? = some o) (hl : L i = true) (j : Nat) (hj : j < l.length) (ha : p.ahead i j = true) : L j = true :=
  h.closed hc i o ho (fun e he hb => hc.shut i o (by simpa using ho) hl e he hb) j hj ha

/-! ### Which acts have come -/
theorem rdy_iff (s : List Nat) (i : Nat) : p.rdy s i = true ↔ ∀ e ∈ p.effs, p.ahead i e = true → e ∈ s := by
  simp only [TPlan.rdy, List.all_eq_true, Bool.or_eq_true, Bool.not_eq_true', List.contains_iff_mem]
  exact forall_congr' fun e => forall_congr' fun _ => ⟨fun h ha => h.resolve_left (by rw [ha]; simp), fun h => by cases ha : p.ahead i e with | true => exact .inr (h ha) | false => exact .inl rfl⟩
theorem rdy_cons {s : List Nat} {e i : Nat} (h : p.rdy s i = true) : p.rdy (e :: s) i = true := by
  rw [rdy_iff] at h ⊢
  exact fun x hx ha => List.mem_cons_of_mem _ (h x hx ha)
theorem prev_rdy {s : List Nat} {i : Nat} (h : p.prev s i = true) : p.rdy s i = true := by
  cases s with
  | nil => cases h
  | cons e s => exact rdy_cons h
theorem TOK.down (h : TOK p l N) {s : List Nat} {i j : Nat} (hi : i < l.length) (hj : j < l.length) (hr : p.rdy s i = true) (ha : p.ahead i j = true) : p.rdy s j = true := by
  rw [rdy_iff] at hr ⊢
  exact fun e he hae => hr e he (h.trans i j e hi hj (h.efflt e he) ha hae)
theorem TOK.prev_down (h : TOK p l N) {s : List Nat} {i j : Nat} (hi : i < l.length) (hj : j < l.length) (hr : p.prev s i = true) (ha : p.ahead i j = true) : p.prev s j = true := by
  cases s with
  | nil => cases hr
  | cons e s => exact h.down hi hj hr ha
/-- Acts, each behind those that stand ahead of it. -/
def Valid (p : TPlan) : List Nat → Prop
  | [] => True
  | j :: s => j ∈ p.effs ∧ j ∉ s ∧ p.rdy s j = true ∧ Valid p s
theorem Valid.nodup : ∀ {s : List Nat}, Valid p s → s.Nodup
  | [], _ => List.nodup_nil
  | _ :: _, h => List.nodup_cons.2 ⟨h.2.1, Valid.nodup h.2.2.2⟩
theorem Valid.sub : ∀ {s : List Nat}, Valid p s → ∀ e ∈ s, e ∈ p.effs
  | [], _, e, he => by cases he
  | _ :: _, h, e, he => by
    rcases List.mem_cons.1 he with rfl | he
    · exact h.1
    · exact Valid.sub h.2.2.2 e he
theorem TOK.valid_prev (h : TOK p l N) {i : Nat} (hi : i < l.length) : ∀ {s : List Nat} {j : Nat}, Valid p s → j ∈ s → p.ahead j i = true → p.prev s i = true
  | [], j, _, hj, _ => by cases hj
  | e :: s, j, hv, hj, ha => by
    show p.rdy s i = true
    rcases List.mem_cons.1 hj with rfl | hj
    · exact h.down (h.efflt _ hv.1) hi hv.2.2.1 ha
    · exact prev_rdy (h.valid_prev hi hv.2.2.2 hj ha)

theorem tfloats_walk (hone : ∀ (i j : Nat) (oi oj : Oper) (d : Nat), l[i]? = some oi → l[j]? = some oj → oi.dst = some d → oj.dst = some d → i = j) {Q' : Exit → Act → World → Prop} {R : Act → World → Prop} (hQ : ∀ e a w, Q' e a w → e = .normal ∧ R a w) : ∀ (F : List Nat) (a : Act) (w1 : World),
    (∀ i ∈ F, ∃ o d, l[i]? = some o ∧ valueKind o = true ∧ o.dst = some d) → F.Pairwise (· < ·) → wpList P l.toArray Q' (opsAt l F) a w1 →
    ∃ a' w2, R a' w2 ∧ a'.defers = a.defers ∧ a'.tmps.size = a.tmps.size ∧ (∀ t, (∀ i ∈ F, ∀ o, l[i]? = some o → o.dst ≠ some t) → a'.tmps[t]? = a.tmps[t]?) ∧
      ∀ i ∈ F, ∀ o, l[i]? = some o → plainKind o = true → ∃ b v d, o.dst = some d ∧ (d < a.tmps.size → a'.tmps[d]? = some v) ∧
        (∀ t, (∃ j ∈ F, j < i ∧ ∃ oj, l[j]? = some oj ∧ oj.dst = some t) → b.tmps[t]? = a'.tmps[t]?) ∧ (∀ t, (∀ j ∈ F, j < i → ∀ oj, l[j]? = some oj → oj.dst ≠ some t) → b.tmps[t]? = a.tmps[t]?) ∧
        ∀ w, Yld P l.toArray o b w v := by
  intro F
  induction F with
  | nil =>
    intro a w1 _ _ hw
    exact ⟨a, w1, (hQ _ _ _ hw).2, rfl, rfl, fun _ _ => rfl, fun i hi => by cases hi⟩
  | cons i F ih =>
    intro a w1 hF hP hw
    obtain ⟨o, d, ho, hk, hd⟩ := hF i (List.mem_cons_self ..)
    have hops : opsAt l (i :: F) = o :: opsAt l F := by simp [opsAt, ho]
    rw [hops] at hw
    have hP1 := (List.pairwise_cons.1 hP).1
    have hP2 := (List.pairwise_cons.1 hP).2
    have key : ∃ v w3, wpList P l.toArray Q' (opsAt l F) (a.put o.dst v) w3 ∧ (plainKind o = true → ∀ w, Yld P l.toArray o a w v) := by
      simp only [wpList] at hw
      split at hw
      · rename_i hwant
        rcases hw with hw | ⟨_, a9, w9, hw⟩
        · unfold Oper.wp at hw
          cases hr : (execOp a.eval o).run P w1 with
          | ok x w3 =>
            obtain ⟨v, rfl⟩ := value_result hk P w1 w3 x hr
            rw [hr] at hw
            exact ⟨v, w3, hw, fun hp w => .inl ⟨hwant, plain_run hp hr w⟩⟩
          | halt hh w3 =>
            rw [hr] at hw
            cases hh <;> simp only [Oper.upon] at hw
            have := (hQ _ _ _ hw).1
            cases this
        · have := (hQ _ _ _ hw).1
          cases this
      · rename_i hwant
        exact ⟨undef, w1, hw, fun _ _ => .inr ⟨by simpa using hwant, rfl⟩⟩
    obtain ⟨v, w3, hrest, hy⟩ := key
    obtain ⟨a', w2, hR, hdf, hsz, hfree, hall⟩ := ih (a.put o.dst v) w3 (fun j hj => hF j (List.mem_cons_of_mem _ hj)) hP2 hrest
    have hdF : ∀ j ∈ F, ∀ oj, l[j]? = some oj → oj.dst ≠ some d := fun j hj oj hoj e => by
      have := hone i j o oj d ho hoj hd e
      have := hP1 j hj
      omega
    have hput : ∀ t, t ≠ d → (a.put o.dst v).tmps[t]? = a.tmps[t]? := fun t ht => by rw [hd, put_get_ne _ _ _ _ (Ne.symm ht)]
    refine ⟨a', w2, hR, by rw [hdf, put_defers], by rw [hsz, put_size], fun t ht => ?_, fun j hj oj hoj hp => ?_⟩
    · rw [hfree t fun j hj oj hoj => ht j (List.mem_cons_of_mem _ hj) oj hoj]
      refine hput t fun e => ht i (List.mem_cons_self ..) o ho (by rw [hd, e])
    · rcases List.mem_cons.1 hj with rfl | hj
      · rw [ho] at hoj; cases hoj
        refine ⟨a, v, d, hd, fun hlt => ?_, fun t ⟨j', hj', hlt, _⟩ => ?_, fun t _ => rfl, hy hp⟩
        · rw [hfree d hdF, hd]
          exact put_get_same _ _ _ hlt
        · rcases List.mem_cons.1 hj' with rfl | hj'
          · omega
          · have := hP1 j' hj'; omega
      · obtain ⟨b, v', d', hd', h1, h2, h3, h4⟩ := hall j hj oj hoj hp
        refine ⟨b, v', d', hd', fun hlt => h1 (by rw [put_size]; exact hlt), fun t ⟨j', hj', hlt, oj', hoj', hdj'⟩ => ?_, fun t ht => ?_, h4⟩
        · rcases List.mem_cons.1 hj' with rfl | hj'
          · rw [ho] at hoj'; cases hoj'
            rw [hd] at hdj'; cases hdj'
            rw [h3 _ fun j'' hj'' _ oj'' hoj'' => hdF j'' hj'' oj'' hoj'', hfree _ hdF]
          · exact h2 t ⟨j', hj', hlt, oj', hoj', hdj'⟩
        · rw [h3 t fun j'' hj'' hlt oj'' hoj'' => ht j'' (List.mem_cons_of_mem _ hj'') hlt oj'' hoj'']
          refine hput t fun e => ht i (List.mem_cons_self ..) (hP1 j hj) o ho (by rw [hd, e])

def tdoneE (p : TPlan) (s : List Nat) (j : Nat) : Prop := if p.act j = true then j ∈ s else p.rdy s j = true
def tdoneS (p : TPlan) (s : List Nat) (j : Nat) : Prop := if p.act j = true then j ∈ s else p.prev s j = true
def TSees (p : TPlan) (l : List Oper) (a0 a : Act) (i : Nat) (o : Oper) (b : Act) : Prop :=
  ∀ t ∈ o.looksAt l.toArray, (∀ (j : Nat) (oj : Oper), l[j]? = some oj → oj.dst = some t → (p.ahead i j = true → b.tmps[t]? = a.tmps[t]?) ∧ (p.ahead i j = false → b.tmps[t]? = a0.tmps[t]?)) ∧
    ((∀ (j : Nat) (oj : Oper), l[j]? = some oj → oj.dst ≠ some t) → b.tmps[t]? = a0.tmps[t]?)

/-- Where the plan stands: behind some acts and all that looks behind them. -/
structure TMid (P : Program) (l : List Oper) (p : TPlan) (N : Nat) (Q : Exit → Act → World → Prop) (a0 : Act) (f : Nat) (s : List Nat) (a : Act) (w : World) : Prop where
  size : a.tmps.size = N
  free : ∀ t, (∀ (j : Nat) (oj : Oper), l[j]? = some oj → oj.dst = some t → ¬ tdoneE p s j) → a.tmps[t]? = a0.tmps[t]?
  plain : ∀ (i : Nat) (o : Oper), l[i]? = some o → p.act i = false → plainKind o = true → p.rdy s i = true → ∃ b v d, o.dst = some d ∧ a.tmps[d]? = some v ∧ TSees p l a0 a i o b ∧ ∀ w, Yld P l.toArray o b w v
  checks : ∀ (i : Nat) (o : Oper), l[i]? = some o → p.act i = false → plainKind o = false → p.rdy s i = true → (∀ e ∈ s, p.ahead e i = false) → Same P l.toArray o a w
  next : NextGo l p P Q (FuelGo P l p Q) f s a w

theorem tmid_of (h : TOK p l N) {Q : Exit → Act → World → Prop} {a0 a : Act} {w : World} {f : Nat} {s : List Nat} (hval : Valid p s) (hgo : FuelGo P l p Q f s a w) (hsz : a.tmps.size = N)
    (hfree : ∀ t, (∀ (j : Nat) (oj : Oper), l[j]? = some oj → oj.dst = some t → ¬ tdoneS p s j) → a.tmps[t]? = a0.tmps[t]?)
    (hplain : ∀ (i : Nat) (o : Oper), l[i]? = some o → p.act i = false → plainKind o = true → p.prev s i = true → ∃ b v d, o.dst = some d ∧ a.tmps[d]? = some v ∧ TSees p l a0 a i o b ∧ ∀ w, Yld P l.toArray o b w v) :
    ∃ a', TMid P l p N Q a0 f s a' w ∧ a'.defers = a.defers ∧ ∀ t, (∀ (i : Nat) (o : Oper), l[i]? = some o → p.act i = false → p.rdy s i = true → p.prev s i = false → o.dst ≠ some t) → a'.tmps[t]? = a.tmps[t]? := by
  have hmemF : ∀ i, i ∈ p.floatsAt l.length s ↔ i < l.length ∧ p.act i = false ∧ p.rdy s i = true ∧ p.prev s i = false := fun i => by simp [TPlan.floatsAt, and_assoc]
  have hgo' : wpList P l.toArray (fun e a' w' => e = .normal ∧ w' = w ∧ Sames P l.toArray a' w (opsAt l (p.checksAt l s)) ∧
      NextGo l p P Q (FuelGo P l p Q) f s a' w) (opsAt l (p.floatsAt l.length s)) a w := by
    cases f <;> exact hgo
  obtain ⟨a', w2, ⟨rfl, hsame, hnext⟩, hdf, hsz', hfr, hall⟩ := tfloats_walk h.one (R := fun a' w' => w' = w ∧ Sames P l.toArray a' w (opsAt l (p.checksAt l s)) ∧ _) (fun e a w h => h) (p.floatsAt l.length s) a w
    (fun i hi => by
      obtain ⟨h1, h2, h3⟩ := (hmemF i).1 hi
      obtain ⟨h4, ⟨d, h5⟩⟩ := h.flo i l[i] (List.getElem?_eq_getElem h1) h2
      exact ⟨l[i], d, List.getElem?_eq_getElem h1, h4, h5⟩)
    (List.Pairwise.sublist List.filter_sublist List.pairwise_lt_range) hgo'
  have hfr' : ∀ t, (∀ (i : Nat) (o : Oper), l[i]? = some o → p.act i = false → p.rdy s i = true → p.prev s i = false → o.dst ≠ some t) → a'.tmps[t]? = a.tmps[t]? := fun t ht =>
    hfr t fun i hi o ho => ht i o ho ((hmemF i).1 hi).2.1 ((hmemF i).1 hi).2.2.1 ((hmemF i).1 hi).2.2.2
  have hil : ∀ (i : Nat) (o : Oper), l[i]? = some o → i < l.length := fun i o ho => (List.getElem?_eq_some_iff.1 ho).1
  refine ⟨a', ⟨by rw [hsz', hsz], fun t ht => ?_, fun i o ho ha hp hat => ?_, fun i o ho ha hp hat hne => ?_, hnext⟩, hdf, hfr'⟩
  · rw [hfr' t fun i o ho ha hat hat2 hd => ht i o ho hd (by unfold tdoneE; rw [if_neg (by rw [ha]; simp)]; exact hat)]
    refine hfree t fun j oj hoj hdj hdone => ht j oj hoj hdj ?_
    unfold tdoneS at hdone
    unfold tdoneE
    split
    · rename_i hc; rw [if_pos hc] at hdone; exact hdone
    · rename_i hc; rw [if_neg hc] at hdone; exact prev_rdy hdone
  · cases hpv : p.prev s i with
    | true =>
      obtain ⟨b, v, d, hd, hv, hs, hy⟩ := hplain i o ho ha hp hpv
      refine ⟨b, v, d, hd, ?_, fun t ht => ⟨fun j oj hoj hdj => ⟨fun haj => ?_, ((hs t ht).1 j oj hoj hdj).2⟩, (hs t ht).2⟩, hy⟩
      · rw [hfr' d fun i' o' ho' ha' hat' hpv' hd' => ?_]
        · exact hv
        · have := h.one i i' o o' d ho ho' hd hd'
          subst this
          rw [hpv] at hpv'; cases hpv'
      · rw [((hs t ht).1 j oj hoj hdj).1 haj]
        refine (hfr' t fun i' o' ho' ha' hat' hpv' hd' => ?_).symm
        obtain rfl := h.one j i' oj o' t hoj ho' hdj hd'
        have := h.prev_down (hil i o ho) (hil j oj hoj) hpv haj
        rw [this] at hpv'; cases hpv'
    | false =>
      obtain ⟨b, v, d, hd, hv, h1, h2, hy⟩ := hall i ((hmemF i).2 ⟨hil i o ho, ha, hat, hpv⟩) o ho hp
      refine ⟨b, v, d, hd, hv (by rw [hsz]; exact h.lt i o d ho hd), fun t ht => ⟨fun j oj hoj hdj => ⟨fun haj => ?_, fun haj => ?_⟩, fun hno => ?_⟩, hy⟩
      · have hlo := h.lower i o ho j (hil j oj hoj) haj
        by_cases hcase : p.act j = false ∧ p.rdy s j = true ∧ p.prev s j = false
        · exact h1 t ⟨j, (hmemF j).2 ⟨hil j oj hoj, hcase⟩, hlo, oj, hoj, hdj⟩
        · rw [h2 t fun j' hj' _ oj' hoj' hdj' => by
            obtain rfl := h.one j j' oj oj' t hoj hoj' hdj hdj'
            exact hcase ((hmemF j).1 hj').2]
          refine (hfr' t fun i' o' ho' ha' hat' hpv' hd' => ?_).symm
          obtain rfl := h.one j i' oj o' t hoj ho' hdj hd'
          exact hcase ⟨ha', hat', hpv'⟩
      · have hr := (h.reads i j o oj t ho hoj hdj ht).resolve_left (by rw [haj]; simp)
        have hlo := h.lower j oj hoj i (hil i o ho) hr.1
        rw [h2 t fun j' hj' hlt oj' hoj' hdj' => by
          obtain rfl := h.one j j' oj oj' t hoj hoj' hdj hdj'
          omega]
        refine hfree t fun j' oj' hoj' hdj' hdone => ?_
        obtain rfl := h.one j j' oj oj' t hoj hoj' hdj hdj'
        unfold tdoneS at hdone
        have : p.prev s i = true := by
          by_cases hc : p.act j = true
          · rw [if_pos hc] at hdone
            exact h.valid_prev (hil i o ho) hval hdone hr.1
          · rw [if_neg hc] at hdone
            exact h.prev_down (hil j oj hoj) (hil i o ho) hdone hr.1
        rw [hpv] at this; cases this
      · rw [h2 t fun j _ _ oj hoj => hno j oj hoj]
        exact hfree t fun j oj hoj hdj => absurd hdj (hno j oj hoj)
  · refine sames_at hsame i ?_ o ho
    simp only [TPlan.checksAt, List.mem_filter, List.mem_range, Bool.and_eq_true, ho, ha, hp, Bool.not_false, and_true, List.all_eq_true, Bool.not_eq_true']
    exact ⟨hil i o ho, ⟨trivial, hat⟩, hne⟩

/-- The state of the drawn walk: some of what looks has not come up yet. -/
structure THere (P : Program) (l : List Oper) (p : TPlan) (N : Nat) (Q : Exit → Act → World → Prop) (a0 : Act) (L : Nat → Bool) (a : Act) (w : World) (f : Nat) (s : List Nat) (b : Act) : Prop where
  fuel : f + s.length = p.effs.length
  valid : Valid p s
  mid : TMid P l p N Q a0 f s b w
  defers : a.defers = b.defers
  size : a.tmps.size = N
  acts : ∀ e ∈ p.effs, (L e = true ↔ e ∈ s)
  came : ∀ (j : Nat) (o : Oper) (d : Nat), L j = true → l[j]? = some o → o.dst = some d → a.tmps[d]? = b.tmps[d]?
  old : ∀ t, (∀ (j : Nat) (o : Oper), L j = true → l[j]? = some o → o.dst ≠ some t) → a.tmps[t]? = a0.tmps[t]?
  late : ∀ (i : Nat) (o : Oper), l[i]? = some o → p.act i = false → p.rdy s i = true → L i = false → ∃ b' v d, o.dst = some d ∧ b.tmps[d]? = some v ∧ TSees p l a0 b i o b' ∧ Yld P l.toArray o b' w v

theorem tlate_of (h : TOK p l N) {Q : Exit → Act → World → Prop} {a0 b : Act} {w : World} {f : Nat} {s : List Nat} (hm : TMid P l p N Q a0 f s b w) {i : Nat} {o : Oper} (ho : l[i]? = some o) (ha : p.act i = false) (hat : p.rdy s i = true)
    (hne : ∀ e ∈ s, p.ahead e i = false) : ∃ b' v d, o.dst = some d ∧ b.tmps[d]? = some v ∧ TSees p l a0 b i o b' ∧ Yld P l.toArray o b' w v := by
  by_cases hp : plainKind o = true
  · obtain ⟨b', v, d, h1, h2, h3, h4⟩ := hm.plain i o ho ha hp hat
    exact ⟨b', v, d, h1, h2, h3, h4 w⟩
  · have hp' : plainKind o = false := by simpa using hp
    have hs := hm.checks i o ho ha hp' hat hne
    obtain ⟨_, ⟨d, hd⟩⟩ := h.flo i o ho ha
    have hlt := h.lt i o d ho hd
    have hget : b.tmps[d]? = some (b.tmps.getD d undef) := by
      have := hm.size
      rw [Array.getElem?_eq_getElem (by omega), Array.getD_eq_getD_getElem?, Array.getElem?_eq_getElem (by omega)]
      rfl
    refine ⟨b, b.tmps.getD d undef, d, hd, hget, fun t ht => ⟨fun j oj hoj hdj => ⟨fun _ => rfl, fun hf => ?_⟩, fun hno => ?_⟩, ?_⟩
    · rcases h.reads i j o oj t ho hoj hdj ht with h1 | ⟨_, h1 | h1⟩
      · rw [hf] at h1; cases h1
      · rw [ha] at h1; cases h1
      · rw [hp'] at h1; cases h1
    · exact hm.free t fun j oj hoj hdj => absurd hdj (hno j oj hoj)
    · unfold Same at hs
      rw [hd] at hs
      simp only [Option.getD_some] at hs
      unfold Yld
      by_cases hw : Region.wanted o (yielded l.toArray b.tmps) = true
      · rw [if_pos hw] at hs
        exact .inl ⟨hw, hs⟩
      · rw [if_neg hw] at hs
        exact .inr ⟨by simpa using hw, hs⟩

theorem tagree_at (h : TOK p l N) {Q : Exit → Act → World → Prop} {a0 a b b' : Act} {w : World} {L : Nat → Bool} {f : Nat} {s : List Nat} (hc : Came l.toArray L) (hh : THere P l p N Q a0 L a w f s b) {i : Nat} {o : Oper} (ho : l[i]? = some o) (hl : L i = false)
    (hdeps : ∀ e ∈ o.after, Region.binds .any e = true → L e.on = true) (hs : TSees p l a0 b i o b') : ∀ t ∈ o.looksAt l.toArray, a.tmps[t]? = b'.tmps[t]? := by
  intro t ht
  have hil : ∀ (i : Nat) (o : Oper), l[i]? = some o → i < l.length := fun i o ho => (List.getElem?_eq_some_iff.1 ho).1
  by_cases hw : ∃ (j : Nat) (oj : Oper), l[j]? = some oj ∧ oj.dst = some t
  · obtain ⟨j, oj, hoj, hdj⟩ := hw
    cases haj : p.ahead i j with
    | true =>
      have hlj := h.closed hc i o ho hdeps j (hil j oj hoj) haj
      rw [hh.came j oj t hlj hoj hdj, ((hs t ht).1 j oj hoj hdj).1 haj]
    | false =>
      have hr := (h.reads i j o oj t ho hoj hdj ht).resolve_left (by rw [haj]; simp)
      rw [((hs t ht).1 j oj hoj hdj).2 haj]
      refine hh.old t fun j' oj' hl' hoj' hdj' => ?_
      obtain rfl := h.one j j' oj oj' t hoj hoj' hdj hdj'
      have := h.closed' hc j oj hoj hl' i (hil i o ho) hr.1
      rw [hl] at this; cases this
  · have hno : ∀ (j : Nat) (oj : Oper), l[j]? = some oj → oj.dst ≠ some t := fun j oj hoj hdj => hw ⟨j, oj, hoj, hdj⟩
    rw [(hs t ht).2 hno, hh.old t fun j oj _ hoj => hno j oj hoj]

theorem nodup_len {a b : List Nat} (ha : a.Nodup) (hs : ∀ x ∈ a, x ∈ b) : a.length ≤ b.length := by
  induction a generalizing b with
  | nil => simp
  | cons x t ih =>
    have h1 := List.nodup_cons.1 ha
    have hx : x ∈ b := hs x (List.mem_cons_self ..)
    have h2 := ih (b := b.erase x) h1.2 fun y hy => (List.mem_erase_of_ne (fun e => by subst e; exact h1.1 hy)).2 (hs y (List.mem_cons_of_mem _ hy))
    have h3 := List.length_erase_of_mem hx
    have h4 := List.length_pos_of_mem hx
    simp only [List.length_cons]
    omega

theorem region_tseq {Q : Exit → Act → World → Prop} {id : Nat} {a0 : Act} {w : World} (p : TPlan) (N : Nat) (hm : P.follows .mixedOrders = true) (hlow : lowB l.toArray = true) (hok : p.ok l N = true) (hN : a0.tmps.size = N)
    (hgo : FuelGo P l p Q p.effs.length [] a0 w.drew) : (Code.region id l.toArray true).wp P Q a0 w := by
  have h : TOK p l N := TOK.of hok
  have hil : ∀ (i : Nat) (o : Oper), l[i]? = some o → i < l.length := fun i o ho => (List.getElem?_eq_some_iff.1 ho).1
  have hact : ∀ e, e ∈ p.effs ↔ p.act e = true := fun e => by simp [TPlan.act]
  refine region_inv hm hlow (fun L a w => ∃ f s b, THere P l p N Q a0 L a w f s b) ?_ ?_ ?_
  · obtain ⟨b, hmid, hdf, _⟩ := tmid_of h (a0 := a0) (a := a0) (s := []) trivial hgo hN (fun _ _ => rfl) (fun i o _ _ _ hlt => by cases hlt)
    exact ⟨_, [], b, ⟨by simp, trivial, hmid, hdf.symm, hN, (fun e he => by simp), (fun j o d hl => by cases hl), (fun _ _ => rfl), fun i o ho ha hat _ => tlate_of h hmid ho ha hat (fun e he => by cases he)⟩⟩
  · rintro L a w i o ho hli hdeps hc ⟨f, s, b, hh⟩
    have ho' : l[i]? = some o := by simpa using ho
    have hdeps' : ∀ e ∈ o.after, Region.binds .any e = true → L e.on = true := hdeps
    have hat : p.rdy s i = true := by
      rw [rdy_iff]
      exact fun e he hae => (hh.acts e he).1 (h.closed hc i o ho' hdeps' e (h.efflt e he) hae)
    unfold wpOp
    rw [ho]
    simp only
    cases ha : p.act i with
    | false =>
      obtain ⟨hval, ⟨d, hd⟩⟩ := h.flo i o ho' ha
      obtain ⟨b', v, d', hd', hv, hs, hy⟩ := hh.late i o ho' ha hat hli
      rw [hd] at hd'; cases hd'
      have hag := tagree_at h hc hh ho' hli hdeps' hs
      have hex : execOp a.eval o = execOp b'.eval o := execOp_same o (h.sel i o ho') hag
      have hwa : Region.wanted o (yielded l.toArray a.tmps) = Region.wanted o (yielded l.toArray b'.tmps) := wanted_same o hag
      have hnew : ∃ f s b, THere P l p N Q a0 (fun j => L j || j == i) (a.put o.dst v) w f s b := by
        refine ⟨f, s, b, ⟨hh.fuel, hh.valid, hh.mid, by rw [put_defers, hh.defers], by rw [put_size, hh.size], fun e he => ?_, fun j oj dj hj hoj hdj => ?_, fun t ht => ?_, fun i' o' ho' ha' hat' hl' => ?_⟩⟩
        · have hne : (e == i) = false := by
            refine Bool.eq_false_iff.2 fun hb => ?_
            have hb' : e = i := by simpa using hb
            subst hb'
            have := (hact e).1 he
            rw [ha] at this; cases this
          simp only [hne, Bool.or_false]
          exact hh.acts e he
        · rw [hd]
          simp only [Bool.or_eq_true, beq_iff_eq] at hj
          rcases hj with hj | rfl
          · by_cases hdd : dj = d
            · subst hdd
              obtain rfl := h.one j i oj o dj hoj ho' hdj hd
              rw [hj] at hli; cases hli
            · rw [put_get_ne _ _ _ _ (Ne.symm hdd)]
              exact hh.came j oj dj hj hoj hdj
          · rw [ho'] at hoj; cases hoj
            rw [hd] at hdj; cases hdj
            rw [put_get_same _ _ _ (by rw [hh.size]; exact h.lt j o d ho' hd), hv]
        · have htd : d ≠ t := fun e => ht i o (by simp) ho' (by rw [hd, e])
          rw [hd, put_get_ne _ _ _ _ htd]
          exact hh.old t fun j oj hj hoj => ht j oj (by simp [hj]) hoj
        · simp only [Bool.or_eq_false_iff] at hl'
          exact hh.late i' o' ho' ha' hat' hl'.1
      rcases hy with ⟨hwant, hrun⟩ | ⟨hwant, rfl⟩
      · rw [hwa, if_pos hwant]
        refine .inl ?_
        unfold Oper.wp
        rw [hex, hrun]
        exact hnew
      · rw [hwa, if_neg (by rw [hwant]; simp)]
        exact hnew
    | true =>
      have hie : i ∈ p.effs := (hact i).2 ha
      have his : i ∉ s := fun hi => by
        have := (hh.acts i hie).2 hi
        rw [hli] at this; cases this
      have hvs : Valid p (i :: s) := ⟨hie, his, hat, hh.valid⟩
      have hf : f ≠ 0 := fun h0 => by
        have h1 := nodup_len hvs.nodup hvs.sub
        have h2 := hh.fuel
        simp only [List.length_cons] at h1
        omega
      obtain ⟨f, rfl⟩ : ∃ f', f = f' + 1 := ⟨f - 1, by omega⟩
      have hni : i ∈ p.nexts s := by
        simp only [TPlan.nexts, List.mem_filter, Bool.and_eq_true, Bool.not_eq_true']
        exact ⟨hie, by simpa using his, hat⟩
      have hnext := hh.mid.next.2 i hni
      have hops : opsAt l [i] = [o] := by simp [opsAt, ho']
      rw [hops] at hnext
      have hs : TSees p l a0 b i o b := fun t ht => ⟨fun j oj hoj hdj => ⟨fun _ => rfl, fun hf => by
          have hr := (h.reads i j o oj t ho' hoj hdj ht).resolve_left (by rw [hf]; simp)
          refine hh.mid.free t fun j' oj' hoj' hdj' hdone => ?_
          obtain rfl := h.one j j' oj oj' t hoj hoj' hdj hdj'
          unfold tdoneE at hdone
          by_cases hc' : p.act j = true
          · rw [if_pos hc'] at hdone
            have := h.closed' hc j oj hoj ((hh.acts j ((hact j).2 hc')).2 hdone) i (hil i o ho') hr.1
            rw [hli] at this; cases this
          · rw [if_neg hc'] at hdone
            exact his ((rdy_iff s j).1 hdone i hie hr.1)⟩, fun hno => hh.mid.free t fun j oj hoj hdj => absurd hdj (hno j oj hoj)⟩
      have hag := tagree_at h hc hh ho' hli hdeps' hs
      have hex : execOp a.eval o = execOp b.eval o := execOp_same o (h.sel i o ho') hag
      have hwa : Region.wanted o (yielded l.toArray a.tmps) = Region.wanted o (yielded l.toArray b.tmps) := wanted_same o hag
      have hnd : ∀ (j : Nat) (oj : Oper) (t : Nat), l[j]? = some oj → oj.dst = some t → tdoneE p s j → o.dst ≠ some t := fun j oj t hoj hdj hdone hdt => by
        obtain rfl := h.one j i oj o t hoj ho' hdj hdt
        unfold tdoneE at hdone
        rw [if_pos ha] at hdone
        exact his hdone
      have cont : ∀ (a2 b2 : Act) (v : Value) (w2 : World), a2.defers = b2.defers → a2.tmps = (a.put o.dst v).tmps → b2.tmps = (b.put o.dst v).tmps → FuelGo P l p Q f (i :: s) b2 w2 →
          ∃ f s b, THere P l p N Q a0 (fun j => L j || j == i) a2 w2 f s b := by
        intro a2 b2 v w2 hdf ha2 hb2 hgo2
        have hbput : ∀ t, o.dst ≠ some t → b2.tmps[t]? = b.tmps[t]? := fun t ht => by
          rw [hb2]
          cases hd : o.dst with
          | none => rfl
          | some d => exact put_get_ne _ _ _ _ fun e => ht (by rw [hd, e])
        have haput : ∀ t, o.dst ≠ some t → a2.tmps[t]? = a.tmps[t]? := fun t ht => by
          rw [ha2]
          cases hd : o.dst with
          | none => rfl
          | some d => exact put_get_ne _ _ _ _ fun e => ht (by rw [hd, e])
        obtain ⟨b3, hmid3, hdf3, hfr3⟩ := tmid_of h (a0 := a0) (a := b2) (w := w2) (s := i :: s) hvs hgo2 (by rw [hb2, put_size, hh.mid.size])
          (fun t ht => by
            have hne : o.dst ≠ some t := fun hd => ht i o ho' hd (by unfold tdoneS; rw [if_pos ha]; simp)
            rw [hbput t hne]
            refine hh.mid.free t fun j oj hoj hdj hdone => ht j oj hoj hdj ?_
            unfold tdoneE at hdone
            unfold tdoneS
            split
            · rename_i hc'; rw [if_pos hc'] at hdone
              exact List.mem_cons_of_mem _ hdone
            · rename_i hc'; rw [if_neg hc'] at hdone; exact hdone)
          (fun i' o2 ho2 ha2' hp2 hlt2 => by
            obtain ⟨b', v', d', h1, h2, h3, h4⟩ := hh.mid.plain i' o2 ho2 ha2' hp2 hlt2
            refine ⟨b', v', d', h1, ?_, fun t ht => ⟨fun j oj hoj hdj => ⟨fun haj => ?_, ((h3 t ht).1 j oj hoj hdj).2⟩, (h3 t ht).2⟩, h4⟩
            · rw [hbput d' (hnd i' o2 d' ho2 h1 (by unfold tdoneE; rw [if_neg (by rw [ha2']; simp)]; exact hlt2))]
              exact h2
            · rw [((h3 t ht).1 j oj hoj hdj).1 haj]
              refine (hbput t (hnd j oj t hoj hdj ?_)).symm
              unfold tdoneE
              split
              · rename_i hc'
                exact (rdy_iff s i').1 hlt2 j ((hact j).2 hc') haj
              · exact h.down (hil i' o2 ho2) (hil j oj hoj) hlt2 haj)
        have hlt' : ∀ j, p.rdy (i :: s) j = true → p.rdy s j = false → p.ahead j i = true := fun j h1 h2 => by
          refine Classical.byContradiction fun hn => ?_
          have : p.rdy s j = true := (rdy_iff s j).2 fun e he hae => by
            rcases List.mem_cons.1 ((rdy_iff _ j).1 h1 e he hae) with rfl | hm
            · exact absurd hae hn
            · exact hm
          rw [h2] at this; cases this
        refine ⟨f, i :: s, b3, ⟨by have := hh.fuel; simp only [List.length_cons]; omega, hvs, hmid3, by rw [hdf, hdf3], by rw [ha2, put_size, hh.size], fun e he => ?_, fun j oj d hj hoj hdj => ?_, fun t ht => ?_, fun i' o2 ho2 ha2' hat2 hl2 => ?_⟩⟩
        · simp only [Bool.or_eq_true, beq_iff_eq, List.mem_cons]
          rw [hh.acts e he]
          exact or_comm
        · have hb3 : b3.tmps[d]? = b2.tmps[d]? := hfr3 d fun i' o2 ho2 ha2' hat2 hpv2 hd2 => by
            obtain rfl := h.one j i' oj o2 d hoj ho2 hdj hd2
            have hae := hlt' j hat2 hpv2
            simp only [Bool.or_eq_true, beq_iff_eq] at hj
            rcases hj with hj | rfl
            · have := h.closed' hc j oj hoj hj i (hil i o ho') hae
              rw [hli] at this; cases this
            · rw [ha] at ha2'; cases ha2'
          rw [hb3]
          simp only [Bool.or_eq_true, beq_iff_eq] at hj
          by_cases hdo : o.dst = some d
          · rw [ha2, hb2, hdo, put_get_same _ _ _ (by rw [hh.size]; exact h.lt i o d ho' hdo), put_get_same _ _ _ (by rw [hh.mid.size]; exact h.lt i o d ho' hdo)]
          · rcases hj with hj | rfl
            · rw [haput d hdo, hbput d hdo]
              exact hh.came j oj d hj hoj hdj
            · rw [ho'] at hoj; cases hoj
              exact absurd hdj hdo
        · have hne : o.dst ≠ some t := fun hd => ht i o (by simp) ho' hd
          rw [haput t hne]
          exact hh.old t fun j oj hj hoj => ht j oj (by simp [hj]) hoj
        · simp only [Bool.or_eq_false_iff] at hl2
          refine tlate_of h hmid3 ho2 ha2' hat2 fun e he => ?_
          refine Bool.eq_false_iff.2 fun hb => ?_
          have : L i' = true := by
            rcases List.mem_cons.1 he with rfl | he
            · exact h.closed hc e o ho' hdeps' i' (hil i' o2 ho2) hb
            · have hee := hh.valid.sub e he
              have hlt := h.efflt e hee
              exact h.closed' hc e l[e] (List.getElem?_eq_getElem hlt) ((hh.acts e hee).2 he) i' (hil i' o2 ho2) hb
          rw [hl2.1] at this; cases this
      simp only [wpList] at hnext
      by_cases hw : Region.wanted o (yielded l.toArray b.tmps) = true
      · rw [if_pos hw] at hnext
        rw [hwa, if_pos hw]
        rcases hnext with hnext | ⟨_, a9, w9, h9⟩
        · refine .inl ?_
          unfold Oper.wp at hnext ⊢
          rw [hex]
          exact upon_rel hh.defers (fun e a w h => h.1) (fun a2 b2 v w2 h1 h2 h3 h4 => cont a2 b2 v w2 h1 h2 h3 h4.2) _ hnext
        · cases h9.1
      · rw [if_neg hw] at hnext
        rw [hwa, if_neg hw]
        exact cont _ _ undef _ (by rw [put_defers, put_defers, hh.defers]) rfl rfl hnext.2
  · rintro L a w hall ⟨f, s, b, hh⟩
    have hin : ∀ e ∈ p.effs, e ∈ s := fun e he => (hh.acts e he).1 (hall e (by simpa using h.efflt e he))
    have hnil : p.nexts s = [] := by
      refine List.eq_nil_iff_forall_not_mem.2 fun i hi => ?_
      simp only [TPlan.nexts, List.mem_filter, Bool.and_eq_true, Bool.not_eq_true'] at hi
      have := hin i hi.1
      have h2 := hi.2.1
      simp [this] at h2
    have hQ : Q .normal b w := by
      have hnext := hh.mid.next
      cases f with
      | zero => exact hnext
      | succ f => exact hnext.1 hnil
    have hab : a = b := by
      refine act_ext hh.defers (by rw [hh.size, hh.mid.size]) fun t _ => ?_
      by_cases hw : ∃ (j : Nat) (oj : Oper), l[j]? = some oj ∧ oj.dst = some t
      · obtain ⟨j, oj, hoj, hdj⟩ := hw
        exact hh.came j oj t (hall j (by simpa using hil j oj hoj)) hoj hdj
      · have hno : ∀ (j : Nat) (oj : Oper), l[j]? = some oj → oj.dst ≠ some t := fun j oj hoj hdj => hw ⟨j, oj, hoj, hdj⟩
        rw [hh.old t fun j oj _ hoj => hno j oj hoj, hh.mid.free t fun j oj hoj hdj => absurd hdj (hno j oj hoj)]
    rw [hab]
    exact hQ

theorem region_tree {Q : Exit → Act → World → Prop} {id : Nat} {a0 : Act} {w : World} (p : TPlan) (T : Tree) (N : Nat) (hm : P.follows .mixedOrders = true) (hlow : lowB l.toArray = true) (hok : p.ok l N = true) (hs : p.tree l p.effs.length [] = T) (hN : a0.tmps.size = N)
    (hgo : TreeGo P l Q T a0 w.drew) : (Code.region id l.toArray true).wp P Q a0 w := region_tseq p N hm hlow hok hN (tree_fuel _ _ _ _ (by rw [hs]; exact hgo))
end
end Go.Proofs.YtdgpchacfdlleaaDoor
end

section
/-
  pipe: a frame sealed.
-/
namespace Go.Proofs.YtdgpchacfdlleaaDoor
open Go.RowKit

theorem isB_cons {k : Int} {xs : List Int} (h : 0 ≤ k ∧ k < 256) (hx : IsB xs) : IsB (k :: xs) := by
  intro z hz
  rcases List.mem_cons.1 hz with rfl | hz
  · exact ⟨h.1, by omega⟩
  · exact hx z hz
theorem sealX_len {R : RealF} {ideal : Bool} (hK : Kind R ideal) (sec : List Int) (st : BoxI) (kid : Kid) (n : Int) (ad text : List Int) : (sealX R sec ideal st kid n ad text).2.1.length ≤ 100000 := by
  unfold sealX
  split
  · simp
  split
  · simp
  rename_i h1 h2
  rcases hK with rfl | hK
  · simp only [if_true]
    rw [putL_len _ _ (by omega)]
    omega
  · exact absurd hK id
/-- An end, and where it may lie. -/
structure PipeUp (w0 w : World) (own : Nat → Prop) (gp gb : Nat) (p : PipeS) (sec : List Int) (ideal : Bool) (st : BoxI) : Prop where
  box : BoxUp w0 w own gb sec ideal st
  blk : Blk w gp (pipeC gb p) 119
  up : w0.heap.size ≤ gp
  no : ¬ own gp
theorem PipeUp.stay {w0 w w' : World} {own : Nat → Prop} {gp gb : Nat} {p : PipeS} {sec : List Int} {ideal : Bool} {st : BoxI} (h : PipeUp w0 w own gp gb p sec ideal st) (k : Below w.heap.size w w') : PipeUp w0 w' own gp gb p sec ideal st :=
  ⟨h.box.stay k, h.blk.stay k, h.up, h.no⟩
/-- Which ends there are. -/
structure PipeS.In (p : PipeS) : Prop where
  key : ∀ e s : Int, InI e → InI s → (fid p.k e s).In
  side : p.side < 2
  S : p.S ≤ 1099511627776
  E : p.E ≤ 1099511627776
  c0 : p.c0 ≤ 1000000000000000
  c1 : p.c1 ≤ 1000000000000000
/-- What a call that turns an end comes to. -/
def ResP (w0 w : World) (own : Nat → Prop) (gp gb : Nat) (sec : List Int) (ideal : Bool) (code : Int) (out : List Int) (st' : BoxI) (p' : PipeS) (e : Ending) (w' : World) : Prop :=
  ∃ v own', e = .returned (.tuple #[v, .int .i64 code]) ∧ Rd w' v (bs out) ∧ (∀ b, hold v b → w.heap.size ≤ b ∧ b < w'.heap.size ∧ ¬ own' b) ∧ PipeUp w0 w' own' gp gb p' sec ideal st' ∧ (∀ b, b < w.heap.size → (own' b ↔ own b)) ∧ Turns (fun k => own k ∨ k = gp) w w' ∧ IsB out
theorem ResP.early {w0 w w' : World} {own : Nat → Prop} {gp gb : Nat} {p : PipeS} {sec : List Int} {ideal : Bool} {st : BoxI} (h : PipeUp w0 w own gp gb p sec ideal st) (k : Below w.heap.size w w') (code : Int) :
    ResP w0 w own gp gb sec ideal code [] st p (.returned (.tuple #[.slice none 0 0, .int .i64 code])) w' :=
  ⟨_, own, rfl, Rd.nil _, fun b hb => absurd hb (by simp [hold]), h.stay k, fun _ _ => Iff.rfl, Turns.of_below k, fun z hz => absurd hz (by simp)⟩

set_option maxRecDepth 100000 in
set_option maxHeartbeats 1000000 in
theorem pseal_any (R : RealF) {w0 w : World} {own : Nat → Prop} {gp gb : Nat} {p : PipeS} {sec : List Int} {ideal : Bool} {st : BoxI} (hK : Kind R ideal) (h : PipeUp w0 w own gp gb p sec ideal st) (hf : Few st) (hi : p.In)
    (kind : Int) (hk : 0 ≤ kind ∧ kind < 256) (vt : Value) (text : List Int) (hrt : Rd w vt (bs text)) (hT : IsB text) :
    Calls Tryd.prog 69 #[.pointer (some ⟨gp, 0, none⟩), .int .u8 kind, vt] w
      (ResP w0 w own gp gb sec ideal (psealF R sec ideal st p kind text).1 (psealF R sec ideal st p kind text).2.1 (psealF R sec ideal st p kind text).2.2.1 (psealF R sec ideal st p kind text).2.2.2) := by
  obtain ⟨Z, hZ⟩ : ∃ Z, w.heap.size = Z := ⟨_, rfl⟩
  obtain ⟨r, hr⟩ : ∃ r, psealF R sec ideal st p kind text = r := ⟨_, rfl⟩
  rw [hr]
  have EARLY := Lib.hid (fun (code : Int) (w' : World) (k : Below Z w w') (e : r = (code, [], st, p)) => show ResP w0 w own gp gb sec ideal r.1 r.2.1 r.2.2.1 r.2.2.2 (.returned (.tuple #[.slice none 0 0, .int .i64 code])) w' by rw [e]; exact ResP.early h (by rw [hZ]; exact k) code)
  obtain ⟨R0, hR0⟩ : ∃ R0 : Ending → World → Prop, ResP w0 w own gp gb sec ideal r.1 r.2.1 r.2.2.1 r.2.2.2 = R0 := ⟨_, rfl⟩
  rw [hR0] at EARLY ⊢
  have HR0 := Lib.hid (fun _ : Unit => hR0)
  have HR := Lib.hid (fun _ : Unit => hr)
  have OP := Lib.hid (popen_any w gp gb p h.blk)
  obtain ⟨cd, hcd⟩ : ∃ c : Int, (if p.closed = true then 14 else 0) = c := ⟨_, rfl⟩
  rw [hcd] at OP
  have HCD := Lib.hid (fun _ : Unit => hcd)
  have y2 : w.cell? ⟨gp, 2 + 2, none⟩ = some (nI p.side) := h.blk.at_ 4 rfl
  have SP := Lib.hid (spent_any w gp gb p p.side hi.side h.blk)
  have HK := Lib.hid hK; have HH := Lib.hid h; have HF := Lib.hid hf; have HI := Lib.hid hi; have HKD := Lib.hid hk; have HT := Lib.hid hT
  obtain ⟨At, ct, rfl, hct, _⟩ := id hrt
  simp only [bs_len] at hrt hct ⊢
  obtain ⟨lt, hlt⟩ : ∃ l, text.length = l := ⟨_, rfl⟩
  rw [hlt] at hrt hct ⊢
  have HRT := Lib.hid hrt; have HLT := Lib.hid (fun _ : Unit => hlt)
  obtain ⟨side, hsd⟩ : ∃ s, p.side = s := ⟨_, rfl⟩
  obtain ⟨sp, hsp⟩ : ∃ s, p.spent p.side = s := ⟨_, rfl⟩
  rw [hsp, hsd] at SP
  rw [hsd] at y2
  have HSP := Lib.hid (fun _ : Unit => hsp); have HSD := Lib.hid (fun _ : Unit => hsd)
  have hs2 : side < 2 := by rw [← hsd]; exact hi.side
  unfold nI at y2
  clear hK h hf hi hk hT hrt hlt hsp hsd hcd hr hR0
  rcases (show side = 0 ∨ side = 1 by omega) with rfl | rfl
  · go_enter Tryd.func69, Tryd.ntmps69
    go_upto_region 2 with (go_at_call 70; refine OP.out.mono ?_; rintro e w' ⟨rfl, hw⟩; subst hw)
    by_cases hc0 : cd ≠ 0
    · go_wp2_with fail
      all_goals (try go_ret2)
      refine EARLY.out _ _ (Below.refl _ _) ?_
      have hcl : p.closed = true := by have := HCD.out (); split at this <;> first | assumption | omega
      rw [← HR.out (), ← HCD.out ()]; unfold psealF; simp [hcl]
    obtain rfl : cd = 0 := by omega
    have NC := Lib.hid (show p.closed = false by have := HCD.out (); split at this <;> first | omega | simp_all)
    clear hc0 HCD OP
    by_cases hl1 : 60000 < lt
    · go_wp2_with fail
      all_goals (try go_ret2)
      refine EARLY.out _ _ (Below.refl _ _) ?_
      rw [← HR.out ()]; unfold psealF; simp [NC.out, HLT.out (), hl1]
    cases sp with
    | true =>
      go_wp2_with (go_at_call 98; refine SP.out.mono ?_; rintro e w1 ⟨rfl, hb1⟩)
      all_goals (try go_ret2)
      refine EARLY.out _ _ (by rw [← hZ]; exact hb1) ?_
      rw [← HR.out ()]; unfold psealF; simp [NC.out, HLT.out (), hl1, HSP.out ()]
    | false =>
      go_upto_region 8 with (go_at_call 98; refine SP.out.mono ?_; rintro e w1 ⟨rfl, hb1⟩)
      have hz1 := hb1.size
      have b1 := HH.out.blk.stay hb1
      have b1d := b1.d1
      obtain ⟨ep, hep⟩ : ∃ e, p.c0 / p.S = e := ⟨_, rfl⟩
      obtain ⟨sq, hsq⟩ : ∃ e, p.c0 % p.S = e := ⟨_, rfl⟩
      obtain ⟨cn, hcn⟩ : ∃ e, p.c0 = e := ⟨_, rfl⟩
      have x4 : w1.drew.cell? ⟨gp, 4, none⟩ = some (nI p.side) := b1d.at_ 4 rfl
      rw [HSD.out ()] at x4
      unfold nI at x4
      have eL : (List.drop 12 (pipeC gb p)).take 3 = [nI ep, nI sq, nI cn] := by rw [← hep, ← hsq, ← hcn]; rfl
      have HEP := Lib.hid (fun _ : Unit => hep); have HSQ := Lib.hid (fun _ : Unit => hsq); have HCN := Lib.hid (fun _ : Unit => hcn)
      have PT := Lib.hid (b1d.part 12 (ys := [nI ep, nI sq, nI cn]) eL)
      have LU := Lib.hid (load_fact (P := Tryd.prog) b1d 116 12 (ys := [nI ep, nI sq, nI cn]) eL Tryd.underlying116 rfl (n := 3) (by kernel_rfl) rfl)
      have B1 := Lib.hid b1; have HB1 := Lib.hid hb1
      unfold nI at PT LU
      clear b1 b1d hep hsq hcn eL SP y2 hb1
      refine region_plan ⟨[0, 0, 2, 6, 14, 1, 33, 127, 255, 0, 1023], [9, 10], [0, 0, 0, 0, 0, 0, 0, 0, 0, 0, 1]⟩
        [⟨[0, 1, 2, 3, 4, 5, 6, 7, 8], [2, 3, 4, 5, 6, 7, 8], some 9⟩, ⟨[], [2, 3, 4, 5, 6, 7, 8], some 10⟩, ⟨[], [], none⟩] 74 (by kernel_rfl) (by kernel_rfl) (by kernel_rfl) (by kernel_rfl) rfl ?_
      simp only [SeqGo, opsAt_cons, opsAt_nil, List.getElem?_cons, Option.toList_some, List.singleton_append, ↓reduceIte, Nat.reduceEqDiff, Nat.reduceSub]
      go_wp2_with (refine wp_load_sub rfl 116 (.tmp 35) rfl rfl (ys := [.int .i64 ep, .int .i64 sq, .int .i64 cn]) PT.out Tryd.underlying116 rfl (n := 3) (by kernel_rfl) rfl ?_)
      refine ⟨by (simp only [Sames]; refine ⟨?_, ?_, ?_, ?_, ?_, ?_, ?_, trivial⟩ <;> first | exact same_load (by rfl) 116 (.tmp 35) rfl rfl (LU.out _ (Below.refl _ _)) rfl | (simp only [Same]; go_simp)), ?_⟩
      have x42 := (((B1.out.al (Obj.cells #[.int .i64 0, .int .i64 0, .int .i64 0] 116)).d1).at_ 4 (v := nI p.side) rfl)
      rw [HSD.out ()] at x42
      unfold nI at x42
      go_wp2_with fail
      refine ⟨by (simp only [Sames]; refine ⟨?_, ?_, ?_, ?_, ?_, ?_, ?_, trivial⟩ <;> first | exact same_load (by rfl) 116 (.tmp 35) rfl rfl (LU.out _ (bw_al (Below.refl _ _) (Nat.le_refl _) _)) rfl | (simp only [Same]; go_simp)), ?_⟩
      go_wp2_with (refine wp_store_blk rfl 116 (.tmp 9) (.tmp 36) rfl rfl rfl (cs' := [.int .i64 ep, .int .i64 sq, .int .i64 cn]) (Blk.mk_ (cs := [.int .i64 0, .int .i64 0, .int .i64 0]) _ rfl rfl) (by intro y hy; simp at hy; rcases hy with rfl | rfl | rfl <;> rfl) rfl (n := 3) (by kernel_rfl) rfl ?_; intro w2 b2 on2)
      clear x4 x42
      refine And.intro (a := True) trivial ?_
      have bw2 : Below w1.heap.size w1 w2 := on2.below (bw_d1 (bw_al (Below.refl _ _) (Nat.le_refl _) _)) (Nat.le_refl _)
      have hz2 : w2.heap.size = w1.heap.size + 1 := by rw [on2.size]; simp
      have bb2 : Below w.heap.size w w2 := bw_then HB1.out bw2 hz1
      have k2 := B1.out.stay bw2
      have K2 := Lib.hid k2; have L2 := Lib.hid b2; have BB2 := Lib.hid bb2
      have fid0 := fun w' => fid_any w' p.k (ep : Int) (0 : Int)
      obtain ⟨kid, hkid⟩ : ∃ k, fid p.k (ep : Int) (0 : Int) = k := ⟨_, rfl⟩
      simp only [hkid] at fid0
      have FID := Lib.hid fid0
      clear fid0
      have hkin : kid.In := by
        rw [← hkid]
        have h1 := HI.out.c0
        have h2 : ep ≤ p.c0 := by rw [← HEP.out ()]; exact Nat.div_le_self _ _
        exact HI.out.key _ _ ⟨by omega, by omega⟩ ⟨by decide, by decide⟩
      have hsin : InI (sq : Int) := by
        have h1 := HI.out.c0
        have h2 : sq ≤ p.c0 := by rw [← HSQ.out ()]; exact Nat.mod_le _ _
        exact ⟨by omega, by omega⟩
      have KIN := Lib.hid hkin; have SIN := Lib.hid hsin; have HKID := Lib.hid (fun _ : Unit => hkid)
      obtain ⟨q, hq⟩ : ∃ q, sealX R sec ideal st kid (sq : Int) [] (kind :: text) = q := ⟨_, rfl⟩
      have HQ := Lib.hid (fun _ : Unit => hq)
      go_upto_region 9 with fail
      have hbl0 : Below w2.heap.size w2 w2 := Below.refl _ _
      clear hz2
      have KA : ∀ w', Below w2.heap.size w2 w' → w'.cell? ⟨gp, 0, none⟩ = some (.pointer (some ⟨gb, 0, none⟩)) := fun w' h => (K2.out.stay h).at_ 0 rfl
      have KB : ∀ w', Below w2.heap.size w2 w' → w'.cell? ⟨gp, 4, none⟩ = some (.int .i64 0) := fun w' h => by have c := (K2.out.stay h).at_ 4 (v := nI p.side) rfl; rw [HSD.out ()] at c; unfold nI at c; simpa using c
      have E0 : ∀ w', Below w2.heap.size w2 w' → w'.cell? ⟨w1.heap.size, 0, none⟩ = some (.int .i64 ep) := fun w' h => (L2.out.stay h).at_ 0 rfl
      have E1 : ∀ w', Below w2.heap.size w2 w' → w'.cell? ⟨w1.heap.size, 1, none⟩ = some (.int .i64 sq) := fun w' h => (L2.out.stay h).at_ 1 rfl
      have k0 := KA w2 hbl0; have k4 := KB w2 hbl0; have e0 := E0 w2 hbl0; have e1 := E1 w2 hbl0
      have LK := Lib.hid (load_fact (P := Tryd.prog) K2.out 68 1 (ys := [.int .i64 p.k.life, .int .i64 p.k.conn, .int .i64 p.k.peer]) rfl Tryd.underlying68 rfl (n := 3) (by kernel_rfl) rfl)
      have FIN := Lib.hid (fun (v7 : Value) (w7 : World) (hb : Below w2.heap.size w2 w7) (ho : w7.ownsRow w2.heap.size 5 1 v7 (1 + lt) (bs (kind :: text))) =>
        show Calls Tryd.prog 18 #[.pointer (some ⟨gb, 0, none⟩), .agg kid.cells.toArray, .int .i64 (sq : Int), .slice none 0 0, v7] w7 (fun e w' => ∃ v, e = .returned (.tuple #[v, .int .i64 q.1]) ∧ Rd w' v (bs q.2.1) ∧ ∃ own', (∀ b, hold v b → w.heap.size ≤ b ∧ b < w'.heap.size ∧ ¬ own' b) ∧ PipeUp w0 w' own' gp gb p sec ideal q.2.2 ∧ (∀ b, b < w.heap.size → (own' b ↔ own b)) ∧ Turns own w w' ∧ IsB q.2.1) by
          have hw := bw_then BB2.out hb BB2.out.size
          have SX := sealU R HK.out (HH.out.box.stay hw) HF.out kid (sq : Int) KIN.out SIN.out (.slice none 0 0) v7 [] (kind :: text) (Rd.nil _) (fun z hz => absurd hz (by simp)) (Rd.of_own ho) (isB_cons HKD.out HT.out) (fun h => absurd rfl h) (fun _ b hb => HH.out.box.fresh (Nat.le_trans BB2.out.size (row_new ho hb).1))
          rw [HQ.out ()] at SX
          refine SX.mono ?_
          rintro e w' ⟨v, own', rfl, x1, x2, x3, x4, x5, x6, x7⟩
          have hgp := (K2.out.stay hb).lt
          exact ⟨v, rfl, x1, own', fun b hb' => ⟨Nat.le_trans hw.size (x2 b hb').1, (x2 b hb').2⟩, ⟨x3, (K2.out.stay hb).turns x5 HH.out.no, HH.out.up, fun h => HH.out.no ((x4 gp hgp).1 h)⟩, fun b hb' => x4 b (Nat.lt_of_lt_of_le hb' hw.size), (Turns.of_below hw).trans x5, x6⟩)
      clear b2 on2 k2 bw2 bb2 hkin hsin hkid hq LU PT
      go_cut [10, 11] from 37 to 62 (fun v c wx => ∃ own', c = .int .i64 q.1 ∧ Rd wx v (bs q.2.1) ∧ (∀ b, hold v b → w.heap.size ≤ b ∧ b < wx.heap.size ∧ ¬ own' b) ∧ PipeUp w0 wx own' gp gb p sec ideal q.2.2 ∧ (∀ b, b < w.heap.size → (own' b ↔ own b)) ∧ Turns own w wx ∧ IsB q.2.1)
      case first =>
        refine region_tree ⟨[0, 1, 3, 7, 0, 16, 48, 112, 0, 256, 0, 1024, 3072, 7168, 16368, 0, 32768, 0, 131072, 0, 950256, 2097151, 4194303, 8388607, 8388607, 16777215, 67108863], [14, 18, 20, 21]⟩
          (.node [0, 1, 2, 3, 4, 5, 6, 7, 8, 9, 10, 11, 12, 13, 15, 16, 17, 19] [1, 2, 3, 5, 6, 7, 8, 9, 11, 12, 13, 15, 16] (.cons 14 (.node [] [1, 2, 3, 15, 16] (.last 18 (.node [] [1, 2, 3, 15, 16] (.last 20 (.node [] [1, 2, 3, 15, 16] (.last 21 (.node [22, 23, 24, 25, 26] [23, 24] .done))))))) (.last 18 (.node [] [1, 2, 3, 5, 6, 7, 8, 9, 11, 12, 13, 15, 16] (.last 14 (.node [] [1, 2, 3, 15, 16] (.last 20 (.node [] [1, 2, 3, 15, 16] (.last 21 (.node [22, 23, 24, 25, 26] [23, 24] .done)))))))))) 74 (by kernel_rfl) (by kernel_rfl) (by kernel_rfl) (by kernel_rfl) rfl ?_
        simp only [TreeGo, KidsGo, opsAt_cons, opsAt_nil, List.getElem?_cons, Option.toList_some, List.singleton_append, ↓reduceIte, Nat.reduceEqDiff, Nat.reduceSub]
        go_wp2_with (refine wp_load_sub rfl 68 (.tmp 44) rfl rfl (ys := [.int .i64 p.k.life, .int .i64 p.k.conn, .int .i64 p.k.peer]) (K2.out.d1.part 1 (ys := [.int .i64 p.k.life, .int .i64 p.k.conn, .int .i64 p.k.peer]) rfl) Tryd.underlying68 rfl (n := 3) (by kernel_rfl) rfl ?_)
        refine ⟨by (simp only [Sames]; refine ⟨?_, ?_, ?_, ?_, ?_, ?_, ?_, ?_, ?_, ?_, ?_, ?_, ?_, trivial⟩ <;> first | exact same_load (by rfl) 68 (.tmp 44) rfl rfl (LK.out _ (bw_d1 hbl0)) rfl | (simp only [Same]; go_simp)), ?_⟩
        refine ⟨?_, ?_⟩
        · go_wp2_with (go_at_call 49; refine (FID.out _).mono ?_; rintro e w5 ⟨rfl, m5⟩; have hbl5 : Below w2.heap.size w2 w5 := bw_next (bw_d1 hbl0) m5; have hbl6 : Below w2.heap.size w2 (w5.alloc (.cells #[.int .u8 kind] 5)) := bw_al hbl5 hbl5.size _)
          first | refine And.intro (a := True) trivial ?_ | refine ⟨by (simp only [Sames, Same]; go_simp), ?_⟩
          go_wp2_with fail
          first | refine And.intro (a := True) trivial ?_ | refine ⟨by (simp only [Sames, Same]; go_simp), ?_⟩
          go_wp2_with (at_builtin; refine wp_app (.tmp 56) (.tmp 57) 24 rfl rfl 5 (.int .u8 0) 1 Tryd.underlying24 info5 rfl w2.heap.size rfl (World.ownsRow_lit w5 #[.int .u8 kind] 1 hbl5.size (by decide) rfl) rfl ((HRT.out.stay BB2.out (Nat.le_refl _)).stay hbl6 (Nat.le_refl _)) (bs_one _) (by decide) (by rw [bs_len, HLT.out ()]; omega) hbl6.size ?_; intro v7 w7 o7 _ m7; rw [bs_len, HLT.out ()] at o7; have hbl7 : Below w2.heap.size w2 w7 := hbl6.trans m7)
          first | refine And.intro (a := True) trivial ?_ | refine ⟨by (simp only [Sames, Same]; go_simp), ?_⟩
          go_wp2_with (go_at_call 18; refine (FIN.out v7 w7 hbl7 o7).mono ?_; rintro e w8 ⟨v8, rfl, r1, own8, r2⟩)
          try (first | refine And.intro (a := True) trivial ?_ | refine ⟨by (simp only [Sames, Same]; go_simp), ?_⟩)
          try go_wp2_with fail
          go_meet
          case rel => exact ⟨own8, rfl, r1, r2⟩
        · go_wp2_with fail
          have hbl3 : Below w2.heap.size w2 (w2.alloc (.cells #[.int .u8 kind] 5)) := bw_al hbl0 (Nat.le_refl _) _
          have hbl4 : Below w2.heap.size w2 (w2.alloc (.cells #[.int .u8 kind] 5)).drew := bw_d1 hbl3
          refine ⟨by (simp only [Sames]; refine ⟨?_, ?_, ?_, ?_, ?_, ?_, ?_, ?_, ?_, ?_, ?_, ?_, ?_, trivial⟩ <;> first | exact same_load (by rfl) 68 (.tmp 44) rfl rfl (LK.out _ hbl4) rfl | (simp only [Same]; go_simp)), ?_⟩
          go_wp2_with (go_at_call 49; refine (FID.out _).mono ?_; rintro e w5 ⟨rfl, m5⟩; have hbl5 : Below w2.heap.size w2 w5 := bw_next hbl4 m5)
          first | refine And.intro (a := True) trivial ?_ | refine ⟨by (simp only [Sames, Same]; go_simp), ?_⟩
          go_wp2_with (at_builtin; refine wp_app (.tmp 56) (.tmp 57) 24 rfl rfl 5 (.int .u8 0) 1 Tryd.underlying24 info5 rfl w2.heap.size rfl (ownsRow_keep (ownsRow_keep (World.ownsRow_lit w2 #[.int .u8 kind] 1 (Nat.le_refl _) (by decide) rfl) (bw_d1 (Below.refl _ _)) (Nat.le_refl _)) m5 (Nat.le_refl _)) rfl ((HRT.out.stay BB2.out (Nat.le_refl _)).stay hbl5 (Nat.le_refl _)) (bs_one _) (by decide) (by rw [bs_len, HLT.out ()]; omega) hbl5.size ?_; intro v7 w7 o7 _ m7; rw [bs_len, HLT.out ()] at o7; have hbl7 : Below w2.heap.size w2 w7 := hbl5.trans m7)
          first | refine And.intro (a := True) trivial ?_ | refine ⟨by (simp only [Sames, Same]; go_simp), ?_⟩
          go_wp2_with (go_at_call 18; refine (FIN.out v7 w7 hbl7 o7).mono ?_; rintro e w8 ⟨v8, rfl, r1, own8, r2⟩)
          try (first | refine And.intro (a := True) trivial ?_ | refine ⟨by (simp only [Sames, Same]; go_simp), ?_⟩)
          try go_wp2_with fail
          go_meet
          case rel => exact ⟨own8, rfl, r1, r2⟩
      case rest =>
        obtain ⟨own8, rfl, r1, r2, r3, r4, r5, r6⟩ := hcut
        have hcnt : p.cnt p.side = p.c0 := by rw [HSD.out ()]; rfl
        have hsi : ((p.side : Nat) : Int) = 0 := by rw [HSD.out ()]; rfl
        have hrr : r = if q.1 ≠ 0 then (q.1, [], q.2.2, p) else (0, 4 :: q.2.1, q.2.2, p.step p.side) := by
          rw [← HR.out ()]
          unfold psealF
          rw [if_neg (by rw [NC.out]; simp), if_neg (by rw [HLT.out ()]; exact hl1), if_neg (by rw [HSP.out ()]; simp), hcnt, hsi, HEP.out (), HSQ.out (), HKID.out (), HQ.out ()]
        have HRR := Lib.hid (fun _ : Unit => hrr)
        have LQ := Lib.hid (show q.2.1.length ≤ 100000 by rw [← HQ.out ()]; exact sealX_len HK.out _ _ _ _ _ _)
        have R1 := Lib.hid r1; have R2 := Lib.hid r2; have R3 := Lib.hid r3; have R4 := Lib.hid r4; have R5 := Lib.hid r5; have R6 := Lib.hid r6
        have hS0 : 0 < p.S := by
          have := HSP.out ()
          unfold PipeS.spent at this
          simp at this
          omega
        have ST := Lib.hid (step_any wc gp gb p 0 (by decide) hS0 HI.out.c0 R3.out.blk)
        have c4 : wc.cell? ⟨gp, 4, none⟩ = some (nI p.side) := R3.out.blk.at_ 4 rfl
        rw [HSD.out ()] at c4
        unfold nI at c4
        obtain ⟨qc, hqc⟩ : ∃ c, q.1 = c := ⟨_, rfl⟩
        rw [hqc]
        have HQC := Lib.hid (fun _ : Unit => hqc)
        clear r1 r2 r3 r4 r5 r6 hcnt hsi hrr hS0 hqc KA KB E0 E1 k0 k4 e0 e1
        by_cases hq0 : qc = 0
        · subst hq0
          go_upto_region 13 with (go_at_call 99; refine ST.out.mono ?_; rintro e w9 ⟨rfl, s1, s2⟩)
          have hgw : gp < w.heap.size := HH.out.blk.lt
          have rv9 := R1.out.moves s2 (fun b hb h => by have := (R2.out b hb).1; omega)
          have up9 : PipeUp w0 w9 own8 gp gb (p.step p.side) sec ideal q.2.2 := ⟨R3.out.box.turns s2 (fun b hb h => R3.out.no (h ▸ hb)) (fun b h => by rw [h]; exact R3.out.up), by rw [HSD.out ()]; exact s1, R3.out.up, R3.out.no⟩
          have t9 : Turns (fun k => own k ∨ k = gp) w w9 := (R5.out.mono fun k h => .inl h).trans (s2.mono fun k h => .inr h)
          have RV := Lib.hid rv9; have UP := Lib.hid up9; have T9 := Lib.hid t9; have SZ := Lib.hid s2.size
          clear s1 s2 rv9 up9 t9 c4
          go_wp2_with (at_builtin; refine wp_app (.tmp 71) (.tmp 72) 24 rfl rfl 5 (.int .u8 0) 1 Tryd.underlying24 info5 rfl w9.heap.size rfl (World.ownsRow_lit w9 #[.int .u8 4] 1 (Nat.le_refl _) (by decide) rfl) rfl (RV.out.stay (bw_al (Below.refl _ _) (Nat.le_refl _) _) (Nat.le_refl _)) (bs_one _) (by decide) (by rw [bs_len]; have := LQ.out; omega) (by simp) ?_; intro v10 w10 o10 _ m10)
          all_goals (try go_ret2)
          rw [← HR0.out (), HRR.out (), if_neg (by rw [HQC.out ()]; simp)]
          have b10 : Below w9.heap.size w9 w10 := (bw_al (Below.refl _ _) (Nat.le_refl _) _).trans m10
          refine ⟨v10, own8, rfl, ?_, fun b hb => ⟨?_, (row_new o10 hb).2, fun ho => ?_⟩, UP.out.stay b10, R4.out, T9.out.trans (Turns.of_below b10), isB_cons (by decide) R6.out⟩
          · have := Rd.of_own o10
            simpa [bs] using this
          · have h1 := (row_new o10 hb).1; have h2 := SZ.out; have h3 := R5.out.size; omega
          · have h1 := (row_new o10 hb).1; have h2 := UP.out.box.box.dom b ho; omega
        · go_wp2_with fail
          all_goals (try go_ret2)
          rw [← HR0.out (), HRR.out (), if_pos (by rw [HQC.out ()]; exact hq0)]
          exact ⟨.slice none 0 0, own8, by rw [HQC.out ()]; rfl, Rd.nil _, fun b hb => absurd hb (by simp [hold]), R3.out, R4.out, R5.out.mono fun k h => .inl h, fun z hz => absurd hz (by simp)⟩
  · go_enter Tryd.func69, Tryd.ntmps69
    go_upto_region 2 with (go_at_call 70; refine OP.out.mono ?_; rintro e w' ⟨rfl, hw⟩; subst hw)
    by_cases hc0 : cd ≠ 0
    · go_wp2_with fail
      all_goals (try go_ret2)
      refine EARLY.out _ _ (Below.refl _ _) ?_
      have hcl : p.closed = true := by have := HCD.out (); split at this <;> first | assumption | omega
      rw [← HR.out (), ← HCD.out ()]; unfold psealF; simp [hcl]
    obtain rfl : cd = 0 := by omega
    have NC := Lib.hid (show p.closed = false by have := HCD.out (); split at this <;> first | omega | simp_all)
    clear hc0 HCD OP
    by_cases hl1 : 60000 < lt
    · go_wp2_with fail
      all_goals (try go_ret2)
      refine EARLY.out _ _ (Below.refl _ _) ?_
      rw [← HR.out ()]; unfold psealF; simp [NC.out, HLT.out (), hl1]
    cases sp with
    | true =>
      go_wp2_with (go_at_call 98; refine SP.out.mono ?_; rintro e w1 ⟨rfl, hb1⟩)
      all_goals (try go_ret2)
      refine EARLY.out _ _ (by rw [← hZ]; exact hb1) ?_
      rw [← HR.out ()]; unfold psealF; simp [NC.out, HLT.out (), hl1, HSP.out ()]
    | false =>
      go_upto_region 8 with (go_at_call 98; refine SP.out.mono ?_; rintro e w1 ⟨rfl, hb1⟩)
      have hz1 := hb1.size
      have b1 := HH.out.blk.stay hb1
      have b1d := b1.d1
      obtain ⟨ep, hep⟩ : ∃ e, p.c1 / p.S = e := ⟨_, rfl⟩
      obtain ⟨sq, hsq⟩ : ∃ e, p.c1 % p.S = e := ⟨_, rfl⟩
      obtain ⟨cn, hcn⟩ : ∃ e, p.c1 = e := ⟨_, rfl⟩
      have x4 : w1.drew.cell? ⟨gp, 4, none⟩ = some (nI p.side) := b1d.at_ 4 rfl
      rw [HSD.out ()] at x4
      unfold nI at x4
      have eL : (List.drop 15 (pipeC gb p)).take 3 = [nI ep, nI sq, nI cn] := by rw [← hep, ← hsq, ← hcn]; rfl
      have HEP := Lib.hid (fun _ : Unit => hep); have HSQ := Lib.hid (fun _ : Unit => hsq); have HCN := Lib.hid (fun _ : Unit => hcn)
      have PT := Lib.hid (b1d.part 15 (ys := [nI ep, nI sq, nI cn]) eL)
      have LU := Lib.hid (load_fact (P := Tryd.prog) b1d 116 15 (ys := [nI ep, nI sq, nI cn]) eL Tryd.underlying116 rfl (n := 3) (by kernel_rfl) rfl)
      have B1 := Lib.hid b1; have HB1 := Lib.hid hb1
      unfold nI at PT LU
      clear b1 b1d hep hsq hcn eL SP y2 hb1
      refine region_plan ⟨[0, 0, 2, 6, 14, 1, 33, 127, 255, 0, 1023], [9, 10], [0, 0, 0, 0, 0, 0, 0, 0, 0, 0, 1]⟩
        [⟨[0, 1, 2, 3, 4, 5, 6, 7, 8], [2, 3, 4, 5, 6, 7, 8], some 9⟩, ⟨[], [2, 3, 4, 5, 6, 7, 8], some 10⟩, ⟨[], [], none⟩] 74 (by kernel_rfl) (by kernel_rfl) (by kernel_rfl) (by kernel_rfl) rfl ?_
      simp only [SeqGo, opsAt_cons, opsAt_nil, List.getElem?_cons, Option.toList_some, List.singleton_append, ↓reduceIte, Nat.reduceEqDiff, Nat.reduceSub]
      go_wp2_with (refine wp_load_sub rfl 116 (.tmp 35) rfl rfl (ys := [.int .i64 ep, .int .i64 sq, .int .i64 cn]) PT.out Tryd.underlying116 rfl (n := 3) (by kernel_rfl) rfl ?_)
      refine ⟨by (simp only [Sames]; refine ⟨?_, ?_, ?_, ?_, ?_, ?_, ?_, trivial⟩ <;> first | exact same_load (by rfl) 116 (.tmp 35) rfl rfl (LU.out _ (Below.refl _ _)) rfl | (simp only [Same]; go_simp)), ?_⟩
      have x42 := (((B1.out.al (Obj.cells #[.int .i64 0, .int .i64 0, .int .i64 0] 116)).d1).at_ 4 (v := nI p.side) rfl)
      rw [HSD.out ()] at x42
      unfold nI at x42
      go_wp2_with fail
      refine ⟨by (simp only [Sames]; refine ⟨?_, ?_, ?_, ?_, ?_, ?_, ?_, trivial⟩ <;> first | exact same_load (by rfl) 116 (.tmp 35) rfl rfl (LU.out _ (bw_al (Below.refl _ _) (Nat.le_refl _) _)) rfl | (simp only [Same]; go_simp)), ?_⟩
      go_wp2_with (refine wp_store_blk rfl 116 (.tmp 9) (.tmp 36) rfl rfl rfl (cs' := [.int .i64 ep, .int .i64 sq, .int .i64 cn]) (Blk.mk_ (cs := [.int .i64 0, .int .i64 0, .int .i64 0]) _ rfl rfl) (by intro y hy; simp at hy; rcases hy with rfl | rfl | rfl <;> rfl) rfl (n := 3) (by kernel_rfl) rfl ?_; intro w2 b2 on2)
      clear x4 x42
      refine And.intro (a := True) trivial ?_
      have bw2 : Below w1.heap.size w1 w2 := on2.below (bw_d1 (bw_al (Below.refl _ _) (Nat.le_refl _) _)) (Nat.le_refl _)
      have hz2 : w2.heap.size = w1.heap.size + 1 := by rw [on2.size]; simp
      have bb2 : Below w.heap.size w w2 := bw_then HB1.out bw2 hz1
      have k2 := B1.out.stay bw2
      have K2 := Lib.hid k2; have L2 := Lib.hid b2; have BB2 := Lib.hid bb2
      have fid0 := fun w' => fid_any w' p.k (ep : Int) (1 : Int)
      obtain ⟨kid, hkid⟩ : ∃ k, fid p.k (ep : Int) (1 : Int) = k := ⟨_, rfl⟩
      simp only [hkid] at fid0
      have FID := Lib.hid fid0
      clear fid0
      have hkin : kid.In := by
        rw [← hkid]
        have h1 := HI.out.c1
        have h2 : ep ≤ p.c1 := by rw [← HEP.out ()]; exact Nat.div_le_self _ _
        exact HI.out.key _ _ ⟨by omega, by omega⟩ ⟨by decide, by decide⟩
      have hsin : InI (sq : Int) := by
        have h1 := HI.out.c1
        have h2 : sq ≤ p.c1 := by rw [← HSQ.out ()]; exact Nat.mod_le _ _
        exact ⟨by omega, by omega⟩
      have KIN := Lib.hid hkin; have SIN := Lib.hid hsin; have HKID := Lib.hid (fun _ : Unit => hkid)
      obtain ⟨q, hq⟩ : ∃ q, sealX R sec ideal st kid (sq : Int) [] (kind :: text) = q := ⟨_, rfl⟩
      have HQ := Lib.hid (fun _ : Unit => hq)
      go_upto_region 9 with fail
      have hbl0 : Below w2.heap.size w2 w2 := Below.refl _ _
      clear hz2
      have KA : ∀ w', Below w2.heap.size w2 w' → w'.cell? ⟨gp, 0, none⟩ = some (.pointer (some ⟨gb, 0, none⟩)) := fun w' h => (K2.out.stay h).at_ 0 rfl
      have KB : ∀ w', Below w2.heap.size w2 w' → w'.cell? ⟨gp, 4, none⟩ = some (.int .i64 1) := fun w' h => by have c := (K2.out.stay h).at_ 4 (v := nI p.side) rfl; rw [HSD.out ()] at c; unfold nI at c; simpa using c
      have E0 : ∀ w', Below w2.heap.size w2 w' → w'.cell? ⟨w1.heap.size, 0, none⟩ = some (.int .i64 ep) := fun w' h => (L2.out.stay h).at_ 0 rfl
      have E1 : ∀ w', Below w2.heap.size w2 w' → w'.cell? ⟨w1.heap.size, 1, none⟩ = some (.int .i64 sq) := fun w' h => (L2.out.stay h).at_ 1 rfl
      have k0 := KA w2 hbl0; have k4 := KB w2 hbl0; have e0 := E0 w2 hbl0; have e1 := E1 w2 hbl0
      have LK := Lib.hid (load_fact (P := Tryd.prog) K2.out 68 1 (ys := [.int .i64 p.k.life, .int .i64 p.k.conn, .int .i64 p.k.peer]) rfl Tryd.underlying68 rfl (n := 3) (by kernel_rfl) rfl)
      have FIN := Lib.hid (fun (v7 : Value) (w7 : World) (hb : Below w2.heap.size w2 w7) (ho : w7.ownsRow w2.heap.size 5 1 v7 (1 + lt) (bs (kind :: text))) =>
        show Calls Tryd.prog 18 #[.pointer (some ⟨gb, 0, none⟩), .agg kid.cells.toArray, .int .i64 (sq : Int), .slice none 0 0, v7] w7 (fun e w' => ∃ v, e = .returned (.tuple #[v, .int .i64 q.1]) ∧ Rd w' v (bs q.2.1) ∧ ∃ own', (∀ b, hold v b → w.heap.size ≤ b ∧ b < w'.heap.size ∧ ¬ own' b) ∧ PipeUp w0 w' own' gp gb p sec ideal q.2.2 ∧ (∀ b, b < w.heap.size → (own' b ↔ own b)) ∧ Turns own w w' ∧ IsB q.2.1) by
          have hw := bw_then BB2.out hb BB2.out.size
          have SX := sealU R HK.out (HH.out.box.stay hw) HF.out kid (sq : Int) KIN.out SIN.out (.slice none 0 0) v7 [] (kind :: text) (Rd.nil _) (fun z hz => absurd hz (by simp)) (Rd.of_own ho) (isB_cons HKD.out HT.out) (fun h => absurd rfl h) (fun _ b hb => HH.out.box.fresh (Nat.le_trans BB2.out.size (row_new ho hb).1))
          rw [HQ.out ()] at SX
          refine SX.mono ?_
          rintro e w' ⟨v, own', rfl, x1, x2, x3, x4, x5, x6, x7⟩
          have hgp := (K2.out.stay hb).lt
          exact ⟨v, rfl, x1, own', fun b hb' => ⟨Nat.le_trans hw.size (x2 b hb').1, (x2 b hb').2⟩, ⟨x3, (K2.out.stay hb).turns x5 HH.out.no, HH.out.up, fun h => HH.out.no ((x4 gp hgp).1 h)⟩, fun b hb' => x4 b (Nat.lt_of_lt_of_le hb' hw.size), (Turns.of_below hw).trans x5, x6⟩)
      clear b2 on2 k2 bw2 bb2 hkin hsin hkid hq LU PT
      go_cut [10, 11] from 37 to 62 (fun v c wx => ∃ own', c = .int .i64 q.1 ∧ Rd wx v (bs q.2.1) ∧ (∀ b, hold v b → w.heap.size ≤ b ∧ b < wx.heap.size ∧ ¬ own' b) ∧ PipeUp w0 wx own' gp gb p sec ideal q.2.2 ∧ (∀ b, b < w.heap.size → (own' b ↔ own b)) ∧ Turns own w wx ∧ IsB q.2.1)
      case first =>
        refine region_tree ⟨[0, 1, 3, 7, 0, 16, 48, 112, 0, 256, 0, 1024, 3072, 7168, 16368, 0, 32768, 0, 131072, 0, 950256, 2097151, 4194303, 8388607, 8388607, 16777215, 67108863], [14, 18, 20, 21]⟩
          (.node [0, 1, 2, 3, 4, 5, 6, 7, 8, 9, 10, 11, 12, 13, 15, 16, 17, 19] [1, 2, 3, 5, 6, 7, 8, 9, 11, 12, 13, 15, 16] (.cons 14 (.node [] [1, 2, 3, 15, 16] (.last 18 (.node [] [1, 2, 3, 15, 16] (.last 20 (.node [] [1, 2, 3, 15, 16] (.last 21 (.node [22, 23, 24, 25, 26] [23, 24] .done))))))) (.last 18 (.node [] [1, 2, 3, 5, 6, 7, 8, 9, 11, 12, 13, 15, 16] (.last 14 (.node [] [1, 2, 3, 15, 16] (.last 20 (.node [] [1, 2, 3, 15, 16] (.last 21 (.node [22, 23, 24, 25, 26] [23, 24] .done)))))))))) 74 (by kernel_rfl) (by kernel_rfl) (by kernel_rfl) (by kernel_rfl) rfl ?_
        simp only [TreeGo, KidsGo, opsAt_cons, opsAt_nil, List.getElem?_cons, Option.toList_some, List.singleton_append, ↓reduceIte, Nat.reduceEqDiff, Nat.reduceSub]
        go_wp2_with (refine wp_load_sub rfl 68 (.tmp 44) rfl rfl (ys := [.int .i64 p.k.life, .int .i64 p.k.conn, .int .i64 p.k.peer]) (K2.out.d1.part 1 (ys := [.int .i64 p.k.life, .int .i64 p.k.conn, .int .i64 p.k.peer]) rfl) Tryd.underlying68 rfl (n := 3) (by kernel_rfl) rfl ?_)
        refine ⟨by (simp only [Sames]; refine ⟨?_, ?_, ?_, ?_, ?_, ?_, ?_, ?_, ?_, ?_, ?_, ?_, ?_, trivial⟩ <;> first | exact same_load (by rfl) 68 (.tmp 44) rfl rfl (LK.out _ (bw_d1 hbl0)) rfl | (simp only [Same]; go_simp)), ?_⟩
        refine ⟨?_, ?_⟩
        · go_wp2_with (go_at_call 49; refine (FID.out _).mono ?_; rintro e w5 ⟨rfl, m5⟩; have hbl5 : Below w2.heap.size w2 w5 := bw_next (bw_d1 hbl0) m5; have hbl6 : Below w2.heap.size w2 (w5.alloc (.cells #[.int .u8 kind] 5)) := bw_al hbl5 hbl5.size _)
          first | refine And.intro (a := True) trivial ?_ | refine ⟨by (simp only [Sames, Same]; go_simp), ?_⟩
          go_wp2_with fail
          first | refine And.intro (a := True) trivial ?_ | refine ⟨by (simp only [Sames, Same]; go_simp), ?_⟩
          go_wp2_with (at_builtin; refine wp_app (.tmp 56) (.tmp 57) 24 rfl rfl 5 (.int .u8 0) 1 Tryd.underlying24 info5 rfl w2.heap.size rfl (World.ownsRow_lit w5 #[.int .u8 kind] 1 hbl5.size (by decide) rfl) rfl ((HRT.out.stay BB2.out (Nat.le_refl _)).stay hbl6 (Nat.le_refl _)) (bs_one _) (by decide) (by rw [bs_len, HLT.out ()]; omega) hbl6.size ?_; intro v7 w7 o7 _ m7; rw [bs_len, HLT.out ()] at o7; have hbl7 : Below w2.heap.size w2 w7 := hbl6.trans m7)
          first | refine And.intro (a := True) trivial ?_ | refine ⟨by (simp only [Sames, Same]; go_simp), ?_⟩
          go_wp2_with (go_at_call 18; refine (FIN.out v7 w7 hbl7 o7).mono ?_; rintro e w8 ⟨v8, rfl, r1, own8, r2⟩)
          try (first | refine And.intro (a := True) trivial ?_ | refine ⟨by (simp only [Sames, Same]; go_simp), ?_⟩)
          try go_wp2_with fail
          go_meet
          case rel => exact ⟨own8, rfl, r1, r2⟩
        · go_wp2_with fail
          have hbl3 : Below w2.heap.size w2 (w2.alloc (.cells #[.int .u8 kind] 5)) := bw_al hbl0 (Nat.le_refl _) _
          have hbl4 : Below w2.heap.size w2 (w2.alloc (.cells #[.int .u8 kind] 5)).drew := bw_d1 hbl3
          refine ⟨by (simp only [Sames]; refine ⟨?_, ?_, ?_, ?_, ?_, ?_, ?_, ?_, ?_, ?_, ?_, ?_, ?_, trivial⟩ <;> first | exact same_load (by rfl) 68 (.tmp 44) rfl rfl (LK.out _ hbl4) rfl | (simp only [Same]; go_simp)), ?_⟩
          go_wp2_with (go_at_call 49; refine (FID.out _).mono ?_; rintro e w5 ⟨rfl, m5⟩; have hbl5 : Below w2.heap.size w2 w5 := bw_next hbl4 m5)
          first | refine And.intro (a := True) trivial ?_ | refine ⟨by (simp only [Sames, Same]; go_simp), ?_⟩
          go_wp2_with (at_builtin; refine wp_app (.tmp 56) (.tmp 57) 24 rfl rfl 5 (.int .u8 0) 1 Tryd.underlying24 info5 rfl w2.heap.size rfl (ownsRow_keep (ownsRow_keep (World.ownsRow_lit w2 #[.int .u8 kind] 1 (Nat.le_refl _) (by decide) rfl) (bw_d1 (Below.refl _ _)) (Nat.le_refl _)) m5 (Nat.le_refl _)) rfl ((HRT.out.stay BB2.out (Nat.le_refl _)).stay hbl5 (Nat.le_refl _)) (bs_one _) (by decide) (by rw [bs_len, HLT.out ()]; omega) hbl5.size ?_; intro v7 w7 o7 _ m7; rw [bs_len, HLT.out ()] at o7; have hbl7 : Below w2.heap.size w2 w7 := hbl5.trans m7)
          first | refine And.intro (a := True) trivial ?_ | refine ⟨by (simp only [Sames, Same]; go_simp), ?_⟩
          go_wp2_with (go_at_call 18; refine (FIN.out v7 w7 hbl7 o7).mono ?_; rintro e w8 ⟨v8, rfl, r1, own8, r2⟩)
          try (first | refine And.intro (a := True) trivial ?_ | refine ⟨by (simp only [Sames, Same]; go_simp), ?_⟩)
          try go_wp2_with fail
          go_meet
          case rel => exact ⟨own8, rfl, r1, r2⟩
      case rest =>
        obtain ⟨own8, rfl, r1, r2, r3, r4, r5, r6⟩ := hcut
        have hcnt : p.cnt p.side = p.c1 := by rw [HSD.out ()]; rfl
        have hsi : ((p.side : Nat) : Int) = 1 := by rw [HSD.out ()]; rfl
        have hrr : r = if q.1 ≠ 0 then (q.1, [], q.2.2, p) else (0, 4 :: q.2.1, q.2.2, p.step p.side) := by
          rw [← HR.out ()]
          unfold psealF
          rw [if_neg (by rw [NC.out]; simp), if_neg (by rw [HLT.out ()]; exact hl1), if_neg (by rw [HSP.out ()]; simp), hcnt, hsi, HEP.out (), HSQ.out (), HKID.out (), HQ.out ()]
        have HRR := Lib.hid (fun _ : Unit => hrr)
        have LQ := Lib.hid (show q.2.1.length ≤ 100000 by rw [← HQ.out ()]; exact sealX_len HK.out _ _ _ _ _ _)
        have R1 := Lib.hid r1; have R2 := Lib.hid r2; have R3 := Lib.hid r3; have R4 := Lib.hid r4; have R5 := Lib.hid r5; have R6 := Lib.hid r6
        have hS0 : 0 < p.S := by
          have := HSP.out ()
          unfold PipeS.spent at this
          simp at this
          omega
        have ST := Lib.hid (step_any wc gp gb p 1 (by decide) hS0 HI.out.c1 R3.out.blk)
        have c4 : wc.cell? ⟨gp, 4, none⟩ = some (nI p.side) := R3.out.blk.at_ 4 rfl
        rw [HSD.out ()] at c4
        unfold nI at c4
        obtain ⟨qc, hqc⟩ : ∃ c, q.1 = c := ⟨_, rfl⟩
        rw [hqc]
        have HQC := Lib.hid (fun _ : Unit => hqc)
        clear r1 r2 r3 r4 r5 r6 hcnt hsi hrr hS0 hqc KA KB E0 E1 k0 k4 e0 e1
        by_cases hq0 : qc = 0
        · subst hq0
          go_upto_region 13 with (go_at_call 99; refine ST.out.mono ?_; rintro e w9 ⟨rfl, s1, s2⟩)
          have hgw : gp < w.heap.size := HH.out.blk.lt
          have rv9 := R1.out.moves s2 (fun b hb h => by have := (R2.out b hb).1; omega)
          have up9 : PipeUp w0 w9 own8 gp gb (p.step p.side) sec ideal q.2.2 := ⟨R3.out.box.turns s2 (fun b hb h => R3.out.no (h ▸ hb)) (fun b h => by rw [h]; exact R3.out.up), by rw [HSD.out ()]; exact s1, R3.out.up, R3.out.no⟩
          have t9 : Turns (fun k => own k ∨ k = gp) w w9 := (R5.out.mono fun k h => .inl h).trans (s2.mono fun k h => .inr h)
          have RV := Lib.hid rv9; have UP := Lib.hid up9; have T9 := Lib.hid t9; have SZ := Lib.hid s2.size
          clear s1 s2 rv9 up9 t9 c4
          go_wp2_with (at_builtin; refine wp_app (.tmp 71) (.tmp 72) 24 rfl rfl 5 (.int .u8 0) 1 Tryd.underlying24 info5 rfl w9.heap.size rfl (World.ownsRow_lit w9 #[.int .u8 4] 1 (Nat.le_refl _) (by decide) rfl) rfl (RV.out.stay (bw_al (Below.refl _ _) (Nat.le_refl _) _) (Nat.le_refl _)) (bs_one _) (by decide) (by rw [bs_len]; have := LQ.out; omega) (by simp) ?_; intro v10 w10 o10 _ m10)
          all_goals (try go_ret2)
          rw [← HR0.out (), HRR.out (), if_neg (by rw [HQC.out ()]; simp)]
          have b10 : Below w9.heap.size w9 w10 := (bw_al (Below.refl _ _) (Nat.le_refl _) _).trans m10
          refine ⟨v10, own8, rfl, ?_, fun b hb => ⟨?_, (row_new o10 hb).2, fun ho => ?_⟩, UP.out.stay b10, R4.out, T9.out.trans (Turns.of_below b10), isB_cons (by decide) R6.out⟩
          · have := Rd.of_own o10
            simpa [bs] using this
          · have h1 := (row_new o10 hb).1; have h2 := SZ.out; have h3 := R5.out.size; omega
          · have h1 := (row_new o10 hb).1; have h2 := UP.out.box.box.dom b ho; omega
        · go_wp2_with fail
          all_goals (try go_ret2)
          rw [← HR0.out (), HRR.out (), if_pos (by rw [HQC.out ()]; exact hq0)]
          exact ⟨.slice none 0 0, own8, by rw [HQC.out ()]; rfl, Rd.nil _, fun b hb => absurd hb (by simp [hold]), R3.out, R4.out, R5.out.mono fun k h => .inl h, fun z hz => absurd hz (by simp)⟩
end Go.Proofs.YtdgpchacfdlleaaDoor
end

section
/-
  pipe: what a frame has.
-/
namespace Go.Proofs.YtdgpchacfdlleaaDoor
open Go.RowKit

/-- What taking a frame comes to. -/
def TakeRes (w0 w : World) (own : Nat → Prop) (gp gb : Nat) (sec : List Int) (ideal : Bool) (st : BoxI) (code : Int) (out : List Int) (p' : PipeS) (e : Ending) (w' : World) : Prop :=
  ∃ v, e = .returned (.tuple #[v, .int .i64 code]) ∧ Rd w' v (bs out) ∧ (∀ b, hold v b → w.heap.size ≤ b ∧ b < w'.heap.size) ∧ PipeUp w0 w' own gp gb p' sec ideal st ∧ Turns (fun k => k = gp) w w'
theorem TakeRes.early {w0 w w' : World} {own : Nat → Prop} {gp gb : Nat} {p : PipeS} {sec : List Int} {ideal : Bool} {st : BoxI} (h : PipeUp w0 w own gp gb p sec ideal st) (k : Below w.heap.size w w') (code : Int) :
    TakeRes w0 w own gp gb sec ideal st code [] p (.returned (.tuple #[.slice none 0 0, .int .i64 code])) w' :=
  ⟨_, rfl, Rd.nil _, fun b hb => absurd hb (by simp [hold]), h.stay k, Turns.of_below k⟩

/-- What comes of what was opened. -/
def takeR (p : PipeS) (s : Nat) (q : Int × List Int) : Int × List Int × PipeS :=
  if q.1 ≠ 0 ∨ q.2 = [] ∨ 60001 < q.2.length then (6, [], p) else
  if q.2.headD 0 = 1 then (0, q.2.tail, p.step s) else if q.2.headD 0 = 2 ∧ q.2.length = 1 then (14, [], p.step s) else (6, [], p.step s)
theorem takeR_bad (p : PipeS) (s : Nat) (c : Int) (t : List Int) (h : c ≠ 0 ∨ t = [] ∨ 60001 < t.length) : takeR p s (c, t) = (6, [], p) := if_pos h
theorem takeR_ok (p : PipeS) (s : Nat) (y : Int) (ys : List Int) (h : ys.length ≤ 60000) : takeR p s (0, y :: ys) = if y = 1 then (0, ys, p.step s) else if y = 2 ∧ ys.length = 0 then (14, [], p.step s) else (6, [], p.step s) := by
  unfold takeR
  rw [if_neg (by simp; omega)]
  simp

set_option maxRecDepth 100000 in
set_option maxHeartbeats 2000000 in
theorem ptake_any (R : RealF) {w0 w : World} {own : Nat → Prop} {gp gb : Nat} {p : PipeS} {sec : List Int} {ideal : Bool} {st : BoxI} (hK : Kind R ideal) (h : PipeUp w0 w own gp gb p sec ideal st) (hi : p.In)
    (vf : Value) (frame : List Int) (hrf : Rd w vf (bs frame)) (hF : IsB frame) :
    Calls Tryd.prog 71 #[.pointer (some ⟨gp, 0, none⟩), vf] w
      (TakeRes w0 w own gp gb sec ideal st (ptakeF R sec ideal st p frame).1 (ptakeF R sec ideal st p frame).2.1 (ptakeF R sec ideal st p frame).2.2) := by
  obtain ⟨Z, hZ⟩ : ∃ Z, w.heap.size = Z := ⟨_, rfl⟩
  obtain ⟨r, hr⟩ : ∃ r, ptakeF R sec ideal st p frame = r := ⟨_, rfl⟩
  rw [hr]
  have EARLY := Lib.hid (fun (code : Int) (w' : World) (k : Below Z w w') (e : r = (code, [], p)) => show TakeRes w0 w own gp gb sec ideal st r.1 r.2.1 r.2.2 (.returned (.tuple #[.slice none 0 0, .int .i64 code])) w' by rw [e]; exact TakeRes.early h (by rw [hZ]; exact k) code)
  obtain ⟨R0, hR0⟩ : ∃ R0 : Ending → World → Prop, TakeRes w0 w own gp gb sec ideal st r.1 r.2.1 r.2.2 = R0 := ⟨_, rfl⟩
  rw [hR0] at EARLY ⊢
  have HR0 := Lib.hid (fun _ : Unit => hR0)
  have HR := Lib.hid (fun _ : Unit => hr)
  have y2 : w.cell? ⟨gp, 2 + 2, none⟩ = some (nI p.side) := h.blk.at_ 4 rfl
  obtain ⟨side, hsd⟩ : ∃ s, p.side = s := ⟨_, rfl⟩
  have hs2 : side < 2 := by rw [← hsd]; exact hi.side
  have SP := Lib.hid (spent_any w gp gb p (1 - side) (by omega) h.blk)
  have HK := Lib.hid hK; have HH := Lib.hid h; have HI := Lib.hid hi; have HF := Lib.hid hF
  obtain ⟨sp, hsp⟩ : ∃ s, p.spent (1 - side) = s := ⟨_, rfl⟩
  rw [hsp] at SP
  rw [hsd] at y2
  have HSP := Lib.hid (fun _ : Unit => hsp); have HSD := Lib.hid (fun _ : Unit => hsd)
  unfold nI at y2
  clear hK h hi hF hsp hsd hr hR0
  rcases (show side = 0 ∨ side = 1 by omega) with rfl | rfl
  · go_enter Tryd.func71, Tryd.ntmps71
    cases sp with
    | true =>
      go_wp2_with (go_at_call 98; refine SP.out.mono ?_; rintro e w1 ⟨rfl, hb1⟩)
      all_goals (try go_ret2)
      refine EARLY.out _ _ (by rw [← hZ]; exact hb1) ?_
      rw [← HR.out ()]; unfold ptakeF; rw [if_pos (by rw [HSD.out ()]; exact HSP.out ())]
    | false =>
    have NSP := Lib.hid (show ¬ p.spent (1 - p.side) = true by rw [HSD.out (), HSP.out ()]; simp)
    cases frame with
    | nil =>
      obtain ⟨A, ct, rfl, _⟩ := id hrf
      simp only [bs, List.map_nil, List.length_nil]
      clear hrf
      go_wp2_with (go_at_call 98; refine SP.out.mono ?_; rintro e w1 ⟨rfl, hb1⟩)
      all_goals (try go_ret2)
      refine EARLY.out _ _ (by rw [← hZ]; exact hb1) ?_
      rw [← HR.out ()]; unfold ptakeF; rw [if_neg NSP.out, if_pos (by simp)]
    | cons x rest =>
    obtain ⟨A, ct, rfl, hct, hct2, hn0, hcell⟩ := id hrf
    obtain ⟨bf, off, rfl, hcl⟩ := hcell.resolve_left (by simp [bs])
    have x0 := hcl 0 (by simp [bs])
    have hlf : (bs (x :: rest)).length = rest.length + 1 := by rw [bs_len]; rfl
    obtain ⟨v1, v2, _, q2, _, _, _, g2⟩ := cut_facts hrf 1 (by simp)
    obtain ⟨A2, c2, rfl, hc2, _⟩ := id q2
    rw [show (bs ((x :: rest).drop 1)).length = rest.length by rw [bs_len]; rfl] at q2 g2 hc2
    rw [hlf] at hrf g2 hct ⊢
    obtain ⟨lf, hlf2⟩ : ∃ l, rest.length = l := ⟨_, rfl⟩
    rw [hlf2] at hrf q2 g2 hct hc2 ⊢
    rw [show ((1 : Nat) : Int) = 1 from rfl] at g2
    have x1 : w.cell? ⟨bf, off, none⟩ = some (.int .u8 x) := x0
    have hbf : bf < w.heap.size := by
      simp only [World.cell?] at x1
      exact Classical.byContradiction fun hn => by rw [Array.getElem?_eq_none (by omega)] at x1; simp at x1
    have Q2 := Lib.hid q2
    clear hrf q2 hcell hcl x0 hn0 hlf hct2
    have hb0 : (((lf : Nat) : Int) + 1 == 0) = false := by simp; omega
    by_cases hx4 : x ≠ 4
    · have hxb : (x != 4) = true := by simpa using hx4
      go_wp2_with (go_at_call 98; refine SP.out.mono ?_; rintro e w1 ⟨rfl, hb1⟩; have z1 : w1.cell? ⟨bf, off, none⟩ = some (.int .u8 x) := cell_stay hb1 x1)
      all_goals (try go_ret2)
      refine EARLY.out _ _ (by rw [← hZ]; exact hb1) ?_
      rw [← HR.out ()]; unfold ptakeF; rw [if_neg NSP.out, if_pos (by simpa using hx4)]
    obtain rfl : x = 4 := by omega
    have NH := Lib.hid (show ¬ (4 :: rest : List Int).headD 0 ≠ 4 by simp)
    go_upto_region 6 with (go_at_call 98; refine SP.out.mono ?_; rintro e w1 ⟨rfl, hb1⟩; have z1 : w1.cell? ⟨bf, off, none⟩ = some (.int .u8 4) := cell_stay hb1 x1)
    clear hx4 x1 z1 y2
    have hz1 := hb1.size
    have b1 := HH.out.blk.stay hb1
    obtain ⟨ep, hep⟩ : ∃ e, p.c1 / p.S = e := ⟨_, rfl⟩
    obtain ⟨sq, hsq⟩ : ∃ e, p.c1 % p.S = e := ⟨_, rfl⟩
    obtain ⟨cn, hcn⟩ : ∃ e, p.c1 = e := ⟨_, rfl⟩
    have eL : (List.drop 15 (pipeC gb p)).take 3 = [nI ep, nI sq, nI cn] := by rw [← hep, ← hsq, ← hcn]; rfl
    have HEP := Lib.hid (fun _ : Unit => hep); have HSQ := Lib.hid (fun _ : Unit => hsq); have HCN := Lib.hid (fun _ : Unit => hcn)
    have PT := Lib.hid (b1.part 15 (ys := [nI ep, nI sq, nI cn]) eL)
    have B1 := Lib.hid b1; have HB1 := Lib.hid hb1
    unfold nI at PT
    clear b1 hep hsq hcn eL SP hb1
    go_upto_region 7 with (first
      | (refine wp_load_sub rfl 116 (.tmp 33) rfl rfl (ys := [.int .i64 ep, .int .i64 sq, .int .i64 cn]) PT.out Tryd.underlying116 rfl (n := 3) (by kernel_rfl) rfl ?_)
      | (refine wp_store_blk rfl 116 (.tmp 7) (.tmp 34) rfl rfl rfl (cs' := [.int .i64 ep, .int .i64 sq, .int .i64 cn]) (Blk.mk_ (cs := [.int .i64 0, .int .i64 0, .int .i64 0]) _ rfl rfl) (by intro y hy; simp at hy; rcases hy with rfl | rfl | rfl <;> rfl) rfl (n := 3) (by kernel_rfl) rfl ?_; intro w2 b2 on2))
    have bw2 : Below w1.heap.size w1 w2 := on2.below (bw_al (Below.refl _ _) (Nat.le_refl _) _) (Nat.le_refl _)
    have bb2 : Below w.heap.size w w2 := bw_then HB1.out bw2 hz1
    have k2 := B1.out.stay bw2
    have K2 := Lib.hid k2; have L2 := Lib.hid b2; have BB2 := Lib.hid bb2
    have fid0 := fun w' => fid_any w' p.k (ep : Int) (1 : Int)
    obtain ⟨kid, hkid⟩ : ∃ k, fid p.k (ep : Int) (1 : Int) = k := ⟨_, rfl⟩
    simp only [hkid] at fid0
    have FID := Lib.hid fid0
    clear fid0
    have HKID := Lib.hid (fun _ : Unit => hkid)
    obtain ⟨q, hq⟩ : ∃ q, openX R sec ideal st kid (sq : Int) [] rest = q := ⟨_, rfl⟩
    have HQ := Lib.hid (fun _ : Unit => hq)
    have FIN := Lib.hid (fun (w7 : World) (hb : Below w2.heap.size w2 w7) =>
      show Calls Tryd.prog 19 #[.pointer (some ⟨gb, 0, none⟩), .agg kid.cells.toArray, .int .i64 (sq : Int), .slice none 0 0, .slice A2 lf c2] w7 (fun e w' => ∃ A c, e = .returned (.tuple #[.slice A q.2.length c, .int .i64 q.1]) ∧ Rd w' (.slice A q.2.length c) (bs q.2) ∧ (∀ b, hold (.slice A q.2.length c) b → w7.heap.size ≤ b ∧ b < w'.heap.size) ∧ Below w7.heap.size w7 w') by
        have hw := bw_then BB2.out hb BB2.out.size
        have SX := openU R HK.out (HH.out.box.stay hw) kid (sq : Int) (.slice none 0 0) (.slice A2 lf c2) [] rest (Rd.nil _) (fun z hz => absurd hz (by simp)) (Q2.out.stay hw (Nat.le_refl _)) (fun z hz => HF.out z (List.mem_cons_of_mem _ hz))
        rw [HQ.out ()] at SX
        refine SX.mono ?_
        rintro e w' ⟨v, rfl, x1, x2, x3⟩
        obtain ⟨A, c, rfl, _⟩ := id x1
        rw [bs_len] at x1 x2 ⊢
        exact ⟨A, c, rfl, x1, x2, x3⟩)
    have k0 : w2.cell? ⟨gp, 0, none⟩ = some (.pointer (some ⟨gb, 0, none⟩)) := k2.at_ 0 rfl
    have e0 := b2.at_ 0 (v := .int .i64 ep) rfl
    have e1 := b2.at_ 1 (v := .int .i64 sq) rfl
    have LK := Lib.hid (load_fact (P := Tryd.prog) K2.out 68 1 (ys := [.int .i64 p.k.life, .int .i64 p.k.conn, .int .i64 p.k.peer]) rfl Tryd.underlying68 rfl (n := 3) (by kernel_rfl) rfl)
    have hbl0 : Below w2.heap.size w2 w2 := Below.refl _ _
    clear b2 on2 k2 bw2 bb2 hkid hq PT
    refine region_plan ⟨[0, 1, 3, 7, 0, 16, 48, 112, 0, 256, 0, 2032, 0, 4096, 0, 16384, 65535, 131071, 262143, 262143, 524287, 2097151], [11, 16], [0, 0, 0, 0, 0, 0, 0, 0, 0, 0, 0, 0, 0, 0, 0, 0, 1, 2, 2, 2, 2, 2]⟩
      [⟨[0, 1, 2, 3, 4, 5, 6, 7, 8, 9, 10, 12, 13, 14, 15], [1, 2, 3, 5, 6, 7, 8, 9, 12, 13, 15], some 11⟩, ⟨[], [1, 2, 3, 12, 13, 15], some 16⟩, ⟨[17, 18, 19, 20, 21], [18, 19], none⟩] 88 (by kernel_rfl) (by kernel_rfl) (by kernel_rfl) (by kernel_rfl) rfl ?_
    simp only [SeqGo, opsAt_cons, opsAt_nil, List.getElem?_cons, Option.toList_some, List.singleton_append, ↓reduceIte, Nat.reduceEqDiff, Nat.reduceSub]
    go_wp2_with (refine wp_load_sub rfl 68 (.tmp 42) rfl rfl (ys := [.int .i64 p.k.life, .int .i64 p.k.conn, .int .i64 p.k.peer]) (K2.out.d1.part 1 (ys := [.int .i64 p.k.life, .int .i64 p.k.conn, .int .i64 p.k.peer]) rfl) Tryd.underlying68 rfl (n := 3) (by kernel_rfl) rfl ?_)
    refine ⟨by (simp only [Sames]; refine ⟨?_, ?_, ?_, ?_, ?_, ?_, ?_, ?_, ?_, ?_, ?_, trivial⟩ <;> first | exact same_load (by rfl) 68 (.tmp 42) rfl rfl (LK.out _ (bw_d1 hbl0)) rfl | (simp only [Same]; go_simp)), ?_⟩
    go_wp2_with (go_at_call 49; refine (FID.out _).mono ?_; rintro e w5 ⟨rfl, m5⟩; have hbl5 : Below w2.heap.size w2 w5 := bw_next (bw_d1 hbl0) m5; have k05 := cell_stay hbl5 k0; have e15 := cell_stay hbl5 e1)
    refine ⟨by (simp only [Sames, Same]; go_simp), ?_⟩
    go_wp2_with (go_at_call 19; refine (FIN.out _ hbl5).mono ?_; rintro e w8 ⟨A8, c8, rfl, r1, r2, r3⟩)
    try (first | refine And.intro (a := True) trivial ?_ | refine ⟨by (simp only [Sames, Same]; go_simp), ?_⟩)
    have bw8 : Below w.heap.size w w8 := bw_then (bw_then BB2.out hbl5 BB2.out.size) r3 (bw_then BB2.out hbl5 BB2.out.size).size
    have hrr : r = takeR p 1 q := by
      have e1 : p.cnt (1 - p.side) = p.c1 := by rw [HSD.out ()]; rfl
      have e2 : ((1 - p.side : Nat) : Int) = 1 := by rw [HSD.out ()]; rfl
      have e3 : 1 - p.side = 1 := by rw [HSD.out ()]
      rw [← HR.out ()]
      unfold ptakeF
      rw [if_neg NSP.out, if_neg NH.out, e1, e2, e3, HEP.out (), HSQ.out (), HKID.out (), List.tail_cons, HQ.out ()]
      rfl
    have HRR := Lib.hid (fun _ : Unit => hrr)
    have R1 := Lib.hid r1; have R2 := Lib.hid (fun b hb => show w.heap.size ≤ b ∧ b < w8.heap.size from ⟨Nat.le_trans (bw_then BB2.out hbl5 BB2.out.size).size (r2 b hb).1, (r2 b hb).2⟩); have BW8 := Lib.hid bw8
    have R3 := Lib.hid (HH.out.stay bw8)
    have c4 : w8.cell? ⟨gp, 4, none⟩ = some (nI p.side) := R3.out.blk.at_ 4 rfl
    rw [HSD.out ()] at c4
    unfold nI at c4
    have hS0 : 0 < p.S := by
      have := HSP.out ()
      unfold PipeS.spent at this
      simp at this
      omega
    have ST := Lib.hid (step_any w8 gp gb p 1 (by decide) hS0 HI.out.c1 R3.out.blk)
    obtain ⟨qc, qt⟩ := q
    simp only at R1 R2 ⊢
    clear r1 r2 r3 bw8 hrr hS0 k0 e0 e1 k05 e15 hbl0 hbl5 m5 LK FIN FID hz1
    by_cases hq0 : qc ≠ 0
    · go_wp2_with fail
      all_goals (try go_ret2)
      refine EARLY.out _ _ (by rw [← hZ]; exact BW8.out) ?_
      rw [HRR.out (), takeR_bad _ _ _ _ (.inl hq0)]
    obtain rfl : qc = 0 := by omega
    clear hq0
    cases qt with
    | nil =>
      simp only [List.length_nil] at R1 R2 ⊢
      go_wp2_with fail
      all_goals (try go_ret2)
      refine EARLY.out _ _ (by rw [← hZ]; exact BW8.out) ?_
      rw [HRR.out (), takeR_bad _ _ _ _ (.inr (.inl rfl))]
    | cons y ys =>
    simp only [List.length_cons] at R1 R2 ⊢
    obtain ⟨ly, hly⟩ : ∃ l, ys.length = l := ⟨_, rfl⟩
    rw [hly] at R1 R2 ⊢
    by_cases hl6 : 60001 < ly + 1
    · have HLE := Lib.hid (show 60001 < (y :: ys).length by rw [List.length_cons, hly]; exact hl6)
      have hl6i : (60001 : Int) < ((ly + 1 : Nat) : Int) := by omega
      have hl0 : ¬ ((ly + 1 : Nat) : Int) = 0 := by omega
      obtain ⟨L, hL⟩ : ∃ L, ly + 1 = L := ⟨_, rfl⟩
      rw [hL] at R1 R2 hl6i hl0 hl6 ⊢
      clear hL
      go_wp2_with fail
      all_goals (try go_ret2)
      refine EARLY.out _ _ (by rw [← hZ]; exact BW8.out) ?_
      rw [HRR.out (), takeR_bad _ _ _ _ (.inr (.inr HLE.out))]
    have HL6 := Lib.hid hl6
    have hl6i : ¬ (60001 : Int) < ((ly + 1 : Nat) : Int) := by omega
    have hl0 : ¬ ((ly + 1 : Nat) : Int) = 0 := by omega
    have HLY := Lib.hid (fun _ : Unit => hly)
    obtain ⟨A9, c9, hv8, hc8, hc82, -, hcell8⟩ := id R1.out
    injection hv8 with ha8 hnn8 hb8
    clear hnn8
    subst ha8 hb8
    obtain ⟨b8, o8, rfl, hcl8⟩ := hcell8.resolve_left (by simp [bs])
    have y8 : w8.cell? ⟨b8, o8, none⟩ = some (.int .u8 y) := hcl8 0 (by simp [bs])
    have hn8 : b8 ≠ gp := fun h => by have h1 := (R2.out b8 ⟨_, _, _, rfl⟩).1; have h2 := HH.out.blk.lt; omega
    clear hcell8 hcl8 hl6 hly
    obtain ⟨L, hL⟩ : ∃ L, ly + 1 = L := ⟨_, rfl⟩
    rw [hL] at R1 R2 hl6i hl0 ⊢
    have HLL := Lib.hid (fun _ : Unit => hL)
    have hL0 : 0 < L := by omega
    clear hL
    rw [show (bs (y :: ys)).length = L by rw [bs_len, List.length_cons, HLY.out (), HLL.out ()]] at hc8
    obtain ⟨v1, v3, _, p3, _, ph3, _, g3⟩ := cut_facts R1.out 1 (by simp)
    obtain ⟨A3, c3, rfl, hc3, _⟩ := id p3
    rw [show (bs ((y :: ys).drop 1)).length = ly by rw [bs_len]; exact HLY.out ()] at p3 ph3 g3
    rw [show ((1 : Nat) : Int) = 1 from rfl] at g3
    have P3 := Lib.hid p3; have PH3 := Lib.hid ph3
    clear p3 ph3 hc3
    have TL := Lib.hid (fun (w9 : World) (s1 : Blk w9 gp (pipeC gb (p.step 1)) 119) (s2 : Turns (fun k => k = gp) w8 w9) => show PipeUp w0 w9 own gp gb (p.step 1) sec ideal st ∧ Turns (fun k => k = gp) w w9 from
      ⟨⟨R3.out.box.turns s2 (fun b hb h => R3.out.no (h ▸ hb)) (fun b h => by rw [h]; exact R3.out.up), s1, R3.out.up, R3.out.no⟩, (Turns.of_below BW8.out).trans s2⟩)
    have TK := Lib.hid (show r = if y = 1 then (0, ys, p.step 1) else if y = 2 ∧ ys.length = 0 then (14, [], p.step 1) else (6, [], p.step 1) by rw [HRR.out ()]; exact takeR_ok _ _ _ _ (by have := HL6.out; have := HLL.out (); have := HLY.out (); omega))
    by_cases hy1 : y = 1
    · subst hy1
      go_upto_region 12 with (go_at_call 99; refine ST.out.mono ?_; rintro e w9 ⟨rfl, s1, s2⟩; have y9 : w9.cell? ⟨b8, o8, none⟩ = some (.int .u8 1) := s2.cell hn8 y8)
      have p9 : Rd w9 (.slice A3 ly c3) (bs ((1 :: ys).drop 1)) := P3.out.moves s2 (fun b hb h => hn8 (by
        have hh := PH3.out b hb
        obtain ⟨_, _, _, he⟩ := hh
        injection he with he
        injection he with he
        injection he with he
        rw [he, h]))
      have CL := Lib.hid (clone_any _ _ w9 p9 (by have := HL6.out; have := HLY.out (); simp only [List.drop_succ_cons, List.drop_zero]; omega))
      have S1 := Lib.hid s1; have S2 := Lib.hid s2
      clear s1 s2 p9
      go_wp2_with (go_at_call 52; refine CL.out.mono ?_; rintro e w5 ⟨v, rfl, hb5, ho5⟩)
      all_goals (try go_ret2)
      rw [← HR0.out (), TK.out, if_pos (by trivial)]
      obtain ⟨t1, t2⟩ := TL.out w9 S1.out S2.out
      exact ⟨v, rfl, Rd.of_own ho5, fun b hb => ⟨Nat.le_trans t2.size (row_new ho5 hb).1, (row_new ho5 hb).2⟩, t1.stay hb5, t2.trans (Turns.of_below hb5)⟩
    by_cases hy2 : y = 2
    · subst hy2
      by_cases hL1 : L = 1
      · have hL1i : (L : Int) = 1 := by omega
        go_wp2_with (go_at_call 99; refine ST.out.mono ?_; rintro e w9 ⟨rfl, s1, s2⟩; have y9 : w9.cell? ⟨b8, o8, none⟩ = some (.int .u8 2) := s2.cell hn8 y8)
        all_goals (try go_ret2)
        rw [← HR0.out (), TK.out, if_neg (by simp), if_pos ⟨by trivial, by have := HLY.out (); have := HLL.out (); omega⟩]
        obtain ⟨t1, t2⟩ := TL.out w9 s1 s2
        exact ⟨_, rfl, Rd.nil _, fun b hb => absurd hb (by simp [hold]), t1, t2⟩
      · have hL1i : ¬ (L : Int) = 1 := by omega
        go_wp2_with (go_at_call 99; refine ST.out.mono ?_; rintro e w9 ⟨rfl, s1, s2⟩; have y9 : w9.cell? ⟨b8, o8, none⟩ = some (.int .u8 2) := s2.cell hn8 y8)
        all_goals (try go_ret2)
        rw [← HR0.out (), TK.out, if_neg (by simp), if_neg (fun hh => hL1 (by have := HLY.out (); have := HLL.out (); omega))]
        obtain ⟨t1, t2⟩ := TL.out w9 s1 s2
        exact ⟨_, rfl, Rd.nil _, fun b hb => absurd hb (by simp [hold]), t1, t2⟩
    go_wp2_with (go_at_call 99; refine ST.out.mono ?_; rintro e w9 ⟨rfl, s1, s2⟩; have y9 : w9.cell? ⟨b8, o8, none⟩ = some (.int .u8 y) := s2.cell hn8 y8)
    all_goals (try go_ret2)
    rw [← HR0.out (), TK.out, if_neg hy1, if_neg (fun hh => hy2 hh.1)]
    obtain ⟨t1, t2⟩ := TL.out w9 s1 s2
    exact ⟨_, rfl, Rd.nil _, fun b hb => absurd hb (by simp [hold]), t1, t2⟩
  · go_enter Tryd.func71, Tryd.ntmps71
    cases sp with
    | true =>
      go_wp2_with (go_at_call 98; refine SP.out.mono ?_; rintro e w1 ⟨rfl, hb1⟩)
      all_goals (try go_ret2)
      refine EARLY.out _ _ (by rw [← hZ]; exact hb1) ?_
      rw [← HR.out ()]; unfold ptakeF; rw [if_pos (by rw [HSD.out ()]; exact HSP.out ())]
    | false =>
    have NSP := Lib.hid (show ¬ p.spent (1 - p.side) = true by rw [HSD.out (), HSP.out ()]; simp)
    cases frame with
    | nil =>
      obtain ⟨A, ct, rfl, _⟩ := id hrf
      simp only [bs, List.map_nil, List.length_nil]
      clear hrf
      go_wp2_with (go_at_call 98; refine SP.out.mono ?_; rintro e w1 ⟨rfl, hb1⟩)
      all_goals (try go_ret2)
      refine EARLY.out _ _ (by rw [← hZ]; exact hb1) ?_
      rw [← HR.out ()]; unfold ptakeF; rw [if_neg NSP.out, if_pos (by simp)]
    | cons x rest =>
    obtain ⟨A, ct, rfl, hct, hct2, hn0, hcell⟩ := id hrf
    obtain ⟨bf, off, rfl, hcl⟩ := hcell.resolve_left (by simp [bs])
    have x0 := hcl 0 (by simp [bs])
    have hlf : (bs (x :: rest)).length = rest.length + 1 := by rw [bs_len]; rfl
    obtain ⟨v1, v2, _, q2, _, _, _, g2⟩ := cut_facts hrf 1 (by simp)
    obtain ⟨A2, c2, rfl, hc2, _⟩ := id q2
    rw [show (bs ((x :: rest).drop 1)).length = rest.length by rw [bs_len]; rfl] at q2 g2 hc2
    rw [hlf] at hrf g2 hct ⊢
    obtain ⟨lf, hlf2⟩ : ∃ l, rest.length = l := ⟨_, rfl⟩
    rw [hlf2] at hrf q2 g2 hct hc2 ⊢
    rw [show ((1 : Nat) : Int) = 1 from rfl] at g2
    have x1 : w.cell? ⟨bf, off, none⟩ = some (.int .u8 x) := x0
    have hbf : bf < w.heap.size := by
      simp only [World.cell?] at x1
      exact Classical.byContradiction fun hn => by rw [Array.getElem?_eq_none (by omega)] at x1; simp at x1
    have Q2 := Lib.hid q2
    clear hrf q2 hcell hcl x0 hn0 hlf hct2
    have hb0 : (((lf : Nat) : Int) + 1 == 0) = false := by simp; omega
    by_cases hx4 : x ≠ 4
    · have hxb : (x != 4) = true := by simpa using hx4
      go_wp2_with (go_at_call 98; refine SP.out.mono ?_; rintro e w1 ⟨rfl, hb1⟩; have z1 : w1.cell? ⟨bf, off, none⟩ = some (.int .u8 x) := cell_stay hb1 x1)
      all_goals (try go_ret2)
      refine EARLY.out _ _ (by rw [← hZ]; exact hb1) ?_
      rw [← HR.out ()]; unfold ptakeF; rw [if_neg NSP.out, if_pos (by simpa using hx4)]
    obtain rfl : x = 4 := by omega
    have NH := Lib.hid (show ¬ (4 :: rest : List Int).headD 0 ≠ 4 by simp)
    go_upto_region 6 with (go_at_call 98; refine SP.out.mono ?_; rintro e w1 ⟨rfl, hb1⟩; have z1 : w1.cell? ⟨bf, off, none⟩ = some (.int .u8 4) := cell_stay hb1 x1)
    clear hx4 x1 z1 y2
    have hz1 := hb1.size
    have b1 := HH.out.blk.stay hb1
    obtain ⟨ep, hep⟩ : ∃ e, p.c0 / p.S = e := ⟨_, rfl⟩
    obtain ⟨sq, hsq⟩ : ∃ e, p.c0 % p.S = e := ⟨_, rfl⟩
    obtain ⟨cn, hcn⟩ : ∃ e, p.c0 = e := ⟨_, rfl⟩
    have eL : (List.drop 12 (pipeC gb p)).take 3 = [nI ep, nI sq, nI cn] := by rw [← hep, ← hsq, ← hcn]; rfl
    have HEP := Lib.hid (fun _ : Unit => hep); have HSQ := Lib.hid (fun _ : Unit => hsq); have HCN := Lib.hid (fun _ : Unit => hcn)
    have PT := Lib.hid (b1.part 12 (ys := [nI ep, nI sq, nI cn]) eL)
    have B1 := Lib.hid b1; have HB1 := Lib.hid hb1
    unfold nI at PT
    clear b1 hep hsq hcn eL SP hb1
    go_upto_region 7 with (first
      | (refine wp_load_sub rfl 116 (.tmp 33) rfl rfl (ys := [.int .i64 ep, .int .i64 sq, .int .i64 cn]) PT.out Tryd.underlying116 rfl (n := 3) (by kernel_rfl) rfl ?_)
      | (refine wp_store_blk rfl 116 (.tmp 7) (.tmp 34) rfl rfl rfl (cs' := [.int .i64 ep, .int .i64 sq, .int .i64 cn]) (Blk.mk_ (cs := [.int .i64 0, .int .i64 0, .int .i64 0]) _ rfl rfl) (by intro y hy; simp at hy; rcases hy with rfl | rfl | rfl <;> rfl) rfl (n := 3) (by kernel_rfl) rfl ?_; intro w2 b2 on2))
    have bw2 : Below w1.heap.size w1 w2 := on2.below (bw_al (Below.refl _ _) (Nat.le_refl _) _) (Nat.le_refl _)
    have bb2 : Below w.heap.size w w2 := bw_then HB1.out bw2 hz1
    have k2 := B1.out.stay bw2
    have K2 := Lib.hid k2; have L2 := Lib.hid b2; have BB2 := Lib.hid bb2
    have fid0 := fun w' => fid_any w' p.k (ep : Int) (0 : Int)
    obtain ⟨kid, hkid⟩ : ∃ k, fid p.k (ep : Int) (0 : Int) = k := ⟨_, rfl⟩
    simp only [hkid] at fid0
    have FID := Lib.hid fid0
    clear fid0
    have HKID := Lib.hid (fun _ : Unit => hkid)
    obtain ⟨q, hq⟩ : ∃ q, openX R sec ideal st kid (sq : Int) [] rest = q := ⟨_, rfl⟩
    have HQ := Lib.hid (fun _ : Unit => hq)
    have FIN := Lib.hid (fun (w7 : World) (hb : Below w2.heap.size w2 w7) =>
      show Calls Tryd.prog 19 #[.pointer (some ⟨gb, 0, none⟩), .agg kid.cells.toArray, .int .i64 (sq : Int), .slice none 0 0, .slice A2 lf c2] w7 (fun e w' => ∃ A c, e = .returned (.tuple #[.slice A q.2.length c, .int .i64 q.1]) ∧ Rd w' (.slice A q.2.length c) (bs q.2) ∧ (∀ b, hold (.slice A q.2.length c) b → w7.heap.size ≤ b ∧ b < w'.heap.size) ∧ Below w7.heap.size w7 w') by
        have hw := bw_then BB2.out hb BB2.out.size
        have SX := openU R HK.out (HH.out.box.stay hw) kid (sq : Int) (.slice none 0 0) (.slice A2 lf c2) [] rest (Rd.nil _) (fun z hz => absurd hz (by simp)) (Q2.out.stay hw (Nat.le_refl _)) (fun z hz => HF.out z (List.mem_cons_of_mem _ hz))
        rw [HQ.out ()] at SX
        refine SX.mono ?_
        rintro e w' ⟨v, rfl, x1, x2, x3⟩
        obtain ⟨A, c, rfl, _⟩ := id x1
        rw [bs_len] at x1 x2 ⊢
        exact ⟨A, c, rfl, x1, x2, x3⟩)
    have k0 : w2.cell? ⟨gp, 0, none⟩ = some (.pointer (some ⟨gb, 0, none⟩)) := k2.at_ 0 rfl
    have e0 := b2.at_ 0 (v := .int .i64 ep) rfl
    have e1 := b2.at_ 1 (v := .int .i64 sq) rfl
    have LK := Lib.hid (load_fact (P := Tryd.prog) K2.out 68 1 (ys := [.int .i64 p.k.life, .int .i64 p.k.conn, .int .i64 p.k.peer]) rfl Tryd.underlying68 rfl (n := 3) (by kernel_rfl) rfl)
    have hbl0 : Below w2.heap.size w2 w2 := Below.refl _ _
    clear b2 on2 k2 bw2 bb2 hkid hq PT
    refine region_plan ⟨[0, 1, 3, 7, 0, 16, 48, 112, 0, 256, 0, 2032, 0, 4096, 0, 16384, 65535, 131071, 262143, 262143, 524287, 2097151], [11, 16], [0, 0, 0, 0, 0, 0, 0, 0, 0, 0, 0, 0, 0, 0, 0, 0, 1, 2, 2, 2, 2, 2]⟩
      [⟨[0, 1, 2, 3, 4, 5, 6, 7, 8, 9, 10, 12, 13, 14, 15], [1, 2, 3, 5, 6, 7, 8, 9, 12, 13, 15], some 11⟩, ⟨[], [1, 2, 3, 12, 13, 15], some 16⟩, ⟨[17, 18, 19, 20, 21], [18, 19], none⟩] 88 (by kernel_rfl) (by kernel_rfl) (by kernel_rfl) (by kernel_rfl) rfl ?_
    simp only [SeqGo, opsAt_cons, opsAt_nil, List.getElem?_cons, Option.toList_some, List.singleton_append, ↓reduceIte, Nat.reduceEqDiff, Nat.reduceSub]
    go_wp2_with (refine wp_load_sub rfl 68 (.tmp 42) rfl rfl (ys := [.int .i64 p.k.life, .int .i64 p.k.conn, .int .i64 p.k.peer]) (K2.out.d1.part 1 (ys := [.int .i64 p.k.life, .int .i64 p.k.conn, .int .i64 p.k.peer]) rfl) Tryd.underlying68 rfl (n := 3) (by kernel_rfl) rfl ?_)
    refine ⟨by (simp only [Sames]; refine ⟨?_, ?_, ?_, ?_, ?_, ?_, ?_, ?_, ?_, ?_, ?_, trivial⟩ <;> first | exact same_load (by rfl) 68 (.tmp 42) rfl rfl (LK.out _ (bw_d1 hbl0)) rfl | (simp only [Same]; go_simp)), ?_⟩
    go_wp2_with (go_at_call 49; refine (FID.out _).mono ?_; rintro e w5 ⟨rfl, m5⟩; have hbl5 : Below w2.heap.size w2 w5 := bw_next (bw_d1 hbl0) m5; have k05 := cell_stay hbl5 k0; have e15 := cell_stay hbl5 e1)
    refine ⟨by (simp only [Sames, Same]; go_simp), ?_⟩
    go_wp2_with (go_at_call 19; refine (FIN.out _ hbl5).mono ?_; rintro e w8 ⟨A8, c8, rfl, r1, r2, r3⟩)
    try (first | refine And.intro (a := True) trivial ?_ | refine ⟨by (simp only [Sames, Same]; go_simp), ?_⟩)
    have bw8 : Below w.heap.size w w8 := bw_then (bw_then BB2.out hbl5 BB2.out.size) r3 (bw_then BB2.out hbl5 BB2.out.size).size
    have hrr : r = takeR p 0 q := by
      have e1 : p.cnt (1 - p.side) = p.c0 := by rw [HSD.out ()]; rfl
      have e2 : ((1 - p.side : Nat) : Int) = 0 := by rw [HSD.out ()]; rfl
      have e3 : 1 - p.side = 0 := by rw [HSD.out ()]
      rw [← HR.out ()]
      unfold ptakeF
      rw [if_neg NSP.out, if_neg NH.out, e1, e2, e3, HEP.out (), HSQ.out (), HKID.out (), List.tail_cons, HQ.out ()]
      rfl
    have HRR := Lib.hid (fun _ : Unit => hrr)
    have R1 := Lib.hid r1; have R2 := Lib.hid (fun b hb => show w.heap.size ≤ b ∧ b < w8.heap.size from ⟨Nat.le_trans (bw_then BB2.out hbl5 BB2.out.size).size (r2 b hb).1, (r2 b hb).2⟩); have BW8 := Lib.hid bw8
    have R3 := Lib.hid (HH.out.stay bw8)
    have c4 : w8.cell? ⟨gp, 4, none⟩ = some (nI p.side) := R3.out.blk.at_ 4 rfl
    rw [HSD.out ()] at c4
    unfold nI at c4
    have hS0 : 0 < p.S := by
      have := HSP.out ()
      unfold PipeS.spent at this
      simp at this
      omega
    have ST := Lib.hid (step_any w8 gp gb p 0 (by decide) hS0 HI.out.c0 R3.out.blk)
    obtain ⟨qc, qt⟩ := q
    simp only at R1 R2 ⊢
    clear r1 r2 r3 bw8 hrr hS0 k0 e0 e1 k05 e15 hbl0 hbl5 m5 LK FIN FID hz1
    by_cases hq0 : qc ≠ 0
    · go_wp2_with fail
      all_goals (try go_ret2)
      refine EARLY.out _ _ (by rw [← hZ]; exact BW8.out) ?_
      rw [HRR.out (), takeR_bad _ _ _ _ (.inl hq0)]
    obtain rfl : qc = 0 := by omega
    clear hq0
    cases qt with
    | nil =>
      simp only [List.length_nil] at R1 R2 ⊢
      go_wp2_with fail
      all_goals (try go_ret2)
      refine EARLY.out _ _ (by rw [← hZ]; exact BW8.out) ?_
      rw [HRR.out (), takeR_bad _ _ _ _ (.inr (.inl rfl))]
    | cons y ys =>
    simp only [List.length_cons] at R1 R2 ⊢
    obtain ⟨ly, hly⟩ : ∃ l, ys.length = l := ⟨_, rfl⟩
    rw [hly] at R1 R2 ⊢
    by_cases hl6 : 60001 < ly + 1
    · have HLE := Lib.hid (show 60001 < (y :: ys).length by rw [List.length_cons, hly]; exact hl6)
      have hl6i : (60001 : Int) < ((ly + 1 : Nat) : Int) := by omega
      have hl0 : ¬ ((ly + 1 : Nat) : Int) = 0 := by omega
      obtain ⟨L, hL⟩ : ∃ L, ly + 1 = L := ⟨_, rfl⟩
      rw [hL] at R1 R2 hl6i hl0 hl6 ⊢
      clear hL
      go_wp2_with fail
      all_goals (try go_ret2)
      refine EARLY.out _ _ (by rw [← hZ]; exact BW8.out) ?_
      rw [HRR.out (), takeR_bad _ _ _ _ (.inr (.inr HLE.out))]
    have HL6 := Lib.hid hl6
    have hl6i : ¬ (60001 : Int) < ((ly + 1 : Nat) : Int) := by omega
    have hl0 : ¬ ((ly + 1 : Nat) : Int) = 0 := by omega
    have HLY := Lib.hid (fun _ : Unit => hly)
    obtain ⟨A9, c9, hv8, hc8, hc82, -, hcell8⟩ := id R1.out
    injection hv8 with ha8 hnn8 hb8
    clear hnn8
    subst ha8 hb8
    obtain ⟨b8, o8, rfl, hcl8⟩ := hcell8.resolve_left (by simp [bs])
    have y8 : w8.cell? ⟨b8, o8, none⟩ = some (.int .u8 y) := hcl8 0 (by simp [bs])
    have hn8 : b8 ≠ gp := fun h => by have h1 := (R2.out b8 ⟨_, _, _, rfl⟩).1; have h2 := HH.out.blk.lt; omega
    clear hcell8 hcl8 hl6 hly
    obtain ⟨L, hL⟩ : ∃ L, ly + 1 = L := ⟨_, rfl⟩
    rw [hL] at R1 R2 hl6i hl0 ⊢
    have HLL := Lib.hid (fun _ : Unit => hL)
    have hL0 : 0 < L := by omega
    clear hL
    rw [show (bs (y :: ys)).length = L by rw [bs_len, List.length_cons, HLY.out (), HLL.out ()]] at hc8
    obtain ⟨v1, v3, _, p3, _, ph3, _, g3⟩ := cut_facts R1.out 1 (by simp)
    obtain ⟨A3, c3, rfl, hc3, _⟩ := id p3
    rw [show (bs ((y :: ys).drop 1)).length = ly by rw [bs_len]; exact HLY.out ()] at p3 ph3 g3
    rw [show ((1 : Nat) : Int) = 1 from rfl] at g3
    have P3 := Lib.hid p3; have PH3 := Lib.hid ph3
    clear p3 ph3 hc3
    have TL := Lib.hid (fun (w9 : World) (s1 : Blk w9 gp (pipeC gb (p.step 0)) 119) (s2 : Turns (fun k => k = gp) w8 w9) => show PipeUp w0 w9 own gp gb (p.step 0) sec ideal st ∧ Turns (fun k => k = gp) w w9 from
      ⟨⟨R3.out.box.turns s2 (fun b hb h => R3.out.no (h ▸ hb)) (fun b h => by rw [h]; exact R3.out.up), s1, R3.out.up, R3.out.no⟩, (Turns.of_below BW8.out).trans s2⟩)
    have TK := Lib.hid (show r = if y = 1 then (0, ys, p.step 0) else if y = 2 ∧ ys.length = 0 then (14, [], p.step 0) else (6, [], p.step 0) by rw [HRR.out ()]; exact takeR_ok _ _ _ _ (by have := HL6.out; have := HLL.out (); have := HLY.out (); omega))
    by_cases hy1 : y = 1
    · subst hy1
      go_upto_region 12 with (go_at_call 99; refine ST.out.mono ?_; rintro e w9 ⟨rfl, s1, s2⟩; have y9 : w9.cell? ⟨b8, o8, none⟩ = some (.int .u8 1) := s2.cell hn8 y8)
      have p9 : Rd w9 (.slice A3 ly c3) (bs ((1 :: ys).drop 1)) := P3.out.moves s2 (fun b hb h => hn8 (by
        have hh := PH3.out b hb
        obtain ⟨_, _, _, he⟩ := hh
        injection he with he
        injection he with he
        injection he with he
        rw [he, h]))
      have CL := Lib.hid (clone_any _ _ w9 p9 (by have := HL6.out; have := HLY.out (); simp only [List.drop_succ_cons, List.drop_zero]; omega))
      have S1 := Lib.hid s1; have S2 := Lib.hid s2
      clear s1 s2 p9
      go_wp2_with (go_at_call 52; refine CL.out.mono ?_; rintro e w5 ⟨v, rfl, hb5, ho5⟩)
      all_goals (try go_ret2)
      rw [← HR0.out (), TK.out, if_pos (by trivial)]
      obtain ⟨t1, t2⟩ := TL.out w9 S1.out S2.out
      exact ⟨v, rfl, Rd.of_own ho5, fun b hb => ⟨Nat.le_trans t2.size (row_new ho5 hb).1, (row_new ho5 hb).2⟩, t1.stay hb5, t2.trans (Turns.of_below hb5)⟩
    by_cases hy2 : y = 2
    · subst hy2
      by_cases hL1 : L = 1
      · have hL1i : (L : Int) = 1 := by omega
        go_wp2_with (go_at_call 99; refine ST.out.mono ?_; rintro e w9 ⟨rfl, s1, s2⟩; have y9 : w9.cell? ⟨b8, o8, none⟩ = some (.int .u8 2) := s2.cell hn8 y8)
        all_goals (try go_ret2)
        rw [← HR0.out (), TK.out, if_neg (by simp), if_pos ⟨by trivial, by have := HLY.out (); have := HLL.out (); omega⟩]
        obtain ⟨t1, t2⟩ := TL.out w9 s1 s2
        exact ⟨_, rfl, Rd.nil _, fun b hb => absurd hb (by simp [hold]), t1, t2⟩
      · have hL1i : ¬ (L : Int) = 1 := by omega
        go_wp2_with (go_at_call 99; refine ST.out.mono ?_; rintro e w9 ⟨rfl, s1, s2⟩; have y9 : w9.cell? ⟨b8, o8, none⟩ = some (.int .u8 2) := s2.cell hn8 y8)
        all_goals (try go_ret2)
        rw [← HR0.out (), TK.out, if_neg (by simp), if_neg (fun hh => hL1 (by have := HLY.out (); have := HLL.out (); omega))]
        obtain ⟨t1, t2⟩ := TL.out w9 s1 s2
        exact ⟨_, rfl, Rd.nil _, fun b hb => absurd hb (by simp [hold]), t1, t2⟩
    go_wp2_with (go_at_call 99; refine ST.out.mono ?_; rintro e w9 ⟨rfl, s1, s2⟩; have y9 : w9.cell? ⟨b8, o8, none⟩ = some (.int .u8 y) := s2.cell hn8 y8)
    all_goals (try go_ret2)
    rw [← HR0.out (), TK.out, if_neg hy1, if_neg (fun hh => hy2 hh.1)]
    obtain ⟨t1, t2⟩ := TL.out w9 s1 s2
    exact ⟨_, rfl, Rd.nil _, fun b hb => absurd hb (by simp [hold]), t1, t2⟩
end Go.Proofs.YtdgpchacfdlleaaDoor
end

section
/-
  pipe: Seal, Open, Close.
-/
namespace Go.Proofs.YtdgpchacfdlleaaDoor
open Go.RowKit

theorem psealF_code (R : RealF) (sec : List Int) (ideal : Bool) (st : BoxI) (p : PipeS) (kind : Int) (text : List Int) : (psealF R sec ideal st p kind text).1 ≠ 2 := by
  unfold psealF
  split
  · simp
  split
  · simp
  split
  · simp
  simp only
  split
  · unfold sealX
    split
    · simp
    split
    · simp
    · simp
  · simp
theorem shut_cells (gb : Nat) (p : PipeS) (c : Bool) : pipeC gb (p.shut c) = (pipeC gb p).set 18 (.bool c) := rfl
section
variable {w0 w : World} {own : Nat → Prop} {gp gb : Nat} {p : PipeS} {sec : List Int} {ideal : Bool} {st : BoxI}
theorem PipeUp.shut (h : PipeUp w0 w own gp gb p sec ideal st) (c : Bool) : PipeUp w0 (w.setCell ⟨gp, 18, none⟩ (.bool c)) own gp gb (p.shut c) sec ideal st :=
  ⟨h.box.turns (Turns.set (S := fun k => k = gp) w gp 18 _ rfl) (fun b hb e => h.no (e ▸ hb)) (fun b e => by rw [e]; exact h.up), by rw [shut_cells]; exact h.blk.set 18 _, h.up, h.no⟩

set_option maxRecDepth 100000 in
theorem pSeal_any (R : RealF) (hK : Kind R ideal) (h : PipeUp w0 w own gp gb p sec ideal st) (hf : Few st) (hi : p.In) (vt : Value) (text : List Int) (hrt : Rd w vt (bs text)) (hT : IsB text) :
    Calls Tryd.prog 34 #[.pointer (some ⟨gp, 0, none⟩), vt] w
      (ResP w0 w own gp gb sec ideal (psealF R sec ideal st p 1 text).1 (psealF R sec ideal st p 1 text).2.1 (psealF R sec ideal st p 1 text).2.2.1 (psealF R sec ideal st p 1 text).2.2.2) := by
  have PS := Lib.hid (pseal_any R hK h hf hi 1 (by decide) vt text hrt hT)
  obtain ⟨r, hr⟩ : ∃ r, psealF R sec ideal st p 1 text = r := ⟨_, rfl⟩
  rw [hr] at PS ⊢
  clear hr hK h hf hi hrt hT
  go_enter Tryd.func34, Tryd.ntmps34
  go_wp2_with (go_at_call 69; refine PS.out.mono ?_; rintro e w1 ⟨v, own', rfl, r1⟩)
  all_goals (try go_ret2)
  exact ⟨v, own', rfl, r1⟩
set_option maxRecDepth 100000 in
theorem pClose_any (R : RealF) (hK : Kind R ideal) (h : PipeUp w0 w own gp gb p sec ideal st) (hf : Few st) (hi : p.In) :
    Calls Tryd.prog 40 #[.pointer (some ⟨gp, 0, none⟩)] w
      (ResP w0 w own gp gb sec ideal (pcloseF R sec ideal st p).1 (pcloseF R sec ideal st p).2.1 (pcloseF R sec ideal st p).2.2.1 (pcloseF R sec ideal st p).2.2.2) := by
  have PS := Lib.hid (pseal_any R hK h hf hi 2 (by decide) (.slice none 0 0) [] (Rd.nil _) (fun z hz => absurd hz (by simp)))
  have hc2 := psealF_code R sec ideal st p 2 []
  unfold pcloseF
  obtain ⟨r, hr⟩ : ∃ r, psealF R sec ideal st p 2 [] = r := ⟨_, rfl⟩
  simp only [hr] at PS hc2 ⊢
  obtain ⟨c, hc⟩ : ∃ c, r.1 = c := ⟨_, rfl⟩
  rw [hc] at PS hc2 ⊢
  have PIN := Lib.hid h.blk.lt
  clear hr hc hK h hf hi
  go_enter Tryd.func40, Tryd.ntmps40
  go_upto_region 2 with (go_at_call 69; refine PS.out.mono ?_; rintro e w1 ⟨v, own', rfl, r1, r2, r3, r4, r5, r6⟩)
  have f18 := r3.blk.free 18
  have y18 := r3.blk.at_ 18 (v := .bool r.2.2.2.closed) rfl
  have R1 := Lib.hid r1; have R2 := Lib.hid r2; have R3 := Lib.hid r3; have R4 := Lib.hid r4; have R5 := Lib.hid r5; have R6 := Lib.hid r6
  clear r1 r2 r3 r4 r5 r6
  go_wp2_with fail
  all_goals (try go_ret2)
  have tn : Turns (fun k => k = gp) w1 (w1.setCell ⟨gp, 18, none⟩ (.bool true)) := Turns.set (S := fun k => k = gp) w1 gp 18 _ rfl
  have hgw : ∀ b, hold v b → b ≠ gp := fun b hb e => by
    subst e
    have h1 := (R2.out b hb).1
    have h2 := R3.out.blk.lt
    have h3 := PIN.out
    omega
  refine ⟨v, own', rfl, R1.out.moves tn (fun b hb => hgw b hb), fun b hb => ?_, R3.out.shut true, R4.out, R5.out.trans (tn.mono fun k h => .inr h), R6.out⟩
  have := R2.out b hb
  exact ⟨this.1, by have := tn.size; omega, this.2.2⟩
set_option maxRecDepth 100000 in
theorem pOpen_any (R : RealF) (hK : Kind R ideal) (h : PipeUp w0 w own gp gb p sec ideal st) (hi : p.In) (vf : Value) (frame : List Int) (hrf : Rd w vf (bs frame)) (hF : IsB frame) :
    Calls Tryd.prog 35 #[.pointer (some ⟨gp, 0, none⟩), vf] w
      (TakeRes w0 w own gp gb sec ideal st (popenF R sec ideal st p frame).1 (popenF R sec ideal st p frame).2.1 (popenF R sec ideal st p frame).2.2) := by
  have TK := Lib.hid (ptake_any R hK h hi vf frame hrf hF)
  have OP := Lib.hid (popen_any w gp gb p h.blk)
  have EARLY := Lib.hid (fun (code : Int) (w' : World) (k : Below w.heap.size w w') => TakeRes.early h k code)
  obtain ⟨cl, hcl⟩ : ∃ c, p.closed = c := ⟨_, rfl⟩
  have PIN := Lib.hid h.blk.lt
  unfold popenF
  rw [hcl] at OP ⊢
  cases cl with
  | true =>
    rw [if_pos rfl] at OP ⊢
    clear TK hcl hK h hi hrf hF
    go_enter Tryd.func35, Tryd.ntmps35
    go_wp2_with (go_at_call 70; refine OP.out.mono ?_; rintro e w' ⟨rfl, hw⟩; subst hw)
    all_goals (try go_ret2)
    exact EARLY.out _ _ (Below.refl _ _)
  | false =>
    rw [if_neg (by simp)] at OP ⊢
    obtain ⟨r, hr⟩ : ∃ r, ptakeF R sec ideal st p frame = r := ⟨_, rfl⟩
    simp only [hr] at TK ⊢
    obtain ⟨c, hc⟩ : ∃ c, r.1 = c := ⟨_, rfl⟩
    rw [hc] at TK ⊢
    clear hr hc hcl hK h hi hrf hF EARLY
    go_enter Tryd.func35, Tryd.ntmps35
    go_upto_region 5 with (first
      | (go_at_call 70; refine OP.out.mono ?_; rintro e w' ⟨rfl, hw⟩; subst hw)
      | (go_at_call 71; refine TK.out.mono ?_; rintro e w1 ⟨v, rfl, r1, r2, r3, r4⟩))
    have f18 := r3.blk.free 18
    have y18 := r3.blk.at_ 18 (v := .bool r.2.2.closed) rfl
    have R1 := Lib.hid r1; have R2 := Lib.hid r2; have R3 := Lib.hid r3; have R4 := Lib.hid r4
    clear r1 r2 r3 r4
    obtain ⟨d, hd⟩ : ∃ d : Bool, decide (c ≠ 0) = d := ⟨_, rfl⟩
    have hd' : (c != 0) = d := by rw [← hd]; simp [bne]; rfl
    have HDD := Lib.hid (fun _ : Unit => hd)
    clear hd
    go_wp2_with fail
    all_goals (try go_ret2)
    have tn : Turns (fun k => k = gp) w1 (w1.setCell ⟨gp, 18, none⟩ (.bool d)) := Turns.set (S := fun k => k = gp) w1 gp 18 _ rfl
    have hgw : ∀ b, hold v b → b ≠ gp := fun b hb e => by
      subst e
      have h1 := (R2.out b hb).1
      have h3 := PIN.out
      omega
    have u18 := R3.out.shut d
    rw [← HDD.out ()] at u18
    have t18 := R4.out.trans tn
    refine ⟨v, rfl, R1.out.moves tn (fun b hb => hgw b hb), fun b hb => ?_, ?_, t18⟩
    rotate_left
    · rw [← HDD.out ()]; exact u18
    have := R2.out b hb
    exact ⟨this.1, by have := tn.size; omega⟩
end
end Go.Proofs.YtdgpchacfdlleaaDoor
end

section
/-
  pipe: a new end.
-/
namespace Go.Proofs.YtdgpchacfdlleaaDoor
open Go.RowKit

def fitN (n : Int) : Nat := (min (max n 0) 1099511627776).toNat
theorem fitN_le (n : Int) : fitN n ≤ 1099511627776 := by unfold fitN; omega
theorem fitN_int (n : Int) : ((fitN n : Nat) : Int) = min (max n 0) 1099511627776 := by unfold fitN; omega
def newP (k : KeyS) (side : Nat) (seq ep : Int) : PipeS := ⟨k, side, fitN seq, fitN ep, 0, 0, false⟩
theorem newP_in (k : KeyS) (side : Nat) (seq ep : Int) (hk : ∀ e s : Int, InI e → InI s → (fid k e s).In) (hs : side < 2) : (newP k side seq ep).In :=
  ⟨hk, hs, fitN_le _, fitN_le _, by show 0 ≤ _; omega, by show 0 ≤ _; omega⟩
theorem fit_any (n : Int) (w : World) : Calls Tryd.prog 68 #[.int .i64 n] w fun e w' => e = .returned (.int .i64 (fitN n : Nat)) ∧ w = w' := by
  rw [fitN_int]
  go_enter Tryd.func68, Tryd.ntmps68
  go_wp2_with fail
  all_goals (try go_ret)
  all_goals (refine ⟨congrArg (fun z : Int => Ending.returned (Value.int .i64 z)) (show (_ : Int) = _ from ?_), rfl⟩; omega)
def kid0 : Kid := ⟨0, 0, 0, 0, 0, 0⟩
theorem open_kid0 (R : RealF) (sec : List Int) (ideal : Bool) (st : BoxI) : openX R sec ideal st kid0 0 [] [] = (1, []) := by
  have h : askB kid0 0 ≠ 0 := by decide
  have h1 : askB kid0 0 = 1 := by decide
  unfold openX
  by_cases hi : ideal = true
  · rw [if_pos hi]; unfold openS; rw [if_pos h]; try rw [h1]
  · rw [if_neg hi, if_pos h]

set_option maxRecDepth 100000 in
set_option maxHeartbeats 1000000 in
theorem pnew_any (R : RealF) {w0 w : World} {own : Nat → Prop} {gb : Nat} {sec : List Int} {ideal : Bool} {st : BoxI} (hK : Kind R ideal) (hb : BoxUp w0 w own gb sec ideal st) (k : KeyS) (side : Nat) (hs : side < 2) (hk : (fid k 0 side).ok = true) (n0 seq n2 n3 n4 ep n6 : Int) :
    Calls Tryd.prog 32 #[.pointer (some ⟨gb, 0, none⟩), .agg #[.int .i64 k.life, .int .i64 k.conn, .int .i64 k.peer], .int .i64 side, .agg #[.int .i64 n0, .int .i64 seq, .int .i64 n2, .int .i64 n3, .int .i64 n4, .int .i64 ep, .int .i64 n6]] w fun e w' =>
      ∃ gp, e = .returned (.pointer (some ⟨gp, 0, none⟩)) ∧ w.heap.size ≤ gp ∧ PipeUp w0 w' own gp gb (newP k side seq ep) sec ideal st ∧ Below w.heap.size w w' := by
  obtain ⟨Z, hZ⟩ : ∃ Z, w.heap.size = Z := ⟨_, rfl⟩
  have OPN := Lib.hid (fun (w' : World) (hw : Below w.heap.size w w') => by
    have := openU R hK (hb.stay hw) kid0 0 (.slice none 0 0) (.slice none 0 0) [] [] (Rd.nil _) isB_nil (Rd.nil _) isB_nil
    rw [open_kid0] at this
    exact this)
  have FID := Lib.hid (fun w' => fid_any w' k 0 (side : Int))
  have VAL := Lib.hid (fun w' => valid_any (fid k 0 side) w')
  rw [hk] at VAL
  have F1 := Lib.hid (fun w' => fit_any seq w'); have F2 := Lib.hid (fun w' => fit_any ep w')
  have HB := Lib.hid hb
  obtain ⟨R0, hR0⟩ : ∃ R0 : Ending → World → Prop, (fun e w' => ∃ gp, e = .returned (.pointer (some ⟨gp, 0, none⟩)) ∧ w.heap.size ≤ gp ∧ PipeUp w0 w' own gp gb (newP k side seq ep) sec ideal st ∧ Below w.heap.size w w') = R0 := ⟨_, rfl⟩
  rw [hR0]
  have HR0 := Lib.hid (fun _ : Unit => hR0)
  have s1 : ¬ ((side : Nat) : Int) < 0 := by omega
  have s2 : ¬ (1 : Int) < ((side : Nat) : Int) := by omega
  clear hK hb hk hR0
  go_enter Tryd.func32, Tryd.ntmps32
  go_upto_region 1 with fail
  obtain ⟨W, hW⟩ : ∃ W, (w.alloc (.cells #[.int .i64 k.life, .int .i64 k.conn, .int .i64 k.peer] 68)).alloc (.cells #[.int .i64 n0, .int .i64 seq, .int .i64 n2, .int .i64 n3, .int .i64 n4, .int .i64 ep, .int .i64 n6] 64) = W := ⟨_, rfl⟩
  have b0 : Blk W Z [.int .i64 k.life, .int .i64 k.conn, .int .i64 k.peer] 68 := by rw [← hW]; exact (Blk.mk_ _ hZ.symm rfl).al _
  have b1 : Blk W (Z + 1) [.int .i64 n0, .int .i64 seq, .int .i64 n2, .int .i64 n3, .int .i64 n4, .int .i64 ep, .int .i64 n6] 64 := by rw [← hW]; exact Blk.mk_ _ (by simp [hZ]) rfl
  have bb : Below w.heap.size w W := by rw [← hW]; exact bw_al (bw_al (Below.refl _ _) (Nat.le_refl _) _) (by simp) _
  have B0 := Lib.hid b0; have B1 := Lib.hid b1; have BB := Lib.hid bb
  rw [hW]
  clear hW b0 b1 bb
  have nn : (decide (((side : Nat) : Int) < 0) || decide ((1 : Int) < ((side : Nat) : Int))) = false := by simp; omega
  go_upto_region 5 with (first
    | (go_at_call 19; refine (OPN.out _ BB.out).mono ?_; rintro e w1 ⟨v1, rfl, -, -, m1⟩; have c0 := (B0.out.stay m1).at_ 0 rfl; have c1 := (B0.out.stay m1).at_ 1 rfl; have c2 := (B0.out.stay m1).at_ 2 rfl)
    | (go_at_call 49; refine (FID.out _).mono ?_; rintro e w2 ⟨rfl, m2⟩)
    | (go_at_call 23; refine (VAL.out _).mono ?_; rintro e w3 ⟨rfl, m3⟩))
  have bw3 : Below W.heap.size W w3 := bw_next (bw_next m1 m2) m3
  have b03 := B0.out.stay bw3
  have b13 := B1.out.stay bw3
  have x0 := b03.d1.at_ 0 rfl; have x1 := b03.d1.at_ 1 rfl; have x2 := b03.d1.at_ 2 rfl
  have y1 := b13.d1.at_ 1 rfl; have y5 := b13.d1.at_ 5 rfl
  have BW3 := Lib.hid (bw_then BB.out bw3 BB.out.size)
  clear b03 b13 bw3 m1 m2 m3 c0 c1 c2 s1 s2 nn
  refine region_plan ⟨[0, 0, 0, 0, 0, 16, 56, 0, 0, 256, 1016, 2040, 4095, 8191, 16383], [6, 10, 13], [0, 0, 0, 0, 0, 0, 0, 0, 0, 0, 1, 2, 2, 2, 3]⟩
    [⟨[0, 1, 2, 3, 4, 5, 7, 8, 9], [1, 4, 5, 8, 9], some 6⟩, ⟨[], [1, 8, 9], some 10⟩, ⟨[11, 12], [1, 11, 12], some 13⟩, ⟨[14], [], none⟩] 49 (by kernel_rfl) (by kernel_rfl) (by kernel_rfl) (by kernel_rfl) rfl ?_
  simp only [SeqGo, opsAt_cons, opsAt_nil, List.getElem?_cons, Option.toList_some, List.singleton_append, ↓reduceIte, Nat.reduceEqDiff, Nat.reduceSub]
  go_wp2_with fail
  refine ⟨by (simp only [Sames, Same]; go_simp), ?_⟩
  go_wp2_with (go_at_call 68; refine (F1.out _).mono ?_; rintro e w4 ⟨rfl, hw⟩; subst hw)
  refine ⟨by (simp only [Sames, Same]; go_simp), ?_⟩
  go_wp2_with (go_at_call 68; refine (F2.out _).mono ?_; rintro e w4 ⟨rfl, hw⟩; subst hw)
  iterate 2 (try (first | refine And.intro (a := True) trivial ?_ | refine And.intro (show Sames _ _ _ _ _ from by (simp only [Sames, Same]; go_simp)) ?_); try go_wp2_with fail)
  all_goals (try go_ret)
  rw [← HR0.out ()]
  have e : pipeC gb (newP k side seq ep) = [.pointer (some ⟨gb, 0, none⟩), .int .i64 k.life, .int .i64 k.conn, .int .i64 k.peer, .int .i64 side, .int .i64 0, .int .i64 (fitN seq : Nat), .int .i64 0, .int .i64 0, .int .i64 0, .int .i64 (fitN ep : Nat), .int .i64 0, .int .i64 0, .int .i64 0, .int .i64 0, .int .i64 0, .int .i64 0, .int .i64 0, .bool false] := by
    simp [pipeC, newP, nI]
  have bl := bw_al (bw_d1 (Below.refl w3.heap.size w3)) (Nat.le_refl _) (.cells #[.pointer (some ⟨gb, 0, none⟩), .int .i64 k.life, .int .i64 k.conn, .int .i64 k.peer, .int .i64 side, .int .i64 0, .int .i64 (fitN seq : Nat), .int .i64 0, .int .i64 0, .int .i64 0, .int .i64 (fitN ep : Nat), .int .i64 0, .int .i64 0, .int .i64 0, .int .i64 0, .int .i64 0, .int .i64 0, .int .i64 0, .bool false] 119)
  have bl2 := bw_then BW3.out bl BW3.out.size
  refine ⟨w3.heap.size, rfl, BW3.out.size, ⟨HB.out.stay ?_, ?_, Nat.le_trans HB.out.low.size BW3.out.size, HB.out.fresh BW3.out.size⟩, ?_⟩
  · first | exact bl2 | exact bw_d1 (bw_then BW3.out (bw_al (Below.refl _ _) (Nat.le_refl _) _) BW3.out.size)
  · rw [e]
    first | exact Blk.mk_ _ rfl rfl | exact (Blk.mk_ _ rfl rfl).d1
  · first | exact bl2 | exact bw_d1 (bw_then BW3.out (bw_al (Below.refl _ _) (Nat.le_refl _) _) BW3.out.size)
end Go.Proofs.YtdgpchacfdlleaaDoor
end

section
/-
  Arguments, read: slices, rows of bytes.
-/
namespace Go.Proofs.YtdgpchacfdlleaaDoor
open Go.ChangeShapes Go.WideShapes Go.ChangeAt Go.RowKit

theorem byte_of_wf {z : Int} (h : (Lit.int .u8 z).wf = true) : 0 ≤ z ∧ z ≤ 255 := by
  simp [Lit.wf] at h
  have e1 : IntKind.u8.min = 0 := rfl
  have e2 : IntKind.u8.max = 255 := rfl
  omega
theorem cells_u8 : Tryd.prog.cellsOf 5 = 1 := by kernel_rfl

/-- A slice whose elements have 'sz' cells each. -/
def Els (w : World) (v : Value) (n sz : Nat) (f : Nat → List Value) : Prop :=
  ∃ A cap, v = .slice A n cap ∧ n ≤ cap ∧ cap ≤ maxLen ∧ (A = none → cap = 0) ∧ (n ≠ 0 → ∃ b o, A = some ⟨b, o, none⟩ ∧ b < w.heap.size ∧ ∀ i, i < n → (f i).length = sz ∧ ∀ j, j < sz → w.cell? ⟨b, o + i * sz + j, none⟩ = (f i)[j]?)
theorem Els.stay {w w' : World} {v : Value} {n sz : Nat} {f : Nat → List Value} {B : Nat} (h : Els w v n sz f) (hb : Below B w w') (hB : w.heap.size ≤ B) : Els w' v n sz f := by
  obtain ⟨A, cap, rfl, h1, h2, h0, h3⟩ := h
  refine ⟨A, cap, rfl, h1, h2, h0, fun hn => ?_⟩
  obtain ⟨b, o, rfl, hlt, h4⟩ := h3 hn
  refine ⟨b, o, rfl, Nat.lt_of_lt_of_le hlt hb.size, fun i hi => ⟨(h4 i hi).1, fun j hj => ?_⟩⟩
  rw [hb.cell (p := ⟨b, o + i * sz + j, none⟩) (Nat.lt_of_lt_of_le hlt hB)]
  exact (h4 i hi).2 j hj
theorem Els.len {w : World} {v : Value} {n sz : Nat} {f : Nat → List Value} (h : Els w v n sz f) : n ≤ 9223372036854775807 := by
  obtain ⟨A, cap, rfl, h1, h2, _, h3⟩ := h
  unfold maxLen at h2; omega

theorem els_of_trod {H : Type} {enc : TypeId × Value → H} {P : Program} {w : World} {base : Nat} {sp : Nat → Bool} {held : Bool} {fuel : Nat} {cs : List Value} {x : DataW H × List MemPlace} {t e : TypeId} {sz : Nat} (ht : P.underlying t = some (.slice e)) (hsz : P.cellsOf e = sz) (hpos : 0 < sz)
    {Pe : List Value → Prop} (hE : ∀ (n : Nat) (cs' : List Value) (d : DataW H × List MemPlace), DataW.trod enc P w base sp held n e cs' = some d → Pe cs') (h : DataW.trod enc P w base sp held fuel t cs = some x) :
    ∃ v n f, cs = [v] ∧ Els w v n sz f ∧ ∀ i, i < n → Pe (f i) := by
  rcases Deep.open_slice ht h with ⟨h1, _⟩ | ⟨a, len, cap, m, n', D, Pl, h1, _, hlc, hcm, hm, _, hall⟩
  · subst h1
    exact ⟨_, 0, fun _ => [], rfl, ⟨none, 0, rfl, Nat.le_refl _, Nat.zero_le _, fun _ => rfl, fun h => absurd rfl h⟩, fun i hi => by omega⟩
  · subst h1
    have hlm : len ≤ m := by rw [hm]; split <;> omega
    obtain ⟨f, hf⟩ := Deep.choose_lt (n := len) (p := fun i cs' => w.cells? base (a.add (i * sz)) sz = some cs' ∧ Pe cs') fun i hi => by
      obtain ⟨cs', h2, h3⟩ := hall i (by omega)
      rw [hsz] at h2
      exact ⟨cs', h2, hE _ _ _ h3⟩
    refine ⟨_, len, f, rfl, ⟨some a, cap, rfl, hlc, hcm, (fun h => by cases h), fun hn => ?_⟩, fun i hi => (hf i hi).2⟩
    have hc := fun i (hi : i < len) => World.cells?_some (hf i hi).1
    have h0 := hc 0 (by omega)
    have hspot : a.spot = none := by
      have h2 := h0.2.2 0 hpos
      rw [List.getElem?_eq_getElem (by omega)] at h2
      simp only [Nat.zero_mul, Addr.add, if_true, World.cell?] at h2
      cases hs : a.spot with
      | none => rfl
      | some q =>
        rw [hs] at h2
        split at h2 <;> simp at h2
    obtain ⟨b, o, s⟩ := a
    simp only at hspot
    subst hspot
    refine ⟨b, o, rfl, ?_, fun i hi => ⟨(hc i hi).2.1, fun j hj => ?_⟩⟩
    · have h2 := h0.2.2 0 hpos
      rw [List.getElem?_eq_getElem (by omega)] at h2
      have := World.block_lt_of_cell? w _ h2
      simpa [Addr.add] using this
    · have h2 := (hc i hi).2.2 j hj
      rw [← h2]
      congr 1
      unfold Addr.add
      by_cases hi0 : i * sz = 0 <;> by_cases hj0 : j = 0 <;> simp [hi0, hj0]

/-- An argument of a one-cell type is that cell. -/
theorem one_of_ok {P : Program} {W : World} {base : Nat} {t : TypeId} {v : Value} {d : TypeDesc} (ht : P.underlying t = some d) (hd : (match d with | .slice _ | .int _ | .bool | .string => true | _ => false) = true) (hv : Value.okWide P W .any base t v) : v.cells.toList = [v] := by
  cases v with
  | agg cs =>
    exfalso
    unfold Value.okWide at hv
    rw [ht] at hv
    cases d <;> simp at hd <;> simp [Cell.okWide, Cell.ok, ht] at hv
  | _ => rfl

/-- An argument that is a row of bytes. -/
theorem bytes_of_trod {H : Type} {enc : TypeId × Value → H} {w : World} {base : Nat} {sp : Nat → Bool} {held : Bool} {fuel : Nat} {cs : List Value} {x : DataW H × List MemPlace}
    (h : DataW.trod enc Tryd.prog w base sp held fuel 24 cs = some x) : ∃ v xs, cs = [v] ∧ IsB xs ∧ Rd w v (bs xs) := by
  obtain ⟨v, n, f, rfl, ⟨A, cap, rfl, h1, h2, h0, h3⟩, hP⟩ := els_of_trod (sz := 1) Tryd.underlying24 cells_u8 (by decide) (Pe := fun cs' => ∃ z, cs' = [.int .u8 z] ∧ 0 ≤ z ∧ z ≤ 255) (fun n cs' d hd => by
    obtain ⟨z, h1, _, h3⟩ := DataW.trod_int Tryd.underlying5 hd
    exact ⟨z, h1, byte_of_wf h3⟩) h
  obtain ⟨g, hg⟩ := Deep.choose_lt (n := n) (p := fun i z => f i = [.int .u8 z] ∧ 0 ≤ z ∧ z ≤ 255) hP
  refine ⟨_, (List.range n).map g, rfl, ?_, A, cap, by simp [bs], by simpa [bs] using h1, h2, h0, ?_⟩
  · intro z hz
    obtain ⟨i, hi, rfl⟩ := List.mem_map.1 hz
    exact (hg i (List.mem_range.1 hi)).2
  · by_cases hn : n = 0
    · left; subst hn; rfl
    · right
      obtain ⟨b, o, rfl, _, h4⟩ := h3 hn
      refine ⟨b, o, rfl, fun j hj => ?_⟩
      have hj' : j < n := by simpa [bs] using hj
      have h5 := (h4 j hj').2 0 (by decide)
      rw [(hg j hj').1] at h5
      simpa [bs] using h5
/-- An argument that is rows of bytes. -/
theorem rows_of_trod {H : Type} {enc : TypeId × Value → H} {w : World} {base : Nat} {sp : Nat → Bool} {held : Bool} {fuel : Nat} {cs : List Value} {x : DataW H × List MemPlace} {t : TypeId} (ht : Tryd.prog.underlying t = some (.slice 24)) (hc : Tryd.prog.cellsOf 24 = 1)
    (h : DataW.trod enc Tryd.prog w base sp held fuel t cs = some x) : ∃ v n f, cs = [v] ∧ Els w v n 1 f ∧ ∀ i, i < n → ∃ u xs, f i = [u] ∧ IsB xs ∧ Rd w u (bs xs) :=
  els_of_trod (sz := 1) ht hc (by decide) (fun _ _ _ hd => bytes_of_trod hd) h
theorem int_of_trod {H : Type} {enc : TypeId × Value → H} {w : World} {base : Nat} {sp : Nat → Bool} {held : Bool} {fuel : Nat} {cs : List Value} {x : DataW H × List MemPlace} {t : TypeId} {k : IntKind} (ht : Tryd.prog.underlying t = some (.int k))
    (h : DataW.trod enc Tryd.prog w base sp held fuel t cs = some x) : ∃ z, cs = [.int k z] ∧ k.min ≤ z ∧ z ≤ k.max := by
  obtain ⟨z, h1, _, h3⟩ := DataW.trod_int ht h
  refine ⟨z, h1, ?_⟩
  simp [Lit.wf] at h3
  omega
end Go.Proofs.YtdgpchacfdlleaaDoor
end

section
/-
  Arguments, read: booleans, strings, rows of booleans.
-/
namespace Go.Proofs.YtdgpchacfdlleaaDoor
open Go.ChangeShapes Go.WideShapes Go.ChangeAt Go.RowKit

theorem bool_of_trod {H : Type} {enc : TypeId × Value → H} {P : Program} {w : World} {base : Nat} {sp : Nat → Bool} {held : Bool} {fuel : Nat} {cs : List Value} {x : DataW H × List MemPlace} {t : TypeId} (ht : P.underlying t = some .bool)
    (h : DataW.trod enc P w base sp held fuel t cs = some x) : ∃ z, cs = [.bool z] := by
  cases fuel with
  | zero => simp [DataW.trod] at h
  | succ n =>
    unfold DataW.trod at h
    rw [ht] at h
    split at h <;> simp_all
theorem str_of_trod {H : Type} {enc : TypeId × Value → H} {P : Program} {w : World} {base : Nat} {sp : Nat → Bool} {held : Bool} {fuel : Nat} {cs : List Value} {x : DataW H × List MemPlace} {t : TypeId} (ht : P.underlying t = some .string)
    (h : DataW.trod enc P w base sp held fuel t cs = some x) : ∃ s : ByteArray, cs = [.string s] ∧ s.size ≤ maxLen := by
  obtain ⟨s, h1, _, h3⟩ := DataW.trod_string ht h
  exact ⟨s, h1, h3⟩
/-- An argument that is a row of booleans. -/
theorem bools_of_trod {H : Type} {enc : TypeId × Value → H} {P : Program} {w : World} {base : Nat} {sp : Nat → Bool} {held : Bool} {fuel : Nat} {cs : List Value} {x : DataW H × List MemPlace} {t e : TypeId} (ht : P.underlying t = some (.slice e)) (he : P.underlying e = some .bool) (hc : P.cellsOf e = 1)
    (h : DataW.trod enc P w base sp held fuel t cs = some x) : ∃ v n f, cs = [v] ∧ Els w v n 1 f ∧ ∀ i, i < n → ∃ z, f i = [.bool z] :=
  els_of_trod (sz := 1) ht hc (by decide) (fun _ _ _ hd => bool_of_trod he hd) h
/-- An argument that is a row of ints. -/
theorem ints_of_trod {H : Type} {enc : TypeId × Value → H} {w : World} {base : Nat} {sp : Nat → Bool} {held : Bool} {fuel : Nat} {cs : List Value} {x : DataW H × List MemPlace} {t e : TypeId} (ht : Tryd.prog.underlying t = some (.slice e)) (he : Tryd.prog.underlying e = some (.int .i64)) (hc : Tryd.prog.cellsOf e = 1)
    (h : DataW.trod enc Tryd.prog w base sp held fuel t cs = some x) : ∃ (v : Value) (zs : List Int), cs = [v] ∧ (∀ z ∈ zs, -9223372036854775808 ≤ z ∧ z ≤ 9223372036854775807) ∧ Rd w v (zs.map (Value.int .i64)) := by
  obtain ⟨v, n, f, rfl, ⟨A, cap, rfl, h1, h2, h0, h3⟩, hP⟩ := els_of_trod (sz := 1) ht hc (by decide) (Pe := fun cs' : List Value => ∃ z : Int, cs' = [Value.int .i64 z] ∧ -9223372036854775808 ≤ z ∧ z ≤ 9223372036854775807) (fun n cs' d hd => by
    obtain ⟨z, h1, h2, h3⟩ := int_of_trod he hd
    exact ⟨z, h1, h2, h3⟩) h
  obtain ⟨g, hg⟩ := Deep.choose_lt (n := n) (p := fun i z => f i = [.int .i64 z] ∧ -9223372036854775808 ≤ z ∧ z ≤ 9223372036854775807) hP
  refine ⟨_, (List.range n).map g, rfl, ?_, A, cap, by simp, by simpa using h1, h2, h0, ?_⟩
  · intro z hz
    obtain ⟨i, hi, rfl⟩ := List.mem_map.1 hz
    exact (hg i (List.mem_range.1 hi)).2
  · by_cases hn : n = 0
    · left; subst hn; rfl
    · right
      obtain ⟨b, o, rfl, _, h4⟩ := h3 hn
      refine ⟨b, o, rfl, fun j hj => ?_⟩
      have hj' : j < n := by simpa using hj
      have h5 := (h4 j hj').2 0 (by decide)
      rw [(hg j hj').1] at h5
      simpa using h5
end Go.Proofs.YtdgpchacfdlleaaDoor
end

section
/-
  A call of a box, as an argument; a row of them.
-/
namespace Go.Proofs.YtdgpchacfdlleaaDoor
open Go.ChangeShapes Go.WideShapes Go.ChangeAt Go.RowKit

structure ActBS where
  kd : Int
  id : Kid
  n : Int
  va : Value
  ad : List Int
  vt : Value
  text : List Int
  at_ : Int
  by_ : Int
def ActBS.cells (a : ActBS) : List Value := [.int .u8 a.kd, .int .i64 a.id.a, .int .i64 a.id.b, .int .i64 a.id.c, .int .i64 a.id.d, .int .i64 a.id.e, .int .i64 a.id.f, .int .i64 a.n, a.va, a.vt, .int .u8 a.at_, .int .u8 a.by_]
structure ActB (w : World) (a : ActBS) : Prop where
  kd : 0 ≤ a.kd ∧ a.kd ≤ 255
  id : a.id.In
  n : -9223372036854775808 ≤ a.n ∧ a.n ≤ 9223372036854775807
  ra : Rd w a.va (bs a.ad)
  isA : IsB a.ad
  rt : Rd w a.vt (bs a.text)
  isT : IsB a.text
  at_ : 0 ≤ a.at_ ∧ a.at_ ≤ 255
  by_ : 0 ≤ a.by_ ∧ a.by_ ≤ 255
theorem ActB.stay {w w' : World} {a : ActBS} {B : Nat} (h : ActB w a) (hb : Below B w w') (hB : w.heap.size ≤ B) : ActB w' a := ⟨h.kd, h.id, h.n, h.ra.stay hb hB, h.isA, h.rt.stay hb hB, h.isT, h.at_, h.by_⟩
theorem pieceB {cs : List Value} (n k : Nat) {l : List Value} (h : (cs.drop n).take k = l) : cs.drop n = l ++ cs.drop (n + k) := by
  rw [← h, ← List.drop_drop, List.take_append_drop]
theorem cells_intB : Tryd.prog.cellsOf 3 = 1 := by kernel_rfl
theorem cells_bytesB : Tryd.prog.cellsOf 24 = 1 := by kernel_rfl
theorem cells_kidB : Tryd.prog.cellsOf 23 = 6 := by kernel_rfl
theorem cells_actB : Tryd.prog.cellsOf 26 = 12 := by kernel_rfl
theorem kid_of_trod {H : Type} {enc : TypeId × Value → H} {w : World} {base : Nat} {sp : Nat → Bool} {held : Bool} {fuel : Nat} {cs : List Value} {x : DataW H × List MemPlace}
    (h : DataW.trod enc Tryd.prog w base sp held fuel 23 cs = some x) : ∃ k : Kid, k.In ∧ cs = k.cells := by
  obtain ⟨xs, n, _, _, hl, hxl, hf⟩ := DataW.trod_struct Tryd.underlying23 h
  have h0 := hf 0 _ rfl
  have h1 := hf 1 _ rfl
  have h2 := hf 2 _ rfl
  have h3 := hf 3 _ rfl
  have h4 := hf 4 _ rfl
  have h5 := hf 5 _ rfl
  rw [cells_kidB] at hl
  match xs, hxl with
  | [x0, x1, x2, x3, x4, x5], _ =>
    obtain ⟨a0, e0, l0, u0⟩ := int_of_trod Tryd.underlying3 h0
    obtain ⟨a1, e1, l1, u1⟩ := int_of_trod Tryd.underlying3 h1
    obtain ⟨a2, e2, l2, u2⟩ := int_of_trod Tryd.underlying3 h2
    obtain ⟨a3, e3, l3, u3⟩ := int_of_trod Tryd.underlying3 h3
    obtain ⟨a4, e4, l4, u4⟩ := int_of_trod Tryd.underlying3 h4
    obtain ⟨a5, e5, l5, u5⟩ := int_of_trod Tryd.underlying3 h5
    refine ⟨⟨a0, a1, a2, a3, a4, a5⟩, ?_, ?_⟩
    · intro z hz
      simp only [Kid.nums, List.mem_cons, List.not_mem_nil, or_false] at hz
      have m1 : IntKind.i64.min = -9223372036854775808 := rfl
      have m2 : IntKind.i64.max = 9223372036854775807 := rfl
      rcases hz with rfl | rfl | rfl | rfl | rfl | rfl <;> omega
    · have e0' : (cs.drop 0).take (Tryd.prog.cellsOf 3) = [.int .i64 a0] := e0
      have e1' : (cs.drop 1).take (Tryd.prog.cellsOf 3) = [.int .i64 a1] := e1
      have e2' : (cs.drop 2).take (Tryd.prog.cellsOf 3) = [.int .i64 a2] := e2
      have e3' : (cs.drop 3).take (Tryd.prog.cellsOf 3) = [.int .i64 a3] := e3
      have e4' : (cs.drop 4).take (Tryd.prog.cellsOf 3) = [.int .i64 a4] := e4
      have e5' : (cs.drop 5).take (Tryd.prog.cellsOf 3) = [.int .i64 a5] := e5
      rw [cells_intB] at e0' e1' e2' e3' e4' e5'
      rw [show cs = cs.drop 0 by simp, pieceB 0 1 e0', pieceB 1 1 e1', pieceB 2 1 e2', pieceB 3 1 e3', pieceB 4 1 e4', pieceB 5 1 e5', List.drop_of_length_le (by omega)]
      rfl
theorem actb_of_trod {H : Type} {enc : TypeId × Value → H} {w : World} {base : Nat} {sp : Nat → Bool} {held : Bool} {fuel : Nat} {cs : List Value} {x : DataW H × List MemPlace}
    (h : DataW.trod enc Tryd.prog w base sp held fuel 26 cs = some x) : ∃ a : ActBS, ActB w a ∧ cs = a.cells := by
  obtain ⟨xs, n, _, _, hl, hxl, hf⟩ := DataW.trod_struct Tryd.underlying26 h
  have h0 := hf 0 _ rfl
  have h1 := hf 1 _ rfl
  have h2 := hf 2 _ rfl
  have h3 := hf 3 _ rfl
  have h4 := hf 4 _ rfl
  have h5 := hf 5 _ rfl
  have h6 := hf 6 _ rfl
  rw [cells_actB] at hl
  match xs, hxl with
  | [x0, x1, x2, x3, x4, x5, x6], _ =>
    obtain ⟨a0, e0, l0, u0⟩ := int_of_trod Tryd.underlying5 h0
    obtain ⟨k, hk, e1⟩ := kid_of_trod h1
    obtain ⟨a2, e2, l2, u2⟩ := int_of_trod Tryd.underlying3 h2
    obtain ⟨va, ad, e3, ha, hra⟩ := bytes_of_trod h3
    obtain ⟨vt, te, e4, ht, hrt⟩ := bytes_of_trod h4
    obtain ⟨a5, e5, l5, u5⟩ := int_of_trod Tryd.underlying5 h5
    obtain ⟨a6, e6, l6, u6⟩ := int_of_trod Tryd.underlying5 h6
    refine ⟨⟨a0, k, a2, va, ad, vt, te, a5, a6⟩, ⟨⟨l0, u0⟩, hk, ⟨l2, u2⟩, hra, ha, hrt, ht, ⟨l5, u5⟩, ⟨l6, u6⟩⟩, ?_⟩
    have e0' : (cs.drop 0).take (Tryd.prog.cellsOf 5) = [.int .u8 a0] := e0
    rw [cells_u8] at e0'
    have e1' : (cs.drop 1).take (Tryd.prog.cellsOf 23) = k.cells := e1
    rw [cells_kidB] at e1'
    have e2' : (cs.drop 7).take (Tryd.prog.cellsOf 3) = [.int .i64 a2] := e2
    rw [cells_intB] at e2'
    have e3' : (cs.drop 8).take (Tryd.prog.cellsOf 24) = [va] := e3
    rw [cells_bytesB] at e3'
    have e4' : (cs.drop 9).take (Tryd.prog.cellsOf 24) = [vt] := e4
    rw [cells_bytesB] at e4'
    have e5' : (cs.drop 10).take (Tryd.prog.cellsOf 5) = [.int .u8 a5] := e5
    rw [cells_u8] at e5'
    have e6' : (cs.drop 11).take (Tryd.prog.cellsOf 5) = [.int .u8 a6] := e6
    rw [cells_u8] at e6'
    rw [show cs = cs.drop 0 by simp, pieceB 0 1 e0', pieceB 1 6 e1', pieceB 7 1 e2', pieceB 8 1 e3', pieceB 9 1 e4', pieceB 10 1 e5', pieceB 11 1 e6', List.drop_of_length_le (by omega)]
    rfl
theorem actsb_of_trod {H : Type} {enc : TypeId × Value → H} {w : World} {base : Nat} {sp : Nat → Bool} {held : Bool} {fuel : Nat} {cs : List Value} {x : DataW H × List MemPlace} {t : TypeId} (ht : Tryd.prog.underlying t = some (.slice 26))
    (h : DataW.trod enc Tryd.prog w base sp held fuel t cs = some x) : ∃ v n f, cs = [v] ∧ Els w v n 12 f ∧ ∀ i, i < n → ∃ a : ActBS, ActB w a ∧ f i = a.cells :=
  els_of_trod (sz := 12) ht cells_actB (by decide) (fun _ _ _ hd => actb_of_trod hd) h
end Go.Proofs.YtdgpchacfdlleaaDoor
end

section
/-
  The laws of box: are acts few and small; bytes that were told, turned.
-/
namespace Go.Proofs.YtdgpchacfdlleaaDoor
open Go.RowKit

/-- Acts in a slice. -/
structure ActsAt (w : World) (v : Value) (l : List ActBS) : Prop where
  els : Els w v l.length 12 (fun i => ((l[i]?).map ActBS.cells).getD [])
  each : ∀ a ∈ l, ActB w a
theorem ActsAt.stay {w w' : World} {v : Value} {l : List ActBS} {B : Nat} (h : ActsAt w v l) (hb : Below B w w') (hB : w.heap.size ≤ B) : ActsAt w' v l := ⟨h.els.stay hb hB, fun a ha => (h.each a ha).stay hb hB⟩
/-- What the walk reads of it. -/
theorem ActsAt.facts {w : World} {v : Value} {l : List ActBS} (h : ActsAt w v l) : ∃ A cap, v = .slice A l.length cap ∧ l.length ≤ cap ∧ cap ≤ 9223372036854775807 ∧ (l ≠ [] → ∃ b o, A = some ⟨b, o, none⟩ ∧ b < w.heap.size ∧ ∀ i a, l[i]? = some a → ∀ j, j < 12 → w.cell? ⟨b, o + i * 12 + j, none⟩ = a.cells[j]?) := by
  obtain ⟨A, cap, rfl, h1, h2, h0, h3⟩ := h.els
  refine ⟨A, cap, rfl, h1, h2, fun hne => ?_⟩
  obtain ⟨b, o, hA, hb, h4⟩ := h3 (fun h => hne (List.eq_nil_of_length_eq_zero h))
  refine ⟨b, o, hA, hb, fun i a hi j hj => ?_⟩
  have := (h4 i (List.getElem?_eq_some_iff.1 hi).1).2 j hj
  rw [this]
  simp only [hi]
  rfl
instance : Inhabited ActBS := ⟨⟨0, ⟨0, 0, 0, 0, 0, 0⟩, 0, .slice none 0 0, [], .slice none 0 0, [], 0, 0⟩⟩
theorem actsAt_of {w : World} {v : Value} {n : Nat} {f : Nat → List Value} (he : Els w v n 12 f) (hf : ∀ i, i < n → ∃ a : ActBS, ActB w a ∧ f i = a.cells) : ∃ l, ActsAt w v l := by
  obtain ⟨g, hg⟩ := Deep.choose_lt (n := n) (p := fun i a => ActB w a ∧ f i = ActBS.cells a) hf
  refine ⟨(List.range n).map g, ?_, fun a ha => ?_⟩
  · obtain ⟨A, cap, hv, h1, h2, h0, h3⟩ := he
    rw [List.length_map, List.length_range]
    refine ⟨A, cap, hv, h1, h2, h0, fun hn => ?_⟩
    obtain ⟨b, o, hA, hb, h4⟩ := h3 hn
    refine ⟨b, o, hA, hb, fun i hi => ?_⟩
    have e : ((((List.range n).map g)[i]?).map ActBS.cells).getD [] = f i := by
      rw [List.getElem?_map, List.getElem?_range hi, (hg i hi).2]; rfl
    simp only [e]
    exact h4 i hi
  · obtain ⟨i, hi, rfl⟩ := List.mem_map.1 ha
    exact (hg i (List.mem_range.1 hi)).1
/-- One act in a block of its own. -/
theorem actsAt_one {w : World} {a : ActBS} {g : Nat} {t : TypeId} (h : Blk w g a.cells t) (ha : ActB w a) : ActsAt w (.slice (some ⟨g, 0, none⟩) 1 1) [a] := by
  refine ⟨⟨_, _, rfl, Nat.le_refl _, by decide, (fun h => by cases h), fun _ => ⟨g, 0, rfl, h.lt, fun i hi => ?_⟩⟩, fun x hx => by rw [List.mem_singleton.1 hx]; exact ha⟩
  obtain rfl : i = 0 := by simp at hi; omega
  refine ⟨rfl, fun j hj => ?_⟩
  simp only [Nat.zero_mul, Nat.zero_add, h.get]
  rfl
def small (a : ActBS) : Bool := decide (a.ad.length ≤ 300) && decide (a.text.length ≤ 300)
def fewL (l : List ActBS) (n : Nat) : Bool := decide (l.length ≤ n) && l.all small
set_option maxRecDepth 100000 in
set_option maxHeartbeats 1000000 in
theorem few08_any (w : World) (v : Value) (l : List ActBS) (h : ActsAt w v l) (n : Nat) (hn : n ≤ 1000) :
    Calls Tryd.prog 15 #[v, .int .i64 n] w fun e w' => e = .returned (.bool (fewL l n)) ∧ w = w' := by
  obtain ⟨A, c, rfl, hc, hcm, hcell⟩ := h.facts
  have HE := Lib.hid h.each
  have HC := Lib.hid hcell
  obtain ⟨m, hm⟩ : ∃ m, l.length = m := ⟨_, rfl⟩
  rw [hm] at hc ⊢
  obtain ⟨res, hres⟩ : ∃ r, fewL l n = r := ⟨_, rfl⟩
  rw [hres]
  have HM := Lib.hid (fun _ : Unit => hm)
  have HR := Lib.hid (fun _ : Unit => hres)
  clear h hcell hm hres
  go_enter Tryd.func15, Tryd.ntmps15
  by_cases h1 : n < m
  · have h2 : (n : Int) < m := by omega
    go_wp2_with fail
    all_goals go_ret
    exact ⟨by rw [← HR.out (), fewL, HM.out (), decide_eq_false (by omega)]; rfl, rfl⟩
  have h2 : ¬ (n : Int) < m := by omega
  go_wp2_with fail
  go_loopw [5] (fun x wr => ∃ k : Nat, k ≤ m ∧ x = .int .i64 k ∧ wr = w ∧ (l.take k).all small = true) (fun x _ => m - (intOf x).toNat)
  case atStart => exact ⟨0, by omega, rfl, rfl, by simp⟩
  case round =>
    obtain ⟨k, hk, rfl, rfl, hall⟩ := hrel
    have HALL := Lib.hid hall
    clear hall
    by_cases hlt : k < m
    · obtain ⟨a, ha⟩ : ∃ a, l[k]? = some a := ⟨l[k]'(by rw [HM.out ()]; exact hlt), List.getElem?_eq_getElem _⟩
      obtain ⟨b, o, rfl, hb, hcs⟩ := HC.out (by rintro rfl; simp at ha)
      have hA := HE.out a (List.mem_of_getElem? ha)
      obtain ⟨Aa, ca, hva, hca, _⟩ := id hA.ra
      obtain ⟨At, ct, hvt, hct, _⟩ := id hA.rt
      have c8 := hcs k a ha 8 (by decide)
      have c9 := hcs k a ha 9 (by decide)
      have e8 : a.cells[8]? = some a.va := rfl
      have e9 : a.cells[9]? = some a.vt := rfl
      rw [e8, hva, bs_len] at c8
      rw [e9, hvt, bs_len] at c9
      have ml := hA.ra.len
      have mt := hA.rt.len
      rw [bs_len] at ml mt
      have hst : (l.take (k + 1)).all small = small a := by
        have := HALL.out
        rw [List.take_add_one, List.all_append, this, ha]
        simp
      have hfull : l.all small = true → small a = true := fun h => List.all_eq_true.1 h a (List.mem_of_getElem? ha)
      have HF := Lib.hid hfull
      have HST := Lib.hid hst
      have hsm : small a = (decide (a.ad.length ≤ 300) && decide (a.text.length ≤ 300)) := rfl
      obtain ⟨la, hla⟩ : ∃ x, a.ad.length = x := ⟨_, rfl⟩
      obtain ⟨lt, hlt2⟩ : ∃ x, a.text.length = x := ⟨_, rfl⟩
      rw [hla] at c8 ml hsm
      rw [hlt2] at c9 mt hsm
      have HSM := Lib.hid hsm
      have no : small a = false → res = false := fun h => by
        rw [← HR.out (), fewL]
        cases hh : l.all small with
        | false => simp
        | true => rw [HF.out hh] at h; cases h
      have NO := Lib.hid no
      clear hcs hA hva hvt hst hfull hsm ha hla hlt2 no e8 e9 hca hct
      by_cases g1 : (300 : Int) < la
      · have hs : small a = false := by rw [HSM.out, decide_eq_false (by omega)]; rfl
        have hr := NO.out hs
        have HR2 := Lib.hid hr
        clear hs hr
        go_wp2_with fail
        all_goals go_ret
        exact ⟨by rw [HR2.out]; rfl, rfl⟩
      by_cases g2 : (300 : Int) < lt
      · have hs : small a = false := by rw [HSM.out, decide_eq_false (show ¬ lt ≤ 300 by omega)]; simp
        have hr := NO.out hs
        have HR2 := Lib.hid hr
        clear hs hr
        go_wp2_with fail
        all_goals go_ret
        exact ⟨by rw [HR2.out]; rfl, rfl⟩
      have hs : (l.take (k + 1)).all small = true := by rw [HST.out, HSM.out, decide_eq_true (by omega), decide_eq_true (by omega)]; rfl
      have HS := Lib.hid hs
      clear hs
      go_wp2_with fail
      exact ⟨⟨k + 1, by omega, by simp, trivial, HS.out⟩, by simp [intOf]; omega⟩
    · obtain rfl : k = m := by omega
      have hr : res = true := by
        have := HALL.out
        rw [List.take_of_length_le (by rw [HM.out ()]; exact Nat.le_refl _)] at this
        rw [← HR.out (), fewL, this, HM.out (), decide_eq_true (by omega)]; rfl
      have HR2 := Lib.hid hr
      clear hr
      go_wp2_with fail
      all_goals go_ret
      exact ⟨by rw [HR2.out]; rfl, rfl⟩
end Go.Proofs.YtdgpchacfdlleaaDoor
end

section
/-
  The laws of box: bytes that were told, turned.
-/
namespace Go.Proofs.YtdgpchacfdlleaaDoor
open Go.RowKit

/-- What was told: a row of slices, each a text of its own. -/
structure ToldAt (w : World) (Z : Nat) (ok : Nat → Prop) (tv : Value) (vals : List Value) (told : List (List Int)) : Prop where
  row : w.ownsRow Z 24 1 tv vals.length vals
  len : vals.length = told.length
  each : ∀ (j : Nat) (u : Value) (x : List Int), vals[j]? = some u → told[j]? = some x → EntOk w ok u x
def turnLast (b : List Int) (y : Int) : List Int := b.set (b.length - 1) (bits .xor .u8 (b.getD (b.length - 1) 0) y)
def pickL (told : List (List Int)) (a : ActBS) : List Int := if told = [] then a.text else turnLast (told.getD (a.at_.toNat % told.length) []) a.by_
theorem xor_byte (x y : Int) (hx : 0 ≤ x ∧ x ≤ 255) (hy : 0 ≤ y ∧ y ≤ 255) : 0 ≤ bits .xor .u8 x y ∧ bits .xor .u8 x y ≤ 255 := by
  obtain ⟨X, rfl⟩ := Int.eq_ofNat_of_zero_le hx.1
  obtain ⟨Y, rfl⟩ := Int.eq_ofNat_of_zero_le hy.1
  rw [show bits .xor .u8 (X : Int) (Y : Int) = ((X ^^^ Y : Nat) : Int) from u8_xor_nat X Y (by omega) (by omega)]
  have := Nat.xor_lt_two_pow (n := 8) (show X < 2 ^ 8 by omega) (show Y < 2 ^ 8 by omega)
  omega
theorem turnLast_isB {b : List Int} (h : IsB b) {y : Int} (hy : 0 ≤ y ∧ y ≤ 255) : IsB (turnLast b y) := by
  intro z hz
  unfold turnLast at hz
  rcases List.mem_or_eq_of_mem_set hz with h1 | h1
  · exact h z h1
  · rw [h1]; exact xor_byte _ _ (h.at_ _) hy
theorem set_rd {w : World} {g q c : Nat} {x : List Int} {e : TypeId} {base : Nat} (h : w.ownsRow base e 1 (.slice (some ⟨g, 0, none⟩) (q + 1) c) (q + 1) (bs x)) (z : Int) : Rd (w.setCell ⟨g, q, none⟩ (.int .u8 z)) (.slice (some ⟨g, 0, none⟩) (q + 1) c) (bs (x.set q z)) := by
  have hl : x.length = q + 1 := by have := h.1; rw [bs_len] at this; omega
  rcases h.2 with ⟨h1, _⟩ | ⟨g', cap, cur, h1, h2, h3, h4, h5, h6, h7⟩
  · cases h1
  · cases h1
    refine ⟨some ⟨g, 0, none⟩, c, by rw [bs_len, List.length_set, hl], by rw [bs_len, List.length_set, hl]; exact h4, h5, (fun h => by cases h), .inr ⟨g, 0, rfl, fun j hj => ?_⟩⟩
    rw [bs_len, List.length_set, hl] at hj
    rw [Nat.zero_add]
    have hb : Blk w g cur.toList e := by unfold Blk; simpa using h3
    have hb2 := hb.set q (.int .u8 z)
    rw [hb2.get]
    have hc : ∀ i, i < q + 1 → cur.toList[i]? = (bs x)[i]? := fun i hi => by
      have := congrArg (fun l => l[i]?) h7
      rw [List.getElem?_take_of_lt (by omega)] at this
      exact this
    have hcl : q < cur.toList.length := by rw [Array.length_toList]; omega
    by_cases hjq : j = q
    · subst hjq
      rw [List.getElem?_set_self hcl]
      simp [bs]
    · rw [List.getElem?_set_ne (Ne.symm hjq), hc j hj]
      simp [bs, List.getElem_set_ne (Ne.symm hjq), List.getElem?_eq_getElem (show j < x.length by omega)]
set_option maxRecDepth 100000 in
set_option maxHeartbeats 1000000 in
theorem pick08_any (w : World) (Z : Nat) (ok : Nat → Prop) (tv : Value) (vals : List Value) (told : List (List Int)) (a : ActBS) (h : ToldAt w Z ok tv vals told) (ha : ActB w a) (hn : told.length ≤ 1000) (hs : ∀ x ∈ told, x.length ≤ 1000000) :
    Calls Tryd.prog 21 #[tv, .agg a.cells.toArray] w fun e w' => ∃ v, e = .returned v ∧ Rd w' v (bs (pickL told a)) ∧ IsB (pickL told a) ∧ Below w.heap.size w w' := by
  obtain ⟨Z0, hZ0⟩ : ∃ z, w.heap.size = z := ⟨_, rfl⟩
  have hAt := ha.at_
  have hBy := ha.by_
  have HRT := Lib.hid ha.rt; have HIT := Lib.hid ha.isT
  obtain ⟨A, c, rfl⟩ := row_slice h.row
  have hlen := h.len
  obtain ⟨m, hm⟩ : ∃ m, vals.length = m := ⟨_, rfl⟩
  have HT := Lib.hid h
  have HM := Lib.hid (fun _ : Unit => hm)
  rw [hm] at hlen ⊢
  obtain ⟨Aa, ca, hva, _⟩ := id ha.ra
  obtain ⟨At, ct, hvt, _⟩ := id ha.rt
  obtain ⟨kd, ⟨ia, ib, ic, id_, ie, if_⟩, n, va, ad, vt, text, at_, by_⟩ := a
  simp only at hva hvt hAt hBy HRT HIT
  subst hva hvt
  simp only [bs_len] at HRT ⊢
  simp only [ActBS.cells]
  obtain ⟨lt, hlt⟩ : ∃ l, text.length = l := ⟨_, rfl⟩
  obtain ⟨la, hla⟩ : ∃ l, ad.length = l := ⟨_, rfl⟩
  rw [hlt] at HRT ⊢
  rw [hla]
  have HP := Lib.hid (show ∀ hid, pickL told ⟨kd, ⟨ia, ib, ic, id_, ie, if_⟩, n, .slice Aa la ca, ad, .slice At lt ct, text, at_, by_⟩ = hid → pickL told ⟨kd, ⟨ia, ib, ic, id_, ie, if_⟩, n, .slice Aa ad.length ca, ad, .slice At text.length ct, text, at_, by_⟩ = hid from fun hid h => h)
  clear h ha hm hlt hla
  go_enter Tryd.func21, Tryd.ntmps21
  go_upto_region 1 with fail
  obtain ⟨W, hW⟩ : ∃ W, w.alloc (.cells #[.int .u8 kd, .int .i64 ia, .int .i64 ib, .int .i64 ic, .int .i64 id_, .int .i64 ie, .int .i64 if_, .int .i64 n, .slice Aa la ca, .slice At lt ct, .int .u8 at_, .int .u8 by_] 26) = W := ⟨_, rfl⟩
  change Code.wp _ _ _ _ (w.alloc (.cells #[.int .u8 kd, .int .i64 ia, .int .i64 ib, .int .i64 ic, .int .i64 id_, .int .i64 ie, .int .i64 if_, .int .i64 n, .slice Aa la ca, .slice At lt ct, .int .u8 at_, .int .u8 by_] 26))
  have b0 : Blk W Z0 [.int .u8 kd, .int .i64 ia, .int .i64 ib, .int .i64 ic, .int .i64 id_, .int .i64 ie, .int .i64 if_, .int .i64 n, .slice Aa la ca, .slice At lt ct, .int .u8 at_, .int .u8 by_] 26 := by rw [← hW]; exact Blk.mk_ _ hZ0.symm rfl
  have bb : Below Z0 w W := by rw [← hW]; exact bw_al (Below.refl _ _) (by omega) _
  have hz : W.heap.size = Z0 + 1 := by rw [← hW]; simp [hZ0]
  rw [hW]
  clear hW
  have y9 := b0.at_ 9 rfl
  have y10 := b0.at_ 10 rfl
  have HB := Lib.hid bb; have HB0 := Lib.hid b0
  clear bb b0
  by_cases h0 : m = 0
  · have ht : told = [] := List.eq_nil_of_length_eq_zero (by omega)
    have HTN := Lib.hid ht
    subst h0
    clear ht hlen hn hs
    go_wp2_with fail
    all_goals go_ret
    have e : ∀ a : ActBS, pickL told a = a.text := fun a => by rw [pickL, if_pos HTN.out]
    exact ⟨_, rfl, by rw [e]; exact HRT.out.stay HB.out (by omega), by rw [e]; exact HIT.out, by first | exact HB.out | (rw [hZ0]; exact HB.out)⟩
  · obtain ⟨q, rfl⟩ := Int.eq_ofNat_of_zero_le hAt.1
    obtain ⟨k, hk⟩ : ∃ k, q % m = k := ⟨_, rfl⟩
    have hkm : k < m := by rw [← hk]; exact Nat.mod_lt _ (by omega)
    obtain ⟨u, hu⟩ : ∃ u, vals[k]? = some u := ⟨vals[k]'(by rw [HM.out ()]; exact hkm), List.getElem?_eq_getElem _⟩
    obtain ⟨x, hx⟩ : ∃ x, told[k]? = some x := ⟨told[k]'(by omega), List.getElem?_eq_getElem _⟩
    have hent := HT.out.each k u x hu hx
    have hxl := hs x (List.mem_of_getElem? hx)
    obtain ⟨gT, cap, hA, hcell, hmc, hcm⟩ := row_cell HT.out.row hu
    cases hA
    rw [HM.out ()] at hmc
    have hcw : W.cell? ⟨gT, k, none⟩ = some u := (HB.out.cell (p := ⟨gT, k, none⟩) (by rw [← hZ0]; exact World.block_lt_of_cell? w _ hcell)).trans hcell
    have hpk : pickL told ⟨kd, ⟨ia, ib, ic, id_, ie, if_⟩, n, .slice Aa ad.length ca, ad, .slice At text.length ct, text, (q : Int), by_⟩ = turnLast x by_ := by
      rw [pickL, if_neg (by intro h; rw [h] at hlen; simp at hlen; omega)]
      simp only [Int.toNat_natCast]
      rw [← hlen, hk, List.getD_eq_getElem?_getD, hx]
      rfl
    obtain ⟨Au, cu, hvu, hcu, _⟩ := id hent.rd
    rw [bs_len] at hvu hcu
    subst hvu
    obtain ⟨xl, hxl2⟩ : ∃ l, x.length = l := ⟨_, rfl⟩
    rw [hxl2] at hcw hxl hcu
    have hrx := hent.rd.stay HB.out (by omega)
    rw [hxl2] at hrx
    have CL := Lib.hid (clone_any _ x W hrx (by omega))
    have HX := Lib.hid (fun _ : Unit => hxl2)
    have HPK := Lib.hid hpk; have HIX := Lib.hid hent.isB
    have hkI : ((q : Int) % (m : Int)) = (k : Int) := by rw [← hk]; exact (Int.natCast_emod q m).symm ▸ rfl
    have hkT : Int.tmod (q : Int) (m : Int) = (k : Int) := by rw [← hk]; exact rfl
    clear hent hu hx hpk hrx hxl2 hcell HP
    have HLN := Lib.hid (fun _ : Unit => hlen)
    clear hlen
    go_upto_region 4 with (go_at_call 52; refine CL.out.mono ?_; rintro e w2 ⟨v2, rfl, hb2, ho2⟩; rw [HX.out ()] at ho2; obtain ⟨A2, c2, rfl⟩ := row_slice ho2)
    have hz2 := hb2.size
    have HO2 := Lib.hid ho2
    have bb2 : Below Z0 w w2 := bw_then HB.out hb2 (by omega)
    have HB2 := Lib.hid bb2
    have z6 := ((HB0.out.stay hb2).at_ 11 rfl)
    clear bb2
    cases xl with
    | zero =>
      have hx0 : x = [] := List.eq_nil_of_length_eq_zero (HX.out ())
      have HX0 := Lib.hid hx0
      clear hx0 ho2 hb2
      go_wp2_with fail
      all_goals go_ret
      have e : turnLast x by_ = [] := by rw [HX0.out]; rfl
      have e2 := HPK.out
      rw [e] at e2
      have ho := HO2.out
      rw [HX0.out] at ho
      refine ⟨_, rfl, ?_, ?_, by first | exact HB2.out | (rw [hZ0]; exact HB2.out)⟩
      · refine (show Rd w2 _ (bs (pickL told ⟨kd, ⟨ia, ib, ic, id_, ie, if_⟩, n, .slice Aa ad.length ca, ad, .slice At text.length ct, text, (q : Int), by_⟩)) from ?_)
        rw [e2]
        exact Rd.of_own ho
      · refine (show IsB (pickL told ⟨kd, ⟨ia, ib, ic, id_, ie, if_⟩, n, .slice Aa ad.length ca, ad, .slice At text.length ct, text, (q : Int), by_⟩) from ?_)
        rw [e2]
        exact fun z hz => by cases hz
    | succ p =>
      have hg2 : ∃ g2, A2 = some ⟨g2, 0, none⟩ ∧ W.heap.size ≤ g2 ∧ w2.cell? ⟨g2, p, none⟩ = some (.int .u8 (x.getD p 0)) ∧ w2.frozen? ⟨g2, p, none⟩ = false ∧ p + 1 ≤ c2 := by
        have hxp : (bs x)[p]? = some (.int .u8 (x.getD p 0)) := by
          have hpl : p < x.length := by have := HX.out (); omega
          simp [bs, List.getD_eq_getElem?_getD, List.getElem?_eq_getElem hpl]
        obtain ⟨g2, cap2, e1, e2, e3, _⟩ := row_cell ho2 hxp
        cases e1
        obtain ⟨cur, e4⟩ := row_blk ho2 ⟨_, _, _, rfl⟩
        exact ⟨g2, rfl, (row_new ho2 ⟨_, _, _, rfl⟩).1, e2, by simp [World.frozen?, e4], e3⟩
      obtain ⟨g2, rfl, hg2, y2, f2, hpc⟩ := hg2
      have hpI : ((p + 1 : Nat) : Int) - 1 = (p : Int) := by omega
      have hwp : IntKind.i64.wrap (p : Int) = (p : Int) := by rw [IntKind.wrap_i64]; omega
      have hnp : ¬ ((p : Int) + 1 ≤ (p : Int)) := by omega
      have y2d : w2.drew.cell? ⟨g2, p, none⟩ = some (.int .u8 (x.getD p 0)) := y2
      have f2d : w2.drew.frozen? ⟨g2, p, none⟩ = false := f2
      have z6d : w2.drew.cell? ⟨Z0, 11, none⟩ = some (.int .u8 by_) := z6
      clear ho2 hb2
      go_upto_region 5 with fail
      refine region_plan ⟨[0, 0, 2, 6, 15, 31, 0, 64, 255, 511, 1023], [10], [0, 0, 0, 0, 0, 0, 0, 0, 0, 0, 0]⟩
        [⟨[0, 1, 2, 3, 4, 5, 6, 7, 8, 9], [2, 3, 4, 5, 6, 7, 8, 9], some 10⟩, ⟨[], [], none⟩] 35 (by kernel_rfl) (by kernel_rfl) (by kernel_rfl) (by kernel_rfl) rfl ?_
      simp only [SeqGo, opsAt_cons, opsAt_nil, List.getElem?_cons, Option.toList_some, List.singleton_append, ↓reduceIte, Nat.reduceEqDiff, Nat.reduceSub]
      go_wp2_with fail
      refine ⟨by (simp only [Sames, Same]; go_simp), ?_⟩
      go_wp2_with fail
      refine ⟨trivial, ?_⟩
      go_wp2_with fail
      all_goals (try go_ret)
      have e : turnLast x by_ = x.set p (bits .xor .u8 (x.getD p 0) by_) := by
        unfold turnLast
        rw [HX.out (), Nat.add_sub_cancel]
      have e2 := HPK.out
      have hi := turnLast_isB HIX.out hBy
      rw [e] at e2 hi
      refine ⟨_, rfl, ?_, ?_, ?_⟩
      · refine (show Rd _ _ (bs (pickL told ⟨kd, ⟨ia, ib, ic, id_, ie, if_⟩, n, .slice Aa ad.length ca, ad, .slice At text.length ct, text, (q : Int), by_⟩)) from ?_)
        rw [e2]
        exact set_rd HO2.out _
      · refine (show IsB (pickL told ⟨kd, ⟨ia, ib, ic, id_, ie, if_⟩, n, .slice Aa ad.length ca, ad, .slice At text.length ct, text, (q : Int), by_⟩) from ?_)
        rw [e2]
        exact hi
      · have := bw_set (bw_d1 HB2.out) g2 p (by omega) (.int .u8 (bits .xor .u8 (x.getD p 0) by_))
        first | exact this | (rw [hZ0]; exact this)
end Go.Proofs.YtdgpchacfdlleaaDoor
end

section
/-
  The laws of box: one more thing that was told.
-/
namespace Go.Proofs.YtdgpchacfdlleaaDoor
open Go.RowKit

def toS (a : ActBS) : SealE := ⟨a.id, a.n, a.ad, a.text⟩
def toM (a : ActBS) : MarkE := ⟨a.id, a.text⟩
/-- Where the law's first loop stands. -/
structure Telling (w0 wr : World) (D : Nat) (own : Nat → Prop) (g : Nat) (st : BoxI) (tv : Value) (vals : List Value) (told : List (List Int)) (k : Nat) : Prop where
  at_ : ToldAt wr D (fun b => ¬ own b ∧ D ≤ b) tv vals told
  len : told.length = k
  apart : ∀ b, hold tv b → ¬ own b
  box : BoxUp w0 wr own g [] true st
  small : st.seals.length ≤ k ∧ st.marks.length ≤ k ∧ st.uses.length ≤ k
  short : ∀ x ∈ told, x.length ≤ 400
  low : w0.heap.size ≤ D
/-- A call has told, and it was put behind the others. -/
theorem Telling.step {w0 wr w1 w2 w3 : World} {D : Nat} {own own1 : Nat → Prop} {g k : Nat} {st st1 : BoxI} {tv tv' v1 : Value} {vals : List Value} {told : List (List Int)} {out : List Int} (h : Telling w0 wr D own g st tv vals told k) (hr : D ≤ wr.heap.size)
    (r1 : Rd w1 v1 (bs out)) (q1 : ∀ b, hold v1 b → wr.heap.size ≤ b ∧ b < w1.heap.size ∧ ¬ own1 b) (u1 : BoxUp w0 w1 own1 g [] true st1) (e1 : ∀ b, b < wr.heap.size → (own1 b ↔ own b)) (t1 : Turns own wr w1) (iB : IsB out) (ty : ∀ b, hold v1 b → ∃ cur, w1.heap[b]? = some (.cells cur 5 (0, 0)))
    (k2 : Below w1.heap.size w1 w2) (row : w3.ownsRow D 24 1 tv' (vals.length + 1) (vals ++ [v1])) (t3 : Turns (hold tv) w2 w3) (hh : ∀ b, hold tv' b → hold tv b ∨ w2.heap.size ≤ b)
    (hs : st1.seals.length ≤ k + 1 ∧ st1.marks.length ≤ k + 1 ∧ st1.uses.length ≤ k + 1) (ho : out.length ≤ 400) : Telling w0 w3 D own1 g st1 tv' (vals ++ [v1]) (told ++ [out]) (k + 1) := by
  have z1 := t1.size
  have z2 := k2.size
  have z3 := t3.size
  have htv : ∀ b, hold tv b → D ≤ b ∧ b < wr.heap.size := fun b hb => row_new h.at_.row hb
  have n1 : ∀ b, hold tv b → ¬ own1 b := fun b hb ho => h.apart b hb ((e1 b (htv b hb).2).1 ho)
  have t13 : Turns (fun b => own b ∨ hold tv b) wr w3 := ((t1.mono fun _ h => .inl h).trans (Turns.of_below k2)).trans (t3.mono fun _ h => .inr h)
  refine ⟨⟨?_, by rw [List.length_append, List.length_append, h.at_.len]; rfl, fun j u x hj hx => ?_⟩, by rw [List.length_append, h.len]; rfl, fun b hb => ?_, ?_, hs, fun x hx => ?_, h.low⟩
  · rw [List.length_append]; exact row
  · rcases Nat.lt_or_ge j vals.length with hlt | hge
    · rw [List.getElem?_append_left hlt] at hj
      rw [List.getElem?_append_left (by rw [← h.at_.len]; exact hlt)] at hx
      have h0 := h.at_.each j u x hj hx
      refine h0.moves t13 (fun b hb hs => ?_) (fun b hb hm => ⟨fun ho => ?_, hm.2⟩)
      · rcases hs with hs | hs
        · exact (h0.mine b hb).1 hs
        · obtain ⟨cur, hc⟩ := row_blk h.at_.row hs
          have := h0.ne hb hc
          revert this; decide
      · obtain ⟨cur, hc⟩ := h0.typ b hb
        exact hm.1 ((e1 b (Array.getElem?_eq_some_iff.1 hc).1).1 ho)
    · have hj0 : j - vals.length = 0 := by
        rw [List.getElem?_append_right hge] at hj
        have := (List.getElem?_eq_some_iff.1 hj).1
        simp at this; omega
      rw [List.getElem?_append_right hge, hj0] at hj
      rw [List.getElem?_append_right (by rw [← h.at_.len]; exact hge), show j - told.length = 0 by rw [← h.at_.len]; exact hj0] at hx
      obtain rfl : v1 = u := by simpa using hj
      obtain rfl : out = x := by simpa using hx
      have h1 : EntOk w1 (fun b => ¬ own1 b ∧ D ≤ b) v1 out := ⟨r1, iB, fun b hb => ⟨(q1 b hb).2.2, by have := (q1 b hb).1; omega⟩, ty⟩
      have h2 : EntOk w2 (fun b => ¬ own1 b ∧ D ≤ b) v1 out := h1.moves (S := fun _ => False) (Turns.of_below k2) (fun _ _ h => h) fun _ _ h => h
      exact h2.moves t3 (fun b hb hs => by have := (q1 b hb).1; have := (htv b hs).2; omega) fun _ _ h => h
  · rcases hh b hb with h1 | h1
    · exact n1 b h1
    · intro ho
      have := u1.box.dom b ho
      omega
  · exact (u1.stay k2).turns t3 (fun b ho hs => n1 b hs ho) (fun b hs => by have := (htv b hs).1; have := h.low; omega)
  · rcases List.mem_append.1 hx with hx | hx
    · exact h.short x hx
    · rw [List.mem_singleton.1 hx]; exact ho
/-- What a part of a row of acts reads. -/
theorem ActsAt.load {w w' : World} {v : Value} {l : List ActBS} (_h : ActsAt w v l) {b o i : Nat} {a : ActBS} (hc : ∀ j, j < 12 → w.cell? ⟨b, o + i * 12 + j, none⟩ = a.cells[j]?) {B : Nat} (hb : Below B w w') (hlt : b < B) (ty : TypeId) (off : Nat) {ys : List Value} {d : TypeDesc} {n : Nat} (hy : (a.cells.drop off).take ys.length = ys) (hoff : off + ys.length ≤ 12)
    (hu : Tryd.prog.underlying ty = some d) (hd : (match d with | .struct _ | .array _ _ => true | _ => false) = true) (hi : (Tryd.prog.info? ty).map (·.size) = some n) (hn : ys.length = n) : (loadVar ty ⟨b, o + i * 12 + off, none⟩).run Tryd.prog w' = .ok (.agg ys.toArray) w' := by
  refine run_loadVar_sub w' ty (fun j v hj => ?_) hu (by cases d <;> simp_all) hi hn
  have hjl := (List.getElem?_eq_some_iff.1 hj).1
  have h1 := hc (off + j) (by omega)
  rw [← Nat.add_assoc] at h1
  rw [hb.cell (p := ⟨b, o + i * 12 + off + j, none⟩) hlt, h1, ← hj]
  conv => rhs; rw [← hy]
  rw [List.getElem?_take_of_lt hjl, List.getElem?_drop]
end Go.Proofs.YtdgpchacfdlleaaDoor
end

section
/-
  box: a box that no call made.
-/
namespace Go.Proofs.YtdgpchacfdlleaaDoor
open Go.RowKit

def zeroBox : List Value := [.slice none 0 0, .bool false, .bool false, .slice none 0 0, .slice none 0 0, .map none, .int .i64 0, .int .i64 0]
def DeadB (w : World) (v : Value) : Prop := v = .pointer none ∨ ∃ g, v = .pointer (some ⟨g, 0, none⟩) ∧ Blk w g zeroBox 59
theorem DeadB.stay {w w' : World} {v : Value} (h : DeadB w v) (hb : Below w.heap.size w w') : DeadB w' v := h.imp id fun ⟨g, h1, h2⟩ => ⟨g, h1, h2.stay hb⟩
set_option maxRecDepth 100000 in
theorem ask_dead (w : World) (v : Value) (h : DeadB w v) (u0 u1 u2 u3 u4 u5 : Value) (n : Int) :
    Calls Tryd.prog 53 #[v, .agg #[u0, u1, u2, u3, u4, u5], .int .i64 n] w fun e w' => e = .returned (.int .i64 2) ∧ Below w.heap.size w w' := by
  rcases h with rfl | ⟨g, rfl, hb⟩
  · go_enter Tryd.func53, Tryd.ntmps53
    go_wp2_with fail
    all_goals (try go_ret)
    exact ⟨rfl, bw_al (Below.refl _ _) (Nat.le_refl _) _⟩
  · have y2 : (w.alloc (.cells #[u0, u1, u2, u3, u4, u5] 23)).cell? ⟨g, 2, none⟩ = some (.bool false) := (hb.al _).at_ 2 rfl
    clear hb
    go_enter Tryd.func53, Tryd.ntmps53
    go_wp2_with fail
    all_goals (try go_ret)
    exact ⟨rfl, bw_al (Below.refl _ _) (Nat.le_refl _) _⟩
set_option maxRecDepth 100000 in
set_option maxHeartbeats 1000000 in
theorem seal_dead (w : World) (v : Value) (h : DeadB w v) (u0 u1 u2 u3 u4 u5 va vt : Value) (n : Int) :
    Calls Tryd.prog 18 #[v, .agg #[u0, u1, u2, u3, u4, u5], .int .i64 n, va, vt] w fun e w' => e = .returned (.tuple #[.slice none 0 0, .int .i64 2]) ∧ Below w.heap.size w w' := by
  have AS := Lib.hid (ask_dead (w.alloc (.cells #[u0, u1, u2, u3, u4, u5] 23)) v (h.stay (bw_al (Below.refl _ _) (Nat.le_refl _) _)) u0 u1 u2 u3 u4 u5 n)
  have b0 : Blk (w.alloc (.cells #[u0, u1, u2, u3, u4, u5] 23)) w.heap.size [u0, u1, u2, u3, u4, u5] 23 := Blk.mk_ _ rfl rfl
  have B0 := Lib.hid b0
  clear h b0
  go_enter Tryd.func18, Tryd.ntmps18
  go_wp2_with (first
    | (refine wp_load_blk rfl 23 (.tmp 6) rfl rfl B0.out Tryd.underlying23 rfl (n := 6) (by kernel_rfl) rfl ?_)
    | (go_at_call 53; refine AS.out.mono ?_; rintro e w1 ⟨rfl, hb1⟩))
  all_goals (try go_ret2)
  exact ⟨rfl, bw_then (bw_al (Below.refl _ _) (Nat.le_refl _) _) hb1 (by simp)⟩
set_option maxRecDepth 100000 in
set_option maxHeartbeats 1000000 in
theorem open_dead (w : World) (v : Value) (h : DeadB w v) (u0 u1 u2 u3 u4 u5 va vt : Value) (n : Int) :
    Calls Tryd.prog 19 #[v, .agg #[u0, u1, u2, u3, u4, u5], .int .i64 n, va, vt] w fun e w' => e = .returned (.tuple #[.slice none 0 0, .int .i64 2]) ∧ Below w.heap.size w w' := by
  have AS := Lib.hid (ask_dead (w.alloc (.cells #[u0, u1, u2, u3, u4, u5] 23)) v (h.stay (bw_al (Below.refl _ _) (Nat.le_refl _) _)) u0 u1 u2 u3 u4 u5 n)
  have b0 : Blk (w.alloc (.cells #[u0, u1, u2, u3, u4, u5] 23)) w.heap.size [u0, u1, u2, u3, u4, u5] 23 := Blk.mk_ _ rfl rfl
  have B0 := Lib.hid b0
  clear h b0
  go_enter Tryd.func19, Tryd.ntmps19
  go_wp2_with (first
    | (refine wp_load_blk rfl 23 (.tmp 6) rfl rfl B0.out Tryd.underlying23 rfl (n := 6) (by kernel_rfl) rfl ?_)
    | (go_at_call 53; refine AS.out.mono ?_; rintro e w1 ⟨rfl, hb1⟩))
  all_goals (try go_ret2)
  exact ⟨rfl, bw_then (bw_al (Below.refl _ _) (Nat.le_refl _) _) hb1 (by simp)⟩
set_option maxRecDepth 100000 in
set_option maxHeartbeats 1000000 in
theorem mark_dead (w : World) (v : Value) (h : DeadB w v) (u0 u1 u2 u3 u4 u5 vt : Value) :
    Calls Tryd.prog 22 #[v, .agg #[u0, u1, u2, u3, u4, u5], vt] w fun e w' => e = .returned (.tuple #[.slice none 0 0, .int .i64 2]) ∧ Below w.heap.size w w' := by
  have AS := Lib.hid (ask_dead (w.alloc (.cells #[u0, u1, u2, u3, u4, u5] 23)) v (h.stay (bw_al (Below.refl _ _) (Nat.le_refl _) _)) u0 u1 u2 u3 u4 u5 0)
  have b0 : Blk (w.alloc (.cells #[u0, u1, u2, u3, u4, u5] 23)) w.heap.size [u0, u1, u2, u3, u4, u5] 23 := Blk.mk_ _ rfl rfl
  have B0 := Lib.hid b0
  clear h b0
  go_enter Tryd.func22, Tryd.ntmps22
  go_wp2_with (first
    | (refine wp_load_blk rfl 23 (.tmp 4) rfl rfl B0.out Tryd.underlying23 rfl (n := 6) (by kernel_rfl) rfl ?_)
    | (go_at_call 53; refine AS.out.mono ?_; rintro e w1 ⟨rfl, hb1⟩))
  all_goals (try go_ret2)
  exact ⟨rfl, bw_then (bw_al (Below.refl _ _) (Nat.le_refl _) _) hb1 (by simp)⟩
set_option maxRecDepth 100000 in
set_option maxHeartbeats 1000000 in
theorem check_dead (w : World) (v : Value) (h : DeadB w v) (u0 u1 u2 u3 u4 u5 vt vm : Value) :
    Calls Tryd.prog 24 #[v, .agg #[u0, u1, u2, u3, u4, u5], vt, vm] w fun e w' => e = .returned (.bool false) ∧ Below w.heap.size w w' := by
  have AS := Lib.hid (ask_dead (w.alloc (.cells #[u0, u1, u2, u3, u4, u5] 23)) v (h.stay (bw_al (Below.refl _ _) (Nat.le_refl _) _)) u0 u1 u2 u3 u4 u5 0)
  have b0 : Blk (w.alloc (.cells #[u0, u1, u2, u3, u4, u5] 23)) w.heap.size [u0, u1, u2, u3, u4, u5] 23 := Blk.mk_ _ rfl rfl
  have B0 := Lib.hid b0
  clear h b0
  go_enter Tryd.func24, Tryd.ntmps24
  go_wp2_with (first
    | (refine wp_load_blk rfl 23 (.tmp 5) rfl rfl B0.out Tryd.underlying23 rfl (n := 6) (by kernel_rfl) rfl ?_)
    | (go_at_call 53; refine AS.out.mono ?_; rintro e w1 ⟨rfl, hb1⟩))
  all_goals (try go_ret)
  exact ⟨rfl, bw_then (bw_al (Below.refl _ _) (Nat.le_refl _) _) hb1 (by simp)⟩
theorem sealed_dead (w : World) (v : Value) (h : DeadB w v) : Calls Tryd.prog 29 #[v] w fun e w' => e = .returned (.int .i64 0) ∧ w = w' := by
  rcases h with rfl | ⟨g, rfl, hb⟩
  · go_enter Tryd.func29, Tryd.ntmps29
    go_wp2_with fail
    all_goals (try go_ret)
    exact ⟨rfl, rfl⟩
  · have y6 := hb.at_ 6 (v := .int .i64 0) rfl
    clear hb
    go_enter Tryd.func29, Tryd.ntmps29
    go_wp2_with fail
    all_goals (try go_ret)
    exact ⟨rfl, rfl⟩
theorem repeats_dead (w : World) (v : Value) (h : DeadB w v) : Calls Tryd.prog 30 #[v] w fun e w' => e = .returned (.int .i64 0) ∧ w = w' := by
  rcases h with rfl | ⟨g, rfl, hb⟩
  · go_enter Tryd.func30, Tryd.ntmps30
    go_wp2_with fail
    all_goals (try go_ret)
    exact ⟨rfl, rfl⟩
  · have y7 := hb.at_ 7 (v := .int .i64 0) rfl
    clear hb
    go_enter Tryd.func30, Tryd.ntmps30
    go_wp2_with fail
    all_goals (try go_ret)
    exact ⟨rfl, rfl⟩
end Go.Proofs.YtdgpchacfdlleaaDoor
end
