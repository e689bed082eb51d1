/-
  The statement AeadSame: whether any two texts have the same bytes. No condition but the table as it is laid.
-/
import Derived.Test.YtmjjnaaiakchhaaDoorAb6
import Derived.Test.YtmjjnaaiakchhaaDoorTie
namespace Go.Proofs.YtmjjnaaiakchhaaDoor.lawAeadSame
open Go.ChangeShapes Go.WideShapes Go.ChangeAt Go.RowKit

set_option maxRecDepth 100000 in
set_option maxHeartbeats 2000000 in
theorem walk (w : World) (u v : Value) (xs ys : List Int) (hu : Rd w u (bs xs)) (hv : Rd w v (bs ys)) (hx : IsB xs) (hy : IsB ys) (ht : Tab w) :
    Calls Tryd.prog 10 #[u, v] w fun e w' => e = .returned (.bool true) ∧ Below w.heap.size w w' := by
  have hlu : ∀ w', (Builtin.len_ #[30] 3 #[u]).run Tryd.prog w' = .ok (goInt xs.length) w' := by
    have := len_fact (P := Tryd.prog) hu (t := 30) (ty := 3) (by kernel_rfl)
    rwa [bs_len] at this
  have hlv : ∀ w', (Builtin.len_ #[30] 3 #[v]).run Tryd.prog w' = .ok (goInt ys.length) w' := by
    have := len_fact (P := Tryd.prog) hv (t := 30) (ty := 3) (by kernel_rfl)
    rwa [bs_len] at this
  have hmx := hu.len
  have hmy := hv.len
  rw [bs_len] at hmx hmy
  have HU := Lib.hid hu
  have HV := Lib.hid hv
  have HX := Lib.hid hx
  have HY := Lib.hid hy
  have AW := Lib.hid (fun w' (h : Below w.heap.size w w') => awake04_any w' (ht.stay h))
  clear hu hv hx hy ht
  have hb0 : Below w.heap.size w w := Below.refl _ _
  go_enter Tryd.func10, Tryd.ntmps10
  by_cases h1 : 5000 < xs.length
  · go_wp2_with (go_at_call 26; refine (AW.out _ hb0).mono ?_; rintro e w' ⟨rfl, hb'⟩)
    all_goals go_ret
    exact ⟨rfl, hb'⟩
  by_cases h2 : 5000 < ys.length
  · go_wp2_with (go_at_call 26; refine (AW.out _ hb0).mono ?_; rintro e w' ⟨rfl, hb'⟩)
    all_goals go_ret
    exact ⟨rfl, hb'⟩
  by_cases hxy : xs.length = ys.length
  · have hxi : ((xs.length : Int) == (ys.length : Int)) = true := by rw [hxy]; simp
    go_wp2_with fail
    go_loopw [5, 6] (fun b i wr => ∃ (k : Nat) (q : Bool), k ≤ xs.length ∧ i = .int .i64 k ∧ b = .bool q ∧ (q = true → xs.take k = ys.take k) ∧ (q = false → xs ≠ ys) ∧ Below w.heap.size w wr) (fun _ i _ => xs.length - (intOf i).toNat)
    case atStart => exact ⟨0, true, Nat.zero_le _, rfl, rfl, (fun _ => rfl), (fun h => by cases h), Below.refl _ _⟩
    case round =>
      obtain ⟨k, q, hk, rfl, rfl, hq1, hq2, hbl⟩ := hrel
      obtain ⟨wo, rfl⟩ : ∃ wo : World, wo = wr := ⟨_, rfl⟩
      cases q with
      | false =>
        have hne := hq2 rfl
        have HEQ := Lib.hid (fun _ : Unit => show eqB xs ys = false from by simpa [eqB] using hne)
        clear hq1 hq2 hne hxi
        have SM1 := Lib.hid (fun w' (h : Below w.heap.size w w') => same_any w' u v xs ys (HU.out.stay h (Nat.le_refl _)) (HV.out.stay h (Nat.le_refl _)) HX.out HY.out)
        have SM2 := Lib.hid (fun w' (h : Below w.heap.size w w') => same_any w' u u xs xs (HU.out.stay h (Nat.le_refl _)) (HU.out.stay h (Nat.le_refl _)) HX.out HX.out)
        rw [HEQ.out ()] at SM1
        rw [show eqB xs xs = true by simp [eqB]] at SM2
        have tok : True := trivial
        go_wp2_with (first
          | (go_at_call 29; have _t := tok; refine (SM1.out _ hbl).mono ?_; rintro e w5 ⟨rfl, hb5⟩; have hbl5 := bw_then hbl hb5 hbl.size; clear tok)
          | (go_at_call 29; refine (SM2.out _ hbl5).mono ?_; rintro e w6 ⟨rfl, hb6⟩; have hbl6 := bw_then hbl5 hb6 hbl5.size)
          | (go_at_call 26; refine (AW.out _ hbl6).mono ?_; rintro e w7 ⟨rfl, hb7⟩))
        all_goals go_ret
        all_goals exact ⟨rfl, bw_then hbl6 hb7 hbl6.size⟩
      | true =>
        have hq := hq1 rfl
        by_cases hlt : k < xs.length
        · obtain ⟨bu, ou, cu, rfl, hu1, hu2, hu3⟩ := (HU.out.stay hbl (Nat.le_refl _)).cellAt (by rw [bs_len]; omega)
          obtain ⟨bv, ov, cv, rfl, hv1, hv2, hv3⟩ := (HV.out.stay hbl (Nat.le_refl _)).cellAt (by rw [bs_len]; omega)
          obtain ⟨x, hx⟩ : ∃ x, xs.getD k 0 = x := ⟨_, rfl⟩
          obtain ⟨y, hy⟩ : ∃ y, ys.getD k 0 = y := ⟨_, rfl⟩
          have e1 : wo.cell? ⟨bu, ou + k, none⟩ = some (.int .u8 x) := by rw [← hx]; exact hu3 k _ (bs_get xs k (by omega))
          have e2 : wo.cell? ⟨bv, ov + k, none⟩ = some (.int .u8 y) := by rw [← hy]; exact hv3 k _ (bs_get ys k (by omega))
          have hst := take_eq_step xs ys k (by omega) (by omega)
          rw [hx, hy] at hst
          have hk3 : ¬ ((bs xs).length : Int) ≤ (k : Int) := by rw [bs_len]; omega
          have hk4 : ¬ ((bs ys).length : Int) ≤ (k : Int) := by rw [bs_len]; omega
          have hk5 : (k : Int) < ((bs xs).length : Int) := by rw [bs_len]; omega
          have hk6 : (k : Int) < ((bs ys).length : Int) := by rw [bs_len]; omega
          have HST := Lib.hid (fun _ : Unit => (⟨hst, hq⟩ : (xs.take (k + 1) = ys.take (k + 1) ↔ xs.take k = ys.take k ∧ x = y) ∧ xs.take k = ys.take k))
          have HNE := Lib.hid (fun _ : Unit => show x ≠ y → xs ≠ ys from fun h he => h (by rw [← hx, ← hy, he]))
          have HBL := Lib.hid hbl
          clear hst hq hq1 hq2 hx hy hu3 hv3 hbl hxi
          by_cases hxy2 : x = y
          · subst hxy2
            go_upto_region 7 with fail
            refine region_plan ⟨[0, 0, 3, 7, 0, 0, 48, 112, 255, 511], [], [0, 0, 0, 0, 0, 0, 0, 0, 0, 0]⟩
              [⟨[0, 1, 2, 3, 4, 5, 6, 7, 8, 9], [2, 3, 6, 7, 8], none⟩] 52 (by kernel_rfl) (by kernel_rfl) (by kernel_rfl) (by kernel_rfl) rfl ?_
            simp only [SeqGo, opsAt_cons, opsAt_nil, List.getElem?_cons, Option.toList_some, List.singleton_append, ↓reduceIte, Nat.reduceEqDiff, Nat.reduceSub]
            go_wp2_with fail
            refine ⟨by (simp only [Sames, Same]; go_simp), ?_⟩
            go_wp2_with fail
            refine ⟨⟨k + 1, true, by omega, by go_num, rfl, fun _ => (HST.out ()).1.2 ⟨(HST.out ()).2, trivial⟩, (fun h => by cases h), bw_d1 HBL.out⟩, by simp [intOf]; omega⟩
          · have hxb : (x == y) = false := by simpa using hxy2
            go_upto_region 7 with fail
            refine region_plan ⟨[0, 0, 3, 7, 0, 0, 48, 112, 255, 511], [], [0, 0, 0, 0, 0, 0, 0, 0, 0, 0]⟩
              [⟨[0, 1, 2, 3, 4, 5, 6, 7, 8, 9], [2, 3, 6, 7, 8], none⟩] 52 (by kernel_rfl) (by kernel_rfl) (by kernel_rfl) (by kernel_rfl) rfl ?_
            simp only [SeqGo, opsAt_cons, opsAt_nil, List.getElem?_cons, Option.toList_some, List.singleton_append, ↓reduceIte, Nat.reduceEqDiff, Nat.reduceSub]
            go_wp2_with fail
            refine ⟨by (simp only [Sames, Same]; go_simp), ?_⟩
            go_wp2_with fail
            refine ⟨⟨k + 1, false, by omega, by go_num, rfl, (fun h => by cases h), fun _ => HNE.out () hxy2, bw_d1 HBL.out⟩, by simp [intOf]; omega⟩
        · have hkk : k = xs.length := by omega
          have HEQ := Lib.hid (fun _ : Unit => show eqB xs ys = true from by
            rw [List.take_of_length_le (by omega), List.take_of_length_le (by omega)] at hq
            simpa [eqB] using hq)
          clear hq1 hq2 hq hxi
          have SM1 := Lib.hid (fun w' (h : Below w.heap.size w w') => same_any w' u v xs ys (HU.out.stay h (Nat.le_refl _)) (HV.out.stay h (Nat.le_refl _)) HX.out HY.out)
          have SM2 := Lib.hid (fun w' (h : Below w.heap.size w w') => same_any w' u u xs xs (HU.out.stay h (Nat.le_refl _)) (HU.out.stay h (Nat.le_refl _)) HX.out HX.out)
          rw [HEQ.out ()] at SM1
          rw [show eqB xs xs = true by simp [eqB]] at SM2
          have tok : True := trivial
          go_wp2_with (first
            | (go_at_call 29; have _t := tok; refine (SM1.out _ hbl).mono ?_; rintro e w5 ⟨rfl, hb5⟩; have hbl5 := bw_then hbl hb5 hbl.size; clear tok)
            | (go_at_call 29; refine (SM2.out _ hbl5).mono ?_; rintro e w6 ⟨rfl, hb6⟩; have hbl6 := bw_then hbl5 hb6 hbl5.size)
            | (go_at_call 26; refine (AW.out _ hbl6).mono ?_; rintro e w7 ⟨rfl, hb7⟩))
          all_goals go_ret
          all_goals exact ⟨rfl, bw_then hbl6 hb7 hbl6.size⟩
  · have hxi : ((xs.length : Int) == (ys.length : Int)) = false := by
      rw [Bool.eq_false_iff]; simp; omega
    have HEQ := Lib.hid (fun _ : Unit => show eqB xs ys = false from by
      have : xs ≠ ys := fun h => hxy (by rw [h])
      simpa [eqB] using this)
    go_wp2_with fail
    go_loopw [5, 6] (fun b i wr => b = .bool false ∧ i = .int .i64 0 ∧ Below w.heap.size w wr) (fun _ i _ => 0)
    case atStart => exact ⟨rfl, rfl, Below.refl _ _⟩
    case round =>
      obtain ⟨rfl, rfl, hbl⟩ := hrel
      obtain ⟨wo, rfl⟩ : ∃ wo : World, wo = wr := ⟨_, rfl⟩
      clear hxi
      have SM1 := Lib.hid (fun w' (h : Below w.heap.size w w') => same_any w' u v xs ys (HU.out.stay h (Nat.le_refl _)) (HV.out.stay h (Nat.le_refl _)) HX.out HY.out)
      have SM2 := Lib.hid (fun w' (h : Below w.heap.size w w') => same_any w' u u xs xs (HU.out.stay h (Nat.le_refl _)) (HU.out.stay h (Nat.le_refl _)) HX.out HX.out)
      rw [HEQ.out ()] at SM1
      rw [show eqB xs xs = true by simp [eqB]] at SM2
      have tok : True := trivial
      go_wp2_with (first
        | (go_at_call 29; have _t := tok; refine (SM1.out _ hbl).mono ?_; rintro e w5 ⟨rfl, hb5⟩; have hbl5 := bw_then hbl hb5 hbl.size; clear tok)
        | (go_at_call 29; refine (SM2.out _ hbl5).mono ?_; rintro e w6 ⟨rfl, hb6⟩; have hbl6 := bw_then hbl5 hb6 hbl5.size)
        | (go_at_call 26; refine (AW.out _ hbl6).mono ?_; rintro e w7 ⟨rfl, hb7⟩))
      all_goals go_ret
      all_goals exact ⟨rfl, bw_then hbl6 hb7 hbl6.size⟩

set_option maxRecDepth 100000 in
theorem contract (H : Type) (enc : TypeId × Value → H) (W : World) (base : Nat) (args : Array Value) (ds gs : List (DataW H)) (before : List MemPlace)
    (hval : ∀ (j : Nat) t v, Tryd.f10.params[j]? = some t → args[j]? = some v → Value.okWide Tryd.prog W .any base t v)
    (hW : DataW.Whole enc Tryd.prog Tryd.f10.params.toList Rows.aeadSameSpec.vars false W args.toList ds gs before) (hL : laidMetH Tryd.prog Rows.aeadSameRow.laid W) :
    Calls Tryd.prog 10 args W fun e W' => ∃ v, e = .returned v ∧ Rows.aeadSameSpec.post enc Tryd.prog Tryd.f10 false true false false W args v W' := by
  have hW' := hW
  obtain ⟨p, q, hA0, hV, rfl, hfz, hnd⟩ := hW
  have hA : DataW.TrodAll enc Tryd.prog W 0 (fun _ => true) true Tryd.f10.params.toList args.toList ds p := hA0
  rw [Tryd.params10] at hA hval
  obtain ⟨v0, vs0, d0, ds0, p0, q0, hargs0, rfl, rfl, h0, r0⟩ := trodAll_cons hA
  obtain ⟨v1, vs1, d1, ds1, p1, q1, hargs1, e1, rfl, h1, r1⟩ := trodAll_cons r0
  subst e1
  obtain ⟨e9, e8, e7⟩ := trodAll_nil r1
  subst e9 e8 e7
  obtain rfl : args = #[v0, v1] := by cases args; simp_all
  obtain ⟨rfl, rfl⟩ := trodVars_none hV
  have hv0 := hval 0 _ v0 rfl rfl
  have hv1 := hval 1 _ v1 rfl rfl
  clear hA0
  obtain ⟨fuel0, hf0⟩ := h0
  obtain ⟨fuel1, hf1⟩ := h1
  rw [one_of_ok Tryd.underlying30 rfl hv0] at hf0
  obtain ⟨u0, xs0, hcs0, hb0, hr0⟩ := bytes_of_trod hf0
  obtain rfl : v0 = u0 := by simpa using hcs0
  rw [one_of_ok Tryd.underlying30 rfl hv1] at hf1
  obtain ⟨u1, xs1, hcs1, hb1, hr1⟩ := bytes_of_trod hf1
  obtain rfl : v1 = u1 := by simpa using hcs1
  refine (walk W v0 v1 xs0 xs1 hr0 hr1 hb0 hb1 (tab_of_laid hL)).mono fun e W' ⟨he, hb⟩ => ⟨_, he, ?_⟩
  exact law_post Tryd.laidOut (by kernel_rfl) (by kernel_rfl) Tryd.underlying4 rfl rfl rfl rfl hW' hb

/-- A WORLD FOR THE WITNESS: the settled one, the table (block 0) holding what its initialiser lays. -/
noncomputable def laidWorld (os : Os) : World :=
  { World.holding Tryd.prog os ⟨#[], #[], []⟩ with heap := (World.holding Tryd.prog os ⟨#[], #[], []⟩).heap.modify 0 fun
      | .cells _ t frozen => .cells (ns rowsL).toArray t frozen
      | o => o }
def wit : Array Value := #[.slice none 0 0, .slice none 0 0]
theorem laid_met (os : Os) : laidMet Tryd.prog Rows.aeadSameRow.laid ((laidWorld os).forCall (fun _ _ => 0) ⟨#[], wit, []⟩).memory :=
  laidMet_of_run' 8 (by kernel_rfl) (by kernel_rfl)
theorem reads (os : Os) {H : Type} (enc : TypeId × Value → H) : ∃ ds places, DataW.whole enc Tryd.prog ((laidWorld os).forCall (fun _ _ => 0) ⟨#[], wit, []⟩).memory Tryd.f10.params.toList Rows.aeadSameSpec.vars false wit.toList 8 = some (ds, [], places) :=
  ⟨[.nil, .nil], [], by kernel_rfl⟩

set_option maxRecDepth 100000 in
theorem lifted (os : Os) (started : os.Started) (H : Type) (enc : TypeId × Value → H) (F : Stop.Interp) :
    ReturnsInHanded {} Tryd.checked os 10 .any ((OpenSpec.ofChange Rows.aeadSameSpec).preRow enc Tryd.prog Tryd.f10 Rows.aeadSameRow.domain false Rows.aeadSameRow.laid) (((OpenSpec.ofChange Rows.aeadSameSpec).at F).post enc Tryd.prog Tryd.f10 false true false false) := by
  obtain ⟨ds, places, hx⟩ := reads os enc
  refine returnsInHanded_of_row (C := Tryd.checked) (s := OpenSpec.ofChange Rows.aeadSameSpec) Tryd.own started (by kernel_rfl) Tryd.func10
    (witness_row_at (enc := enc) (C := Tryd.checked) false (laidWorld os) wit rfl (by kernel_rfl) (by kernel_rfl) (by kernel_rfl)
      (OpenSpec.preRow_of_cond 8 hx (by kernel_rfl) (fun k hk => by cases hk) (by kernel_rfl) (laid_met os))) ?_
  intro W base args ds gs before hval hW _ _ _ hL _ _
  exact contract H enc W base args ds gs before hval hW hL

theorem said : Rows.AeadSameSaid :=
  OpenClaim.holds_of_cond 10 Tryd.f10 rfl rfl rfl rfl rfl rfl rfl ⟨rfl, rfl, rfl, rfl, rfl⟩ rfl rfl rfl rfl rfl (by kernel_rfl) Tryd.func10 (by kernel_rfl)
    (of_decide_eq_true (by kernel_rfl)) (by unfold Func.isWrapper; first | (rw [if_pos (by decide +kernel)]; kernel_rfl) | (rw [if_neg (by decide +kernel)]; exact ⟨rfl, rfl⟩))
    (fun os started H enc _ F => by rw [OpenClaim.pre_eq_preRow]; exact lifted os started H enc F)

/-- No parameter wants a stand-in; the program's own looks are off. -/
theorem plain (f : FuncId) (fn : Func) (hf : Tryd.pinned.checked.prog.funcNamed "intaglio/intagliolaw04.AeadSame" = some f) (hfn : Tryd.pinned.checked.prog.funcs[f]? = some fn) :
    false = Tryd.pinned.checked.prog.looks [] ∧ ∀ (j : Nat) t, fn.params[j]? = some t → Tryd.pinned.checked.prog.wantsStandIn t = false := by
  obtain rfl : f = 10 := Option.some.inj ((show Tryd.prog.funcNamed "intaglio/intagliolaw04.AeadSame" = some 10 by kernel_rfl).symm.trans hf) |>.symm
  obtain rfl : fn = Tryd.f10 := (Option.some.inj (Tryd.func10.symm.trans hfn)).symm
  refine ⟨by kernel_rfl, fun j t ht => ?_⟩
  rw [Tryd.params10] at ht
  have hall : (#[30, 30].toList.all fun u => !Tryd.prog.wantsStandIn u) = true := by kernel_rfl
  exact (show Tryd.prog.wantsStandIn t = false by simpa using List.all_eq_true.1 hall t (by simpa using Array.mem_of_getElem? ht))

/-- THE CARD. -/
theorem proved : Rows.AeadSameCardSaid :=
  Claim7.holds_tied_plain_at .later [] _ _ _ _ said (fun _ h => by cases h) (by kernel_rfl) (fun _ h => by cases h) aeadSame_row_tie rfl ⟨rfl, rfl⟩ (by kernel_rfl) rfl plain (by kernel_rfl)
end Go.Proofs.YtmjjnaaiakchhaaDoor.lawAeadSame
