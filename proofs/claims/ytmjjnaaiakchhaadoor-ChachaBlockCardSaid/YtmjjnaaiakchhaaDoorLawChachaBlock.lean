/-
  The statement ChachaBlock: for any key, counter and nonce the block of the program is the document's. No condition but the table as it is laid.
-/
import Derived.Test.YtmjjnaaiakchhaaDoorBlockC
import Derived.Test.YtmjjnaaiakchhaaDoorSub
import Derived.Test.YtmjjnaaiakchhaaDoorAtArg
import Derived.Test.YtmjjnaaiakchhaaDoorTie
namespace Go.Proofs.YtmjjnaaiakchhaaDoor.lawChachaBlock
open Go.ChangeShapes Go.WideShapes Go.ChangeAt Go.RowKit

theorem block_len (key : List Int) (c : Int) (nonce : List Int) : (block key c nonce).length = 64 := by rw [block, outK_len]
theorem outK_isB (s was : List Int) (k : Nat) : IsB (outK s was k) := by
  induction k with
  | zero => intro y hy; simp [outK] at hy
  | succ k ih =>
    intro y hy
    rw [outK, List.mem_append] at hy
    rcases hy with hy | hy
    · exact ih y hy
    · exact lowN_isB _ _ y hy
theorem block_isB (key : List Int) (c : Int) (nonce : List Int) : IsB (block key c nonce) := outK_isB _ _ _
theorem slice64 (w : World) (o : Nat) : (Instr.sliceAt 27 (.pointer (some ⟨o, 0, none⟩)) none none none).run Tryd.prog w = .ok (.slice (some ⟨o, 0, none⟩) 64 64) w := by
  have ha : Tryd.prog.arrayLen 27 = 64 := by kernel_rfl
  have he : Tryd.prog.elem 27 = 5 := by kernel_rfl
  obtain ⟨q, hq1, hq2⟩ := Option.map_eq_some_iff.1 (show (Tryd.prog.info? 5).map (·.size) = some 1 by kernel_rfl)
  rw [run_sliceAt_array_all (P := Tryd.prog) w 27 ⟨o, 0, none⟩ (by rw [ha, he]; exact Tryd.underlying27)]
  rw [he, ha]
  simp [sizeOf, typeInfo, hq1, hq2, slicedAt, Addr.add]

set_option maxRecDepth 8000 in
set_option maxHeartbeats 1000000 in
theorem walk (key nonce : List Int) (c : Int) (w : World) (hk : key.length = 32) (hn : nonce.length = 12) (hkb : IsB key) (hnb : IsB nonce) (ht : Tab w) :
    Calls Tryd.prog 3 #[.agg (atV key c nonce).toArray] w fun e w' => Holds e w w' := by
  have HA := Lib.hid (show (atV key c nonce).length = 45 by rw [atV_len, hk, hn])
  have H0 := Lib.hid (fun _ : Unit => atV_c key c nonce hk)
  have HC := Lib.hid (fun w (ht : Tab w) => blockc_any key nonce c w hk hn hkb hnb ht)
  have HR := Lib.hid (fun w => blockr_any key nonce c w hk hn hkb hnb)
  have p0 : ((atV key c nonce).drop 0).take (bs key).length = bs key := by simp [atV]
  have p1 : ((atV key c nonce).drop 33).take (bs nonce).length = bs nonce := by
    rw [atV, List.drop_append, List.drop_of_length_le (by simp [bs, hk])]; simp only [bs_len, hk]; simp [bs, List.take_of_length_le]
  have P0 := Lib.hid (fun _ : Unit => p0)
  have P1 := Lib.hid (fun _ : Unit => p1)
  have HK := Lib.hid hk
  have HN := Lib.hid hn
  clear hk hn hkb hnb p0 p1
  obtain ⟨B, hB⟩ : ∃ B, w.heap.size = B := ⟨_, rfl⟩
  go_enter Tryd.func3, Tryd.ntmps3
  go_upto_region 1 with fail
  have b1 : Blk (w.alloc (.cells (atV key c nonce).toArray 26)) B (atV key c nonce) 26 := Blk.mk_ _ hB.symm rfl
  have bb : Below B w (w.alloc (.cells (atV key c nonce).toArray 26)) := bw_al (Below.refl _ _) (by omega) _
  have bt : Tab (w.alloc (.cells (atV key c nonce).toArray 26)) := ht.al _
  generalize w.alloc (.cells (atV key c nonce).toArray 26) = w1 at *
  have c0 := b1.at_ 32 (H0.out ())
  go_upto_region 2 with (first
    | (refine wp_load_sub rfl 22 (.tmp 4) rfl rfl (b1.part 0 (P0.out ())) Tryd.underlying22 rfl (n := 32) (by kernel_rfl) (by rw [bs_len, HK.out]) ?_)
    | (refine wp_load_sub rfl 24 (.tmp 8) rfl rfl (b1.part 33 (P1.out ())) Tryd.underlying24 rfl (n := 12) (by kernel_rfl) (by rw [bs_len, HN.out]) ?_)
    | (go_at_call 15; refine (HC.out _ bt).mono ?_; rintro e w' ⟨rfl, hb⟩)
    | (refine wp_store_blk rfl 27 (.tmp 3) (.tmp 10) rfl rfl rfl (cs := bs (List.replicate 64 0)) (Blk.mk_ _ rfl rfl) (bs_one _) (by rw [bs_len, bs_len, block_len, List.length_replicate]) (n := 64) (by kernel_rfl) (by rw [bs_len, block_len]) ?_; intro w2 hb2 ho2))
  have hs1 := hb.size
  have hg1 := b1.lt
  have d1 : Blk w2 B (atV key c nonce) 26 := ((b1.stay hb).al _).only ho2 (by omega)
  have db : Below B w w2 := ho2.below (bw_al (bw_then bb hb (by omega)) (by omega) _) (by omega)
  clear b1 bb bt c0 hb ho2 ht hs1
  obtain ⟨blk, hblk⟩ : ∃ blk, block key c nonce = blk := ⟨_, rfl⟩
  have hbl := block_len key c nonce
  have hbb := block_isB key c nonce
  rw [hblk] at hb2 hbl hbb
  have HBL := Lib.hid hbl
  have HBK := Lib.hid (fun _ : Unit => hblk)
  clear hbl hblk
  generalize w'.heap.size = o at *
  refine region_draws [(11, .slice (some ⟨o, 0, none⟩) 64 64), (12, .agg (atV key c nonce).toArray), (15, .bool true), (17, .bool true), (2, .bool true)] [13, 14, 16]
    (fun L T wr => Blk wr o (bs blk) 27 ∧ Blk wr B (atV key c nonce) 26 ∧ Below B w wr ∧ (L 2 = true → Rd wr (T 13) (bs blk)) ∧ (L 3 = true → T 14 = .bool true) ∧ (L 5 = true → T 16 = .bool true))
    (fun _ => undef) (by kernel_rfl) (by kernel_rfl) 18 rfl (by kernel_rfl) ?g0 ?hops ?hend
  case g0 => exact ⟨hb2.d1, d1.d1, bw_d1 db, (fun h => by simp at h), (fun h => by simp at h), (fun h => by simp at h)⟩
  case hops =>
    simp only [AllFrom]
    refine ⟨?_, ?_, ?_, ?_, ?_, ?_, ?_, ?_, trivial⟩
    · (intro L T w hpre hpost hG; (have c := slice64 w o); first | exact .inl ⟨rfl, rfl⟩ | (refine .inl ⟨rfl, ?_⟩; simp only [execOp]; go_simp; (try go_ints); (try go_simp); (try rw [if_pos (by omega)]); (first | done | rfl)))
    · intro L T w hpre hpost hG
      exact .inl ⟨rfl, exec_load_sub 26 (.tmp 1) rfl rfl (hG.2.1.part 0 (by simp)) Tryd.underlying26 rfl (n := 45) (by kernel_rfl) HA.out⟩
    · intro L T w hL hpre hpost hG
      obtain ⟨h1, h2, h3, h4, h5, h6⟩ := hG
      refine .inl ⟨rfl, fun a K hK => ?_⟩
      simp only [execOp]
      go_simp
      refine (HR.out _).mono ?_
      rintro e w' ⟨v, rfl, hb, hw⟩
      refine hK _ _ ⟨h1.stay hb, h2.stay hb, bw_then h3 hb (by have := h2.lt; omega), fun _ => ?_, fun h => by simpa using h5 (by simpa using h), fun h => by simpa using h6 (by simpa using h)⟩
      rw [HBK.out ()] at hw
      simpa using Rd.of_own hw
    · intro L T w hL hpre hpost hG
      obtain ⟨h1, h2, h3, h4, h5, h6⟩ := hG
      refine .inl ⟨rfl, fun a K hK => ?_⟩
      simp only [execOp]
      go_simp
      have hr : Rd w (.slice (some ⟨o, 0, none⟩) 64 64) (bs blk) := by
        have := Rd.of_blk h1 (by rw [bs_len, HBL.out]; omega)
        rwa [bs_len, HBL.out] at this
      refine (equal_any _ _ blk blk _ hr (h4 (hpre 2 rfl rfl)) hbb hbb).mono ?_
      rintro e w' ⟨rfl, rfl⟩
      refine hK _ _ ⟨h1, h2, h3, fun h => by simpa using h4 (by simpa using h), fun _ => by simp [eqB], fun h => by simpa using h6 (by simpa using h)⟩
    · intro L T w hpre hpost hG
      have h5 := hG.2.2.2.2.1 (hpre 3 rfl rfl)
      refine .inl ⟨rfl, ?_⟩
      simp only [execOp]
      go_simp
    · intro L T w hL hpre hpost hG
      obtain ⟨h1, h2, h3, h4, h5, h6⟩ := hG
      refine .inl ⟨by simp [wantF, go_sem], fun a K hK => ?_⟩
      simp only [execOp]
      go_simp
      refine (awake02_any _).mono ?_
      rintro e w' ⟨rfl, rfl⟩
      refine hK _ _ ⟨h1, h2, h3, fun h => by simpa using h4 (by simpa using h), fun h => by simpa using h5 (by simpa using h), fun _ => by simp⟩
    · intro L T w hpre hpost hG
      have h6 := hG.2.2.2.2.2 (hpre 5 rfl rfl)
      refine .inl ⟨rfl, ?_⟩
      simp only [execOp]
      go_simp
    · (intro L T w hpre hpost hG; skip; first | exact .inl ⟨rfl, rfl⟩ | (refine .inl ⟨rfl, ?_⟩; simp only [execOp]; go_simp; (try go_ints); (try go_simp); (try rw [if_pos (by omega)]); (first | done | rfl)))
  case hend =>
    intro L T w hall hG
    obtain ⟨h1, h2, h3, h4, h5, h6⟩ := hG
    simp only [fillT, fillP, List.foldl_cons, List.foldl_nil, Act.put]
    go_wp2_with fail
    go_ret
    generalize T 13 = x13
    generalize T 14 = x14
    generalize T 16 = x16
    refine ⟨by simp, by rw [hB]; exact h3⟩

/-- The argument that the witness is called with. -/
def v0 : Value := .agg (atV (List.replicate 32 0) 0 (List.replicate 12 0)).toArray

set_option maxRecDepth 100000 in
theorem contract (H : Type) (enc : TypeId × Value → H) (W : World) (base : Nat) (args : Array Value) (ds gs : List (DataW H)) (before : List MemPlace)
    (hval : ∀ (j : Nat) t v, Tryd.f3.params[j]? = some t → args[j]? = some v → Value.okWide Tryd.prog W .any base t v)
    (hW : DataW.Whole enc Tryd.prog Tryd.f3.params.toList Rows.chachaBlockSpec.vars false W args.toList ds gs before) (hL : laidMetH Tryd.prog Rows.chachaBlockRow.laid W) :
    Calls Tryd.prog 3 args W fun e W' => ∃ v, e = .returned v ∧ Rows.chachaBlockSpec.post enc Tryd.prog Tryd.f3 false true false false W args v W' := by
  have hW' := hW
  obtain ⟨p, q, hA0, hV, rfl, hfz, hnd⟩ := hW
  have hA : DataW.TrodAll enc Tryd.prog W 0 (fun _ => true) true Tryd.f3.params.toList args.toList ds p := hA0
  rw [Tryd.params3] at hA hval
  obtain ⟨v0, vs0, d0, ds0, p0, q0, hargs, rfl, rfl, h0, r0⟩ := trodAll_cons hA
  obtain ⟨rfl, rfl, rfl⟩ := trodAll_nil r0
  obtain rfl : args = #[v0] := by cases args; simp_all
  obtain ⟨rfl, rfl⟩ := trodVars_none hV
  have hv0 := hval 0 _ v0 rfl rfl
  clear hA0
  obtain ⟨fuel, hf⟩ := h0
  obtain ⟨key, c, nonce, hk, hn, hkb, hnb, hc, hcs⟩ := at_of_trod hf
  obtain ⟨cs, rfl⟩ : ∃ cs, v0 = .agg cs := by
    simp only [Value.okWide] at hv0
    obtain ⟨cs, h, _⟩ := hv0
    exact ⟨cs, h⟩
  obtain rfl : cs = (atV key c nonce).toArray := by
    apply Array.toList_inj.1; simpa [Value.cells] using hcs
  refine (walk key nonce c W hk hn hkb hnb (tab_of_laid hL)).mono fun e W' ⟨he, hb⟩ => ⟨_, he, ?_⟩
  exact law_post Tryd.laidOut (by kernel_rfl) (by kernel_rfl) Tryd.underlying4 rfl rfl rfl rfl hW' hb

/-- A WORLD FOR THE WITNESS: the settled one, the table (block 0) holding what its initialiser lays. -/
noncomputable def laidWorld (os : Os) : World :=
  { World.holding Tryd.prog os ⟨#[], #[], []⟩ with heap := (World.holding Tryd.prog os ⟨#[], #[], []⟩).heap.modify 0 fun
      | .cells _ t frozen => .cells (ns rowsL).toArray t frozen
      | o => o }
theorem laid_met (os : Os) : laidMet Tryd.prog Rows.chachaBlockRow.laid ((laidWorld os).forCall (fun _ _ => 0) ⟨#[], #[v0], []⟩).memory :=
  laidMet_of_run' 8 (by kernel_rfl) (by kernel_rfl)
theorem reads (os : Os) {H : Type} (enc : TypeId × Value → H) : ∃ ds places, DataW.whole enc Tryd.prog ((laidWorld os).forCall (fun _ _ => 0) ⟨#[], #[v0], []⟩).memory Tryd.f3.params.toList Rows.chachaBlockSpec.vars false #[v0].toList 8 = some ([ds], [], places) :=
  ⟨.agg [.agg (List.replicate 32 (.lit (.int .u8 0))), .lit (.int .u32 0), .agg (List.replicate 12 (.lit (.int .u8 0)))], [], by kernel_rfl⟩

set_option maxRecDepth 100000 in
theorem lifted (os : Os) (started : os.Started) (H : Type) (enc : TypeId × Value → H) (F : Stop.Interp) :
    ReturnsInHanded {} Tryd.checked os 3 .any ((OpenSpec.ofChange Rows.chachaBlockSpec).preRow enc Tryd.prog Tryd.f3 Rows.chachaBlockRow.domain false Rows.chachaBlockRow.laid) (((OpenSpec.ofChange Rows.chachaBlockSpec).at F).post enc Tryd.prog Tryd.f3 false true false false) := by
  obtain ⟨ds, places, hx⟩ := reads os enc
  refine returnsInHanded_of_row (C := Tryd.checked) (s := OpenSpec.ofChange Rows.chachaBlockSpec) Tryd.own started (by kernel_rfl) Tryd.func3
    (witness_row_at (enc := enc) (C := Tryd.checked) false (laidWorld os) #[v0] rfl (by kernel_rfl) (by kernel_rfl) (by kernel_rfl)
      (OpenSpec.preRow_of_cond 8 hx (by kernel_rfl) (fun k hk => by cases hk) (by kernel_rfl) (laid_met os))) ?_
  intro W base args ds gs before hval hW _ _ _ hL _ _
  exact contract H enc W base args ds gs before hval hW hL

theorem said : Rows.ChachaBlockSaid :=
  OpenClaim.holds_of_cond 3 Tryd.f3 rfl rfl rfl rfl rfl rfl rfl ⟨rfl, rfl, rfl, rfl, rfl⟩ rfl rfl rfl rfl rfl (by kernel_rfl) Tryd.func3 (by kernel_rfl)
    (of_decide_eq_true (by kernel_rfl)) (by unfold Func.isWrapper; first | (rw [if_pos (by decide +kernel)]; kernel_rfl) | (rw [if_neg (by decide +kernel)]; exact ⟨rfl, rfl⟩))
    (fun os started H enc _ F => by rw [OpenClaim.pre_eq_preRow]; exact lifted os started H enc F)

/-- No parameter wants a stand-in; the program's own looks are off. -/
theorem plain (f : FuncId) (fn : Func) (hf : Tryd.pinned.checked.prog.funcNamed "intaglio/intagliolaw02.ChachaBlock" = some f) (hfn : Tryd.pinned.checked.prog.funcs[f]? = some fn) :
    false = Tryd.pinned.checked.prog.looks [] ∧ ∀ (j : Nat) t, fn.params[j]? = some t → Tryd.pinned.checked.prog.wantsStandIn t = false := by
  obtain rfl : f = 3 := Option.some.inj ((show Tryd.prog.funcNamed "intaglio/intagliolaw02.ChachaBlock" = some 3 by kernel_rfl).symm.trans hf) |>.symm
  obtain rfl : fn = Tryd.f3 := (Option.some.inj (Tryd.func3.symm.trans hfn)).symm
  refine ⟨by kernel_rfl, fun j t ht => ?_⟩
  rw [Tryd.params3] at ht
  have hall : (#[26].toList.all fun u => !Tryd.prog.wantsStandIn u) = true := by kernel_rfl
  exact (show Tryd.prog.wantsStandIn t = false by simpa using List.all_eq_true.1 hall t (by simpa using Array.mem_of_getElem? ht))

/-- THE CARD. -/
theorem proved : Rows.ChachaBlockCardSaid :=
  Claim7.holds_tied_plain_at .later [] _ _ _ _ said (fun _ h => by cases h) (by kernel_rfl) (fun _ h => by cases h) chachaBlock_row_tie rfl ⟨rfl, rfl⟩ (by kernel_rfl) rfl plain (by kernel_rfl)
end Go.Proofs.YtmjjnaaiakchhaaDoor.lawChachaBlock
