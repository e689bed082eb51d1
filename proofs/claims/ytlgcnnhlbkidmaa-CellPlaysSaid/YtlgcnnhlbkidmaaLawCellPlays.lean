/-
  The statement CellPlays: whatever is asked of a cell of any bounds, and whenever power goes, each answer is the document's. No condition.
-/
import Derived.Test.YtlgcnnhlbkidmaaPlays
import Derived.Test.YtlgcnnhlbkidmaaArgsC
namespace Go.Proofs.Ytlgcnnhlbkidmaa.lawCellPlays
open Go.ChangeShapes Go.WideShapes Go.ChangeAt Go.RowKit

def ActOK (cs : List Value) : Prop := ∃ k a b m : Int, 0 ≤ k ∧ k ≤ 255 ∧ In64 a ∧ In64 b ∧ In64 m ∧ cs = [.int .u8 k, .int .i64 a, .int .i64 b, .int .i64 m]

set_option maxRecDepth 100000 in
set_option maxHeartbeats 4000000 in
theorem walk (b0 b1 b2 b3 b4 b5 b6 : Int) (lv : Value) (n : Nat) (f : Nat → List Value) (w : World) (hEl : Els w lv n 4 f) (hact : ∀ i, i < n → ActOK (f i)) :
    Calls Try.prog 9 #[.agg #[.int .i64 b0, .int .i64 b1, .int .i64 b2, .int .i64 b3, .int .i64 b4, .int .i64 b5, .int .i64 b6], lv] w fun e w' => Holds e w w' := by
  obtain ⟨B, hB⟩ : ∃ B, w.heap.size = B := ⟨_, rfl⟩
  have hlen := hEl.len
  have hEl0 := hEl
  obtain ⟨A, cap, rfl, hc1, hc2, _⟩ := hEl0
  go_enter Try.func9, Try.ntmps9
  by_cases h60 : 60 < (n : Int)
  · go_wp2_with (go_at_call 30; refine (awake10_any _).mono ?_; rintro e9 w9 ⟨rfl, hbl⟩)
    all_goals go_ret
    exact ⟨rfl, bw_then (bw_al (Below.refl _ _) (Nat.le_refl _) _) hbl (by simp)⟩
  have n60 : n ≤ 60 := by omega
  go_upto_region 3 with fail
  have a0 : Blk (w.alloc (.cells #[.int .i64 b0, .int .i64 b1, .int .i64 b2, .int .i64 b3, .int .i64 b4, .int .i64 b5, .int .i64 b6] 70)) B [.int .i64 b0, .int .i64 b1, .int .i64 b2, .int .i64 b3, .int .i64 b4, .int .i64 b5, .int .i64 b6] 70 := Blk.mk_ _ hB.symm rfl
  have a1 : Below B w (w.alloc (.cells #[.int .i64 b0, .int .i64 b1, .int .i64 b2, .int .i64 b3, .int .i64 b4, .int .i64 b5, .int .i64 b6] 70)) := bw_al (Below.refl _ _) (by omega) _
  generalize (w.alloc (.cells #[.int .i64 b0, .int .i64 b1, .int .i64 b2, .int .i64 b3, .int .i64 b4, .int .i64 b5, .int .i64 b6] 70)) = w1 at *
  go_upto_region 4 with (first
    | (go_at_call 42; refine (plug_any _).mono ?_; rintro e w2 ⟨rfl, a2, a3, a4⟩)
    | (go_at_call 43; refine (rplug_any _).mono ?_; rintro e w3 ⟨rfl, a5, a6, a7⟩))
  have l1 := a0.lt
  obtain ⟨gp, hgp⟩ : ∃ gp, w1.heap.size = gp := ⟨_, rfl⟩
  obtain ⟨gq, hgq⟩ : ∃ gq, w2.heap.size = gq := ⟨_, rfl⟩
  rw [hgp] at a2 a3 a4
  rw [hgq] at a5 a6 a7
  have u0 := (a0.keep a3 (by omega)).keep a6 (by omega)
  have uP := a2.keep a6 (by omega)
  have uB : Below B w w3 := bw_then (bw_then a1 (by rw [hgp]; exact a3) (by omega)) (by rw [hgq]; exact a6) (by omega)
  simp only [hgp]
  obtain ⟨S, hS⟩ : ∃ S, w3.heap.size = S := ⟨_, rfl⟩
  have hS1 : gq < S := by omega
  have hS2 : gp < gq := by omega
  have hS3 : B < gp := by omega
  have hgq1 : gq = gp + 1 := by omega
  subst hgq1
  clear a0 a1 a2 a3 a4 a6 hgp
  refine region_draws [(20, ?v20), (21, ?v21), (23, ?v23), (24, ?v24), (25, ?v25)] [22, 26, 7, 8]
    (fun L T wr => Below S w3 wr ∧ Blk wr B [.int .i64 b0, .int .i64 b1, .int .i64 b2, .int .i64 b3, .int .i64 b4, .int .i64 b5, .int .i64 b6] 70 ∧ Blk wr gp Pow.fresh.cells 92 ∧ Blk wr (gp + 1) (RPow.cells ⟨false, -1⟩) 85 ∧
      (L 2 = true → ∃ g, T 22 = .pointer (some ⟨g, 0, none⟩) ∧ S ≤ g ∧ Blk wr g (CellM.cells ⟨0, 0, 0, bnd b4, bnd b2, true⟩ (.pointer (some ⟨gp, 0, none⟩))) 61) ∧
      (L 6 = true → ∃ gx, T 26 = .pointer (some ⟨gx, 0, none⟩) ∧ S ≤ gx ∧ Blk wr gx (rcell (gp + 1) b0 b1 b2 b3 b4 b5 b6 ⟨0, 0, 0, bnd b4, bnd b2, true⟩) 78) ∧
      (L 2 = true → L 6 = true → T 22 ≠ T 26) ∧ (L 7 = true → T 7 = T 22) ∧ (L 8 = true → T 8 = T 26))
    (fun _ => undef) (by kernel_rfl) (by kernel_rfl) 117 rfl (by kernel_rfl) ?g0 ?hops ?hend
  case g0 => exact ⟨bw_d1 (Below.refl _ _), u0.d1, uP.d1, a5.d1, (fun h => by simp at h), (fun h => by simp at h), (fun h => by simp at h), (fun h => by simp at h), (fun h => by simp at h)⟩
  case hops =>
    simp only [AllFrom]
    refine ⟨?_, ?_, ?_, ?_, ?_, ?_, ?_, ?_, ?_, trivial⟩
    · (intro L T w hpre hpost hG; skip; first | exact .inl ⟨rfl, rfl⟩ | (refine .inl ⟨rfl, ?_⟩; simp only [execOp]; go_simp; (try go_ints); (try go_simp); (try rw [if_pos (by omega)]); (first | done | rfl)))
    · (intro L T w hpre hpost hG; (have c0 := hG.2.1.at_ 0 rfl; have c1 := hG.2.1.at_ 1 rfl; have c2 := hG.2.1.at_ 2 rfl; have c3 := hG.2.1.at_ 3 rfl; have c4 := hG.2.1.at_ 4 rfl; have c5 := hG.2.1.at_ 5 rfl; have c6 := hG.2.1.at_ 6 rfl); first | exact .inl ⟨rfl, rfl⟩ | (refine .inl ⟨rfl, ?_⟩; simp only [execOp]; go_simp; (try go_ints); (try go_simp); (try rw [if_pos (by omega)]); (first | done | rfl)))
    · intro L T w hL hpre hpost hG
      obtain ⟨h1, h2, h3, h4, h5, h6, h7, h8, h9⟩ := hG
      have hp7 : L 7 = false := hpost 7 _ rfl rfl
      refine .inl ⟨rfl, fun a K hK => ?_⟩
      simp only [execOp]
      go_simp
      refine (cellnew_any _ _ _ _ _ _ _ _ _ (.inr ⟨_, rfl⟩)).mono ?_
      rintro e w2 ⟨g, rfl, m1, m2, m3⟩
      have m4 := h1.size
      refine hK _ _ ⟨bw_then h1 m3 (by omega), h2.stay m3, h3.stay m3, h4.stay m3, fun _ => ⟨g, by simp, by omega, m2⟩, fun h => ?_, fun _ h => ?_, fun h => ?_, fun h => ?_⟩
      · obtain ⟨gx, x1, x2, x3⟩ := h6 (by simpa using h)
        exact ⟨gx, by simpa using x1, x2, x3.stay m3⟩
      · obtain ⟨gx, x1, x2, x3⟩ := h6 (by simpa using h)
        have := x3.lt
        intro heq
        simp [x1] at heq
        try omega
      · simp [hp7] at h
      · simpa using h9 (by simpa using h)
    · (intro L T w hpre hpost hG; skip; first | exact .inl ⟨rfl, rfl⟩ | (refine .inl ⟨rfl, ?_⟩; simp only [execOp]; go_simp; (try go_ints); (try go_simp); (try rw [if_pos (by omega)]); (first | done | rfl)))
    · (intro L T w hpre hpost hG; (have c0 := hG.2.1.at_ 0 rfl; have c1 := hG.2.1.at_ 1 rfl; have c2 := hG.2.1.at_ 2 rfl; have c3 := hG.2.1.at_ 3 rfl; have c4 := hG.2.1.at_ 4 rfl; have c5 := hG.2.1.at_ 5 rfl; have c6 := hG.2.1.at_ 6 rfl); first | exact .inl ⟨rfl, rfl⟩ | (refine .inl ⟨rfl, ?_⟩; simp only [execOp]; go_simp; (try go_ints); (try go_simp); (try rw [if_pos (by omega)]); (first | done | rfl)))
    · (intro L T w hpre hpost hG; skip; first | exact .inl ⟨rfl, rfl⟩ | (refine .inl ⟨rfl, ?_⟩; simp only [execOp]; go_simp; (try go_ints); (try go_simp); (try rw [if_pos (by omega)]); (first | done | rfl)))
    · intro L T w hL hpre hpost hG
      obtain ⟨h1, h2, h3, h4, h5, h6, h7, h8, h9⟩ := hG
      have hp8 : L 8 = false := hpost 8 _ rfl rfl
      refine .inl ⟨rfl, fun a K hK => ?_⟩
      simp only [execOp]
      go_simp
      have m4 := h1.size
      refine hK (.pointer (some ⟨w.heap.size, 0, none⟩)) _ ⟨bw_al h1 (by omega) _, h2.al _, h3.al _, h4.al _, fun h => ?_, fun _ => ⟨w.heap.size, by simp, by omega, Blk.mk_ w rfl rfl⟩, fun h _ => ?_, fun h => ?_, fun h => ?_⟩
      · obtain ⟨g, x1, x2, x3⟩ := h5 (by simpa using h)
        exact ⟨g, by simpa using x1, x2, x3.al _⟩
      · obtain ⟨g, x1, x2, x3⟩ := h5 (by simpa using h)
        have := x3.lt
        intro heq
        simp [x1] at heq
        try omega
      · simpa using h8 (by simpa using h)
      · simp [hp8] at h
    · intro L T w hL hpre hpost hG
      obtain ⟨h1, h2, h3, h4, h5, h6, h7, h8, h9⟩ := hG
      refine .inl ⟨rfl, fun a K hK => ?_⟩
      simp only [execOp]
      go_simp
      exact hK _ _ ⟨h1, h2, h3, h4, fun h => by simpa using h5 (by simpa using h), fun h => by simpa using h6 (by simpa using h), fun h h' => by simpa using h7 (by simpa using h) (by simpa using h'), fun _ => by simp, fun h => by simpa using h9 (by simpa using h)⟩
    · intro L T w hL hpre hpost hG
      obtain ⟨h1, h2, h3, h4, h5, h6, h7, h8, h9⟩ := hG
      refine .inl ⟨rfl, fun a K hK => ?_⟩
      simp only [execOp]
      go_simp
      exact hK _ _ ⟨h1, h2, h3, h4, fun h => by simpa using h5 (by simpa using h), fun h => by simpa using h6 (by simpa using h), fun h h' => by simpa using h7 (by simpa using h) (by simpa using h'), fun h => by simpa using h8 (by simpa using h), fun _ => by simp⟩
  case hend =>
    intro L T wr hall hG
    obtain ⟨h1, h2, h3, h4, h5, h6, h7, h8, h9⟩ := hG
    obtain ⟨g, x1, x2, x3⟩ := h5 (hall 2 (by decide) (by kernel_rfl))
    obtain ⟨gx, y1, y2, y3⟩ := h6 (hall 6 (by decide) (by kernel_rfl))
    have z1 := h7 (hall 2 (by decide) (by kernel_rfl)) (hall 6 (by decide) (by kernel_rfl))
    have z2 := h8 (hall 7 (by decide) (by kernel_rfl))
    have z3 := h9 (hall 8 (by decide) (by kernel_rfl))
    rw [x1] at z1 z2
    rw [y1] at z1 z3
    have hgx : g ≠ gx := fun h => z1 (by rw [h])
    have inv0 : CInv B w wr gp (gp + 1) g gx b0 b1 b2 b3 b4 b5 b6 ⟨0, 0, 0, bnd b4, bnd b2, true⟩ Pow.fresh ⟨false, -1⟩ :=
      ⟨bw_then uB (by rw [hS]; exact h1) (by omega), h3, h4, x3, y3, PowRel.fresh, rfl, rfl, rfl, Int.le_refl _, by omega, by omega⟩
    simp only [fillT, fillP, List.foldl_cons, List.foldl_nil, Act.put, x1, y1, z2, z3]
    have hEl1 := hEl
    clear h1 h2 h3 h4 h5 h6 h7 h8 h9 x1 x3 y1 y3 z1 z2 z3 u0 uP a5 a7 hall L T
    go_upto_region 6 with fail
    go_loopw [9] (fun i wi => ∃ (k : Nat) (c : CellM) (p : Pow) (q : RPow), k ≤ n ∧ i = .int .i64 k ∧ CInv B w wi gp (gp + 1) g gx b0 b1 b2 b3 b4 b5 b6 c p q) (fun i _ => n - (intOf i).toNat)
    case atStart => exact ⟨0, _, _, _, Nat.zero_le _, rfl, inv0⟩
    case round =>
      obtain ⟨k, c, p, q, hk, rfl, inv⟩ := hrel
      by_cases hlt : k < n
      · obtain ⟨kd, a, b, m, hkd0, hkd1, ha, hb, hm, hf⟩ := hact k hlt
        obtain ⟨A', cap', hv, _, _, hall⟩ := hEl1
        obtain ⟨bb, oo, hA', hblt, hcell⟩ := hall (by omega)
        obtain rfl : A = some ⟨bb, oo, none⟩ := by cases hv; exact hA'
        have e := (hcell k hlt).2
        rw [hf] at e
        have hbB : bb < B := by omega
        have e0 : wr.cell? ⟨bb, oo + k * 4, none⟩ = some (.int .u8 kd) := (inv.bl.cell (p := ⟨bb, oo + k * 4, none⟩) hbB).trans (e 0 (by omega))
        have e1 : wr.cell? ⟨bb, oo + k * 4 + 1, none⟩ = some (.int .i64 a) := (inv.bl.cell (p := ⟨bb, oo + k * 4 + 1, none⟩) hbB).trans (e 1 (by omega))
        have e2 : wr.cell? ⟨bb, oo + k * 4 + 2, none⟩ = some (.int .i64 b) := (inv.bl.cell (p := ⟨bb, oo + k * 4 + 2, none⟩) hbB).trans (e 2 (by omega))
        have e3 : wr.cell? ⟨bb, oo + k * 4 + 3, none⟩ = some (.int .i64 m) := (inv.bl.cell (p := ⟨bb, oo + k * 4 + 3, none⟩) hbB).trans (e 3 (by omega))
        clear e hcell hall hv hf
        obtain ⟨kr, hkr⟩ : ∃ kr, kd % 5 = kr := ⟨_, rfl⟩
        obtain ⟨e, he⟩ : ∃ e, q.act.2 = e := ⟨_, rfl⟩
        have he' : p.act.2 = e := inv.rel.act.2.trans he
        have hne := inv.ne
        have hfar := inv.far
        have hml : c.ml ≤ 1099511627776 := by rw [inv.hml]; exact bnd_hi _
        by_cases h0 : kr = 0
        · subst h0
          go_upto_region 22 with (first
            | (go_at_call 37; refine (birth_any c g gp p _ inv.bC inv.hmade inv.bP inv.rel.ok (by omega) inv.life0 hml).mono ?_; rintro ee w2 ⟨rfl, f1, f2, f3⟩; rw [he'] at f1; have f7 := inv.bX.turns f3 (by omega); have f8 := inv.bQ.turns f3 (by omega))
            | (go_at_call 44; refine (rbirth_any c gx (gp + 1) b0 b1 b2 b3 b4 b5 b6 q _ f7 f8 inv.rel.le (by omega) inv.life0 inv.hml).mono ?_; rintro ee wn ⟨rfl, f4, f5, f6⟩; rw [he] at f4))
          have invn := inv.next f1 f2 f3 f4 f5 f6 (inv.rel.actIf _) (c.birth_keeps e inv.life0)
          generalize (c.birth e).1 = c' at *
          generalize p.actIf c.asksB = p' at *
          generalize q.actIf c.asksB = q' at *
          clear f1 f2 f3 f4 f5 f6 f7 f8
          refine region_plan ⟨[0, 1, 0, 4, 12, 28, 63, 127, 255, 511, 255, 1279, 3327, 7423, 16383, 32767], [1, 9], [0, 0, 0, 0, 0, 0, 1, 1, 1, 1, 1, 1, 1, 1, 2, 2]⟩
            [⟨[0, 2, 3, 4, 5], [3, 4, 5], some 1⟩, ⟨[6, 7, 8, 10, 11, 12, 13], [3, 4, 5, 6, 11, 12, 13], some 9⟩, ⟨[14, 15], [11, 12, 13, 14], none⟩] 117 (by kernel_rfl) (by kernel_rfl) (by kernel_rfl) (by kernel_rfl) rfl ?_
          simp only [SeqGo, opsAt_cons, opsAt_nil, List.getElem?_cons, Option.toList_some, List.singleton_append, ↓reduceIte, Nat.reduceEqDiff, Nat.reduceSub]
          have k8 : wn.cell? ⟨gx, 8, none⟩ = some (.int .i64 c'.life) := invn.bX.at_ 8 rfl
          have k9 : wn.cell? ⟨gx, 9, none⟩ = some (.int .i64 c'.pl) := invn.bX.at_ 9 rfl
          have k10 : wn.cell? ⟨gx, 10, none⟩ = some (.int .i64 c'.pn) := invn.bX.at_ 10 rfl
          go_wp2_with fail
          refine ⟨by (simp only [Sames, Same]; go_simp), ?_⟩
          go_wp2_with (go_at_call 39; refine (life_any c' _ g _ invn.d1.bC).mono ?_; rintro ee w9 ⟨rfl, hw9⟩; subst hw9)
          refine ⟨by (simp only [Sames, Same]; go_simp), ?_⟩
          go_wp2_with (go_at_call 40; refine (pin_any c' _ g _ invn.d1.bC).mono ?_; rintro ee w9 ⟨rfl, hbl⟩; have inv9 := invn.d1.stay hbl; have j9 : w9.cell? ⟨gx, 9, none⟩ = some (.int .i64 c'.pl) := inv9.bX.at_ 9 rfl; have j10 : w9.cell? ⟨gx, 10, none⟩ = some (.int .i64 c'.pn) := inv9.bX.at_ 10 rfl)
          refine ⟨by (simp only [Sames, Same]; go_simp), ?_⟩
          go_wp2_with fail
          exact ⟨⟨k + 1, _, _, _, by omega, by simp, inv9⟩, by simp [intOf]; omega⟩
        by_cases h3 : kr = 3
        · subst h3
          go_upto_region 22 with (first
            | (go_at_call 45; refine (fuse_any p m gp _ inv.bP inv.rel.made).mono ?_; rintro ee w2 ⟨rfl, f1, f2⟩; have f7 := inv.bQ.only f2 (by omega); have e3' : w2.cell? ⟨bb, oo + k * 4 + 3, none⟩ = some (.int .i64 m) := (Turns.of_only (S := fun k => k = gp) f2 rfl).cell (by intro hh; change bb = gp at hh; omega) e3)
            | (go_at_call 46; refine (rfuse_any q m (gp + 1) _ f7).mono ?_; rintro ee wn ⟨rfl, f4, f5⟩))
          have invn := inv.power f1 f2 f4 f5 (inv.rel.fuse hm.2)
          obtain ⟨c', hc'⟩ : ∃ c', c = c' := ⟨_, rfl⟩
          rw [hc'] at invn
          clear f1 f2 f4 f5 f7 e3'
          refine region_plan ⟨[0, 1, 0, 4, 12, 28, 63, 127, 255, 511, 255, 1279, 3327, 7423, 16383, 32767], [1, 9], [0, 0, 0, 0, 0, 0, 1, 1, 1, 1, 1, 1, 1, 1, 2, 2]⟩
            [⟨[0, 2, 3, 4, 5], [3, 4, 5], some 1⟩, ⟨[6, 7, 8, 10, 11, 12, 13], [3, 4, 5, 6, 11, 12, 13], some 9⟩, ⟨[14, 15], [11, 12, 13, 14], none⟩] 117 (by kernel_rfl) (by kernel_rfl) (by kernel_rfl) (by kernel_rfl) rfl ?_
          simp only [SeqGo, opsAt_cons, opsAt_nil, List.getElem?_cons, Option.toList_some, List.singleton_append, ↓reduceIte, Nat.reduceEqDiff, Nat.reduceSub]
          have k8 : wn.cell? ⟨gx, 8, none⟩ = some (.int .i64 c'.life) := invn.bX.at_ 8 rfl
          have k9 : wn.cell? ⟨gx, 9, none⟩ = some (.int .i64 c'.pl) := invn.bX.at_ 9 rfl
          have k10 : wn.cell? ⟨gx, 10, none⟩ = some (.int .i64 c'.pn) := invn.bX.at_ 10 rfl
          go_wp2_with fail
          refine ⟨by (simp only [Sames, Same]; go_simp), ?_⟩
          go_wp2_with (go_at_call 39; refine (life_any c' _ g _ invn.d1.bC).mono ?_; rintro ee w9 ⟨rfl, hw9⟩; subst hw9)
          refine ⟨by (simp only [Sames, Same]; go_simp), ?_⟩
          go_wp2_with (go_at_call 40; refine (pin_any c' _ g _ invn.d1.bC).mono ?_; rintro ee w9 ⟨rfl, hbl⟩; have inv9 := invn.d1.stay hbl; have j9 : w9.cell? ⟨gx, 9, none⟩ = some (.int .i64 c'.pl) := inv9.bX.at_ 9 rfl; have j10 : w9.cell? ⟨gx, 10, none⟩ = some (.int .i64 c'.pn) := inv9.bX.at_ 10 rfl)
          refine ⟨by (simp only [Sames, Same]; go_simp), ?_⟩
          go_wp2_with fail
          exact ⟨⟨k + 1, _, _, _, by omega, by simp, inv9⟩, by simp [intOf]; omega⟩
        by_cases h4 : kr = 4
        · subst h4
          go_upto_region 22 with (first
            | (go_at_call 47; refine (mend_any p gp _ inv.bP inv.rel.made).mono ?_; rintro ee w2 ⟨rfl, f1, f2⟩; have f7 := inv.bQ.only f2 (by omega); have f8 := f7.free 0; have f9 := f7.free 1; have f10 := f7.at_ 0 rfl; have f11 := f7.at_ 1 rfl))
          have invn := inv.power (q' := ⟨false, -1⟩) f1 f2 ((f7.set 0 (.bool false)).set 1 (.int .i64 (-1))) ((Only.set _ _ _ _).trans (Only.set _ _ _ _)) PowRel.fresh
          generalize ((w2.setCell ⟨gp + 1, 0, none⟩ (.bool false)).setCell ⟨gp + 1, 1, none⟩ (.int .i64 (-1))) = wn at *
          obtain ⟨c', hc'⟩ : ∃ c', c = c' := ⟨_, rfl⟩
          rw [hc'] at invn
          clear f1 f2 f7 f8 f9 f10 f11
          refine region_plan ⟨[0, 1, 0, 4, 12, 28, 63, 127, 255, 511, 255, 1279, 3327, 7423, 16383, 32767], [1, 9], [0, 0, 0, 0, 0, 0, 1, 1, 1, 1, 1, 1, 1, 1, 2, 2]⟩
            [⟨[0, 2, 3, 4, 5], [3, 4, 5], some 1⟩, ⟨[6, 7, 8, 10, 11, 12, 13], [3, 4, 5, 6, 11, 12, 13], some 9⟩, ⟨[14, 15], [11, 12, 13, 14], none⟩] 117 (by kernel_rfl) (by kernel_rfl) (by kernel_rfl) (by kernel_rfl) rfl ?_
          simp only [SeqGo, opsAt_cons, opsAt_nil, List.getElem?_cons, Option.toList_some, List.singleton_append, ↓reduceIte, Nat.reduceEqDiff, Nat.reduceSub]
          have k8 : wn.cell? ⟨gx, 8, none⟩ = some (.int .i64 c'.life) := invn.bX.at_ 8 rfl
          have k9 : wn.cell? ⟨gx, 9, none⟩ = some (.int .i64 c'.pl) := invn.bX.at_ 9 rfl
          have k10 : wn.cell? ⟨gx, 10, none⟩ = some (.int .i64 c'.pn) := invn.bX.at_ 10 rfl
          go_wp2_with fail
          refine ⟨by (simp only [Sames, Same]; go_simp), ?_⟩
          go_wp2_with (go_at_call 39; refine (life_any c' _ g _ invn.d1.bC).mono ?_; rintro ee w9 ⟨rfl, hw9⟩; subst hw9)
          refine ⟨by (simp only [Sames, Same]; go_simp), ?_⟩
          go_wp2_with (go_at_call 40; refine (pin_any c' _ g _ invn.d1.bC).mono ?_; rintro ee w9 ⟨rfl, hbl⟩; have inv9 := invn.d1.stay hbl; have j9 : w9.cell? ⟨gx, 9, none⟩ = some (.int .i64 c'.pl) := inv9.bX.at_ 9 rfl; have j10 : w9.cell? ⟨gx, 10, none⟩ = some (.int .i64 c'.pn) := inv9.bX.at_ 10 rfl)
          refine ⟨by (simp only [Sames, Same]; go_simp), ?_⟩
          go_wp2_with fail
          exact ⟨⟨k + 1, _, _, _, by omega, by simp, inv9⟩, by simp [intOf]; omega⟩
        · go_upto_region 9 with fail
          refine region_plan ⟨[0, 0, 0, 6, 14, 30, 63, 0, 0, 0, 768, 1792, 3840, 8191, 16383], [6, 13], [0, 0, 0, 0, 0, 0, 0, 0, 0, 0, 0, 0, 0, 1, 2]⟩
            [⟨[0, 1, 2, 3, 4, 5, 7, 8, 9, 10, 11, 12], [3, 4, 5, 10, 11, 12], some 6⟩, ⟨[], [10, 11, 12], some 13⟩, ⟨[14], [14], none⟩] 117 (by kernel_rfl) (by kernel_rfl) (by kernel_rfl) (by kernel_rfl) rfl ?_
          simp only [SeqGo, opsAt_cons, opsAt_nil, List.getElem?_cons, Option.toList_some, List.singleton_append, ↓reduceIte, Nat.reduceEqDiff, Nat.reduceSub]
          go_wp2_with fail
          refine ⟨by (simp only [Sames, Same]; go_simp), ?_⟩
          go_wp2_with (go_at_call 38; refine (raise_any c a b g gp p _ inv.d1.bC inv.hmade inv.d1.bP inv.rel.ok (by omega)).mono ?_; rintro ee w2 ⟨rfl, f1, f2, f3⟩; rw [he'] at f1; have f7 := inv.d1.bX.turns f3 (by omega); have f8 := inv.d1.bQ.turns f3 (by omega); have e1' := f3.cell (by intro hh; change bb = g ∨ bb = gp at hh; omega) (show wr.drew.cell? ⟨bb, oo + k * 4 + 1, none⟩ = some (.int .i64 a) from e1); have e2' := f3.cell (by intro hh; change bb = g ∨ bb = gp at hh; omega) (show wr.drew.cell? ⟨bb, oo + k * 4 + 2, none⟩ = some (.int .i64 b) from e2))
          refine ⟨by (simp only [Sames, Same]; go_simp), ?_⟩
          go_wp2_with (go_at_call 48; refine (rraise_any c a b gx (gp + 1) b0 b1 b2 b3 b4 b5 b6 q _ f7 f8 inv.rel.le (by omega) inv.hmp).mono ?_; rintro ee wn ⟨rfl, f4, f5, f6⟩; rw [he] at f4)
          refine ⟨by (simp only [Sames, Same]; go_simp), ?_⟩
          go_upto_region 22 with fail
          have invn := inv.d1.next f1 f2 f3 f4 f5 f6 (inv.rel.actIf _) (c.raise_keeps a b e inv.life0)
          generalize (c.raise a b e).1 = c' at *
          generalize p.actIf (c.asksR a b) = p' at *
          generalize q.actIf (c.asksR a b) = q' at *
          clear f1 f2 f3 f4 f5 f6 f7 f8 e1' e2'
          refine region_plan ⟨[0, 1, 0, 4, 12, 28, 63, 127, 255, 511, 255, 1279, 3327, 7423, 16383, 32767], [1, 9], [0, 0, 0, 0, 0, 0, 1, 1, 1, 1, 1, 1, 1, 1, 2, 2]⟩
            [⟨[0, 2, 3, 4, 5], [3, 4, 5], some 1⟩, ⟨[6, 7, 8, 10, 11, 12, 13], [3, 4, 5, 6, 11, 12, 13], some 9⟩, ⟨[14, 15], [11, 12, 13, 14], none⟩] 117 (by kernel_rfl) (by kernel_rfl) (by kernel_rfl) (by kernel_rfl) rfl ?_
          simp only [SeqGo, opsAt_cons, opsAt_nil, List.getElem?_cons, Option.toList_some, List.singleton_append, ↓reduceIte, Nat.reduceEqDiff, Nat.reduceSub]
          have k8 : wn.cell? ⟨gx, 8, none⟩ = some (.int .i64 c'.life) := invn.bX.at_ 8 rfl
          have k9 : wn.cell? ⟨gx, 9, none⟩ = some (.int .i64 c'.pl) := invn.bX.at_ 9 rfl
          have k10 : wn.cell? ⟨gx, 10, none⟩ = some (.int .i64 c'.pn) := invn.bX.at_ 10 rfl
          go_wp2_with fail
          refine ⟨by (simp only [Sames, Same]; go_simp), ?_⟩
          go_wp2_with (go_at_call 39; refine (life_any c' _ g _ invn.d1.bC).mono ?_; rintro ee w9 ⟨rfl, hw9⟩; subst hw9)
          refine ⟨by (simp only [Sames, Same]; go_simp), ?_⟩
          go_wp2_with (go_at_call 40; refine (pin_any c' _ g _ invn.d1.bC).mono ?_; rintro ee w9 ⟨rfl, hbl⟩; have inv9 := invn.d1.stay hbl; have j9 : w9.cell? ⟨gx, 9, none⟩ = some (.int .i64 c'.pl) := inv9.bX.at_ 9 rfl; have j10 : w9.cell? ⟨gx, 10, none⟩ = some (.int .i64 c'.pn) := inv9.bX.at_ 10 rfl)
          refine ⟨by (simp only [Sames, Same]; go_simp), ?_⟩
          go_wp2_with fail
          exact ⟨⟨k + 1, _, _, _, by omega, by simp, inv9⟩, by simp [intOf]; omega⟩
      · go_wp2_with (go_at_call 30; refine (awake10_any _).mono ?_; rintro e9 w9 ⟨rfl, hbl⟩)
        all_goals go_ret
        exact ⟨rfl, by rw [hB]; exact bw_then inv.bl hbl (by have := inv.bC.lt; have := inv.far; omega)⟩

set_option maxRecDepth 100000 in
theorem contract (H : Type) (enc : TypeId × Value → H) (W : World) (base : Nat) (args : Array Value) (ds gs : List (DataW H)) (before : List MemPlace)
    (hval : ∀ (j : Nat) t v, Try.f9.params[j]? = some t → args[j]? = some v → Value.okWide Try.prog W .any base t v)
    (hW : DataW.Whole enc Try.prog Try.f9.params.toList Rows.cellPlaysSpec.vars false W args.toList ds gs before) :
    Calls Try.prog 9 args W fun e W' => ∃ v, e = .returned v ∧ Rows.cellPlaysSpec.post enc Try.prog Try.f9 false true false false W args v W' := by
  have hW' := hW
  obtain ⟨p, q, hA0, hV, rfl, hfz, hnd⟩ := hW
  have hA : DataW.TrodAll enc Try.prog W 0 (fun _ => true) true Try.f9.params.toList args.toList ds p := hA0
  rw [Try.params9] at hA hval
  obtain ⟨v0, vs0, d0, ds0, p0, q0, hargs0, rfl, rfl, h0, r0⟩ := trodAll_cons hA
  obtain ⟨v1, vs1, d1, ds1, p1, q1, hargs1, e1, rfl, h1, r1⟩ := trodAll_cons r0
  subst e1
  obtain ⟨e9, e8, e7⟩ := trodAll_nil r1
  subst e9 e8 e7
  obtain rfl : args = #[v0, v1] := by cases args; simp_all
  obtain ⟨rfl, rfl⟩ := trodVars_none hV
  have hv0 := hval 0 _ v0 rfl rfl
  have hv1 := hval 1 _ v1 rfl rfl
  clear hA0
  obtain ⟨fuel0, hf0⟩ := h0
  obtain ⟨fuel1, hf1⟩ := h1
  obtain ⟨b0, b1, b2, b3, b4, b5, b6, _, _, _, _, _, _, _, ha⟩ := bounds_of_trod hf0
  obtain ⟨x0, rfl⟩ : ∃ cs, v0 = .agg cs := by simp only [Value.okWide] at hv0; obtain ⟨cs, h, _⟩ := hv0; exact ⟨cs, h⟩
  obtain rfl : x0 = #[.int .i64 b0, .int .i64 b1, .int .i64 b2, .int .i64 b3, .int .i64 b4, .int .i64 b5, .int .i64 b6] := by apply Array.toList_inj.1; simpa [Value.cells] using ha
  obtain ⟨n, f, hEl, hact⟩ := els_of_trod (sz := 4) Try.underlying72 (by kernel_rfl) (by omega) (Pe := ActOK) (fun n cs' d h => by
    obtain ⟨k, a, b, m, h0, h1, h2, h3, h4⟩ := actc_of_trod h
    simp [Lit.wf] at h0
    have q1 : IntKind.u8.min = 0 := rfl
    have q2 : IntKind.u8.max = 255 := rfl
    exact ⟨k, a, b, m, by omega, by omega, h1, h2, in64_of_wf h3, h4⟩) (v := v1) (by rw [← one_of_ok Try.underlying72 rfl hv1]; exact hf1)
  refine (walk b0 b1 b2 b3 b4 b5 b6 v1 n f W hEl hact).mono fun e W' ⟨he, hb⟩ => ⟨_, he, ?_⟩
  exact law_post Try.laidOut (by kernel_rfl) (by kernel_rfl) Try.underlying4 rfl rfl rfl rfl hW' hb

set_option maxRecDepth 100000 in
theorem lifted (os : Os) (started : os.Started) (H : Type) (enc : TypeId × Value → H) (F : Stop.Interp) :
    ReturnsInHanded {} Try.checked os 9 .any ((OpenSpec.ofChange Rows.cellPlaysSpec).preRow enc Try.prog Try.f9 Rows.cellPlaysRow.domain false Rows.cellPlaysRow.laid) (((OpenSpec.ofChange Rows.cellPlaysSpec).at F).post enc Try.prog Try.f9 false true false false) := by
  obtain ⟨places, hx⟩ : ∃ places, DataW.whole enc Try.prog ((World.holding Try.prog os ⟨#[], #[], []⟩).forCall (fun _ _ => 0) ⟨#[], #[.agg #[.int .i64 0, .int .i64 0, .int .i64 0, .int .i64 0, .int .i64 0, .int .i64 0, .int .i64 0], .slice none 0 0], []⟩).memory Try.f9.params.toList Rows.cellPlaysSpec.vars false #[.agg #[.int .i64 0, .int .i64 0, .int .i64 0, .int .i64 0, .int .i64 0, .int .i64 0, .int .i64 0], .slice none 0 0].toList 8 = some ([.agg [.lit (.int .i64 0), .lit (.int .i64 0), .lit (.int .i64 0), .lit (.int .i64 0), .lit (.int .i64 0), .lit (.int .i64 0), .lit (.int .i64 0)], .nil], [], places) := ⟨[], by kernel_rfl⟩
  refine returnsInHanded_of_row (C := Try.checked) (s := OpenSpec.ofChange Rows.cellPlaysSpec) Try.own started (by kernel_rfl) Try.func9
    (witness_row_at (enc := enc) (C := Try.checked) false (World.holding Try.prog os ⟨#[], #[], []⟩) #[.agg #[.int .i64 0, .int .i64 0, .int .i64 0, .int .i64 0, .int .i64 0, .int .i64 0, .int .i64 0], .slice none 0 0] rfl (by kernel_rfl) (by kernel_rfl) (by kernel_rfl)
      (OpenSpec.preRow_of_cond 8 hx (by kernel_rfl) (fun k hk => by cases hk) (by kernel_rfl) (laid_none _ _))) ?_
  intro W base args ds gs before hval hW _ _ _ _ _ _
  exact contract H enc W base args ds gs before hval hW

theorem proved : Rows.CellPlaysSaid :=
  OpenClaim.holds_of_cond 9 Try.f9 rfl rfl rfl rfl rfl rfl rfl ⟨rfl, rfl, rfl, rfl, rfl⟩ rfl rfl rfl rfl rfl (by kernel_rfl) Try.func9 (by kernel_rfl)
    (of_decide_eq_true (by kernel_rfl)) (by unfold Func.isWrapper; first | (rw [if_pos (by decide +kernel)]; kernel_rfl) | (rw [if_neg (by decide +kernel)]; exact ⟨rfl, rfl⟩))
    (fun os started H enc _ F => by rw [OpenClaim.pre_eq_preRow]; exact lifted os started H enc F)
end Go.Proofs.Ytlgcnnhlbkidmaa.lawCellPlays
