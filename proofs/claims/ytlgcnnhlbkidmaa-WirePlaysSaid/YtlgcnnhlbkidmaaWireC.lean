/-
  A new wire.
-/
import Derived.Test.YtlgcnnhlbkidmaaWireS
import Derived.OwnWalk
namespace Go.Proofs.Ytlgcnnhlbkidmaa
open Go.RowKit Go.Conc

theorem info_lane : (Try.prog.info? 132).map (fun i => (i.zero, i.size, i.bytes)) = some (some (.agg #[.chan none, .slice none 0 0]), 2, 32) := by kernel_rfl
theorem mk200 (w : World) : (Instr.makeChan 130 (.int .i64 200)).run Try.prog w = .ok (.chan (some w.heap.size)) (w.alloc (.chan 200 #[] false 0 0 false)) := by
  have h : (Try.prog.info? 22).map (·.bytes) = some 24 := by kernel_rfl
  obtain ⟨i, hi, hb⟩ := Option.map_eq_some_iff.1 h
  simpa using run_makeChan (P := Try.prog) (w := w) Try.underlying130 hi .i64 200 (by omega) (by rw [hb]; omega)
/-- The lanes of new ways. -/
def lanesC (chs : List Nat) : List Value := chs.flatMap fun c => [.chan (some c), .slice none 0 0]
theorem lanesC_len (chs : List Nat) : (lanesC chs).length = chs.length * 2 := by
  induction chs with
  | nil => rfl
  | cons c r ih => simp only [lanesC, List.flatMap_cons, List.length_append, List.length_cons, List.length_nil] at ih ⊢; omega
theorem lanesC_snoc (chs : List Nat) (c : Nat) : lanesC (chs ++ [c]) = lanesC chs ++ [.chan (some c), .slice none 0 0] := by simp [lanesC]
theorem lanesC_get (chs : List Nat) : ∀ i c, chs[i]? = some c → (lanesC chs)[i * 2]? = some (.chan (some c)) ∧ (lanesC chs)[i * 2 + 1]? = some (.slice none 0 0) := by
  induction chs with
  | nil => intro i c h; simp at h
  | cons x r ih =>
    intro i c h
    cases i with
    | zero => simp at h; subst h; exact ⟨rfl, rfl⟩
    | succ i =>
      have := ih i c (by simpa using h)
      simp only [lanesC, List.flatMap_cons] at this ⊢
      rw [show (i + 1) * 2 = i * 2 + 2 by omega, show i * 2 + 2 + 1 = (i * 2 + 1) + 2 by omega]
      exact this
structure NInv (w wr : World) (p : Nat) (v : Value) (chs : List Nat) : Prop where
  head : Blk wr p [v] 129
  own : wr.ownsRow (p + 1) 132 2 v chs.length (lanesC chs)
  ch : ∀ c ∈ chs, wr.heap[c]? = some (.chan 200 #[] false 0 0 false) ∧ p < c
  nd : chs.Nodup
  b : Below w.heap.size w wr

open Classical in
/-- What is whose in a new wire. -/
noncomputable def ownN (p g : Nat) (chs : List Nat) (b : Nat) : Option Spot :=
  if b = p then some (0, 0, 0) else if b = g then some (1, 0, 0) else if b ∈ chs then some (2, chs.idxOf b, 0) else none
theorem NInv.wire {w wr : World} {p : Nat} {v : Value} {chs : List Nat} (h : NInv w wr p v chs) (hp : w.heap.size ≤ p) (h1 : 0 < chs.length) (h64 : chs.length ≤ 64) : ∃ own, Wire wr w.heap.size p own (List.replicate chs.length ([], 0)) := by
  have hlen := lanesC_len chs
  rcases h.own.2 with ⟨_, h0⟩ | ⟨g, cap, cur, rfl, hg1, hg2, hg3, hg4, hg5, hg6⟩
  · omega
  have hgl := (Array.getElem?_eq_some_iff.1 hg2).1
  have hcg : ∀ c ∈ chs, c ≠ g := fun c hc e => by subst e; have := (h.ch c hc).1; rw [hg2] at this; cases this
  have hcell : ∀ j x, (lanesC chs)[j]? = some x → cur.toList[j]? = some x := fun j x hx => by
    have hj := (List.getElem?_eq_some_iff.1 hx).1
    rw [← hg6, List.getElem?_take_of_lt (by omega)] at hx
    exact hx
  refine ⟨ownN p g chs, g, cap, cur.toList, ⟨?_, by unfold ownN; rw [if_pos rfl], ?_, by unfold ownN; rw [if_neg (by omega), if_pos rfl], fun i l hl => ?_, by rw [List.length_replicate]; exact h64, by rw [List.length_replicate]; unfold maxLen at hg4; omega, fun b s hb => ?_⟩⟩
  · rw [List.length_replicate]; exact h.head
  · show wr.heap[g]? = _
    rw [hg2]
  · have hil : i < chs.length := by have := (List.getElem?_eq_some_iff.1 hl).1; rwa [List.length_replicate] at this
    rw [List.getElem?_replicate, if_pos hil] at hl
    cases hl
    obtain ⟨c, hc⟩ : ∃ c, chs[i]? = some c := ⟨_, List.getElem?_eq_getElem hil⟩
    have hcm := List.mem_of_getElem? hc
    have e := lanesC_get chs i c hc
    refine ⟨_, _, hcell _ _ e.1, hcell _ _ e.2, ⟨⟨c, #[], 0, 0, rfl, ?_, (h.ch c hcm).1, rfl, fun j v hj => by simp at hj⟩, ⟨[], Part.nil _ _ _, (fun b hb => by obtain ⟨_, _, _, hb⟩ := hb; cases hb), rfl, (fun j v hj => by simp at hj)⟩, by decide, fun f hf => by simp at hf⟩⟩
    unfold ownN
    rw [if_neg (by have := (h.ch c hcm).2; omega), if_neg (hcg c hcm), if_pos hcm]
    have hix : chs.idxOf c = i := by
      obtain ⟨_, rfl⟩ := List.getElem?_eq_some_iff.1 hc
      exact h.nd.idxOf_getElem i hil
    rw [hix]
  · unfold ownN at hb
    split at hb
    · subst_vars; exact ⟨hp, h.head.lt⟩
    · split at hb
      · subst_vars; exact ⟨by omega, hgl⟩
      · split at hb
        · have := h.ch b ‹_›
          exact ⟨by omega, (Array.getElem?_eq_some_iff.1 this.1).1⟩
        · cases hb

set_option maxRecDepth 100000 in
set_option maxHeartbeats 2000000 in
theorem newwire_any (w : World) (n : Int) (hn : 1 ≤ n ∧ n ≤ 64) :
    Calls Try.prog 21 #[.int .i64 n] w fun e w' => ∃ p own, e = .returned (.pointer (some ⟨p, 0, none⟩)) ∧ Wire w' w.heap.size p own (List.replicate n.toNat ([], 0)) ∧ Below w.heap.size w w' := by
  obtain ⟨i, hi, hz0, hz1, hz2⟩ := info_parts info_lane
  obtain ⟨m, rfl⟩ := Int.eq_ofNat_of_zero_le (show 0 ≤ n by omega)
  have h1 : ¬ (m : Int) < 1 := by omega
  have h2 : ¬ (64 : Int) < (m : Int) := by omega
  have hm := hn
  obtain ⟨B, hB⟩ : ∃ B, w.heap.size = B := ⟨_, rfl⟩
  go_enter Try.func21, Try.ntmps21
  go_upto_region 4 with fail
  have inv0 : NInv w (w.alloc (.cells #[.slice none 0 0] 129)) B (.slice none 0 0) [] :=
    ⟨Blk.mk_ _ hB.symm rfl, World.ownsRow_nil _ _ _ _, fun c hc => by simp at hc, List.nodup_nil, bw_al (Below.refl _ _) (Nat.le_refl _) _⟩
  generalize w.alloc (.cells #[.slice none 0 0] 129) = w1 at *
  have HI0 := Lib.hid inv0
  clear inv0
  go_wp2_with fail
  go_loopw [13] (fun x wr => ∃ (v : Value) (chs : List Nat), chs.length ≤ m ∧ x = .int .i64 chs.length ∧ NInv w wr B v chs) (fun x _ => m - (intOf x).toNat)
  case atStart => exact ⟨_, [], Nat.zero_le _, rfl, HI0.out⟩
  case round =>
    obtain ⟨v, chs, hk, rfl, inv⟩ := hrel
    obtain ⟨wo, rfl⟩ : ∃ wo : World, wo = wr := ⟨_, rfl⟩
    obtain ⟨k, hkl⟩ : ∃ k, chs.length = k := ⟨_, rfl⟩
    have HI := Lib.hid inv
    have HKL := Lib.hid (fun _ : Unit => hkl)
    rw [hkl] at hk ⊢
    clear hkl HI0
    by_cases hlt : k < m
    · have hm200 := mk200
      have h0 := inv.head.at_ 0 rfl
      clear inv
      go_upto_region 6 with fail
      obtain ⟨C, hC⟩ : ∃ C, wo.heap.size = C := ⟨_, rfl⟩
      have hBC : B < C := by rw [← hC]; exact HI.out.head.lt
      have hcA : (wo.drew.alloc (.chan 200 #[] false 0 0 false)).cell? ⟨B, 0, none⟩ = some v := ((HI.out.head.d1).al _).at_ 0 rfl
      have hcB : ((wo.drew.alloc (.chan 200 #[] false 0 0 false)).alloc (.cells #[.chan (some C), .slice none 0 0] 132)).cell? ⟨B, 0, none⟩ = some v := (((HI.out.head.d1).al _).al _).at_ 0 rfl
      refine region_plan ⟨[0, 0, 2, 6, 14, 0, 32, 96, 254, 511, 1023, 2047], [5, 7, 8, 11], [0, 0, 0, 0, 0, 0, 1, 1, 2, 3, 3, 3]⟩
        [⟨[0, 1, 2, 3, 4], [2, 3, 4], some 5⟩, ⟨[6], [2, 3, 4, 6], some 7⟩, ⟨[], [2, 3, 4], some 8⟩, ⟨[9, 10], [9, 10], some 11⟩, ⟨[], [], none⟩] 28 (by kernel_rfl) (by kernel_rfl) (by kernel_rfl) (by kernel_rfl) rfl ?_
      simp only [SeqGo, opsAt_cons, opsAt_nil, List.getElem?_cons, Option.toList_some, List.singleton_append, ↓reduceIte, Nat.reduceEqDiff, Nat.reduceSub]
      go_wp2_with fail
      refine ⟨by (simp only [Sames, Same]; go_simp), ?_⟩
      go_wp2_with fail
      refine ⟨by (simp only [Sames, Same]; go_simp), ?_⟩
      go_wp2_with fail
      refine ⟨by (simp only [Sames, Same]; go_simp), ?_⟩
      have ho4 : (((wo.alloc (.chan 200 #[] false 0 0 false)).alloc (.cells #[.chan (some C), .slice none 0 0] 132)).drew).ownsRow (B + 1) 132 2 v k (lanesC chs) := by
        have h := (HI.out.own.alloc (.chan 200 #[] false 0 0 false)).alloc (.cells #[.chan (some C), .slice none 0 0] 132)
        rw [HKL.out ()] at h
        exact h
      have b4 : Blk (((wo.alloc (.chan 200 #[] false 0 0 false)).alloc (.cells #[.chan (some C), .slice none 0 0] 132)).drew) (C + 1) [.chan (some C), .slice none 0 0] 132 := Blk.d1 (Blk.mk_ _ (by simp [hC]) rfl)
      have hd4 : Blk (((wo.alloc (.chan 200 #[] false 0 0 false)).alloc (.cells #[.chan (some C), .slice none 0 0] 132)).drew) B [v] 129 := Blk.d1 ((HI.out.head.al _).al _)
      have hch4 : (((wo.alloc (.chan 200 #[] false 0 0 false)).alloc (.cells #[.chan (some C), .slice none 0 0] 132)).drew).heap[C]? = some (.chan 200 #[] false 0 0 false) := (Below.heap_alloc _ _ C (by simp [hC])).trans (by subst hC; exact heap_alloc_new wo _)
      have bl4 : Below C wo (((wo.alloc (.chan 200 #[] false 0 0 false)).alloc (.cells #[.chan (some C), .slice none 0 0] 132)).drew) := bw_d1 (bw_al (bw_al (Below.refl _ _) (by omega) _) (by simp; omega) _)
      have hz4 : (((wo.alloc (.chan 200 #[] false 0 0 false)).alloc (.cells #[.chan (some C), .slice none 0 0] 132)).drew).heap.size = C + 2 := by simp [hC]
      generalize ((wo.alloc (.chan 200 #[] false 0 0 false)).alloc (.cells #[.chan (some C), .slice none 0 0] 132)).drew = w4 at *
      have hc1 : ∀ (j : Nat) u, [Value.chan (some C), .slice none 0 0][j]? = some u → w4.cell? ((⟨C + 1, 0, none⟩ : Addr).add j) = some u := by
        intro j u hj
        have h := b4.at_ j hj
        cases j with
        | zero => exact h
        | succ j => exact (show w4.cell? (Addr.add ⟨C + 1, 0, none⟩ (j + 1)) = some u from by simpa [Addr.add] using h)
      go_wp2_with (at_builtin; refine wpList_append_own w4 rfl (.tmp 19) (.tmp 22) 127 rfl (B + 1) 132 i _ 2 32 Try.underlying127 hi hz0 hz1 hz2 rfl (by decide) v k (lanesC chs) rfl ho4 ⟨C + 1, 0, none⟩ 1 1 [.chan (some C), .slice none 0 0] rfl rfl hc1 (by intro u hu; simp at hu; rcases hu with rfl | rfl <;> rfl) (by unfold maxLen; omega) (by omega) (by omega) ?_; intro v5 w5 ho5 hg5 _; obtain ⟨g5, cap5, cur5, rfl, q1, q2, q3⟩ : ∃ g cap cur, v5 = .slice (some ⟨g, 0, none⟩) (k + 1) cap ∧ B + 1 ≤ g ∧ w5.heap[g]? = some (.cells cur 132 (0, 0)) ∧ True := (by rcases ho5.2 with ⟨h, hh⟩ | ⟨g, cap, cur, h, h1, h2, _⟩; exact (by omega); exact ⟨g, cap, cur, h, h1, h2, trivial⟩))
      have hvB : ∀ q, v.ownBlock = some q → q ≠ B ∧ q ≠ C ∧ (∀ c ∈ chs, q ≠ c) ∧ B + 1 ≤ q := fun q hq => by
        rcases ho4.2 with ⟨rfl, _⟩ | ⟨g, cap, cur, rfl, h1, h2, _⟩
        · cases hq
        · simp only [Value.ownBlock, Option.some.injEq] at hq
          subst hq
          refine ⟨by omega, fun e => ?_, fun c hc e => ?_, h1⟩
          · subst e; rw [hch4] at h2; cases h2
          · subst e
            have h3 := (HI.out.ch g hc).1
            have hgl := (Array.getElem?_eq_some_iff.1 h3).1
            rw [bl4.block g (by rw [← hC]; exact hgl), h3] at h2
            cases h2
      have hB5 : w5.heap[B]? = w4.heap[B]? := hg5.block B (by have := hd4.lt; omega) fun e => (hvB B e.symm).1 rfl
      have hC5 : w5.heap[C]? = w4.heap[C]? := hg5.block C (by omega) fun e => (hvB C e.symm).2.1 rfl
      have hK5 : ∀ c ∈ chs, w5.heap[c]? = w4.heap[c]? ∧ c < C := fun c hc => by
        have hcl := (Array.getElem?_eq_some_iff.1 (HI.out.ch c hc).1).1
        exact ⟨hg5.block c (by omega) fun e => (hvB c e.symm).2.2.1 c hc rfl, by omega⟩
      have hd5 : Blk w5 B [v] 129 := hB5.trans hd4
      have c5 := hd5.at_ 0 rfl
      have f5 := hd5.free 0
      have H5 := Lib.hid (fun _ : Unit => (⟨hC5, hK5, hd5, ho5, hvB, q2⟩ : w5.heap[C]? = w4.heap[C]? ∧ (∀ c ∈ chs, w5.heap[c]? = w4.heap[c]? ∧ c < C) ∧ Blk w5 B [v] 129 ∧ w5.ownsRow (B + 1) 132 2 (.slice (some ⟨g5, 0, none⟩) (k + 1) cap5) (k + 1) (lanesC chs ++ [.chan (some C), .slice none 0 0]) ∧ (∀ q, v.ownBlock = some q → q ≠ B ∧ q ≠ C ∧ (∀ c ∈ chs, q ≠ c) ∧ B + 1 ≤ q) ∧ w5.heap[g5]? = some (.cells cur5 132 (0, 0))))
      have HG5 := Lib.hid hg5
      have HCH4 := Lib.hid (fun _ : Unit => hch4)
      have HBL4 := Lib.hid bl4
      clear hC5 hK5 hd5 ho5 hvB q2 hg5 hch4 bl4 hB5 hd4 b4 ho4 hc1 hcA hcB h0
      refine ⟨by (simp only [Sames, Same]; go_simp), ?_⟩
      go_wp2_with fail
      refine ⟨trivial, ?_⟩
      go_wp2_with fail
      obtain ⟨e1, e2, e3, e4, e5, e6⟩ := H5.out ()
      have hkl := HKL.out ()
      have hne : ∀ b, b ≠ B → (w5.setCell ⟨B, 0, none⟩ (.slice (some ⟨g5, 0, none⟩) (k + 1) cap5)).heap[b]? = w5.heap[b]? := fun b hb => (Only.set w5 B 0 _).block b hb
      have hCh := HCH4.out ()
      have hbw4 := HI.out.b.trans (HBL4.out.mono (by omega))
      have hbw5 : Below w.heap.size w w5 := hbw4.trans ((Below.refl _ _).grown HG5.out (by have := hbw4.size; omega) (fun q hq => by have := (e5 q hq).2.2.2; omega))
      refine ⟨⟨(.slice (some ⟨g5, 0, none⟩) (k + 1) cap5), chs ++ [C], by rw [List.length_append, hkl]; simp; omega, by rw [List.length_append, hkl]; simp, ⟨e3.set 0 _, ?_, ?_, ?_, bw_set hbw5 _ _ (by omega) _⟩⟩, by simp [intOf]; omega⟩
      · rw [lanesC_snoc, List.length_append, hkl]
        refine ⟨e4.1, e4.2.imp id fun ⟨g, cap, cur, h0, h1, h2, h3⟩ => ⟨g, cap, cur, h0, h1, (hne g (by omega)).trans h2, h3⟩⟩
      · intro c hc
        rcases List.mem_append.1 hc with hc | hc
        · have h1 := HI.out.ch c hc
          exact ⟨(hne c (by omega)).trans ((e2 c hc).1.trans ((HBL4.out.block c (e2 c hc).2).trans h1.1)), h1.2⟩
        · obtain rfl : c = C := by simpa using hc
          exact ⟨(hne c (by omega)).trans (e1.trans hCh), hBC⟩
      · refine List.nodup_append.2 ⟨HI.out.nd, by simp, fun a ha b hb => ?_⟩
        obtain rfl : b = C := by simpa using hb
        have := (e2 a ha).2
        omega
    · obtain rfl : k = m := by omega
      clear inv
      go_wp2_with fail
      all_goals go_ret
      obtain ⟨own, ho⟩ := HI.out.wire (by omega) (by rw [HKL.out ()]; omega) (by rw [HKL.out ()]; omega)
      rw [HKL.out ()] at ho
      exact ⟨B, own, rfl, by simpa using ho, HI.out.b⟩
end Go.Proofs.Ytlgcnnhlbkidmaa
