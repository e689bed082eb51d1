/-
  The reference's net: Send.
-/
import Derived.Test.YtlgcnnhlbkidmaaNetN
namespace Go.Proofs.Ytlgcnnhlbkidmaa
open Go.RowKit Go.Conc

def NSendOk (st : List WayS) (own : Nat → Option Spot) (B p k : Nat) (l : WayS) (xs : List Int) (w : World) (e : Ending) (w' : World) : Prop :=
  e = .returned (.int .i64 0) ∧ ∃ own', Net w' B p own' (st.set k (l.1 ++ [xs], l.2)) ∧ (∀ b, b < w.heap.size → own' b = own b) ∧ Turns (fun b => ∃ s, own b = some s) w w'
def NSendRes (st : List WayS) (own : Nat → Option Spot) (B p : Nat) (i : Int) (xs : List Int) (w : World) (e : Ending) (w' : World) : Prop :=
  match wayOf st i with
  | none => e = .returned (.int .i64 1) ∧ w = w'
  | some l => if 131072 < xs.length then e = .returned (.int .i64 5) ∧ w = w' else if 200 ≤ l.1.length then e = .returned (.int .i64 10) ∧ w = w' else NSendOk st own B p i.toNat l xs w e w'

open Classical in
noncomputable def ownT (own : Nat → Option Spot) (S : Nat) (v3 v5 : Value) (k n : Nat) (b : Nat) : Option Spot :=
  if b < S then own b else if hold v3 b then some (5, k, n) else if hold v5 b then some (3, k, 0) else none

set_option maxRecDepth 100000 in
set_option maxHeartbeats 2000000 in
theorem nsend_any (w : World) (B p : Nat) (own : Nat → Option Spot) (st : List WayS) (i : Int) (v : Value) (xs : List Int) (h : Net w B p own st) (hi : -9223372036854775808 ≤ i ∧ i ≤ 9223372036854775807) (hr : Rd w v (bs xs)) :
    Calls Try.prog 35 #[.pointer (some ⟨p, 0, none⟩), .int .i64 i, v] w (NSendRes st own B p i xs w) := by
  have hmx := hr.len
  rw [bs_len] at hmx
  have hlx : ∀ w', (Builtin.len_ #[22] 3 #[v]).run Try.prog w' = .ok (goInt xs.length) w' := by
    have := len_fact (P := Try.prog) hr (t := 22) (ty := 3) (by kernel_rfl)
    rwa [bs_len] at this
  have HR := Lib.hid hr
  have IS := Lib.hid (is_any w B p own st i h hi)
  clear hr
  unfold NSendRes
  cases hw : wayOf st i with
  | none =>
    have hn := wayOf_none hw
    have hd : decide (0 ≤ i ∧ i < (st.length : Int)) = false := by simpa using hn
    rw [hd] at IS
    clear h hw hn hd
    go_enter Try.func35, Try.ntmps35
    go_wp2_with (go_at_call 72; refine IS.out.mono ?_; rintro e w' ⟨rfl, rfl⟩)
    all_goals go_ret
    exact ⟨rfl, rfl⟩
  | some l =>
    obtain ⟨k, rfl, hk, hkl⟩ := wayOf_some hw
    have hd : decide (0 ≤ (k : Int) ∧ (k : Int) < (st.length : Int)) = true := by simp; omega
    rw [hd] at IS
    obtain ⟨g, cs, ha⟩ := h
    obtain ⟨bv, e1, e2, hl⟩ := ha.way k l hk
    have h0 := ha.head.at_ 0 rfl
    have h1 := ha.row.at_ _ e1
    obtain ⟨n, hn⟩ : ∃ n, st.length = n := ⟨_, rfl⟩
    rw [hn] at h0 hkl
    have hle : n ≤ 64 := by rw [← hn]; exact ha.le
    have hlv : ∀ w', (Builtin.len_ #[55] 3 #[bv]).run Try.prog w' = .ok (goInt l.1.length) w' := by
      obtain ⟨vals, b1, b2, b3, b4⟩ := hl.bag
      have := len_fact (P := Try.prog) b1.rd (t := 55) (ty := 3) (by kernel_rfl)
      rwa [b3] at this
    have hle2 := hl.le
    have hkk : ((k : Int)).toNat = k := by omega
    simp only [hkk]
    by_cases hb : 131072 < xs.length
    · simp only [if_pos hb]
      have hb' : (131072 : Int) < (xs.length : Int) := by omega
      clear hb ha hl hk e1 e2
      go_enter Try.func35, Try.ntmps35
      go_wp2_with (go_at_call 72; refine IS.out.mono ?_; rintro e w' ⟨rfl, rfl⟩)
      all_goals go_ret
      exact ⟨rfl, rfl⟩
    have hb' : ¬ (131072 : Int) < (xs.length : Int) := by omega
    by_cases hf : 200 ≤ l.1.length
    · simp only [if_neg hb, if_pos hf]
      have hf' : (200 : Int) ≤ (l.1.length : Int) := by omega
      clear hb hf ha hl hk e1 e2
      go_enter Try.func35, Try.ntmps35
      go_wp2_with (go_at_call 72; refine IS.out.mono ?_; rintro e w' ⟨rfl, rfl⟩)
      all_goals go_ret
      exact ⟨rfl, rfl⟩
    have hf' : ¬ (200 : Int) ≤ (l.1.length : Int) := by omega
    simp only [if_neg hb, if_neg hf]
    have HA := Lib.hid ha
    have HL := Lib.hid hl
    have HK := Lib.hid (fun _ : Unit => (⟨hk, e1, e2⟩ : st[k]? = some l ∧ cs[k * 2]? = some bv ∧ cs[k * 2 + 1]? = some (.int .i64 l.2)))
    clear ha hl hk e1 e2 hb
    go_enter Try.func35, Try.ntmps35
    go_upto_region 7 with (go_at_call 72; refine IS.out.mono ?_; rintro e w' ⟨rfl, rfl⟩)
    have CL0 := both_any w.drew (.slice none 0 0) v [] xs (Rd.nil _) (HR.out.stay (bw_d1 (Below.refl _ _)) (Nat.le_refl _)) (by simp only [List.length_nil]; omega)
    rw [List.nil_append] at CL0
    have CL := Lib.hid CL0
    clear CL0
    refine region_plan ⟨[0, 1, 3, 7, 0, 0, 32, 96, 224, 0, 992, 2016, 4064, 0, 8192, 24576, 65504, 131071, 262143, 524287], [14, 15, 16, 19], [0, 0, 0, 0, 0, 0, 0, 0, 0, 0, 0, 0, 0, 0, 0, 1, 2, 3, 3, 3]⟩
      [⟨[0, 1, 2, 3, 4, 5, 6, 7, 8, 9, 10, 11, 12, 13], [1, 2, 3, 6, 7, 8, 10, 11, 12], some 14⟩, ⟨[], [1, 2, 3, 6, 7, 8, 10, 11, 12], some 15⟩, ⟨[], [1, 2, 3, 6, 7, 8, 10, 11, 12], some 16⟩, ⟨[17, 18], [1, 2, 3, 17, 18], some 19⟩, ⟨[], [], none⟩] 43 (by kernel_rfl) (by kernel_rfl) (by kernel_rfl) (by kernel_rfl) rfl ?_
    simp only [SeqGo, opsAt_cons, opsAt_nil, List.getElem?_cons, Option.toList_some, List.singleton_append, ↓reduceIte, Nat.reduceEqDiff, Nat.reduceSub]
    go_wp2_with fail
    refine ⟨by (simp only [Sames, Same]; go_simp), ?_⟩
    go_wp2_with (go_at_call 73; refine CL.out.mono ?_; rintro e w3 ⟨v3, rfl, hb3, ho3⟩; obtain ⟨A3, n3, rfl, _⟩ := id (Rd.of_own ho3))
    obtain ⟨vals, b1, b2, b3, b4⟩ := HL.out.bag
    have hbl3 : Below w.heap.size w w3 := bw_then (bw_d1 (Below.refl _ _)) hb3 (Nat.le_refl _)
    have c30 := cell_stay hbl3 h0
    have c31 := cell_stay hbl3 h1
    have hbl4 : Below w.heap.size w (w3.alloc (.cells #[.slice A3 (bs xs).length n3] 22)) := bw_al hbl3 hbl3.size _
    have c40 := cell_stay hbl4 h0
    have c41 := cell_stay hbl4 h1
    have hp4 := b1.stay hbl4
    have hs4 : (w3.alloc (.cells #[.slice A3 (bs xs).length n3] 22)).heap.size = w3.heap.size + 1 := by simp
    have hal : ∀ b, b < w3.heap.size → (w3.alloc (.cells #[.slice A3 (bs xs).length n3] 22)).heap[b]? = w3.heap[b]? := fun b hb => Below.heap_alloc _ _ _ hb
    have hBs : B ≤ w3.heap.size + 1 := by have := HA.out.dom g _ HA.out.hg; have := hbl3.size; omega
    have hvl := b3
    have hbh : ∀ b, hold bv b → b < w.heap.size ∧ b ≠ p ∧ b ≠ g := fun b hb => by
      have h1 := b2 b hb
      refine ⟨(HA.out.dom b _ h1).2, fun e => ?_, fun e => ?_⟩
      · rw [e, HA.out.hp] at h1; cases h1
      · rw [e, HA.out.hg] at h1; cases h1
    have HB := Lib.hid (fun _ : Unit => (⟨b2, b3, b4⟩ : (∀ b, hold bv b → own b = some (3, k, 0)) ∧ vals.length = l.1.length ∧ ∀ j v, vals[j]? = some v → Fr w own (5, k, j) v (l.1.getD j [])))
    have HBH := Lib.hid hbh
    have HO3 := Lib.hid ho3
    have HB3 := Lib.hid hbl3
    have HAL := Lib.hid hal
    have HB4 := Lib.hid hbl4
    clear b1 b2 b3 b4 hbh ho3 hb3 hbl3 hal
    refine ⟨by (simp only [Sames, Same]; go_simp), ?_⟩
    go_wp2_with fail
    refine ⟨by (simp only [Sames, Same]; go_simp), ?_⟩
    go_wp2_with (at_builtin; refine wp_app_part (.tmp 36) (.tmp 39) 55 rfl rfl 22 (.slice none 0 0) 24 Try.underlying55 info33 rfl B rfl hp4 rfl (Rd.one w3 (.slice A3 (bs xs).length n3) _) (by intro y hy; simp at hy; subst hy; rfl) (by decide) (by simp only [List.length_cons, List.length_nil]; omega) (by rw [hs4]; omega) ?_; intro v5 w5 hp5 ht5 hh5; obtain ⟨A5, n5, rfl, _⟩ := id hp5.rd)
    have hA := HA.out
    have hdp := hA.dom p _ hA.hp
    have hdg := hA.dom g _ hA.hg
    have hnb : ∀ b, b < w.heap.size → ¬ hold bv b → w5.heap[b]? = w.heap[b]? := fun b hb hn =>
      (ht5.block b (by rw [hs4]; have := HB3.out.size; omega) hn).trans (HB4.out.block b hb)
    have row5 : Blk w5 g cs 142 := (hnb g hdg.2 (fun h => (HBH.out g h).2.2 rfl)).trans hA.row
    have c50 : w5.cell? ⟨p, 0, none⟩ = some (.slice (some ⟨g, 0, none⟩) n n) := (World.cell?_of_block (w := w) (hnb p hdp.2 (fun h => (HBH.out p h).2.1 rfl))).trans h0
    have c51 := row5.at_ _ (HK.out ()).2.1
    have f5 := row5.free (k * 2)
    have HP5 := Lib.hid hp5
    have HT5 := Lib.hid ht5
    have HH5 := Lib.hid hh5
    have HNB := Lib.hid hnb
    have HR5 := Lib.hid row5
    clear hp5 ht5 hh5 hnb row5 hp4 hA
    refine ⟨by (simp only [Sames, Same]; go_simp), ?_⟩
    go_wp2_with fail
    refine ⟨trivial, ?_⟩
    go_wp2_with fail
    go_ret
    obtain ⟨b2, b3, b4⟩ := HB.out ()
    obtain ⟨e0, e1, e2⟩ := HK.out ()
    have e5 : (vals ++ [Value.slice A3 (bs xs).length n3]).length = l.1.length + 1 := by rw [List.length_append, b3]; rfl
    have hp5 := HP5.out
    have hh5 := HH5.out
    rw [e5] at hp5 hh5
    have hA := HA.out
    have hzz : (w5.setCell ⟨g, k * 2, none⟩ (.slice A5 (l.1.length + 1) n5)).heap.size = w5.heap.size := (Only.set _ _ _ _).size
    have hset : ∀ b, b ≠ g → (w5.setCell ⟨g, k * 2, none⟩ (.slice A5 (l.1.length + 1) n5)).heap[b]? = w5.heap[b]? := fun b hb => (Only.set w5 g (k * 2) (.slice A5 (l.1.length + 1) n5)).block b hb
    have hv3b : ∀ b, hold (.slice A3 (bs xs).length n3) b → w.heap.size ≤ b ∧ b < w3.heap.size := fun b hb => own_lt HO3.out hb
    have hs3 := HB3.out.size
    have hs5 := HT5.out.size
    rw [hs4] at hs5
    have hv5b : ∀ b, hold (.slice A5 (l.1.length + 1) n5) b → b < w5.heap.size ∧ (w3.heap.size + 1 ≤ b ∨ hold bv b) := fun b hb => by
      obtain ⟨o, m, c', e⟩ := hb
      exact ⟨(hp5.lt _ _ _ _ e).2, by have := hh5 _ _ _ _ e; rwa [hs4] at this⟩
    have kall : ∀ b s, own b = some s → s.1 ≠ 1 → s ≠ (3, k, 0) → (w5.setCell ⟨g, k * 2, none⟩ (.slice A5 (l.1.length + 1) n5)).heap[b]? = w.heap[b]? := fun b s hb h1 h2 =>
      (hset b (fun e => by subst e; rw [hA.hg] at hb; cases hb; exact h1 rfl)).trans (HNB.out b (hA.dom b _ hb).2 fun hh => h2 (by have := b2 b hh; rw [hb] at this; exact Option.some.inj this))
    have hown : ∀ b s, own b = some s → ownT own w.heap.size (.slice A3 (bs xs).length n3) (.slice A5 (l.1.length + 1) n5) k l.1.length b = some s := fun b s hb => by
      unfold ownT; rw [if_pos (hA.dom b _ hb).2]; exact hb
    have hkl' := (List.getElem?_eq_some_iff.1 e0).1
    have hcl := (List.getElem?_eq_some_iff.1 e1).1
    refine ⟨rfl, ownT own w.heap.size (.slice A3 (bs xs).length n3) (.slice A5 (l.1.length + 1) n5) k l.1.length, ⟨g, cs.set (k * 2) (.slice A5 (l.1.length + 1) n5), ?_, hown _ _ hA.hp, HR5.out.set _ _, hown _ _ hA.hg, fun i l' hl' => ?_, by rw [List.length_set]; exact hA.le, fun b s hb => ?_⟩, fun b hb => by unfold ownT; rw [if_pos hb], ⟨?_, ?_, ?_, by rw [hzz]; omega, fun b hb hn => ?_⟩⟩
    · rw [List.length_set]
      exact (kall p _ hA.hp (by simp) (by simp)).trans hA.head
    · by_cases hik : i = k
      · subst hik
        rw [List.getElem?_set_self hkl'] at hl'
        cases hl'
        refine ⟨.slice A5 (l.1.length + 1) n5, by rw [List.getElem?_set_self hcl], by rw [List.getElem?_set_ne (by omega)]; exact e2, ⟨⟨vals ++ [.slice A3 (bs xs).length n3], ?_, fun b hb => ?_, by rw [e5]; simp, fun j v hj => ?_⟩, ?_, ?_⟩⟩
        · exact hp5.move fun g' off n c' e => hset g' fun e' => by
            subst e'
            rcases (hv5b g' ⟨_, _, _, e⟩).2 with h | h
            · have := (hA.dom g' _ hA.hg).2; omega
            · exact (HBH.out g' h).2.2 rfl
        · have h5 := hv5b b hb
          unfold ownT
          rcases h5.2 with h | h
          · rw [if_neg (by omega), if_neg (fun hh => by have := hv3b b hh; omega), if_pos hb]
          · rw [if_pos (HBH.out b h).1]; exact b2 b h
        · simp only
          rcases Nat.lt_or_ge j vals.length with hjl | hjl
          · rw [List.getElem?_append_left hjl] at hj
            rw [getD_snoc_old _ _ _ (by omega)]
            exact ((b4 j v hj).keep fun b hb => kall b _ hb (by simp) (by simp)).own fun b hb => hown b _ hb
          · rw [List.getElem?_append_right hjl] at hj
            have hj0 : j = vals.length := by
              have := (List.getElem?_eq_some_iff.1 hj).1
              simp at this
              omega
            subst hj0
            rw [Nat.sub_self] at hj
            obtain rfl : Value.slice A3 (bs xs).length n3 = v := by simpa using hj
            rw [b3, getD_snoc_new]
            refine ⟨(Rd.of_own HO3.out).holds fun b hb => ?_, fun b hb => ?_⟩
            · have h1 := hv3b b hb
              have := (hA.dom g _ hA.hg).2
              exact (hset b (by omega)).trans ((HT5.out.block b (by rw [hs4]; omega) (fun hh => by have := (HBH.out b hh).1; omega)).trans (HAL.out b h1.2))
            · have h1 := hv3b b hb
              unfold ownT
              rw [if_neg (by omega), if_pos hb]
        · have := HL.out.gone; simp; omega
        · simp; omega
      · rw [List.getElem?_set_ne (Ne.symm hik)] at hl'
        obtain ⟨bv', q1, q2, q3⟩ := hA.way i l' hl'
        exact ⟨bv', by rw [List.getElem?_set_ne (by omega)]; exact q1, by rw [List.getElem?_set_ne (by omega)]; exact q2, (q3.keep fun b s' hb hs => kall b s' hb (by have := hs.2; omega) (by rintro rfl; exact hik hs.1.symm)).own hown⟩
    · rw [hzz]
      unfold ownT at hb
      split at hb
      · have := hA.dom b _ hb; omega
      · have hBw := (hA.dom g _ hA.hg)
        split at hb
        · have := hv3b b ‹_›; omega
        · split at hb
          · have := (hv5b b ‹_›).1; omega
          · cases hb
    · exact HT5.out.os.trans HB4.out.os
    · exact HT5.out.tape.trans HB4.out.tape
    · exact HT5.out.output.trans HB4.out.output
    · exact (hset b (fun e => hn ⟨_, by rw [e]; exact hA.hg⟩)).trans (HNB.out b hb fun hh => hn ⟨_, b2 b hh⟩)
end Go.Proofs.Ytlgcnnhlbkidmaa
