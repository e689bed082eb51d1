/-
  The statement WireOrder: the frames of a way come in the order that they were sent, each once, the lost ones left out; other ways are untouched. No condition.
-/
import Derived.Test.YtlgcnnhlbkidmaaWireZ
import Derived.Test.YtlgcnnhlbkidmaaKinds
namespace Go.Proofs.Ytlgcnnhlbkidmaa.lawWireOrder
open Go.ChangeShapes Go.WideShapes Go.ChangeAt Go.RowKit Go.Conc

/-- Where the first loop stands. -/
structure SendAt (w wr : World) (B p : Nat) (i : Nat) (own : Nat → Option Spot) (X : List (List Int)) (O : List (List Int)) : Prop where
  wire : Wire wr B p own [([], 0), (O, 0), (X.take i, 0)]
  len : O.length = i
  b : Below w.heap.size w wr
  s : w.heap.size ≤ wr.heap.size
/-- Where the second loop stands. -/
structure TakeAt (w w1 wr : World) (B p D : Nat) (i : Nat) (own : Nat → Option Spot) (X : List (List Int)) (O : List (List Int)) (va : Value) (vals : List Value) : Prop where
  wire : Wire wr B p own [([], 0), (O, 0), (X, i)]
  row : wr.ownsRow D 22 1 va vals.length vals
  k : vals.length ≤ i
  b : Below w.heap.size w wr
  s : D ≤ wr.heap.size

theorem take_snoc (X : List (List Int)) (i : Nat) (h : i < X.length) : X.take i ++ [X.getD i []] = X.take (i + 1) := by
  rw [List.take_add_one, List.getD_eq_getElem?_getD, List.getElem?_eq_getElem h]; rfl

theorem own_turns {w w' : World} {D n : Nat} {e : TypeId} {v : Value} {vals : List Value} {T : Nat → Prop} (h : w.ownsRow D e 1 v n vals) (ht : Turns T w w') (hT : ∀ b, T b → b < D) : w'.ownsRow D e 1 v n vals :=
  ⟨h.1, h.2.imp id fun ⟨g, cap, cur, h0, h1, h2, h3⟩ => ⟨g, cap, cur, h0, h1, (ht.block g (Array.getElem?_eq_some_iff.1 h2).1 (fun hg => by have := hT g hg; omega)).trans h2, h3⟩⟩
theorem below_turns {w w' : World} {D : Nat} (h : Below D w w') : Turns (fun b => D ≤ b) w w' := ⟨h.os, h.tape, h.output, h.size, fun k _ hn => h.block k (by omega)⟩

set_option maxRecDepth 100000 in
set_option maxHeartbeats 4000000 in
theorem walk (w : World) (v : Value) (n : Nat) (f : Nat → List Value) (v1 : Value) (n1 : Nat) (f1 : Nat → List Value) (he : Els w v n 1 f) (hf : ∀ i, i < n → ∃ u xs, f i = [u] ∧ IsB xs ∧ Rd w u (bs xs)) (he1 : Els w v1 n1 1 f1) (hf1 : ∀ i, i < n1 → ∃ z, f1 i = [.bool z]) :
    Calls Try.prog 7 #[v, v1] w fun e w' => e = .returned (.bool true) ∧ Below w.heap.size w w' := by
  have hmx := he.len
  have hmx1 := he1.len
  obtain ⟨X, hXl, hX⟩ : ∃ X : List (List Int), X.length = n ∧ ∀ i, i < n → ∃ A c, f i = [.slice A (X.getD i []).length c] ∧ IsB (X.getD i []) ∧ Rd w (.slice A (X.getD i []).length c) (bs (X.getD i [])) := by
    obtain ⟨g, hg⟩ := Deep.choose_lt (n := n) (p := fun i (xs : List Int) => ∃ u, f i = [u] ∧ IsB xs ∧ Rd w u (bs xs)) (fun i hi => by obtain ⟨u, xs, h⟩ := hf i hi; exact ⟨xs, u, h⟩)
    refine ⟨(List.range n).map g, by simp, fun i hi => ?_⟩
    have e : ((List.range n).map g).getD i [] = g i := by simp [List.getD_eq_getElem?_getD, hi]
    rw [e]
    obtain ⟨u, h1, h2, h3⟩ := hg i hi
    obtain ⟨A, c, rfl, _⟩ := id h3
    rw [bs_len] at h1 h3
    exact ⟨A, c, h1, h2, h3⟩
  clear hf
  obtain ⟨A0, c0, rfl, hc0, hc0m, _, H3⟩ := he
  obtain ⟨A1, c1, rfl, hc1, hc1m, _, H13⟩ := he1
  have NW := Lib.hid (newwire_any w 3 (by omega))
  obtain ⟨iinf, hinf, hz0, hz1, hz2⟩ := info_parts info33
  have HX := Lib.hid hX
  have H3 := Lib.hid H3
  have H13 := Lib.hid H13
  have HXL := Lib.hid (fun _ : Unit => hXl)
  have HF1 := Lib.hid hf1
  clear hX hXl hf1
  go_enter Try.func7, Try.ntmps7
  by_cases hl : (200 : Int) < n
  · go_wp2_with (go_at_call 16; refine (awake11_any w).mono ?_; rintro e w' ⟨rfl, hb'⟩)
    all_goals go_ret
    exact ⟨rfl, hb'⟩
  go_upto_region 7 with (go_at_call 21; refine NW.out.mono ?_; rintro e w1 ⟨p, own, rfl, hw1, hb1⟩)
  have inv0 : SendAt w w1 w.heap.size p 0 own X [] := ⟨hw1, rfl, hb1, hb1.size⟩
  have HI0 := Lib.hid inv0
  clear inv0 hw1 hb1
  generalize hB : w.heap.size = B at *
  have HBB := Lib.hid (fun _ : Unit => hB)
  clear hB
  go_wp2_with fail
  go_loopw [7] (fun x wr => ∃ (i : Nat) (own : Nat → Option Spot) (O : List (List Int)), i ≤ n ∧ x = .int .i64 i ∧ SendAt w wr B p i own X O) (fun x _ => n - (intOf x).toNat)
  case atStart => exact ⟨0, own, [], Nat.zero_le _, rfl, HI0.out⟩
  case round =>
    obtain ⟨i, own2, O, hi, rfl, inv⟩ := hrel
    obtain ⟨wo, rfl⟩ : ∃ wo : World, wo = wr := ⟨_, rfl⟩
    have HI := Lib.hid inv
    clear inv HI0
    by_cases hlt : i < n
    · obtain ⟨b, o, rfl, hbw, hcs⟩ := H3.out (by omega)
      obtain ⟨A, c, hfu, hxs, hru⟩ := HX.out i hlt
      have hcell := (hcs i hlt).2 0 (by decide)
      rw [hfu] at hcell
      simp only [Nat.mul_one, Nat.add_zero, List.getElem?_cons_zero] at hcell
      have kc : ∀ w', Below w.heap.size w w' → w'.cell? ⟨b, o + i, none⟩ = some (.slice A (X.getD i []).length c) := fun w' h => (h.cell (p := ⟨b, o + i, none⟩) (by rw [HBB.out ()]; exact hbw)).trans hcell
      obtain ⟨m, hm⟩ : ∃ m, (X.getD i []).length = m := ⟨_, rfl⟩
      have hcell0 := kc wo HI.out.b
      have hmx := hru.len
      rw [bs_len] at hmx
      rw [hm] at hmx hcell0
      have HM := Lib.hid (fun _ : Unit => hm)
      have HRU := Lib.hid hru
      have KC := Lib.hid kc
      have HFU := Lib.hid (fun _ : Unit => hfu)
      have HXS := Lib.hid hxs
      have HBW := Lib.hid hbw
      clear hcs hfu hxs hru hcell kc hm
      by_cases hlong : (300 : Int) < m
      · go_wp2_with (go_at_call 16; refine (awake11_any wo).mono ?_; rintro e w' ⟨rfl, hb'⟩)
        all_goals go_ret
        exact ⟨rfl, bw_then HI.out.b hb' HI.out.s⟩
      have hTl : (X.take i).length = i := by rw [List.length_take, HXL.out ()]; omega
      have S1 := Lib.hid (send_ok wo B p own2 _ 2 (X.take i, 0) _ (X.getD i []) HI.out.wire rfl (HRU.out.stay HI.out.b (Nat.le_refl _)) HXS.out (by rw [HM.out ()]; omega) (by show (X.take i).length < 200; omega))
      rw [HM.out ()] at S1
      go_upto_region 14 with (go_at_call 22; refine S1.out.mono ?_; rintro e w3 ⟨rfl, own3, hw3, ho3, ht3⟩; have HW3 := Lib.hid hw3; have HT3 := Lib.hid ht3; clear hw3 ho3 ht3)
      have hb3 : Below w.heap.size w w3 := by
        have h := HI.out.wire.bl (by rw [← HBB.out ()]; exact HI.out.b) HT3.out (fun _ h => h) (by rw [← HBB.out ()]; exact HI.out.s)
        rw [HBB.out ()]; exact h
      have hs3 := hb3.size
      have ko := fun (w : World) (C : Array Value) (n c : Nat) => Lib.run_convert_bytes_const (P := Try.prog) w 22 5 C n c Try.underlying22 Try.underlying5
      have hlo : O.length < 200 := by have := HI.out.len; omega
      have S2 := Lib.hid (send_ok (w3.alloc (.cells (bs [111, 116, 104, 101, 114]).toArray 5 (5, 6))) B p own3 _ 1 (O, 0) _ [111, 116, 104, 101, 114] (HW3.out.stay (bw_al (Below.refl _ _) (Nat.le_refl _) _)) rfl (rd_frozen w3 (bs [111, 116, 104, 101, 114]) 5 (5, 6) (by decide)) (by intro z hz; simp at hz; omega) (by decide) hlo)
      have HB3 := Lib.hid hb3
      clear hb3
      go_upto_region 15 with (go_at_call 22; refine S2.out.mono ?_; rintro e w4 ⟨rfl, own4, hw4, ho4, ht4⟩; have HW4 := Lib.hid hw4; have HT4 := Lib.hid ht4; clear hw4 ho4 ht4)
      have hb4 : Below w.heap.size w w4 := by
        have h := (HW3.out.stay (bw_al (Below.refl _ _) (Nat.le_refl _) _)).bl (bw_al (by rw [← HBB.out ()]; exact HB3.out) (by rw [← HBB.out ()]; exact hs3) _) HT4.out (fun _ h => h) (by rw [← HBB.out ()]; simp; omega)
        rw [HBB.out ()]; exact h
      have HB4 := Lib.hid hb4
      have P1 := Lib.hid (pick_ok w4 B p own4 _ 2 0 (X.take i ++ [X.getD i []], 0) HW4.out rfl (by simp))
      clear hb4
      go_wp2_with (go_at_call 24; refine P1.out.mono ?_; rintro e w5 ⟨v5, rfl, _, hb5⟩)
      have hw5 := HW4.out.stay hb5
      have hb5' := bw_then HB4.out hb5 HB4.out.size
      refine ⟨⟨i + 1, own4, O ++ [[111, 116, 104, 101, 114]], by omega, rfl, ?_, by rw [List.length_append, HI.out.len]; rfl, hb5', hb5'.size⟩, by simp [intOf]; omega⟩
      rw [← take_snoc X i (by rw [HXL.out ()]; omega)]
      exact hw5
    · obtain rfl : i = n := by omega
      have hXt : X.take i = X := List.take_of_length_le (by rw [HXL.out ()]; omega)
      have hwire := HI.out.wire
      rw [hXt] at hwire
      have inv1 : TakeAt w wo wo B p wo.heap.size 0 own2 X O (.slice none 0 0) [] := ⟨hwire, World.ownsRow_nil _ _ _ _, Nat.le_refl _, HI.out.b, Nat.le_refl _⟩
      have HOL := Lib.hid (fun _ : Unit => HI.out.len)
      have HSO := Lib.hid (fun _ : Unit => HI.out.s)
      have HJ0 := Lib.hid inv1
      obtain ⟨D, hD⟩ : ∃ D, wo.heap.size = D := ⟨_, rfl⟩
      rw [hD] at HJ0
      have hD2 := hD
      have HD := Lib.hid (fun _ : Unit => hD2)
      clear inv1 hwire hXt hlt HI hi hD hD2
      go_wp2_with fail
      go_loopw [8, 6] (fun x y wr => ∃ (k : Nat) (vals : List Value) (va : Value), k ≤ i ∧ x = .int .i64 k ∧ va = y ∧ TakeAt w wo wr B p D k own2 X O va vals) (fun x _ _ => i - (intOf x).toNat)
      case atStart => exact ⟨0, [], _, Nat.zero_le _, rfl, rfl, HJ0.out⟩
      case round =>
        obtain ⟨k, vals, va, hk, rfl, rfl, inv⟩ := hrel
        obtain ⟨wq, rfl⟩ : ∃ wq : World, wq = wr := ⟨_, rfl⟩
        have HJ := Lib.hid inv
        have HDOM := Lib.hid (fun b s (h : own2 b = some s) => (by have := (HJ0.out.wire.dom b s h).2; have := HD.out (); omega : b < D))
        have HBD := Lib.hid (fun _ : Unit => (by have := HSO.out (); have := HD.out (); omega : w.heap.size ≤ D))
        clear inv HJ0
        by_cases hlt : k < i
        · have hcase : (¬ k < n1) ∨ (∃ b1 o1 z, A1 = some ⟨b1, o1, none⟩ ∧ k < n1 ∧ wq.cell? ⟨b1, o1 + k, none⟩ = some (.bool z)) := by
            by_cases hk1 : k < n1
            · right
              obtain ⟨b1, o1, rfl, hbw1, hcs1⟩ := H13.out (by omega)
              obtain ⟨z, hz⟩ := HF1.out k hk1
              have hcell := (hcs1 k hk1).2 0 (by decide)
              rw [hz] at hcell
              simp only [Nat.mul_one, Nat.add_zero, List.getElem?_cons_zero] at hcell
              exact ⟨b1, o1, z, rfl, hk1, (HJ.out.b.cell (p := ⟨b1, o1 + k, none⟩) (by rw [HBB.out ()]; exact hbw1)).trans hcell⟩
            · exact .inl hk1
          obtain ⟨b, o, rfl, hbw, hcs⟩ := H3.out (by omega)
          obtain ⟨A, c, hfu, hxs, hru⟩ := HX.out k hlt
          have hcell := (hcs k hlt).2 0 (by decide)
          rw [hfu] at hcell
          simp only [Nat.mul_one, Nat.add_zero, List.getElem?_cons_zero] at hcell
          have hcellq : wq.cell? ⟨b, o + k, none⟩ = some (.slice A (X.getD k []).length c) := (HJ.out.b.cell (p := ⟨b, o + k, none⟩) (by rw [HBB.out ()]; exact hbw)).trans hcell
          obtain ⟨m, hm⟩ : ∃ m, (X.getD k []).length = m := ⟨_, rfl⟩
          rw [hm] at hcellq
          have HM := Lib.hid (fun _ : Unit => hm)
          have HRU := Lib.hid hru
          have HXS := Lib.hid hxs
          clear hcs hfu hxs hru hcell hbw hm
          have hkX : k < X.length := by rw [HXL.out ()]; exact hlt
          rcases hcase with hk1 | ⟨b1, o1, z, rfl, hk1, hz⟩
          rotate_left
          cases z
          rotate_left
          · have L1 := Lib.hid (lose_ok wq B p own2 _ 2 (X, k) HJ.out.wire rfl hkX)
            go_wp2_with (go_at_call 26; refine L1.out.mono ?_; rintro e w3 ⟨rfl, hw3, ht3⟩; have HW3 := Lib.hid hw3; have HT3 := Lib.hid ht3; clear hw3 ht3)
            have hb3 : Below w.heap.size w w3 := by
              have h := HJ.out.wire.bl (by rw [← HBB.out ()]; exact HJ.out.b) HT3.out (fun _ h => ⟨_, h⟩) (by rw [← HBB.out ()]; have := HBD.out (); have := HJ.out.s; omega)
              rw [HBB.out ()]; exact h
            exact ⟨⟨k + 1, vals, va, by omega, rfl, rfl, ⟨HW3.out, own_turns HJ.out.row HT3.out (fun b h => HDOM.out b _ h), by have := HJ.out.k; omega, hb3, Nat.le_trans HJ.out.s HT3.out.size⟩⟩, by simp [intOf]; omega⟩
          all_goals (
            go_upto_region 22 with fail
            have hwt : Turns (fun _ => False) wq (wq.alloc (.cells #[.slice A m c] 22)) := Turns.of_below (bw_al (Below.refl _ _) (Nat.le_refl _) _)
            have ho4 := own_turns HJ.out.row hwt (fun _ h => h.elim)
            have hsz4 : (wq.alloc (.cells #[.slice A m c] 22)).heap.size = wq.heap.size + 1 := by simp
            have hb4 : Below w.heap.size w (wq.alloc (.cells #[.slice A m c] 22)) := bw_al HJ.out.b (by have := HBD.out (); have := HJ.out.s; omega) _
            have hw4 := HJ.out.wire.turns hwt (fun _ _ _ h => h)
            have hc1 : ∀ (j : Nat) u, [Value.slice A m c][j]? = some u → (wq.alloc (.cells #[.slice A m c] 22)).cell? ((⟨wq.heap.size, 0, none⟩ : Addr).add j) = some u := by
              intro j u hj
              have hbk : Blk (wq.alloc (.cells #[.slice A m c] 22)) wq.heap.size [.slice A m c] 22 := Blk.mk_ _ rfl rfl
              have h := hbk.at_ j hj
              cases j with
              | zero => exact h
              | succ j => simp at hj
            have hkl := HJ.out.k
            have hsD := HJ.out.s
            have HO4 := Lib.hid ho4
            have HB4 := Lib.hid hb4
            have HW4 := Lib.hid hw4
            clear hb4 hw4 hwt
            go_upto_region 23 with (at_builtin; refine wpList_append_own _ rfl (.tmp 65) (.tmp 70) 55 rfl D 22 iinf _ 1 24 Try.underlying55 hinf hz0 hz1 hz2 rfl (by decide) va vals.length vals rfl ho4 ⟨wq.heap.size, 0, none⟩ 1 1 [.slice A m c] rfl rfl hc1 (by intro u hu; simp at hu; subst hu; rfl) (by unfold maxLen; omega) (by omega) (by omega) ?_; intro v5 w5 ho5 hg5 _)
            have HAL := Lib.hid (fun _ : Unit => hsz4)
            have HSD := Lib.hid (fun _ : Unit => hsD)
            have hbD5 : Below D (wq.alloc (.cells #[.slice A m c] 22)) w5 := (Below.refl _ _).grown hg5 (by omega) (fun q hq => by
              rcases HO4.out.2 with ⟨rfl, _⟩ | ⟨g, cap, cur, rfl, h1, _⟩
              · cases hq
              · simp only [Value.ownBlock, Option.some.injEq] at hq
                omega)
            have hw5 := HW4.out.turns (below_turns hbD5) (fun b s h => by have := HDOM.out b s h; omega)
            have hb5 : Below w.heap.size w w5 := HB4.out.trans (hbD5.mono (HBD.out ()))
            have hs5 : D ≤ w5.heap.size := by have := hbD5.size; omega
            obtain ⟨q, hq⟩ : ∃ q, vals.length = q := ⟨_, rfl⟩
            rw [hq] at ho5 hkl
            obtain ⟨g5, cap5, rfl, hc5⟩ : ∃ g cap, v5 = .slice (some ⟨g, 0, none⟩) (q + 1) cap ∧ q + 1 ≤ cap := by
              rcases ho5.2 with ⟨_, h⟩ | ⟨g, cap, cur, h, _, _, h1, _⟩
              · omega
              · exact ⟨g, cap, h, h1⟩
            have HO5 := Lib.hid ho5
            have HW5 := Lib.hid hw5
            have HB5 := Lib.hid hb5
            have HQ := Lib.hid (fun _ : Unit => hq)
            have N1 := Lib.hid (next_ok w5 B p own2 _ 2 (X, k) hw5 rfl hkX)
            clear ho5 hw5 hb5 hbD5 hg5 ho4 hc1 hsz4 hcellq hq hsD
            go_upto_region 24 with (go_at_call 23; refine N1.out.mono ?_; rintro e w6 ⟨v6, rfl, hf6, hw6, ht6⟩)
            have hO6 := own_turns HO5.out ht6 (fun b h => HDOM.out b _ h)
            have hrd6 := Rd.of_own hO6
            have hl1 : (vals ++ [Value.slice A m c])[q]? = some (.slice A m c) := by rw [← HQ.out ()]; simp
            have hcell6 : w6.cell? ⟨g5, q, none⟩ = some (.slice A m c) := by
              obtain ⟨A', c', h, _, _, _, h4⟩ := hrd6
              rcases h4 with h4 | ⟨b', o', h5, h4⟩
              · simp at h4
              · subst h5
                simp only [Value.slice.injEq, Option.some.injEq, Addr.mk.injEq] at h
                obtain ⟨⟨rfl, rfl, _⟩, _⟩ := h
                have := h4 q
                simp only [Nat.zero_add] at this
                exact (this (by simp; rw [HQ.out ()]; omega)).trans ((List.getElem?_eq_getElem _).symm.trans hl1)
            have hb6 : Below w.heap.size w w6 := by
              have h := HW5.out.bl (by rw [← HBB.out ()]; exact HB5.out) ht6 (fun _ h => ⟨_, h⟩) (by rw [← HBB.out ()]; have := HBD.out (); omega)
              rw [HBB.out ()]; exact h
            have hru6 : Rd w6 (.slice A m c) (bs (X.getD k [])) := by
              have h := HRU.out.stay hb6 (Nat.le_refl _)
              rw [HM.out ()] at h
              exact h
            have E1 := Lib.hid (equal_any v6 (.slice A m c) _ _ w6 hf6.1 hru6 HXS.out HXS.out)
            rw [show eqB (X.getD k []) (X.getD k []) = true by simp [eqB]] at E1
            have H6 := Lib.hid (fun _ : Unit => (⟨hw6, hO6, hb6, Nat.le_trans hs5 ht6.size⟩ : Wire w6 B p own2 ([([], 0), (O, 0), (X, k)].set 2 (X, k + 1)) ∧ w6.ownsRow D 22 1 (.slice (some ⟨g5, 0, none⟩) (q + 1) cap5) (q + 1) (vals ++ [.slice A m c]) ∧ Below w.heap.size w w6 ∧ D ≤ w6.heap.size))
            have hi1 : ((q + 1 : Nat) : Int) - 1 = (q : Int) := by omega
            clear hw6 hO6 hb6 hrd6 hru6 hf6 ht6 hl1
            go_wp2_with (go_at_call 19; refine E1.out.mono ?_; rintro e w7 ⟨rfl, hw7⟩; subst hw7)
            obtain ⟨z1, z2, z3, z4⟩ := H6.out ()
            refine ⟨⟨k + 1, vals ++ [.slice A m c], _, by omega, rfl, rfl, ⟨z1, ?_, ?_, z3, z4⟩⟩, by simp [intOf]; omega⟩
            · rw [List.length_append, HQ.out ()]; exact z2
            · rw [List.length_append, HQ.out ()]; simp; omega)
        · obtain rfl : k = i := by omega
          have hXX := HXL.out ()
          have N1 := Lib.hid (next_empty wq B p own2 _ 2 (X, k) HJ.out.wire rfl (by show X.length ≤ k; omega))
          have C1 := Lib.hid (count_ok wq B p own2 _ 2 (X, k) HJ.out.wire rfl)
          have W1 := Lib.hid (waiting_ok wq B p own2 _ 1 (O, 0) HJ.out.wire rfl)
          have hXi : ((X.length : Nat) : Int) = (k : Int) := by omega
          have hOi : ((O.length - 0 : Nat) : Int) = (k : Int) := by have := HOL.out (); omega
          rw [hXi] at C1
          rw [hOi] at W1
          have HBJ := Lib.hid HJ.out.b
          have HSJ := Lib.hid HJ.out.s
          clear hXX hXi hOi
          go_upto_region 27 with (go_at_call 23; refine N1.out.mono ?_; rintro e w6 ⟨rfl, hw6⟩; subst hw6)
          go_wp2_with (first
            | (go_at_call 25; refine C1.out.mono ?_; rintro e w' ⟨rfl, hw'⟩; subst hw')
            | (go_at_call 27; refine W1.out.mono ?_; rintro e w' ⟨rfl, hw'⟩; subst hw')
            | (go_at_call 16; refine (awake11_any _).mono ?_; rintro e w6 ⟨rfl, hb6⟩))
          all_goals (
            go_ret
            exact ⟨rfl, bw_then HBJ.out hb6 HBJ.out.size⟩)

set_option maxRecDepth 100000 in
theorem contract (H : Type) (enc : TypeId × Value → H) (W : World) (base : Nat) (args : Array Value) (ds gs : List (DataW H)) (before : List MemPlace)
    (hval : ∀ (j : Nat) t v, Try.f7.params[j]? = some t → args[j]? = some v → Value.okWide Try.prog W .any base t v)
    (hW : DataW.Whole enc Try.prog Try.f7.params.toList Rows.wireOrderSpec.vars false W args.toList ds gs before) :
    Calls Try.prog 7 args W fun e W' => ∃ v, e = .returned v ∧ Rows.wireOrderSpec.post enc Try.prog Try.f7 false true false false W args v W' := by
  have hW' := hW
  obtain ⟨p, q, hA0, hV, rfl, hfz, hnd⟩ := hW
  have hA : DataW.TrodAll enc Try.prog W 0 (fun _ => true) true Try.f7.params.toList args.toList ds p := hA0
  rw [Try.params7] at hA hval
  obtain ⟨v0, vs0, d0, ds0, p0, q0, hargs0, rfl, rfl, h0, r0⟩ := trodAll_cons hA
  obtain ⟨v1, vs1, d1, ds1, p1, q1, hargs1, e1, rfl, h1, r1⟩ := trodAll_cons r0
  subst e1
  obtain ⟨e9, e8, e7⟩ := trodAll_nil r1
  subst e9 e8 e7
  obtain rfl : args = #[v0, v1] := by cases args; simp_all
  obtain ⟨rfl, rfl⟩ := trodVars_none hV
  have hv0 := hval 0 _ v0 rfl rfl
  have hv1 := hval 1 _ v1 rfl rfl
  clear hA0
  obtain ⟨fuel0, hf0⟩ := h0
  obtain ⟨fuel1, hf1⟩ := h1
  rw [one_of_ok Try.underlying55 rfl hv0] at hf0
  obtain ⟨u0, n0, f0, hcs0, he0, hf20⟩ := rows_of_trod Try.underlying55 (by kernel_rfl) hf0
  obtain rfl : v0 = u0 := by simpa using hcs0
  rw [one_of_ok Try.underlying56 rfl hv1] at hf1
  obtain ⟨u1, n1, f1, hcs1, he1, hf21⟩ := bools_of_trod Try.underlying56 Try.underlying4 (by kernel_rfl) hf1
  obtain rfl : v1 = u1 := by simpa using hcs1
  refine (walk W v0 n0 f0 v1 n1 f1 he0 hf20 he1 hf21).mono fun e W' ⟨he, hb⟩ => ⟨_, he, ?_⟩
  exact law_post Try.laidOut (by kernel_rfl) (by kernel_rfl) Try.underlying4 rfl rfl rfl rfl hW' hb

set_option maxRecDepth 100000 in
theorem lifted (os : Os) (started : os.Started) (H : Type) (enc : TypeId × Value → H) (F : Stop.Interp) :
    ReturnsInHanded {} Try.checked os 7 .any ((OpenSpec.ofChange Rows.wireOrderSpec).preRow enc Try.prog Try.f7 Rows.wireOrderRow.domain false Rows.wireOrderRow.laid) (((OpenSpec.ofChange Rows.wireOrderSpec).at F).post enc Try.prog Try.f7 false true false false) := by
  obtain ⟨places, hx⟩ : ∃ places, DataW.whole enc Try.prog ((World.holding Try.prog os ⟨#[], #[], []⟩).forCall (fun _ _ => 0) ⟨#[], #[.slice none 0 0, .slice none 0 0], []⟩).memory Try.f7.params.toList Rows.wireOrderSpec.vars false #[.slice none 0 0, .slice none 0 0].toList 8 = some ([.nil, .nil], [], places) := ⟨[], by kernel_rfl⟩
  refine returnsInHanded_of_row (C := Try.checked) (s := OpenSpec.ofChange Rows.wireOrderSpec) Try.own started (by kernel_rfl) Try.func7
    (witness_row_at (enc := enc) (C := Try.checked) false (World.holding Try.prog os ⟨#[], #[], []⟩) #[.slice none 0 0, .slice none 0 0] rfl (by kernel_rfl) (by kernel_rfl) (by kernel_rfl)
      (OpenSpec.preRow_of_cond 8 hx (by kernel_rfl) (fun k hk => by cases hk) (by kernel_rfl) (laid_none _ _))) ?_
  intro W base args ds gs before hval hW _ _ _ _ _ _
  exact contract H enc W base args ds gs before hval hW

theorem proved : Rows.WireOrderSaid :=
  OpenClaim.holds_of_cond 7 Try.f7 rfl rfl rfl rfl rfl rfl rfl ⟨rfl, rfl, rfl, rfl, rfl⟩ rfl rfl rfl rfl rfl (by kernel_rfl) Try.func7 (by kernel_rfl)
    (of_decide_eq_true (by kernel_rfl)) (by unfold Func.isWrapper; first | (rw [if_pos (by decide +kernel)]; kernel_rfl) | (rw [if_neg (by decide +kernel)]; exact ⟨rfl, rfl⟩))
    (fun os started H enc _ F => by rw [OpenClaim.pre_eq_preRow]; exact lifted os started H enc F)
end Go.Proofs.Ytlgcnnhlbkidmaa.lawWireOrder
