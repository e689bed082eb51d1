/-
  Waiting, Pick, Next, Lose of a wire.
-/
import Derived.Test.YtlgcnnhlbkidmaaWire
namespace Go.Proofs.Ytlgcnnhlbkidmaa
open Go.RowKit Go.Conc

theorem len_chan (w : World) (c cap s r : Nat) (buf : Array Value) (h : w.heap[c]? = some (.chan cap buf false s r false)) : (Builtin.len_ #[130] 3 #[.chan (some c)]).run Try.prog w = .ok (goInt buf.size) w := by
  have hu : Try.prog.underlying 130 = some (.chan .both 22) := Try.underlying130
  have hg : (getObj c).run Try.prog w = .ok (.chan cap buf false s r false) w := by simp [getObj, Sem.run, h]
  simp [Builtin.len_, run_underlying hu, hg]
theorem waiting_any (w : World) (B p : Nat) (own : Nat → Option Spot) (st : List WayS) (i : Int) (h : Wire w B p own st) (hi : -9223372036854775808 ≤ i ∧ i ≤ 9223372036854775807) :
    Calls Try.prog 27 #[.pointer (some ⟨p, 0, none⟩), .int .i64 i] w fun e w' => e = .returned (.int .i64 (match wayOf st i with | some l => ((l.1.length - l.2 : Nat) : Int) | none => 0)) ∧ w = w' := by
  cases hw : wayOf st i with
  | none =>
    have L := Lib.hid (lane_none w B p own st i h hi hw)
    clear h hw
    go_enter Try.func27, Try.ntmps27
    go_wp2_with (go_at_call 69; refine L.out.mono ?_; rintro e w' ⟨rfl, rfl⟩)
    all_goals go_ret
    exact ⟨rfl, rfl⟩
  | some l =>
    obtain ⟨k, rfl, hk, hkl⟩ := wayOf_some hw
    obtain ⟨g, cap, cs, cv, bv, ha, h1, h2, h3, hl⟩ := h.at_ k l hk
    have L := Lib.hid (lane_some w B p g cap cs own st k ha hkl)
    obtain ⟨c, buf, s, r, rfl, c2, c3, c4, c5⟩ := hl.chan
    have hle := hl.le
    have hlc := len_chan w c _ _ _ _ c3
    have hbz : buf.size = l.1.length - l.2 := by omega
    rw [hbz] at hlc
    clear h hw ha hl hi c2 c3 c4 c5 hbz
    go_enter Try.func27, Try.ntmps27
    go_wp2_with (go_at_call 69; refine L.out.mono ?_; rintro e w' ⟨rfl, rfl⟩)
    all_goals go_ret
    exact ⟨rfl, rfl⟩

/-- The answer of Pick. -/
def pickE (st : List WayS) (i k : Int) : Int := match wayOf st i with | none => 1 | some l => if 0 ≤ k ∧ k < l.1.length then 0 else 9
def pickF (st : List WayS) (i k : Int) : List Int := match wayOf st i with | none => [] | some l => if 0 ≤ k ∧ k < l.1.length then l.1.getD k.toNat [] else []
def PickRes (st : List WayS) (i k : Int) (w : World) (e : Ending) (w' : World) : Prop :=
  ∃ v, e = .returned (.tuple #[v, .int .i64 (pickE st i k)]) ∧ w'.ownsRow w.heap.size 5 1 v (pickF st i k).length (bs (pickF st i k)) ∧ Below w.heap.size w w'
set_option maxRecDepth 100000 in
theorem pick_any (w : World) (B p : Nat) (own : Nat → Option Spot) (st : List WayS) (i k : Int) (h : Wire w B p own st) (hi : -9223372036854775808 ≤ i ∧ i ≤ 9223372036854775807) (hk : -9223372036854775808 ≤ k ∧ k ≤ 9223372036854775807) :
    Calls Try.prog 24 #[.pointer (some ⟨p, 0, none⟩), .int .i64 i, .int .i64 k] w (PickRes st i k w) := by
  cases hw : wayOf st i with
  | none =>
    have L := Lib.hid (lane_none w B p own st i h hi hw)
    have HE := Lib.hid (fun _ : Unit => (⟨by simp only [pickE, hw], by simp only [pickF, hw]⟩ : pickE st i k = 1 ∧ pickF st i k = []))
    clear h hw
    go_enter Try.func24, Try.ntmps24
    go_wp2_with (go_at_call 69; refine L.out.mono ?_; rintro e w' ⟨rfl, rfl⟩)
    all_goals go_ret2
    exact ⟨_, by rw [(HE.out ()).1]; rfl, by rw [(HE.out ()).2]; exact World.ownsRow_nil _ _ _ _, Below.refl _ _⟩
  | some l =>
    obtain ⟨q, rfl, hq, hql⟩ := wayOf_some hw
    obtain ⟨g, cap, cs, cv, bv, ha, h1, h2, h3, hl⟩ := h.at_ q l hq
    have L := Lib.hid (lane_some w B p g cap cs own st q ha hql)
    obtain ⟨vals, b1, b2, b3, b4⟩ := hl.bag
    have hle := hl.le
    have hlv : ∀ w', (Builtin.len_ #[55] 3 #[bv]).run Try.prog w' = .ok (goInt l.1.length) w' := by
      have := len_fact (P := Try.prog) b1.rd (t := 55) (ty := 3) (by kernel_rfl)
      rwa [b3] at this
    have HSM := Lib.hid hl.small
    have HB4 := Lib.hid b4
    by_cases hin : 0 ≤ k ∧ k < l.1.length
    · have HE := Lib.hid (fun _ : Unit => (⟨by simp only [pickE, hw]; rw [if_pos hin], by simp only [pickF, hw]; rw [if_pos hin]⟩ : pickE st (q : Int) k = 0 ∧ pickF st (q : Int) k = l.1.getD k.toNat []))
      obtain ⟨j, rfl⟩ := Int.eq_ofNat_of_zero_le hin.1
      have hj : j < l.1.length := by omega
      have hj1 : ¬ (j : Int) < 0 := by omega
      have hj2 : ¬ (l.1.length : Int) ≤ (j : Int) := by omega
      have hj3 : (j : Int) < (l.1.length : Int) := by omega
      obtain ⟨v, hv⟩ : ∃ v, vals[j]? = some v := ⟨_, List.getElem?_eq_getElem (by omega)⟩
      rcases b1 with ⟨rfl, hx⟩ | ⟨gb, off, bcap, cur, rfl, hbg, hbh, hbl, hbm, hbs, hbt⟩
      · rw [hx] at hv; simp at hv
      have hcv : w.cell? ⟨gb, off + j, none⟩ = some v := by
        rw [← hbt, List.getElem?_take_of_lt (by omega), List.getElem?_drop] at hv
        simp only [World.cell?, hbh]
        simpa using hv
      obtain ⟨f1, f2⟩ := b4 j v hv
      have hfl : (l.1.getD j []).length ≤ 131072 := by
        rw [List.getD_eq_getElem?_getD, List.getElem?_eq_getElem hj]
        exact (hl.small _ (List.getElem_mem hj)).2
      have CL := Lib.hid (clone_any v (l.1.getD j []) w f1 (by omega))
      rw [b3] at hlv h2
      clear h ha hl b2 b4 f1 f2 hbt hv hbh hin hw
      go_enter Try.func24, Try.ntmps24
      go_wp2_with (first
        | (go_at_call 69; refine L.out.mono ?_; rintro e w' ⟨rfl, rfl⟩)
        | (go_at_call 17; refine CL.out.mono ?_; rintro e w2 ⟨v2, rfl, hb2, ho2⟩))
      all_goals go_ret2
      exact ⟨v2, by rw [(HE.out ()).1]; rfl, by rw [(HE.out ()).2]; exact ho2, hb2⟩
    · have HE := Lib.hid (fun _ : Unit => (⟨by simp only [pickE, hw]; rw [if_neg hin], by simp only [pickF, hw]; rw [if_neg hin]⟩ : pickE st (q : Int) k = 9 ∧ pickF st (q : Int) k = []))
      clear h ha hl b1 b2 b4 hw
      by_cases hk0 : k < 0
      · clear hin
        go_enter Try.func24, Try.ntmps24
        go_wp2_with (go_at_call 69; refine L.out.mono ?_; rintro e w' ⟨rfl, rfl⟩)
        all_goals go_ret2
        exact ⟨_, by rw [(HE.out ()).1]; rfl, by rw [(HE.out ()).2]; exact World.ownsRow_nil _ _ _ _, Below.refl _ _⟩
      · have hk1 : (l.1.length : Int) ≤ k := by omega
        clear hin
        go_enter Try.func24, Try.ntmps24
        go_wp2_with (go_at_call 69; refine L.out.mono ?_; rintro e w' ⟨rfl, rfl⟩)
        all_goals go_ret2
        exact ⟨_, by rw [(HE.out ()).1]; rfl, by rw [(HE.out ()).2]; exact World.ownsRow_nil _ _ _ _, Below.refl _ _⟩

/-- A part without a communication, ahead of one that may have one. -/
theorem wpN_seq_wp {P : Program} {Q : Exit → Act → World → Prop} {a : Act} {w : World} {x y : Code} (h : ∀ K : Act → World → Prop, (∀ a w, wpN P y Q a w → K a w) → x.wp P (Exit.then K Q) a w) : wpN P (Code.seq x y) Q a w :=
  wpN_seq (wpN_of_wp (h _ fun _ _ h => h))
theorem wpN_seq_N {P : Program} {Q : Exit → Act → World → Prop} {a : Act} {w : World} {x y : Code} (h : ∀ K : Act → World → Prop, (∀ a w, wpN P y Q a w → K a w) → wpN P x (Exit.then K Q) a w) : wpN P (Code.seq x y) Q a w :=
  wpN_seq (h _ fun _ _ h => h)
theorem wpOps_tail {P : Program} {Q : Exit → Act → World → Prop} {a : Act} {w : World} {o : Oper} {l : List Oper} (h : wpList P (o :: l).toArray Q l a w) : wpOps P (o :: l).toArray Q (List.range' 1 l.length) a w := by
  rw [wpOps_eq_wpList l 1 (fun j => by simp [Nat.add_comm 1 j])]
  exact h
def NextOk (st : List WayS) (own : Nat → Option Spot) (B p k : Nat) (l : WayS) (w : World) (e : Ending) (w' : World) : Prop :=
  ∃ v, e = .returned (.tuple #[v, .int .i64 0]) ∧ Fr w' own (4, k, l.2) v (l.1.getD l.2 []) ∧ Wire w' B p own (st.set k (l.1, l.2 + 1)) ∧ Turns (fun b => own b = some (2, k, 0)) w w'
/-- The answer of Next. -/
def NextRes (st : List WayS) (own : Nat → Option Spot) (B p : Nat) (i : Int) (w : World) (e : Ending) (w' : World) : Prop :=
  match wayOf st i with
  | none => e = .returned (.tuple #[.slice none 0 0, .int .i64 1]) ∧ w = w'
  | some l => if l.1.length ≤ l.2 then e = .returned (.tuple #[.slice none 0 0, .int .i64 9]) ∧ w = w'
    else NextOk st own B p i.toNat l w e w'
theorem chan_turns (w : World) (c cap : Nat) (buf : Array Value) (s r : Nat) {T : Nat → Prop} (hT : T c) : Turns T w (w.setChan c cap buf false s r false) := by
  refine ⟨rfl, rfl, rfl, by simp [World.setChan], fun k hk hn => ?_⟩
  simp only [World.setChan]
  rw [Array.getElem?_setIfInBounds_ne]
  rintro rfl
  exact hn hT
/-- A frame is taken. -/
theorem Wire.took {w : World} {own : Nat → Option Spot} {B p g cap : Nat} {cs : List Value} {st : List WayS} {k : Nat} {l : WayS} {c s r : Nat} {buf : Array Value} {bv : Value} (h : WireAt w own B p g cap cs st) (hk : st[k]? = some l)
    (hc : cs[k * 2]? = some (.chan (some c))) (hb : cs[k * 2 + 1]? = some bv) (hl : Lane w own B k (.chan (some c)) bv l) (c2 : own c = some (2, k, 0)) (c3 : w.heap[c]? = some (.chan 200 buf false s r false)) (c4 : buf.size + l.2 = l.1.length)
    (c5 : ∀ j v, buf[j]? = some v → Fr w own (4, k, l.2 + j) v (l.1.getD (l.2 + j) [])) (h0 : l.2 < l.1.length) :
    Wire (w.setChan c 200 (buf.extract 1 buf.size) false s (r + 1) false) B p own (st.set k (l.1, l.2 + 1)) := by
  have hT := chan_turns w c 200 (buf.extract 1 buf.size) s (r + 1) (T := fun b => b = c) rfl
  have hcl : c < w.heap.size := (h.dom c _ c2).2
  have hkeep : ∀ b s', own b = some s' → s' ≠ (2, k, 0) → (w.setChan c 200 (buf.extract 1 buf.size) false s (r + 1) false).heap[b]? = w.heap[b]? := fun b s' hb hn => hT.block b (h.dom b s' hb).2 fun e => hn (by subst e; rw [c2] at hb; exact (Option.some.inj hb).symm)
  refine ⟨g, cap, cs, ⟨?_, h.hp, (hkeep g _ h.hg (by simp)).trans h.row, h.hg, fun i l' hl' => ?_, by rw [List.length_set]; exact h.le, by rw [List.length_set]; exact h.cap, fun b s' hb => ⟨(h.dom b s' hb).1, Nat.lt_of_lt_of_le (h.dom b s' hb).2 hT.size⟩⟩⟩
  · rw [List.length_set]
    exact (hkeep p _ h.hp (by simp)).trans h.head
  · by_cases hik : i = k
    · subst hik
      rw [List.getElem?_set_self (by have := (List.getElem?_eq_some_iff.1 hk).1; omega)] at hl'
      cases hl'
      refine ⟨_, bv, hc, hb, ⟨⟨c, buf.extract 1 buf.size, s, r + 1, rfl, c2, heap_setChan _ _ _ _ _ _ _ _ hcl, ?_, fun j v hj => ?_⟩, ?_, hl.le, hl.small⟩⟩
      · simp only [Array.size_extract]; omega
      · have hj2 : buf[j + 1]? = some v := by
          rw [Array.getElem?_extract] at hj
          split at hj
          · rwa [Nat.add_comm] at hj
          · cases hj
        have := c5 (j + 1) v hj2
        rw [show l.2 + (j + 1) = l.2 + 1 + j by omega] at this
        exact this.keep fun b hb => hkeep b _ hb (by simp)
      · obtain ⟨vals, b1, b2, b3, b4⟩ := hl.bag
        exact ⟨vals, b1.move fun g' off n c' e => hkeep g' _ (b2 g' ⟨_, _, _, e⟩) (by simp), b2, b3, fun j v hj => (b4 j v hj).keep fun b hb => hkeep b _ hb (by simp)⟩
    · rw [List.getElem?_set_ne (Ne.symm hik)] at hl'
      obtain ⟨cv', bv', e1, e2, e3⟩ := h.lane i l' hl'
      refine ⟨cv', bv', e1, e2, e3.keep fun b s' hb hs => hkeep b s' hb ?_⟩
      rintro rfl
      exact hik hs.1.symm

set_option maxRecDepth 100000 in
set_option maxHeartbeats 1000000 in
theorem next_any (w : World) (B p : Nat) (own : Nat → Option Spot) (st : List WayS) (i : Int) (h : Wire w B p own st) (hi : -9223372036854775808 ≤ i ∧ i ≤ 9223372036854775807) :
    Calls Try.prog 23 #[.pointer (some ⟨p, 0, none⟩), .int .i64 i] w (NextRes st own B p i w) := by
  unfold NextRes
  cases hw : wayOf st i with
  | none =>
    have L := Lib.hid (lane_none w B p own st i h hi hw)
    clear h hw
    go_enter Try.func23, Try.ntmps23
    go_wp2_with (go_at_call 69; refine L.out.mono ?_; rintro e w' ⟨rfl, rfl⟩)
    all_goals go_ret2
    exact ⟨rfl, rfl⟩
  | some l =>
    obtain ⟨k, rfl, hk, hkl⟩ := wayOf_some hw
    obtain ⟨g, cap, cs, ha⟩ := h
    obtain ⟨cv, bv, e1, e2, hl⟩ := ha.lane k l hk
    obtain ⟨c, buf, s, r, rfl, c2, c3, c4, c5⟩ := hl.chan
    have h1 := ha.row.at_ _ e1
    have L := Lib.hid (lane_some w B p g cap cs own st k ha hkl)
    have HA := Lib.hid ha
    have HL := Lib.hid hl
    have C5 := Lib.hid c5
    have HC := Lib.hid (fun _ : Unit => (⟨c2, c3, c4⟩ : own c = some (2, k, 0) ∧ w.heap[c]? = some (.chan 200 buf false s r false) ∧ buf.size + l.2 = l.1.length))
    have HK := Lib.hid (fun _ : Unit => (⟨hk, e1, e2⟩ : st[k]? = some l ∧ cs[k * 2]? = some (.chan (some c)) ∧ cs[k * 2 + 1]? = some bv))
    clear ha hl c5 hw hi c2 c3 c4 hk e1 e2
    have hkk : ((k : Int)).toNat = k := by omega
    simp only [hkk]
    clear hkk
    by_cases hle : l.1.length ≤ l.2
    · simp only [if_pos hle]
      obtain rfl : buf = #[] := Array.eq_empty_of_size_eq_zero (by have := (HC.out ()).2.2; omega)
      have hle2 := Lib.hid hle
      clear hle
      refine calls_of_wpN Try.func23 rfl ?_
      rw [Try.ntmps23]
      simp only [List.size_toArray, List.length_cons, List.length_nil, Nat.reduceAdd, Nat.reduceSub]
      rw [show (Array.replicate 20 undef : Array Value) = #[undef, undef, undef, undef, undef, undef, undef, undef, undef, undef, undef, undef, undef, undef, undef, undef, undef, undef, undef, undef] from rfl]
      simp only [List.append_toArray, List.cons_append, List.nil_append]
      refine wpN_seq_wp fun K0 hK0 => ?_
      go_wp2_with fail
      refine wpN_seq_wp fun K1 hK1 => ?_
      go_wp2_with (go_at_call 69; refine L.out.mono ?_; rintro e w' ⟨rfl, rfl⟩)
      refine wpN_seq_wp fun K2 hK2 => ?_
      go_wp2_with fail
      refine wpN_seq_wp fun K3 hK3 => ?_
      go_wp2_with fail
      refine wpN_seq_N fun K4 hK4 => wpN_select_none (z := .slice none 0 0) rfl rfl rfl ?_ (HC.out ()).2.1 ?_
      · simp [go_sem, execOp, rcase, Act.eval]
      · refine wpOps_tail ?_
        go_wp2_with fail
        refine wpN_of_wp ?_
        go_wp2_with fail
        all_goals go_ret2
        exact ⟨rfl, rfl⟩
    · simp only [if_neg hle]
      have HLE := Lib.hid hle
      clear hle
      refine calls_of_wpN Try.func23 rfl ?_
      rw [Try.ntmps23]
      simp only [List.size_toArray, List.length_cons, List.length_nil, Nat.reduceAdd, Nat.reduceSub]
      rw [show (Array.replicate 20 undef : Array Value) = #[undef, undef, undef, undef, undef, undef, undef, undef, undef, undef, undef, undef, undef, undef, undef, undef, undef, undef, undef, undef] from rfl]
      simp only [List.append_toArray, List.cons_append, List.nil_append]
      refine wpN_seq_wp fun K0 hK0 => ?_
      go_wp2_with fail
      refine wpN_seq_wp fun K1 hK1 => ?_
      go_wp2_with (go_at_call 69; refine L.out.mono ?_; rintro e w' ⟨rfl, rfl⟩)
      refine wpN_seq_wp fun K2 hK2 => ?_
      go_wp2_with fail
      refine wpN_seq_wp fun K3 hK3 => ?_
      go_wp2_with fail
      refine wpN_seq_N fun K4 hK4 => wpN_select_recv (z := .slice none 0 0) rfl rfl rfl ?_ (HC.out ()).2.1 (by have := (HC.out ()).2.2; have := HLE.out; omega) ?_
      · simp [go_sem, execOp, rcase, Act.eval]
      · refine wpOps_tail ?_
        have HW := Lib.hid (Wire.took HA.out (HK.out ()).1 (HK.out ()).2.1 (HK.out ()).2.2 HL.out (HC.out ()).1 (HC.out ()).2.1 (HC.out ()).2.2 C5.out (by have := HLE.out; omega))
        have HT := Lib.hid (chan_turns w c 200 (buf.extract 1 buf.size) s (r + 1) (T := fun b => own b = some (2, k, 0)) (HC.out ()).1)
        obtain ⟨v, hv⟩ : ∃ v, buf.getD 0 undef = v := ⟨_, rfl⟩
        have HV := Lib.hid (fun _ : Unit => hv)
        rw [hv]
        clear hv
        generalize w.setChan c 200 (buf.extract 1 buf.size) false s (r + 1) false = w2 at *
        go_wp2_with fail
        refine wpN_of_wp ?_
        go_wp2_with fail
        all_goals go_ret2
        refine ⟨v, rfl, ?_, HW.out, HT.out⟩
        have hc4 := (HC.out ()).2.2
        have h0 := HLE.out
        have hb0 : buf[0]? = some v := by
          rw [← HV.out (), Array.getD_eq_getD_getElem?, Array.getElem?_eq_getElem (by omega)]; rfl
        have hf := C5.out 0 v hb0
        rw [Nat.add_zero] at hf
        exact hf.keep fun b hb => HT.out.block b (HA.out.dom b _ hb).2 (by rw [hb]; simp)

/-- The answer of Lose. -/
def LoseRes (st : List WayS) (own : Nat → Option Spot) (B p : Nat) (i : Int) (w : World) (e : Ending) (w' : World) : Prop :=
  match wayOf st i with
  | none => e = .returned (.int .i64 1) ∧ w = w'
  | some l => if l.1.length ≤ l.2 then e = .returned (.int .i64 9) ∧ w = w'
    else e = .returned (.int .i64 0) ∧ Wire w' B p own (st.set i.toNat (l.1, l.2 + 1)) ∧ Turns (fun b => own b = some (2, i.toNat, 0)) w w'
theorem lose_any (w : World) (B p : Nat) (own : Nat → Option Spot) (st : List WayS) (i : Int) (h : Wire w B p own st) (hi : -9223372036854775808 ≤ i ∧ i ≤ 9223372036854775807) :
    Calls Try.prog 26 #[.pointer (some ⟨p, 0, none⟩), .int .i64 i] w (LoseRes st own B p i w) := by
  have N := Lib.hid (next_any w B p own st i h hi)
  unfold LoseRes
  unfold NextRes at N
  clear h
  cases hw : wayOf st i with
  | none =>
    rw [hw] at N
    go_enter Try.func26, Try.ntmps26
    go_wp2_with (go_at_call 23; refine N.out.mono ?_; rintro e w' ⟨rfl, rfl⟩)
    all_goals go_ret
    exact ⟨rfl, rfl⟩
  | some l =>
    rw [hw] at N
    by_cases hle : l.1.length ≤ l.2
    · simp only [if_pos hle] at N ⊢
      clear hle hw
      go_enter Try.func26, Try.ntmps26
      go_wp2_with (go_at_call 23; refine N.out.mono ?_; rintro e w' ⟨rfl, rfl⟩)
      all_goals go_ret
      exact ⟨rfl, rfl⟩
    · simp only [if_neg hle] at N ⊢
      clear hle hw
      go_enter Try.func26, Try.ntmps26
      go_wp2_with (go_at_call 23; refine N.out.mono ?_; rintro e w' ⟨v, rfl, hf, hwire, ht⟩; have HW := Lib.hid hwire; have HT := Lib.hid ht; clear hf hwire ht)
      all_goals go_ret
      exact ⟨rfl, HW.out, HT.out⟩
end Go.Proofs.Ytlgcnnhlbkidmaa
