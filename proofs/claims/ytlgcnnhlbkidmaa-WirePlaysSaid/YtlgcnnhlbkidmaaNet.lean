/-
  The reference's net: where its parts lie, and what they read as.
-/
import Derived.Test.YtlgcnnhlbkidmaaWireZ
import Derived.Test.YtlgcnnhlbkidmaaBoth
namespace Go.Proofs.Ytlgcnnhlbkidmaa
open Go.RowKit Go.Conc

/-- A way of the net: (0,0,0) the head, (1,0,0) the ways, (3,i,0) a bag, (5,i,j) a frame in it. -/
structure NWay (w : World) (own : Nat → Option Spot) (B i : Nat) (bv : Value) (l : WayS) : Prop where
  bag : ∃ vals, Part w B 22 bv vals ∧ (∀ b, hold bv b → own b = some (3, i, 0)) ∧ vals.length = l.1.length ∧ ∀ j v, vals[j]? = some v → Fr w own (5, i, j) v (l.1.getD j [])
  gone : l.2 ≤ l.1.length
  le : l.1.length ≤ 200
theorem NWay.keep {w w' : World} {own : Nat → Option Spot} {B i : Nat} {bv : Value} {l : WayS} (h : NWay w own B i bv l) (hs : ∀ b s, own b = some s → ofLane i s → w'.heap[b]? = w.heap[b]?) : NWay w' own B i bv l := by
  obtain ⟨vals, b1, b2, b3, b4⟩ := h.bag
  exact ⟨⟨vals, b1.move fun g off n c e => hs g _ (b2 g ⟨_, _, _, e⟩) ⟨rfl, show 2 ≤ 3 by decide⟩, b2, b3, fun j v hj => (b4 j v hj).keep fun b hb => hs b _ hb ⟨rfl, show 2 ≤ 5 by decide⟩⟩, h.gone, h.le⟩
theorem NWay.own {w : World} {own own' : Nat → Option Spot} {B i : Nat} {bv : Value} {l : WayS} (h : NWay w own B i bv l) (hs : ∀ b s, own b = some s → own' b = some s) : NWay w own' B i bv l := by
  obtain ⟨vals, b1, b2, b3, b4⟩ := h.bag
  exact ⟨⟨vals, b1, fun b hb => hs _ _ (b2 b hb), b3, fun j v hj => (b4 j v hj).own fun b hb => hs b _ hb⟩, h.gone, h.le⟩
structure NetAt (w : World) (own : Nat → Option Spot) (B p g : Nat) (cs : List Value) (st : List WayS) : Prop where
  head : Blk w p [.slice (some ⟨g, 0, none⟩) st.length st.length] 139
  hp : own p = some (0, 0, 0)
  row : Blk w g cs 142
  hg : own g = some (1, 0, 0)
  way : ∀ i l, st[i]? = some l → ∃ bv, cs[i * 2]? = some bv ∧ cs[i * 2 + 1]? = some (.int .i64 l.2) ∧ NWay w own B i bv l
  le : st.length ≤ 64
  dom : ∀ b s, own b = some s → B ≤ b ∧ b < w.heap.size
def Net (w : World) (B p : Nat) (own : Nat → Option Spot) (st : List WayS) : Prop := ∃ g cs, NetAt w own B p g cs st
theorem Net.dom {w : World} {B p : Nat} {own : Nat → Option Spot} {st : List WayS} (h : Net w B p own st) : ∀ b s, own b = some s → B ≤ b ∧ b < w.heap.size := by
  obtain ⟨g, cs, h⟩ := h
  exact h.dom
theorem Net.turns {w w' : World} {B p : Nat} {own : Nat → Option Spot} {st : List WayS} {T : Nat → Prop} (h : Net w B p own st) (ht : Turns T w w') (hT : ∀ b s, own b = some s → ¬ T b) : Net w' B p own st := by
  obtain ⟨g, cs, h⟩ := h
  have hk : ∀ b s, own b = some s → w'.heap[b]? = w.heap[b]? := fun b s hb => ht.block b (h.dom b s hb).2 (hT b s hb)
  refine ⟨g, cs, (hk p _ h.hp).trans h.head, h.hp, (hk g _ h.hg).trans h.row, h.hg, fun i l hl => ?_, h.le, fun b s hb => ⟨(h.dom b s hb).1, Nat.lt_of_lt_of_le (h.dom b s hb).2 ht.size⟩⟩
  obtain ⟨bv, h1, h2, h3⟩ := h.way i l hl
  exact ⟨bv, h1, h2, h3.keep fun b s hb _ => hk b s hb⟩
theorem Net.stay {w w' : World} {B p : Nat} {own : Nat → Option Spot} {st : List WayS} (h : Net w B p own st) (hb : Below w.heap.size w w') : Net w' B p own st :=
  h.turns (T := fun _ => False) (Turns.of_below hb) fun _ _ _ h => h

theorem is_any (w : World) (B p : Nat) (own : Nat → Option Spot) (st : List WayS) (i : Int) (h : Net w B p own st) (hi : -9223372036854775808 ≤ i ∧ i ≤ 9223372036854775807) :
    Calls Try.prog 72 #[.pointer (some ⟨p, 0, none⟩), .int .i64 i] w fun e w' => e = .returned (.bool (decide (0 ≤ i ∧ i < st.length))) ∧ w = w' := by
  obtain ⟨g, cs, h⟩ := h
  have h0 := h.head.at_ 0 rfl
  have hle := h.le
  clear h
  obtain ⟨n, hn⟩ : ∃ n, st.length = n := ⟨_, rfl⟩
  rw [hn] at hle h0 ⊢
  clear hn
  by_cases h1 : 0 ≤ i
  · by_cases h2 : i < n
    · go_enter Try.func72, Try.ntmps72
      go_wp2_with fail
      all_goals go_ret
      exact ⟨by simp [h1, h2], rfl⟩
    · go_enter Try.func72, Try.ntmps72
      go_wp2_with fail
      all_goals go_ret
      exact ⟨by simp; omega, rfl⟩
  · go_enter Try.func72, Try.ntmps72
    go_wp2_with fail
    all_goals go_ret
    exact ⟨by simp; omega, rfl⟩
theorem Net.took {w w' : World} {own : Nat → Option Spot} {B p g k : Nat} {cs : List Value} {st : List WayS} {l : WayS} {bv u : Value} (ha : NetAt w own B p g cs st) (hk : st[k]? = some l) (e1 : cs[k * 2]? = some bv) (e2 : cs[k * 2 + 1]? = some u) (hl : NWay w own B k bv l) (hlt : l.2 < l.1.length)
    (hrow : Blk w' g (cs.set (k * 2 + 1) (.int .i64 ((l.2 : Int) + 1))) 142) (hkeep : ∀ b s, own b = some s → b ≠ g → w'.heap[b]? = w.heap[b]?) (hs : w.heap.size ≤ w'.heap.size) : Net w' B p own (st.set k (l.1, l.2 + 1)) := by
  have hneg : ∀ b s, own b = some s → s.1 ≠ 1 → b ≠ g := fun b s hb hn e => by subst e; rw [ha.hg] at hb; cases hb; exact hn rfl
  have hpg := hneg p _ ha.hp (by simp)
  have hkl := (List.getElem?_eq_some_iff.1 hk).1
  have hcl := (List.getElem?_eq_some_iff.1 e2).1
  refine ⟨g, _, by rw [List.length_set]; exact (hkeep p _ ha.hp hpg).trans ha.head, ha.hp, hrow, ha.hg, fun i l' hl' => ?_, by rw [List.length_set]; exact ha.le, fun b s hb => ⟨(ha.dom b s hb).1, Nat.lt_of_lt_of_le (ha.dom b s hb).2 hs⟩⟩
  by_cases hik : i = k
  · subst hik
    rw [List.getElem?_set_self hkl] at hl'
    cases hl'
    refine ⟨bv, by rw [List.getElem?_set_ne (by omega)]; exact e1, by rw [List.getElem?_set_self hcl]; rfl, ?_⟩
    have h2 := hl.keep (w' := w') fun b s hb hs' => hkeep b s hb (hneg b s hb (by have := hs'.2; omega))
    exact ⟨h2.bag, by show l.2 + 1 ≤ l.1.length; omega, h2.le⟩
  · rw [List.getElem?_set_ne (Ne.symm hik)] at hl'
    obtain ⟨bv', q1, q2, q3⟩ := ha.way i l' hl'
    exact ⟨bv', by rw [List.getElem?_set_ne (by omega)]; exact q1, by rw [List.getElem?_set_ne (by omega)]; exact q2, q3.keep fun b s hb hs' => hkeep b s hb (hneg b s hb (by have := hs'.2; omega))⟩
/-- The answers of the net's Next. -/
def NNextOk (st : List WayS) (own : Nat → Option Spot) (B p k : Nat) (l : WayS) (w : World) (e : Ending) (w' : World) : Prop :=
  ∃ v, e = .returned (.tuple #[v, .int .i64 0]) ∧ Fr w' own (5, k, l.2) v (l.1.getD l.2 []) ∧ Net w' B p own (st.set k (l.1, l.2 + 1)) ∧ Turns (fun b => own b = some (1, 0, 0)) w w'
set_option maxRecDepth 100000 in
set_option maxHeartbeats 2000000 in
theorem nnext_any (w : World) (B p : Nat) (own : Nat → Option Spot) (st : List WayS) (i : Int) (h : Net w B p own st) (hi : -9223372036854775808 ≤ i ∧ i ≤ 9223372036854775807) :
    Calls Try.prog 33 #[.pointer (some ⟨p, 0, none⟩), .int .i64 i] w fun e w' =>
      match wayOf st i with
      | none => e = .returned (.tuple #[.slice none 0 0, .int .i64 1]) ∧ w = w'
      | some l => if l.1.length ≤ l.2 then e = .returned (.tuple #[.slice none 0 0, .int .i64 9]) ∧ Below w.heap.size w w' else NNextOk st own B p i.toNat l w e w' := by
  have IS := Lib.hid (is_any w B p own st i h hi)
  cases hw : wayOf st i with
  | none =>
    have hn := wayOf_none hw
    have hd : decide (0 ≤ i ∧ i < (st.length : Int)) = false := by simpa using hn
    rw [hd] at IS
    clear h hw hn hd
    go_enter Try.func33, Try.ntmps33
    go_wp2_with (go_at_call 72; refine IS.out.mono ?_; rintro e w' ⟨rfl, rfl⟩)
    all_goals go_ret2
    exact ⟨rfl, rfl⟩
  | some l =>
    obtain ⟨k, rfl, hk, hkl⟩ := wayOf_some hw
    have hd : decide (0 ≤ (k : Int) ∧ (k : Int) < (st.length : Int)) = true := by simp; omega
    rw [hd] at IS
    obtain ⟨g, cs, ha⟩ := h
    obtain ⟨bv, e1, e2, hl⟩ := ha.way k l hk
    have h0 := ha.head.at_ 0 rfl
    have h1 := ha.row.at_ _ e1
    have h2 := ha.row.at_ _ e2
    obtain ⟨n, hn⟩ : ∃ n, st.length = n := ⟨_, rfl⟩
    rw [hn] at h0 hkl
    have hle : n ≤ 64 := by rw [← hn]; exact ha.le
    obtain ⟨vals, b1, b2, b3, b4⟩ := hl.bag
    obtain ⟨A, c, rfl, b5, b6, b7, b8⟩ := b1.rd
    have HA := Lib.hid ha
    have hge := hl.gone
    have hle2 := hl.le
    rw [b3] at h1
    have hAl : Below w.heap.size w (w.alloc (.cells #[.slice A l.1.length c, .int .i64 l.2] 142)) := bw_al (Below.refl _ _) (Nat.le_refl _) _
    have hkk : ((k : Int)).toNat = k := by omega
    by_cases hfull : l.1.length ≤ l.2
    · have hf' : (l.1.length : Int) ≤ (l.2 : Int) := by omega
      simp only [if_pos hfull]
      clear b1 b2 b3 b4 b5 b6 b7 b8
      go_enter Try.func33, Try.ntmps33
      go_upto_region 4 with (go_at_call 72; refine IS.out.mono ?_; rintro e w' ⟨rfl, rfl⟩)
      go_wp2_with fail
      all_goals go_ret2
      exact ⟨rfl, hAl⟩
    · have hf' : ¬ (l.1.length : Int) ≤ (l.2 : Int) := by omega
      simp only [if_neg hfull, hkk]
      have hjl : l.2 < vals.length := by omega
      rcases b8 with b8 | ⟨bb, ob, rfl, b8⟩
      · rw [b8] at hjl; simp at hjl
      have b9 := b8 l.2 hjl
      have hvj : vals[l.2]? = some vals[l.2] := List.getElem?_eq_getElem hjl
      have hfr := b4 l.2 _ hvj
      obtain ⟨vj, hv⟩ : ∃ vj, vals[l.2] = vj := ⟨_, rfl⟩
      rw [hv] at b9 hfr
      obtain ⟨A2, c2, rfl, _⟩ := id hfr.1
      obtain ⟨m2, hm2⟩ : ∃ m, (bs (l.1.getD l.2 [])).length = m := ⟨_, rfl⟩
      rw [hm2] at b9 hfr
      have hbg : bb ≠ g := fun e => by have := b2 bb ⟨_, _, _, rfl⟩; rw [e, ha.hg] at this; cases this
      have hbl := World.block_lt_of_cell? w _ b9
      have b10 : (w.setCell ⟨g, k * 2 + 1, none⟩ (.int .i64 ((l.2 : Int) + 1))).cell? ⟨bb, ob + l.2, none⟩ = some (.slice A2 m2 c2) := by
        rw [World.cell?_of_block (w := w)]
        · exact b9
        · exact (Only.set _ g (k * 2 + 1) _).block bb hbg
      have hf2 := ha.row.free (k * 2 + 1)
      have h0' := cell_stay hAl h0
      have h2' := cell_stay hAl h2
      have hf2' := (ha.row.al (.cells #[.slice (some ⟨bb, ob, none⟩) l.1.length c, .int .i64 l.2] 142)).free (k * 2 + 1)
      have hgl := ha.row.lt
      have HFR := Lib.hid hfr
      have HA2 := Lib.hid ha
      have HL := Lib.hid hl
      have HK := Lib.hid (fun _ : Unit => hk)
      have HE := Lib.hid (fun _ : Unit => (⟨e1, e2⟩ : cs[k * 2]? = some (.slice (some ⟨bb, ob, none⟩) vals.length c) ∧ cs[k * 2 + 1]? = some (.int .i64 l.2)))
      have HB3 := Lib.hid (fun _ : Unit => b3)
      have hlm : (l.2 : Int) + 1 ≤ 200 := by omega
      clear b1 b2 b4 b5 b6 b7 b8 b9 hfr hl hk e1 e2 ha hvj hv hbg hn b3
      go_enter Try.func33, Try.ntmps33
      go_upto_region 4 with (go_at_call 72; refine IS.out.mono ?_; rintro e w' ⟨rfl, rfl⟩)
      go_wp2_with fail
      go_ret2
      have hA := HA2.out
      have hset : ∀ (o : Obj) b, b < w.heap.size → b ≠ g → ((w.setCell ⟨g, k * 2 + 1, none⟩ (.int .i64 ((l.2 : Int) + 1))).alloc o).heap[b]? = w.heap[b]? := fun o b hb hn =>
        (Below.heap_alloc _ _ b (by rw [(Only.set w g (k * 2 + 1) (.int .i64 ((l.2 : Int) + 1))).size]; exact hb)).trans ((Only.set w g (k * 2 + 1) _).block b hn)
      refine ⟨_, rfl, HFR.out.keep fun b hb => hset _ b (hA.dom b _ hb).2 (fun e => by subst e; rw [hA.hg] at hb; cases hb), ?_, ?_⟩
      · refine Net.took hA (HK.out ()) (HE.out ()).1 (HE.out ()).2 HL.out (by omega) ((hA.row.set _ _).al _) (fun b s hb hn => hset _ b (hA.dom b s hb).2 hn) (by simp [(Only.set w g (k * 2 + 1) (.int .i64 ((l.2 : Int) + 1))).size])
      · have hO := Only.set w g (k * 2 + 1) (.int .i64 ((l.2 : Int) + 1))
        refine ⟨rfl, rfl, rfl, by simp [hO.size], fun b hb hn => hset _ b hb (fun e => hn (by subst e; exact hA.hg))⟩

set_option maxRecDepth 100000 in
set_option maxHeartbeats 2000000 in
theorem npick_any (w : World) (B p : Nat) (own : Nat → Option Spot) (st : List WayS) (i j : Int) (h : Net w B p own st) (hi : -9223372036854775808 ≤ i ∧ i ≤ 9223372036854775807) (_hj : -9223372036854775808 ≤ j ∧ j ≤ 9223372036854775807) :
    Calls Try.prog 34 #[.pointer (some ⟨p, 0, none⟩), .int .i64 i, .int .i64 j] w fun e w' => ∃ v, e = .returned (.tuple #[v, .int .i64 (pickE st i j)]) ∧ Rd w' v (bs (pickF st i j)) ∧ w = w' := by
  have IS := Lib.hid (is_any w B p own st i h hi)
  unfold pickE pickF
  cases hw : wayOf st i with
  | none =>
    have hn := wayOf_none hw
    have hd : decide (0 ≤ i ∧ i < (st.length : Int)) = false := by simpa using hn
    rw [hd] at IS
    clear h hw hn hd
    go_enter Try.func34, Try.ntmps34
    go_wp2_with (go_at_call 72; refine IS.out.mono ?_; rintro e w' ⟨rfl, rfl⟩)
    all_goals go_ret2
    exact ⟨_, rfl, Rd.nil w, rfl⟩
  | some l =>
    obtain ⟨k, rfl, hk, hkl⟩ := wayOf_some hw
    have hd : decide (0 ≤ (k : Int) ∧ (k : Int) < (st.length : Int)) = true := by simp; omega
    rw [hd] at IS
    obtain ⟨g, cs, ha⟩ := h
    obtain ⟨bv, e1, e2, hl⟩ := ha.way k l hk
    have h0 := ha.head.at_ 0 rfl
    have h1 := ha.row.at_ _ e1
    obtain ⟨n, hn⟩ : ∃ n, st.length = n := ⟨_, rfl⟩
    rw [hn] at h0 hkl
    have hle : n ≤ 64 := by rw [← hn]; exact ha.le
    obtain ⟨vals, b1, b2, b3, b4⟩ := hl.bag
    obtain ⟨A, c, rfl, b5, b6, b7, b8⟩ := b1.rd
    have hle2 := hl.le
    rw [b3] at h1
    obtain ⟨m, hm⟩ : ∃ m, l.1.length = m := ⟨_, rfl⟩
    rw [hm] at h1 hle2 b3
    simp only [hm]
    by_cases hlo : 0 ≤ j
    · obtain ⟨q, rfl⟩ := Int.eq_ofNat_of_zero_le hlo
      by_cases hq : q < m
      · have hjl : q < vals.length := by omega
        rcases b8 with b8 | ⟨bb, ob, rfl, b8⟩
        · rw [b8] at hjl; simp at hjl
        have b9 := b8 q hjl
        have hvj : vals[q]? = some vals[q] := List.getElem?_eq_getElem hjl
        have hfr := b4 q _ hvj
        obtain ⟨vj, hv⟩ : ∃ vj, vals[q] = vj := ⟨_, rfl⟩
        rw [hv] at b9 hfr
        obtain ⟨A2, c2, rfl, _⟩ := id hfr.1
        obtain ⟨m2, hm2⟩ : ∃ m, (bs (l.1.getD q [])).length = m := ⟨_, rfl⟩
        rw [hm2] at b9 hfr
        have HFR := Lib.hid hfr.1
        have hc : 0 ≤ (q : Int) ∧ (q : Int) < (m : Int) := by omega
        have hq' : ¬ (m : Int) ≤ (q : Int) := by omega
        have hq2 : ¬ (q : Int) < 0 := by omega
        have hq3 : ¬ m ≤ q := by omega
        simp only [if_pos hc, Int.toNat_natCast]
        clear hvj hv hfr b1 b2 b3 b4 b5 b6 b7 b8 hl ha hk hw e1 e2 hn hm hc
        go_enter Try.func34, Try.ntmps34
        go_wp2_with (go_at_call 72; refine IS.out.mono ?_; rintro e w' ⟨rfl, rfl⟩)
        all_goals go_ret2
        exact ⟨_, rfl, HFR.out, rfl⟩
      · have hc : ¬ (0 ≤ (q : Int) ∧ (q : Int) < (m : Int)) := by omega
        have hq' : (m : Int) ≤ (q : Int) := by omega
        have hq2 : ¬ (q : Int) < 0 := by omega
        have hq3 : m ≤ q := by omega
        simp only [if_neg hc]
        clear b1 b2 b3 b4 b5 b6 b7 b8 hl ha hk hw e1 e2 hn hm hc
        go_enter Try.func34, Try.ntmps34
        go_wp2_with (go_at_call 72; refine IS.out.mono ?_; rintro e w' ⟨rfl, rfl⟩)
        all_goals go_ret2
        exact ⟨_, rfl, Rd.nil w, rfl⟩
    · have hc : ¬ (0 ≤ j ∧ j < (m : Int)) := by omega
      have hq2 : j < 0 := by omega
      simp only [if_neg hc]
      clear b1 b2 b3 b4 b5 b6 b7 b8 hl ha hk hw e1 e2 hn hm hc
      go_enter Try.func34, Try.ntmps34
      go_wp2_with (go_at_call 72; refine IS.out.mono ?_; rintro e w' ⟨rfl, rfl⟩)
      all_goals go_ret2
      exact ⟨_, rfl, Rd.nil w, rfl⟩

set_option maxRecDepth 100000 in
set_option maxHeartbeats 2000000 in
theorem ncounts_any (w : World) (B p : Nat) (own : Nat → Option Spot) (st : List WayS) (i : Int) (h : Net w B p own st) (hi : -9223372036854775808 ≤ i ∧ i ≤ 9223372036854775807) :
    Calls Try.prog 36 #[.pointer (some ⟨p, 0, none⟩), .int .i64 i] w fun e w' => (match wayOf st i with
      | none => e = .returned (.agg #[.int .i64 0, .int .i64 0])
      | some l => e = .returned (.agg #[.int .i64 l.1.length, .int .i64 ((l.1.length - l.2 : Nat) : Int)])) ∧ Below w.heap.size w w' := by
  have h' := h.stay (bw_al (Below.refl _ _) (Nat.le_refl _) (.cells #[.int .i64 0, .int .i64 0] 52))
  have IS := Lib.hid (is_any _ B p own st i h' hi)
  have hAl : Below w.heap.size w (w.alloc (.cells #[.int .i64 0, .int .i64 0] 52)) := bw_al (Below.refl _ _) (Nat.le_refl _) _
  cases hw : wayOf st i with
  | none =>
    have hn := wayOf_none hw
    have hd : decide (0 ≤ i ∧ i < (st.length : Int)) = false := by simpa using hn
    rw [hd] at IS
    clear h h' hw hn hd
    go_enter Try.func36, Try.ntmps36
    go_wp2_with (go_at_call 72; refine IS.out.mono ?_; rintro e w' ⟨rfl, rfl⟩)
    have hbk : Blk (w.alloc (.cells #[.int .i64 0, .int .i64 0] 52)) w.heap.size [.int .i64 0, .int .i64 0] 52 := Blk.mk_ _ rfl rfl
    exact ret_blk Try.results36 rfl hbk Try.underlying52 rfl (n := 2) (by kernel_rfl) rfl rfl ⟨rfl, hAl⟩
  | some l =>
    obtain ⟨k, rfl, hk, hkl⟩ := wayOf_some hw
    have hd : decide (0 ≤ (k : Int) ∧ (k : Int) < (st.length : Int)) = true := by simp; omega
    rw [hd] at IS
    obtain ⟨g, cs, ha⟩ := h'
    obtain ⟨bv, e1, e2, hl⟩ := ha.way k l hk
    have h0 := ha.head.at_ 0 rfl
    have h1 := ha.row.at_ _ e1
    have h2 := ha.row.at_ _ e2
    obtain ⟨n, hn⟩ : ∃ n, st.length = n := ⟨_, rfl⟩
    rw [hn] at h0 hkl
    have hle : n ≤ 64 := by rw [← hn]; exact ha.le
    obtain ⟨vals, b1, b2, b3, b4⟩ := hl.bag
    obtain ⟨A, c, rfl, b5, b6, b7, b8⟩ := b1.rd
    have hge := hl.gone
    have hle2 := hl.le
    rw [b3] at h1
    have hge' : (l.2 : Int) ≤ (l.1.length : Int) := by omega
    have hsub : ((l.1.length - l.2 : Nat) : Int) = (l.1.length : Int) - (l.2 : Int) := by omega
    simp only [hsub]
    clear h b1 b2 b3 b4 b5 b6 b7 b8 hl ha hk hw e1 e2 hn hsub
    go_enter Try.func36, Try.ntmps36
    go_upto_region 3 with (go_at_call 72; refine IS.out.mono ?_; rintro e w' ⟨rfl, rfl⟩)
    refine region_plan ⟨[0, 1, 3, 7, 0, 31, 63, 127, 255, 0, 512, 1536, 3584, 0, 15872, 32256, 65024, 130560, 0, 262144, 786432, 1835008, 0, 8126464, 16515072, 33292288, 67108352, 134217727, 268435455], [28], [0, 0, 0, 0, 0, 0, 0, 0, 0, 0, 0, 0, 0, 0, 0, 0, 0, 0, 0, 0, 0, 0, 0, 0, 0, 0, 0, 0, 0]⟩
      [⟨[0, 1, 2, 3, 4, 5, 6, 7, 8, 9, 10, 11, 12, 13, 14, 15, 16, 17, 18, 19, 20, 21, 22, 23, 24, 25, 26, 27], [1, 2, 3, 5, 6, 7, 8, 10, 11, 12, 14, 15, 16, 17, 19, 20, 21, 23, 24, 25, 26, 27], some 28⟩, ⟨[], [], none⟩] 38 (by kernel_rfl) (by kernel_rfl) (by kernel_rfl) (by kernel_rfl) rfl ?_
    simp only [SeqGo, opsAt_cons, opsAt_nil, List.getElem?_cons, Option.toList_some, List.singleton_append, ↓reduceIte, Nat.reduceEqDiff, Nat.reduceSub]
    go_wp2_with fail
    refine ⟨by (simp only [Sames, Same]; go_simp; (try (rw [IntKind.wrap_i64]; omega))), ?_⟩
    go_wp2_with fail
    refine ⟨trivial, ?_⟩
    go_wp2_with fail
    have hbk : Blk (w.alloc (.cells #[.int .i64 l.1.length, .int .i64 ((l.1.length : Int) - l.2)] 52)).drew w.heap.size [.int .i64 l.1.length, .int .i64 ((l.1.length : Int) - l.2)] 52 := Blk.d1 (Blk.mk_ _ rfl rfl)
    exact ret_blk Try.results36 rfl hbk Try.underlying52 rfl (n := 2) (by kernel_rfl) rfl rfl ⟨rfl, bw_d1 (bw_al (Below.refl _ _) (Nat.le_refl _) _)⟩
end Go.Proofs.Ytlgcnnhlbkidmaa
