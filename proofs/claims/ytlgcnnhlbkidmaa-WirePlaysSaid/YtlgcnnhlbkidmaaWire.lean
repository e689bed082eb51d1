/-
  A wire: where its parts lie, and what they read as.
-/
import Derived.Test.YtlgcnnhlbkidmaaPart
import Derived.Test.YtlgcnnhlbkidmaaSelect
import Derived.Deep.DeepCutAuto
import Derived.Lib.Hide
namespace Go.Proofs.Ytlgcnnhlbkidmaa
open Go.RowKit Go.Conc

/-- What a block is to a wire: (0,0,0) its head, (1,0,0) its lanes, (2,i,0) a way, (3,i,0) a bag, (4,i,j) a frame that was sent on a way, (5,i,j) one in a bag. -/
abbrev Spot := Nat × Nat × Nat
/-- A frame that lies where it should. -/
def Fr (w : World) (own : Nat → Option Spot) (s : Spot) (v : Value) (xs : List Int) : Prop := Rd w v (bs xs) ∧ ∀ b, hold v b → own b = some s
theorem Fr.keep {w w' : World} {own : Nat → Option Spot} {s : Spot} {v : Value} {xs : List Int} (h : Fr w own s v xs) (hs : ∀ b, own b = some s → w'.heap[b]? = w.heap[b]?) : Fr w' own s v xs := by
  refine ⟨?_, h.2⟩
  obtain ⟨A, c, rfl, h1, h2, h3, h4⟩ := h.1
  refine ⟨A, c, rfl, h1, h2, h3, ?_⟩
  rcases h4 with h4 | ⟨b, o, rfl, h4⟩
  · exact .inl h4
  · refine .inr ⟨b, o, rfl, fun j hj => ?_⟩
    rw [← h4 j hj]
    have := hs b (h.2 b ⟨_, _, _, rfl⟩)
    simp only [World.cell?, this]
theorem Fr.own {w : World} {own own' : Nat → Option Spot} {s : Spot} {v : Value} {xs : List Int} (h : Fr w own s v xs) (hs : ∀ b, own b = some s → own' b = some s) : Fr w own' s v xs := ⟨h.1, fun b hb => hs b (h.2 b hb)⟩

/-- A way: what was sent, and how many of it came. -/
abbrev WayS := List (List Int) × Nat
structure Lane (w : World) (own : Nat → Option Spot) (B i : Nat) (cv bv : Value) (l : WayS) : Prop where
  chan : ∃ c buf s r, cv = .chan (some c) ∧ own c = some (2, i, 0) ∧ w.heap[c]? = some (.chan 200 buf false s r false) ∧ buf.size + l.2 = l.1.length ∧ ∀ j v, buf[j]? = some v → Fr w own (4, i, l.2 + j) v (l.1.getD (l.2 + j) [])
  bag : ∃ vals, Part w B 22 bv vals ∧ (∀ b, hold bv b → own b = some (3, i, 0)) ∧ vals.length = l.1.length ∧ ∀ j v, vals[j]? = some v → Fr w own (5, i, j) v (l.1.getD j [])
  le : l.1.length ≤ 200
  small : ∀ f, f ∈ l.1 → IsB f ∧ f.length ≤ 131072
/-- Blocks of lane i. -/
def ofLane (i : Nat) (s : Spot) : Prop := s.2.1 = i ∧ 2 ≤ s.1
theorem Lane.keep {w w' : World} {own : Nat → Option Spot} {B i : Nat} {cv bv : Value} {l : WayS} (h : Lane w own B i cv bv l) (hs : ∀ b s, own b = some s → ofLane i s → w'.heap[b]? = w.heap[b]?) : Lane w' own B i cv bv l := by
  obtain ⟨c, buf, s, r, h1, h2, h3, h4, h5⟩ := h.chan
  obtain ⟨vals, b1, b2, b3, b4⟩ := h.bag
  refine ⟨⟨c, buf, s, r, h1, h2, (hs c _ h2 ⟨rfl, show 2 ≤ 2 by decide⟩).trans h3, h4, fun j v hj => (h5 j v hj).keep fun b hb => hs b _ hb ⟨rfl, show 2 ≤ 4 by decide⟩⟩, ⟨vals, b1.move fun g off n c e => hs g _ (b2 g ⟨_, _, _, e⟩) ⟨rfl, show 2 ≤ 3 by decide⟩, b2, b3, fun j v hj => (b4 j v hj).keep fun b hb => hs b _ hb ⟨rfl, show 2 ≤ 5 by decide⟩⟩, h.le, h.small⟩
theorem Lane.own {w : World} {own own' : Nat → Option Spot} {B i : Nat} {cv bv : Value} {l : WayS} (h : Lane w own B i cv bv l) (hs : ∀ b s, own b = some s → own' b = some s) : Lane w own' B i cv bv l := by
  obtain ⟨c, buf, s, r, h1, h2, h3, h4, h5⟩ := h.chan
  obtain ⟨vals, b1, b2, b3, b4⟩ := h.bag
  exact ⟨⟨c, buf, s, r, h1, hs _ _ h2, h3, h4, fun j v hj => (h5 j v hj).own fun b hb => hs b _ hb⟩, ⟨vals, b1, fun b hb => hs _ _ (b2 b hb), b3, fun j v hj => (b4 j v hj).own fun b hb => hs b _ hb⟩, h.le, h.small⟩

/-- A wire of some ways, from block B on. -/
structure WireAt (w : World) (own : Nat → Option Spot) (B p g cap : Nat) (cs : List Value) (st : List WayS) : Prop where
  head : Blk w p [.slice (some ⟨g, 0, none⟩) st.length cap] 129
  hp : own p = some (0, 0, 0)
  row : Blk w g cs 132
  hg : own g = some (1, 0, 0)
  lane : ∀ i l, st[i]? = some l → ∃ cv bv, cs[i * 2]? = some cv ∧ cs[i * 2 + 1]? = some bv ∧ Lane w own B i cv bv l
  le : st.length ≤ 64
  cap : st.length ≤ cap ∧ cap ≤ 9223372036854775807
  dom : ∀ b s, own b = some s → B ≤ b ∧ b < w.heap.size
def Wire (w : World) (B p : Nat) (own : Nat → Option Spot) (st : List WayS) : Prop := ∃ g cap cs, WireAt w own B p g cap cs st
theorem Wire.dom {w : World} {B p : Nat} {own : Nat → Option Spot} {st : List WayS} (h : Wire w B p own st) : ∀ b s, own b = some s → B ≤ b ∧ b < w.heap.size := by
  obtain ⟨g, cap, cs, h⟩ := h
  exact h.dom
/-- Others may turn what is none of its blocks. -/
theorem Wire.turns {w w' : World} {B p : Nat} {own : Nat → Option Spot} {st : List WayS} {T : Nat → Prop} (h : Wire w B p own st) (ht : Turns T w w') (hT : ∀ b s, own b = some s → ¬ T b) : Wire w' B p own st := by
  obtain ⟨g, cap, cs, h⟩ := h
  have hk : ∀ b s, own b = some s → w'.heap[b]? = w.heap[b]? := fun b s hb => ht.block b (h.dom b s hb).2 (hT b s hb)
  refine ⟨g, cap, cs, (hk p _ h.hp).trans h.head, h.hp, (hk g _ h.hg).trans h.row, h.hg, fun i l hl => ?_, h.le, h.cap, fun b s hb => ⟨(h.dom b s hb).1, Nat.lt_of_lt_of_le (h.dom b s hb).2 ht.size⟩⟩
  obtain ⟨cv, bv, h1, h2, h3⟩ := h.lane i l hl
  exact ⟨cv, bv, h1, h2, h3.keep fun b s hb _ => hk b s hb⟩
theorem Wire.stay {w w' : World} {B p : Nat} {own : Nat → Option Spot} {st : List WayS} (h : Wire w B p own st) (hb : Below w.heap.size w w') : Wire w' B p own st :=
  h.turns (T := fun _ => False) (Turns.of_below hb) fun _ _ _ h => h

set_option maxRecDepth 100000 in
theorem lane_any (w : World) (B p g cap : Nat) (cs : List Value) (own : Nat → Option Spot) (st : List WayS) (i : Int) (h : WireAt w own B p g cap cs st) (hi : -9223372036854775808 ≤ i ∧ i ≤ 9223372036854775807) :
    Calls Try.prog 69 #[.pointer (some ⟨p, 0, none⟩), .int .i64 i] w fun e w' => e = .returned (.pointer (if 0 ≤ i ∧ i < st.length then some ⟨g, i.toNat * 2, none⟩ else none)) ∧ w = w' := by
  have h0 := h.head.at_ 0 rfl
  have hle := h.le
  have hcap := h.cap
  clear h
  obtain ⟨n, hn⟩ : ∃ n, st.length = n := ⟨_, rfl⟩
  rw [hn] at hle hcap h0 ⊢
  by_cases h1 : 0 ≤ i ∧ i < n
  · rw [if_pos h1]
    obtain ⟨k, rfl⟩ := Int.eq_ofNat_of_zero_le h1.1
    have h2 : ¬ (k : Int) < 0 := by omega
    have h3 : ¬ (n : Int) ≤ (k : Int) := by omega
    have h4 : k < n := by omega
    clear hn h1
    go_enter Try.func69, Try.ntmps69
    go_wp2_with fail
    all_goals go_ret
    exact ⟨rfl, rfl⟩
  · rw [if_neg h1]
    by_cases h2 : i < 0
    · clear hn h1
      go_enter Try.func69, Try.ntmps69
      go_wp2_with fail
      all_goals go_ret
      exact ⟨rfl, rfl⟩
    · have h3 : (n : Int) ≤ i := by omega
      clear hn h1
      go_enter Try.func69, Try.ntmps69
      go_wp2_with fail
      all_goals go_ret
      exact ⟨rfl, rfl⟩
theorem lane_nil (w : World) (i : Int) : Calls Try.prog 69 #[.pointer none, .int .i64 i] w fun e w' => e = .returned (.pointer none) ∧ w = w' := by
  go_enter Try.func69, Try.ntmps69
  go_wp2_with fail
  all_goals go_ret
  exact ⟨rfl, rfl⟩

/-- The lane of a way, as it lies. -/
theorem Wire.at_ {w : World} {B p : Nat} {own : Nat → Option Spot} {st : List WayS} (h : Wire w B p own st) (k : Nat) (l : WayS) (hl : st[k]? = some l) : ∃ g cap cs cv bv, WireAt w own B p g cap cs st ∧ w.cell? ⟨g, k * 2, none⟩ = some cv ∧ w.cell? ⟨g, k * 2 + 1, none⟩ = some bv ∧ w.frozen? ⟨g, k * 2 + 1, none⟩ = false ∧ Lane w own B k cv bv l := by
  obtain ⟨g, cap, cs, h⟩ := h
  obtain ⟨cv, bv, h1, h2, h3⟩ := h.lane k l hl
  exact ⟨g, cap, cs, cv, bv, h, h.row.at_ _ h1, h.row.at_ _ h2, h.row.free _, h3⟩
/-- What count tells. -/
def wayOf (st : List WayS) (i : Int) : Option WayS := if 0 ≤ i then st[i.toNat]? else none
theorem wayOf_none {st : List WayS} {i : Int} (h : wayOf st i = none) : ¬ (0 ≤ i ∧ i < st.length) := by
  unfold wayOf at h
  split at h
  · rw [List.getElem?_eq_none_iff] at h; omega
  · omega
theorem wayOf_some {st : List WayS} {i : Int} {l : WayS} (h : wayOf st i = some l) : ∃ k : Nat, i = k ∧ st[k]? = some l ∧ k < st.length := by
  unfold wayOf at h
  split at h
  · obtain ⟨k, rfl⟩ := Int.eq_ofNat_of_zero_le ‹_›
    exact ⟨k, rfl, h, (List.getElem?_eq_some_iff.1 h).1⟩
  · cases h
theorem lane_none (w : World) (B p : Nat) (own : Nat → Option Spot) (st : List WayS) (i : Int) (h : Wire w B p own st) (hi : -9223372036854775808 ≤ i ∧ i ≤ 9223372036854775807) (hn : wayOf st i = none) :
    Calls Try.prog 69 #[.pointer (some ⟨p, 0, none⟩), .int .i64 i] w fun e w' => e = .returned (.pointer none) ∧ w = w' := by
  obtain ⟨g, cap, cs, h⟩ := h
  have := lane_any w B p g cap cs own st i h hi
  rwa [if_neg (wayOf_none hn)] at this
theorem lane_some (w : World) (B p g cap : Nat) (cs : List Value) (own : Nat → Option Spot) (st : List WayS) (k : Nat) (h : WireAt w own B p g cap cs st) (hk : k < st.length) :
    Calls Try.prog 69 #[.pointer (some ⟨p, 0, none⟩), .int .i64 k] w fun e w' => e = .returned (.pointer (some ⟨g, k * 2, none⟩)) ∧ w = w' := by
  have hle := h.le
  have := lane_any w B p g cap cs own st k h (by omega)
  rwa [if_pos (by omega)] at this

theorem count_any (w : World) (B p : Nat) (own : Nat → Option Spot) (st : List WayS) (i : Int) (h : Wire w B p own st) (hi : -9223372036854775808 ≤ i ∧ i ≤ 9223372036854775807) :
    Calls Try.prog 25 #[.pointer (some ⟨p, 0, none⟩), .int .i64 i] w fun e w' => e = .returned (.int .i64 (match wayOf st i with | some l => (l.1.length : Int) | none => 0)) ∧ w = w' := by
  cases hw : wayOf st i with
  | none =>
    have L := Lib.hid (lane_none w B p own st i h hi hw)
    clear h hw
    go_enter Try.func25, Try.ntmps25
    go_wp2_with (go_at_call 69; refine L.out.mono ?_; rintro e w' ⟨rfl, rfl⟩)
    all_goals go_ret
    exact ⟨rfl, rfl⟩
  | some l =>
    obtain ⟨k, rfl, hk, hkl⟩ := wayOf_some hw
    obtain ⟨g, cap, cs, cv, bv, ha, h1, h2, h3, hl⟩ := h.at_ k l hk
    have L := Lib.hid (lane_some w B p g cap cs own st k ha hkl)
    obtain ⟨vals, b1, b2, b3, b4⟩ := hl.bag
    have hle := hl.le
    have hlv : ∀ w', (Builtin.len_ #[55] 3 #[bv]).run Try.prog w' = .ok (goInt l.1.length) w' := by
      have := len_fact (P := Try.prog) b1.rd (t := 55) (ty := 3) (by kernel_rfl)
      rwa [b3] at this
    clear h hw ha hl b1 b2 b3 b4 hi
    go_enter Try.func25, Try.ntmps25
    go_wp2_with (go_at_call 69; refine L.out.mono ?_; rintro e w' ⟨rfl, rfl⟩)
    all_goals go_ret
    exact ⟨rfl, rfl⟩
end Go.Proofs.Ytlgcnnhlbkidmaa
