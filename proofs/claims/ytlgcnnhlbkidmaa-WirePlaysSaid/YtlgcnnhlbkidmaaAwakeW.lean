/-
  The example of the laws on wires.
-/
import Derived.Test.YtlgcnnhlbkidmaaWireC
import Derived.Lib.SlBytesConst
namespace Go.Proofs.Ytlgcnnhlbkidmaa
open Go.RowKit Go.Conc

theorem send_ok (w : World) (B p : Nat) (own : Nat → Option Spot) (st : List WayS) (k : Nat) (l : WayS) (v : Value) (xs : List Int) (h : Wire w B p own st) (hk : st[k]? = some l) (hr : Rd w v (bs xs)) (hx : IsB xs) (hl : xs.length ≤ 131072) (hf : l.1.length < 200) :
    Calls Try.prog 22 #[.pointer (some ⟨p, 0, none⟩), .int .i64 k, v] w (SendOk st own B p k l xs w) := by
  have hlen : k < st.length := (List.getElem?_eq_some_iff.1 hk).1
  have hle : st.length ≤ 64 := by obtain ⟨g, cap, cs, h⟩ := h; exact h.le
  have hw : wayOf st (k : Int) = some l := by unfold wayOf; rw [if_pos (by omega)]; simpa using hk
  have := send_any w B p own st k v xs h (by omega) hr hx
  unfold SendRes at this
  rw [hw] at this
  simp only [if_neg (show ¬ 131072 < xs.length by omega), if_neg (show ¬ 200 ≤ l.1.length by omega), Int.toNat_natCast] at this
  exact this
theorem next_ok (w : World) (B p : Nat) (own : Nat → Option Spot) (st : List WayS) (k : Nat) (l : WayS) (h : Wire w B p own st) (hk : st[k]? = some l) (hf : l.2 < l.1.length) :
    Calls Try.prog 23 #[.pointer (some ⟨p, 0, none⟩), .int .i64 k] w (NextOk st own B p k l w) := by
  have hlen : k < st.length := (List.getElem?_eq_some_iff.1 hk).1
  have hle : st.length ≤ 64 := by obtain ⟨g, cap, cs, h⟩ := h; exact h.le
  have hw : wayOf st (k : Int) = some l := by unfold wayOf; rw [if_pos (by omega)]; simpa using hk
  have := next_any w B p own st k h (by omega)
  unfold NextRes at this
  rw [hw] at this
  simp only [if_neg (show ¬ l.1.length ≤ l.2 by omega), Int.toNat_natCast] at this
  exact this
theorem next_empty (w : World) (B p : Nat) (own : Nat → Option Spot) (st : List WayS) (k : Nat) (l : WayS) (h : Wire w B p own st) (hk : st[k]? = some l) (hf : l.1.length ≤ l.2) :
    Calls Try.prog 23 #[.pointer (some ⟨p, 0, none⟩), .int .i64 k] w fun e w' => e = .returned (.tuple #[.slice none 0 0, .int .i64 9]) ∧ w = w' := by
  have hlen : k < st.length := (List.getElem?_eq_some_iff.1 hk).1
  have hle : st.length ≤ 64 := by obtain ⟨g, cap, cs, h⟩ := h; exact h.le
  have hw : wayOf st (k : Int) = some l := by unfold wayOf; rw [if_pos (by omega)]; simpa using hk
  have := next_any w B p own st k h (by omega)
  unfold NextRes at this
  rw [hw] at this
  simp only [if_pos hf] at this
  exact this
theorem pick_ok (w : World) (B p : Nat) (own : Nat → Option Spot) (st : List WayS) (k j : Nat) (l : WayS) (h : Wire w B p own st) (hk : st[k]? = some l) (hj : j < l.1.length) :
    Calls Try.prog 24 #[.pointer (some ⟨p, 0, none⟩), .int .i64 k, .int .i64 j] w fun e w' => ∃ v, e = .returned (.tuple #[v, .int .i64 0]) ∧ w'.ownsRow w.heap.size 5 1 v (l.1.getD j []).length (bs (l.1.getD j [])) ∧ Below w.heap.size w w' := by
  have hlen : k < st.length := (List.getElem?_eq_some_iff.1 hk).1
  have hle : st.length ≤ 64 ∧ l.1.length ≤ 200 := by
    obtain ⟨g, cap, cs, h⟩ := h
    obtain ⟨_, _, _, _, hl⟩ := h.lane k l hk
    exact ⟨h.le, hl.le⟩
  have hw : wayOf st (k : Int) = some l := by unfold wayOf; rw [if_pos (by omega)]; simpa using hk
  have := pick_any w B p own st k j h (by omega) (by omega)
  unfold PickRes pickE pickF at this
  rw [hw] at this
  simp only [if_pos (show 0 ≤ (j : Int) ∧ (j : Int) < l.1.length by omega), Int.toNat_natCast] at this
  exact this
theorem conv_of_rd {w : World} {v : Value} {xs : List Int} (hr : Rd w v (bs xs)) : (convert 22 9 v).run Try.prog w = .ok (.string (strOf xs)) w := by
  obtain ⟨A, c, rfl, _⟩ := id hr
  exact run_conv w A _ c xs hr
theorem rd_frozen (w : World) (xs : List Value) (e : TypeId) (fr : Nat × Nat) (hm : xs.length ≤ 9223372036854775807) : Rd (w.alloc (.cells xs.toArray e fr)) (.slice (some ⟨w.heap.size, 0, none⟩) xs.length xs.length) xs := by
  refine ⟨_, _, rfl, Nat.le_refl _, by unfold maxLen; omega, (fun h => by cases h), .inr ⟨w.heap.size, 0, rfl, fun j hj => ?_⟩⟩
  have h : (w.alloc (.cells xs.toArray e fr)).heap[w.heap.size]? = some (.cells xs.toArray e fr) := heap_alloc_new w _
  generalize w.alloc (.cells xs.toArray e fr) = w2 at *
  simp [World.cell?, h]

set_option maxRecDepth 100000 in
set_option maxHeartbeats 2000000 in
theorem awake11_any (w : World) : Calls Try.prog 16 #[] w fun e w' => e = .returned (.bool true) ∧ Below w.heap.size w w' := by
  obtain ⟨B, hB⟩ : ∃ B, w.heap.size = B := ⟨_, rfl⟩
  have hba : IsB [97] := by intro z hz; simp at hz; omega
  have hbb : IsB [98] := by intro z hz; simp at hz; omega
  have NW := Lib.hid (newwire_any w 1 (by omega))
  have kc := fun (w : World) (C : Array Value) (n c : Nat) => Lib.run_convert_bytes_const (P := Try.prog) w 22 5 C n c Try.underlying22 Try.underlying5
  go_enter Try.func16, Try.ntmps16
  go_upto_region 2 with (go_at_call 21; refine NW.out.mono ?_; rintro e w1 ⟨p, own, rfl, hw1, hb1⟩)
  have HW1 := Lib.hid (show Wire w1 B p own [([], 0)] from by rw [← hB]; exact hw1)
  have hs1 := hb1.size
  have HB1 := Lib.hid hb1
  clear hw1 hb1
  have S1 := Lib.hid (send_ok (w1.alloc (.cells (bs [97]).toArray 5 (1, 2))) B p own [([], 0)] 0 ([], 0) _ [97] (HW1.out.stay (bw_al (Below.refl _ _) (Nat.le_refl _) _)) rfl (rd_frozen w1 (bs [97]) 5 (1, 2) (by decide)) hba (by decide) (by decide))
  have tok : True := trivial
  go_upto_region 4 with (first
    | (go_at_call 22; have _t := tok; refine S1.out.mono ?_; rintro e w2 ⟨rfl, own2, hw2, ho2, ht2⟩; clear tok)
    | (go_at_call 22; refine (send_ok (w2.alloc (.cells (bs [98]).toArray 5 (1, 2))) B p own2 _ 0 ([[97]], 0) _ [98] (hw2.stay (bw_al (Below.refl _ _) (Nat.le_refl _) _)) rfl (rd_frozen w2 (bs [98]) 5 (1, 2) (by decide)) hbb (by decide) (by decide)).mono ?_; rintro e w3 ⟨rfl, own3, hw3, ho3, ht3⟩))
  have bl1 : Below B w (w1.alloc (.cells (bs [97]).toArray 5 (1, 2))) := bw_al (by rw [← hB]; exact HB1.out) (by omega) _
  have bl2 : Below B w w2 := Turns.below bl1 ht2 (by have := bl1.size; omega) (fun j hj => by obtain ⟨s, hs⟩ := hj; exact (HW1.out.dom j s hs).1)
  have bl2b : Below B w (w2.alloc (.cells (bs [98]).toArray 5 (1, 2))) := bw_al bl2 (by have := bl2.size; omega) _
  have bl3 : Below B w w3 := Turns.below bl2b ht3 (by have := bl2b.size; omega) (fun j hj => by obtain ⟨s, hs⟩ := hj; exact (hw2.dom j s hs).1)
  have N1 := Lib.hid (next_ok w3 B p own3 _ 0 ([[97], [98]], 0) hw3 rfl (by decide))
  have HBL3 := Lib.hid bl3
  clear ht2 ht3 ho2 ho3 bl1 bl2 bl2b bl3 hw2 S1
  go_upto_region 5 with (go_at_call 23; refine N1.out.mono ?_; rintro e w4 ⟨va, rfl, hfa, hw4, ht4⟩)
  have bl4 : Below B w w4 := Turns.below HBL3.out ht4 (by have := HBL3.out.size; omega) (fun j hj => (hw3.dom j _ hj).1)
  have P1 := Lib.hid (pick_ok w4 B p own3 _ 0 0 ([[97], [98]], 1) hw4 rfl (by decide))
  have HFA := Lib.hid hfa
  have HBL4 := Lib.hid bl4
  have HW4 := Lib.hid hw4
  clear hfa hw4 ht4 bl4 N1 hw3
  go_upto_region 6 with (go_at_call 24; refine P1.out.mono ?_; rintro e w5 ⟨vp, rfl, hop, hb5⟩)
  have hw5 := HW4.out.stay hb5
  have N2 := Lib.hid (next_ok w5 B p own3 _ 0 ([[97], [98]], 1) hw5 rfl (by decide))
  have hfa5 : Fr w5 own3 (4, 0, 0) va [97] := ⟨HFA.out.1.stay hb5 (Nat.le_refl _), HFA.out.2⟩
  have bl5 := bw_then HBL4.out hb5 (by have := HBL4.out.size; omega)
  have HOP := Lib.hid hop
  have HF5 := Lib.hid hfa5
  have HBL5 := Lib.hid bl5
  clear hfa5 bl5 hop
  go_upto_region 7 with (go_at_call 23; refine N2.out.mono ?_; rintro e w6 ⟨vb, rfl, hfb, hw6, ht6⟩)
  have hfa6 : Fr w6 own3 (4, 0, 0) va [97] := HF5.out.keep fun b hb => ht6.block b (hw5.dom b _ hb).2 (by rw [hb]; simp)
  have hrp6 : Rd w6 vp (bs [97]) := (Rd.of_own HOP.out).holds fun b hb => ht6.block b (own_lt HOP.out hb).2 fun h => by
    have h1 := (own_lt HOP.out hb).1
    have h2 := (HW4.out.dom b _ h).2
    omega
  have bl6 : Below B w w6 := Turns.below HBL5.out ht6 (by have := HBL5.out.size; omega) (fun j hj => (hw5.dom j _ hj).1)
  have N3 := Lib.hid (next_empty w6 B p own3 _ 0 ([[97], [98]], 2) hw6 rfl (by decide))
  have c1 := conv_of_rd hfa6.1
  have c2 := conv_of_rd hrp6
  have c3 := conv_of_rd hfb.1
  rw [show strOf [97] = ⟨#[97]⟩ from rfl] at c1 c2
  rw [show strOf (([([97] : List Int), [98]]).getD 1 []) = ⟨#[98]⟩ from rfl] at c3
  have HBL6 := Lib.hid bl6
  clear hfa6 hrp6 bl6 hfb hw6 ht6 hw5 hb5 N2
  go_wp2_with (go_at_call 23; refine N3.out.mono ?_; rintro e w7 ⟨rfl, hw7⟩; subst hw7)
  all_goals go_ret
  exact ⟨rfl, by rw [hB]; exact HBL6.out⟩
end Go.Proofs.Ytlgcnnhlbkidmaa
