/-
  Send of a wire.
-/
import Derived.Test.YtlgcnnhlbkidmaaWireN
namespace Go.Proofs.Ytlgcnnhlbkidmaa
open Go.RowKit Go.Conc

def SendOk (st : List WayS) (own : Nat → Option Spot) (B p k : Nat) (l : WayS) (xs : List Int) (w : World) (e : Ending) (w' : World) : Prop :=
  e = .returned (.int .i64 0) ∧ ∃ own', Wire w' B p own' (st.set k (l.1 ++ [xs], l.2)) ∧ ((∀ b, b < w.heap.size → own' b = own b) ∧ (∀ b s, w.heap.size ≤ b → own' b = some s → s.1 = 4 → ∀ j, w'.frozen? ⟨b, j, none⟩ = false) ∧ ∀ b s, own b = some s → s.1 = 4 → w'.heap[b]? = w.heap[b]?) ∧ Turns (fun b => ∃ s, own b = some s) w w'
/-- The answer of Send. -/
def sendE (st : List WayS) (i : Int) (n : Nat) : Int := match wayOf st i with | none => 1 | some l => if 131072 < n then 5 else if 200 ≤ l.1.length then 10 else 0
def SendRes (st : List WayS) (own : Nat → Option Spot) (B p : Nat) (i : Int) (xs : List Int) (w : World) (e : Ending) (w' : World) : Prop :=
  match wayOf st i with
  | none => e = .returned (.int .i64 1) ∧ w = w'
  | some l => if 131072 < xs.length then e = .returned (.int .i64 5) ∧ w = w' else if 200 ≤ l.1.length then e = .returned (.int .i64 10) ∧ w = w' else SendOk st own B p i.toNat l xs w e w'

theorem Rd.holds {w w' : World} {v : Value} {xs : List Value} (h : Rd w v xs) (hs : ∀ b, hold v b → w'.heap[b]? = w.heap[b]?) : Rd w' v xs := by
  obtain ⟨A, c, rfl, h1, h2, h3, h4⟩ := h
  refine ⟨A, c, rfl, h1, h2, h3, ?_⟩
  rcases h4 with h4 | ⟨b, o, rfl, h4⟩
  · exact .inl h4
  · refine .inr ⟨b, o, rfl, fun j hj => ?_⟩
    rw [← h4 j hj]
    have := hs b ⟨_, _, _, rfl⟩
    simp only [World.cell?, this]
theorem own_lt {w : World} {base n : Nat} {e : TypeId} {v : Value} {xs : List Value} (h : w.ownsRow base e 1 v n xs) {b : Nat} (hb : hold v b) : base ≤ b ∧ b < w.heap.size := by
  obtain ⟨o, m, c, rfl⟩ := hb
  rcases h.2 with ⟨h1, _⟩ | ⟨g, cap, cur, h1, h2, h3, _⟩
  · cases h1
  · cases h1
    exact ⟨h2, (Array.getElem?_eq_some_iff.1 h3).1⟩
theorem own_blk {w : World} {base n : Nat} {e : TypeId} {v : Value} {xs : List Value} (h : w.ownsRow base e 1 v n xs) {b : Nat} (hb : hold v b) : ∃ cs t, w.heap[b]? = some (.cells cs t (0, 0)) := by
  obtain ⟨o, m, c, rfl⟩ := hb
  rcases h.2 with ⟨h1, _⟩ | ⟨g, cap, cur, h1, h2, h3, _⟩
  · cases h1
  · cases h1
    exact ⟨_, _, h3⟩
theorem free_blk {w : World} {b : Nat} {cs : Array Value} {t : TypeId} (h : w.heap[b]? = some (.cells cs t (0, 0))) (j : Nat) : w.frozen? ⟨b, j, none⟩ = false := by
  simp [World.frozen?, h]
open Classical in
/-- What is whose behind a frame that was sent. -/
noncomputable def ownS (own : Nat → Option Spot) (n : Nat) (v1 v3 v5 : Value) (k L b : Nat) : Option Spot :=
  if b < n then own b else if hold v1 b then some (4, k, L) else if hold v3 b then some (5, k, L) else if hold v5 b then some (3, k, 0) else none
theorem getD_snoc_old (L : List (List Int)) (x : List Int) (j : Nat) (h : j < L.length) : (L ++ [x]).getD j [] = L.getD j [] := by
  rw [List.getD_eq_getElem?_getD, List.getD_eq_getElem?_getD, List.getElem?_append_left h]
theorem getD_snoc_new (L : List (List Int)) (x : List Int) : (L ++ [x]).getD L.length [] = x := by
  rw [List.getD_eq_getElem?_getD, List.getElem?_append_right (Nat.le_refl _), Nat.sub_self]; rfl
/-- A channel that turns makes no difference to what is read. -/
theorem Rd.byChan {w w' : World} {v : Value} {xs : List Value} {c cap s r : Nat} {buf : Array Value} (h : Rd w v xs) (hc : w.heap[c]? = some (.chan cap buf false s r false)) (ht : Turns (fun b => b = c) w w') : Rd w' v xs := by
  obtain ⟨A, n, rfl, h1, h2, h3, h4⟩ := h
  refine ⟨A, n, rfl, h1, h2, h3, ?_⟩
  rcases h4 with h4 | ⟨b, o, rfl, h4⟩
  · exact .inl h4
  · refine .inr ⟨b, o, rfl, fun j hj => ?_⟩
    have h5 := h4 j hj
    have hbc : b ≠ c := by
      rintro rfl
      simp [World.cell?, hc] at h5
    have hbl : b < w.heap.size := by
      exact World.block_lt_of_cell? w _ h5
    rw [← h5]
    simp only [World.cell?, ht.block b hbl hbc]
/-- A frame is sent. -/
theorem Wire.sent {w w6 : World} {own own' : Nat → Option Spot} {B p g cap : Nat} {cs : List Value} {st : List WayS} {k : Nat} {l : WayS} {c s r : Nat} {buf : Array Value} {bv v1 v3 v5 : Value} {vals : List Value} {xs : List Int} (h : WireAt w own B p g cap cs st) (hk : st[k]? = some l)
    (hc : cs[k * 2]? = some (.chan (some c))) (hb : cs[k * 2 + 1]? = some bv) (hl : Lane w own B k (.chan (some c)) bv l) (c2 : own c = some (2, k, 0)) (c4 : buf.size + l.2 = l.1.length)
    (c5 : ∀ j v, buf[j]? = some v → Fr w own (4, k, l.2 + j) v (l.1.getD (l.2 + j) [])) (b3 : vals.length = l.1.length) (b4 : ∀ j v, vals[j]? = some v → Fr w own (5, k, j) v (l.1.getD j [])) (hfull : l.1.length < 200) (hxb : IsB xs) (hxl : xs.length ≤ 131072)
    (hkeep : ∀ b s, own b = some s → b ≠ c → b ≠ g → s ≠ (3, k, 0) → w6.heap[b]? = w.heap[b]?) (hrow : Blk w6 g (cs.set (k * 2 + 1) v5) 132) (hchan : w6.heap[c]? = some (.chan 200 (buf.push v1) false (s + 1) r false))
    (hbag : Part w6 B 22 v5 (vals ++ [v3])) (hb5 : ∀ b, hold v5 b → own' b = some (3, k, 0)) (hv1 : Fr w6 own' (4, k, l.1.length) v1 xs) (hv3 : Fr w6 own' (5, k, l.1.length) v3 xs)
    (hown : ∀ b s, own b = some s → own' b = some s) (hdom : ∀ b s, own' b = some s → B ≤ b ∧ b < w6.heap.size) : Wire w6 B p own' (st.set k (l.1 ++ [xs], l.2)) := by
  have hneg : ∀ b s, own b = some s → s.1 ≠ 1 → b ≠ g := fun b s hb hn e => by subst e; rw [h.hg] at hb; cases hb; exact hn rfl
  have hnec : ∀ b s, own b = some s → s ≠ (2, k, 0) → b ≠ c := fun b s hb hn e => by subst e; rw [c2] at hb; exact hn (Option.some.inj hb).symm
  refine ⟨g, cap, cs.set (k * 2 + 1) v5, ⟨?_, hown _ _ h.hp, hrow, hown _ _ h.hg, fun i l' hl' => ?_, by rw [List.length_set]; exact h.le, by rw [List.length_set]; exact h.cap, hdom⟩⟩
  · rw [List.length_set]
    exact (hkeep p _ h.hp (hnec p _ h.hp (by simp)) (hneg p _ h.hp (by simp)) (by simp)).trans h.head
  · by_cases hik : i = k
    · subst hik
      rw [List.getElem?_set_self (by have := (List.getElem?_eq_some_iff.1 hk).1; omega)] at hl'
      cases hl'
      have hlen : i * 2 + 1 < cs.length := (List.getElem?_eq_some_iff.1 hb).1
      refine ⟨_, v5, by rw [List.getElem?_set_ne (by omega)]; exact hc, by rw [List.getElem?_set_self hlen], ⟨⟨c, buf.push v1, s + 1, r, rfl, hown _ _ c2, hchan, by simp only [Array.size_push, List.length_append, List.length_cons, List.length_nil]; omega, fun j v hj => ?_⟩, ⟨vals ++ [v3], hbag, hb5, by simp [b3], fun j v hj => ?_⟩, by simp only [List.length_append, List.length_cons, List.length_nil]; omega, fun f hf => ?_⟩⟩
      · simp only
        rw [Array.getElem?_push] at hj
        split at hj
        · cases hj
          have e : l.2 + j = l.1.length := by omega
          rw [e, getD_snoc_new]
          exact hv1
        · have hjl := (Array.getElem?_eq_some_iff.1 hj).1
          rw [getD_snoc_old _ _ _ (by omega)]
          exact ((c5 j v hj).keep fun b hb => hkeep b _ hb (hnec b _ hb (by simp)) (hneg b _ hb (by simp)) (by simp)).own fun b hb => hown b _ hb
      · simp only
        rcases Nat.lt_or_ge j vals.length with hjl | hjl
        · rw [List.getElem?_append_left hjl] at hj
          rw [getD_snoc_old _ _ _ (by omega)]
          exact ((b4 j v hj).keep fun b hb => hkeep b _ hb (hnec b _ hb (by simp)) (hneg b _ hb (by simp)) (by simp)).own fun b hb => hown b _ hb
        · rw [List.getElem?_append_right hjl] at hj
          have hj0 : j = vals.length := by
            have := (List.getElem?_eq_some_iff.1 hj).1
            simp at this
            omega
          subst hj0
          rw [Nat.sub_self] at hj
          obtain rfl : v3 = v := by simpa using hj
          rw [b3, getD_snoc_new]
          exact hv3
      · rcases List.mem_append.1 hf with hf | hf
        · exact hl.small f hf
        · obtain rfl : f = xs := by simpa using hf
          exact ⟨hxb, hxl⟩
    · rw [List.getElem?_set_ne (Ne.symm hik)] at hl'
      obtain ⟨cv', bv', e1, e2, e3⟩ := h.lane i l' hl'
      refine ⟨cv', bv', by rw [List.getElem?_set_ne (by omega)]; exact e1, by rw [List.getElem?_set_ne (by omega)]; exact e2, (e3.keep fun b s' hb hs => hkeep b s' hb (hnec b _ hb ?_) (hneg b _ hb ?_) ?_).own hown⟩
      · rintro rfl; exact hik hs.1.symm
      · have := hs.2; omega
      · rintro rfl; exact hik hs.1.symm

set_option maxRecDepth 100000 in
set_option maxHeartbeats 2000000 in
theorem send_any (w : World) (B p : Nat) (own : Nat → Option Spot) (st : List WayS) (i : Int) (v : Value) (xs : List Int) (h : Wire w B p own st) (hi : -9223372036854775808 ≤ i ∧ i ≤ 9223372036854775807) (hr : Rd w v (bs xs)) (hx : IsB xs) :
    Calls Try.prog 22 #[.pointer (some ⟨p, 0, none⟩), .int .i64 i, v] w (SendRes st own B p i xs w) := by
  have hmx := hr.len
  rw [bs_len] at hmx
  have hlx : ∀ w', (Builtin.len_ #[22] 3 #[v]).run Try.prog w' = .ok (goInt xs.length) w' := by
    have := len_fact (P := Try.prog) hr (t := 22) (ty := 3) (by kernel_rfl)
    rwa [bs_len] at this
  have HR := Lib.hid hr
  have HX := Lib.hid hx
  clear hr hx
  unfold SendRes
  cases hw : wayOf st i with
  | none =>
    have L := Lib.hid (lane_none w B p own st i h hi hw)
    clear h hw
    go_enter Try.func22, Try.ntmps22
    go_wp2_with (go_at_call 69; refine L.out.mono ?_; rintro e w' ⟨rfl, rfl⟩)
    all_goals go_ret
    exact ⟨rfl, rfl⟩
  | some l =>
    obtain ⟨k, rfl, hk, hkl⟩ := wayOf_some hw
    obtain ⟨g, cap, cs, ha⟩ := h
    obtain ⟨cv, bv, e1, e2, hl⟩ := ha.lane k l hk
    obtain ⟨c, buf, s, r, rfl, c2, c3, c4, c5⟩ := hl.chan
    have h1 := ha.row.at_ _ e1
    have h2 := ha.row.at_ _ e2
    have hle := hl.le
    have L := Lib.hid (lane_some w B p g cap cs own st k ha hkl)
    have hlv : ∀ w', (Builtin.len_ #[55] 3 #[bv]).run Try.prog w' = .ok (goInt l.1.length) w' := by
      obtain ⟨vals, b1, b2, b3, b4⟩ := hl.bag
      have := len_fact (P := Try.prog) b1.rd (t := 55) (ty := 3) (by kernel_rfl)
      rwa [b3] at this
    have HA := Lib.hid ha
    have HL := Lib.hid hl
    have C5 := Lib.hid c5
    have HC := Lib.hid (fun _ : Unit => (⟨c2, c3, c4⟩ : own c = some (2, k, 0) ∧ w.heap[c]? = some (.chan 200 buf false s r false) ∧ buf.size + l.2 = l.1.length))
    have HK := Lib.hid (fun _ : Unit => (⟨hk, e1, e2⟩ : st[k]? = some l ∧ cs[k * 2]? = some (.chan (some c)) ∧ cs[k * 2 + 1]? = some bv))
    clear ha hl c5 hw hi c2 c3 c4 hk e1 e2
    have hkk : ((k : Int)).toNat = k := by omega
    simp only [hkk]
    clear hkk
    by_cases hb : 131072 < xs.length
    · simp only [if_pos hb]
      have hb' : (131072 : Int) < (xs.length : Int) := by omega
      clear hb
      go_enter Try.func22, Try.ntmps22
      go_wp2_with (go_at_call 69; refine L.out.mono ?_; rintro e w' ⟨rfl, rfl⟩)
      all_goals go_ret
      exact ⟨rfl, rfl⟩
    have hb' : ¬ (131072 : Int) < (xs.length : Int) := by omega
    by_cases hf : 200 ≤ l.1.length
    · simp only [if_neg hb, if_pos hf]
      have hf' : (200 : Int) ≤ (l.1.length : Int) := by omega
      clear hb hf
      go_enter Try.func22, Try.ntmps22
      go_wp2_with (go_at_call 69; refine L.out.mono ?_; rintro e w' ⟨rfl, rfl⟩)
      all_goals go_ret
      exact ⟨rfl, rfl⟩
    have hf' : ¬ (200 : Int) ≤ (l.1.length : Int) := by omega
    simp only [if_neg hb, if_neg hf]
    refine calls_of_wpN Try.func22 rfl ?_
    rw [Try.ntmps22]
    simp only [List.size_toArray, List.length_cons, List.length_nil, Nat.reduceAdd, Nat.reduceSub]
    rw [show (Array.replicate 42 undef : Array Value) = #[undef, undef, undef, undef, undef, undef, undef, undef, undef, undef, undef, undef, undef, undef, undef, undef, undef, undef, undef, undef, undef, undef, undef, undef, undef, undef, undef, undef, undef, undef, undef, undef, undef, undef, undef, undef, undef, undef, undef, undef, undef, undef] from rfl]
    simp only [List.append_toArray, List.cons_append, List.nil_append]
    refine wpN_seq_wp fun K0 hK0 => ?_
    go_wp2_with fail
    refine wpN_seq_wp fun K1 hK1 => ?_
    go_wp2_with (go_at_call 69; refine L.out.mono ?_; rintro e w' ⟨rfl, rfl⟩)
    refine wpN_seq_wp fun K2 hK2 => ?_
    go_wp2_with fail
    refine wpN_seq_wp fun K3 hK3 => ?_
    have CL := Lib.hid (clone_any v xs w HR.out (by omega))
    go_wp2_with (go_at_call 17; refine CL.out.mono ?_; rintro e w1 ⟨v1, rfl, hb1, ho1⟩)
    have hcl := (HA.out.dom c _ (HC.out ()).1).2
    refine wpN_seq_N fun K4 hK4 => wpN_select_send (x := v1) (z := .slice none 0 0) rfl rfl rfl ?_ ((hb1.block c hcl).trans (HC.out ()).2.1) (by have := (HC.out ()).2.2; omega) ?_
    · simp [go_sem, execOp, scase, Act.eval]
    · refine wpOps_tail ?_
      have hT2 := chan_turns w1 c 200 (buf.push v1) (s + 1) r (T := fun b => b = c) rfl
      have hc2 : (w1.setChan c 200 (buf.push v1) false (s + 1) r false).heap[c]? = some (.chan 200 (buf.push v1) false (s + 1) r false) := heap_setChan _ _ _ _ _ _ _ _ (by have := hb1.size; omega)
      generalize w1.setChan c 200 (buf.push v1) false (s + 1) r false = w2 at *
      have HB1 := Lib.hid hb1
      have HO1 := Lib.hid ho1
      have HT2 := Lib.hid hT2
      have HC2 := Lib.hid (fun _ : Unit => hc2)
      have hs1 := hb1.size
      have hs2 := hT2.size
      have hg_ : own g = some (1, 0, 0) := HA.out.hg
      have hgl := (HA.out.dom g _ hg_).2
      have hgc : g ≠ c := fun e => by subst e; rw [(HC.out ()).1] at hg_; cases hg_
      have row2 : Blk w2 g cs 132 := ((HA.out.row.keep hb1 hgl).turns hT2 hgc)
      have HROW2 := Lib.hid row2
      have hcell2 := row2.at_ _ (HK.out ()).2.2
      obtain ⟨vals, b1, b2, b3, b4⟩ := HL.out.bag
      have HB := Lib.hid (fun _ : Unit => (⟨b2, b3, b4⟩ : (∀ b, hold bv b → own b = some (3, k, 0)) ∧ vals.length = l.1.length ∧ ∀ j v, vals[j]? = some v → Fr w own (5, k, j) v (l.1.getD j [])))
      have hbvc : ∀ b, hold bv b → b < w.heap.size ∧ b ≠ c ∧ b ≠ g := fun b hb => by
        have h1 := b2 b hb
        refine ⟨(HA.out.dom b _ h1).2, fun e => ?_, fun e => ?_⟩
        · rw [e, (HC.out ()).1] at h1; cases h1
        · rw [e, hg_] at h1; cases h1
      have HBVC := Lib.hid hbvc
      have part2 : Part w2 B 22 bv vals := b1.move fun g' off n' c' e => by
        have h1 := hbvc g' ⟨_, _, _, e⟩
        rw [hT2.block g' (by omega) h1.2.1, hb1.block g' h1.1]
      have HP2 := Lib.hid part2
      have hr2 : Rd w2 v (bs xs) := (HR.out.stay hb1 (Nat.le_refl _)).byChan (by rw [hb1.block c hcl]; exact (HC.out ()).2.1) hT2
      clear hb1 ho1 hT2 hc2 row2 b1 b2 b3 b4 hbvc part2 hcl hg_ h1 h2
      go_wp2_with fail
      refine wpN_of_wp ?_
      go_upto_region 12 with fail
      have CL2 := Lib.hid (clone_any v xs w2.drew hr2 (by omega))
      have hbl0 : Below w2.heap.size w2 w2.drew := bw_d1 (Below.refl _ _)
      refine region_plan ⟨[0, 0, 2, 6, 14, 0, 32, 96, 254, 511, 1023, 2047], [6, 7, 8, 11], [0, 0, 0, 0, 0, 0, 0, 1, 2, 3, 3, 3]⟩
        [⟨[0, 1, 2, 3, 4, 5], [2, 3, 4], some 6⟩, ⟨[], [2, 3, 4], some 7⟩, ⟨[], [2, 3, 4], some 8⟩, ⟨[9, 10], [9, 10], some 11⟩, ⟨[], [], none⟩] 45 (by kernel_rfl) (by kernel_rfl) (by kernel_rfl) (by kernel_rfl) rfl ?_
      simp only [SeqGo, opsAt_cons, opsAt_nil, List.getElem?_cons, Option.toList_some, List.singleton_append, ↓reduceIte, Nat.reduceEqDiff, Nat.reduceSub]
      go_wp2_with fail
      refine ⟨by (simp only [Sames, Same]; go_simp), ?_⟩
      go_wp2_with (go_at_call 17; refine CL2.out.mono ?_; rintro e w3 ⟨v3, rfl, hb3, ho3⟩; obtain ⟨A3, n3, rfl, _⟩ := id (Rd.of_own ho3))
      have hbl3 : Below w2.heap.size w2 w3 := bw_then hbl0 hb3 (Nat.le_refl _)
      have hc3 : w3.cell? ⟨g, k * 2 + 1, none⟩ = some bv := cell_stay hbl3 hcell2
      refine ⟨by (simp only [Sames, Same]; go_simp), ?_⟩
      have hp4 := (HP2.out.stay hbl3).stay (bw_al (Below.refl _ _) (Nat.le_refl _) (.cells #[.slice A3 (bs xs).length n3] 22))
      have hvl := (HB.out ()).2.1
      have hc4 : (w3.alloc (.cells #[.slice A3 (bs xs).length n3] 22)).cell? ⟨g, k * 2 + 1, none⟩ = some bv := cell_stay (bw_al (Below.refl _ _) (Nat.le_refl _) _) hc3
      go_wp2_with fail
      refine ⟨by (simp only [Sames, Same]; go_simp), ?_⟩
      go_wp2_with (at_builtin; refine wp_app_part (.tmp 38) (.tmp 41) 55 rfl rfl 22 (.slice none 0 0) 24 Try.underlying55 info33 rfl B rfl hp4 rfl (Rd.one w3 (.slice A3 (bs xs).length n3) _) (by intro y hy; simp at hy; subst hy; rfl) (by decide) (by simp only [List.length_cons, List.length_nil]; omega) (by have := HA.out.dom g _ HA.out.hg; have := hbl3.size; simp; omega) ?_; intro v5 w5 hp5 ht5 hh5; obtain ⟨A5, n5, rfl, _⟩ := id hp5.rd)
      have hT4 : Below w2.heap.size w2 (w3.alloc (.cells #[.slice A3 (bs xs).length n3] 22)) := bw_al hbl3 hbl3.size _
      have hs4 : (w3.alloc (.cells #[.slice A3 (bs xs).length n3] 22)).heap.size = w3.heap.size + 1 := by simp
      have hal : ∀ b, b < w3.heap.size → (w3.alloc (.cells #[.slice A3 (bs xs).length n3] 22)).heap[b]? = w3.heap[b]? := fun b hb => Below.heap_alloc _ _ _ hb
      have hs5 := ht5.size
      have hng : ¬ (∃ off n c, bv = .slice (some ⟨g, off, none⟩) n c) := fun h => (HBVC.out g h).2.2 rfl
      have row5 : Blk w5 g cs 132 := (HROW2.out.stay hT4).turns ht5 hng
      have hc5 := row5.at_ _ (HK.out ()).2.2
      have hf5 := row5.free (k * 2 + 1)
      have hs3 := hbl3.size
      have HP5 := Lib.hid hp5
      have HT5 := Lib.hid ht5
      have HH5 := Lib.hid hh5
      have HAL := Lib.hid hal
      have HR5 := Lib.hid row5
      have HO3 := Lib.hid ho3
      have HB3 := Lib.hid hbl3
      rw [hs4] at hs5
      clear hp5 ht5 hh5 hal row5 ho3 hbl3 hb3 hp4 hc4 hc3 hT4 hng hcell2
      refine ⟨by (simp only [Sames, Same]; go_simp), ?_⟩
      go_wp2_with fail
      refine ⟨trivial, ?_⟩
      go_wp2_with fail
      all_goals go_ret
      have e5 : (vals ++ [Value.slice A3 (bs xs).length n3]).length = l.1.length + 1 := by rw [List.length_append, hvl]; rfl
      have hp5 := HP5.out
      have hh5 := HH5.out
      rw [e5] at hp5 hh5
      have hA := HA.out
      have hdg := hA.dom g _ hA.hg
      have hzz : (w5.setCell ⟨g, k * 2 + 1, none⟩ (.slice A5 (l.1.length + 1) n5)).heap.size = w5.heap.size := (Only.set _ _ _ _).size
      have hset : ∀ b, b ≠ g → (w5.setCell ⟨g, k * 2 + 1, none⟩ (.slice A5 (l.1.length + 1) n5)).heap[b]? = w5.heap[b]? := fun b hb => (Only.set w5 g (k * 2 + 1) (.slice A5 (l.1.length + 1) n5)).block b hb
      have hv1b : ∀ b, hold v1 b → w.heap.size ≤ b ∧ b < w1.heap.size := fun b hb => own_lt HO1.out hb
      have hv3b : ∀ b, hold (.slice A3 (bs xs).length n3) b → w2.heap.size ≤ b ∧ b < w3.heap.size := fun b hb => own_lt HO3.out hb
      have hv5b : ∀ b, hold (.slice A5 (l.1.length + 1) n5) b → b < w5.heap.size ∧ (w3.heap.size + 1 ≤ b ∨ hold bv b) := fun b hb => by
        obtain ⟨o, m, c', e⟩ := hb
        exact ⟨(hp5.lt _ _ _ _ e).2, by have := hh5 _ _ _ _ e; rwa [hs4] at this⟩
      -- from the first world to the last
      have k12 : ∀ b, b ≠ c → b < w1.heap.size → w2.heap[b]? = w1.heap[b]? := fun b hb hl => HT2.out.block b hl hb
      have k25 : ∀ b, b < w3.heap.size → ¬ hold bv b → w5.heap[b]? = w3.heap[b]? := fun b hb hn => (HT5.out.block b (by rw [hs4]; omega) hn).trans (HAL.out b hb)
      have kall : ∀ b, b < w.heap.size → b ≠ c → b ≠ g → ¬ hold bv b → (w5.setCell ⟨g, k * 2 + 1, none⟩ (.slice A5 (l.1.length + 1) n5)).heap[b]? = w.heap[b]? := fun b hb h1 h2 h3 =>
        (hset b h2).trans ((k25 b (by omega) h3).trans ((HB3.out.block b (by omega)).trans ((k12 b h1 (by omega)).trans (HB1.out.block b hb))))
      refine ⟨rfl, ownS own w.heap.size v1 (.slice A3 (bs xs).length n3) (.slice A5 (l.1.length + 1) n5) k l.1.length, ?_, ⟨fun b hb => by unfold ownS; rw [if_pos hb], ?_, fun b s' hb h4 => kall b (hA.dom b _ hb).2 (fun e => by subst e; rw [(HC.out ()).1] at hb; cases hb; cases h4) (fun e => by subst e; rw [hA.hg] at hb; cases hb; cases h4) (fun hh => by have := (HB.out ()).1 b hh; rw [hb] at this; cases this; cases h4)⟩, ⟨?_, ?_, ?_, ?_, ?_⟩⟩
      · refine Wire.sent hA (HK.out ()).1 (HK.out ()).2.1 (HK.out ()).2.2 HL.out (HC.out ()).1 (HC.out ()).2.2 C5.out (HB.out ()).2.1 (HB.out ()).2.2 (by omega) HX.out (by omega) (v1 := v1) (v3 := (.slice A3 (bs xs).length n3)) (v5 := (.slice A5 (l.1.length + 1) n5)) (s := s) (r := r) ?_ ?_ ?_ ?_ ?_ ?_ ?_ ?_ ?_
        · intro b s' hb h1 h2 h3
          exact kall b (hA.dom b _ hb).2 h1 h2 fun hh => h3 (by have := (HB.out ()).1 b hh; rw [hb] at this; exact Option.some.inj this)
        · have := HR5.out.set (k * 2 + 1) (.slice A5 (l.1.length + 1) n5)
          exact this
        · have hcl := (hA.dom c _ (HC.out ()).1).2
          have hcg : c ≠ g := fun e => by have := hA.hg; rw [← e, (HC.out ()).1] at this; cases this
          have hcb : ¬ hold bv c := fun hh => (HBVC.out c hh).2.1 rfl
          exact (hset c hcg).trans ((k25 c (by omega) hcb).trans ((HB3.out.block c (by omega)).trans (HC2.out ())))
        · exact hp5.move fun g' off n c' e => hset g' fun e' => by
            subst e'
            rcases (hv5b g' ⟨_, _, _, e⟩).2 with h | h
            · omega
            · exact (HBVC.out g' h).2.2 rfl
        · intro b hb
          have h5 := hv5b b hb
          unfold ownS
          rcases h5.2 with h | h
          · rw [if_neg (by omega), if_neg (fun hh => by have := hv1b b hh; omega), if_neg (fun hh => by have := hv3b b hh; omega), if_pos hb]
          · rw [if_pos (HBVC.out b h).1]; exact (HB.out ()).1 b h
        · refine ⟨(Rd.of_own HO1.out).holds fun b hb => ?_, fun b hb => ?_⟩
          · have h1 := hv1b b hb
            have hcl := (hA.dom c _ (HC.out ()).1).2
            exact (hset b (by omega)).trans ((k25 b (by omega) (fun hh => by have := (HBVC.out b hh).1; omega)).trans ((HB3.out.block b (by omega)).trans (k12 b (by omega) h1.2)))
          · have h1 := hv1b b hb
            unfold ownS
            rw [if_neg (by omega), if_pos hb]
        · refine ⟨(Rd.of_own HO3.out).holds fun b hb => ?_, fun b hb => ?_⟩
          · have h1 := hv3b b hb
            exact (hset b (by omega)).trans (k25 b (by omega) (fun hh => by have := (HBVC.out b hh).1; omega))
          · have h1 := hv3b b hb
            unfold ownS
            rw [if_neg (by omega), if_neg (fun hh => by have := hv1b b hh; omega), if_pos hb]
        · intro b s' hb
          unfold ownS
          rw [if_pos (hA.dom b _ hb).2]
          exact hb
        · intro b s' hb
          rw [hzz]
          unfold ownS at hb
          split at hb
          · have := hA.dom b _ hb; omega
          · split at hb
            · have := hv1b b ‹_›; omega
            · split at hb
              · have := hv3b b ‹_›; omega
              · split at hb
                · have := (hv5b b ‹_›).1; omega
                · cases hb
      · intro b s' hb hs h4 j
        unfold ownS at hs
        rw [if_neg (by omega)] at hs
        split at hs
        · have hh := ‹hold v1 b›
          have h1 := hv1b b hh
          have hcl := (hA.dom c _ (HC.out ()).1).2
          obtain ⟨cs', t', hc'⟩ := own_blk HO1.out hh
          exact free_blk ((hset b (by omega)).trans ((k25 b (by omega) (fun hh => by have := (HBVC.out b hh).1; omega)).trans ((HB3.out.block b (by omega)).trans ((k12 b (by omega) h1.2).trans hc')))) j
        · split at hs
          · cases hs; cases h4
          · split at hs
            · cases hs; cases h4
            · cases hs
      · exact HT5.out.os.trans (HB3.out.os.trans (HT2.out.os.trans HB1.out.os))
      · exact HT5.out.tape.trans (HB3.out.tape.trans (HT2.out.tape.trans HB1.out.tape))
      · exact HT5.out.output.trans (HB3.out.output.trans (HT2.out.output.trans HB1.out.output))
      · rw [hzz]; omega
      · intro b hb hn
        exact kall b hb (fun e => hn (by subst e; exact ⟨_, (HC.out ()).1⟩)) (fun e => hn (by subst e; exact ⟨_, hA.hg⟩)) fun hh => hn ⟨_, (HB.out ()).1 b hh⟩
end Go.Proofs.Ytlgcnnhlbkidmaa
