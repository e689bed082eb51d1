/-
  disk: Edit.
-/
import Derived.Test.YtlgcnnhlbkidmaaDiskD
namespace Go.Proofs.Ytlgcnnhlbkidmaa
open Go.RowKit

def editS (fs : Files) (s : ByteArray) (b : List Int) : Int × Files :=
  if namedB s = false ∨ 1048576 < b.length then (1, fs) else if fullB fs s.data.toList then (10, fs) else (0, putF fs s.data.toList ⟨b, b.length⟩)
def EditRes (w : World) (B : Nat) (own : Nat → Prop) (g : Nat) (q : Option Nat) (r : Int × Files) (e : Ending) (w' : World) : Prop :=
  e = .returned (.int .i64 r.1) ∧ ∃ own', Disk w' B own' g q r.2 ∧ (∀ b, b < w.heap.size → (own' b ↔ own b)) ∧ Turns own w w'
theorem edit_same {w w' : World} {B : Nat} {own : Nat → Prop} {g : Nat} {q : Option Nat} {fs : Files} (h : Disk w B own g q fs) (hb : Below w.heap.size w w') (z : Int) : EditRes w B own g q (z, fs) (.returned (.int .i64 z)) w' :=
  ⟨rfl, own, h.stay hb, fun _ _ => Iff.rfl, Turns.of_below hb⟩
theorem namedB_name {s : ByteArray} (hs : namedB s = true) : 1 ≤ s.data.toList.length ∧ s.data.toList.length ≤ 40 := by
  unfold namedB at hs
  simp at hs
  have : s.size = s.data.size := rfl
  simp only [Array.length_toList]
  omega
set_option maxRecDepth 100000 in
set_option maxHeartbeats 1000000 in
theorem edit_any (w : World) (B : Nat) (own : Nat → Prop) (g : Nat) (q : Option Nat) (fs : Files) (s : ByteArray) (v : Value) (b : List Int) (h : Disk w B own g q fs) (hs : s.size ≤ maxLen) (hr : Rd w v (bs b)) (hb : IsB b) (hB : B ≤ w.heap.size) :
    Calls Try.prog 60 #[.pointer (some ⟨g, 0, none⟩), .string s, v] w (EditRes w B own g q (editS fs s b)) := by
  have hd0 := h
  obtain ⟨gm, es, hd, rfl⟩ := h
  have MD := Lib.hid (made_any w g gm (ptrV q) hd.head)
  have NM := Lib.hid (named_any s w)
  have FL := Lib.hid (full_any w g gm q _ hd.head hd.map s hs hd.isFile)
  rw [lookF_ents, List.length_map] at FL
  have hfl : fullB (es.map fun e => (e.1, e.2.1)) s.data.toList = (!(lookF (es.map fun e => (e.1, e.2.1)) s.data.toList).isSome && decide (64 ≤ es.length)) := by unfold fullB; rw [List.length_map]
  unfold editS
  rw [hfl]
  obtain ⟨fb, hfb⟩ : ∃ b, (!(lookF (es.map fun e => (e.1, e.2.1)) s.data.toList).isSome && decide (64 ≤ es.length)) = b := ⟨_, rfl⟩
  rw [hfb] at FL ⊢
  obtain ⟨nb, hnb⟩ : ∃ b, namedB s = b := ⟨_, rfl⟩
  rw [hnb] at NM ⊢
  have hmx := hr.len
  rw [bs_len] at hmx
  obtain ⟨Av, cv, rfl, _⟩ := id hr
  rw [bs_len] at hr ⊢
  have HD0 := Lib.hid hd0; have HD := Lib.hid hd; have HFB := Lib.hid (fun _ : Unit => hfb); have HNB := Lib.hid (fun _ : Unit => hnb); have HR := Lib.hid hr; have HBB := Lib.hid hb
  clear hd0 hd hfb hfl hnb hr hb
  cases nb
  · rw [if_pos (.inl rfl)]
    go_enter Try.func60, Try.ntmps60
    go_wp2_with (first
      | (go_at_call 79; refine MD.out.mono ?_; rintro e w' ⟨rfl, rfl⟩)
      | (go_at_call 80; refine NM.out.mono ?_; rintro e w' ⟨rfl, rfl⟩))
    all_goals go_ret
    exact edit_same HD0.out (Below.refl _ _) _
  by_cases hl : 1048576 < b.length
  · rw [if_pos (.inr hl)]
    have hl' : (1048576 : Int) < b.length := by omega
    go_enter Try.func60, Try.ntmps60
    go_wp2_with (first
      | (go_at_call 79; refine MD.out.mono ?_; rintro e w' ⟨rfl, rfl⟩)
      | (go_at_call 80; refine NM.out.mono ?_; rintro e w' ⟨rfl, rfl⟩))
    all_goals go_ret
    exact edit_same HD0.out (Below.refl _ _) _
  rw [if_neg (by simp; omega)]
  have hl' : ¬ (1048576 : Int) < b.length := by omega
  cases fb
  rotate_left
  · rw [if_pos rfl]
    go_enter Try.func60, Try.ntmps60
    go_wp2_with (first
      | (go_at_call 79; refine MD.out.mono ?_; rintro e w' ⟨rfl, rfl⟩)
      | (go_at_call 80; refine NM.out.mono ?_; rintro e w' ⟨rfl, rfl⟩)
      | (go_at_call 76; refine FL.out.mono ?_; rintro e w2 ⟨rfl, hb2⟩))
    all_goals go_ret
    exact edit_same HD0.out hb2 _
  rw [if_neg (by simp)]
  go_enter Try.func60, Try.ntmps60
  go_upto_region 7 with (first
    | (go_at_call 79; refine MD.out.mono ?_; rintro e w' ⟨rfl, rfl⟩)
    | (go_at_call 80; refine NM.out.mono ?_; rintro e w' ⟨rfl, rfl⟩)
    | (go_at_call 76; refine FL.out.mono ?_; rintro e w2 ⟨rfl, hb2⟩))
  have hd2 := HD.out.stay hb2
  have k1 : ∀ w', Below w2.heap.size w2 w' → w'.cell? ⟨g, 1, none⟩ = some (.map (some gm)) := fun w' hb => (hd2.head.stay hb).at_ 1 rfl
  have r2 : Below w2.heap.size w2 w2 := Below.refl _ _
  have r2d : Below w2.heap.size w2 w2.drew := bw_d1 (Below.refl _ _)
  have CL := Lib.hid (clone_any (.slice Av b.length cv) b w2.drew (HR.out.stay (hb2.trans ((bw_d1 (Below.refl _ _)).mono hb2.size)) (Nat.le_refl _)) (by omega))
  have HD2 := Lib.hid hd2; have HB2 := Lib.hid hb2
  clear hd2 hb2
  refine region_plan ⟨[0, 1, 3, 7, 0, 0, 32, 0, 128, 480, 1023], [6, 10], [0, 0, 0, 0, 0, 0, 0, 0, 0, 1, 1]⟩
    [⟨[0, 1, 2, 3, 4, 5, 7, 8], [1, 2, 3, 8], some 6⟩, ⟨[9], [1, 2, 3, 8, 9], some 10⟩, ⟨[], [], none⟩] 34 (by kernel_rfl) (by kernel_rfl) (by kernel_rfl) (by kernel_rfl) rfl ?_
  simp only [SeqGo, opsAt_cons, opsAt_nil, List.getElem?_cons, Option.toList_some, List.singleton_append, ↓reduceIte, Nat.reduceEqDiff, Nat.reduceSub]
  go_wp2_with fail
  refine ⟨by (simp only [Sames, Same]; go_simp), ?_⟩
  go_wp2_with (go_at_call 17; refine CL.out.mono ?_; rintro e w3 ⟨v3, rfl, hb3, ho3⟩; obtain ⟨A3, c3, rfl, _⟩ := id (Rd.of_own ho3); have hb23 : Below w2.heap.size w2 w3 := r2d.trans hb3)
  rw [bs_len]
  have hm3 := HD2.out.map.stay hb23
  have hle3 : (es.map fun e => (e.1, entV e.2)).length < maxLen := by rw [List.length_map]; have := HD.out.le; unfold maxLen; omega
  have HM3 := Lib.hid hm3; have HLE3 := Lib.hid hle3; have HO3 := Lib.hid ho3; have HB23 := Lib.hid hb23
  clear hm3 hle3 ho3
  refine ⟨by (simp only [Sames, Same]; go_simp), ?_⟩
  go_wp2_with (at_mapUpdate; refine wp_fput _ _ _ 121 147 rfl rfl Try.underlying121 rfl HM3.out HLE3.out rfl rfl hs ?_; intro w4 hm4 ho4)
  refine ⟨trivial, ?_⟩
  go_wp2_with fail
  all_goals go_ret
  have hd3 := HD2.out.stay HB23.out
  have ho3 := HO3.out
  rw [bs_len] at ho3
  have hfr : ∀ k, hold (.slice A3 b.length c3) k → w2.heap.size ≤ k ∧ k < w3.heap.size := fun k hk => owns_lt HO3.out (by rw [bs_len]; exact hk)
  have hlt2 : ∀ k, own k → k < w2.heap.size := fun k hk => (HD2.out.dom k hk).2
  have hs4 := ho4.size
  have hpart : Part w4 B 5 (.slice A3 b.length c3) (bs b) := by
    have h1 : Part w3 B 5 (.slice A3 b.length c3) (bs b) := by
      rcases ho3.2 with ⟨h1, h2⟩ | ⟨g', cap, cur, h1, h2, h3, h4, h5, h6, h7⟩
      · injection h1 with e1 e2 e3
        have hb0 : b = [] := List.eq_nil_of_length_eq_zero e2
        subst hb0 e1 e3
        exact .inl ⟨rfl, rfl⟩
      · injection h1 with e1 e2 e3
        subst e1 e3
        have hBB : B ≤ w2.heap.size := Nat.le_trans hB HB2.out.size
        have h2' : w2.heap.size ≤ g' := h2
        refine .inr ⟨g', 0, c3, cur, by rw [bs_len], by omega, h3, by rw [bs_len]; exact h4, h5, by omega, ?_⟩
        rw [List.drop_zero, bs_len]
        rw [Nat.mul_one] at h7
        exact h7
    exact h1.move fun k o n c hk => ho4.block k (fun e => by
      have h2 := (hfr k ⟨_, _, _, hk⟩).1
      have h3 := hlt2 gm HD2.out.om
      omega)
  have hset := hd3.set (w' := w4) (own' := Grown own w w4) s.data.toList (⟨b, b.length⟩, .slice A3 b.length c3)
    (by have := putF_map entV es s.data.toList (⟨b, b.length⟩, .slice A3 b.length c3); rw [← this]; exact hm4)
    (fun k hk hn _ => ho4.block k hn) (fun k hk => .inl hk)
    (fun k hk => by
      rcases hk with hk | hk
      · have := hd3.dom k hk; omega
      · exact ⟨by omega, hk.2⟩)
    ⟨hpart, HBB.out, Nat.le_refl _, by simp only; omega, namedB_name (HNB.out ()), fun k hk => by
      have h1 := hfr k hk
      have h2 := HB2.out.size
      have h3 := hlt2 g HD2.out.og
      have h4 := hlt2 gm HD2.out.om
      exact ⟨.inr ⟨by omega, by omega⟩, by omega, by omega⟩⟩
    (fun k hk => .inr fun ho => by have := hlt2 k ho; have := (hfr k hk).1; omega)
    (putF_full (by have := HFB.out (); rw [lookF_map (fun e : Ent => e.1)] at this; simpa using this) HD.out.le _)
  refine ⟨rfl, Grown own w w4, ⟨gm, _, hset, (putF_map (fun e : Ent => e.1) es s.data.toList (⟨b, b.length⟩, .slice A3 b.length c3))⟩, fun k hk => grown_iff own w w4 k hk, ?_⟩
  have hbw : Below w.heap.size w w3 := bw_then HB2.out HB23.out HB2.out.size
  exact (Turns.of_below hbw).trans (Turns.of_only ho4 HD.out.om)
theorem edit_dp {w : World} {B : Nat} {own : Nat → Prop} {g gp : Nat} {p : Pow} {fs : Files} (h : DP w B own g gp p fs) (s : ByteArray) (hs : s.size ≤ maxLen) (v : Value) (b : List Int) (hr : Rd w v (bs b)) (hb : IsB b) :
    Calls Try.prog 60 #[.pointer (some ⟨g, 0, none⟩), .string s, v] w (DRes w B own g gp ((editS fs s b).1, p, (editS fs s b).2)) := by
  refine (edit_any w B own g (some gp) fs s v b h.disk hs hr hb h.lt).mono ?_
  rintro e w' ⟨h1, own', h2, h3, h4⟩
  exact ⟨h1, own', ⟨h2, h.pow.turns h4 h.no, h.ok, h.made, fun ho => h.no ((h3 gp h.pow.lt).1 ho), Nat.le_trans h.lt h4.size, h.lo⟩, h3, h4.mono fun k hk => .inl hk⟩
end Go.Proofs.Ytlgcnnhlbkidmaa
