/-
  disk: Create.
-/
import Derived.Test.YtlgcnnhlbkidmaaDiskO
namespace Go.Proofs.Ytlgcnnhlbkidmaa
open Go.RowKit

/-- What a call of a disk comes to: its answer, the power, the files. -/
def DiskRes (w : World) (B : Nat) (own : Nat → Prop) (g : Nat) (q : Option Nat) (r : Int × Pow × Files) (e : Ending) (w' : World) : Prop :=
  e = .returned (.int .i64 r.1) ∧ ∃ own', Disk w' B own' g q r.2.2 ∧ (∀ b, b < w.heap.size → (own' b ↔ own b)) ∧ PowAt w' q r.2.1 ∧ Turns (fun b => own b ∨ q = some b) w w'
def Grown (own : Nat → Prop) (w w' : World) (b : Nat) : Prop := own b ∨ (w.heap.size ≤ b ∧ b < w'.heap.size)
theorem grown_iff (own : Nat → Prop) (w w' : World) (b : Nat) (hb : b < w.heap.size) : Grown own w w' b ↔ own b := ⟨fun h => h.resolve_right (by omega), .inl⟩
def fullB (fs : Files) (x : Bt) : Bool := !(lookF fs x).isSome && decide (64 ≤ fs.length)
def createS (p : Pow) (fs : Files) (s : ByteArray) : Int × Pow × Files :=
  if askE p [s] ≠ 0 then (askE p [s], p, fs) else if fullB fs s.data.toList then (10, p, fs) else if p.act.2 ≠ 0 then (p.act.2, p.act.1, fs) else (0, p.act.1, putF fs s.data.toList ⟨[], 0⟩)
theorem askE_name {p : Pow} {s : ByteArray} {l : List ByteArray} (h : askE p (s :: l) = 0) : 1 ≤ s.data.toList.length ∧ s.data.toList.length ≤ 40 := by
  unfold askE at h
  have hs : namedB s = true := by
    cases hb : namedB s
    · rw [if_pos (by simp [hb])] at h; cases h
    · rfl
  unfold namedB at hs
  simp at hs
  have : s.size = s.data.size := rfl
  simp only [Array.length_toList]
  omega
theorem same_res {w w' : World} {B : Nat} {own : Nat → Prop} {g : Nat} {q : Option Nat} {p : Pow} {fs : Files} (h : Disk w B own g q fs) (hp : PowAt w q p) (hb : Below w.heap.size w w') (z : Int) : DiskRes w B own g q (z, p, fs) (.returned (.int .i64 z)) w' :=
  ⟨rfl, own, h.stay hb, fun _ _ => Iff.rfl, hp.stay hb, Turns.of_below hb⟩
theorem lookF_ents (es : List (Bt × Ent)) (x : Bt) : (lookF (es.map fun e => (e.1, entV e.2)) x).isSome = (lookF (es.map fun e => (e.1, e.2.1)) x).isSome := by
  rw [lookF_map, lookF_map (fun e : Ent => e.1)]
  cases lookF es x <;> rfl
theorem putF_len {α : Type} (fs : List (Bt × α)) (x : Bt) (v : α) : (putF fs x v).length ≤ fs.length + 1 := by
  unfold putF
  rw [insF_len]
  have := List.length_filter_le (fun f : Bt × α => !(f.1 == x)) fs
  unfold delF
  omega
theorem delF_lt {α : Type} {fs : List (Bt × α)} {x : Bt} {v : α} (h : lookF fs x = some v) : (delF fs x).length < fs.length := by
  unfold delF
  refine List.length_filter_lt_length_iff_exists.2 ⟨_, lookF_mem h, by simp⟩
theorem putF_full {α : Type} {fs : List (Bt × α)} {x : Bt} (h : (!(lookF fs x).isSome && decide (64 ≤ fs.length)) = false) (hl : fs.length ≤ 64) (v : α) : (putF fs x v).length ≤ 64 := by
  cases hq : lookF fs x with
  | none =>
    rw [hq] at h
    simp at h
    have := putF_len fs x v
    omega
  | some u =>
    unfold putF
    rw [insF_len]
    have := delF_lt hq
    omega

set_option maxRecDepth 100000 in
set_option maxHeartbeats 1000000 in
theorem create_any (w : World) (B : Nat) (own : Nat → Prop) (g : Nat) (q : Option Nat) (p : Pow) (fs : Files) (s : ByteArray) (h : Disk w B own g q fs) (hp : PowAt w q p) (hok : p.ok) (hq : ∀ k, q = some k → ¬ own k) (hs : s.size ≤ maxLen) :
    Calls Try.prog 55 #[.pointer (some ⟨g, 0, none⟩), .string s] w (DiskRes w B own g q (createS p fs s)) := by
  have hd0 := h
  obtain ⟨gm, es, hd, rfl⟩ := h
  have hA : Below w.heap.size w (w.alloc (.cells #[.string s] 9)) := bw_al (Below.refl _ _) (Nat.le_refl _) _
  obtain ⟨w1, hw1⟩ : ∃ w1, w.alloc (.cells #[.string s] 9) = w1 := ⟨_, rfl⟩
  have AK := Lib.hid (ask_any w1 g gm q p ((hd.stay (hw1 ▸ hA)).head) (hp.stay (hw1 ▸ hA)) (.slice (some ⟨w.heap.size, 0, none⟩) 1 1) [s] (by rw [← hw1]; exact Rd.one w (.string s) _))
  rw [hw1] at hA
  have hd1 := hd.stay hA
  have hp1 := hp.stay hA
  have FL := Lib.hid (full_any w1 g gm q _ hd1.head hd1.map s hs hd1.isFile)
  rw [lookF_ents, List.length_map] at FL
  obtain ⟨e0, he0⟩ : ∃ e, askE p [s] = e := ⟨_, rfl⟩
  have hnm : e0 = 0 → _ := fun hz => askE_name (he0.trans hz)
  have hfl : fullB (es.map fun e => (e.1, e.2.1)) s.data.toList = (!(lookF (es.map fun e => (e.1, e.2.1)) s.data.toList).isSome && decide (64 ≤ es.length)) := by unfold fullB; rw [List.length_map]
  unfold createS
  rw [hfl]
  rw [he0] at AK ⊢
  obtain ⟨fb, hfb⟩ : ∃ b, (!(lookF (es.map fun e => (e.1, e.2.1)) s.data.toList).isSome && decide (64 ≤ es.length)) = b := ⟨_, rfl⟩
  rw [hfb] at FL ⊢
  have HD0 := Lib.hid hd0; have HD1 := Lib.hid hd1; have HP := Lib.hid hp; have HP1 := Lib.hid hp1; have HA := Lib.hid hA; have HFB := Lib.hid (fun _ : Unit => hfb); have HNM := Lib.hid hnm; have HW1 := Lib.hid (fun _ : Unit => hw1)
  have HQ := Lib.hid hq
  clear hd0 hd1 hp hp1 hA hfb hfl he0 hd hnm hq
  by_cases hz : e0 = 0
  · subst hz
    rw [if_neg (by simp)]
    cases fb
    · rw [if_neg (by simp)]
      obtain ⟨e3, he3⟩ : ∃ e, p.act.2 = e := ⟨_, rfl⟩
      obtain ⟨p3, hp3⟩ : ∃ e, p.act.1 = e := ⟨_, rfl⟩
      rw [he3, hp3]
      have HE3 := Lib.hid (fun _ : Unit => he3); have HP3 := Lib.hid (fun _ : Unit => hp3)
      clear he3 hp3
      go_enter Try.func55, Try.ntmps55
      go_upto_region 6 with (first
        | (go_at_call 75; refine AK.out.mono ?_; rintro e w' ⟨rfl, rfl⟩)
        | (go_at_call 76; refine FL.out.mono ?_; rintro e w2 ⟨rfl, hb2⟩))
      have hd2 := HD1.out.stay hb2
      have hp2 := HP1.out.stay hb2
      have c0 := hd2.head.at_ 0 rfl
      have c1 := hd2.head.at_ 1 rfl
      have PA := Lib.hid (plugact_any w2 q p hp2 hok)
      have HD2 := Lib.hid hd2; have HB2 := Lib.hid hb2
      clear hd2 hp2 hb2
      rw [HE3.out (), HP3.out ()] at PA
      by_cases h3 : e3 = 0
      · subst h3
        go_upto_region 9 with (go_at_call 77; refine PA.out.mono ?_; rintro e w3 ⟨rfl, hp3, ht3⟩)
        have hd3 := HD2.out.turns ht3 (fun b hb hq => HQ.out b hq hb)
        have c13 := hd3.head.at_ 1 rfl
        have hle3 : (es.map fun e => (e.1, entV e.2)).length < maxLen := by rw [List.length_map]; have := hd3.le; unfold maxLen; omega
        have HM3 := Lib.hid hd3.map
        have HD3 := Lib.hid hd3; have HT3 := Lib.hid ht3; have HPW3 := Lib.hid hp3
        have HLE3 := Lib.hid hle3
        clear hd3 ht3 hp3 hle3
        go_wp2_with (at_mapUpdate; refine wp_fput _ _ _ 121 147 rfl rfl Try.underlying121 rfl HM3.out HLE3.out rfl rfl hs ?_; intro w4 hm4 ho4)
        all_goals go_ret
        have hd3 := HD3.out
        have hsz4 := ho4.size
        have b03 : w.heap.size ≤ w3.heap.size := Nat.le_trans HA.out.size (Nat.le_trans HB2.out.size HT3.out.size)
        have hset := hd3.set (w' := w4) (own' := own) s.data.toList (⟨[], 0⟩, .slice none 0 0) (by have := putF_map entV es s.data.toList (⟨[], 0⟩, .slice none 0 0); rw [← this]; exact hm4)
          (fun b _ hn _ => ho4.block b hn) (fun _ h => h) (fun k hk => by rw [hsz4]; exact hd3.dom k hk)
          ⟨Part.nil _ _ _, fun z hz => by simp at hz, Nat.le_refl _, Nat.zero_le _, HNM.out trivial, fun k hk => by obtain ⟨_, _, _, hk⟩ := hk; cases hk⟩ (fun k hk => by obtain ⟨_, _, _, hk⟩ := hk; cases hk)
          (putF_full (by have := HFB.out (); rw [lookF_map (fun e : Ent => e.1)] at this; simpa using this) hd3.le _)
        refine ⟨rfl, own, ⟨gm, _, hset, (putF_map (fun e : Ent => e.1) es s.data.toList (⟨[], 0⟩, .slice none 0 0))⟩, fun _ _ => Iff.rfl, ?_, ?_⟩
        · exact HPW3.out.turns (Turns.of_only ho4 (S := fun b => b = gm) rfl) (fun k hk e => HQ.out k hk (e ▸ hd3.om))
        · exact ((Turns.of_below (bw_then HA.out HB2.out HA.out.size)).trans (HT3.out.mono fun k hk => .inr hk)).trans (Turns.of_only ho4 (.inl hd3.om))
      · have h1 : (e3 == 0) = false := by simpa using h3
        have h2 : (e3 != 0) = true := by simpa using h3
        go_wp2_with (go_at_call 77; refine PA.out.mono ?_; rintro e w3 ⟨rfl, hp3, ht3⟩)
        all_goals go_ret
        refine ⟨rfl, own, ((HD0.out.stay (bw_then HA.out HB2.out HA.out.size)).turns ht3 (fun b hb hq => HQ.out b hq hb)), fun _ _ => Iff.rfl, hp3, (Turns.of_below (bw_then HA.out HB2.out HA.out.size)).trans (ht3.mono fun k hk => .inr hk)⟩
    · rw [if_pos rfl]
      go_enter Try.func55, Try.ntmps55
      go_wp2_with (first
        | (go_at_call 75; refine AK.out.mono ?_; rintro e w' ⟨rfl, rfl⟩)
        | (go_at_call 76; refine FL.out.mono ?_; rintro e w' ⟨rfl, hb2⟩))
      all_goals go_ret
      exact same_res HD0.out HP.out (bw_then HA.out hb2 HA.out.size) _
  · rw [if_pos hz]
    have h1 : (e0 == 0) = false := by simpa using hz
    have h2 : (e0 != 0) = true := by simpa using hz
    go_enter Try.func55, Try.ntmps55
    go_wp2_with (go_at_call 75; refine AK.out.mono ?_; rintro e w' ⟨rfl, rfl⟩)
    all_goals go_ret
    exact same_res HD0.out HP.out HA.out _
end Go.Proofs.Ytlgcnnhlbkidmaa
