/-
  disk: what is asked ahead of a call of a file that must be there; an act of the power.
-/
import Derived.Test.YtlgcnnhlbkidmaaDisk
import Derived.Test.YtlgcnnhlbkidmaaSeq
import Derived.Deep.DeepCutAuto
namespace Go.Proofs.Ytlgcnnhlbkidmaa
open Go.RowKit

/-- What a file's value is. -/
def IsFile (fs : List (Bt × Value)) : Prop := ∀ f ∈ fs, ∃ A n c k, f.2 = fileV (.slice A n c) k
theorem isFile_look {fs : List (Bt × Value)} (h : IsFile fs) (x : Bt) : ∃ A n c k, (lookF fs x).getD (fileV (.slice none 0 0) 0) = fileV (.slice A n c) k := by
  cases hq : lookF fs x with
  | none => exact ⟨_, _, _, _, rfl⟩
  | some v => exact h _ (lookF_mem hq)
def thereE (p : Pow) (b : Bool) (l : List ByteArray) : Int := if askE p l ≠ 0 then askE p l else if b then 0 else 9
set_option maxRecDepth 100000 in
set_option maxHeartbeats 1000000 in
theorem there_any (w : World) (g gm : Nat) (q : Option Nat) (p : Pow) (fs : List (Bt × Value)) (h : Blk w g [ptrV q, .map (some gm)] 123) (hm : FMap w gm fs) (hf : IsFile fs) (hp : PowAt w q p) (v : Value) (s : ByteArray) (l : List ByteArray) (hs : s.size ≤ maxLen) (hr : Rd w v ((s :: l).map Value.string)) :
    Calls Try.prog 78 #[.pointer (some ⟨g, 0, none⟩), v] w fun e w' => e = .returned (.int .i64 (thereE p (lookF fs s.data.toList).isSome (s :: l))) ∧ Below w.heap.size w w' := by
  have AK := Lib.hid (ask_any w g gm q p h hp v (s :: l) hr)
  have c1 := h.at_ 1 rfl
  have hl : ∀ w', Below w.heap.size w w' → _ := fun w' hb => (hm.stay hb).look_ok Try.underlying121 (zfile w') s hs
  obtain ⟨A, m, c, k, hv⟩ := isFile_look hf s.data.toList
  rw [hv] at hl
  unfold fileV at hl
  obtain ⟨e, he⟩ : ∃ e, askE p (s :: l) = e := ⟨_, rfl⟩
  obtain ⟨b, hb⟩ : ∃ b, (lookF fs s.data.toList).isSome = b := ⟨_, rfl⟩
  unfold thereE
  rw [he] at AK ⊢
  rw [hb] at hl ⊢
  have hmx := hr.len
  obtain ⟨A1, c2, rfl, _, _, _, hc⟩ := hr
  rcases hc with hc | ⟨b1, o1, rfl, hc⟩
  · simp at hc
  have hc0 : w.cell? ⟨b1, o1, none⟩ = some (.string s) := hc 0 (by simp)
  have hcl : (List.map Value.string (s :: l)).length = l.length + 1 := by simp
  rw [hcl] at AK hmx ⊢
  have k1 : ∀ w', Below w.heap.size w w' → w'.cell? ⟨g, 1, none⟩ = some (.map (some gm)) := fun w' hb => cell_stay hb c1
  have k0 : ∀ w', Below w.heap.size w w' → w'.cell? ⟨b1, o1, none⟩ = some (.string s) := fun w' hb => cell_stay hb hc0
  have hD : Below w.heap.size w w.drew := bw_d1 (Below.refl _ _)
  have hD1 : Below w.heap.size w (w.alloc (.cells #[.slice none 0 0, .int .i64 0] 147)) := bw_al (Below.refl _ _) (Nat.le_refl _) _
  have hD2 : Below w.heap.size w (w.alloc (.cells #[.slice A m c, .int .i64 k] 147)) := bw_al (Below.refl _ _) (Nat.le_refl _) _
  have hD3 := bw_d1 hD1
  have hD4 := bw_d1 hD2
  clear hc hcl hm hf hp hv hb he
  by_cases h0 : e = 0
  · subst h0
    rw [if_neg (by simp)]
    go_enter Try.func78, Try.ntmps78
    go_upto_region 4 with (go_at_call 75; refine AK.out.mono ?_; rintro e w' ⟨rfl, rfl⟩)
    cases b
    all_goals (
      refine region_plan ⟨[0, 1, 3, 7, 0, 16, 48, 127, 255, 511, 511, 0, 3071, 8191], [11, 12], [0, 0, 0, 0, 0, 0, 0, 0, 0, 0, 0, 0, 1, 2]⟩
        [⟨[0, 1, 2, 3, 4, 5, 6, 7, 8, 9, 10], [1, 2, 3, 5, 6, 7, 9, 10], some 11⟩, ⟨[], [1, 2, 3, 5, 6, 7, 9, 10], some 12⟩, ⟨[13], [10], none⟩] 27 (by kernel_rfl) (by kernel_rfl) (by kernel_rfl) (by kernel_rfl) rfl ?_
      simp only [SeqGo, opsAt_cons, opsAt_nil, List.getElem?_cons, Option.toList_some, List.singleton_append, ↓reduceIte, Nat.reduceEqDiff, Nat.reduceSub]
      go_wp2_with fail
      refine ⟨by (simp only [Sames, Same]; go_simp), ?_⟩
      go_wp2_with fail
      refine ⟨by (simp only [Sames, Same]; go_simp), ?_⟩
      go_wp2_with fail
      refine ⟨by (simp only [Sames, Same]; go_simp), ?_⟩
      go_wp2_with fail
      go_ret
      exact ⟨rfl, hD4⟩)
  · have h1 : (e == 0) = false := by simpa using h0
    have h2 : (e != 0) = true := by simpa using h0
    rw [if_pos h0]
    go_enter Try.func78, Try.ntmps78
    go_wp2_with (go_at_call 75; refine AK.out.mono ?_; rintro e w' ⟨rfl, rfl⟩)
    all_goals go_ret
    exact ⟨rfl, Below.refl _ _⟩
end Go.Proofs.Ytlgcnnhlbkidmaa
