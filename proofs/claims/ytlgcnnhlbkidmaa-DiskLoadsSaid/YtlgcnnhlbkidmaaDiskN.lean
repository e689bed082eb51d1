/-
  disk: Names.
-/
import Derived.Test.YtlgcnnhlbkidmaaDiskS
import Derived.Test.YtlgcnnhlbkidmaaIter
namespace Go.Proofs.Ytlgcnnhlbkidmaa
open Go.RowKit

theorem before_le : ∀ (a b : Bt), bytesBefore a b = true → a ≤ b
  | [], b, _ => List.nil_le b
  | x :: r, [], h => by simp [bytesBefore] at h
  | x :: r, y :: s, h => by
    simp only [bytesBefore, Bool.or_eq_true, decide_eq_true_eq, Bool.and_eq_true, beq_iff_eq] at h
    rw [List.cons_le_cons_iff]
    rcases h with h | ⟨rfl, h⟩
    · exact .inl h
    · exact .inr ⟨rfl, before_le r s h⟩
theorem sorted_keys {α : Type} {fs : List (Bt × α)} (h : Rise fs) {ss : List Bt} (hp : ss.Perm (fs.map Prod.fst)) : ss.mergeSort (fun x y => decide (x ≤ y)) = fs.map Prod.fst := by
  rw [show ss.mergeSort (fun x y => decide (x ≤ y)) = (fs.map Prod.fst).mergeSort (fun x y => decide (x ≤ y)) from mergeSort_of_perm hp]
  refine List.mergeSort_of_pairwise ?_
  rw [List.pairwise_map]
  exact h.imp fun {a b} hab => by simpa using before_le a.1 b.1 hab

set_option maxRecDepth 100000 in
set_option maxHeartbeats 1000000 in
theorem names_any (w : World) (B : Nat) (own : Nat → Prop) (g : Nat) (q : Option Nat) (fs : Files) (h : Disk w B own g q fs) :
    Calls Try.prog 61 #[.pointer (some ⟨g, 0, none⟩)] w fun e w' => ∃ v, e = .returned v ∧ w'.ownsRow w.heap.size 9 1 v fs.length (fs.map fun f => encStr f.1) ∧ Below w.heap.size w w' := by
  obtain ⟨gm, es, hd, rfl⟩ := h
  have hA : Below w.heap.size w (w.alloc (.cells #[.map (some gm)] 121)) := bw_al (Below.refl _ _) (Nat.le_refl _) _
  have hle := hd.le
  have hsz : Maps.size (FD (es.map fun e => (e.1, entV e.2))) = es.length := by rw [FD_size, List.length_map]
  obtain ⟨es', hes'⟩ : ∃ es', (es.map fun e => (e.1, entV e.2)) = es' := ⟨_, rfl⟩
  have hmap := hd.map
  rw [hes'] at hmap hsz
  have MK := Lib.hid (callsIn_wide.1 (Try.maps_Keys_82 (some gm) w))
  have SK := Lib.hid (callsIn_wide.1 (Try.slices_Sorted_keys_81_82 gm es'.length (FD es') tok w hmap (by rw [hsz]; unfold maxLen; omega) (by rw [hsz]; omega)))
  have MD := Lib.hid (made_any w g gm (ptrV q) hd.head)
  have c1 := hd.head.at_ 1 rfl
  have HR := Lib.hid hd.rise; have HA := Lib.hid hA
  have HES := Lib.hid (fun _ : Unit => hes')
  clear hd hsz hA hmap hes'
  go_enter Try.func61, Try.ntmps61
  go_wp2_with (first
    | (go_at_call 79; refine MD.out.mono ?_; rintro e w' ⟨rfl, rfl⟩)
    | (go_at_call 82; refine MK.out.mono ?_; rintro e w' ⟨rfl, rfl⟩)
    | (go_at_call 81; refine SK.out.mono ?_; rintro e w' ⟨v, ss, rfl, hS, hrow, hnil, hb⟩))
  all_goals go_ret
  have hes' := HES.out ()
  subst hes'
  rw [FD_keys] at hS
  have hR : Rise (es.map fun e => (e.1, entV e.2)) := by
    unfold Rise
    rw [List.pairwise_map]
    exact HR.out
  have hln := hS.length_eq
  rw [sorted_keys hR hS] at hrow
  rw [hln] at hrow
  simp only [List.length_map, List.map_map] at hrow ⊢
  exact ⟨_, rfl, ownsRow_mono hrow (by simp), HA.out.trans (hb.mono (by simp))⟩
end Go.Proofs.Ytlgcnnhlbkidmaa
