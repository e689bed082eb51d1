/-
  Bytes as values; bytes.Clone, bytes.Equal.
-/
import Derived.Test.YtlgcnnhlbkidmaaBase
import Derived.Deep.QuietTactic
import Derived.BigQuiet
namespace Go.Proofs.Ytlgcnnhlbkidmaa
open Go.RowKit

/-- Bytes as values. -/
def bs (xs : List Int) : List Value := xs.map (Value.int .u8)
def IsB (xs : List Int) : Prop := ∀ x ∈ xs, 0 ≤ x ∧ x ≤ 255
theorem bs_len (xs : List Int) : (bs xs).length = xs.length := by simp [bs]

theorem IsB.at_ {xs : List Int} (h : IsB xs) (i : Nat) : 0 ≤ xs.getD i 0 ∧ xs.getD i 0 ≤ 255 := by
  rw [List.getD_eq_getElem?_getD]
  rcases Nat.lt_or_ge i xs.length with hi | hi
  · rw [List.getElem?_eq_getElem hi]; exact h _ (List.getElem_mem hi)
  · rw [List.getElem?_eq_none hi]; simp

theorem info5 : (Try.prog.info? 5).map (fun i => (i.zero, i.size, i.bytes)) = some (some (.int .u8 0), 1, 1) := by kernel_rfl

/-- The answer is a new row of bytes, and nothing that was there has turned. -/
def NewB (xs : List Int) (w : World) (e : Ending) (w' : World) : Prop :=
  ∃ v, e = .returned v ∧ Below w.heap.size w w' ∧ w'.ownsRow w.heap.size 5 1 v xs.length (bs xs)

theorem bs_one (xs : List Int) : ∀ y ∈ bs xs, y.oneCell' = true := by
  intro y hy
  obtain ⟨x, _, rfl⟩ := List.mem_map.1 hy
  rfl
theorem bs_append (xs ys : List Int) : bs (xs ++ ys) = bs xs ++ bs ys := by simp [bs]

set_option maxHeartbeats 400000 in
theorem clone_any (v : Value) (xs : List Int) (w : World) (hr : Rd w v (bs xs)) (hl : xs.length ≤ 140737488355328) :
    Calls Try.prog 17 #[v] w fun e w' => NewB xs w e w' := by
  have hr0 := Lib.hid hr
  obtain ⟨A, c, rfl, hc1, hc2, h0, hcell⟩ := hr
  have hown := World.ownsRow_made (e := 5) (size := 1) w #[] 0 (Nat.le_refl _) (Nat.zero_le _) (by simp)
  have hn := fun A n c => Lib.run_eql_slice_nil (P := Try.prog) w 22 5 A n c 0 0 Try.underlying22
  cases A with
  | none =>
    obtain rfl : c = 0 := h0 rfl
    obtain rfl : xs = [] := List.eq_nil_of_length_eq_zero (by rw [bs_len] at hc1; omega)
    go_enter Try.func17, Try.ntmps17
    go_wp2
    go_ret
    exact ⟨_, rfl, Below.refl _ _, World.ownsRow_nil _ _ _ _⟩
  | some a =>
    clear h0 hcell
    go_enter Try.func17, Try.ntmps17
    go_wp2_with (at_builtin; go_loud (refine wp_app (.tmp 5) (.tmp 6) 22 rfl rfl 5 (.int .u8 0) 1 Try.underlying22 info5 rfl w.heap.size rfl hown rfl (hr0.out.stay ((Below.refl _ _).alloc (Nat.le_refl _) _) (Nat.le_refl _)) (bs_one _) (by decide) (by rw [bs_len]; omega) (by simp) ?_; intro v' w1 hown1 _ hb1))
    go_ret
    exact ⟨_, rfl, ((Below.refl _ _).alloc (Nat.le_refl _) _).trans hb1, by simpa [bs_len] using hown1⟩

/-- Are two lists of bytes one? -/
def eqB (xs ys : List Int) : Bool := xs == ys
def strOf (xs : List Int) : ByteArray := xs.foldl (fun r n => r.push (UInt8.ofNat n.toNat)) ByteArray.empty
theorem strOf_from (xs : List Int) (s : ByteArray) : (xs.foldl (fun r n => r.push (UInt8.ofNat n.toNat)) s).data.toList = s.data.toList ++ xs.map fun n => UInt8.ofNat n.toNat := by
  induction xs generalizing s with
  | nil => simp
  | cons x xs ih => rw [List.foldl_cons, ih]; simp [ByteArray.push]
theorem strOf_toList (xs : List Int) : (strOf xs).toList = xs.map fun n => UInt8.ofNat n.toNat := by
  rw [ByteArray.toList_eq, strOf, strOf_from]; simp
theorem u8_inj {x y : Int} (hx : 0 ≤ x ∧ x ≤ 255) (hy : 0 ≤ y ∧ y ≤ 255) (h : UInt8.ofNat x.toNat = UInt8.ofNat y.toNat) : x = y := by
  have h1 := congrArg UInt8.toNat h
  simp at h1
  omega
theorem map_u8_inj : ∀ {xs ys : List Int}, IsB xs → IsB ys → (xs.map fun n => UInt8.ofNat n.toNat) = (ys.map fun n => UInt8.ofNat n.toNat) → xs = ys
  | [], [], _, _, _ => rfl
  | [], y :: ys, _, _, h => by simp at h
  | x :: xs, [], _, _, h => by simp at h
  | x :: xs, y :: ys, hx, hy, h => by
    simp only [List.map_cons, List.cons.injEq] at h
    rw [u8_inj (hx x (by simp)) (hy y (by simp)) h.1, map_u8_inj (fun z hz => hx z (by simp [hz])) (fun z hz => hy z (by simp [hz])) h.2]
theorem strOf_eq {xs ys : List Int} (hx : IsB xs) (hy : IsB ys) : ((strOf xs).toList == (strOf ys).toList) = eqB xs ys := by
  rw [strOf_toList, strOf_toList, eqB, Bool.eq_iff_iff, beq_iff_eq, beq_iff_eq]
  exact ⟨map_u8_inj hx hy, fun h => by rw [h]⟩
theorem run_conv (w : World) (A : Option Addr) (n c : Nat) (xs : List Int) (hr : Rd w (.slice A n c) (bs xs)) :
    (convert 22 9 (.slice A n c)).run Try.prog w = .ok (.string (strOf xs)) w := by
  rw [run_convert_bytes_string w _ _ _ A n c Try.underlying22 Try.underlying5 Try.underlying9]
  obtain ⟨rfl, ⟨rfl, h⟩ | ⟨a, rfl, h⟩⟩ := hr.addr
  · obtain rfl : xs = [] := by simpa [bs] using h
    rfl
  · exact run_bytesToString w a _ c xs (by have := run_loadCells_list (P := Try.prog) w a (bs xs) h; exact this)

set_option maxHeartbeats 400000 in
theorem equal_any (u v : Value) (xs ys : List Int) (w : World) (hu : Rd w u (bs xs)) (hv : Rd w v (bs ys)) (hx : IsB xs) (hy : IsB ys) :
    Calls Try.prog 19 #[u, v] w fun e w' => e = .returned (.bool (eqB xs ys)) ∧ w = w' := by
  have hu0 := hu
  have hv0 := hv
  obtain ⟨A, c, rfl, _⟩ := hu
  obtain ⟨A', c', rfl, _⟩ := hv
  have h1 := run_conv w _ _ _ xs hu0
  have h2 := run_conv w _ _ _ ys hv0
  have h3 := strOf_eq hx hy
  clear hu0 hv0 hx hy
  go_enter Try.func19, Try.ntmps19
  go_wp2_with fail
  go_ret
  exact ⟨rfl, rfl⟩
end Go.Proofs.Ytlgcnnhlbkidmaa
