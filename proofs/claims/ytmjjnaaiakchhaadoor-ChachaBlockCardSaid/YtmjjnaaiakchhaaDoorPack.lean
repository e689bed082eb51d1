/-
  Contracts of package pack's functions that lay and take numbers; bytes.Clone, bytes.Equal.
-/
import Derived.Test.YtmjjnaaiakchhaaDoorBase
import Derived.Deep.QuietTactic
import Derived.BigQuiet
namespace Go.Proofs.YtmjjnaaiakchhaaDoor
open Go.RowKit

/-- Bytes as values. -/
def bs (xs : List Int) : List Value := xs.map (Value.int .u8)
def IsB (xs : List Int) : Prop := ∀ x ∈ xs, 0 ≤ x ∧ x ≤ 255
theorem bs_len (xs : List Int) : (bs xs).length = xs.length := by simp [bs]

/-- The number of n bytes from a place on, the lowest first; what is not there counts 0. -/
def leN (xs : List Int) (a : Nat) : Nat → Int
  | 0 => 0
  | i + 1 => leN xs a i + xs.getD (a + i) 0 * 256 ^ i

theorem IsB.at_ {xs : List Int} (h : IsB xs) (i : Nat) : 0 ≤ xs.getD i 0 ∧ xs.getD i 0 ≤ 255 := by
  rw [List.getD_eq_getElem?_getD]
  rcases Nat.lt_or_ge i xs.length with hi | hi
  · rw [List.getElem?_eq_getElem hi]; exact h _ (List.getElem_mem hi)
  · rw [List.getElem?_eq_none hi]; simp

theorem leN_range {xs : List Int} (h : IsB xs) (a : Nat) (n : Nat) : 0 ≤ leN xs a n ∧ leN xs a n < 256 ^ n := by
  induction n with
  | zero => simp [leN]
  | succ n ih =>
    have hb := h.at_ (a + n)
    have hp : (0 : Int) < 256 ^ n := Int.pow_pos (by decide)
    simp only [leN]
    have h1 : xs.getD (a + n) 0 * 256 ^ n ≤ 255 * 256 ^ n := Int.mul_le_mul_of_nonneg_right hb.2 (by omega)
    have h2 : 0 ≤ xs.getD (a + n) 0 * 256 ^ n := Int.mul_nonneg hb.1 (by omega)
    have h3 : (256 : Int) ^ (n + 1) = 256 * 256 ^ n := by rw [Int.pow_succ, Int.mul_comm]
    omega

theorem or_low (x z : Int) (k : Nat) (hk : k ≤ 7) (hx : 0 ≤ x ∧ x < 256 ^ k) (hz : 0 ≤ z ∧ z ≤ 255) :
    bits .or .u64 x (IntKind.u64.wrap (z * 2 ^ (8 * k))) = x + z * 256 ^ k := by
  obtain ⟨X, rfl⟩ := Int.eq_ofNat_of_zero_le hx.1
  obtain ⟨Z, rfl⟩ := Int.eq_ofNat_of_zero_le hz.1
  have e : (256 : Nat) ^ k = 2 ^ (8 * k) := (Nat.pow_mul 2 8 k).symm
  have hX : X < 2 ^ (8 * k) := by rw [← e]; have h := hx.2; exact Int.ofNat_lt.1 (by rw [Int.natCast_pow]; exact h)
  have hp : 2 ^ (8 * k) ≤ 2 ^ 56 := Nat.pow_le_pow_right (by decide) (by omega)
  have hZ : Z ≤ 255 := by omega
  have hY : Z * 2 ^ (8 * k) ≤ 255 * 2 ^ 56 := Nat.mul_le_mul hZ hp
  have h1 : IntKind.u64.wrap ((Z : Int) * 2 ^ (8 * k)) = ((Z * 2 ^ (8 * k) : Nat) : Int) := by
    rw [IntKind.wrap_u64]
    have e2 : (Z : Int) * 2 ^ (8 * k) = ((Z * 2 ^ (8 * k) : Nat) : Int) := by rw [Int.natCast_mul, Int.natCast_pow]; rfl
    rw [e2]; omega
  rw [h1, u64_or_nat X (Z * 2 ^ (8 * k)) (by omega) (by omega), Nat.or_comm, nat_join (8 * k) _ X (Nat.mul_mod_left _ _) hX, ← e]
  rw [Int.natCast_add, Int.natCast_mul, Int.natCast_pow, Int.add_comm]; rfl

set_option maxHeartbeats 400000 in
theorem take_any (v : Value) (xs : List Int) (at_ n : Int) (w : World) (hr : Rd w v (bs xs)) (hx : IsB xs) (h0 : 0 ≤ at_) (h1 : at_ ≤ 4294967296) (hn0 : 0 ≤ n) (hn : n ≤ 8) :
    Calls Tryd.prog 65 #[v, .int .i64 at_, .int .i64 n] w fun e w' => e = .returned (.int .u64 (leN xs at_.toNat n.toNat)) ∧ w = w' := by
  obtain ⟨A, c, rfl, hc1, hc2, _, hcell⟩ := hr
  obtain ⟨a, rfl⟩ := Int.eq_ofNat_of_zero_le h0
  obtain ⟨n, rfl⟩ := Int.eq_ofNat_of_zero_le hn0
  rw [bs_len] at *
  unfold maxLen at hc2
  simp only [Int.toNat_natCast]
  go_enter Tryd.func65, Tryd.ntmps65
  go_wp2
  go_loop [7, 10] (fun x i => ∃ k : Nat, k ≤ n ∧ i = .int .i64 k ∧ x = .int .u64 (leN xs a k)) (fun _ i => n - (intOf i).toNat)
  case atStart => exact ⟨0, Nat.zero_le _, rfl, rfl⟩
  case round =>
    obtain ⟨k, hk, rfl, rfl⟩ := hrel
    by_cases hlt : k < n
    · by_cases hin : a + k < xs.length
      · rcases hcell with h | ⟨b, o, rfl, hcell⟩
        · simp [bs] at h; subst h; simp at hin
        have hc : w.cell? ⟨b, o + (a + k), none⟩ = some (.int .u8 (xs.getD (a + k) 0)) := by
          rw [hcell (a + k) (by rw [bs_len]; exact hin)]; simp [bs, List.getD_eq_getElem?_getD, hin]
        clear hcell
        have hby := hx.at_ (a + k)
        generalize hz : xs.getD (a + k) 0 = z at *
        have HZ := Lib.hid hz
        clear hz
        have hor := or_low (leN xs a k) z k (by omega) (leN_range hx a k) hby
        go_wp2
        go_round
        case rel => exact ⟨k + 1, by omega, by go_num, by rw [leN, HZ.out]⟩
        case measure => simp [intOf]; omega
      · have hz : leN xs a (k + 1) = leN xs a k := by
          rw [leN, List.getD_eq_getElem?_getD, List.getElem?_eq_none (by omega)]; simp
        have HZ := Lib.hid hz
        clear hz
        go_wp2
        go_round
        case rel => exact ⟨k + 1, by omega, by go_num, by rw [HZ.out]⟩
        case measure => simp [intOf]; omega
    · obtain rfl : k = n := by omega
      go_wp2
      go_ret
      exact ⟨rfl, rfl⟩

set_option maxHeartbeats 400000 in
theorem le64_any (v : Value) (xs : List Int) (at_ : Int) (w : World) (hr : Rd w v (bs xs)) (hx : IsB xs) (h0 : 0 ≤ at_) (h1 : at_ ≤ 4294967296) :
    Calls Tryd.prog 52 #[v, .int .i64 at_] w fun e w' => e = .returned (.int .u64 (leN xs at_.toNat 8)) ∧ w = w' := by
  go_enter Tryd.func52, Tryd.ntmps52
  go_wp2_with (go_at_call 65; refine (take_any _ xs _ _ _ hr hx h0 h1 (by omega) (by omega)).mono ?_; rintro e w' ⟨rfl, rfl⟩)
  go_ret
  exact ⟨rfl, rfl⟩

theorem info5 : (Tryd.prog.info? 5).map (fun i => (i.zero, i.size, i.bytes)) = some (some (.int .u8 0), 1, 1) := by kernel_rfl

/-- The answer is a new row of bytes, and nothing that was there has turned. -/
def NewB (xs : List Int) (w : World) (e : Ending) (w' : World) : Prop :=
  ∃ v, e = .returned v ∧ Below w.heap.size w w' ∧ w'.ownsRow w.heap.size 5 1 v xs.length (bs xs)

theorem bs_one (xs : List Int) : ∀ y ∈ bs xs, y.oneCell' = true := by
  intro y hy
  obtain ⟨x, _, rfl⟩ := List.mem_map.1 hy
  rfl
theorem bs_append (xs ys : List Int) : bs (xs ++ ys) = bs xs ++ bs ys := by simp [bs]

set_option maxHeartbeats 400000 in
theorem clone_any (v : Value) (xs : List Int) (w : World) (hr : Rd w v (bs xs)) (hl : xs.length ≤ 140737488355328) :
    Calls Tryd.prog 24 #[v] w fun e w' => NewB xs w e w' := by
  have hr0 := Lib.hid hr
  obtain ⟨A, c, rfl, hc1, hc2, h0, hcell⟩ := hr
  have hown := World.ownsRow_made (e := 5) (size := 1) w #[] 0 (Nat.le_refl _) (Nat.zero_le _) (by simp)
  have hn := fun A n c => Lib.run_eql_slice_nil (P := Tryd.prog) w 30 5 A n c 0 0 Tryd.underlying30
  cases A with
  | none =>
    obtain rfl : c = 0 := h0 rfl
    obtain rfl : xs = [] := List.eq_nil_of_length_eq_zero (by rw [bs_len] at hc1; omega)
    go_enter Tryd.func24, Tryd.ntmps24
    go_wp2
    go_ret
    exact ⟨_, rfl, Below.refl _ _, World.ownsRow_nil _ _ _ _⟩
  | some a =>
    clear h0 hcell
    go_enter Tryd.func24, Tryd.ntmps24
    go_wp2_with (at_builtin; go_loud (refine wp_app (.tmp 5) (.tmp 6) 30 rfl rfl 5 (.int .u8 0) 1 Tryd.underlying30 info5 rfl w.heap.size rfl hown rfl (hr0.out.stay ((Below.refl _ _).alloc (Nat.le_refl _) _) (Nat.le_refl _)) (bs_one _) (by decide) (by rw [bs_len]; omega) (by simp) ?_; intro v' w1 hown1 _ hb1))
    go_ret
    exact ⟨_, rfl, ((Below.refl _ _).alloc (Nat.le_refl _) _).trans hb1, by simpa [bs_len] using hown1⟩

/-- Are two lists of bytes one? -/
def eqB (xs ys : List Int) : Bool := xs == ys
def strOf (xs : List Int) : ByteArray := xs.foldl (fun r n => r.push (UInt8.ofNat n.toNat)) ByteArray.empty
theorem strOf_from (xs : List Int) (s : ByteArray) : (xs.foldl (fun r n => r.push (UInt8.ofNat n.toNat)) s).data.toList = s.data.toList ++ xs.map fun n => UInt8.ofNat n.toNat := by
  induction xs generalizing s with
  | nil => simp
  | cons x xs ih => rw [List.foldl_cons, ih]; simp [ByteArray.push]
theorem strOf_toList (xs : List Int) : (strOf xs).toList = xs.map fun n => UInt8.ofNat n.toNat := by
  rw [ByteArray.toList_eq, strOf, strOf_from]; simp
theorem u8_inj {x y : Int} (hx : 0 ≤ x ∧ x ≤ 255) (hy : 0 ≤ y ∧ y ≤ 255) (h : UInt8.ofNat x.toNat = UInt8.ofNat y.toNat) : x = y := by
  have h1 := congrArg UInt8.toNat h
  simp at h1
  omega
theorem map_u8_inj : ∀ {xs ys : List Int}, IsB xs → IsB ys → (xs.map fun n => UInt8.ofNat n.toNat) = (ys.map fun n => UInt8.ofNat n.toNat) → xs = ys
  | [], [], _, _, _ => rfl
  | [], y :: ys, _, _, h => by simp at h
  | x :: xs, [], _, _, h => by simp at h
  | x :: xs, y :: ys, hx, hy, h => by
    simp only [List.map_cons, List.cons.injEq] at h
    rw [u8_inj (hx x (by simp)) (hy y (by simp)) h.1, map_u8_inj (fun z hz => hx z (by simp [hz])) (fun z hz => hy z (by simp [hz])) h.2]
theorem strOf_eq {xs ys : List Int} (hx : IsB xs) (hy : IsB ys) : ((strOf xs).toList == (strOf ys).toList) = eqB xs ys := by
  rw [strOf_toList, strOf_toList, eqB, Bool.eq_iff_iff, beq_iff_eq, beq_iff_eq]
  exact ⟨map_u8_inj hx hy, fun h => by rw [h]⟩
theorem run_conv (w : World) (A : Option Addr) (n c : Nat) (xs : List Int) (hr : Rd w (.slice A n c) (bs xs)) :
    (convert 30 9 (.slice A n c)).run Tryd.prog w = .ok (.string (strOf xs)) w := by
  rw [run_convert_bytes_string w _ _ _ A n c Tryd.underlying30 Tryd.underlying5 Tryd.underlying9]
  obtain ⟨rfl, ⟨rfl, h⟩ | ⟨a, rfl, h⟩⟩ := hr.addr
  · obtain rfl : xs = [] := by simpa [bs] using h
    rfl
  · exact run_bytesToString w a _ c xs (by have := run_loadCells_list (P := Tryd.prog) w a (bs xs) h; exact this)

set_option maxHeartbeats 400000 in
theorem equal_any (u v : Value) (xs ys : List Int) (w : World) (hu : Rd w u (bs xs)) (hv : Rd w v (bs ys)) (hx : IsB xs) (hy : IsB ys) :
    Calls Tryd.prog 16 #[u, v] w fun e w' => e = .returned (.bool (eqB xs ys)) ∧ w = w' := by
  have hu0 := hu
  have hv0 := hv
  obtain ⟨A, c, rfl, _⟩ := hu
  obtain ⟨A', c', rfl, _⟩ := hv
  have h1 := run_conv w _ _ _ xs hu0
  have h2 := run_conv w _ _ _ ys hv0
  have h3 := strOf_eq hx hy
  clear hu0 hv0 hx hy
  go_enter Tryd.func16, Tryd.ntmps16
  go_wp2_with fail
  go_ret
  exact ⟨rfl, rfl⟩

/-- A number's n bytes, the lowest first. -/
def lowN (x : Int) : Nat → List Int
  | 0 => []
  | n + 1 => lowN x n ++ [x / 2 ^ (8 * n) % 256]
theorem lowN_len (x : Int) (n : Nat) : (lowN x n).length = n := by induction n with | zero => rfl | succ n ih => simp [lowN, ih]
theorem lowN_isB (x : Int) (n : Nat) : IsB (lowN x n) := by
  induction n with
  | zero => intro y hy; simp [lowN] at hy
  | succ n ih =>
    intro y hy
    rw [lowN, List.mem_append] at hy
    rcases hy with hy | hy
    · exact ih y hy
    · obtain rfl : y = _ := by simpa using hy
      omega

set_option maxHeartbeats 1000000 in
theorem lowu64_any (v : Value) (xs : List Int) (x n : Int) (w : World) (hr : Rd w v (bs xs)) (hl : xs.length ≤ 70368744177664) (_hx0 : 0 ≤ x) (h0 : 0 ≤ n) (hn : n ≤ 8) :
    Calls Tryd.prog 55 #[v, .int .u64 x, .int .i64 n] w fun e w' => NewB (xs ++ lowN x n.toNat) w e w' := by
  have hr0 := Lib.hid hr
  obtain ⟨A, c, rfl, _⟩ := hr
  obtain ⟨n, rfl⟩ := Int.eq_ofNat_of_zero_le h0
  simp only [Int.toNat_natCast]
  rw [bs_len] at hr0 ⊢
  go_enter Tryd.func55, Tryd.ntmps55
  go_wp2_with (at_builtin; refine wp_app _ _ 30 rfl rfl 5 (.int .u8 0) 1 Tryd.underlying30 info5 rfl w.heap.size rfl (World.ownsRow_nil _ _ _ _) rfl hr0.out (bs_one _) (by decide) (by rw [bs_len]; omega) (Nat.le_refl _) ?_; intro v' w1 hown1 _ hb1)
  simp only [Nat.zero_add, List.nil_append, bs_len] at hown1
  go_loopw [7, 12] (fun v i wr => ∃ k : Nat, k ≤ n ∧ i = .int .i64 k ∧ wr.ownsRow w.heap.size 5 1 v (xs.length + k) (bs (xs ++ lowN x k)) ∧ Below w.heap.size w wr) (fun _ i _ => n - (intOf i).toNat)
  case atStart => exact ⟨0, Nat.zero_le _, rfl, by simpa [lowN] using hown1, hb1⟩
  case round =>
    obtain ⟨k, hk, rfl, hown, hb⟩ := hrel
    by_cases hlt : k < n
    · have hsz := hb.size
      go_wp2_with (at_builtin; refine wp_app _ _ 30 rfl rfl 5 (.int .u8 0) 1 Tryd.underlying30 info5 rfl w.heap.size rfl (hown.alloc _) rfl (Rd.one _ _ _) (by intro y hy; simp at hy; subst hy; rfl) (by decide) (by simp; omega) (by simp; omega) ?_; intro v2 w2 hown2 _ hb2)
      go_roundw
      case rel => exact ⟨k + 1, by omega, by go_num, by simpa [lowN, bs, Nat.add_assoc] using hown2, (hb.alloc hsz _).trans hb2⟩
      case measure => simp [intOf]; omega
    · obtain rfl : k = n := by omega
      go_wp2
      go_ret
      exact ⟨_, rfl, hb, by rw [List.length_append, lowN_len]; exact hown⟩

set_option maxHeartbeats 400000 in
theorem putLe64_any (v : Value) (xs : List Int) (x : Int) (w : World) (hr : Rd w v (bs xs)) (hl : xs.length ≤ 70368744177664) (hx0 : 0 ≤ x) :
    Calls Tryd.prog 43 #[v, .int .u64 x] w fun e w' => NewB (xs ++ lowN x (64 / 8)) w e w' := by
  go_enter Tryd.func43, Tryd.ntmps43
  go_wp2_with (go_at_call 55; refine (lowu64_any _ xs _ _ _ hr hl hx0 (by omega) (by omega)).mono ?_; rintro e w' ⟨v', rfl, hb, ho⟩)
  go_ret
  exact ⟨_, rfl, hb, ho⟩
end Go.Proofs.YtmjjnaaiakchhaaDoor
