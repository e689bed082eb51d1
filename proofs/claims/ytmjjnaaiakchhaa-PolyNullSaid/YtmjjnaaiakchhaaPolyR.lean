/-
  The reference's numbers of digits, as plain functions (printed), and what they are worth.
-/
import Derived.Test.YtmjjnaaiakchhaaPolyM
import Derived.Test.YtmjjnaaiakchhaaPPolySumx2
namespace Go.Proofs.Ytmjjnaaiakchhaa
open Go.RowKit PPolySum Go.Proofs.YtmjjnaaiakchhaaW.PrintWords Go.Proofs.YtmjjnaaiakchhaaW.PrintLast Go.Proofs.YtmjjnaaiakchhaaW.PrintMore

theorem w64 {x : Int} (h0 : -9223372036854775808 ≤ x) (h1 : x ≤ 9223372036854775807) : wrap64 x = x := by unfold wrap64; omega
theorem rd_nat (xs : List Int) (i : Nat) : rd xs (i : Int) = xs.getD i 0 := by simp [rd]

/-- All between 0 and m. -/
def Upto (m : Int) (xs : List Int) : Prop := ∀ x ∈ xs, 0 ≤ x ∧ x ≤ m
theorem Upto.at_ {m : Int} {xs : List Int} (h : Upto m xs) (hm : 0 ≤ m) (i : Nat) : 0 ≤ xs.getD i 0 ∧ xs.getD i 0 ≤ m := by
  rw [List.getD_eq_getElem?_getD]
  by_cases hi : i < xs.length
  · rw [List.getElem?_eq_getElem hi]; exact h _ (List.getElem_mem hi)
  · rw [List.getElem?_eq_none (by omega)]; exact ⟨Int.le_refl _, hm⟩
theorem Upto.set {m : Int} {xs : List Int} (h : Upto m xs) (i : Nat) {y : Int} (hy : 0 ≤ y ∧ y ≤ m) : Upto m (xs.set i y) := by
  intro z hz
  rcases List.mem_or_eq_of_mem_set hz with hz | rfl
  · exact h z hz
  · exact hy
theorem Upto.mono {m m' : Int} {xs : List Int} (h : Upto m xs) (hm : m ≤ m') : Upto m' xs := fun z hz => ⟨(h z hz).1, Int.le_trans (h z hz).2 hm⟩
theorem Upto.append {m : Int} {xs ys : List Int} (h : Upto m xs) (k : Upto m ys) : Upto m (xs ++ ys) := fun z hz => by
  rcases List.mem_append.1 hz with hz | hz
  · exact h z hz
  · exact k z hz
theorem upto_zeros (m : Int) (hm : 0 ≤ m) (n : Nat) : Upto m (List.replicate n 0) := fun z hz => by
  obtain ⟨_, rfl⟩ := List.mem_replicate.1 hz
  exact ⟨Int.le_refl _, hm⟩

theorem getD_pre (pre xs : List Int) (x : Int) : (pre ++ x :: xs).getD pre.length 0 = x := by simp [List.getD_eq_getElem?_getD]
theorem set_pre (pre xs : List Int) (x y : Int) : (pre ++ x :: xs).set pre.length y = (pre ++ [y]) ++ xs := by simp
/-- One digit made greater. -/
theorem leV_set : ∀ (xs : List Int) (j : Nat) (d : Int), j < xs.length → leV (xs.set j (xs.getD j 0 + d)) = leV xs + 256 ^ j * d
  | x :: xs, 0, d, _ => by simp [leV]; omega
  | x :: xs, j + 1, d, h => by
    have ih := leV_set xs j d (by simpa using h)
    simp only [List.set_cons_succ, List.getD_cons_succ, leV, ih, Int.pow_succ]
    rw [Int.mul_add, Int.add_assoc, ← Int.mul_assoc, Int.mul_comm 256 (256 ^ j)]
  | [], j, d, h => by simp at h

/-! ### number -/
theorem number_loop (xs : List Int) (hx : IsB xs) (hl : xs.length ≤ 40) : ∀ (d i k : Nat), xs.length = i + d → d < k →
    intaglioref03_number.l0 k xs (xs.take i ++ List.replicate (40 - i) 0) i = some (xs ++ List.replicate (40 - xs.length) 0) := by
  intro d
  induction d with
  | zero =>
    intro i k h hk
    obtain ⟨k, rfl⟩ : ∃ m, k = m + 1 := ⟨k - 1, by omega⟩
    simp only [intaglioref03_number.l0]
    rw [if_neg (by omega), List.take_of_length_le (by omega), show i = xs.length by omega]
  | succ d ih =>
    intro i k h hk
    obtain ⟨k, rfl⟩ : ∃ m, k = m + 1 := ⟨k - 1, by omega⟩
    have hb := hx.at_ i
    simp only [intaglioref03_number.l0]
    rw [if_pos (by omega), if_pos (by omega), if_pos (by rw [List.length_append, List.length_take, List.length_replicate]; omega), rd_nat, w64 (by omega) (by omega), w64 (by omega) (by omega), Int.toNat_natCast]
    have e : (xs.take i ++ List.replicate (40 - i) 0).set i (xs.getD i 0) = xs.take (i + 1) ++ List.replicate (40 - (i + 1)) 0 := by
      have hti : (xs.take i).length = i := by rw [List.length_take]; omega
      have ht1 : xs.take (i + 1) = xs.take i ++ [xs.getD i 0] := by
        rw [List.take_add_one, List.getElem?_eq_getElem (by omega), List.getD_eq_getElem?_getD, List.getElem?_eq_getElem (show i < xs.length by omega)]
        rfl
      rw [List.set_append_right _ _ (by omega), hti, Nat.sub_self, show 40 - i = (40 - (i + 1)) + 1 by omega, List.replicate_succ, List.set_cons_zero, ht1]
      simp
    rw [e, show ((i : Int) + 1) = ((i + 1 : Nat) : Int) by omega]
    exact ih (i + 1) k (by omega) (by omega)
theorem number_f (xs : List Int) (hx : IsB xs) (hl : xs.length ≤ 40) : intaglioref03_number.f 50 xs = some (xs ++ List.replicate (40 - xs.length) 0) := by
  unfold intaglioref03_number.f
  rw [if_pos (by decide)]
  have := number_loop xs hx hl xs.length 0 50 (by omega) (by omega)
  simpa using this

/-! ### carry -/
def carryL : Int → List Int → List Int
  | _, [] => []
  | c, x :: xs => (c + x) % 256 :: carryL ((c + x) / 256) xs
theorem carryL_len : ∀ (xs : List Int) (c : Int), (carryL c xs).length = xs.length
  | [], _ => rfl
  | x :: xs, c => by simp [carryL, carryL_len xs]
theorem carryL_isB : ∀ (xs : List Int) (c : Int), IsB (carryL c xs)
  | [], _ => fun z hz => by simp [carryL] at hz
  | x :: xs, c => fun z hz => by
    simp only [carryL, List.mem_cons] at hz
    rcases hz with rfl | hz
    · omega
    · exact carryL_isB xs _ z hz
theorem carryL_val : ∀ (xs : List Int) (c : Int), leV (carryL c xs) % 256 ^ xs.length = (c + leV xs) % 256 ^ xs.length
  | [], c => by simp [carryL, leV, Int.emod_one]
  | x :: xs, c => by
    have ih := carryL_val xs ((c + x) / 256)
    simp only [carryL, leV, List.length_cons, Int.pow_succ]
    generalize leV (carryL ((c + x) / 256) xs) = A at *
    generalize leV xs = B at *
    generalize (256 : Int) ^ xs.length = q at *
    obtain ⟨t, ht⟩ := Int.dvd_of_emod_eq_zero (Int.emod_eq_emod_iff_emod_sub_eq_zero.1 ih)
    apply Int.emod_eq_emod_iff_emod_sub_eq_zero.2
    apply Int.emod_eq_zero_of_dvd
    refine ⟨t, ?_⟩
    have h1 : q * 256 * t = 256 * (q * t) := by rw [Int.mul_comm q 256, Int.mul_assoc]
    rw [h1, ← ht]
    omega
theorem carryL_eq (xs : List Int) (c : Int) : leV (carryL c xs) = (c + leV xs) % 256 ^ xs.length := by
  have h := leV_range (carryL_isB xs c)
  rw [carryL_len] at h
  rw [← carryL_val, Int.emod_eq_of_lt h.1 h.2]
theorem carry_loop : ∀ (xs pre : List Int) (c : Int) (k : Nat), Upto 1000000000000 xs → 0 ≤ c → c ≤ 1000000000000 → pre.length + xs.length ≤ 1000 → xs.length < k →
    intaglioref03_carry.l0 k (pre ++ xs) c pre.length = some (pre ++ carryL c xs)
  | [], pre, c, k, _, _, _, _, hk => by
    obtain ⟨k, rfl⟩ : ∃ m, k = m + 1 := ⟨k - 1, by simp at hk; omega⟩
    simp only [intaglioref03_carry.l0]
    rw [if_neg (by simp)]
    rfl
  | x :: xs, pre, c, k, hu, h0, h1, hl, hk => by
    obtain ⟨k, rfl⟩ : ∃ m, k = m + 1 := ⟨k - 1, by simp at hk; omega⟩
    have hx := hu x (by simp)
    simp only [List.length_cons] at hl hk
    simp only [intaglioref03_carry.l0]
    rw [if_pos (by simp; omega), if_pos (by omega), rd_nat, getD_pre, w64 (by omega) (by omega), Int.toNat_natCast, Int.tmod_eq_emod_of_nonneg (by omega), Int.tdiv_eq_ediv_of_nonneg (by omega), w64 (by omega) (by omega), w64 (by omega) (by omega), set_pre,
      show ((pre.length : Int) + 1) = (((pre ++ [(c + x) % 256]).length : Nat) : Int) by simp]
    rw [carry_loop xs (pre ++ [(c + x) % 256]) ((c + x) / 256) k (fun z hz => hu z (by simp [hz])) (by omega) (by omega) (by simp; omega) (by omega)]
    simp [carryL]
theorem carry_f (xs : List Int) (hu : Upto 1000000000000 xs) (hl : xs.length ≤ 100) (k : Nat) (hk : xs.length < k) : intaglioref03_carry.f k xs = some (carryL 0 xs) := by
  have := carry_loop xs [] 0 k hu (by omega) (by omega) (by simp; omega) hk
  simpa [intaglioref03_carry.f] using this

/-! ### plus -/
def sumL (xs ys : List Int) : List Int := List.zipWith (· + ·) xs ys
theorem sumL_val : ∀ (xs ys : List Int), xs.length = ys.length → leV (sumL xs ys) = leV xs + leV ys
  | [], [], _ => rfl
  | x :: xs, y :: ys, h => by
    have ih := sumL_val xs ys (by simpa using h)
    simp only [sumL, List.zipWith_cons_cons, leV] at *
    omega
theorem sumL_len (xs ys : List Int) (h : xs.length = ys.length) : (sumL xs ys).length = xs.length := by simp [sumL, h]
theorem sumL_get (xs ys : List Int) (i : Nat) (hx : i < xs.length) (hy : i < ys.length) : (sumL xs ys).getD i 0 = xs.getD i 0 + ys.getD i 0 := by
  have h : i < (List.zipWith (· + ·) xs ys).length := by rw [List.length_zipWith]; omega
  rw [sumL, List.getD_eq_getElem?_getD, List.getElem?_eq_getElem h, List.getElem_zipWith, List.getD_eq_getElem?_getD, List.getElem?_eq_getElem hx, List.getD_eq_getElem?_getD, List.getElem?_eq_getElem hy]
  rfl
/-- One more place is filled. -/
theorem fill_set (L : List Int) (i n : Nat) (hn : L.length = n) (hi : i < n) : (L.take i ++ List.replicate (n - i) 0).set i (L.getD i 0) = L.take (i + 1) ++ List.replicate (n - (i + 1)) 0 := by
  have hti : (L.take i).length = i := by rw [List.length_take]; omega
  have ht1 : L.take (i + 1) = L.take i ++ [L.getD i 0] := by
    rw [List.take_add_one, List.getElem?_eq_getElem (by omega), List.getD_eq_getElem?_getD, List.getElem?_eq_getElem (show i < L.length by omega)]
    rfl
  rw [List.set_append_right _ _ (by omega), hti, Nat.sub_self, show n - i = (n - (i + 1)) + 1 by omega, List.replicate_succ, List.set_cons_zero, ht1]
  simp
theorem fill_len (L : List Int) (i n : Nat) (hn : L.length = n) (hi : i ≤ n) : (L.take i ++ List.replicate (n - i) 0).length = n := by rw [List.length_append, List.length_take, List.length_replicate]; omega
theorem upto_sum {m : Int} {xs ys : List Int} (hx : Upto m xs) (hy : Upto m ys) : Upto (m + m) (sumL xs ys) := by
  intro z hz
  obtain ⟨i, hi, rfl⟩ := List.mem_iff_getElem.1 hz
  simp only [sumL, List.length_zipWith] at hi
  simp only [sumL, List.getElem_zipWith]
  have h1 := hx _ (List.getElem_mem (show i < xs.length by omega))
  have h2 := hy _ (List.getElem_mem (show i < ys.length by omega))
  omega
theorem plus_loop (xs ys : List Int) (hx : Upto 100000000000 xs) (hy : Upto 100000000000 ys) (hlx : xs.length = 40) (hly : ys.length = 40) : ∀ (d i k : Nat), 40 = i + d → d + 45 < k →
    intaglioref03_plus.l0 k xs ys ((sumL xs ys).take i ++ List.replicate (40 - i) 0) i = some (carryL 0 (sumL xs ys)) := by
  have hls : (sumL xs ys).length = 40 := by rw [sumL_len _ _ (by omega), hlx]
  intro d
  induction d with
  | zero =>
    intro i k h hk
    obtain ⟨k, rfl⟩ : ∃ m, k = m + 1 := ⟨k - 1, by omega⟩
    obtain rfl : i = 40 := by omega
    simp only [intaglioref03_plus.l0]
    rw [if_neg (by decide), List.take_of_length_le (by omega), Nat.sub_self, List.replicate_zero, List.append_nil, carry_f _ ((upto_sum hx hy).mono (by decide)) (by omega) k (by omega)]
    rfl
  | succ d ih =>
    intro i k h hk
    obtain ⟨k, rfl⟩ : ∃ m, k = m + 1 := ⟨k - 1, by omega⟩
    have h1 := hx.at_ (by decide) i
    have h2 := hy.at_ (by decide) i
    simp only [intaglioref03_plus.l0]
    rw [if_pos (by omega), if_pos (by omega), if_pos (by omega), if_pos (by omega), if_pos (by rw [fill_len _ _ _ hls (by omega)]; omega), rd_nat, rd_nat, w64 (by omega) (by omega), w64 (by omega) (by omega), Int.toNat_natCast,
      ← sumL_get xs ys i (by omega) (by omega), fill_set _ _ _ hls (by omega), show ((i : Int) + 1) = ((i + 1 : Nat) : Int) by omega]
    exact ih (i + 1) k (by omega) (by omega)
theorem plus_f (xs ys : List Int) (hx : Upto 100000000000 xs) (hy : Upto 100000000000 ys) (hlx : xs.length = 40) (hly : ys.length = 40) (k : Nat) (hk : 90 ≤ k) : intaglioref03_plus.f k xs ys = some (carryL 0 (sumL xs ys)) := by
  unfold intaglioref03_plus.f
  rw [if_pos (by decide)]
  exact plus_loop xs ys hx hy hlx hly 40 0 k (by omega) (by omega)

/-! ### prime -/
def primeL : List Int := 251 :: (List.replicate 15 255 ++ (3 :: List.replicate 23 0))
theorem prime_f : intaglioref03_prime.f 50 = some primeL := by kernel_rfl
theorem prime_val : leV primeL = pr := by decide +kernel

/-! ### fold -/
def low17 (xs : List Int) : List Int := xs.take 16 ++ (xs.getD 16 0 % 4 :: List.replicate 23 0)
def highL (xs : List Int) : List Int := (List.range 24).map (fun j => 5 * (xs.getD (16 + j) 0 / 4 + 64 * (xs.getD (17 + j) 0 % 4))) ++ List.replicate 16 0
theorem fold_low (xs : List Int) (hx : IsB xs) (hl : xs.length = 40) (r : Option (List Int)) (z : List Int) : ∀ (d i k : Nat), 16 = i + d → (∀ k', k ≤ k' + d + 1 → intaglioref03_fold.l1 k' xs (low17 xs) z 16 = r) → d < k →
    intaglioref03_fold.l0 k xs (xs.take i ++ List.replicate (40 - i) 0) z i = r := by
  intro d
  induction d with
  | zero =>
    intro i k h hr hk
    obtain ⟨k, rfl⟩ : ∃ m, k = m + 1 := ⟨k - 1, by omega⟩
    obtain rfl : i = 16 := by omega
    have hlen : (xs.take 16 ++ List.replicate (40 - 16) 0).length = 40 := fill_len xs 16 40 hl (by omega)
    have h16 := hx.at_ 16
    simp only [intaglioref03_fold.l0]
    rw [if_neg (by decide), if_pos (by omega), if_pos (by rw [hlen]; decide), show (16 : Int) = ((16 : Nat) : Int) from rfl, rd_nat, Int.toNat_natCast, Int.tmod_eq_emod_of_nonneg (by omega)]
    have e : (xs.take 16 ++ List.replicate (40 - 16) 0).set 16 (xs.getD 16 0 % 4) = low17 xs := by
      rw [List.set_append_right _ _ (by rw [List.length_take]; omega), List.length_take, show 16 - min 16 xs.length = 0 by omega]
      rfl
    rw [e]
    exact hr k (by omega)
  | succ d ih =>
    intro i k h hr hk
    obtain ⟨k, rfl⟩ : ∃ m, k = m + 1 := ⟨k - 1, by omega⟩
    simp only [intaglioref03_fold.l0]
    rw [if_pos (by omega), if_pos (by omega), if_pos (by omega), if_pos (by rw [fill_len _ _ _ hl (by omega)]; omega), rd_nat, w64 (by omega) (by omega), Int.toNat_natCast, fill_set _ _ _ hl (by omega), show ((i : Int) + 1) = ((i + 1 : Nat) : Int) by omega]
    exact ih (i + 1) k (by omega) (fun k' hk' => hr k' (by omega)) (by omega)
theorem highL_get (xs : List Int) (j : Nat) (h : j < 24) : (highL xs).getD j 0 = 5 * (xs.getD (16 + j) 0 / 4 + 64 * (xs.getD (17 + j) 0 % 4)) := by
  simp [highL, List.getD_eq_getElem?_getD, List.getElem?_append_left, h]
theorem highL_len (xs : List Int) : (highL xs).length = 40 := by simp [highL]
theorem highL_upto {xs : List Int} (hx : IsB xs) : Upto 1275 (highL xs) := by
  refine Upto.append (fun z hz => ?_) (upto_zeros _ (by decide) _)
  obtain ⟨j, _, rfl⟩ := List.mem_map.1 hz
  have h1 := hx.at_ (16 + j)
  have h2 := hx.at_ (17 + j)
  omega
theorem highL_take24 (xs : List Int) : (highL xs).take 24 ++ List.replicate 16 0 = highL xs := by
  rw [highL, List.take_append_of_le_length (by simp), List.take_of_length_le (by simp)]
theorem low17_upto {xs : List Int} (hx : IsB xs) : Upto 255 (low17 xs) := by
  have h16 := hx.at_ 16
  refine Upto.append (fun z hz => hx z (List.mem_of_mem_take hz)) (fun z hz => ?_)
  rcases List.mem_cons.1 hz with rfl | hz
  · omega
  · exact upto_zeros 255 (by decide) 23 z hz
theorem low17_len {xs : List Int} (hl : xs.length = 40) : (low17 xs).length = 40 := by simp [low17, hl]
theorem carryL_upto (xs : List Int) (c : Int) : Upto 255 (carryL c xs) := carryL_isB xs c
theorem fold_high (xs : List Int) (hx : IsB xs) (hl : xs.length = 40) : ∀ (d i k : Nat), 24 = i + d → d + 95 < k →
    intaglioref03_fold.l1 k xs (low17 xs) ((highL xs).take i ++ List.replicate (40 - i) 0) ((16 + i : Nat) : Int) = some (carryL 0 (sumL (low17 xs) (carryL 0 (highL xs)))) := by
  intro d
  induction d with
  | zero =>
    intro i k h hk
    obtain ⟨k, rfl⟩ : ∃ m, k = m + 1 := ⟨k - 1, by omega⟩
    obtain rfl : i = 24 := by omega
    simp only [intaglioref03_fold.l1]
    rw [if_neg (by decide), highL_take24, carry_f _ ((highL_upto hx).mono (by decide)) (by rw [highL_len]; omega) k (by rw [highL_len]; omega)]
    simp only [Option.bind_some]
    rw [plus_f _ _ ((low17_upto hx).mono (by decide)) ((carryL_upto _ _).mono (by decide)) (low17_len hl) (by rw [carryL_len, highL_len]) k (by omega)]
    rfl
  | succ d ih =>
    intro i k h hk
    obtain ⟨k, rfl⟩ : ∃ m, k = m + 1 := ⟨k - 1, by omega⟩
    have h1 := hx.at_ (16 + i)
    have h2 := hx.at_ (17 + i)
    have hfl := fill_len (highL xs) i 40 (highL_len xs) (by omega)
    simp only [intaglioref03_fold.l1]
    have e1 : wrap64 (((16 + i : Nat) : Int) + 1) = ((17 + i : Nat) : Int) := by rw [w64 (by omega) (by omega)]; omega
    have e2 : wrap64 (((16 + i : Nat) : Int) - 16) = (i : Int) := by rw [w64 (by omega) (by omega)]; omega
    rw [if_pos (by omega), e1, e2, rd_nat, rd_nat, Int.tdiv_eq_ediv_of_nonneg (by omega), Int.tmod_eq_emod_of_nonneg (by omega), w64 (x := xs.getD (16 + i) 0 / 4) (by omega) (by omega), w64 (x := 64 * (xs.getD (17 + i) 0 % 4)) (by omega) (by omega), Int.toNat_natCast]
    have hset := fill_set (highL xs) i 40 (highL_len xs) (by omega)
    rw [highL_get xs i (by omega)] at hset
    have hih := ih (i + 1) k (by omega) (by omega)
    by_cases hlast : (17 + i : Nat) < 40
    · rw [if_pos (by omega), if_pos (by omega), if_pos (by omega), if_pos (by omega), if_pos (by omega), if_pos (by omega), if_pos (by omega), w64 (x := xs.getD (16 + i) 0 / 4 + 64 * (xs.getD (17 + i) 0 % 4)) (by omega) (by omega), w64 (by omega) (by omega), hset]
      rw [show ((16 + (i + 1) : Nat) : Int) = ((17 + i : Nat) : Int) by omega] at hih
      exact hih
    · have hz : xs.getD (17 + i) 0 = 0 := by rw [List.getD_eq_getElem?_getD, List.getElem?_eq_none (by omega)]; rfl
      rw [hz] at hset
      rw [if_neg (by omega), if_pos (by omega), if_pos (by omega), if_pos (by omega), if_pos (by omega), w64 (x := xs.getD (16 + i) 0 / 4 + 64 * 0) (by omega) (by omega), w64 (by omega) (by omega)]
      rw [show (0 : Int) % 4 = 0 from rfl] at hset
      rw [hset]
      rw [show ((16 + (i + 1) : Nat) : Int) = ((17 + i : Nat) : Int) by omega] at hih
      exact hih
theorem fold_f (xs : List Int) (hx : IsB xs) (hl : xs.length = 40) : intaglioref03_fold.f 200 xs = some (carryL 0 (sumL (low17 xs) (carryL 0 (highL xs)))) := by
  unfold intaglioref03_fold.f
  rw [if_pos (by decide)]
  exact fold_low xs hx hl _ (List.replicate 40 0) 16 0 200 (by omega) (fun k' hk' => fold_high xs hx hl 24 0 k' (by omega) (by omega)) (by omega)

/-! ### what fold is worth -/
def shiftL : List Int → List Int
  | [] => []
  | x :: xs => (x / 4 + 64 * (xs.getD 0 0 % 4)) :: shiftL xs
theorem shiftL_val : ∀ {xs : List Int}, IsB xs → leV (shiftL xs) = leV xs / 4
  | [], _ => rfl
  | x :: xs, h => by
    have ih := shiftL_val (xs := xs) fun y hy => h y (by simp [hy])
    have hx := h x (by simp)
    simp only [shiftL, leV, ih]
    cases xs with
    | nil => simp [leV]
    | cons y ys =>
      simp only [List.getD_cons_zero, leV]
      omega
theorem shiftL_len : ∀ (xs : List Int), (shiftL xs).length = xs.length
  | [] => rfl
  | x :: xs => by simp [shiftL, shiftL_len xs]
theorem shiftL_get : ∀ (xs : List Int) (j : Nat), j < xs.length → (shiftL xs).getD j 0 = xs.getD j 0 / 4 + 64 * (xs.getD (j + 1) 0 % 4)
  | x :: xs, 0, _ => by simp [shiftL]
  | x :: xs, j + 1, h => by
    have := shiftL_get xs j (by simpa using h)
    simpa [shiftL] using this
  | [], j, h => by simp at h
theorem leV_mul (c : Int) : ∀ (xs : List Int), leV (xs.map fun x => c * x) = c * leV xs
  | [] => by simp [leV]
  | x :: xs => by simp only [List.map_cons, leV, leV_mul c xs]; rw [Int.mul_add, Int.mul_left_comm]
theorem highL_val {xs : List Int} (hx : IsB xs) (hl : xs.length = 40) : leV (highL xs) = 5 * (leV (xs.drop 16) / 4) := by
  have hd : IsB (xs.drop 16) := fun z hz => hx z (List.mem_of_mem_drop hz)
  have e : (List.range 24).map (fun j => 5 * (xs.getD (16 + j) 0 / 4 + 64 * (xs.getD (17 + j) 0 % 4))) = (shiftL (xs.drop 16)).map fun x => 5 * x := by
    apply List.ext_getElem (by simp [shiftL_len, hl])
    intro j h1 h2
    simp only [List.length_map, List.length_range] at h1
    have h3 := shiftL_get (xs.drop 16) j (by rw [List.length_drop]; omega)
    simp only [List.getElem_map, List.getElem_range]
    rw [List.getD_eq_getElem?_getD, List.getElem?_eq_getElem (by rw [shiftL_len, List.length_drop]; omega)] at h3
    simp only [Option.getD_some] at h3
    rw [h3]
    simp [List.getD_eq_getElem?_getD, show 16 + (j + 1) = 17 + j by omega]
  rw [highL, e, leV_append, leV_zeros, Int.mul_zero, Int.add_zero, leV_mul, shiftL_val hd]
theorem split16 {xs : List Int} (hl : 16 ≤ xs.length) : leV xs = leV (xs.take 16) + 340282366920938463463374607431768211456 * leV (xs.drop 16) := by
  have h := leV_append (xs.take 16) (xs.drop 16)
  rw [List.take_append_drop, List.length_take, Nat.min_eq_left hl] at h
  exact h
theorem low17_val {xs : List Int} (hl : xs.length = 40) : leV (low17 xs) = leV (xs.take 16) + 340282366920938463463374607431768211456 * (xs.getD 16 0 % 4) := by
  rw [low17, leV_append, List.length_take, show min 16 xs.length = 16 by omega]
  simp only [leV, leV_zeros]
  omega
theorem drop16_mod {xs : List Int} (hl : xs.length = 40) : leV (xs.drop 16) % 4 = xs.getD 16 0 % 4 := by
  have e : xs.drop 16 = xs.getD 16 0 :: xs.drop 17 := by
    rw [List.drop_eq_getElem_cons (by omega), List.getD_eq_getElem?_getD, List.getElem?_eq_getElem (by omega)]
    rfl
  rw [e]
  simp only [leV]
  omega
def foldL (xs : List Int) : List Int := carryL 0 (sumL (low17 xs) (carryL 0 (highL xs)))
theorem foldL_len {xs : List Int} (hl : xs.length = 40) : (foldL xs).length = 40 := by
  rw [foldL, carryL_len, sumL_len _ _ (by rw [low17_len hl, carryL_len, highL_len]), low17_len hl]
theorem foldL_isB (xs : List Int) : IsB (foldL xs) := carryL_isB _ _
/-- 2^130. -/
def p130 : Int := 1361129467683753853853498429727072845824
theorem foldL_val {xs : List Int} (hx : IsB xs) (hl : xs.length = 40) : leV (foldL xs) = leV xs % p130 + 5 * (leV xs / p130) := by
  have hr := leV_range hx
  have h16 := leV_range (xs := xs.take 16) fun z hz => hx z (List.mem_of_mem_take hz)
  rw [List.length_take, show min 16 xs.length = 16 by omega] at h16
  rw [foldL, carryL_eq, Int.zero_add, sumL_val _ _ (by rw [low17_len hl, carryL_len, highL_len]), carryL_eq, Int.zero_add, highL_val hx hl, low17_val hl, sumL_len _ _ (by rw [low17_len hl, carryL_len, highL_len]), low17_len hl, highL_len, ← drop16_mod hl, split16 (xs := xs) (by omega)]
  rw [hl] at hr
  rw [split16 (xs := xs) (by omega)] at hr
  generalize leV (xs.take 16) = T at *
  generalize leV (xs.drop 16) = U at *
  rw [show (256 : Int) ^ 40 = 2135987035920910082395021706169552114602704522356652769947041607822219725780640550022962086936576 by decide] at *
  rw [show (256 : Int) ^ 16 = 340282366920938463463374607431768211456 by decide] at h16
  unfold p130
  have hU : 0 ≤ U := by omega
  have hU2 : U ≤ 6277101735386680763835789423207666416102355444464034512895 := by omega
  have e1 : 5 * (U / 4) % 2135987035920910082395021706169552114602704522356652769947041607822219725780640550022962086936576 = 5 * (U / 4) := Int.emod_eq_of_lt (by omega) (by omega)
  obtain ⟨d, m, hd, hm⟩ : ∃ d m, U = 4 * d + m ∧ (0 ≤ m ∧ m < 4) := ⟨U / 4, U % 4, by omega, by omega⟩
  have e2 : U / 4 = d := by omega
  have e3 : U % 4 = m := by omega
  have e4 : (T + 340282366920938463463374607431768211456 * U) / 1361129467683753853853498429727072845824 = d := by omega
  have e5 : (T + 340282366920938463463374607431768211456 * U) % 1361129467683753853853498429727072845824 = T + 340282366920938463463374607431768211456 * m := by omega
  rw [e1, e2, e3, e4, e5]
  exact Int.emod_eq_of_lt (by omega) (by omega)

/-! ### below -/
theorem take_snoc (xs : List Int) (n : Nat) (h : n < xs.length) : xs.take (n + 1) = xs.take n ++ [xs.getD n 0] := by
  rw [List.take_add_one, List.getElem?_eq_getElem h, List.getD_eq_getElem?_getD, List.getElem?_eq_getElem h]
  rfl
theorem leV_snoc (xs : List Int) (n : Nat) (h : n < xs.length) : leV (xs.take (n + 1)) = leV (xs.take n) + 256 ^ n * xs.getD n 0 := by
  rw [take_snoc xs n h, leV_append, List.length_take, Nat.min_eq_left (by omega)]
  simp [leV]
theorem below_loop (xs ys : List Int) (hx : IsB xs) (hy : IsB ys) (hlx : xs.length = 40) (hly : ys.length = 40) : ∀ (n k : Nat), n ≤ 40 → n < k →
    intaglioref03_below.l0 k xs ys ((n : Int) - 1) = some (decide (leV (xs.take n) < leV (ys.take n))) := by
  intro n
  induction n with
  | zero =>
    intro k hn hk
    obtain ⟨k, rfl⟩ : ∃ m, k = m + 1 := ⟨k - 1, by omega⟩
    simp only [intaglioref03_below.l0]
    rw [if_neg (by omega)]
    simp [leV]
  | succ n ih =>
    intro k hn hk
    obtain ⟨k, rfl⟩ : ∃ m, k = m + 1 := ⟨k - 1, by omega⟩
    have e : ((n + 1 : Nat) : Int) - 1 = (n : Int) := by omega
    have h1 := hx.at_ n
    have h2 := hy.at_ n
    have r1 := leV_range (xs := xs.take n) fun z hz => hx z (List.mem_of_mem_take hz)
    have r2 := leV_range (xs := ys.take n) fun z hz => hy z (List.mem_of_mem_take hz)
    rw [List.length_take, Nat.min_eq_left (by omega)] at r1 r2
    simp only [intaglioref03_below.l0]
    rw [e, if_pos (by omega), if_pos (by omega), if_pos (by omega), if_pos (by omega), rd_nat, rd_nat, leV_snoc xs n (by omega), leV_snoc ys n (by omega)]
    generalize leV (xs.take n) = X at *
    generalize leV (ys.take n) = Y at *
    generalize xs.getD n 0 = x at *
    generalize ys.getD n 0 = y at *
    by_cases hxy : x = y
    · subst hxy
      rw [if_pos rfl, w64 (by omega) (by omega), ih k (by omega) (by omega)]
      congr 1
      apply decide_eq_decide.2
      omega
    · rw [if_neg hxy]
      congr 1
      apply decide_eq_decide.2
      generalize (256 : Int) ^ n = q at *
      constructor
      · intro h
        have h3 : q * x + q ≤ q * y := by
          have : q * (x + 1) ≤ q * y := Int.mul_le_mul_of_nonneg_left (by omega) (by omega)
          rw [Int.mul_add, Int.mul_one] at this
          exact this
        omega
      · intro h
        rcases Int.lt_or_gt_of_ne hxy with h4 | h4
        · exact h4
        · exfalso
          have h3 : q * y + q ≤ q * x := by
            have : q * (y + 1) ≤ q * x := Int.mul_le_mul_of_nonneg_left (by omega) (by omega)
            rw [Int.mul_add, Int.mul_one] at this
            exact this
          omega
theorem below_f (xs ys : List Int) (hx : IsB xs) (hy : IsB ys) (hlx : xs.length = 40) (hly : ys.length = 40) : intaglioref03_below.f 50 xs ys = some (decide (leV xs < leV ys)) := by
  have h := below_loop xs ys hx hy hlx hly 40 50 (by omega) (by omega)
  rw [List.take_of_length_le (by omega), List.take_of_length_le (by omega)] at h
  exact h
end Go.Proofs.Ytmjjnaaiakchhaa
