/-
  The reference's numbers: contracts.
-/
import Derived.Test.YtmjjnaaiakchhaaPolyR
import Derived.Test.YtmjjnaaiakchhaaKd
namespace Go.Proofs.Ytmjjnaaiakchhaa
open Go.RowKit PPolySum Go.Proofs.YtmjjnaaiakchhaaW.PrintWords Go.Proofs.YtmjjnaaiakchhaaW.PrintLast Go.Proofs.YtmjjnaaiakchhaaW.PrintMore

def ni (xs : List Int) : List Value := xs.map (Value.int .i64)
theorem ni_len (xs : List Int) : (ni xs).length = xs.length := by simp [ni]
/-- A number of forty digits. -/
structure Num (w : World) (v : Value) (xs : List Int) : Prop where
  rd : Rd w v (ni xs)
  len : xs.length = 40
  isB : IsB xs
theorem Num.stay {w w' : World} {v : Value} {xs : List Int} (h : Num w v xs) (hb : Below w.heap.size w w') : Num w' v xs := ⟨h.rd.stay hb (Nat.le_refl _), h.len, h.isB⟩
/-- 256^40. -/
def big40 : Int := 2135987035920910082395021706169552114602704522356652769947041607822219725780640550022962086936576
theorem big40_eq : (256 : Int) ^ 40 = big40 := by decide
/-- The answer is a number worth N, in new memory. -/
def NumRes (N : Int) (w : World) (e : Ending) (w' : World) : Prop := ∃ v ys, e = .returned v ∧ Num w' v ys ∧ leV ys = N ∧ Below w.heap.size w w'
theorem Drawn0.below_ {w w' : World} (h : Drawn0 w w') : Below w.heap.size w w' := by
  exact Drawn0.below h
theorem Num.out {w : World} {v : Value} {xs : List Int} (h : Num w v xs) : ∃ A c, v = .slice A xs.length c ∧ xs.length ≤ c ∧ (Kd.int .i64).C w A xs.length xs := by
  obtain ⟨A, c, hv, h1, _⟩ := id h.rd
  rw [ni_len] at hv h1
  subst hv
  exact ⟨A, c, rfl, h1, kd_of_rd (c := c) h.rd⟩

theorem number_any (w : World) (v : Value) (xs : List Int) (hr : Rd w v (bs xs)) (hx : IsB xs) (hl : xs.length ≤ 40) : Calls Try.prog 31 #[v] w (NumRes (leV xs) w) := by
  obtain ⟨A, c, rfl, h1, h2, h3, h4⟩ := id hr
  rw [bs_len] at *
  refine (intaglioref03_number.calls 50 A c xs _ w (kd_of_rd hr) h1 (number_f xs hx hl)).mono ?_
  rintro e w' ⟨v, rfl, h5, h6⟩
  have hz : IsB (xs ++ List.replicate (40 - xs.length) 0) := fun z hz => by
    rcases List.mem_append.1 hz with hz | hz
    · exact hx z hz
    · obtain ⟨_, rfl⟩ := List.mem_replicate.1 hz; exact ⟨Int.le_refl _, by decide⟩
  refine ⟨v, _, rfl, ⟨rd_of_kd h5, by simp; omega, hz⟩, ?_, h6⟩
  rw [leV_append, leV_zeros, Int.mul_zero, Int.add_zero]
theorem plus_any (w : World) (u v : Value) (xs ys : List Int) (hu : Num w u xs) (hv : Num w v ys) (hs : leV xs + leV ys < big40) : Calls Try.prog 35 #[u, v] w (NumRes (leV xs + leV ys) w) := by
  obtain ⟨A, c, rfl, h1, h2⟩ := hu.out
  obtain ⟨A', c', rfl, h1', h2'⟩ := hv.out
  refine (intaglioref03_plus.calls 100 A c xs A' c' ys _ w h2 h1 h2' h1' (plus_f xs ys (Upto.mono (m := 255) hu.isB (by decide)) (Upto.mono (m := 255) hv.isB (by decide)) hu.len hv.len 100 (by omega))).mono ?_
  rintro e w' ⟨v, rfl, h5, h6⟩
  have hl : (sumL xs ys).length = 40 := by rw [sumL_len _ _ (by rw [hu.len, hv.len]), hu.len]
  refine ⟨v, _, rfl, ⟨rd_of_kd h5, by rw [carryL_len, hl], carryL_isB _ _⟩, ?_, h6⟩
  have r1 := leV_range hu.isB
  have r2 := leV_range hv.isB
  rw [carryL_eq, Int.zero_add, sumL_val _ _ (by rw [hu.len, hv.len]), hl, big40_eq]
  exact Int.emod_eq_of_lt (by omega) hs
theorem fold_any (w : World) (u : Value) (xs : List Int) (hu : Num w u xs) : Calls Try.prog 43 #[u] w (NumRes (leV xs % p130 + 5 * (leV xs / p130)) w) := by
  obtain ⟨A, c, rfl, h1, h2⟩ := hu.out
  refine (intaglioref03_fold.calls 200 A c xs _ w h2 h1 (fold_f xs hu.isB hu.len)).mono ?_
  rintro e w' ⟨v, rfl, h5, h6⟩
  exact ⟨v, _, rfl, ⟨rd_of_kd h5, foldL_len hu.len, foldL_isB _⟩, foldL_val hu.isB hu.len, h6⟩
theorem prime_any (w : World) : Calls Try.prog 44 #[] w (NumRes pr w) := by
  refine (intaglioref03_prime.calls 50 _ w prime_f).mono ?_
  rintro e w' ⟨v, rfl, h5, h6⟩
  exact ⟨v, _, rfl, ⟨rd_of_kd h5, by decide, fun z hz => by
    have : ∀ z ∈ primeL, 0 ≤ z ∧ z ≤ 255 := by decide
    exact this z hz⟩, prime_val, h6⟩
theorem below_any (w : World) (u v : Value) (xs ys : List Int) (hu : Num w u xs) (hv : Num w v ys) : Calls Try.prog 45 #[u, v] w fun e w' => e = .returned (.bool (decide (leV xs < leV ys))) ∧ Below w.heap.size w w' := by
  obtain ⟨A, c, rfl, h1, h2⟩ := hu.out
  obtain ⟨A', c', rfl, h1', h2'⟩ := hv.out
  refine (intaglioref03_below.calls 50 A c xs A' c' ys _ w h2 h1 h2' h1' (below_f xs ys hu.isB hv.isB hu.len hv.len)).mono ?_
  rintro e w' ⟨rfl, h6⟩
  exact ⟨rfl, Drawn0.below_ h6⟩
theorem info3 : (Try.prog.info? 3).map (fun i => (i.zero, i.size, i.bytes)) = some (some (.int .i64 0), 1, 8) := by kernel_rfl
theorem kd_of_own {w : World} {base e : Nat} {v : Value} {n : Nat} {k : IntKind} {xs : List Int} (h : w.ownsRow base e 1 v n (xs.map (Value.int k))) (hn : n = xs.length) : Kd.R (Kd.int k) e w base (fun _ => True) v xs := by
  subst hn
  refine ⟨fun _ _ => trivial, _, h, ?_, fun j p hj => ?_⟩
  · rw [List.length_map]
    show _ = _ * 1
    omega
  · obtain ⟨hlt, rfl⟩ := List.getElem?_eq_some_iff.1 hj
    show ((xs.map (Value.int k)).drop (j * 1)).take 1 = _
    rw [Nat.mul_one, List.drop_eq_getElem_cons (by rw [List.length_map]; exact hlt), List.take_succ_cons, List.take_zero, List.getElem_map]
/-- carry, of a row of the call's own. -/
theorem carry_any (w0 w : World) (hB : Below w0.heap.size w0 w) (v : Value) (xs : List Int) (hl : xs.length = 40) (hu : Upto 1000000000000 xs) (ho : w.ownsRow w0.heap.size 3 1 v 40 (ni xs)) :
    Calls Try.prog 46 #[v] w fun e w' => ∃ v' ys, e = .returned v' ∧ Num w' v' ys ∧ leV ys = leV xs % big40 ∧ Below w0.heap.size w0 w' := by
  refine (intaglioref03_carry.calls 50 _ v xs _ w0 w hB (kd_of_own ho hl.symm) (carry_f xs hu (by omega) 50 (by omega))).mono ?_
  rintro e w' ⟨v', rfl, h5, h6, _⟩
  refine ⟨v', _, rfl, ⟨rd_of_kd h5, by rw [carryL_len, hl], carryL_isB _ _⟩, ?_, h6⟩
  rw [carryL_eq, Int.zero_add, hl, big40_eq]
end Go.Proofs.Ytmjjnaaiakchhaa
