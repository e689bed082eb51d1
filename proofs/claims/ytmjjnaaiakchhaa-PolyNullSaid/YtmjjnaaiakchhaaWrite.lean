/-
  A Mac, and what is written to it.
-/
import Derived.Test.YtmjjnaaiakchhaaFill
import Derived.Test.YtmjjnaaiakchhaaPolyV
import Derived.Test.YtmjjnaaiakchhaaOwn
namespace Go.Proofs.Ytmjjnaaiakchhaa
open Go.RowKit

/-- A Mac of a key, of what was written by now. -/
structure MacAt (w : World) (g : Nat) (key xs : List Int) (held : Value) (r0 r1 s0 s1 s2 a0 a1 a2 : Int) : Prop where
  blk : Blk w g (macC held r0 r1 s0 s1 s2 a0 a1 a2 true) 51
  held : Part w (g + 1) 5 held (bs (xs.drop (16 * (xs.length / 16))))
  r : IsW1 r0 ∧ IsW1 r1
  rv : leW [r0, r1] = leV (clampL key)
  s : IsW [s0, s1, s2]
  sv : leW [s0, s1, s2] = leV ((key.drop 16).take 16)
  acc : AccOk [a0, a1, a2] (hK (leV (clampL key)) xs (xs.length / 16))
def Mac (w : World) (g : Nat) (key xs : List Int) (S : Nat → Prop) : Prop := ∃ held r0 r1 s0 s1 s2 a0 a1 a2, MacAt w g key xs held r0 r1 s0 s1 s2 a0 a1 a2 ∧ ∀ b, hold held b → S b
theorem Mac.lt {w : World} {g : Nat} {key xs : List Int} {S : Nat → Prop} (h : Mac w g key xs S) : g < w.heap.size := by
  obtain ⟨_, _, _, _, _, _, _, _, _, h, _⟩ := h
  exact h.blk.lt
theorem Mac.stay {w w' : World} {g : Nat} {key xs : List Int} {S : Nat → Prop} (h : Mac w g key xs S) (hb : Below w.heap.size w w') : Mac w' g key xs S := by
  obtain ⟨a, b, c, d, e, f, i, j, k, h, hs⟩ := h
  exact ⟨a, b, c, d, e, f, i, j, k, ⟨h.blk.stay hb, h.held.stay hb, h.r, h.rv, h.s, h.sv, h.acc⟩, hs⟩
/-- Its memory is there already. -/
theorem Mac.clip {w : World} {g : Nat} {key xs : List Int} {S : Nat → Prop} (h : Mac w g key xs S) : Mac w g key xs (fun b => S b ∧ g < b ∧ b < w.heap.size) := by
  obtain ⟨a, b, c, d, e, f, i, j, k, h, hs⟩ := h
  exact ⟨a, b, c, d, e, f, i, j, k, h, fun x hx => ⟨hs x hx, by obtain ⟨o, n, c', e'⟩ := hx; exact h.held.lt _ _ _ _ e'⟩⟩
theorem Mac.turns {w w' : World} {g : Nat} {key xs : List Int} {S T : Nat → Prop} (h : Mac w g key xs S) (ht : Turns T w w') (hg : ¬ T g) (hT : ∀ b, S b → ¬ T b) : Mac w' g key xs S := by
  obtain ⟨a, b, c, d, e, f, i, j, k, h, hs⟩ := h
  refine ⟨a, b, c, d, e, f, i, j, k, ⟨h.blk.turns ht hg, h.held.move fun g' off n c' e' => ?_, h.r, h.rv, h.s, h.sv, h.acc⟩, hs⟩
  exact ht.block g' (h.held.lt _ _ _ _ e').2 (hT _ (hs _ ⟨_, _, _, e'⟩))
theorem Mac.mono {w : World} {g : Nat} {key xs : List Int} {S T : Nat → Prop} (h : Mac w g key xs S) (hT : ∀ b, S b → T b) : Mac w g key xs T := by
  obtain ⟨a, b, c, d, e, f, i, j, k, h, hs⟩ := h
  exact ⟨a, b, c, d, e, f, i, j, k, h, fun x hx => hT x (hs x hx)⟩
theorem clampV {key : List Int} (hk : IsB key) : leV (clampL key) < 21267647932558653966460912964485513216 := by
  have hb := clampL_isB hk
  have hl := clampL_len key
  have e : clampL key = (clampL key).take 15 ++ [(clampL key).getD 15 0] := by
    rw [← take_snoc (clampL key) 15 (by omega), List.take_of_length_le (by omega)]
  have h15 := clampL_get key 15 (by decide)
  rw [if_pos (by decide)] at h15
  have hx := hk.at_ 15
  have h1 := leV_range (xs := (clampL key).take 15) fun z hz => hb z (List.mem_of_mem_take hz)
  rw [List.length_take, hl, show min 15 16 = 15 from rfl] at h1
  rw [e, leV_append, List.length_take, hl, show min 15 16 = 15 from rfl, h15]
  simp only [leV]
  have e15 : (256 : Int) ^ 15 = 1329227995784915872903807060280344576 := by decide
  rw [e15] at *
  omega

set_option maxRecDepth 100000 in
set_option maxHeartbeats 4000000 in
theorem write_any (w : World) (g : Nat) (key xs ys : List Int) (v : Value) {S : Nat → Prop} (hkb : IsB key) (hm : Mac w g key xs S) (hd : Rd w v (bs ys)) (hys : IsB ys) (hxs : IsB xs) (hl : xs.length + ys.length ≤ 1000000000000) :
    Calls Try.prog 15 #[.pointer (some ⟨g, 0, none⟩), v] w fun e w' => e = .returned (.tuple #[]) ∧ Mac w' g key (xs ++ ys) (fun b => S b ∨ w.heap.size ≤ b) ∧ Turns (fun b => b = g ∨ S b) w w' := by
  obtain ⟨held, r0, r1, s0, s1, s2, a0, a1, a2, hm, hS⟩ := hm
  have HS := Lib.hid hS
  clear hS
  obtain ⟨q, hq⟩ : ∃ q, xs.length / 16 = q := ⟨_, rfl⟩
  have hqx : 16 * q ≤ xs.length := by omega
  have hall : xs.drop (16 * q) ++ ys = (xs ++ ys).drop (16 * q) := by rw [List.drop_append_of_le_length hqx]
  have hheld := hm.held
  rw [hq] at hheld
  have FI := Lib.hid (fill_any w g held r0 r1 s0 s1 s2 a0 a1 a2 true (xs.drop (16 * q)) ys v hm.blk hheld hd (by rw [List.length_drop]; omega))
  rw [hall] at FI
  have HM := Lib.hid hm
  have m9 := hm.blk.at_ 9 rfl
  have HCV := Lib.hid (clampV hkb)
  have HXY := Lib.hid (show IsB (xs ++ ys) from fun z hz => by
    rcases List.mem_append.1 hz with hz | hz
    · exact hxs z hz
    · exact hys z hz)
  have HQ := Lib.hid (fun _ : Unit => hq)
  have hql : ((xs ++ ys).drop (16 * q)).length = xs.length + ys.length - 16 * q := by rw [List.length_drop, List.length_append]
  obtain ⟨n, hn⟩ : ∃ n, ((xs ++ ys).drop (16 * q)).length / 16 = n := ⟨_, rfl⟩
  have hn2 : (xs.length + ys.length - 16 * q) / 16 = n := by rw [← hql]; exact hn
  have HN := Lib.hid (fun _ : Unit => hn)
  have hnq : (xs ++ ys).length / 16 = q + n := by rw [List.length_append]; omega
  have HNQ := Lib.hid (fun _ : Unit => hnq)
  clear hm hd hkb hheld hall hq hn hql hnq
  go_enter Try.func15, Try.ntmps15
  go_upto_region 1 with fail
  go_wp2_with (go_at_call 25; refine FI.out.mono ?_; rintro e w2 ⟨ov, w1, _, hv, ps, rfl, inv, htu, hhb⟩; have hlo : ∀ w', (Builtin.len_ #[30] 3 #[ov]).run Try.prog w' = .ok (goInt n) w' := (by
    have h1 := inv.out
    have h2 := len_fact (P := Try.prog) (Rd.of_own h1) (t := 30) (ty := 3) (by kernel_rfl)
    have h3 := h1.1
    rw [Nat.mul_one] at h3
    rw [h3, HN.out ()] at h2
    exact h2))
  have HI := Lib.hid inv
  have HT := Lib.hid htu
  have HHB := Lib.hid hhb
  clear hhb
  have ha0 : Blk w2 g (macC hv r0 r1 s0 s1 s2 a0 a1 a2 true) 51 ∧ AccOk [a0, a1, a2] (hK (leV (clampL key)) (xs ++ ys) (q + 0)) := by
    refine ⟨inv.mac, ?_⟩
    have := HM.out.acc
    rw [HQ.out ()] at this
    rwa [Nat.add_zero, hK_append _ _ _ _ hqx]
  have HA0 := Lib.hid ha0
  clear inv htu ha0 m9
  go_loopw [21] (fun x wr => ∃ (j : Nat) (a0 a1 a2 : Int), j ≤ n ∧ x = .int .i64 j ∧ (Blk wr g (macC hv r0 r1 s0 s1 s2 a0 a1 a2 true) 51 ∧ AccOk [a0, a1, a2] (hK (leV (clampL key)) (xs ++ ys) (q + j))) ∧ Turns (fun b => b = g) w2 wr) (fun x _ => n - (intOf x).toNat)
  case atStart => exact ⟨0, a0, a1, a2, Nat.zero_le _, rfl, HA0.out, Turns.refl _ _⟩
  case round =>
    obtain ⟨j, b0, b1, b2, hj, rfl, hba, htr⟩ := hrel
    have HBA := Lib.hid hba
    have HTR := Lib.hid htr
    clear hba htr HA0
    by_cases hlt : j < n
    · have hio := HI.out.out
      rw [HN.out ()] at hio
      rcases ownsRow_cases hio with ⟨rfl, hn0, _⟩ | ⟨go, cap, rfl, hgo, hgol, hnc, hcm, hcell, _, _⟩
      · omega
      have hpl : ps.length = n := by have := hio.1; rw [Nat.mul_one] at this; exact this
      obtain ⟨pv, hpv⟩ : ∃ pv, ps[j]? = some pv := ⟨_, List.getElem?_eq_getElem (by omega)⟩
      have hgg : go ≠ g := by
        have := HM.out.blk.lt
        have := HI.out.lo
        omega
      have e1 : wr.cell? ⟨go, j, none⟩ = some pv := HTR.out.cell hgg (hcell j pv hpv)
      obtain ⟨hpp, hpx⟩ := HI.out.pcs j pv hpv
      have hpr : Rd wr pv (bs (((xs ++ ys).drop (16 * (q + j))).take 16)) := by
        have h1 := hpp.turns (HI.out.tu.trans HTR.out) (fun b hb => by omega)
        have h2 := h1.rd
        rwa [List.drop_drop, ← Nat.mul_add] at h2
      have hpb : IsB (((xs ++ ys).drop (16 * (q + j))).take 16) := fun z hz => HXY.out z (List.mem_of_mem_drop (List.mem_of_mem_take hz))
      have ST := Lib.hid (step_any wr g hv r0 r1 s0 s1 s2 b0 b1 b2 true _ pv _ HBA.out.1 HM.out.r (by rw [HM.out.rv]; exact HCV.out) HBA.out.2 hpr hpb (by rw [List.length_take]; omega))
      rw [HM.out.rv] at ST
      unfold maxLen at hcm
      clear hio hpp hpr hpb hpv hcell
      go_wp2_with (go_at_call 26; refine ST.out.mono ?_; rintro e w3 ⟨rfl, n0, n1, n2, hac, hbk, hts⟩)
      refine ⟨⟨j + 1, n0, n1, n2, by omega, by go_num, ⟨hbk, ?_⟩, HTR.out.trans hts⟩, by simp [intOf]; omega⟩
      rw [← Nat.add_assoc]
      exact hac
    · obtain rfl : j = n := by omega
      go_wp2_with fail
      go_end0
      refine ⟨rfl, ⟨hv, r0, r1, s0, s1, s2, b0, b1, b2, ⟨HBA.out.1, ?_, HM.out.r, HM.out.rv, HM.out.s, HM.out.sv, ?_⟩, fun b hb => (HHB.out b hb).elim .inr fun h => .inl (HS.out b h)⟩, (HT.out.mono fun b hb => hb.imp_right (HS.out b)).trans (HTR.out.mono fun b hb => .inl hb)⟩
      · have h1 := HI.out.held.turns (HI.out.tu.trans HTR.out) (fun b hb => by omega)
        rw [HN.out (), List.drop_drop, ← Nat.mul_add] at h1
        rw [HNQ.out ()]
        exact h1
      · rw [HNQ.out ()]
        exact HBA.out.2
end Go.Proofs.Ytmjjnaaiakchhaa
