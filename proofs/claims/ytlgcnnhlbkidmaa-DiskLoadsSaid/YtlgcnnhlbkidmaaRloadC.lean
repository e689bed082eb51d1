/-
  The reference's Load.
-/
import Derived.Test.YtlgcnnhlbkidmaaRload
namespace Go.Proofs.Ytlgcnnhlbkidmaa
open Go.RowKit

/-- An element of a row of files, as it lies in each later world. -/
theorem FR.elem {w : World} {A : Option Addr} {n c : Nat} {l : List FileA} (h : FR w (.slice A n c) l) {k : Nat} (hk : k < l.length) :
    ∃ b o xn Ax nx cx xd xk, A = some ⟨b, o, none⟩ ∧ n = l.length ∧ l[k]? = some ⟨xn, .slice Ax nx cx, xd, xk⟩ ∧ (bs xd).length = nx ∧ xn.size ≤ maxLen ∧ (-9223372036854775808 ≤ xk ∧ xk ≤ 9223372036854775807) ∧
      (∀ w', Below w.heap.size w w' → w'.cell? ⟨b, o + k * 3, none⟩ = some (.string xn)) ∧ (∀ w', Below w.heap.size w w' → w'.cell? ⟨b, o + k * 3 + 1, none⟩ = some (.slice Ax nx cx)) ∧ (∀ w', Below w.heap.size w w' → w'.cell? ⟨b, o + k * 3 + 2, none⟩ = some (.int .i64 xk)) := by
  obtain ⟨X, hX⟩ : ∃ X, l[k]? = some X := ⟨_, List.getElem?_eq_getElem hk⟩
  obtain ⟨b0, o0, c0, hu, q0, q1, q2⟩ := h.at_ k X hX
  have hg := h.good X (List.mem_of_getElem? hX)
  obtain ⟨xn, xv, xd, xk⟩ := X
  obtain ⟨Ax, cx, hxv, _⟩ := id hg.rd
  simp only at hxv q0 q1 q2
  subst hxv
  cases hu
  exact ⟨b0, o0, xn, Ax, _, cx, xd, xk, rfl, rfl, hX, rfl, hg.nm, hg.k, fun w' hb => cell_stay hb q0, fun w' hb => cell_stay hb q1, fun w' hb => cell_stay hb q2⟩
theorem Rd.mv {S : Nat → Prop} {w w' : World} {v : Value} {xs : List Value} (h : Rd w v xs) (k : Turns S w w') (hn : xs ≠ [] → ∀ b, hold v b → ¬ S b) : Rd w' v xs := by
  by_cases hx : xs = []
  · obtain ⟨A, c, rfl, h1, h2, h0, _⟩ := h
    exact ⟨A, c, rfl, h1, h2, h0, .inl hx⟩
  · exact h.turns k fun b o n c hv => hn hx b ⟨o, n, c, hv⟩
theorem owns3_lt {w : World} {base n : Nat} {e : TypeId} {v : Value} {xs : List Value} (h : w.ownsRow base e 3 v n xs) {b : Nat} (hb : hold v b) : base ≤ b := by
  obtain ⟨o, m, c, rfl⟩ := hb
  rcases h.2 with ⟨h1, _⟩ | ⟨g, cap, cur, h1, h2, h3, _⟩
  · cases h1
  · cases h1
    exact h2
theorem owns3_up {w : World} {base n : Nat} {e : TypeId} {v : Value} {xs : List Value} (h : w.ownsRow base e 3 v n xs) {b : Nat} (hb : hold v b) : b < w.heap.size := by
  obtain ⟨o, m, c, rfl⟩ := hb
  rcases h.2 with ⟨h1, _⟩ | ⟨g, cap, cur, h1, h2, h3, _⟩
  · cases h1
  · cases h1
    have h4 := h3
    exact (Array.getElem?_eq_some_iff.1 h4).1
theorem FGood.turns {S : Nat → Prop} {w w' : World} {f : FileA} (h : FGood w f) (k : Turns S w w') (hn : f.data ≠ [] → ∀ b, hold f.v b → ¬ S b) : FGood w' f :=
  ⟨h.nm, h.rd.mv k (fun hx => hn fun e => hx (by rw [e]; rfl)), h.isB, h.k⟩
theorem FR.turns {S : Nat → Prop} {w w' : World} {u : Value} {l : List FileA} (h : FR w u l) (k : Turns S w w') (hu : ∀ b, hold u b → ¬ S b) (hf : ∀ f ∈ l, f.data ≠ [] → ∀ b, hold f.v b → ¬ S b) : FR w' u l := by
  refine ⟨h.sl, fun i f hi => ?_, fun f hm => (h.good f hm).turns k (hf f hm)⟩
  obtain ⟨b, o, c, h1, h2, h3, h4⟩ := h.at_ i f hi
  have hn := hu b ⟨_, _, _, h1⟩
  exact ⟨b, o, c, h1, k.cell hn h2, k.cell hn h3, k.cell hn h4⟩
def RLoadRes (w : World) (gx : Nat) (pv lv : Value) (r : Int × List FileA) (e : Ending) (w' : World) : Prop :=
  e = .returned (.int .i64 r.1) ∧ ∃ lv', Blk w' gx [pv, lv'] 110 ∧ FR w' lv' r.2 ∧ Turns (fun b => b = gx) w w' ∧ ∀ b, hold lv' b → (w.heap.size ≤ b ∧ b < w'.heap.size) ∨ hold lv b
set_option maxRecDepth 100000 in
set_option maxHeartbeats 2000000 in
theorem rload_any (w : World) (gx : Nat) (pv : Value) (lv : Value) (old : List FileA) (u : Value) (l : List FileA) (hb : Blk w gx [pv, lv] 110) (ho : FR w lv old) (hr : FR w u l) (hl : l.length ≤ 200) (hnu : ∀ f ∈ l, f.data ≠ [] → ∀ k, hold f.v k → k ≠ gx) :
    Calls Try.prog 63 #[.pointer (some ⟨gx, 0, none⟩), u] w (RLoadRes w gx pv lv (rloadS old l)) := by
  obtain ⟨A, c, rfl, hc1, hc2, _⟩ := hr.sl
  obtain ⟨n, hn⟩ : ∃ n, l.length = n := ⟨_, rfl⟩
  rw [hn] at hr hc1 hl ⊢
  have HB := Lib.hid hb; have HO := Lib.hid ho; have HR := Lib.hid hr; have HN := Lib.hid (fun _ : Unit => hn)
  have HNU := Lib.hid hnu
  have same : ∀ w', Below w.heap.size w w' → ∀ z, RLoadRes w gx pv lv (z, old) (.returned (.int .i64 z)) w' := fun w' hw z => ⟨rfl, lv, hb.stay hw, ho.stay hw (Nat.le_refl _), Turns.of_below hw, fun _ h => .inr h⟩
  have HS := Lib.hid same
  clear hb ho hr hn hnu same
  go_enter Try.func63, Try.ntmps63
  go_wp2_with fail
  go_loopw [5, 6] (fun x y wr => ∃ (k : Nat) (acc : List FileA), k ≤ n ∧ y = .int .i64 k ∧ FR wr x acc ∧ Below w.heap.size w wr ∧ rl acc (l.drop k) = rl [] l ∧ acc.length ≤ k ∧ (∀ f ∈ acc, f ∈ l) ∧ (∀ b, hold x b → w.heap.size ≤ b ∧ b < wr.heap.size)) (fun _ y _ => n - (intOf y).toNat)
  case atStart => exact ⟨0, [], Nat.zero_le _, rfl, ⟨⟨none, 0, rfl, Nat.le_refl _, Nat.zero_le _, fun _ => rfl⟩, fun i f hf => by simp at hf, fun f hf => by simp at hf⟩, Below.refl _ _, rfl, Nat.le_refl _, (fun f hf => by simp at hf), fun b hb => by obtain ⟨_, _, _, hb⟩ := hb; cases hb⟩
  case round =>
    obtain ⟨k, acc, hk, rfl, hfr, hbw, hrl, hlen, hsub, hfre⟩ := hrel
    obtain ⟨wo, rfl⟩ : ∃ wo : World, wo = wr := ⟨_, rfl⟩
    have HFR := Lib.hid hfr; have HBW := Lib.hid hbw; have HRL := Lib.hid (fun _ : Unit => hrl); have HLEN := Lib.hid hlen; have HSUB := Lib.hid hsub; have HFRE := Lib.hid hfre
    clear hfr hrl hsub hfre
    by_cases hlt : k < n
    · obtain ⟨b, o, xn, Ax, nx, cx, xd, xk, hA, hn', hX, hnx, hxn, hxk, kq0, kq1, kq2⟩ := HR.out.elem (k := k) (by rw [HN.out ()]; exact hlt)
      subst hA
      have hdr : l.drop k = ⟨xn, .slice Ax nx cx, xd, xk⟩ :: l.drop (k + 1) := by
        obtain ⟨h1, h2⟩ := List.getElem?_eq_some_iff.1 hX
        rw [List.drop_eq_getElem_cons h1, h2]
      have hgX := HR.out.good _ (List.mem_of_getElem? hX)
      have q0 := kq0 wo hbw
      have q1 := kq1 wo hbw
      have q2 := kq2 wo hbw
      have hnb : xd.length = nx := by rw [← hnx, bs_len]
      have hnm := hgX.rd.len
      rw [bs_len] at hnm
      simp only [hnb] at hnm
      have HDR := Lib.hid (fun _ : Unit => hdr); have HX := Lib.hid (fun _ : Unit => hX); have HGX := Lib.hid hgX; have HNB := Lib.hid (fun _ : Unit => hnb)
      clear hn' hX hnx kq0 kq1 kq2 hdr hgX hnb
      have hA5 : Below wo.heap.size wo (wo.alloc (.cells #[.string xn, .slice Ax nx cx, .int .i64 xk] 107)) := bw_al (Below.refl _ _) (Nat.le_refl _) _
      have NM := Lib.hid (fun w' => rnamed_any xn w')
      obtain ⟨nb, hnb⟩ : ∃ b, namedB xn = b := ⟨_, rfl⟩
      rw [hnb] at NM
      have hbad : okF ⟨xn, .slice Ax nx cx, xd, xk⟩ = false → rloadS old l = (1, old) := fun hbad => by
        have h1 := HRL.out ()
        rw [HDR.out ()] at h1
        simp only [rl, hbad, Bool.false_eq_true, if_false] at h1
        unfold rloadS
        rw [← h1]
      have hok : okF ⟨xn, .slice Ax nx cx, xd, xk⟩ = (nb && decide (nx ≤ 1048576) && decide (0 ≤ xk) && decide (xk ≤ nx)) := by unfold okF; simp only [hnb, HNB.out ()]
      have HBAD := Lib.hid hbad; have HOK := Lib.hid (fun _ : Unit => hok)
      clear hbad hok hnb
      go_upto_region 6 with fail
      have hF5 : Blk (wo.alloc (.cells #[.string xn, .slice Ax nx cx, .int .i64 xk] 107)) wo.heap.size [.string xn, .slice Ax nx cx, .int .i64 xk] 107 := Blk.mk_ _ rfl rfl
      obtain ⟨w5, hw5⟩ : ∃ w5, wo.alloc (.cells #[.string xn, .slice Ax nx cx, .int .i64 xk] 107) = w5 := ⟨_, rfl⟩
      change Code.wp _ _ _ _ (wo.alloc (.cells #[.string xn, .slice Ax nx cx, .int .i64 xk] 107))
      rw [hw5] at hA5 hF5 ⊢
      obtain ⟨gF, hgF⟩ : ∃ g, wo.heap.size = g := ⟨_, rfl⟩
      rw [hgF] at hF5 ⊢
      have f0 := hF5.at_ 0 rfl
      have f1 := hF5.at_ 1 rfl
      have f2 := hF5.at_ 2 rfl
      have hb5 : Below w.heap.size w w5 := hbw.trans (by have := hbw.size; exact hA5.mono this)
      have HA5 := Lib.hid hA5; have HB5 := Lib.hid hb5; have HGF := Lib.hid (fun _ : Unit => hgF)
      clear hA5 hF5 hw5 hgF q0 q1 q2 hbw hb5
      have bad : okF ⟨xn, .slice Ax nx cx, xd, xk⟩ = false → RLoadRes w gx pv lv (rloadS old l) (.returned (.int .i64 1)) w5 := fun h => by
        rw [HBAD.out h]; exact HS.out _ HB5.out 1
      have BAD := Lib.hid bad
      clear bad
      cases nb
      · go_wp2_with (go_at_call 83; refine (NM.out _).mono ?_; rintro e w9 ⟨rfl, hw9⟩; subst hw9)
        all_goals go_ret
        exact BAD.out (by rw [HOK.out ()]; rfl)
      by_cases h1 : (1048576 : Int) < nx
      · go_wp2_with (go_at_call 83; refine (NM.out _).mono ?_; rintro e w9 ⟨rfl, hw9⟩; subst hw9)
        all_goals go_ret
        exact BAD.out (by rw [HOK.out ()]; have : decide (nx ≤ 1048576) = false := (by simp; omega); rw [this]; simp)
      by_cases h2 : xk < 0
      · go_wp2_with (go_at_call 83; refine (NM.out _).mono ?_; rintro e w9 ⟨rfl, hw9⟩; subst hw9)
        all_goals go_ret
        exact BAD.out (by rw [HOK.out ()]; have : decide (0 ≤ xk) = false := (by simp; omega); rw [this]; simp)
      by_cases h3 : (nx : Int) < xk
      · go_wp2_with (go_at_call 83; refine (NM.out _).mono ?_; rintro e w9 ⟨rfl, hw9⟩; subst hw9)
        all_goals go_ret
        exact BAD.out (by rw [HOK.out ()]; have : decide (xk ≤ nx) = false := (by simp; omega); rw [this]; simp)
      have hokt : okF ⟨xn, .slice Ax nx cx, xd, xk⟩ = true := by
        rw [HOK.out ()]
        have e1 : decide (nx ≤ 1048576) = true := by simp; omega
        have e2 : decide (0 ≤ xk) = true := by simp; omega
        have e3 : decide (xk ≤ nx) = true := by simp; omega
        rw [e1, e2, e3]; rfl
      have HOKT := Lib.hid (fun _ : Unit => hokt)
      have PT := Lib.hid (rput_any w5 u5 acc ⟨xn, .slice Ax nx cx, xd, xk⟩ (HFR.out.stay HA5.out (Nat.le_refl _)) (by have := HLEN.out; omega) (HGX.out.stay HB5.out (Nat.le_refl _)))
      clear hokt
      go_wp2_with (first
        | (go_at_call 83; refine (NM.out _).mono ?_; rintro e w9 ⟨rfl, hw9⟩; subst hw9)
        | (go_at_call 84; refine PT.out.mono ?_; rintro e w6 ⟨v6, rfl, ho6, hb6⟩))
      have hb16 := bw_then HB5.out hb6 HB5.out.size
      have hsz6 := hb16.size
      refine ⟨⟨k + 1, rp ⟨xn, .slice Ax nx cx, xd, xk⟩ false acc, by omega, by simp, FR.of_own (ownsRow_mono ho6 HB5.out.size) (fun f hf => ?_), hb16, ?_, ?_, (fun f hf => ?_), fun b hb => ⟨Nat.le_trans HB5.out.size (owns3_lt ho6 hb), owns3_up ho6 hb⟩⟩, by simp [intOf]; omega⟩
      · rcases rp_mem _ _ _ _ hf with rfl | hf
        · exact HGX.out.stay hb16 (Nat.le_refl _)
        · exact (HFR.out.good f hf).stay (bw_then HA5.out hb6 HA5.out.size) (Nat.le_refl _)
      · have h1 := HRL.out ()
        rw [HDR.out ()] at h1
        simp only [rl, HOKT.out (), if_true] at h1
        exact h1
      · have h1 := rp_len ⟨xn, .slice Ax nx cx, xd, xk⟩ acc false
        have := HLEN.out
        omega
      · rcases rp_mem _ _ _ _ hf with rfl | hf
        · exact List.mem_of_getElem? (HX.out ())
        · exact HSUB.out f hf
    · obtain rfl : k = n := by omega
      have hend : rl [] l = some acc := by
        have h1 := HRL.out ()
        rw [List.drop_of_length_le (by rw [HN.out ()]; exact Nat.le_refl _)] at h1
        exact h1.symm
      obtain ⟨Aa, ca, hu5, _⟩ := HFR.out.sl
      subst hu5
      obtain ⟨m, hm⟩ : ∃ m, acc.length = m := ⟨_, rfl⟩
      have hres : rloadS old l = if m < k ∨ 64 < k then (1, old) else (0, acc) := by unfold rloadS; rw [hend]; simp only [hm, HN.out ()]
      have HRES := Lib.hid (fun _ : Unit => hres); have HM := Lib.hid (fun _ : Unit => hm)
      have hml : m ≤ k := by have := HLEN.out; omega
      rw [hm]
      clear hend hres hm
      by_cases h1 : (m : Int) < k
      · go_wp2_with fail
        all_goals go_ret
        rw [HRES.out (), if_pos (by omega)]
        exact HS.out _ HBW.out 1
      by_cases h2 : (64 : Int) < k
      · go_wp2_with fail
        all_goals go_ret
        rw [HRES.out (), if_pos (by omega)]
        exact HS.out _ HBW.out 1
      have hbx := HB.out.stay HBW.out
      have g1 := hbx.at_ 1 rfl
      have gf := hbx.free 1
      go_wp2_with fail
      all_goals go_ret
      rw [HRES.out (), if_neg (by omega)]
      have hgl := HB.out.lt
      have ht : Turns (fun b => b = gx) wo (wo.setCell ⟨gx, 1, none⟩ (.slice Aa m ca)) := Turns.set wo gx 1 _ rfl
      have hfr := HFR.out
      rw [HM.out ()] at hfr
      refine ⟨rfl, .slice Aa m ca, hbx.set 1 _, hfr.turns ht (fun b hb e => ?_) (fun f hf hx b hb => HNU.out f (HSUB.out f hf) hx b hb), (Turns.of_below HBW.out).trans ht, fun b hb => .inl (by have := HFRE.out b (by rw [HM.out ()]; exact hb); exact ⟨this.1, Nat.lt_of_lt_of_le this.2 ht.size⟩)⟩
      have := HFRE.out b (by rw [HM.out ()]; exact hb)
      omega
end Go.Proofs.Ytlgcnnhlbkidmaa
