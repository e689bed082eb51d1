/-
  disk: Load.
-/
import Derived.Test.YtlgcnnhlbkidmaaRloadC
import Derived.Test.YtlgcnnhlbkidmaaDiskE
namespace Go.Proofs.Ytlgcnnhlbkidmaa
open Go.RowKit

def fileS (f : FileA) : FileS := ⟨f.data, f.kept.toNat⟩
def ld : Files → List FileA → Option Files
  | acc, [] => some acc
  | acc, f :: r => if okF f then ld (putF acc f.nm.data.toList (fileS f)) r else none
def loadS (fs : Files) (l : List FileA) : Int × Files :=
  match ld [] l with
  | none => (1, fs)
  | some m => if m.length < l.length ∨ 64 < l.length then (1, fs) else (0, m)
/-- A map that is filled. -/
structure Pre (w : World) (base g gm : Nat) (es : List (Bt × Ent)) : Prop where
  map : FMap w gm (es.map fun e => (e.1, entV e.2))
  rise : Rise es
  file : ∀ e ∈ es, FileOk w base (fun k => base ≤ k ∧ k < w.heap.size) g gm e
  apart : es.Pairwise Apart
  lo : base ≤ gm
theorem Pre.set {w w' : World} {base g gm : Nat} {es : List (Bt × Ent)} (h : Pre w base g gm es) (x : Bt) (e' : Ent) (hm : FMap w' gm ((putF es x e').map fun e => (e.1, entV e.2))) (hk : ∀ b, b < w.heap.size → b ≠ gm → w'.heap[b]? = w.heap[b]?) (hs : w.heap.size ≤ w'.heap.size)
    (hnew : FileOk w' base (fun k => base ≤ k ∧ k < w'.heap.size) g gm (x, e')) (hfresh : ∀ k, hold e'.2 k → w.heap.size ≤ k) : Pre w' base g gm (putF es x e') := by
  refine ⟨hm, putF_rise h.rise x e', fun e he => ?_, ?_, h.lo⟩
  · rcases mem_insF.1 he with rfl | he
    · exact hnew
    · have hf := h.file e (mem_delF.1 he).1
      exact ⟨hf.part.move fun b off n c hv => hk b (hf.mine b ⟨_, _, _, hv⟩).1.2 (hf.mine b ⟨_, _, _, hv⟩).2.2, hf.isB, hf.kept, hf.small, hf.name, fun k hh => ⟨⟨(hf.mine k hh).1.1, Nat.lt_of_lt_of_le (hf.mine k hh).1.2 hs⟩, (hf.mine k hh).2⟩⟩
  · refine (List.Perm.pairwise_iff (R := Apart) (fun {_ _} => Apart.symm) (insF_perm (x, e') (delF es x))).2 (List.pairwise_cons.2 ⟨fun a ha k hk1 hk2 => ?_, h.apart.sublist List.filter_sublist⟩)
    have h1 := hfresh k hk1
    have h2 := ((h.file a (mem_delF.1 ha).1).mine k hk2).1.2
    omega
theorem Pre.stay {w w' : World} {base g gm : Nat} {es : List (Bt × Ent)} (h : Pre w base g gm es) (hb : Below w.heap.size w w') : Pre w' base g gm es :=
  ⟨h.map.stay hb, h.rise, fun e he => by
    have hf := h.file e he
    exact ⟨hf.part.move fun b off n c hv => hb.block b (hf.mine b ⟨_, _, _, hv⟩).1.2, hf.isB, hf.kept, hf.small, hf.name, fun k hh => ⟨⟨(hf.mine k hh).1.1, Nat.lt_of_lt_of_le (hf.mine k hh).1.2 hb.size⟩, (hf.mine k hh).2⟩⟩, h.apart, h.lo⟩
theorem ld_len : ∀ (l : List FileA) (acc m : Files), ld acc l = some m → m.length ≤ acc.length + l.length
  | [], acc, m, h => by cases h; simp
  | f :: r, acc, m, h => by
    simp only [ld] at h
    split at h
    · have h1 := ld_len r _ _ h
      have h2 := putF_len acc f.nm.data.toList (fileS f)
      simp only [List.length_cons]
      omega
    · cases h
set_option maxRecDepth 100000 in
set_option maxHeartbeats 2000000 in
theorem load_any (w : World) (B : Nat) (own : Nat → Prop) (g : Nat) (q : Option Nat) (fs : Files) (u : Value) (l : List FileA) (h : Disk w B own g q fs) (hr : FR w u l) (hl : l.length ≤ 200) (hB : B ≤ w.heap.size) :
    Calls Try.prog 62 #[.pointer (some ⟨g, 0, none⟩), u] w (EditRes w B own g q (loadS fs l)) := by
  obtain ⟨A, c, rfl, hc1, hc2, _⟩ := hr.sl
  obtain ⟨n, hn⟩ : ∃ n, l.length = n := ⟨_, rfl⟩
  rw [hn] at hr hc1 hl ⊢
  have same : ∀ w', Below w.heap.size w w' → ∀ z, EditRes w B own g q (z, fs) (.returned (.int .i64 z)) w' := fun w' hw z => edit_same h hw z
  have hdm := h.dom
  obtain ⟨gm0, es0, hd, hfs⟩ := h
  have MD := Lib.hid (made_any w g gm0 (ptrV q) hd.head)
  have HD := Lib.hid hd; have HR := Lib.hid hr; have HN := Lib.hid (fun _ : Unit => hn); have HS := Lib.hid same
  have hg0 := (hd.dom g hd.og)
  have hmm := @run_makeMap Try.prog
  clear hr hn same hd hfs hdm
  obtain ⟨gm, hgm⟩ : ∃ gm, w.heap.size = gm := ⟨_, rfl⟩
  have HGM := Lib.hid (fun _ : Unit => hgm)
  have hP0 : Pre (w.alloc (.map #[] 0)) gm g gm [] := by
    rw [← hgm]
    exact ⟨FMap.made w, List.Pairwise.nil, (fun e he => by cases he), List.Pairwise.nil, Nat.le_refl _⟩
  have hA0 : Below gm w (w.alloc (.map #[] 0)) := by rw [← hgm]; exact bw_al (Below.refl _ _) (Nat.le_refl _) _
  have HP0 := Lib.hid hP0; have HA0 := Lib.hid hA0
  clear hP0 hA0
  go_enter Try.func62, Try.ntmps62
  go_upto_region 4 with (go_at_call 79; refine MD.out.mono ?_; rintro e w' ⟨rfl, rfl⟩)
  go_wp2_with fail
  go_loopw [14] (fun y wr => ∃ (k : Nat) (es : List (Bt × Ent)), k ≤ n ∧ y = .int .i64 k ∧ Pre wr gm g gm es ∧ Below gm w wr ∧ ld (es.map fun e => (e.1, e.2.1)) (l.drop k) = ld [] l ∧ es.length ≤ k) (fun y _ => n - (intOf y).toNat)
  case atStart => exact ⟨0, [], Nat.zero_le _, rfl, HP0.out, HA0.out, rfl, Nat.le_refl _⟩
  case round =>
    obtain ⟨k, es, hk, rfl, hpre, hbw, hld, hlen⟩ := hrel
    obtain ⟨wo, rfl⟩ : ∃ wo : World, wo = wr := ⟨_, rfl⟩
    have HPRE := Lib.hid hpre; have HBW := Lib.hid hbw; have HLD := Lib.hid (fun _ : Unit => hld); have HLEN := Lib.hid hlen
    clear hpre hld hlen HP0 HA0
    by_cases hlt : k < n
    · obtain ⟨b, o, xn, Ax, nx, cx, xd, xk, hA, hn', hX, hnx, hxn, hxk, kq0, kq1, kq2⟩ := HR.out.elem (k := k) (by rw [HN.out ()]; exact hlt)
      subst hA
      have hdr : l.drop k = ⟨xn, .slice Ax nx cx, xd, xk⟩ :: l.drop (k + 1) := by
        obtain ⟨h1, h2⟩ := List.getElem?_eq_some_iff.1 hX
        rw [List.drop_eq_getElem_cons h1, h2]
      have hgX := HR.out.good _ (List.mem_of_getElem? hX)
      have hbw' : Below w.heap.size w wo := by rw [HGM.out ()]; exact hbw
      have q0 := kq0 wo hbw'
      have q1 := kq1 wo hbw'
      have q2 := kq2 wo hbw'
      have hnb : xd.length = nx := by rw [← hnx, bs_len]
      have hnm := hgX.rd.len
      rw [bs_len] at hnm
      simp only [hnb] at hnm
      have HDR := Lib.hid (fun _ : Unit => hdr); have HGX := Lib.hid hgX; have HNB := Lib.hid (fun _ : Unit => hnb)
      clear hn' hX hnx kq0 kq1 kq2 hdr hgX hnb
      have hA5 : Below wo.heap.size wo (wo.alloc (.cells #[.string xn, .slice Ax nx cx, .int .i64 xk] 107)) := bw_al (Below.refl _ _) (Nat.le_refl _) _
      have NM := Lib.hid (fun w' => named_any xn w')
      obtain ⟨nb, hnb⟩ : ∃ b, namedB xn = b := ⟨_, rfl⟩
      rw [hnb] at NM
      have hbad : okF ⟨xn, .slice Ax nx cx, xd, xk⟩ = false → loadS fs l = (1, fs) := fun hbad => by
        have h1 := HLD.out ()
        rw [HDR.out ()] at h1
        simp only [ld, hbad, Bool.false_eq_true, if_false] at h1
        unfold loadS
        rw [← h1]
      have hok : okF ⟨xn, .slice Ax nx cx, xd, xk⟩ = (nb && decide (nx ≤ 1048576) && decide (0 ≤ xk) && decide (xk ≤ nx)) := by unfold okF; simp only [hnb, HNB.out ()]
      have HBAD := Lib.hid hbad; have HOK := Lib.hid (fun _ : Unit => hok); have HNMB := Lib.hid (fun _ : Unit => hnb)
      clear hbad hok hnb
      go_upto_region 7 with fail
      have hF5 : Blk (wo.alloc (.cells #[.string xn, .slice Ax nx cx, .int .i64 xk] 107)) wo.heap.size [.string xn, .slice Ax nx cx, .int .i64 xk] 107 := Blk.mk_ _ rfl rfl
      obtain ⟨w5, hw5⟩ : ∃ w5, wo.alloc (.cells #[.string xn, .slice Ax nx cx, .int .i64 xk] 107) = w5 := ⟨_, rfl⟩
      change Code.wp _ _ _ _ (wo.alloc (.cells #[.string xn, .slice Ax nx cx, .int .i64 xk] 107))
      rw [hw5] at hA5 hF5 ⊢
      obtain ⟨gF, hgF⟩ : ∃ g, wo.heap.size = g := ⟨_, rfl⟩
      rw [hgF] at hF5 ⊢
      have y0 : ∀ w', Below w5.heap.size w5 w' → w'.cell? ⟨gF, 0, none⟩ = some (.string xn) := fun w' h => (hF5.stay h).at_ 0 rfl
      have y1 : ∀ w', Below w5.heap.size w5 w' → w'.cell? ⟨gF, 1, none⟩ = some (.slice Ax nx cx) := fun w' h => (hF5.stay h).at_ 1 rfl
      have y2 : ∀ w', Below w5.heap.size w5 w' → w'.cell? ⟨gF, 2, none⟩ = some (.int .i64 xk) := fun w' h => (hF5.stay h).at_ 2 rfl
      have r5 : Below w5.heap.size w5 w5 := Below.refl _ _
      have r5d : Below w5.heap.size w5 w5.drew := bw_d1 r5
      have hb5 : Below gm w w5 := hbw.trans (by have := hbw.size; have := HGM.out (); exact hA5.mono (by omega))
      have hsg : gm ≤ wo.heap.size := by have := hbw.size; have := HGM.out (); omega
      have HA5 := Lib.hid hA5; have HB5 := Lib.hid hb5; have HSG := Lib.hid hsg
      clear hA5 hF5 hw5 hgF q0 q1 q2 hbw hbw' hb5 hsg
      have bad : okF ⟨xn, .slice Ax nx cx, xd, xk⟩ = false → EditRes w B own g q (loadS fs l) (.returned (.int .i64 1)) w5 := fun h => by
        rw [HBAD.out h]; exact HS.out _ (by rw [HGM.out ()]; exact HB5.out) 1
      have BAD := Lib.hid bad
      clear bad
      cases nb
      · go_wp2_with (go_at_call 80; refine (NM.out _).mono ?_; rintro e w9 ⟨rfl, hw9⟩; subst hw9)
        all_goals go_ret
        exact BAD.out (by rw [HOK.out ()]; rfl)
      by_cases h1 : (1048576 : Int) < nx
      · go_wp2_with (go_at_call 80; refine (NM.out _).mono ?_; rintro e w9 ⟨rfl, hw9⟩; subst hw9)
        all_goals go_ret
        exact BAD.out (by rw [HOK.out ()]; have : decide (nx ≤ 1048576) = false := (by simp; omega); rw [this]; simp)
      by_cases h2 : xk < 0
      · go_wp2_with (go_at_call 80; refine (NM.out _).mono ?_; rintro e w9 ⟨rfl, hw9⟩; subst hw9)
        all_goals go_ret
        exact BAD.out (by rw [HOK.out ()]; have : decide (0 ≤ xk) = false := (by simp; omega); rw [this]; simp)
      by_cases h3 : (nx : Int) < xk
      · go_wp2_with (go_at_call 80; refine (NM.out _).mono ?_; rintro e w9 ⟨rfl, hw9⟩; subst hw9)
        all_goals go_ret
        exact BAD.out (by rw [HOK.out ()]; have : decide (xk ≤ nx) = false := (by simp; omega); rw [this]; simp)
      have hokt : okF ⟨xn, .slice Ax nx cx, xd, xk⟩ = true := by
        rw [HOK.out ()]
        have e1 : decide (nx ≤ 1048576) = true := by simp; omega
        have e2 : decide (0 ≤ xk) = true := by simp; omega
        have e3 : decide (xk ≤ nx) = true := by simp; omega
        rw [e1, e2, e3]; rfl
      obtain ⟨kk, rfl⟩ := Int.eq_ofNat_of_zero_le (show 0 ≤ xk by omega)
      have hrd5 : Rd w5.drew (.slice Ax nx cx) (bs xd) := HGX.out.rd.stay (HB5.out.trans (r5d.mono (show gm ≤ w5.heap.size by have := HB5.out.size; have := HGM.out (); omega))) (by have := HGM.out (); omega)
      have CL := Lib.hid (clone_any _ xd w5.drew hrd5 (by rw [HNB.out ()]; omega))
      have HOKT := Lib.hid (fun _ : Unit => hokt)
      have hle5 : (es.map fun e => (e.1, entV e.2)).length < maxLen := by rw [List.length_map]; have := HLEN.out; unfold maxLen; omega
      have HLE5 := Lib.hid hle5
      clear hokt hrd5 hle5
      go_upto_region 9 with (go_at_call 80; refine (NM.out _).mono ?_; rintro e w9 ⟨rfl, hw9⟩; subst hw9)
      refine region_plan ⟨[0, 0, 2, 0, 8, 24, 0, 64, 248, 511], [5, 9], [0, 0, 0, 0, 0, 0, 0, 0, 1, 1]⟩
        [⟨[0, 1, 2, 3, 4, 6, 7], [1, 2, 3, 4, 6, 7], some 5⟩, ⟨[8], [1, 2, 6, 7, 8], some 9⟩, ⟨[], [], none⟩] 65 (by kernel_rfl) (by kernel_rfl) (by kernel_rfl) (by kernel_rfl) rfl ?_
      simp only [SeqGo, opsAt_cons, opsAt_nil, List.getElem?_cons, Option.toList_some, List.singleton_append, ↓reduceIte, Nat.reduceEqDiff, Nat.reduceSub]
      go_wp2_with fail
      refine ⟨by (simp only [Sames, Same]; go_simp), ?_⟩
      go_wp2_with (go_at_call 17; refine CL.out.mono ?_; rintro e w6 ⟨v6, rfl, hb6, ho6⟩; obtain ⟨A6, c6, rfl, _⟩ := id (Rd.of_own ho6); have hb56 : Below w5.heap.size w5 w6 := r5d.trans hb6)
      rw [bs_len, HNB.out ()]
      have hm6 := (HPRE.out.stay (bw_then HA5.out hb56 HA5.out.size)).map
      have HM6 := Lib.hid hm6; have HO6 := Lib.hid ho6; have HB56 := Lib.hid hb56
      clear hm6 ho6
      refine ⟨by (simp only [Sames, Same]; go_simp), ?_⟩
      go_wp2_with (at_mapUpdate; refine wp_fput _ _ _ 121 147 rfl rfl Try.underlying121 rfl HM6.out HLE5.out rfl rfl hxn ?_; intro w7 hm7 ho7)
      refine ⟨trivial, ?_⟩
      go_wp2_with fail
      have hpre6 := HPRE.out.stay (bw_then HA5.out HB56.out HA5.out.size)
      have ho6 := HO6.out
      rw [bs_len] at ho6
      have hfr : ∀ k, hold (.slice A6 nx c6) k → w5.heap.size ≤ k ∧ k < w6.heap.size := fun k hk => owns_lt HO6.out (by rw [bs_len, HNB.out ()]; exact hk)
      have hgmlt := hpre6.map.lt
      have hgm5 : gm < w5.heap.size := (HPRE.out.stay HA5.out).map.lt
      have hpart : Part w7 gm 5 (.slice A6 nx c6) (bs xd) := by
        have h1 : Part w6 gm 5 (.slice A6 nx c6) (bs xd) := by
          rw [HNB.out ()] at ho6
          rcases ho6.2 with ⟨h1, h2⟩ | ⟨g', cap, cur, h1, h2, h3, h4, h5, h6, h7⟩
          · injection h1 with e1 e2 e3
            have hb0 : xd = [] := List.eq_nil_of_length_eq_zero (by rw [HNB.out ()]; exact e2)
            rw [hb0, e1, e2, e3]
            exact .inl ⟨rfl, rfl⟩
          · injection h1 with e1 e2 e3
            subst e1 e3
            have h2' : w5.heap.size ≤ g' := h2
            refine .inr ⟨g', 0, c6, cur, by rw [bs_len, HNB.out ()], by omega, h3, by rw [bs_len, HNB.out ()]; exact h4, h5, by omega, ?_⟩
            rw [List.drop_zero, bs_len, HNB.out ()]
            rw [Nat.mul_one] at h7
            exact h7
        exact h1.move fun k o n c hk => ho7.block k (fun e => by
          have h2 := (hfr k ⟨_, _, _, hk⟩).1
          omega)
      have hpre5 := HPRE.out.stay HA5.out
      have hs56 := HB56.out.size
      have hset := hpre5.set (w' := w7) xn.data.toList (⟨xd, kk⟩, .slice A6 nx c6)
        (by have := putF_map entV es xn.data.toList (⟨xd, kk⟩, .slice A6 nx c6); rw [← this]; exact hm7)
        (fun b hb hn => (ho7.block b hn).trans (HB56.out.block b hb)) (by rw [ho7.size]; exact hs56)
        ⟨hpart, HGX.out.isB, by simp only; rw [HNB.out ()]; omega, by simp only; rw [HNB.out ()]; omega, namedB_name (HNMB.out ()), fun k hk => by
          have h1 := hfr k hk
          have h2 := ho7.size
          have h3 := HGM.out ()
          exact ⟨⟨by omega, by omega⟩, by omega, by omega⟩⟩
        (fun k hk => (hfr k hk).1)
      refine ⟨⟨k + 1, _, by omega, by simp, hset, ?_, ?_, ?_⟩, by simp [intOf]; omega⟩
      · have h6 : Below gm w w6 := HB5.out.trans (HB56.out.mono (by omega))
        exact Only.below h6 ⟨ho7.os, ho7.tape, ho7.output, ho7.size, ho7.block⟩ (Nat.le_refl _)
      · have h1 := HLD.out ()
        rw [HDR.out ()] at h1
        simp only [ld, HOKT.out (), if_true] at h1
        rw [← h1, ← putF_map (fun e : Ent => e.1) es xn.data.toList (⟨xd, kk⟩, .slice A6 nx c6)]
        rfl
      · have h1 := putF_len es xn.data.toList (⟨xd, kk⟩, .slice A6 nx c6)
        have := HLEN.out
        omega
    · obtain rfl : k = n := by omega
      have hend : ld [] l = some (es.map fun e => (e.1, e.2.1)) := by
        have h1 := HLD.out ()
        rw [List.drop_of_length_le (by rw [HN.out ()]; exact Nat.le_refl _)] at h1
        exact h1.symm
      obtain ⟨m, hm⟩ : ∃ m, es.length = m := ⟨_, rfl⟩
      have hres : loadS fs l = if m < k ∨ 64 < k then (1, fs) else (0, es.map fun e => (e.1, e.2.1)) := by unfold loadS; rw [hend]; simp only [List.length_map, hm, HN.out ()]
      have hln : (Builtin.len_ #[121] 3 #[.map (some gm)]).run Try.prog wo = .ok (.int .i64 m) wo := by
        have := HPRE.out.map.len Try.underlying121 3
        rw [List.length_map, hm] at this
        exact this
      have HRES := Lib.hid (fun _ : Unit => hres); have HM := Lib.hid (fun _ : Unit => hm)
      have hml : m ≤ k := by have := HLEN.out; omega
      have HBW2 := Lib.hid (show Below w.heap.size w wo by rw [HGM.out ()]; exact HBW.out)
      clear hend hres hm
      by_cases h1 : (m : Int) < k
      · go_wp2_with fail
        all_goals go_ret
        rw [HRES.out (), if_pos (by omega)]
        exact HS.out _ HBW2.out 1
      by_cases h2 : (64 : Int) < k
      · go_wp2_with fail
        all_goals go_ret
        rw [HRES.out (), if_pos (by omega)]
        exact HS.out _ HBW2.out 1
      have hbx := HD.out.head.stay HBW2.out
      have g1 := hbx.at_ 1 rfl
      have gf := hbx.free 1
      go_wp2_with fail
      all_goals go_ret
      rw [HRES.out (), if_neg (by omega)]
      have hgw := HGM.out ()
      have hO := Only.set wo g 1 (.map (some gm))
      have hPf := HPRE.out
      have hgm1 := hPf.map.lt
      refine ⟨rfl, Grown own w (wo.setCell ⟨g, 1, none⟩ (.map (some gm))), ⟨gm, es, ⟨hbx.set 1 _, hPf.map.keep (hO.block gm (by omega)), hPf.rise, fun e he => ?_, hPf.apart, by rw [HM.out ()]; omega, .inl HD.out.og, .inr ⟨by omega, by rw [hO.size]; exact hgm1⟩, by omega, fun k hk => ?_⟩, rfl⟩, fun k hk => grown_iff own w _ k hk, (Turns.of_below HBW2.out).trans (Turns.set wo g 1 _ HD.out.og)⟩
      · have hf := hPf.file e he
        refine ⟨(hf.part.mono (by omega)).move fun b off n c hv => hO.block b (hf.mine b ⟨_, _, _, hv⟩).2.1, hf.isB, hf.kept, hf.small, hf.name, fun k hk => ⟨.inr ⟨by have := (hf.mine k hk).1.1; omega, by rw [hO.size]; exact (hf.mine k hk).1.2⟩, (hf.mine k hk).2⟩⟩
      · rw [hO.size]
        rcases hk with hk | hk
        · have := HD.out.dom k hk; have := HBW2.out.size; omega
        · rw [hO.size] at hk; omega
end Go.Proofs.Ytlgcnnhlbkidmaa
