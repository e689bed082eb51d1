/-
  disk: Image; the reference's Same.
-/
import Derived.Test.YtlgcnnhlbkidmaaDiskL
namespace Go.Proofs.Ytlgcnnhlbkidmaa
open Go.RowKit

def viewF (f : FileA) : Bt × FileS := (f.nm.data.toList, fileS f)
/-- A file of the call's own. -/
structure FOwn (w : World) (base : Nat) (f : FileA) : Prop where
  nm : f.nm.size ≤ maxLen
  part : Part w base 5 f.v (bs f.data)
  isB : IsB f.data
  k : 0 ≤ f.kept ∧ f.kept ≤ 9223372036854775807
theorem FOwn.good {w : World} {base : Nat} {f : FileA} (h : FOwn w base f) : FGood w f := ⟨h.nm, h.part.rd, h.isB, by have := h.k; omega⟩
theorem FOwn.stay {w w' : World} {base : Nat} {f : FileA} (h : FOwn w base f) (hb : Below w.heap.size w w') : FOwn w' base f := ⟨h.nm, h.part.stay hb, h.isB, h.k⟩
theorem FOwn.grown {w w' : World} {base n : Nat} {f : FileA} {v : Value} {xs : List Value} (h : FOwn w base f) (hg : w.grownBy w' v.ownBlock) (hr : w.ownsRow base 107 3 v n xs) : FOwn w' base f := by
  refine ⟨h.nm, h.part.move fun b off m c hv => ?_, h.isB, h.k⟩
  have hlt := (h.part.lt b off m c hv).2
  refine hg.block b hlt fun e => ?_
  rcases h.part with ⟨h1, _⟩ | ⟨g1, o1, c1, cur1, h1, _, h2, _⟩
  · rw [h1] at hv; cases hv
  · rw [h1] at hv
    cases hv
    rcases hr.2 with ⟨rfl, _⟩ | ⟨g2, c2, cur2, rfl, _, h3, _⟩
    · cases e
    · simp only [Value.ownBlock, Option.some.injEq] at e
      subst e
      rw [h2] at h3
      injection h3 with h4
      injection h4 with h5 h6
      exact absurd h6 (by decide)
theorem own3_stay {w w' : World} {base n : Nat} {e : TypeId} {v : Value} {xs : List Value} (h : w.ownsRow base e 3 v n xs) (hb : Below w.heap.size w w') : w'.ownsRow base e 3 v n xs :=
  ⟨h.1, h.2.imp id fun ⟨g, cap, cur, h0, h1, h2, h3⟩ => ⟨g, cap, cur, h0, h1, (hb.block g (Array.getElem?_eq_some_iff.1 h2).1).trans h2, h3⟩⟩
def ImgRes (w : World) (fs : Files) (e : Ending) (w' : World) : Prop :=
  ∃ v l, e = .returned v ∧ w'.ownsRow w.heap.size 107 3 v l.length (flatF l) ∧ (∀ f ∈ l, FOwn w' w.heap.size f) ∧ l.map viewF = fs ∧ Below w.heap.size w w'
set_option maxRecDepth 100000 in
set_option maxHeartbeats 2000000 in
theorem image_any (w : World) (B : Nat) (own : Nat → Prop) (g : Nat) (q : Option Nat) (fs : Files) (h : Disk w B own g q fs) :
    Calls Try.prog 65 #[.pointer (some ⟨g, 0, none⟩)] w (ImgRes w fs) := by
  have NM := Lib.hid (names_any w B own g q fs h)
  obtain ⟨gm, es, hd, rfl⟩ := h
  obtain ⟨n, hn⟩ : ∃ n, es.length = n := ⟨_, rfl⟩
  have hn64 : n ≤ 64 := by rw [← hn]; exact hd.le
  obtain ⟨fs, hfs⟩ : ∃ fs : Files, es.map (fun e => (e.1, e.2.1)) = fs := ⟨_, rfl⟩
  have hfl : fs.length = n := by rw [← hfs, List.length_map, hn]
  rw [hfs] at NM ⊢
  have HD := Lib.hid hd; have HFS := Lib.hid (fun _ : Unit => hfs); have HFL := Lib.hid (fun _ : Unit => hfl)
  clear hd hn hfs hfl
  go_enter Try.func65, Try.ntmps65
  go_upto_block 0 with (go_at_call 61; refine NM.out.mono ?_; rintro e w1 ⟨vn, rfl, ho1, hb1⟩; obtain ⟨A1, c1, rfl, _⟩ := id (Rd.of_own ho1); rw [List.length_map, HFL.out ()] at ho1 ⊢)
  have HO1 := Lib.hid ho1; have HB1 := Lib.hid hb1
  clear ho1 hb1
  go_wp2_with fail
  go_loopw [3, 10] (fun x y wr => ∃ (i : Nat) (acc : List FileA), i ≤ n ∧ y = .int .i64 i ∧ wr.ownsRow w1.heap.size 107 3 x acc.length (flatF acc) ∧ (∀ f ∈ acc, FOwn wr w1.heap.size f) ∧ acc.map viewF = fs.take i ∧ Below w1.heap.size w1 wr) (fun _ y _ => n - (intOf y).toNat)
  case atStart => exact ⟨0, [], Nat.zero_le _, rfl, World.ownsRow_nil _ _ _ _, (fun f hf => by cases hf), rfl, Below.refl _ _⟩
  case round =>
    obtain ⟨i, acc, hi, rfl, hrow, hfo, hvw, hbw⟩ := hrel
    obtain ⟨wo, rfl⟩ : ∃ wo : World, wo = wr := ⟨_, rfl⟩
    have HROW := Lib.hid hrow; have HFO := Lib.hid hfo; have HVW := Lib.hid (fun _ : Unit => hvw); have HBW := Lib.hid hbw
    clear hrow hfo hvw
    by_cases hlt : i < n
    · obtain ⟨e0, he0⟩ : ∃ e, fs[i]? = some e := ⟨_, List.getElem?_eq_getElem (by rw [HFL.out ()]; exact hlt)⟩
      obtain ⟨x, f⟩ := e0
      have h1 := he0
      rw [← HFS.out (), List.getElem?_map] at h1
      obtain ⟨⟨x', eo⟩, hes, heq⟩ := Option.map_eq_some_iff.1 h1
      simp only [Prod.mk.injEq] at heq
      obtain ⟨rfl, rfl⟩ := heq
      have hD := (HD.out.stay HB1.out).stay hbw
      have hlk := look_at hD.rise hes
      obtain ⟨eo', Ao, co, hlo, hlf, heo, hag, hmem⟩ := hD.look (x := x') (by rw [lookF_map (fun e : Ent => e.1), hlk]; rfl)
      obtain rfl : eo = eo' := Option.some.inj (hlk.symm.trans hlo)
      have hfo := hD.file _ hmem
      obtain ⟨s, hs⟩ : ∃ s : ByteArray, s = ⟨x'.toArray⟩ := ⟨_, rfl⟩
      have hsx : s.data.toList = x' := by rw [hs]
      have hs40 : s.size ≤ maxLen := by
        have h1 : s.size = x'.length := by rw [hs]; simp [ByteArray.size]
        have h2 := hfo.name.2
        simp only at h2
        unfold maxLen; omega
      have hnc : ∃ b o, A1 = some ⟨b, o, none⟩ ∧ wo.cell? ⟨b, o + i, none⟩ = some (.string s) := by
        have h1 : (fs.map fun f => encStr f.1)[i]? = some (.string s) := by rw [List.getElem?_map, he0, hs]; rfl
        obtain ⟨b, o, h2, h3⟩ := Rd.get (Rd.of_own HO1.out) h1
        exact ⟨b, o, h2, cell_stay hbw h3⟩
      obtain ⟨b1, o1, rfl, hcn⟩ := hnc
      have hlu : (Instr.lookup 121 (.map (some gm)) (.string s) false).run Try.prog wo = .ok (.agg #[.slice Ao eo.1.data.length co, .int .i64 eo.1.kept]) wo := by
        have := hD.map.look Try.underlying121 (zfile wo) s hs40
        rw [hsx, hag] at this
        exact this
      have hc1 := hD.head.at_ 1 rfl
      obtain ⟨L, hL⟩ : ∃ L, eo.1.data.length = L := ⟨_, rfl⟩
      obtain ⟨kp, hkp⟩ : ∃ k, eo.1.kept = k := ⟨_, rfl⟩
      have hkl := hfo.kept
      have hsm := hfo.small
      simp only [hL, hkp] at hkl hsm
      rw [hL, hkp] at hlu
      rw [hL] at heo
      have hrd : Rd wo (.slice Ao L co) (bs eo.1.data) := by
        have := hfo.part.rd
        rwa [heo] at this
      have HFI := Lib.hid hfo.isB; have HEO := Lib.hid (fun _ : Unit => heo); have HSX := Lib.hid (fun _ : Unit => hsx); have HE0 := Lib.hid (fun _ : Unit => he0); have HL := Lib.hid (fun _ : Unit => hL); have HKP := Lib.hid (fun _ : Unit => hkp)
      have hacc : acc.length ≤ 64 := by
        have := congrArg List.length (HVW.out ())
        rw [List.length_map, List.length_take] at this
        omega
      have HRD := Lib.hid hrd
      clear hlk hlo hlf heo hag hmem hfo hs hsx he0 hes h1 hL hkp hrd
      go_upto_region 6 with fail
      have hA5 : Below wo.heap.size wo (wo.alloc (.cells #[.slice Ao L co, .int .i64 kp] 147)) := bw_al (Below.refl _ _) (Nat.le_refl _) _
      have hF5 : Blk (wo.alloc (.cells #[.slice Ao L co, .int .i64 kp] 147)) wo.heap.size [.slice Ao L co, .int .i64 kp] 147 := Blk.mk_ _ rfl rfl
      obtain ⟨w5, hw5⟩ : ∃ w5, wo.alloc (.cells #[.slice Ao L co, .int .i64 kp] 147) = w5 := ⟨_, rfl⟩
      change Code.wp _ _ _ _ (wo.alloc (.cells #[.slice Ao L co, .int .i64 kp] 147))
      rw [hw5] at hA5 hF5 ⊢
      obtain ⟨gF, hgF⟩ : ∃ g, wo.heap.size = g := ⟨_, rfl⟩
      rw [hgF] at hF5 ⊢
      have y0 : ∀ w', Below w5.heap.size w5 w' → w'.cell? ⟨gF, 0, none⟩ = some (.slice Ao L co) := fun w' h => (hF5.stay h).at_ 0 rfl
      have y1 : ∀ w', Below w5.heap.size w5 w' → w'.cell? ⟨gF, 1, none⟩ = some (.int .i64 kp) := fun w' h => (hF5.stay h).at_ 1 rfl
      have r5 : Below w5.heap.size w5 w5 := Below.refl _ _
      have r5d : Below w5.heap.size w5 w5.drew := bw_d1 r5
      have CL := Lib.hid (clone_any _ eo.1.data w5.drew ((HRD.out.stay hA5 (Nat.le_refl _)).stay r5d (Nat.le_refl _)) (by rw [HL.out ()]; omega))
      have HA5 := Lib.hid hA5; have HD := Lib.hid hD
      clear hA5 hF5 hw5 hgF hlu hcn hc1 hD
      refine region_plan ⟨[0, 0, 0, 4, 12, 0, 32, 126, 254, 511, 1023], [4, 8, 9], [0, 0, 0, 0, 0, 0, 0, 1, 1, 2, 3]⟩
        [⟨[0, 1, 2, 3, 5, 6], [2, 3, 5, 6], some 4⟩, ⟨[7], [5, 6, 7], some 8⟩, ⟨[], [], some 9⟩, ⟨[10], [], none⟩] 32 (by kernel_rfl) (by kernel_rfl) (by kernel_rfl) (by kernel_rfl) rfl ?_
      simp only [SeqGo, opsAt_cons, opsAt_nil, List.getElem?_cons, Option.toList_some, List.singleton_append, ↓reduceIte, Nat.reduceEqDiff, Nat.reduceSub]
      go_wp2_with fail
      refine ⟨by (simp only [Sames, Same]; go_simp), ?_⟩
      go_wp2_with (go_at_call 17; refine CL.out.mono ?_; rintro e w6 ⟨v6, rfl, hb6, ho6⟩; obtain ⟨A6, c6, rfl, _⟩ := id (Rd.of_own ho6); have hb56 : Below w5.heap.size w5 w6 := r5d.trans hb6)
      rw [bs_len, HL.out ()]
      have ho6' := ho6
      rw [bs_len, HL.out ()] at ho6'
      refine ⟨by (simp only [Sames, Same]; go_simp), ?_⟩
      have hw6 : Below w1.heap.size w1 w6 := hbw.trans ((bw_then HA5.out hb56 HA5.out.size).mono hbw.size)
      have hzo := hbw.size
      have hz6 := hw6.size
      have hrow6 : w6.ownsRow w1.heap.size 107 3 u3 acc.length (flatF acc) := own3_stay HROW.out (bw_then HA5.out hb56 HA5.out.size)
      have hF6 : FOwn w6 w1.heap.size ⟨s, .slice A6 L c6, eo.1.data, kp⟩ := by
        have h6 := ho6
        rw [bs_len] at h6
        have h0 : Part w6 w5.drew.heap.size 5 (.slice A6 eo.1.data.length c6) (bs eo.1.data) := part_of_own (by rw [bs_len]; exact h6)
        rw [HL.out ()] at h0
        exact ⟨hs40, h0.mono (by have := HA5.out.size; show w1.heap.size ≤ w5.heap.size; omega), HFI.out, by simp only; omega⟩
      have HROW6 := Lib.hid hrow6; have HF6 := Lib.hid hF6; have HW6 := Lib.hid hw6; have HB56 := Lib.hid hb56
      clear ho6 ho6' hrow6 hF6
      go_wp2_with fail
      refine ⟨trivial, ?_⟩
      have hA7 : Below w6.heap.size w6 (w6.alloc (.cells #[.string s, .slice A6 L c6, .int .i64 kp] 107)) := bw_al (Below.refl _ _) (Nat.le_refl _) _
      go_wp2_with (at_builtin; refine wp_app_file2 (.tmp 20) (.tmp 28) rfl rfl w1.heap.size rfl (l := acc) (f := ⟨s, .slice A6 L c6, eo.1.data, kp⟩) (HROW6.out.alloc _) (g := w6.heap.size) rfl (Blk.mk_ w6 rfl rfl) rfl (by omega) (by simp; omega) ?_; intro v8 w8 ho8 hb8 hg8)
      refine ⟨trivial, ?_⟩
      go_wp2_with fail
      have hall : Below w1.heap.size w1 w8 := (bw_al HW6.out hz6 _).trans hb8
      refine ⟨⟨i + 1, _, by omega, by simp, ho8, fun f hf => ?_, ?_, hall⟩, by simp [intOf]; omega⟩
      · have hr7 := HROW6.out.alloc (.cells #[.string s, .slice A6 L c6, .int .i64 kp] 107)
        rcases List.mem_append.1 hf with hf | hf
        · exact (((HFO.out f hf).stay (bw_then HA5.out HB56.out HA5.out.size)).stay hA7).grown hg8 hr7
        · obtain rfl : f = _ := List.mem_singleton.1 hf
          exact (HF6.out.stay hA7).grown hg8 hr7
      · rw [List.map_append, HVW.out (), List.take_add_one, HE0.out ()]
        have e : viewF ⟨s, .slice A6 L c6, eo.1.data, kp⟩ = (x', eo.1) := by
          unfold viewF fileS
          simp only [HSX.out (), Int.toNat_natCast]
          rw [← HKP.out ()]
        simp only [List.map_cons, List.map_nil, e, Option.toList_some]
    · obtain rfl : i = n := by omega
      go_wp2_with fail
      all_goals go_ret
      have hvw := HVW.out ()
      rw [List.take_of_length_le (by rw [HFL.out ()]; exact Nat.le_refl _)] at hvw
      exact ⟨_, acc, rfl, ownsRow_mono HROW.out HB1.out.size, fun f hf => by
        have h1 := HFO.out f hf
        exact ⟨h1.nm, h1.part.mono HB1.out.size, h1.isB, h1.k⟩, hvw, bw_then HB1.out hbw HB1.out.size⟩
end Go.Proofs.Ytlgcnnhlbkidmaa
