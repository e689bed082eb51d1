/-
  disk: Sync, Read, New.
-/
import Derived.Test.YtlgcnnhlbkidmaaDiskA
import Derived.Test.YtlgcnnhlbkidmaaField
namespace Go.Proofs.Ytlgcnnhlbkidmaa
open Go.RowKit

def syncS (p : Pow) (fs : Files) (s : ByteArray) : Int × Pow × Files :=
  if thereS p fs s ≠ 0 then (thereS p fs s, p, fs) else if p.act.2 ≠ 0 then (p.act.2, p.act.1, fs) else (0, p.act.1, putF fs s.data.toList ⟨(fileAt fs s).data, (fileAt fs s).data.length⟩)
set_option maxRecDepth 100000 in
set_option maxHeartbeats 1000000 in
theorem sync_any (w : World) (B : Nat) (own : Nat → Prop) (g : Nat) (q : Option Nat) (p : Pow) (fs : Files) (s : ByteArray) (h : Disk w B own g q fs) (hp : PowAt w q p) (hok : p.ok) (hq : ∀ k, q = some k → ¬ own k) (hs : s.size ≤ maxLen) :
    Calls Try.prog 57 #[.pointer (some ⟨g, 0, none⟩), .string s] w (DiskRes w B own g q (syncS p fs s)) := by
  have hd0 := h
  obtain ⟨gm, es, hd, rfl⟩ := h
  have hA : Below w.heap.size w (w.alloc (.cells #[.string s] 9)) := bw_al (Below.refl _ _) (Nat.le_refl _) _
  obtain ⟨w1, hw1⟩ : ∃ w1, w.alloc (.cells #[.string s] 9) = w1 := ⟨_, rfl⟩
  have TH := Lib.hid (there_any w1 g gm q p _ ((hd.stay (hw1 ▸ hA)).head) ((hd.stay (hw1 ▸ hA)).map) ((hd.stay (hw1 ▸ hA)).isFile) (hp.stay (hw1 ▸ hA)) (.slice (some ⟨w.heap.size, 0, none⟩) 1 1) s [] hs (by rw [← hw1]; exact Rd.one w (.string s) _))
  rw [hw1] at hA
  rw [lookF_ents] at TH
  unfold syncS thereS
  obtain ⟨e0, he0⟩ : ∃ e, thereE p (lookF (es.map fun e => (e.1, e.2.1)) s.data.toList).isSome [s] = e := ⟨_, rfl⟩
  rw [he0] at TH ⊢
  have HD0 := Lib.hid hd0; have HP := Lib.hid hp; have HA := Lib.hid hA; have HQ := Lib.hid hq
  have HD := Lib.hid hd; have HE0 := Lib.hid (fun _ : Unit => he0)
  clear hd0 hp hA hd he0 hq
  by_cases hz : e0 = 0
  · subst hz
    rw [if_neg (by simp)]
    have hth := thereE_ok (HE0.out ())
    obtain ⟨eo, Ao, co, hlo, hlf, heo, hag, hmem⟩ := HD.out.look hth.1
    have hfa : fileAt (es.map fun e => (e.1, e.2.1)) s = eo.1 := by unfold fileAt; rw [hlf]; rfl
    rw [hfa]
    obtain ⟨L, hL⟩ : ∃ L, eo.1.data.length = L := ⟨_, rfl⟩
    obtain ⟨kp, hkp⟩ : ∃ k, eo.1.kept = k := ⟨_, rfl⟩
    obtain ⟨e3, he3⟩ : ∃ e, p.act.2 = e := ⟨_, rfl⟩
    obtain ⟨p3, hp3⟩ : ∃ e, p.act.1 = e := ⟨_, rfl⟩
    have hfo := HD.out.file _ hmem
    have hsm := hfo.small
    rw [hL] at hsm hag heo ⊢
    rw [hkp] at hag
    rw [he3, hp3]
    have hl : ∀ w', FMap w' gm (es.map fun e => (e.1, entV e.2)) → (Instr.lookup 121 (.map (some gm)) (.string s) false).run Try.prog w' = .ok (.agg #[.slice Ao L co, .int .i64 kp]) w' := fun w' hb => by
      have := hb.look Try.underlying121 (zfile w') s hs
      rw [hag] at this
      exact this
    have hqlt : ∀ k, q = some k → k < w.heap.size := fun k hk => (HP.out.1 k hk).lt
    have HFO := Lib.hid hfo; have HLO := Lib.hid (fun _ : Unit => hlo); have HEO := Lib.hid (fun _ : Unit => heo); have HL := Lib.hid (fun _ : Unit => hL); have HKP := Lib.hid (fun _ : Unit => hkp); have HE3 := Lib.hid (fun _ : Unit => he3); have HP3 := Lib.hid (fun _ : Unit => hp3); have HQLT := Lib.hid hqlt
    have HNM := Lib.hid (askE_name hth.2)
    clear hfo hlo hlf heo hag hmem hfa hL hkp he3 hp3 hqlt hth
    go_enter Try.func57, Try.ntmps57
    go_upto_region 4 with (go_at_call 78; refine TH.out.mono ?_; rintro e w2 ⟨rfl, hb2⟩)
    have hb12 := bw_then HA.out hb2 HA.out.size
    have d0 := (HD.out.head.stay hb12).at_ 0 rfl
    have PA := Lib.hid (plugact_any w2 q p (HP.out.stay hb12) hok)
    rw [HE3.out (), HP3.out ()] at PA
    have HB12 := Lib.hid hb12
    clear hb12 hb2
    by_cases h3 : e3 = 0
    · subst h3
      go_upto_region 7 with (go_at_call 77; refine PA.out.mono ?_; rintro e w4 ⟨rfl, hp4, ht4⟩)
      have hD4 := (HD.out.stay HB12.out).turns ht4 (fun b hb hk => HQ.out b hk hb)
      have c1 := hD4.head.at_ 1 rfl
      have hl4 := hl _ hD4.map
      have hT4 : Turns (fun k => own k ∨ q = some k) w w4 := (Turns.of_below HB12.out).trans (ht4.mono fun k hk => .inr hk)
      have HD4 := Lib.hid hD4; have HT4 := Lib.hid hT4; have HPW4 := Lib.hid hp4
      clear hD4 hT4 hp4 ht4 d0 hl
      go_upto_region 9 with fail
      have hA5 : Below w4.heap.size w4 (w4.alloc (.cells #[.slice Ao L co, .int .i64 L] 147)) := bw_al (Below.refl _ _) (Nat.le_refl _) _
      have hF5 : Blk (w4.alloc (.cells #[.slice Ao L co, .int .i64 L] 147)) w4.heap.size [.slice Ao L co, .int .i64 L] 147 := Blk.mk_ _ rfl rfl
      obtain ⟨w5, hw5⟩ : ∃ w5, w4.alloc (.cells #[.slice Ao L co, .int .i64 L] 147) = w5 := ⟨_, rfl⟩
      change Code.wp _ _ _ _ (w4.alloc (.cells #[.slice Ao L co, .int .i64 L] 147))
      rw [hw5] at hA5 hF5 ⊢
      have hD5 := HD4.out.stay hA5
      have k1 : ∀ w', Below w5.heap.size w5 w' → w'.cell? ⟨g, 1, none⟩ = some (.map (some gm)) := fun w' hb => (hD5.head.stay hb).at_ 1 rfl
      have y0 : ∀ w', Below w5.heap.size w5 w' → w'.cell? ⟨w4.heap.size, 0, none⟩ = some (.slice Ao L co) := fun w' hb => (hF5.stay hb).at_ 0 rfl
      have y1 : ∀ w', Below w5.heap.size w5 w' → w'.cell? ⟨w4.heap.size, 1, none⟩ = some (.int .i64 L) := fun w' hb => (hF5.stay hb).at_ 1 rfl
      have hr5 : Below w5.heap.size w5 w5 := Below.refl _ _
      have hle5 : (es.map fun e => (e.1, entV e.2)).length < maxLen := by rw [List.length_map]; have := HD.out.le; unfold maxLen; omega
      have HM5 := Lib.hid (hD5.map.stay (bw_d1 hr5)); have HLE5 := Lib.hid hle5; have HD5 := Lib.hid hD5; have HA5 := Lib.hid hA5
      clear hF5 hD5 hle5 hw5 hA5 hl4 c1
      refine region_plan ⟨[0, 1, 3, 7, 0, 0, 63], [6], [0, 0, 0, 0, 0, 0, 0]⟩
        [⟨[0, 1, 2, 3, 4, 5], [1, 2, 3, 5], some 6⟩, ⟨[], [], none⟩] 39 (by kernel_rfl) (by kernel_rfl) (by kernel_rfl) (by kernel_rfl) rfl ?_
      simp only [SeqGo, opsAt_cons, opsAt_nil, List.getElem?_cons, Option.toList_some, List.singleton_append, ↓reduceIte, Nat.reduceEqDiff, Nat.reduceSub]
      go_wp2_with fail
      refine ⟨by (simp only [Sames, Same]; go_simp), ?_⟩
      go_wp2_with (at_mapUpdate; refine wp_fput _ _ _ 121 147 rfl rfl Try.underlying121 rfl HM5.out HLE5.out rfl rfl hs ?_; intro w7 hm7 ho7)
      refine ⟨trivial, ?_⟩
      go_wp2_with fail
      all_goals go_ret
      have ho7 : Only gm w5 w7 := ⟨ho7.os, ho7.tape, ho7.output, ho7.size, ho7.block⟩
      have hfo := HFO.out
      have hmine : ∀ k, hold (.slice Ao L co) k → own k ∧ k ≠ g ∧ k ≠ gm := fun k hk => hfo.mine k (by rw [HEO.out ()]; exact hk)
      have hset := HD5.out.set (w' := w7) (own' := own) s.data.toList (⟨eo.1.data, L⟩, .slice Ao L co)
        (by have := putF_map entV es s.data.toList (⟨eo.1.data, L⟩, .slice Ao L co); rw [← this]; exact hm7)
        (fun k hk hn hh => ho7.block k hn) (fun k hk => hk) (fun k hk => by rw [ho7.size]; exact HD5.out.dom k hk)
        ⟨by
          have hmem := lookF_mem (HLO.out ())
          have h1 := (HD5.out.file _ hmem).part
          rw [HEO.out ()] at h1
          exact h1.move fun k o n c' hk => ho7.block k (hmine k ⟨_, _, _, hk⟩).2.2, hfo.isB, by simp only; rw [HL.out ()]; exact Nat.le_refl _, hfo.small, HNM.out, hmine⟩
        (fun k hk => .inl ⟨eo, HLO.out (), by rw [HEO.out ()]; exact hk⟩)
        (putF_full (by rw [HLO.out ()]; rfl) HD.out.le _)
      have hT : Turns (fun k => own k ∨ q = some k) w w7 := by
        have t1 := HT4.out.trans (Turns.of_below HA5.out)
        exact turns_grow t1 (Turns.of_only ho7 (S := fun k => k = gm) rfl) (fun k hk => .inl (by rw [hk]; exact HD.out.om))
      refine ⟨rfl, own, ⟨gm, _, hset, ?_⟩, fun k hk => Iff.rfl, (HPW4.out.stay HA5.out).turns (Turns.of_only ho7 (S := fun k => k = gm) rfl) (fun k hk e => HQ.out k hk (by rw [e]; exact HD.out.om)), hT⟩
      exact putF_map (fun e : Ent => e.1) es s.data.toList (⟨eo.1.data, L⟩, .slice Ao L co)
    · have h1 : (e3 == 0) = false := by simpa using h3
      have h2 : (e3 != 0) = true := by simpa using h3
      go_wp2_with (go_at_call 77; refine PA.out.mono ?_; rintro e w4 ⟨rfl, hp4, ht4⟩)
      all_goals go_ret
      refine ⟨rfl, own, ((HD0.out.stay HB12.out).turns ht4 (fun b hb hq => HQ.out b hq hb)), fun _ _ => Iff.rfl, hp4, (Turns.of_below HB12.out).trans (ht4.mono fun k hk => .inr hk)⟩
  · rw [if_pos hz]
    have h1 : (e0 == 0) = false := by simpa using hz
    have h2 : (e0 != 0) = true := by simpa using hz
    go_enter Try.func57, Try.ntmps57
    go_wp2_with (go_at_call 78; refine TH.out.mono ?_; rintro e w2 ⟨rfl, hb2⟩)
    all_goals go_ret
    exact same_res HD0.out HP.out (bw_then HA.out hb2 HA.out.size) _

def readF (p : Pow) (fs : Files) (s : ByteArray) : List Int := if thereS p fs s ≠ 0 then [] else (fileAt fs s).data
set_option maxRecDepth 100000 in
set_option maxHeartbeats 1000000 in
theorem read_any (w : World) (B : Nat) (own : Nat → Prop) (g : Nat) (q : Option Nat) (p : Pow) (fs : Files) (s : ByteArray) (h : Disk w B own g q fs) (hp : PowAt w q p) (hs : s.size ≤ maxLen) :
    Calls Try.prog 59 #[.pointer (some ⟨g, 0, none⟩), .string s] w fun e w' => ∃ v, e = .returned (.tuple #[v, .int .i64 (thereS p fs s)]) ∧ w'.ownsRow w.heap.size 5 1 v (readF p fs s).length (bs (readF p fs s)) ∧ IsB (readF p fs s) ∧ Below w.heap.size w w' := by
  obtain ⟨gm, es, hd, rfl⟩ := h
  have hA : Below w.heap.size w (w.alloc (.cells #[.string s] 9)) := bw_al (Below.refl _ _) (Nat.le_refl _) _
  obtain ⟨w1, hw1⟩ : ∃ w1, w.alloc (.cells #[.string s] 9) = w1 := ⟨_, rfl⟩
  have TH := Lib.hid (there_any w1 g gm q p _ ((hd.stay (hw1 ▸ hA)).head) ((hd.stay (hw1 ▸ hA)).map) ((hd.stay (hw1 ▸ hA)).isFile) (hp.stay (hw1 ▸ hA)) (.slice (some ⟨w.heap.size, 0, none⟩) 1 1) s [] hs (by rw [← hw1]; exact Rd.one w (.string s) _))
  rw [hw1] at hA
  rw [lookF_ents] at TH
  unfold readF thereS
  obtain ⟨e0, he0⟩ : ∃ e, thereE p (lookF (es.map fun e => (e.1, e.2.1)) s.data.toList).isSome [s] = e := ⟨_, rfl⟩
  rw [he0] at TH ⊢
  have HA := Lib.hid hA; have HD := Lib.hid hd; have HE0 := Lib.hid (fun _ : Unit => he0)
  clear hp hA hd he0
  by_cases hz : e0 = 0
  · subst hz
    simp only [ne_eq, not_true_eq_false, if_false]
    have hth := thereE_ok (HE0.out ())
    obtain ⟨eo, Ao, co, hlo, hlf, heo, hag, hmem⟩ := HD.out.look hth.1
    have hfa : fileAt (es.map fun e => (e.1, e.2.1)) s = eo.1 := by unfold fileAt; rw [hlf]; rfl
    rw [hfa]
    have hl : ∀ w', FMap w' gm (es.map fun e => (e.1, entV e.2)) → (Instr.lookup 121 (.map (some gm)) (.string s) false).run Try.prog w' = .ok (.agg #[.slice Ao eo.1.data.length co, .int .i64 eo.1.kept]) w' := fun w' hb => by
      have := hb.look Try.underlying121 (zfile w') s hs
      rw [hag] at this
      exact this
    have hfd : ∀ (x y : Value) (w : World), (Instr.field 147 (.agg #[x, y]) 0).run Try.prog w = .ok x w := fun x y w => run_field1 Try.underlying147 rfl Try.underlying22 rfl rfl
    have hfo := HD.out.file _ hmem
    have HFO := Lib.hid hfo; have HEO := Lib.hid (fun _ : Unit => heo)
    clear hfo hlo hlf heo hag hmem hfa hth
    go_enter Try.func59, Try.ntmps59
    go_upto_region 4 with (go_at_call 78; refine TH.out.mono ?_; rintro e w2 ⟨rfl, hb2⟩)
    have hb12 := bw_then HA.out hb2 HA.out.size
    have hD2 := HD.out.stay hb12
    have c1 := hD2.head.at_ 1 rfl
    have hl2 := hl _ hD2.map
    have hrd : Rd w2 (.slice Ao eo.1.data.length co) (bs eo.1.data) := by
      have h1 := (HFO.out.part.stay hb12).rd
      rwa [HEO.out ()] at h1
    have CL := Lib.hid (clone_any _ eo.1.data w2 hrd (Nat.le_trans HFO.out.small (by decide)))
    have HB12 := Lib.hid hb12
    clear hb12 hb2 hD2 hl hrd
    go_wp2_with (go_at_call 17; refine CL.out.mono ?_; rintro e w4 ⟨v4, rfl, hb4, ho4⟩)
    all_goals go_ret2
    exact ⟨_, rfl, ownsRow_mono ho4 HB12.out.size, HFO.out.isB, bw_then HB12.out hb4 HB12.out.size⟩
  · rw [if_pos hz]
    have h1 : (e0 == 0) = false := by simpa using hz
    have h2 : (e0 != 0) = true := by simpa using hz
    go_enter Try.func59, Try.ntmps59
    go_wp2_with (go_at_call 78; refine TH.out.mono ?_; rintro e w2 ⟨rfl, hb2⟩)
    all_goals go_ret2
    exact ⟨_, rfl, World.ownsRow_nil _ _ _ _, fun z hz => by simp at hz, bw_then HA.out hb2 HA.out.size⟩

theorem Disk.fresh (w : World) (q : Option Nat) : Disk ((w.alloc (.map #[] 0)).alloc (.cells #[ptrV q, .map (some w.heap.size)] 123)) w.heap.size (fun b => b = w.heap.size ∨ b = w.heap.size + 1) (w.heap.size + 1) q [] := by
  have hz : (w.alloc (.map #[] 0)).heap.size = w.heap.size + 1 := by simp
  refine ⟨w.heap.size, [], ⟨?_, (FMap.made w).stay (bw_al (Below.refl _ _) (Nat.le_refl _) _), List.Pairwise.nil, (fun e he => by cases he), List.Pairwise.nil, Nat.zero_le _, .inr rfl, .inl rfl, by omega, fun k hk => ?_⟩, rfl⟩
  · exact Blk.mk_ _ hz.symm rfl
  · simp only [World.size_alloc]
    rcases hk with rfl | rfl <;> omega
set_option maxRecDepth 100000 in
theorem newdisk_any (w : World) (q : Option Nat) : Calls Try.prog 54 #[ptrV q] w fun e w' => ∃ g own, e = .returned (.pointer (some ⟨g, 0, none⟩)) ∧ Disk w' w.heap.size own g q [] ∧ Below w.heap.size w w' := by
  have hmm := @run_makeMap Try.prog
  unfold ptrV
  cases q
  all_goals (
    simp only [Option.map_none, Option.map_some]
    go_enter Try.func54, Try.ntmps54
    go_wp2_with fail
    all_goals go_ret)
  · exact ⟨_, _, rfl, Disk.fresh w none, bw_al (bw_al (Below.refl _ _) (Nat.le_refl _) _) (by simp) _⟩
  · exact ⟨_, _, rfl, Disk.fresh w (some _), bw_al (bw_al (Below.refl _ _) (Nat.le_refl _) _) (by simp) _⟩
end Go.Proofs.Ytlgcnnhlbkidmaa
