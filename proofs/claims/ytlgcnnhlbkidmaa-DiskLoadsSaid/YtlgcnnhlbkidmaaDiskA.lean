/-
  disk: Append.
-/
import Derived.Test.YtlgcnnhlbkidmaaDiskC
namespace Go.Proofs.Ytlgcnnhlbkidmaa
open Go.RowKit

def fileAt (fs : Files) (s : ByteArray) : FileS := (lookF fs s.data.toList).getD ⟨[], 0⟩
def thereS (p : Pow) (fs : Files) (s : ByteArray) : Int := thereE p (lookF fs s.data.toList).isSome [s]
def appendS (p : Pow) (fs : Files) (s : ByteArray) (b : List Int) : Int × Pow × Files :=
  if thereS p fs s ≠ 0 then (thereS p fs s, p, fs) else if 1048576 < (fileAt fs s).data.length + b.length then (10, p, fs) else if p.act.2 ≠ 0 then (p.act.2, p.act.1, fs)
  else (0, p.act.1, putF fs s.data.toList ⟨(fileAt fs s).data ++ b, (fileAt fs s).kept⟩)
theorem thereE_ok {p : Pow} {b : Bool} {s : ByteArray} {l : List ByteArray} (h : thereE p b (s :: l) = 0) : b = true ∧ askE p (s :: l) = 0 := by
  unfold thereE at h
  split at h
  · contradiction
  · cases b
    · simp at h
    · exact ⟨rfl, by omega⟩
/-- The file that is there. -/
theorem DiskAt.look {w : World} {B : Nat} {own : Nat → Prop} {g gm : Nat} {q : Option Nat} {es : List (Bt × Ent)} (h : DiskAt w B own g gm q es) {x : Bt} (hx : (lookF (es.map fun e => (e.1, e.2.1)) x).isSome = true) :
    ∃ eo A c, lookF es x = some eo ∧ lookF (es.map fun e => (e.1, e.2.1)) x = some eo.1 ∧ eo.2 = .slice A eo.1.data.length c ∧ (lookF (es.map fun e => (e.1, entV e.2)) x).getD (fileV (.slice none 0 0) 0) = .agg #[.slice A eo.1.data.length c, .int .i64 eo.1.kept] ∧ (x, eo) ∈ es := by
  cases hq : lookF es x with
  | none => rw [lookF_map (fun e : Ent => e.1), hq] at hx; cases hx
  | some eo =>
    have hm := lookF_mem hq
    obtain ⟨A, c, hv⟩ : ∃ A c, eo.2 = .slice A eo.1.data.length c := by
      rcases (h.file _ hm).part with ⟨h1, h2⟩ | ⟨g, off, cap, cur, h1, _⟩
      · have : eo.1.data = [] := by simpa [bs] using h2
        exact ⟨none, 0, by rw [this]; exact h1⟩
      · exact ⟨_, _, by simpa [bs_len] using h1⟩
    refine ⟨eo, A, c, rfl, by rw [lookF_map (fun e : Ent => e.1), hq]; rfl, hv, ?_, hm⟩
    rw [lookF_map, hq]
    show entV eo = _
    unfold entV fileV
    rw [hv]
theorem turns_grow {own : Nat → Prop} {q : Option Nat} {T : Nat → Prop} {w w1 w2 : World} (h : Turns (fun b => own b ∨ q = some b) w w1) (k : Turns T w1 w2) (hT : ∀ b, T b → own b ∨ w.heap.size ≤ b) : Turns (fun b => own b ∨ q = some b) w w2 :=
  ⟨k.os.trans h.os, k.tape.trans h.tape, k.output.trans h.output, Nat.le_trans h.size k.size, fun j hj hs => (k.block j (Nat.lt_of_lt_of_le hj h.size) fun ht => by
    rcases hT j ht with h1 | h1
    · exact hs (.inl h1)
    · omega).trans (h.block j hj hs)⟩

theorem Rd.moved {S : Nat → Prop} {w w' : World} {v : Value} {xs : List Value} (h : Rd w v xs) (k : Turns S w w') (hn : xs ≠ [] → ∀ b, hold v b → ¬ S b) : Rd w' v xs := by
  by_cases hx : xs = []
  · obtain ⟨A, c, rfl, h1, h2, h0, _⟩ := h
    exact ⟨A, c, rfl, h1, h2, h0, .inl hx⟩
  · exact h.turns k fun b o n c hv => hn hx b ⟨o, n, c, hv⟩
theorem Rd.hold_lt {w : World} {v : Value} {xs : List Value} (h : Rd w v xs) (hx : xs ≠ []) {k : Nat} (hk : hold v k) : k < w.heap.size := by
  obtain ⟨A, c, rfl, h1, h2, h0, h3⟩ := h
  rcases h3 with h3 | ⟨b, o, h4, h5⟩
  · exact absurd h3 hx
  · obtain ⟨o', n', c', hk⟩ := hk
    cases hk
    cases h4
    have hl : 0 < xs.length := List.length_pos_iff.2 hx
    exact World.block_lt_of_cell? w _ (h5 0 hl)
set_option maxRecDepth 100000 in
set_option maxHeartbeats 1000000 in
theorem append_any (w : World) (B : Nat) (own : Nat → Prop) (g : Nat) (q : Option Nat) (p : Pow) (fs : Files) (s : ByteArray) (v : Value) (b : List Int) (h : Disk w B own g q fs) (hp : PowAt w q p) (hok : p.ok) (hq : ∀ k, q = some k → ¬ own k) (hs : s.size ≤ maxLen)
    (hr : Rd w v (bs b)) (hb : IsB b) (hv : b ≠ [] → ∀ k, hold v k → ¬ own k ∧ q ≠ some k) (hB : B ≤ w.heap.size) :
    Calls Try.prog 56 #[.pointer (some ⟨g, 0, none⟩), .string s, v] w (DiskRes w B own g q (appendS p fs s b)) := by
  have hd0 := h
  obtain ⟨gm, es, hd, rfl⟩ := h
  have hA : Below w.heap.size w (w.alloc (.cells #[.string s] 9)) := bw_al (Below.refl _ _) (Nat.le_refl _) _
  obtain ⟨w1, hw1⟩ : ∃ w1, w.alloc (.cells #[.string s] 9) = w1 := ⟨_, rfl⟩
  have TH := Lib.hid (there_any w1 g gm q p _ ((hd.stay (hw1 ▸ hA)).head) ((hd.stay (hw1 ▸ hA)).map) ((hd.stay (hw1 ▸ hA)).isFile) (hp.stay (hw1 ▸ hA)) (.slice (some ⟨w.heap.size, 0, none⟩) 1 1) s [] hs (by rw [← hw1]; exact Rd.one w (.string s) _))
  rw [hw1] at hA
  rw [lookF_ents] at TH
  unfold appendS thereS
  obtain ⟨e0, he0⟩ : ∃ e, thereE p (lookF (es.map fun e => (e.1, e.2.1)) s.data.toList).isSome [s] = e := ⟨_, rfl⟩
  rw [he0] at TH ⊢
  have hmx := hr.len
  rw [bs_len] at hmx
  obtain ⟨Av, cv, rfl, _⟩ := id hr
  rw [bs_len] at hr hv ⊢
  have HD0 := Lib.hid hd0; have HP := Lib.hid hp; have HA := Lib.hid hA; have HQ := Lib.hid hq; have HR := Lib.hid hr; have HV := Lib.hid hv; have HBB := Lib.hid hb
  have HD := Lib.hid hd; have HE0 := Lib.hid (fun _ : Unit => he0)
  clear hd0 hp hA hd he0 hq hr hv hb
  by_cases hz : e0 = 0
  · subst hz
    rw [if_neg (by simp)]
    have hth := thereE_ok (HE0.out ())
    obtain ⟨eo, Ao, co, hlo, hlf, heo, hag, hmem⟩ := HD.out.look hth.1
    have hfa : fileAt (es.map fun e => (e.1, e.2.1)) s = eo.1 := by unfold fileAt; rw [hlf]; rfl
    rw [hfa]
    obtain ⟨L, hL⟩ : ∃ L, eo.1.data.length = L := ⟨_, rfl⟩
    obtain ⟨kp, hkp⟩ : ∃ k, eo.1.kept = k := ⟨_, rfl⟩
    obtain ⟨e3, he3⟩ : ∃ e, p.act.2 = e := ⟨_, rfl⟩
    obtain ⟨p3, hp3⟩ : ∃ e, p.act.1 = e := ⟨_, rfl⟩
    have hfo := HD.out.file _ hmem
    have hsm := hfo.small
    have hkl := hfo.kept
    rw [hL] at hsm hkl hag heo ⊢
    rw [hkp] at hag hkl ⊢
    rw [he3, hp3]
    have hl : ∀ w', Below w.heap.size w w' → (Instr.lookup 121 (.map (some gm)) (.string s) false).run Try.prog w' = .ok (.agg #[.slice Ao L co, .int .i64 kp]) w' := fun w' hb => by
      have := (HD.out.map.stay hb).look Try.underlying121 (zfile w') s hs
      rw [hag] at this
      exact this
    have hqlt : ∀ k, q = some k → k < w.heap.size := fun k hk => (HP.out.1 k hk).lt
    have HFO := Lib.hid hfo; have HLO := Lib.hid (fun _ : Unit => hlo); have HEO := Lib.hid (fun _ : Unit => heo); have HL := Lib.hid (fun _ : Unit => hL); have HKP := Lib.hid (fun _ : Unit => hkp); have HE3 := Lib.hid (fun _ : Unit => he3); have HP3 := Lib.hid (fun _ : Unit => hp3); have HQLT := Lib.hid hqlt
    have HNM := Lib.hid (askE_name hth.2)
    clear hfo hlo hlf heo hag hmem hfa hL hkp he3 hp3 hqlt hth
    go_enter Try.func56, Try.ntmps56
    go_upto_region 4 with (go_at_call 78; refine TH.out.mono ?_; rintro e w2 ⟨rfl, hb2⟩)
    have hb12 := bw_then HA.out hb2 HA.out.size
    have c1 := (HD.out.head.stay hb12).at_ 1 rfl
    have hl2 := hl _ hb12
    go_upto_region 5 with fail
    have hb3 : Below w.heap.size w (w2.alloc (.cells #[.slice Ao L co, .int .i64 kp] 147)) := bw_al hb12 hb12.size _
    obtain ⟨w3, hw3⟩ : ∃ w3, w2.alloc (.cells #[.slice Ao L co, .int .i64 kp] 147) = w3 := ⟨_, rfl⟩
    change Code.wp _ _ _ _ (w2.alloc (.cells #[.slice Ao L co, .int .i64 kp] 147))
    have hF3 : Blk w3 w2.heap.size [.slice Ao L co, .int .i64 kp] 147 := by rw [← hw3]; exact Blk.mk_ _ rfl rfl
    rw [hw3] at hb3 ⊢
    obtain ⟨gF, hgF⟩ : ∃ g, w2.heap.size = g := ⟨_, rfl⟩
    have hgF2 : w.heap.size ≤ gF := by rw [← hgF]; exact hb12.size
    rw [hgF] at hF3 ⊢
    have f0 := hF3.at_ 0 rfl
    have d0 := (HD.out.head.stay hb3).at_ 0 rfl
    have PA := Lib.hid (plugact_any w3 q p (HP.out.stay hb3) hok)
    rw [HE3.out (), HP3.out ()] at PA
    have HB3 := Lib.hid hb3; have HF3 := Lib.hid hF3
    clear hb3 hF3 hl2 c1 hl hw3 hgF hb12 hb2
    by_cases hful : 1048576 < L + b.length
    · have hful' : (1048576 : Int) - (L : Int) < (b.length : Int) := by omega
      go_wp2_with fail
      all_goals go_ret
      exact same_res HD0.out HP.out HB3.out _
    have hful' : ¬ (1048576 : Int) - (L : Int) < (b.length : Int) := by omega
    by_cases h3 : e3 = 0
    · subst h3
      go_upto_region 10 with (go_at_call 77; refine PA.out.mono ?_; rintro e w4 ⟨rfl, hp4, ht4⟩)
      have hF4 := HF3.out.turns ht4 (fun hk => by have := HQLT.out _ hk; omega)
      have hD4 := (HD.out.stay HB3.out).turns ht4 (fun b hb hk => HQ.out b hk hb)
      have hmine : ∀ k, hold (.slice Ao L co) k → own k ∧ k ≠ g ∧ k ≠ gm := fun k hk => HFO.out.mine k (by rw [HEO.out ()]; exact hk)
      have hP4 : Part w4 B 5 (.slice Ao L co) (bs eo.1.data) := by
        have := (HFO.out.part.stay HB3.out).move (w' := w4) fun b off n c hv => ht4.block b (by have := (HD.out.dom b (HFO.out.mine b ⟨_, _, _, hv⟩).1).2; have := HB3.out.size; omega) (fun hk => HQ.out b hk (HFO.out.mine b ⟨_, _, _, hv⟩).1)
        rwa [HEO.out ()] at this
      have hR4 : Rd w4 (.slice Av b.length cv) (bs b) := (HR.out.stay HB3.out (Nat.le_refl _)).moved ht4 (fun hx k hk => (HV.out (fun e => hx (by rw [e]; rfl)) k hk).2)
      have h4 := hF4.at_ 0 rfl
      have hlen : (bs eo.1.data ++ bs b).length = L + b.length := by rw [List.length_append, bs_len, bs_len, HL.out ()]
      have HLEN := Lib.hid (fun _ : Unit => hlen)
      have hb4 : B ≤ w4.heap.size := Nat.le_trans hB (Nat.le_trans HB3.out.size ht4.size)
      have hsz4 : w.heap.size ≤ w4.heap.size := Nat.le_trans HB3.out.size ht4.size
      have hxl : (bs eo.1.data).length + (bs b).length = L + b.length := by rw [bs_len, bs_len, HL.out ()]
      have HXL := Lib.hid (fun _ : Unit => hxl)
      have HP4 := Lib.hid hP4; have HR4 := Lib.hid hR4; have HF4 := Lib.hid hF4; have HD4 := Lib.hid hD4; have HPW4 := Lib.hid hp4; have HT4 := Lib.hid ht4; have HMN := Lib.hid hmine
      clear hP4 hR4 hF4 hD4 hp4 ht4 hmine hlen hxl
      go_upto_region 11 with (at_builtin; refine wp_app_part (.tmp 39) (.tmp 40) 22 rfl rfl 5 (.int .u8 0) 1 Try.underlying22 info5 rfl B rfl HP4.out rfl HR4.out (bs_one _) (by decide) (by rw [HXL.out ()]; omega) hb4 ?_; intro v5 w5 hp5 ht5 hh5; obtain ⟨A5, c5, rfl, _⟩ := id hp5.rd; rw [HLEN.out ()] at hh5 ⊢; have hF5 := HF4.out.turns ht5 (fun hk => by have := (HD.out.dom _ (HMN.out gF hk).1).2; omega); have f5 := hF5.at_ 0 rfl; have z5 := hF5.free 0; have HF5 := Lib.hid hF5; have HP5 := Lib.hid hp5; have HT5 := Lib.hid ht5; have HH5 := Lib.hid hh5; clear hF5 hp5 ht5 hh5)
      obtain ⟨w6, hw6⟩ : ∃ w6, w5.setCell ⟨gF, 0, none⟩ (.slice A5 (L + b.length) c5) = w6 := ⟨_, rfl⟩
      rw [hw6]
      have hO6 : Only gF w5 w6 := by rw [← hw6]; exact Only.set _ _ _ _
      have hF6 : Blk w6 gF [.slice A5 (L + b.length) c5, .int .i64 kp] 147 := by rw [← hw6]; exact HF5.out.set 0 _
      have hgg := (HD.out.dom g HD.out.og).2
      have hgm := (HD.out.dom gm HD.out.om).2
      have hng : ¬ hold (.slice Ao L co) g := fun hk => (HMN.out g hk).2.1 rfl
      have hngm : ¬ hold (.slice Ao L co) gm := fun hk => (HMN.out gm hk).2.2 rfl
      have hH6 : Blk w6 g [ptrV q, .map (some gm)] 123 := (HD4.out.head.turns HT5.out hng).only hO6 (by omega)
      have hM6 : FMap w6 gm (es.map fun e => (e.1, entV e.2)) := (HD4.out.map.turns HT5.out hngm).keep (hO6.block gm (by omega))
      have k1 : ∀ w', Below w6.heap.size w6 w' → w'.cell? ⟨g, 1, none⟩ = some (.map (some gm)) := fun w' hb => (hH6.stay hb).at_ 1 rfl
      have y0 : ∀ w', Below w6.heap.size w6 w' → w'.cell? ⟨gF, 0, none⟩ = some (.slice A5 (L + b.length) c5) := fun w' hb => (hF6.stay hb).at_ 0 rfl
      have y1 : ∀ w', Below w6.heap.size w6 w' → w'.cell? ⟨gF, 1, none⟩ = some (.int .i64 kp) := fun w' hb => (hF6.stay hb).at_ 1 rfl
      have hr6 : Below w6.heap.size w6 w6 := Below.refl _ _
      have hD6 : Below w6.heap.size w6 w6.drew := bw_d1 (Below.refl _ _)
      have hle6 : (es.map fun e => (e.1, entV e.2)).length < maxLen := by rw [List.length_map]; have := HD.out.le; unfold maxLen; omega
      have HM6 := Lib.hid (hM6.stay hD6); have HLE6 := Lib.hid hle6; have HO6 := Lib.hid hO6
      clear hF6 hH6 hM6 hle6 hw6 hO6 h4 f5 z5
      refine region_plan ⟨[0, 1, 3, 7, 0, 0, 63], [6], [0, 0, 0, 0, 0, 0, 0]⟩
        [⟨[0, 1, 2, 3, 4, 5], [1, 2, 3, 5], some 6⟩, ⟨[], [], none⟩] 49 (by kernel_rfl) (by kernel_rfl) (by kernel_rfl) (by kernel_rfl) rfl ?_
      simp only [SeqGo, opsAt_cons, opsAt_nil, List.getElem?_cons, Option.toList_some, List.singleton_append, ↓reduceIte, Nat.reduceEqDiff, Nat.reduceSub]
      go_wp2_with fail
      refine ⟨by (simp only [Sames, Same]; go_simp), ?_⟩
      go_wp2_with (at_mapUpdate; refine wp_fput _ _ _ 121 147 rfl rfl Try.underlying121 rfl HM6.out HLE6.out rfl rfl hs ?_; intro w7 hm7 ho7)
      refine ⟨trivial, ?_⟩
      go_wp2_with fail
      all_goals go_ret
      have ho7 : Only gm w6 w7 := ⟨ho7.os, ho7.tape, ho7.output, ho7.size, ho7.block⟩
      have hsz7 : w7.heap.size = w5.heap.size := ho7.size.trans HO6.out.size
      have hs5 := HT5.out.size
      have hgF4 := HF4.out.lt
      have hv5 : ∀ k, hold (.slice A5 (L + b.length) c5) k → (w4.heap.size ≤ k ∨ hold (.slice Ao L co) k) ∧ k < w5.heap.size ∧ k ≠ gF ∧ k ≠ g ∧ k ≠ gm := fun k hk => by
        obtain ⟨o, n, c', hk⟩ := hk
        have h1 := HH5.out _ _ _ _ hk
        have h2 : k < w5.heap.size := by
          have := HP5.out.lt k o n c' (by rw [HLEN.out ()]; exact hk)
          exact this.2
        refine ⟨h1, h2, ?_⟩
        rcases h1 with h1 | h1
        · omega
        · have h3 := HMN.out k h1
          have h4 := (HD.out.dom k h3.1).2
          exact ⟨by omega, h3.2.1, h3.2.2⟩
      have hPn : Part w7 B 5 (.slice A5 (L + b.length) c5) (bs (eo.1.data ++ b)) := by
        have h1 := HP5.out
        rw [HLEN.out (), ← bs_append] at h1
        refine h1.move fun k o n c' hk => ?_
        have h2 := hv5 k ⟨_, _, _, hk⟩
        exact (ho7.block k h2.2.2.2.2).trans (HO6.out.block k h2.2.2.1)
      have hfo := HFO.out
      have hset := HD4.out.set (w' := w7) (own' := Grown own w w7) s.data.toList (⟨eo.1.data ++ b, kp⟩, .slice A5 (L + b.length) c5)
        (by have := putF_map entV es s.data.toList (⟨eo.1.data ++ b, kp⟩, .slice A5 (L + b.length) c5); rw [← this]; have e : entV (⟨eo.1.data ++ b, kp⟩, .slice A5 (L + b.length) c5) = .agg #[.slice A5 (L + b.length) c5, .int .i64 kp] := rfl
            rw [e]; exact hm7)
        (fun k hk hn hh => (ho7.block k hn).trans ((HO6.out.block k (by have := (HD.out.dom k hk).2; omega)).trans (HT5.out.block k (by have := (HD.out.dom k hk).2; omega) (fun h1 => hh eo (HLO.out ()) (by rw [HEO.out ()]; exact h1)))))
        (fun k hk => .inl hk) (fun k hk => by
          rcases hk with hk | hk
          · have := HD.out.dom k hk; omega
          · omega)
        ⟨hPn, fun z hz => (List.mem_append.1 hz).elim (fun h => hfo.isB z h) (fun h => HBB.out z h), (by simp only [List.length_append]; rw [HL.out ()]; omega), (by simp only [List.length_append]; rw [HL.out ()]; omega), HNM.out, fun k hk => ⟨by
          have h2 := hv5 k hk
          rcases h2.1 with h3 | h3
          · exact .inr ⟨by omega, by omega⟩
          · exact .inl (HMN.out k h3).1, (hv5 k hk).2.2.2⟩⟩
        (fun k hk => by
          rcases (hv5 k hk).1 with h3 | h3
          · exact .inr fun ho => by have := (HD.out.dom k ho).2; omega
          · exact .inl ⟨eo, HLO.out (), by rw [HEO.out ()]; exact h3⟩)
        (putF_full (by rw [HLO.out ()]; rfl) HD.out.le _)
      have hT : Turns (fun k => own k ∨ q = some k) w w7 := by
        have t1 : Turns (fun k => own k ∨ q = some k) w w4 := (Turns.of_below HB3.out).trans (HT4.out.mono fun k hk => .inr hk)
        have t2 := turns_grow t1 HT5.out (fun k hk => .inl (HMN.out k hk).1)
        have t3 := turns_grow t2 (Turns.of_only HO6.out (S := fun k => k = gF) rfl) (fun k hk => .inr (by rw [hk]; exact hgF2))
        exact turns_grow t3 (Turns.of_only ho7 (S := fun k => k = gm) rfl) (fun k hk => .inl (by rw [hk]; exact HD.out.om))
      refine ⟨rfl, Grown own w w7, ⟨gm, _, hset, ?_⟩, fun k hk => grown_iff own w w7 k hk, ⟨fun k hk => ?_, HPW4.out.2⟩, hT⟩
      · exact putF_map (fun e : Ent => e.1) es s.data.toList (⟨eo.1.data ++ b, kp⟩, .slice A5 (L + b.length) c5)
      · have hkl := HQLT.out k hk
        have hno := HQ.out k hk
        exact (((HPW4.out.1 k hk).turns HT5.out (fun hh => hno (HMN.out k hh).1)).only HO6.out (by omega)).only ho7 (fun e => hno (e ▸ HD.out.om))
    · have h1 : (e3 == 0) = false := by simpa using h3
      have h2 : (e3 != 0) = true := by simpa using h3
      go_wp2_with (go_at_call 77; refine PA.out.mono ?_; rintro e w4 ⟨rfl, hp4, ht4⟩)
      all_goals go_ret
      refine ⟨rfl, own, ((HD0.out.stay HB3.out).turns ht4 (fun b hb hq => HQ.out b hq hb)), fun _ _ => Iff.rfl, hp4, (Turns.of_below HB3.out).trans (ht4.mono fun k hk => .inr hk)⟩
  · rw [if_pos hz]
    have h1 : (e0 == 0) = false := by simpa using hz
    have h2 : (e0 != 0) = true := by simpa using hz
    go_enter Try.func56, Try.ntmps56
    go_wp2_with (go_at_call 78; refine TH.out.mono ?_; rintro e w2 ⟨rfl, hb2⟩)
    all_goals go_ret
    exact same_res HD0.out HP.out (bw_then HA.out hb2 HA.out.size) _
end Go.Proofs.Ytlgcnnhlbkidmaa
