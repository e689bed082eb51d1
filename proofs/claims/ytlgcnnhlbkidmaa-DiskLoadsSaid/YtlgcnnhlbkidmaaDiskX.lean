/-
  disk: Crash.
-/
import Derived.Test.YtlgcnnhlbkidmaaDiskN
import Derived.Deep.CutBlock
namespace Go.Proofs.Ytlgcnnhlbkidmaa
open Go.RowKit

/-- What is left of a file. -/
def cutN (c : Option Int) (f : FileS) : Nat := match c with
  | none => 0
  | some z => (IntKind.u64.wrap z % ((f.data.length : Int) - f.kept + 1)).toNat
def crash1 (c : Option Int) (f : FileS) : FileS := ⟨f.data.take (f.kept + cutN c f), f.kept + cutN c f⟩
def crashTo (i : Nat) (cuts : List Int) (fs : Files) : Files := fs.mapIdx fun j e => if j < i then (e.1, crash1 cuts[j]? e.2) else e
def crashS (cuts : List Int) (fs : Files) : Files := fs.mapIdx fun j e => (e.1, crash1 cuts[j]? e.2)
theorem cutN_le (c : Option Int) (f : FileS) (h : f.kept ≤ f.data.length) : f.kept + cutN c f ≤ f.data.length := by
  unfold cutN
  cases c with
  | none => exact h
  | some z =>
    have h1 : (0 : Int) ≤ IntKind.u64.wrap z % ((f.data.length : Int) - f.kept + 1) := Int.emod_nonneg _ (by omega)
    have h2 : IntKind.u64.wrap z % ((f.data.length : Int) - f.kept + 1) < (f.data.length : Int) - f.kept + 1 := Int.emod_lt_of_pos _ (by omega)
    simp only
    omega
theorem crashTo_zero (cuts : List Int) (fs : Files) : crashTo 0 cuts fs = fs := by
  unfold crashTo
  refine List.ext_getElem? fun k => ?_
  rw [List.getElem?_mapIdx]
  cases fs[k]? <;> simp
theorem crashTo_all (cuts : List Int) (fs : Files) : crashTo fs.length cuts fs = crashS cuts fs := by
  unfold crashTo crashS
  refine List.ext_getElem? fun k => ?_
  rw [List.getElem?_mapIdx, List.getElem?_mapIdx]
  cases hk : fs[k]? with
  | none => rfl
  | some e =>
    have := (List.getElem?_eq_some_iff.1 hk).1
    simp [this]
theorem crashTo_at {i : Nat} {cuts : List Int} {fs : Files} {x : Bt} {f : FileS} (h : fs[i]? = some (x, f)) : (crashTo i cuts fs)[i]? = some (x, f) := by
  unfold crashTo
  rw [List.getElem?_mapIdx, h]
  simp
theorem crashTo_next {i : Nat} {cuts : List Int} {fs : Files} {x : Bt} {f : FileS} (h : fs[i]? = some (x, f)) : (crashTo i cuts fs).set i (x, crash1 cuts[i]? f) = crashTo (i + 1) cuts fs := by
  unfold crashTo
  refine List.ext_getElem? fun k => ?_
  rw [List.getElem?_mapIdx]
  by_cases hk : k = i
  · subst hk
    rw [List.getElem?_set_self (by rw [List.length_mapIdx]; exact (List.getElem?_eq_some_iff.1 h).1), h]
    simp
  · rw [List.getElem?_set_ne (Ne.symm hk), List.getElem?_mapIdx]
    have : (k < i + 1) ↔ (k < i) := by omega
    cases fs[k]? <;> simp [this]
/-- A file put in the place of one that is there. -/
theorem rise_ne {α : Type} {f : Bt × α} {r : List (Bt × α)} (h : Rise (f :: r)) {g : Bt × α} (hg : g ∈ r) : f.1 ≠ g.1 := fun e => by
  have := (List.pairwise_cons.1 h).1 g hg
  rw [e, WideAt.bytes_irrefl] at this
  cases this
theorem look_at {α : Type} {fs : List (Bt × α)} (h : Rise fs) {i : Nat} {x : Bt} {u : α} (hi : fs[i]? = some (x, u)) : lookF fs x = some u := by
  induction fs generalizing i with
  | nil => simp at hi
  | cons f r ih =>
    cases i with
    | zero =>
      simp at hi
      subst hi
      simp [lookF]
    | succ i =>
      simp at hi
      have hm := List.mem_of_getElem? hi
      have hne := rise_ne h hm
      have := ih (List.pairwise_cons.1 h).2 hi
      unfold lookF at this ⊢
      rw [List.find?_cons]
      have e : (f.1 == x) = false := by simpa using hne
      rw [e]
      exact this
theorem putF_set {α : Type} {fs : List (Bt × α)} (h : Rise fs) {i : Nat} {x : Bt} {u : α} (hi : fs[i]? = some (x, u)) (v : α) : putF fs x v = fs.set i (x, v) := by
  induction fs generalizing i with
  | nil => simp at hi
  | cons f r ih =>
    cases i with
    | zero =>
      simp at hi
      subst hi
      have h1 : delF ((x, u) :: r) x = r := by
        unfold delF
        rw [List.filter_cons]
        simp only [beq_self_eq_true, Bool.not_true, Bool.false_eq_true, if_false]
        rw [List.filter_eq_self]
        intro g hg
        have := rise_ne h hg
        simpa using Ne.symm this
      unfold putF
      rw [h1, List.set_cons_zero]
      cases r with
      | nil => rfl
      | cons g t =>
        have := (List.pairwise_cons.1 h).1 g List.mem_cons_self
        simp only [insF]
        rw [if_pos this]
    | succ i =>
      simp at hi
      have hm := List.mem_of_getElem? hi
      have hne := rise_ne h hm
      have hb := (List.pairwise_cons.1 h).1 _ hm
      have ih' := ih (List.pairwise_cons.1 h).2 hi
      have e : (f.1 == x) = false := by simpa using hne
      have h1 : delF (f :: r) x = f :: delF r x := by
        unfold delF
        rw [List.filter_cons]
        simp [e]
      unfold putF at ih' ⊢
      rw [h1, List.set_cons_succ, ← ih']
      simp only [insF]
      rw [if_neg]
      intro hx
      have := WideShapes.bytes_trans _ _ _ hb hx
      rw [WideAt.bytes_irrefl] at this
      cases this
/-- The first ones of a slice, and no room behind them. -/
theorem Part.clip {w : World} {base : Nat} {e : TypeId} {A : Option Addr} {n c : Nat} {xs : List Value} (h : Part w base e (.slice A n c) xs) (i : Nat) (hi : i ≤ xs.length) : Part w base e (.slice A i i) (xs.take i) := by
  rcases h with ⟨hv, rfl⟩ | ⟨g, off, cap, cur, hv, h2, h3, h4, h5, h6, h7⟩
  · cases hv
    simp at hi
    subst hi
    exact .inl ⟨rfl, by simp⟩
  · injection hv with e1 e2 e3
    subst e1 e3
    have hl : (xs.take i).length = i := by rw [List.length_take]; omega
    refine .inr ⟨g, off, i, cur, by rw [hl], h2, h3, by rw [hl]; exact Nat.le_refl _, by omega, by omega, ?_⟩
    have h8 := congrArg (List.take i) h7
    rw [List.take_take, Nat.min_eq_left hi] at h8
    rw [hl, h8]
set_option maxRecDepth 100000 in
theorem run_clip (w : World) (A : Option Addr) (n c k : Nat) (h0 : A = none → k = 0) (hk : k ≤ c) : (Instr.slice 22 (.slice A n c) none (some (.int .i64 k)) (some (.int .i64 k))).run Try.prog w = .ok (.slice A k k) w := by
  have hb : (Instr.sliceBounds true n c none (some (.int .i64 k)) (some (.int .i64 k))).run Try.prog w = .ok (0, k, k) w := by
    simp [Instr.sliceBounds, run_sliceBound, hk]
  rw [run_slice_any (w := w) 22 A n c (by kernel_rfl), hb]
  have hsz : (sizeOf (Try.prog.elem 22)).run Try.prog w = .ok 1 w := by kernel_rfl
  simp only [Result.andThen, hsz, sliced]
  congr 1
  split
  · simp
  · cases A with
    | none => have := h0 rfl; omega
    | some a => simp [Addr.add]

theorem Rd.get {w : World} {A : Option Addr} {n c : Nat} {xs : List Value} (h : Rd w (.slice A n c) xs) {j : Nat} {x : Value} (hj : xs[j]? = some x) : ∃ b o, A = some ⟨b, o, none⟩ ∧ w.cell? ⟨b, o + j, none⟩ = some x := by
  obtain ⟨A', c', hv, _, _, _, h3⟩ := h
  cases hv
  obtain ⟨hlt, rfl⟩ := List.getElem?_eq_some_iff.1 hj
  rcases h3 with h3 | ⟨b, o, h4, h5⟩
  · rw [h3] at hlt; simp at hlt
  · exact ⟨b, o, h4, h5 j hlt⟩
theorem owns_lt {w : World} {base n : Nat} {e : TypeId} {v : Value} {xs : List Value} (h : w.ownsRow base e 1 v n xs) {b : Nat} (hb : hold v b) : base ≤ b ∧ b < w.heap.size := by
  obtain ⟨o, m, c, rfl⟩ := hb
  rcases h.2 with ⟨h1, _⟩ | ⟨g, cap, cur, h1, h2, h3, _⟩
  · cases h1
  · cases h1
    exact ⟨h2, (Array.getElem?_eq_some_iff.1 h3).1⟩
theorem encStr_key (x : Bt) : encStr x = .string ⟨x.toArray⟩ := rfl
/-- Where the loop of Crash stands. -/
structure CrashAt (w1 wr : World) (B : Nat) (own : Nat → Prop) (g gm gp : Nat) (cuts : List Int) (fs : Files) (i : Nat) (es : List (Bt × Ent)) : Prop where
  disk : DiskAt wr B own g gm (some gp) es
  is : (es.map fun e => (e.1, e.2.1)) = crashTo i cuts fs
  t : Turns own w1 wr
set_option maxRecDepth 100000 in
set_option maxHeartbeats 2000000 in
theorem crash_any (w : World) (B : Nat) (own : Nat → Prop) (g gp : Nat) (p : Pow) (fs : Files) (v : Value) (cuts : List Int) (h : Disk w B own g (some gp) fs) (hp : PowAt w (some gp) p) (hmd : p.made = true) (hq : ¬ own gp)
    (hr : Rd w v (cuts.map (Value.int .i64))) (hv : cuts ≠ [] → ∀ k, hold v k → ¬ own k) :
    Calls Try.prog 58 #[.pointer (some ⟨g, 0, none⟩), v] w fun e w' => e = .returned (.tuple #[]) ∧ Disk w' B own g (some gp) (crashS cuts fs) ∧ PowAt w' (some gp) Pow.fresh ∧ Turns (fun b => own b ∨ b = gp) w w' := by
  have NM := Lib.hid (names_any w B own g (some gp) fs h)
  obtain ⟨gm, es, hd, rfl⟩ := h
  have MD := Lib.hid (made_any w g gm (ptrV (some gp)) hd.head)
  have hmx := hr.len
  rw [List.length_map] at hmx
  obtain ⟨A0, c0, rfl, _⟩ := id hr
  rw [List.length_map] at hr hv ⊢
  have HR := Lib.hid hr; have HV := Lib.hid hv; have HD := Lib.hid hd; have HP := Lib.hid hp
  obtain ⟨n, hn⟩ : ∃ n, es.length = n := ⟨_, rfl⟩
  have HN := Lib.hid (fun _ : Unit => hn)
  have hn64 : n ≤ 64 := by rw [← hn]; exact hd.le
  obtain ⟨fs, hfs⟩ : ∃ fs : Files, es.map (fun e => (e.1, e.2.1)) = fs := ⟨_, rfl⟩
  have hfl : fs.length = n := by rw [← hfs, List.length_map, hn]
  rw [hfs] at NM ⊢
  have HFS := Lib.hid (fun _ : Unit => hfs); have HFL := Lib.hid (fun _ : Unit => hfl)
  clear hr hv hd hp hn hfs hfl
  go_enter Try.func58, Try.ntmps58
  go_upto_block 0 with (first
    | (go_at_call 79; refine MD.out.mono ?_; rintro e w' ⟨rfl, rfl⟩)
    | (go_at_call 61; refine NM.out.mono ?_; rintro e w1 ⟨vn, rfl, ho1, hb1⟩; obtain ⟨A1, c1, rfl, _⟩ := id (Rd.of_own ho1); rw [List.length_map, HFL.out ()] at ho1 ⊢))
  have hI0 : CrashAt w1 w1 B own g gm gp cuts fs 0 es := ⟨HD.out.stay hb1, by rw [HFS.out (), crashTo_zero], Turns.refl _ _⟩
  have HI0 := Lib.hid hI0; have HO1 := Lib.hid ho1; have HB1 := Lib.hid hb1
  clear hI0 ho1 hb1
  go_wp2_with fail
  go_loopw [14] (fun x wr => ∃ (i : Nat) (es' : List (Bt × Ent)), i ≤ n ∧ x = .int .i64 i ∧ CrashAt w1 wr B own g gm gp cuts fs i es') (fun x _ => n - (intOf x).toNat)
  case atStart => exact ⟨0, es, Nat.zero_le _, rfl, HI0.out⟩
  case round =>
    obtain ⟨i, es', hi, rfl, inv⟩ := hrel
    obtain ⟨wo, rfl⟩ : ∃ wo : World, wo = wr := ⟨_, rfl⟩
    have HI := Lib.hid inv
    clear inv HI0
    by_cases hlt : i < n
    · obtain ⟨e0, he0⟩ : ∃ e, fs[i]? = some e := ⟨_, List.getElem?_eq_getElem (by rw [HFL.out ()]; exact hlt)⟩
      obtain ⟨x, f⟩ := e0
      have h1 := crashTo_at (cuts := cuts) he0
      rw [← HI.out.is, List.getElem?_map] at h1
      obtain ⟨⟨x', eo⟩, hes, heq⟩ := Option.map_eq_some_iff.1 h1
      simp only [Prod.mk.injEq] at heq
      obtain ⟨rfl, rfl⟩ := heq
      have hD := HI.out.disk
      have hlk := look_at hD.rise hes
      obtain ⟨eo', Ao, co, hlo, hlf, heo, hag, hmem⟩ := hD.look (x := x') (by rw [lookF_map (fun e : Ent => e.1), hlk]; rfl)
      obtain rfl : eo = eo' := Option.some.inj (hlk.symm.trans hlo)
      have hfo := hD.file _ hmem
      obtain ⟨s, hs⟩ : ∃ s : ByteArray, s = ⟨x'.toArray⟩ := ⟨_, rfl⟩
      have hsx : s.data.toList = x' := by rw [hs]
      have hs40 : s.size ≤ maxLen := by
        have h1 : s.size = x'.length := by rw [hs]; simp [ByteArray.size]
        have h2 := hfo.name.2
        simp only at h2
        unfold maxLen; omega
      have hnc : ∃ b o, A1 = some ⟨b, o, none⟩ ∧ wo.cell? ⟨b, o + i, none⟩ = some (.string s) := by
        have h1 : (fs.map fun f => encStr f.1)[i]? = some (.string s) := by rw [List.getElem?_map, he0, hs]; rfl
        obtain ⟨b, o, h2, h3⟩ := Rd.get (Rd.of_own HO1.out) h1
        refine ⟨b, o, h2, HI.out.t.cell (fun hb => ?_) h3⟩
        have := (owns_lt HO1.out ⟨o, n, c1, by rw [h2]⟩).1
        have := (HD.out.dom b hb).2
        omega
      obtain ⟨b1, o1, rfl, hcn⟩ := hnc
      have hlu : (Instr.lookup 121 (.map (some gm)) (.string s) false).run Try.prog wo = .ok (.agg #[.slice Ao eo.1.data.length co, .int .i64 eo.1.kept]) wo := by
        have := hD.map.look Try.underlying121 (zfile wo) s hs40
        rw [hsx, hag] at this
        exact this
      have hc1 := hD.head.at_ 1 rfl
      obtain ⟨L, hL⟩ : ∃ L, eo.1.data.length = L := ⟨_, rfl⟩
      obtain ⟨kp, hkp⟩ : ∃ k, eo.1.kept = k := ⟨_, rfl⟩
      have hkl := hfo.kept
      have hsm := hfo.small
      obtain ⟨N, hN⟩ : ∃ N, cutN cuts[i]? eo.1 = N := ⟨_, rfl⟩
      have hNL := cutN_le cuts[i]? eo.1 hkl
      simp only [hL, hkp] at hkl hsm
      rw [hN, hL, hkp] at hNL
      rw [hL, hkp] at hlu
      rw [hL] at heo
      have HDX := Lib.hid hD; have HLK := Lib.hid (fun _ : Unit => hlk); have HFO := Lib.hid hfo; have HEO := Lib.hid (fun _ : Unit => heo); have HSX := Lib.hid (fun _ : Unit => hsx); have HE0 := Lib.hid (fun _ : Unit => he0); have HES := Lib.hid (fun _ : Unit => hes); have HL := Lib.hid (fun _ : Unit => hL); have HKP := Lib.hid (fun _ : Unit => hkp); have HNN := Lib.hid (fun _ : Unit => hN); have HHM := Lib.hid hmem
      clear hD hlk hlo hlf heo hag hmem hfo hs hsx he0 hes h1 hL hkp hN
      go_upto_region 6 with fail
      have hA5 : Below wo.heap.size wo (wo.alloc (.cells #[.slice Ao L co, .int .i64 kp] 147)) := bw_al (Below.refl _ _) (Nat.le_refl _) _
      have hF5 : Blk (wo.alloc (.cells #[.slice Ao L co, .int .i64 kp] 147)) wo.heap.size [.slice Ao L co, .int .i64 kp] 147 := Blk.mk_ _ rfl rfl
      obtain ⟨w5, hw5⟩ : ∃ w5, wo.alloc (.cells #[.slice Ao L co, .int .i64 kp] 147) = w5 := ⟨_, rfl⟩
      change Code.wp _ _ _ _ (wo.alloc (.cells #[.slice Ao L co, .int .i64 kp] 147))
      rw [hw5] at hA5 hF5 ⊢
      obtain ⟨gF, hgF⟩ : ∃ g, wo.heap.size = g := ⟨_, rfl⟩
      have HGF := Lib.hid (fun _ : Unit => hgF)
      rw [hgF] at hF5 ⊢
      have y0 := hF5.at_ 0 rfl
      have y1 := hF5.at_ 1 rfl
      have hzz := hF5.free 1
      have hz0 := hF5.free 0
      obtain ⟨K, hK⟩ : ∃ K, kp + N = K := ⟨_, rfl⟩
      have hKi : (kp : Int) + (N : Int) = (K : Int) := by omega
      have hKL : K ≤ L := by omega
      have hcp : (Ao = none → K = 0) ∧ K ≤ co := by
        have h1 := HFO.out.part
        rw [HEO.out ()] at h1
        rcases h1 with ⟨h1, h2⟩ | ⟨g', off, cap, cur, h1, h2, h3, h4, h5⟩
        · cases h1
          exact ⟨fun _ => (by omega), by omega⟩
        · cases h1
          rw [bs_len, HL.out ()] at h4
          exact ⟨(fun h => by cases h), by omega⟩
      have hcl : ∀ w', (Instr.slice 22 (.slice Ao L co) none (some (.int .i64 K)) (some (.int .i64 K))).run Try.prog w' = .ok (.slice Ao K K) w' := fun w' => run_clip w' Ao L co K hcp.1 hcp.2
      have hcl2 : ∀ w', (Instr.sliceAt 22 (.slice Ao L co) none (some (.int .i64 K)) (some (.int .i64 K))).run Try.prog w' = .ok (.slice Ao K K) w' := fun w' => (run_sliceAt_slice (w := w') _ _ _ _ _ (by kernel_rfl)).trans (hcl w')
      have HKK := Lib.hid (fun _ : Unit => hK); have HCP := Lib.hid (fun _ : Unit => hcp)
      clear hK hw5 hgF hlu hcn hc1
      by_cases hic : i < cuts.length
      · obtain ⟨b2, o2, rfl, hcc⟩ := Rd.get (HR.out) (j := i) (x := .int .i64 cuts[i]) (by rw [List.getElem?_map, List.getElem?_eq_getElem hic]; rfl)
        obtain ⟨z, hz⟩ : ∃ z, cuts[i] = z := ⟨_, rfl⟩
        rw [hz] at hcc
        have hc5 : w5.cell? ⟨b2, o2 + i, none⟩ = some (.int .i64 z) := by
          refine cell_stay hA5 (HI.out.t.cell (fun hb => HV.out (fun e => by rw [e] at hic; simp at hic) b2 ⟨_, _, _, rfl⟩ hb) (cell_stay HB1.out hcc))
        have hw1 : IntKind.u64.wrap ((L : Int) - kp + 1) = (L : Int) - kp + 1 := by rw [IntKind.wrap_u64]; omega
        have hwz : 0 ≤ IntKind.u64.wrap z := by rw [IntKind.wrap_u64]; omega
        have hw2 : (IntKind.u64.wrap z).tmod ((L : Int) - kp + 1) = (N : Int) := by
          have h1 := HNN.out ()
          rw [List.getElem?_eq_getElem hic, hz] at h1
          unfold cutN at h1
          simp only [HL.out (), HKP.out ()] at h1
          rw [Int.tmod_eq_emod_of_nonneg hwz, ← h1]
          have := Int.emod_nonneg (IntKind.u64.wrap z) (show ((L : Int) - kp + 1) ≠ 0 by omega)
          omega
        have hw3 : IntKind.i64.wrap (N : Int) = N := by rw [IntKind.wrap_i64]; omega
        have hw4 : IntKind.u64.wrap (N : Int) = N := by rw [IntKind.wrap_u64]; omega
        clear hcc
        go_upto_region 7 with fail
        refine region_plan ⟨[0, 0, 3, 7, 15, 0, 32, 96, 0, 256, 992, 2016, 4064, 8191, 16383, 32767], [], [0, 0, 0, 0, 0, 0, 0, 0, 0, 0, 0, 0, 0, 0, 0, 0]⟩
          [⟨[0, 1, 2, 3, 4, 5, 6, 7, 8, 9, 10, 11, 12, 13, 14, 15], [2, 3, 4, 5, 6, 7, 8, 9, 10, 11, 12, 13, 14], none⟩] 70 (by kernel_rfl) (by kernel_rfl) (by kernel_rfl) (by kernel_rfl) rfl ?_
        simp only [SeqGo, opsAt_cons, opsAt_nil, List.getElem?_cons, Option.toList_some, List.singleton_append, ↓reduceIte, Nat.reduceEqDiff, Nat.reduceSub]
        go_wp2_with fail
        refine ⟨by (simp only [Sames, Same]; go_simp; exact ⟨by rw [IntKind.wrap_i64]; omega, by rw [IntKind.wrap_i64]; omega, by omega⟩), ?_⟩
        go_upto_region 9 with fail
        obtain ⟨w6, hw6⟩ : ∃ w6, w5.setCell ⟨gF, 1, none⟩ (.int .i64 K) = w6 := ⟨_, rfl⟩
        rw [hw6]
        have hF6 : Blk w6 gF [.slice Ao L co, .int .i64 K] 147 := by rw [← hw6]; exact hF5.set 1 _
        have hO6 : Only gF w5 w6 := by rw [← hw6]; exact Only.set _ _ _ _
        have x0 := hF6.at_ 0 rfl
        have x1 := hF6.at_ 1 rfl
        have xf := hF6.free 0
        have HF6 := Lib.hid hF6; have HO6 := Lib.hid hO6
        clear hF6 hO6 hw6 y0 y1 hzz hz0
        go_upto_region 10 with fail
        obtain ⟨w7, hw7⟩ : ∃ w7, w6.setCell ⟨gF, 0, none⟩ (.slice Ao K K) = w7 := ⟨_, rfl⟩
        rw [hw7]
        have hF7 : Blk w7 gF [.slice Ao K K, .int .i64 K] 147 := by rw [← hw7]; exact HF6.out.set 0 _
        have hO7 : Only gF w6 w7 := by rw [← hw7]; exact Only.set _ _ _ _
        have hO57 := HO6.out.trans hO7
        have hng : ∀ k, own k → k ≠ gF := fun k hk e => by have := (HDX.out.dom k hk).2; have := HGF.out (); omega
        have hH7 : Blk w7 g [ptrV (some gp), .map (some gm)] 123 := (HDX.out.head.stay hA5).only hO57 (hng g HDX.out.og)
        have hM7 : FMap w7 gm (es'.map fun e => (e.1, entV e.2)) := (HDX.out.map.stay hA5).keep (hO57.block gm (hng gm HDX.out.om))
        have k1 : ∀ w', Below w7.heap.size w7 w' → w'.cell? ⟨g, 1, none⟩ = some (.map (some gm)) := fun w' hb => (hH7.stay hb).at_ 1 rfl
        have u0 : ∀ w', Below w7.heap.size w7 w' → w'.cell? ⟨gF, 0, none⟩ = some (.slice Ao K K) := fun w' hb => (hF7.stay hb).at_ 0 rfl
        have u1 : ∀ w', Below w7.heap.size w7 w' → w'.cell? ⟨gF, 1, none⟩ = some (.int .i64 K) := fun w' hb => (hF7.stay hb).at_ 1 rfl
        have hr7 : Below w7.heap.size w7 w7 := Below.refl _ _
        have hD7 : Below w7.heap.size w7 w7.drew := bw_d1 (Below.refl _ _)
        have hle7 : (es'.map fun e => (e.1, entV e.2)).length < maxLen := by rw [List.length_map]; have := HDX.out.le; unfold maxLen; omega
        have HM7 := Lib.hid (hM7.stay hD7); have HLE7 := Lib.hid hle7; have HO57 := Lib.hid hO57; have HNG := Lib.hid hng; have HA5 := Lib.hid hA5
        clear hF7 hH7 hM7 hle7 hw7 hO7 hO57 hng x0 x1 xf hA5
        refine region_plan ⟨[0, 1, 3, 7, 0, 0, 63], [6], [0, 0, 0, 0, 0, 0, 0]⟩
          [⟨[0, 1, 2, 3, 4, 5], [1, 2, 3, 5], some 6⟩, ⟨[], [], none⟩] 70 (by kernel_rfl) (by kernel_rfl) (by kernel_rfl) (by kernel_rfl) rfl ?_
        simp only [SeqGo, opsAt_cons, opsAt_nil, List.getElem?_cons, Option.toList_some, List.singleton_append, ↓reduceIte, Nat.reduceEqDiff, Nat.reduceSub]
        go_wp2_with fail
        refine ⟨by (simp only [Sames, Same]; go_simp), ?_⟩
        go_wp2_with (at_mapUpdate; refine wp_fput _ _ _ 121 147 rfl rfl Try.underlying121 rfl HM7.out HLE7.out rfl rfl hs40 ?_; intro w8 hm8 ho8)
        refine ⟨trivial, ?_⟩
        go_wp2_with fail
        have ho8 : Only gm w7 w8 := ⟨ho8.os, ho8.tape, ho8.output, ho8.size, ho8.block⟩
        have hfo := HFO.out
        have hD := HDX.out
        have hd5 := hD.stay HA5.out
        have hmine : ∀ k, hold (.slice Ao L co) k → own k ∧ k ≠ g ∧ k ≠ gm := fun k hk => hfo.mine k (by rw [HEO.out ()]; exact hk)
        have hold' : ∀ k, hold (.slice Ao K K) k → hold (.slice Ao L co) k := fun k ⟨o, n', c', hk⟩ => by cases hk; exact ⟨_, _, _, rfl⟩
        rw [HSX.out ()] at hm8
        have hset := hd5.set (w' := w8) (own' := own) x' (crash1 cuts[i]? eo.1, .slice Ao K K)
          (by have := putF_map entV es' x' (crash1 cuts[i]? eo.1, .slice Ao K K); rw [← this]; have e : entV (crash1 cuts[i]? eo.1, .slice Ao K K) = .agg #[.slice Ao K K, .int .i64 K] := by show fileV _ _ = _; unfold fileV crash1; simp only [HKP.out (), HNN.out (), HKK.out ()]
              rw [e]; exact hm8)
          (fun k hk hn _ => (ho8.block k hn).trans (HO57.out.block k (HNG.out k hk))) (fun k hk => hk) (fun k hk => by rw [ho8.size, HO57.out.size]; exact hd5.dom k hk)
          ⟨by
            have h1 := (hd5.file _ HHM.out).part
            rw [HEO.out ()] at h1
            have h2 := h1.clip K (by rw [bs_len, HL.out ()]; exact hKL)
            have e : (crash1 cuts[i]? eo.1).data = eo.1.data.take K := by unfold crash1; simp only [HKP.out (), HNN.out (), HKK.out ()]
            have h3 : bs (crash1 cuts[i]? eo.1).data = (bs eo.1.data).take K := by rw [e]; simp [bs, List.map_take]
            rw [h3]
            exact h2.move fun k o n' c' hk => by
              have h4 := hmine k (hold' k ⟨_, _, _, hk⟩)
              exact (ho8.block k h4.2.2).trans (HO57.out.block k (HNG.out k h4.1)),
          fun z hz => hfo.isB z (List.mem_of_mem_take hz),
          by
            have e : (crash1 cuts[i]? eo.1).kept = K := by unfold crash1; simp only [HKP.out (), HNN.out (), HKK.out ()]
            have e2 : (crash1 cuts[i]? eo.1).data.length = K := by unfold crash1; simp only [HKP.out (), HNN.out (), HKK.out (), List.length_take, HL.out ()]; omega
            simp only [e, e2]; exact Nat.le_refl _,
          by
            have e2 : (crash1 cuts[i]? eo.1).data.length = K := by unfold crash1; simp only [HKP.out (), HNN.out (), HKK.out (), List.length_take, HL.out ()]; omega
            simp only [e2]; omega,
          hfo.name, fun k hk => hmine k (hold' k hk)⟩
          (fun k hk => .inl ⟨eo, HLK.out (), by rw [HEO.out ()]; exact hold' k hk⟩)
          (putF_full (by rw [HLK.out ()]; rfl) hD.le _)
        rw [putF_set hD.rise (HES.out ())] at hset
        refine ⟨⟨i + 1, _, by omega, by simp, hset, ?_, ?_⟩, by simp [intOf]; omega⟩
        · rw [← crashTo_next (HE0.out ()), ← HI.out.is, List.map_set]
        · have t1 : Turns own wo w8 := by
            have t0 := turns_grow (own := own) (q := none) ((Turns.of_below HA5.out).mono (S' := fun b => own b ∨ (none : Option Nat) = some b) (fun _ h => False.elim h)) (Turns.of_only HO57.out (S := fun k => k = gF) rfl) (fun k hk => .inr (by rw [hk, HGF.out ()]; exact Nat.le_refl _))
            have t2 := turns_grow t0 (Turns.of_only ho8 (S := fun k => k = gm) rfl) (fun k hk => .inl (by rw [hk]; exact hD.om))
            exact t2.mono fun k hk => hk.elim id fun h => by cases h
          exact HI.out.t.trans t1
      · obtain rfl : N = 0 := by
          have h1 := HNN.out ()
          rw [List.getElem?_eq_none (by omega)] at h1
          exact h1.symm
        obtain rfl : kp = K := HKK.out ()
        go_upto_region 9 with fail
        obtain ⟨w6, hw6⟩ : ∃ w6, w5.setCell ⟨gF, 1, none⟩ (.int .i64 kp) = w6 := ⟨_, rfl⟩
        rw [hw6]
        have hF6 : Blk w6 gF [.slice Ao L co, .int .i64 kp] 147 := by rw [← hw6]; exact hF5.set 1 _
        have hO6 : Only gF w5 w6 := by rw [← hw6]; exact Only.set _ _ _ _
        have x0 := hF6.at_ 0 rfl
        have x1 := hF6.at_ 1 rfl
        have xf := hF6.free 0
        have HF6 := Lib.hid hF6; have HO6 := Lib.hid hO6
        clear hF6 hO6 hw6 y0 y1 hzz hz0
        go_upto_region 10 with fail
        obtain ⟨w7, hw7⟩ : ∃ w7, w6.setCell ⟨gF, 0, none⟩ (.slice Ao kp kp) = w7 := ⟨_, rfl⟩
        rw [hw7]
        have hF7 : Blk w7 gF [.slice Ao kp kp, .int .i64 kp] 147 := by rw [← hw7]; exact HF6.out.set 0 _
        have hO7 : Only gF w6 w7 := by rw [← hw7]; exact Only.set _ _ _ _
        have hO57 := HO6.out.trans hO7
        have hng : ∀ k, own k → k ≠ gF := fun k hk e => by have := (HDX.out.dom k hk).2; have := HGF.out (); omega
        have hH7 : Blk w7 g [ptrV (some gp), .map (some gm)] 123 := (HDX.out.head.stay hA5).only hO57 (hng g HDX.out.og)
        have hM7 : FMap w7 gm (es'.map fun e => (e.1, entV e.2)) := (HDX.out.map.stay hA5).keep (hO57.block gm (hng gm HDX.out.om))
        have k1 : ∀ w', Below w7.heap.size w7 w' → w'.cell? ⟨g, 1, none⟩ = some (.map (some gm)) := fun w' hb => (hH7.stay hb).at_ 1 rfl
        have u0 : ∀ w', Below w7.heap.size w7 w' → w'.cell? ⟨gF, 0, none⟩ = some (.slice Ao kp kp) := fun w' hb => (hF7.stay hb).at_ 0 rfl
        have u1 : ∀ w', Below w7.heap.size w7 w' → w'.cell? ⟨gF, 1, none⟩ = some (.int .i64 kp) := fun w' hb => (hF7.stay hb).at_ 1 rfl
        have hr7 : Below w7.heap.size w7 w7 := Below.refl _ _
        have hD7 : Below w7.heap.size w7 w7.drew := bw_d1 (Below.refl _ _)
        have hle7 : (es'.map fun e => (e.1, entV e.2)).length < maxLen := by rw [List.length_map]; have := HDX.out.le; unfold maxLen; omega
        have HM7 := Lib.hid (hM7.stay hD7); have HLE7 := Lib.hid hle7; have HO57 := Lib.hid hO57; have HNG := Lib.hid hng; have HA5 := Lib.hid hA5
        clear hF7 hH7 hM7 hle7 hw7 hO7 hO57 hng x0 x1 xf hA5
        refine region_plan ⟨[0, 1, 3, 7, 0, 0, 63], [6], [0, 0, 0, 0, 0, 0, 0]⟩
          [⟨[0, 1, 2, 3, 4, 5], [1, 2, 3, 5], some 6⟩, ⟨[], [], none⟩] 70 (by kernel_rfl) (by kernel_rfl) (by kernel_rfl) (by kernel_rfl) rfl ?_
        simp only [SeqGo, opsAt_cons, opsAt_nil, List.getElem?_cons, Option.toList_some, List.singleton_append, ↓reduceIte, Nat.reduceEqDiff, Nat.reduceSub]
        go_wp2_with fail
        refine ⟨by (simp only [Sames, Same]; go_simp), ?_⟩
        go_wp2_with (at_mapUpdate; refine wp_fput _ _ _ 121 147 rfl rfl Try.underlying121 rfl HM7.out HLE7.out rfl rfl hs40 ?_; intro w8 hm8 ho8)
        refine ⟨trivial, ?_⟩
        go_wp2_with fail
        have ho8 : Only gm w7 w8 := ⟨ho8.os, ho8.tape, ho8.output, ho8.size, ho8.block⟩
        have hfo := HFO.out
        have hD := HDX.out
        have hd5 := hD.stay HA5.out
        have hmine : ∀ k, hold (.slice Ao L co) k → own k ∧ k ≠ g ∧ k ≠ gm := fun k hk => hfo.mine k (by rw [HEO.out ()]; exact hk)
        have hold' : ∀ k, hold (.slice Ao kp kp) k → hold (.slice Ao L co) k := fun k ⟨o, n', c', hk⟩ => by cases hk; exact ⟨_, _, _, rfl⟩
        rw [HSX.out ()] at hm8
        have hset := hd5.set (w' := w8) (own' := own) x' (crash1 cuts[i]? eo.1, .slice Ao kp kp)
          (by have := putF_map entV es' x' (crash1 cuts[i]? eo.1, .slice Ao kp kp); rw [← this]; have e : entV (crash1 cuts[i]? eo.1, .slice Ao kp kp) = .agg #[.slice Ao kp kp, .int .i64 kp] := by show fileV _ _ = _; unfold fileV crash1; simp only [HKP.out (), HNN.out (), HKK.out ()]
              rw [e]; exact hm8)
          (fun k hk hn _ => (ho8.block k hn).trans (HO57.out.block k (HNG.out k hk))) (fun k hk => hk) (fun k hk => by rw [ho8.size, HO57.out.size]; exact hd5.dom k hk)
          ⟨by
            have h1 := (hd5.file _ HHM.out).part
            rw [HEO.out ()] at h1
            have h2 := h1.clip kp (by rw [bs_len, HL.out ()]; exact hKL)
            have e : (crash1 cuts[i]? eo.1).data = eo.1.data.take kp := by unfold crash1; simp only [HKP.out (), HNN.out (), HKK.out ()]
            have h3 : bs (crash1 cuts[i]? eo.1).data = (bs eo.1.data).take kp := by rw [e]; simp [bs, List.map_take]
            rw [h3]
            exact h2.move fun k o n' c' hk => by
              have h4 := hmine k (hold' k ⟨_, _, _, hk⟩)
              exact (ho8.block k h4.2.2).trans (HO57.out.block k (HNG.out k h4.1)),
          fun z hz => hfo.isB z (List.mem_of_mem_take hz),
          by
            have e : (crash1 cuts[i]? eo.1).kept = kp := by unfold crash1; simp only [HKP.out (), HNN.out (), HKK.out ()]
            have e2 : (crash1 cuts[i]? eo.1).data.length = kp := by unfold crash1; simp only [HKP.out (), HNN.out (), HKK.out (), List.length_take, HL.out ()]; omega
            simp only [e, e2]; exact Nat.le_refl _,
          by
            have e2 : (crash1 cuts[i]? eo.1).data.length = kp := by unfold crash1; simp only [HKP.out (), HNN.out (), HKK.out (), List.length_take, HL.out ()]; omega
            simp only [e2]; omega,
          hfo.name, fun k hk => hmine k (hold' k hk)⟩
          (fun k hk => .inl ⟨eo, HLK.out (), by rw [HEO.out ()]; exact hold' k hk⟩)
          (putF_full (by rw [HLK.out ()]; rfl) hD.le _)
        rw [putF_set hD.rise (HES.out ())] at hset
        refine ⟨⟨i + 1, _, by omega, by simp, hset, ?_, ?_⟩, by simp [intOf]; omega⟩
        · rw [← crashTo_next (HE0.out ()), ← HI.out.is, List.map_set]
        · have t1 : Turns own wo w8 := by
            have t0 := turns_grow (own := own) (q := none) ((Turns.of_below HA5.out).mono (S' := fun b => own b ∨ (none : Option Nat) = some b) (fun _ h => False.elim h)) (Turns.of_only HO57.out (S := fun k => k = gF) rfl) (fun k hk => .inr (by rw [hk, HGF.out ()]; exact Nat.le_refl _))
            have t2 := turns_grow t0 (Turns.of_only ho8 (S := fun k => k = gm) rfl) (fun k hk => .inl (by rw [hk]; exact hD.om))
            exact t2.mono fun k hk => hk.elim id fun h => by cases h
          exact HI.out.t.trans t1
    · obtain rfl : i = n := by omega
      have k0 := HI.out.disk.head.at_ 0 rfl
      have hpw := (HP.out.stay HB1.out).turns HI.out.t (fun k hk e => hq (by cases hk; exact e))
      have MN := Lib.hid (mend_any p gp wo (hpw.1 gp rfl) hmd)
      have HPW := Lib.hid hpw
      clear hpw
      simp only [ptrV, Option.map_some] at k0
      go_wp2_with (go_at_call 47; refine MN.out.mono ?_; rintro e w' ⟨rfl, h1, h2⟩)
      go_end0
      have hT := HI.out.t
      have hfin : Disk wo B own g (some gp) (crashS cuts fs) := ⟨gm, es', HI.out.disk, by rw [HI.out.is, ← HFL.out (), crashTo_all]⟩
      refine ⟨rfl, hfin.turns (Turns.of_only h2 (S := fun k => k = gp) rfl) (fun b hb e => hq (e ▸ hb)), ⟨fun k hk => by cases hk; exact h1, fun h => by cases h⟩, ?_⟩
      exact ((Turns.of_below HB1.out).trans (hT.mono fun k hk => .inl hk)).trans (Turns.of_only h2 (.inr rfl))
end Go.Proofs.Ytlgcnnhlbkidmaa
