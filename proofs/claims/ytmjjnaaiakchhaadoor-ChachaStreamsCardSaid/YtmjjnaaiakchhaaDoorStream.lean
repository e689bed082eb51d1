/-
  chacha.Stream: where it stands; New, Left.
-/
import Derived.Test.YtmjjnaaiakchhaaDoorAtArg
import Derived.Test.YtmjjnaaiakchhaaDoorSub
import Derived.Test.YtmjjnaaiakchhaaDoorBlockC
import Derived.Test.YtmjjnaaiakchhaaDoorSeq
import Derived.Test.YtmjjnaaiakchhaaDoorBuild
import Derived.Deep.QuietTactic
import Derived.BigQuiet
namespace Go.Proofs.YtmjjnaaiakchhaaDoor
open Go.RowKit

/-- Byte number i of the stream from counter c on. -/
def ksB (key nonce : List Int) (c : Int) (i : Nat) : Int := (block key (c + (i / 64 : Nat)) nonce).getD (i % 64) 0
def ksL (key nonce : List Int) (c : Int) (a n : Nat) : List Int := (List.range n).map fun j => ksB key nonce c (a + j)
theorem ksL_len (key nonce : List Int) (c : Int) (a n : Nat) : (ksL key nonce c a n).length = n := by simp [ksL]
theorem ksL_cons (key nonce : List Int) (c : Int) (a n : Nat) : ksL key nonce c a (n + 1) = ksB key nonce c a :: ksL key nonce c (a + 1) n := by
  simp only [ksL, List.range_succ_eq_map, List.map_cons, List.map_map, Nat.add_zero, List.cons.injEq, true_and]
  apply List.map_congr_left
  intro j _
  simp only [Function.comp]
  congr 1
  omega
theorem ksL_block (key nonce : List Int) (c : Int) (q : Nat) (h : (block key (c + (q : Nat)) nonce).length = 64) : ksL key nonce c (64 * q) 64 = block key (c + (q : Nat)) nonce := by
  apply List.ext_getElem (by rw [ksL_len, h])
  intro j h1 h2
  rw [ksL_len] at h1
  simp only [ksL, List.getElem_map, List.getElem_range, ksB]
  rw [show (64 * q + j) / 64 = q by omega, show (64 * q + j) % 64 = j by omega, List.getD_eq_getElem?_getD, List.getElem?_eq_getElem h2]
  rfl
theorem ksL_append (key nonce : List Int) (c : Int) (a n m : Nat) : ksL key nonce c a (n + m) = ksL key nonce c a n ++ ksL key nonce c (a + n) m := by
  induction n generalizing a with
  | zero => simp [ksL]
  | succ n ih => rw [show n + 1 + m = (n + m) + 1 by omega, ksL_cons, ksL_cons, ih, List.cons_append, show a + 1 + n = a + (n + 1) by omega]

/-- How many bytes of a begun block are left. -/
def left64 (pos : Nat) : Nat := (64 - pos % 64) % 64
def streamC (key nonce : List Int) (next : Int) (rest : Value) (made : Bool) : List Value := bs key ++ bs nonce ++ [.int .u64 next, rest, .bool made]

/-- A stream that stands at byte 'pos'. -/
structure StreamAt (w : World) (g : Nat) (key nonce : List Int) (c : Int) (pos : Nat) (rest : Value) : Prop where
  blk : Blk w g (streamC key nonce (c + ((pos + 63) / 64 : Nat)) rest true) 73
  rd : Rd w rest (bs (ksL key nonce c pos (left64 pos)))
  far : ∀ b o n k, rest = .slice (some ⟨b, o, none⟩) n k → b ≠ g ∧ b < w.heap.size

theorem StreamAt.stay {w w' : World} {g : Nat} {key nonce : List Int} {c : Int} {pos : Nat} {rest : Value} (h : StreamAt w g key nonce c pos rest) (hb : Below w.heap.size w w') : StreamAt w' g key nonce c pos rest :=
  ⟨h.blk.stay hb, h.rd.stay hb (Nat.le_refl _), fun b o n k e => ⟨(h.far b o n k e).1, Nat.lt_of_lt_of_le (h.far b o n k e).2 hb.size⟩⟩

theorem streamC_len (key nonce : List Int) (next : Int) (rest : Value) (made : Bool) (hk : key.length = 32) (hn : nonce.length = 12) : (streamC key nonce next rest made).length = 47 := by
  simp [streamC, bs_len, hk, hn]
theorem streamC_at (key nonce : List Int) (next : Int) (rest : Value) (made : Bool) (hk : key.length = 32) (hn : nonce.length = 12) :
    (streamC key nonce next rest made)[44]? = some (.int .u64 next) ∧ (streamC key nonce next rest made)[45]? = some rest ∧ (streamC key nonce next rest made)[46]? = some (.bool made) := by
  unfold streamC
  have h44 : (bs key ++ bs nonce).length = 44 := by simp [bs_len, hk, hn]
  refine ⟨?_, ?_, ?_⟩ <;> rw [List.getElem?_append_right (by omega), h44] <;> rfl

theorem block_len (key nonce : List Int) (c : Int) : (block key c nonce).length = 64 := by simp [block, outK_len]

theorem left_nil (w : World) : Calls Tryd.prog 22 #[.pointer none] w fun e w' => e = .returned (.int .u64 0) ∧ Below w.heap.size w w' := by
  go_enter Tryd.func22, Tryd.ntmps22
  go_wp2_with fail
  all_goals (go_ret; exact ⟨rfl, Below.refl _ _⟩)

set_option maxHeartbeats 1000000 in
theorem left_any (w : World) (g : Nat) (key nonce : List Int) (c : Int) (pos : Nat) (rest : Value) (hk : key.length = 32) (hn : nonce.length = 12) (hs : StreamAt w g key nonce c pos rest) (hc : 0 ≤ c ∧ c < 4294967296) (hpos : (pos : Int) ≤ (4294967296 - c) * 64) :
    Calls Tryd.prog 22 #[.pointer (some ⟨g, 0, none⟩)] w fun e w' => e = .returned (.int .u64 ((4294967296 - c) * 64 - pos)) ∧ Below w.heap.size w w' := by
  obtain ⟨q1, q2, q3⟩ := streamC_at key nonce (c + ((pos + 63) / 64 : Nat)) rest true hk hn
  have c44 : w.cell? ⟨g, 44, none⟩ = some (.int .u64 (c + ((pos + 63) / 64 : Nat))) := (hs.blk.get 44).trans q1
  have c45 : w.cell? ⟨g, 45, none⟩ = some rest := (hs.blk.get 45).trans q2
  have c46 : w.cell? ⟨g, 46, none⟩ = some (.bool true) := (hs.blk.get 46).trans q3
  obtain ⟨A, k, hrest, _, _, _, _⟩ := hs.rd
  rw [bs_len, ksL_len] at hrest
  subst hrest
  obtain ⟨q, hq⟩ : ∃ q, (pos + 63) / 64 = q := ⟨_, rfl⟩
  obtain ⟨r, hr⟩ : ∃ r, left64 pos = r := ⟨_, rfl⟩
  have hr1 : r ≤ 63 := by rw [← hr]; unfold left64; omega
  have hqr : 64 * q = pos + r := by rw [← hr, ← hq]; unfold left64; omega
  rw [hq] at c44
  rw [hr] at c45
  have hq2 : c + (q : Int) ≤ 4294967296 := by omega
  have hfin : (4294967296 - (c + (q : Int))) * 64 + (r : Int) = (4294967296 - c) * 64 - pos := by omega
  clear hq hr hs q1 q2 q3
  go_enter Tryd.func22, Tryd.ntmps22
  go_upto_region 3 with fail
  go_quiet (fail)
  go_wp2_with fail
  all_goals go_ret
  exact ⟨rfl, bw_dr (Below.refl _ _) _⟩

theorem infoStream : (Tryd.prog.info? 73).map (·.zero) = some (some (.agg (bs (List.replicate 32 0) ++ (bs (List.replicate 12 0) ++ [Value.int .u64 0, Value.slice none 0 0, Value.bool false])).toArray)) := by kernel_rfl
set_option maxRecDepth 100000 in
theorem build_stream (key nonce : List Int) (hk : key.length = 32) (hn : nonce.length = 12) (c : Int) (w : World) : (Instr.build 73 #[(0, .agg (bs key).toArray), (1, .agg (bs nonce).toArray), (2, .int .u64 c), (4, .bool true)]).run Tryd.prog w = .ok (.agg (bs key ++ bs nonce ++ [Value.int .u64 c, Value.slice none 0 0, Value.bool true]).toArray) w := by
  obtain ⟨i, hi, hz⟩ := Option.map_eq_some_iff.1 infoStream
  obtain ⟨fs, hfs, hpl⟩ : ∃ fs, Tryd.prog.underlying 73 = some (.struct fs) ∧ ∀ w, (Array.mapM (fun (f : Field) => do pure (f.offset, ← sizeOf f.type)) fs : Sem (Array (Nat × Nat))).run Tryd.prog w = .ok #[(0, 32), (32, 12), (44, 1), (45, 1), (46, 1)] w := ⟨_, Tryd.underlying73, fun w => by kernel_rfl⟩
  have hl0 : (bs key).length = 32 := by rw [bs_len, hk]
  have hl1 : (bs nonce).length = 12 := by rw [bs_len, hn]
  unfold Instr.build
  simp only [Sem.run_bind, zeroValue, typeInfo, run_program, Result.andThen_ok, hi, hz, Sem.run_pure, run_underlying hfs, hpl]
  have h0 : ∀ place : Nat → Option (Nat × Nat), place 0 = some (0, 32) → place 1 = some (32, 12) → place 2 = some (44, 1) → place 4 = some (46, 1) → Instr.fill place (bs (List.replicate 32 0) ++ (bs (List.replicate 12 0) ++ [Value.int .u64 0, Value.slice none 0 0, Value.bool false])).toArray [(0, .agg (bs key).toArray), (1, .agg (bs nonce).toArray), (2, .int .u64 c), (4, .bool true)] =
      some (bs key ++ bs nonce ++ [Value.int .u64 c, Value.slice none 0 0, Value.bool true]).toArray := by
    intro place p0 p1 p2 p4
    have r32 : (bs (List.replicate 32 0)).length = 32 := by rw [bs_len, List.length_replicate]
    have r12 : (bs (List.replicate 12 0)).length = 12 := by rw [bs_len, List.length_replicate]
    generalize bs (List.replicate 32 0) = z32 at *
    generalize bs (List.replicate 12 0) = z12 at *
    have e1 : spl (z32 ++ (z12 ++ [Value.int .u64 0, Value.slice none 0 0, Value.bool false])) 0 (bs key) = bs key ++ (z12 ++ [Value.int .u64 0, Value.slice none 0 0, Value.bool false]) := by
      simp only [spl, List.take_zero, List.nil_append, Nat.zero_add, hl0]
      rw [← r32, List.drop_left]
    have e2 : spl (bs key ++ (z12 ++ [Value.int .u64 0, Value.slice none 0 0, Value.bool false])) 32 (bs nonce) = bs key ++ (bs nonce ++ [Value.int .u64 0, Value.slice none 0 0, Value.bool false]) := by
      simp only [spl, hl1]
      rw [← hl0, List.take_left, ← List.drop_drop, List.drop_left, ← r12, List.drop_left, List.append_assoc]
    have e3 : spl (bs key ++ (bs nonce ++ [Value.int .u64 0, Value.slice none 0 0, Value.bool false])) 44 [Value.int .u64 c] = bs key ++ (bs nonce ++ [Value.int .u64 c, Value.slice none 0 0, Value.bool false]) := by
      have h44 : (bs key ++ bs nonce).length = 44 := by simp [hl0, hl1]
      simp only [spl, ← List.append_assoc]
      rw [← h44, List.take_left, ← List.drop_drop, List.drop_left]
      simp
    have e4 : spl (bs key ++ (bs nonce ++ [Value.int .u64 c, Value.slice none 0 0, Value.bool false])) 46 [Value.bool true] = bs key ++ bs nonce ++ [Value.int .u64 c, Value.slice none 0 0, Value.bool true] := by
      have h46 : (bs key ++ bs nonce ++ [Value.int .u64 c, Value.slice none 0 0]).length = 46 := by simp [hl0, hl1]
      rw [show bs key ++ (bs nonce ++ [Value.int .u64 c, Value.slice none 0 0, Value.bool false]) = (bs key ++ bs nonce ++ [Value.int .u64 c, Value.slice none 0 0]) ++ [Value.bool false] by simp]
      simp only [spl]
      rw [← h46, List.take_left, ← List.drop_drop, List.drop_left]
      simp
    rw [fill_spl p0 (by show (bs key).toArray.size = 32; rw [List.size_toArray, hl0]) (by simp [r32, r12])]
    simp only [Value.cells]
    rw [e1, fill_spl p1 (by show (bs nonce).toArray.size = 12; rw [List.size_toArray, hl1]) (by simp [hl0, r12])]
    simp only [Value.cells]
    rw [e2, fill_spl p2 rfl (by simp [hl0, hl1])]
    simp only [Value.cells]
    rw [e3, fill_spl p4 rfl (by simp [hl0, hl1])]
    simp only [Value.cells]
    rw [e4, Instr.fill]
  have h1 := h0 (fun x => (#[(0, 32), (32, 12), (44, 1), (45, 1), (46, 1)] : Array (Nat × Nat))[x]?) rfl rfl rfl rfl
  simp only [Value.cells]
  rw [h1]
  rfl
theorem wp_build_stream {ops : Array Oper} {rest : List Oper} {o : Oper} {a : Act} {w : World} {Q : Exit → Act → World → Prop} (hg : o.guard = none) (x0 x1 x2 : Tmp) (ho : o.op = .build 73 #[(0, .tmp x0), (1, .tmp x1), (2, .tmp x2), (4, .const (.bool true))])
    {key nonce : List Int} {c : Int} (hk : key.length = 32) (hn : nonce.length = 12) (h0 : a.eval (.tmp x0) = .agg (bs key).toArray) (h1 : a.eval (.tmp x1) = .agg (bs nonce).toArray) (h2 : a.eval (.tmp x2) = .int .u64 c)
    (h : wpList Tryd.prog ops Q rest (a.put o.dst (.agg (streamC key nonce c (.slice none 0 0) true).toArray)) w) : wpList Tryd.prog ops Q (o :: rest) a w := by
  refine wp_value hg ?_ h
  have h3 : a.eval (.const (.bool true)) = .bool true := rfl
  simp only [execOp, ho, List.map_toArray, List.map_cons, List.map_nil, h0, h1, h2, h3, Sem.run_bind, build_stream key nonce hk hn, Result.andThen_ok, Sem.run_pure]
  rfl

set_option maxRecDepth 100000 in
set_option maxHeartbeats 1000000 in
theorem newstream_any (w : World) (key nonce : List Int) (c : Int) (hk : key.length = 32) (hn : nonce.length = 12) (hc : 0 ≤ c ∧ c < 4294967296) :
    Calls Tryd.prog 19 #[.agg (bs key).toArray, .int .u32 c, .agg (bs nonce).toArray] w fun e w' => ∃ g, e = .returned (.pointer (some ⟨g, 0, none⟩)) ∧ w.heap.size ≤ g ∧ StreamAt w' g key nonce c 0 (.slice none 0 0) ∧ Below w.heap.size w w' := by
  have HK := Lib.hid hk
  have HN := Lib.hid hn
  clear hk hn
  obtain ⟨B, hB⟩ : ∃ B, w.heap.size = B := ⟨_, rfl⟩
  go_enter Tryd.func19, Tryd.ntmps19
  go_upto_region 1 with fail
  have b0 : Blk ((w.alloc (.cells (bs key).toArray 22)).alloc (.cells (bs nonce).toArray 24)) B (bs key) 22 := (Blk.mk_ _ hB.symm rfl).al _
  have b1 : Blk ((w.alloc (.cells (bs key).toArray 22)).alloc (.cells (bs nonce).toArray 24)) (B + 1) (bs nonce) 24 := Blk.mk_ _ (by simp [hB]) rfl
  have bb : Below B w ((w.alloc (.cells (bs key).toArray 22)).alloc (.cells (bs nonce).toArray 24)) := bw_al (bw_al (Below.refl _ _) (by omega) _) (by simp; omega) _
  generalize ((w.alloc (.cells (bs key).toArray 22)).alloc (.cells (bs nonce).toArray 24)) = w1 at *
  go_wp2_with (first
    | (refine wp_load_blk rfl 22 (.tmp 3) rfl rfl b0 Tryd.underlying22 rfl (n := 32) (by kernel_rfl) (by rw [bs_len, HK.out]) ?_)
    | (refine wp_load_blk rfl 24 (.tmp 5) rfl rfl b1 Tryd.underlying24 rfl (n := 12) (by kernel_rfl) (by rw [bs_len, HN.out]) ?_)
    | (refine wp_build_stream rfl 7 8 10 rfl HK.out HN.out rfl rfl rfl ?_))
  all_goals go_ret
  have hs : B ≤ w1.heap.size := by have := b0.lt; omega
  refine ⟨w1.heap.size, rfl, by rw [hB]; exact hs, ⟨?_, ?_, fun b o n k h => by cases h⟩, by rw [hB]; exact bw_al bb hs _⟩
  · have e : c + (((0 + 63) / 64 : Nat) : Int) = c := by simp
    rw [e]
    exact Blk.mk_ w1 rfl rfl
  · exact Rd.nil _
end Go.Proofs.YtmjjnaaiakchhaaDoor
