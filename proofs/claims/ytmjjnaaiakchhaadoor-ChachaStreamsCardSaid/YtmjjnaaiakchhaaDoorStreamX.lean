/-
  (*chacha.Stream).Xor.
-/
import Derived.Test.YtmjjnaaiakchhaaDoorStream
import Derived.Test.YtmjjnaaiakchhaaDoorTurns
import Derived.OwnWalk
namespace Go.Proofs.YtmjjnaaiakchhaaDoor
open Go.RowKit

def xorL (key nonce : List Int) (c : Int) (pos : Nat) (xs : List Int) (k : Nat) : List Int := (List.range k).map fun i => bits .xor .u8 (xs.getD i 0) (ksB key nonce c (pos + i))
theorem xorL_len (key nonce : List Int) (c : Int) (pos : Nat) (xs : List Int) (k : Nat) : (xorL key nonce c pos xs k).length = k := by simp [xorL]
theorem xorL_succ (key nonce : List Int) (c : Int) (pos : Nat) (xs : List Int) (k : Nat) : xorL key nonce c pos xs (k + 1) = xorL key nonce c pos xs k ++ [bits .xor .u8 (xs.getD k 0) (ksB key nonce c (pos + k))] := by simp [xorL, List.range_succ]

/-- A made slice is a block of its own. -/
theorem blk_of_full {w : World} {base n : Nat} {e : TypeId} {xs : List Value} {g : Nat} (h : w.ownsRow base e 1 (.slice (some ⟨g, 0, none⟩) n n) n xs) : Blk w g xs e := by
  have hl := h.1
  rcases h.2 with ⟨h1, _⟩ | ⟨g', cap, cur, h1, _, hg, hn, hc, hs, ht⟩
  · cases h1
  · cases h1
    unfold Blk
    rw [hg]
    congr 2
    apply Array.toList_inj.1
    rw [← ht, List.take_of_length_le (by simp [hs])]

set_option maxRecDepth 100000 in
set_option maxHeartbeats 4000000 in
theorem sxor_long (w : World) (g : Nat) (key nonce : List Int) (c : Int) (pos : Nat) (rest : Value) (v : Value) (xs : List Int) (hk : key.length = 32) (hn : nonce.length = 12) (hs : StreamAt w g key nonce c pos rest) (hc : 0 ≤ c ∧ c < 4294967296) (hpos : (pos : Int) ≤ (4294967296 - c) * 64)
    (hd : Rd w v (bs xs)) (hlong : (4294967296 - c) * 64 - pos < (xs.length : Int)) :
    Calls Tryd.prog 20 #[.pointer (some ⟨g, 0, none⟩), v] w fun e w' => e = .returned (.tuple #[.slice none 0 0, .bool false]) ∧ Below w.heap.size w w' := by
  obtain ⟨A, cap, rfl, hc1, hc2, h0, h3⟩ := hd
  rw [bs_len] at *
  unfold maxLen at hc2
  go_enter Tryd.func20, Tryd.ntmps20
  go_wp2_with (go_at_call 22; refine (left_any w g key nonce c pos rest hk hn hs hc hpos).mono ?_; rintro e w1 ⟨rfl, hb1⟩)
  all_goals go_ret2
  all_goals exact ⟨rfl, hb1⟩

/-- Where the loop stands. -/
structure XInv (B : Nat) (w0 wr : World) (g go : Nat) (key nonce : List Int) (c : Int) (pos : Nat) (xs : List Int) (k : Nat) (rest : Value) : Prop where
  tu : Turns (fun b => b = g) w0 wr
  st : StreamAt wr g key nonce c (pos + k) rest
  out : Blk wr go (bs (xorL key nonce c pos xs k ++ List.replicate (xs.length - k) 0)) 5
  new : w0.heap.size ≤ go
  ne : go ≠ g
  far : ∀ b o n k', rest = .slice (some ⟨b, o, none⟩) n k' → b ≠ go
  tab : Tab wr
  g0 : 0 < g ∧ 0 < go

theorem streamC_set (key nonce : List Int) (n : Int) (r r' : Value) (m : Bool) (hk : key.length = 32) (hn : nonce.length = 12) : (streamC key nonce n r m).set 45 r' = streamC key nonce n r' m := by
  have h44 : (bs key ++ bs nonce).length = 44 := by simp [bs_len, hk, hn]
  unfold streamC
  rw [List.set_append_right _ _ (by omega), h44]
  rfl
theorem streamC_set44 (key nonce : List Int) (n n' : Int) (r : Value) (m : Bool) (hk : key.length = 32) (hn : nonce.length = 12) : (streamC key nonce n r m).set 44 (.int .u64 n') = streamC key nonce n' r m := by
  have h44 : (bs key ++ bs nonce).length = 44 := by simp [bs_len, hk, hn]
  unfold streamC
  rw [List.set_append_right _ _ (by omega), h44]
  rfl
theorem Rd.other {w : World} {v : Value} {xs : List Value} (h : Rd w v xs) (a : Addr) (x : Value) (hne : ∀ b o n k, v = .slice (some ⟨b, o, none⟩) n k → b ≠ a.block) : Rd (w.setCell a x) v xs := by
  obtain ⟨A, c, rfl, h1, h2, h3, h4⟩ := h
  refine ⟨A, c, rfl, h1, h2, h3, ?_⟩
  rcases h4 with h4 | ⟨b, o, rfl, h4⟩
  · exact .inl h4
  · refine .inr ⟨b, o, rfl, fun j hj => ?_⟩
    rw [← h4 j hj]
    exact World.cell?_of_block (Below.heap_setCell _ _ _ _ (hne b o _ _ rfl))
theorem xor_set (key nonce : List Int) (c : Int) (pos : Nat) (xs : List Int) (k : Nat) (hk : k < xs.length) :
    (bs (xorL key nonce c pos xs k ++ List.replicate (xs.length - k) 0)).set k (.int .u8 (bits .xor .u8 (xs.getD k 0) (ksB key nonce c (pos + k)))) = bs (xorL key nonce c pos xs (k + 1) ++ List.replicate (xs.length - (k + 1)) 0) := by
  rw [xorL_succ]
  obtain ⟨m, hm⟩ : ∃ m, xs.length - k = m + 1 := ⟨xs.length - k - 1, by omega⟩
  rw [hm, show xs.length - (k + 1) = m by omega, List.replicate_succ]
  have hl := xorL_len key nonce c pos xs k
  generalize xorL key nonce c pos xs k = l at *
  subst hl
  simp [bs]

theorem XInv.step {B : Nat} {w0 wr : World} {g go : Nat} {key nonce : List Int} {c : Int} {pos : Nat} {xs : List Int} {k : Nat} {restX rest2 : Value} (hk : k < xs.length) (hkl : key.length = 32) (hnl : nonce.length = 12)
    (tu : Turns (fun b => b = g) w0 wr) (blk : Blk wr g (streamC key nonce (c + ((pos + (k + 1) + 63) / 64 : Nat)) restX true) 73) (out : Blk wr go (bs (xorL key nonce c pos xs k ++ List.replicate (xs.length - k) 0)) 5)
    (new : w0.heap.size ≤ go) (ne : go ≠ g) (tab : Tab wr) (g0 : 0 < g ∧ 0 < go) (rd : Rd wr rest2 (bs (ksL key nonce c (pos + (k + 1)) (left64 (pos + (k + 1)))))) (far : ∀ b o n k', rest2 = .slice (some ⟨b, o, none⟩) n k' → b ≠ g ∧ b < wr.heap.size ∧ b ≠ go) :
    XInv B w0 ((wr.setCell ⟨go, k, none⟩ (.int .u8 (bits .xor .u8 (xs.getD k 0) (ksB key nonce c (pos + k))))).setCell ⟨g, 45, none⟩ rest2) g go key nonce c pos xs (k + 1) rest2 := by
  have hsz : ∀ (w : World) (a : Addr) (v : Value), (w.setCell a v).heap.size = w.heap.size := fun w a v => by simp [World.setCell]
  refine ⟨?_, ⟨?_, ?_, ?_⟩, ?_, new, ne, ?_, ?_, g0⟩
  · have t1 : Turns (fun b => b = g) w0 (wr.setCell ⟨go, k, none⟩ (.int .u8 (bits .xor .u8 (xs.getD k 0) (ksB key nonce c (pos + k))))) :=
      ⟨tu.os, tu.tape, tu.output, by rw [hsz]; exact tu.size, fun j hj hs => (Below.heap_setCell _ _ _ _ (by show j ≠ go; omega)).trans (tu.block j hj hs)⟩
    exact t1.trans (Turns.set _ _ _ _ rfl)
  · have := (blk.other (a := ⟨go, k, none⟩) (Ne.symm ne) (.int .u8 (bits .xor .u8 (xs.getD k 0) (ksB key nonce c (pos + k))))).set 45 rest2
    rwa [streamC_set _ _ _ _ _ _ hkl hnl] at this
  · exact (rd.other _ _ fun b o n k' h => (far b o n k' h).2.2).other _ _ fun b o n k' h => (far b o n k' h).1
  · intro b o n k' h
    exact ⟨(far b o n k' h).1, by rw [hsz, hsz]; exact (far b o n k' h).2.1⟩
  · have := (out.set k (.int .u8 (bits .xor .u8 (xs.getD k 0) (ksB key nonce c (pos + k))))).other (a := ⟨g, 45, none⟩) ne rest2
    rwa [xor_set key nonce c pos xs k hk] at this
  · exact fun b o n k' h => (far b o n k' h).2.2
  · exact (tab.other (by show 0 ≠ go; omega) _).other (by show 0 ≠ g; omega) _

set_option maxRecDepth 100000 in
set_option maxHeartbeats 8000000 in
theorem sxor_any (w : World) (g : Nat) (key nonce : List Int) (c : Int) (pos : Nat) (rest : Value) (v : Value) (xs : List Int) (hk : key.length = 32) (hn : nonce.length = 12) (hkb : IsB key) (hnb : IsB nonce) (hs : StreamAt w g key nonce c pos rest) (hc : 0 ≤ c ∧ c < 4294967296)
    (hpos : (pos : Int) ≤ (4294967296 - c) * 64) (hd : Rd w v (bs xs)) (hxs : IsB xs) (hdv : 0 < xs.length → ∀ b o n k, v = .slice (some ⟨b, o, none⟩) n k → b ≠ g) (hg0 : 0 < g) (ht : Tab w) (hlen : xs.length ≤ 4294967296) (hlong : (xs.length : Int) ≤ (4294967296 - c) * 64 - pos) :
    Calls Tryd.prog 20 #[.pointer (some ⟨g, 0, none⟩), v] w fun e w' => ∃ o rest', e = .returned (.tuple #[.slice (some ⟨o, 0, none⟩) xs.length xs.length, .bool true]) ∧ w.heap.size ≤ o ∧ Blk w' o (bs (xorL key nonce c pos xs xs.length)) 5 ∧
      StreamAt w' g key nonce c (pos + xs.length) rest' ∧ (∀ b p n k, rest' = .slice (some ⟨b, p, none⟩) n k → b ≠ o) ∧ Turns (fun b => b = g) w w' := by
  obtain ⟨i, hi, hz0, hz1, hz2⟩ := info_parts info5
  have hd0 := hd
  obtain ⟨A, cap, rfl, hc1, hc2, h0, h3⟩ := hd
  rw [bs_len] at *
  unfold maxLen at hc2
  have hlt := hs.blk.lt
  go_enter Tryd.func20, Tryd.ntmps20
  go_upto_region 4 with (first
    | (go_at_call 22; refine (left_any w g key nonce c pos rest hk hn hs hc hpos).mono ?_; rintro e w1 ⟨rfl, hb1⟩)
    | (refine wpList_make_full w1 rfl (.tmp 17) (.tmp 17) 30 rfl w.heap.size 5 i _ 1 Tryd.underlying30 hi hz0 hz1 .i64 .i64 _ _ xs.length rfl rfl rfl rfl (by rw [hz2]; omega) (by unfold maxLen; omega) hb1.size ?_; intro w2 hown hgrow))
  have hb2 : Below w.heap.size w w2 := hb1.grown hgrow hb1.size (fun k h => by cases h)
  have hout : Blk w2 w1.heap.size (bs (List.replicate xs.length 0)) 5 := by
    have h := blk_of_full hown
    rw [show (Value.cells (Value.int IntKind.u8 0)) = #[Value.int IntKind.u8 0] from rfl, Nat.mul_one, toList_madeCells_one] at h
    simpa [bs] using h
  obtain ⟨go, hgo⟩ : ∃ go, w1.heap.size = go := ⟨_, rfl⟩
  rw [hgo] at hout
  have hgo1 : w.heap.size ≤ go := by rw [← hgo]; exact hb1.size
  have hgog : go ≠ g := by omega
  have hrf : ∀ b o n k, rest = .slice (some ⟨b, o, none⟩) n k → b < w.heap.size := fun b o n k h => (hs.far b o n k h).2
  have inv0 : XInv w.heap.size w w2 g go key nonce c pos xs 0 rest := by
    refine ⟨Turns.of_below hb2, ?_, ?_, hgo1, hgog, ?_, ht.keep hb2 ht.lt, hg0, by have := ht.lt; omega⟩
    · rw [Nat.add_zero]; exact hs.stay hb2
    · simpa [xorL] using hout
    · intro b o n k h
      have := hrf b o n k h
      omega
  simp only [hgo]
  clear hb1 hb2 hout hown hgrow hs
  go_upto_region 5 with fail
  go_loopw [21] (fun i wr => ∃ (k : Nat) (rest' : Value), k ≤ xs.length ∧ i = .int .i64 k ∧ XInv w.heap.size w wr g go key nonce c pos xs k rest') (fun i _ => xs.length - (intOf i).toNat)
  case atStart => exact ⟨0, rest, Nat.zero_le _, rfl, inv0⟩
  case round =>
    obtain ⟨k, rest', hk', rfl, inv⟩ := hrel
    by_cases hlt' : k < xs.length
    · obtain ⟨q1, q2, q3⟩ := streamC_at key nonce (c + ((pos + k + 63) / 64 : Nat)) rest' true hk hn
      have c44 : wr.cell? ⟨g, 44, none⟩ = some (.int .u64 (c + ((pos + k + 63) / 64 : Nat))) := (inv.st.blk.get 44).trans q1
      have c45 : wr.cell? ⟨g, 45, none⟩ = some rest' := (inv.st.blk.get 45).trans q2
      have f45 := inv.st.blk.free 45
      have f44 := inv.st.blk.free 44
      have fo := inv.out.free k
      have co : wr.cell? ⟨go, k, none⟩ = some (.int .u8 0) := by
        rw [inv.out.get, bs, List.getElem?_map, List.getElem?_append_right (by rw [xorL_len]; exact Nat.le_refl _), xorL_len, Nat.sub_self, List.getElem?_replicate, if_pos (by omega)]
        rfl
      obtain ⟨bd, od, rfl, hcd⟩ : ∃ bd od, A = some ⟨bd, od, none⟩ ∧ ∀ j (h : j < xs.length), w.cell? ⟨bd, od + j, none⟩ = some (.int .u8 (xs.getD j 0)) := by
        rcases h3 with h3 | ⟨b, o, hA, h3⟩
        · have : (bs xs).length = 0 := by rw [h3]; rfl
          rw [bs_len] at this
          omega
        · refine ⟨b, o, hA, fun j hj => ?_⟩
          rw [h3 j (by rw [bs_len]; exact hj)]
          simp [bs, List.getD_eq_getElem?_getD, List.getElem?_eq_getElem hj]
      have cd : wr.cell? ⟨bd, od + k, none⟩ = some (.int .u8 (xs.getD k 0)) := inv.tu.cell (by intro hh; exact hdv (by omega) bd od xs.length cap rfl hh) (hcd k hlt')
      obtain ⟨x, hx⟩ : ∃ x, xs.getD k 0 = x := ⟨_, rfl⟩
      have hxr : 0 ≤ x ∧ x ≤ 255 := by rw [← hx]; exact hxs.at_ k
      rw [hx] at cd
      obtain ⟨A', cap', hr', hrc1, hrc2, hr0, hr3⟩ := inv.st.rd
      rw [bs_len, ksL_len] at hr' hrc1
      by_cases hz : left64 (pos + k) = 0
      · obtain ⟨q, hq⟩ : ∃ q, pos + k = 64 * q := ⟨(pos + k) / 64, by unfold left64 at hz; omega⟩
        have hq2 : (pos + k + 63) / 64 = q := by omega
        rw [hq2] at c44
        have hq3 : c + (q : Int) < 4294967296 := by omega
        obtain ⟨cq, hcq⟩ : ∃ cq, c + (q : Int) = cq := ⟨_, rfl⟩
        rw [hcq] at c44 hq3
        have hcq0 : 0 ≤ cq := by omega
        rw [hz] at hr' hrc1
        subst hr'
        have HI := Lib.hid inv
        have HX := Lib.hid (fun _ : Unit => hx)
        have HQ := Lib.hid (fun _ : Unit => (⟨hq, hq2, hcq, hz⟩ : pos + k = 64 * q ∧ (pos + k + 63) / 64 = q ∧ c + (q : Int) = cq ∧ left64 (pos + k) = 0))
        have HC := Lib.hid hcd
        have hgs : g < wr.heap.size := inv.st.blk.lt
        have hgos : go < wr.heap.size := inv.out.lt
        clear hq hq2 hcq hz inv hx hcd h3 hr3 hr0 q1 q2 q3
        go_upto_region 8 with fail
        obtain ⟨S, hS⟩ : ∃ S, wr.heap.size = S := ⟨_, rfl⟩
        rw [hS] at hgs hgos
        refine region_draws [(32, ?v32), (33, ?v33), (34, ?v34), (35, .agg (bs key).toArray), (36, ?v36), (37, ?v37), (38, ?v38), (39, ?v39), (40, .int .u32 cq), (41, ?v41), (42, ?v42), (43, ?v43), (44, .agg (bs nonce).toArray)] [45, 9]
          (fun L T wx => Below S wr wx ∧ (L 13 = true → T 45 = .agg (bs (block key cq nonce)).toArray) ∧ (L 14 = true → ∃ g9, T 9 = .pointer (some ⟨g9, 0, none⟩) ∧ S ≤ g9 ∧ (L 15 = false → Blk wx g9 (bs (List.replicate 64 0)) 27) ∧ (L 15 = true → Blk wx g9 (bs (block key cq nonce)) 27)))
          (fun _ => undef) (by kernel_rfl) (by kernel_rfl) 78 rfl (by kernel_rfl) ?g0 ?hops ?hend
        case g0 => exact ⟨bw_d1 (Below.refl _ _), (fun h => by simp at h), (fun h => by simp at h)⟩
        case hops =>
          simp only [AllFrom]
          refine ⟨?_, ?_, ?_, ?_, ?_, ?_, ?_, ?_, ?_, ?_, ?_, ?_, ?_, ?_, ?_, ?_, trivial⟩
          · (intro L T w hpre hpost hG; skip; first | exact .inl ⟨rfl, rfl⟩ | (refine .inl ⟨rfl, ?_⟩; simp only [execOp]; go_simp; (try go_ints); (try go_simp); (try rw [if_pos (by omega)]); (first | done | rfl)))
          · (intro L T w hpre hpost hG; skip; first | exact .inl ⟨rfl, rfl⟩ | (refine .inl ⟨rfl, ?_⟩; simp only [execOp]; go_simp; (try go_ints); (try go_simp); (try rw [if_pos (by omega)]); (first | done | rfl)))
          · (intro L T w hpre hpost hG; skip; first | exact .inl ⟨rfl, rfl⟩ | (refine .inl ⟨rfl, ?_⟩; simp only [execOp]; go_simp; (try go_ints); (try go_simp); (try rw [if_pos (by omega)]); (first | done | rfl)))
          · (intro L T w hpre hpost hG; exact .inl ⟨rfl, exec_load_sub 22 (.tmp 34) rfl rfl (((HI.out.st.blk.keep hG.1 hgs).part 0 (by simp [streamC, bs_len, hk]))) Tryd.underlying22 rfl (n := 32) (by kernel_rfl) (by rw [bs_len, hk])⟩)
          · (intro L T w hpre hpost hG; skip; first | exact .inl ⟨rfl, rfl⟩ | (refine .inl ⟨rfl, ?_⟩; simp only [execOp]; go_simp; (try go_ints); (try go_simp); (try rw [if_pos (by omega)]); (first | done | rfl)))
          · (intro L T w hpre hpost hG; skip; first | exact .inl ⟨rfl, rfl⟩ | (refine .inl ⟨rfl, ?_⟩; simp only [execOp]; go_simp; (try go_ints); (try go_simp); (try rw [if_pos (by omega)]); (first | done | rfl)))
          · (intro L T w hpre hpost hG; skip; first | exact .inl ⟨rfl, rfl⟩ | (refine .inl ⟨rfl, ?_⟩; simp only [execOp]; go_simp; (try go_ints); (try go_simp); (try rw [if_pos (by omega)]); (first | done | rfl)))
          · (intro L T w hpre hpost hG; have d44 := (hG.1.cell (p := ⟨g, 44, none⟩) hgs).trans c44; first | exact .inl ⟨rfl, rfl⟩ | (refine .inl ⟨rfl, ?_⟩; simp only [execOp]; go_simp; (try go_ints); (try go_simp); (try rw [if_pos (by omega)]); (first | done | rfl)))
          · (intro L T w hpre hpost hG; skip; first | exact .inl ⟨rfl, rfl⟩ | (refine .inl ⟨rfl, ?_⟩; simp only [execOp]; go_simp; (try go_ints); (try go_simp); (try rw [if_pos (by omega)]); (first | done | rfl)))
          · (intro L T w hpre hpost hG; skip; first | exact .inl ⟨rfl, rfl⟩ | (refine .inl ⟨rfl, ?_⟩; simp only [execOp]; go_simp; (try go_ints); (try go_simp); (try rw [if_pos (by omega)]); (first | done | rfl)))
          · (intro L T w hpre hpost hG; skip; first | exact .inl ⟨rfl, rfl⟩ | (refine .inl ⟨rfl, ?_⟩; simp only [execOp]; go_simp; (try go_ints); (try go_simp); (try rw [if_pos (by omega)]); (first | done | rfl)))
          · (intro L T w hpre hpost hG; skip; first | exact .inl ⟨rfl, rfl⟩ | (refine .inl ⟨rfl, ?_⟩; simp only [execOp]; go_simp; (try go_ints); (try go_simp); (try rw [if_pos (by omega)]); (first | done | rfl)))
          · (intro L T w hpre hpost hG; exact .inl ⟨rfl, exec_load_sub 24 (.tmp 43) rfl rfl (((HI.out.st.blk.keep hG.1 hgs).part 32 (by simp [streamC, bs_len, hk, hn]))) Tryd.underlying24 rfl (n := 12) (by kernel_rfl) (by rw [bs_len, hn])⟩)
          · intro L T w hL hpre hpost hG
            obtain ⟨h1, h2, h3⟩ := hG
            have hp := hpost 15 _ rfl rfl
            have hsz := h1.size
            refine .inl ⟨rfl, fun a K hK => ?_⟩
            simp only [execOp]
            go_simp
            refine (blockc_any key nonce cq w hk hn hkb hnb (HI.out.tab.keep h1 (by omega))).mono ?_
            rintro e w' ⟨rfl, hb⟩
            refine hK _ _ ⟨bw_then h1 hb (by omega), fun _ => by simp, fun h => ?_⟩
            obtain ⟨g9, x1, x2, x3, x4⟩ := h3 (by simpa using h)
            exact ⟨g9, by simpa using x1, x2, fun h => (x3 hp).stay hb, fun h => by simp [hp] at h⟩
          · intro L T w hL hpre hpost hG
            obtain ⟨h1, h2, h3⟩ := hG
            have hp := hpost 15 _ rfl rfl
            have hsz := h1.size
            refine .inl ⟨rfl, fun a K hK => ?_⟩
            simp only [execOp]
            go_simp
            refine hK (.pointer (some ⟨w.heap.size, 0, none⟩)) _ ⟨bw_al h1 (by omega) _, fun h => by simpa using h2 (by simpa using h), fun _ => ⟨w.heap.size, by simp, by omega, fun _ => Blk.mk_ w rfl rfl, fun h => by simp [hp] at h⟩⟩
          · intro L T w hL hpre hpost hG
            obtain ⟨h1, h2, h3⟩ := hG
            have t45 := h2 (hpre 13 rfl rfl)
            obtain ⟨g9, x1, x2, x3, x4⟩ := h3 (hpre 14 rfl rfl)
            have hb9 := x3 hL
            refine .inl ⟨rfl, fun a K hK => ?_⟩
            refine upon_store_blk 27 (.tmp 9) (.tmp 45) rfl x1 t45 hb9 (bs_one _) (by rw [bs_len, bs_len, block_len, List.length_replicate]) (n := 64) (by kernel_rfl) (by rw [bs_len, block_len]) fun w' hbn hon => hK undef _ ⟨hon.below h1 x2, fun _ => by simpa using t45, fun _ => ⟨g9, by simpa using x1, x2, fun h => by simp at h, fun _ => hbn⟩⟩
        case hend =>
          intro L T w9 hall hG
          obtain ⟨h1, h2, h3⟩ := hG
          obtain ⟨g9, x1, x2, x3, x4⟩ := h3 (hall 14 (by decide) (by kernel_rfl))
          have hb9 := x4 (hall 15 (by decide) (by kernel_rfl))
          simp only [fillT, fillP, List.foldl_cons, List.foldl_nil, Act.put, x1]
          obtain ⟨hq, hq2, hcq, hz⟩ := HQ.out ()
          have hblk := HI.out.st.blk.keep h1 hgs
          have hout := HI.out.out.keep h1 hgos
          have n1 : g ≠ g9 := by omega
          have n2 : go ≠ g9 := by omega
          have n3 := HI.out.ne
          have n4 := Ne.symm n1
          have n5 := Ne.symm n3
          have n6 := Ne.symm n2
          have n7 : bd ≠ g := hdv (by omega) bd od xs.length cap rfl
          have hbdl : bd < w.heap.size := World.block_lt_of_cell? w _ (HC.out k hlt')
          have hnew := HI.out.new
          have n8 : bd ≠ go := by omega
          have m44 : w9.cell? ⟨g, 44, none⟩ = some (.int .u64 cq) := (h1.cell (p := ⟨g, 44, none⟩) hgs).trans c44
          have m45 : w9.cell? ⟨g, 45, none⟩ = some (.slice A' 0 cap') := (h1.cell (p := ⟨g, 45, none⟩) hgs).trans c45
          have mf44 := hblk.free 44
          have mf45 := hblk.free 45
          have mfo := hout.free k
          have mco : w9.cell? ⟨go, k, none⟩ = some (.int .u8 0) := (h1.cell (p := ⟨go, k, none⟩) hgos).trans co
          have mcd : w9.cell? ⟨bd, od + k, none⟩ = some (.int .u8 x) := (h1.cell (p := ⟨bd, od + k, none⟩) (by have := World.block_lt_of_cell? wr _ cd; rw [← hS]; exact this)).trans cd
          obtain ⟨y, hy⟩ : ∃ y, ksB key nonce c (pos + k) = y := ⟨_, rfl⟩
          have m9 : w9.cell? ⟨g9, 0, none⟩ = some (.int .u8 y) := by
            rw [hb9.get, bs, List.getElem?_map, ← hy, ksB, show (pos + k) / 64 = q by omega, show (pos + k) % 64 = 0 by omega, hcq, List.getD_eq_getElem?_getD, List.getElem?_eq_getElem (by rw [block_len]; omega)]
            rfl
          have HY := Lib.hid (fun _ : Unit => hy)
          have HB9 := Lib.hid hb9
          have HBL := Lib.hid hblk
          have HO := Lib.hid hout
          have HH := Lib.hid h1
          have HZ := Lib.hid (fun _ : Unit => (⟨hq, hq2, hcq, hz⟩ : pos + k = 64 * q ∧ (pos + k + 63) / 64 = q ∧ c + (q : Int) = cq ∧ left64 (pos + k) = 0))
          clear h2 h3 x1 x3 x4 hall hy hb9 hblk hout h1 hq hq2 hcq hz c44 c45 co cd L
          go_wp2_with fail
          obtain ⟨hq, hq2, hcq, hz⟩ := HZ.out ()
          refine ⟨⟨k + 1, .slice (some ⟨g9, 1, none⟩) 63 63, by omega, by simp, ?_⟩, by simp [intOf]; omega⟩
          have l1 : left64 (pos + (k + 1)) = 63 := by unfold left64; omega
          have l2 : (pos + (k + 1) + 63) / 64 = q + 1 := by omega
          have hb2 : Blk ((w9.setCell ⟨g, 45, none⟩ (.slice (some ⟨g9, 0, none⟩) 64 64)).setCell ⟨g, 44, none⟩ (.int .u64 (cq + 1))) g (streamC key nonce (c + ((pos + (k + 1) + 63) / 64 : Nat)) (.slice (some ⟨g9, 0, none⟩) 64 64) true) 73 := by
            have h := (HBL.out.set 45 (.slice (some ⟨g9, 0, none⟩) 64 64)).set 44 (.int .u64 (cq + 1))
            rw [streamC_set _ _ _ _ _ _ hk hn, streamC_set44 _ _ _ _ _ _ hk hn] at h
            rw [l2, show c + ((q + 1 : Nat) : Int) = cq + 1 by omega]
            exact h
          have hg9 : g9 < w9.heap.size := HB9.out.lt
          have hst := XInv.step (B := w.heap.size) (rest2 := .slice (some ⟨g9, 1, none⟩) 63 63) hlt' hk hn
            (((HI.out.tu.trans (Turns.of_below (by rw [hS]; exact HH.out))).trans (Turns.set _ _ _ _ rfl)).trans (Turns.set _ _ _ _ rfl)) hb2 ((HO.out.other (a := ⟨g, 45, none⟩) n3 _).other (a := ⟨g, 44, none⟩) n3 _) HI.out.new n3
            (((HI.out.tab.keep HH.out (by have := HI.out.tab.lt; omega)).other (by show 0 ≠ g; omega) _).other (by show 0 ≠ g; omega) _) HI.out.g0 ?_ ?_
          · rw [HX.out (), HY.out ()] at hst
            exact hst
          · rw [l1]
            have hb9 := (HB9.out.other (a := ⟨g, 45, none⟩) n4 (.slice (some ⟨g9, 0, none⟩) 64 64)).other (a := ⟨g, 44, none⟩) n4 (.int .u64 (cq + 1))
            refine ⟨some ⟨g9, 1, none⟩, 63, by rw [bs_len, ksL_len], by rw [bs_len, ksL_len]; omega, by unfold maxLen; omega, (fun h => by cases h), .inr ⟨g9, 1, rfl, fun j hj => ?_⟩⟩
            rw [bs_len, ksL_len] at hj
            rw [hb9.get, bs, List.getElem?_map]
            have e1 : (pos + (k + 1) + j) / 64 = q := by omega
            have e2 : (pos + (k + 1) + j) % 64 = 1 + j := by omega
            rw [List.getElem?_eq_getElem (by rw [block_len]; omega)]
            simp only [bs, ksL, List.getElem_map, List.getElem_range, ksB, e1, e2, hcq, List.getD_eq_getElem?_getD, Option.map_some]
            rw [List.getElem?_eq_getElem (by rw [block_len]; omega)]
            rfl
          · intro b' o' n' k' h
            cases h
            exact ⟨n4, by simpa [World.setCell] using hg9, n6⟩
      · obtain ⟨r, hr⟩ : ∃ r, left64 (pos + k) = r + 1 := ⟨left64 (pos + k) - 1, by omega⟩
        rw [hr] at hr' hrc1
        obtain ⟨b, o, rfl, hrb⟩ : ∃ b o, A' = some ⟨b, o, none⟩ ∧ ∀ j, j < r + 1 → wr.cell? ⟨b, o + j, none⟩ = some (.int .u8 (ksB key nonce c (pos + k + j))) := by
          rcases hr3 with h | ⟨b, o, hA, h⟩
          · have : (bs (ksL key nonce c (pos + k) (left64 (pos + k)))).length = 0 := by rw [h]; rfl
            rw [bs_len, ksL_len] at this
            omega
          · refine ⟨b, o, hA, fun j hj => ?_⟩
            rw [h j (by rw [bs_len, ksL_len, hr]; exact hj)]
            simp [bs, ksL]
        subst hr'
        have cb : wr.cell? ⟨b, o, none⟩ = some (.int .u8 (ksB key nonce c (pos + k))) := hrb 0 (by omega)
        have hbf := inv.st.far b o _ _ rfl
        have hbo := inv.far b o _ _ rfl
        have hnx : (pos + (k + 1) + 63) / 64 = (pos + k + 63) / 64 := by unfold left64 at hz; omega
        have hl' : left64 (pos + (k + 1)) = r := by unfold left64 at hz hr ⊢; omega
        obtain ⟨y, hy⟩ : ∃ y, ksB key nonce c (pos + k) = y := ⟨_, rfl⟩
        rw [hy] at cb
        unfold maxLen at hrc2
        have HR := Lib.hid (fun _ : Unit => (⟨hr, hl', hnx⟩ : left64 (pos + k) = r + 1 ∧ left64 (pos + (k + 1)) = r ∧ (pos + (k + 1) + 63) / 64 = (pos + k + 63) / 64))
        have HB := Lib.hid (fun _ : Unit => hrb)
        have HX := Lib.hid (fun _ : Unit => hx)
        have HY := Lib.hid (fun _ : Unit => hy)
        have HC := Lib.hid hcd
        have HI := Lib.hid inv
        clear hr hl' hnx hrb hx hy hcd inv h3 hr3 q1 q2 q3 hz c44 f44 hr0
        go_wp2_with fail
        obtain ⟨e1, e2, e3⟩ := HR.out ()
        have hlt2 := hbf.2
        refine ⟨⟨k + 1, .slice (if cap' = 1 then some ⟨b, o, none⟩ else some ⟨b, o + 1, none⟩) r (cap' - 1), by omega, by simp, ?_⟩, by simp [intOf]; omega⟩
        have hst := XInv.step (B := w.heap.size) (rest2 := .slice (if cap' = 1 then some ⟨b, o, none⟩ else some ⟨b, o + 1, none⟩) r (cap' - 1)) hlt' hk hn HI.out.tu (by rw [e3, Nat.add_assoc]; exact HI.out.st.blk) HI.out.out HI.out.new HI.out.ne HI.out.tab HI.out.g0 ?_ ?_
        · rw [HX.out (), HY.out ()] at hst
          exact hst
        · rw [e2]
          have hb := HB.out ()
          refine ⟨if cap' = 1 then some ⟨b, o, none⟩ else some ⟨b, o + 1, none⟩, cap' - 1, by rw [bs_len, ksL_len], by rw [bs_len, ksL_len]; omega, by unfold maxLen; omega, fun h => ?_, ?_⟩
          · by_cases h1 : cap' = 1
            · rw [if_pos h1] at h; cases h
            · rw [if_neg h1] at h; cases h
          by_cases hr1 : r = 0
          · subst hr1
            exact .inl rfl
          · refine .inr ⟨b, o + 1, by rw [if_neg (by omega)], fun j hj => ?_⟩
            rw [bs_len, ksL_len] at hj
            rw [show o + 1 + j = o + (j + 1) by omega, hb (j + 1) (by omega)]
            simp [bs, ksL]
            congr 1
            omega
        · intro b' o' n' k' h
          have : b' = b := by
            by_cases h1 : cap' = 1
            · rw [if_pos h1] at h; cases h; rfl
            · rw [if_neg h1] at h; cases h; rfl
          subst this
          exact ⟨hbf.1, hbf.2, hbo⟩
    · obtain rfl : k = xs.length := by omega
      go_wp2_with fail
      all_goals go_ret2
      refine ⟨go, rest', rfl, hgo1, ?_, inv.st, inv.far, inv.tu⟩
      have := inv.out
      rwa [Nat.sub_self, List.replicate_zero, List.append_nil] at this
end Go.Proofs.YtmjjnaaiakchhaaDoor
