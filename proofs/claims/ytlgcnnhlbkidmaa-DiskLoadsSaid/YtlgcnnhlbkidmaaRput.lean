/-
  The reference's put.
-/
import Derived.Test.YtlgcnnhlbkidmaaFiles
namespace Go.Proofs.Ytlgcnnhlbkidmaa
open Go.RowKit

def leN_ (a b : ByteArray) : Bool := Op.bytesLess a.toList b.toList || a.toList == b.toList
def rp (f : FileA) : Bool → List FileA → List FileA
  | laid, [] => if laid then [] else [f]
  | laid, x :: r => (if !laid && leN_ f.nm x.nm then [f] else []) ++ ((if x.nm.toList == f.nm.toList then [] else [x]) ++ rp f (laid || leN_ f.nm x.nm) r)
/-- Where the loop stands. -/
structure PutAt (w1 wr : World) (f : FileA) (l : List FileA) (k : Nat) (laid : Bool) (acc : List FileA) (v : Value) : Prop where
  row : wr.ownsRow w1.heap.size 107 3 v acc.length (flatF acc)
  is : acc ++ rp f laid (l.drop k) = rp f false l
  len : acc.length ≤ 2 * k
  b : Below w1.heap.size w1 wr
set_option maxRecDepth 100000 in
set_option maxHeartbeats 2000000 in
theorem rput_any (w : World) (u : Value) (l : List FileA) (f : FileA) (hr : FR w u l) (hl : l.length ≤ 1000) (hf : FGood w f) :
    Calls Try.prog 84 #[u, .agg f.cells.toArray] w fun e w' => ∃ v, e = .returned v ∧ w'.ownsRow w.heap.size 107 3 v (rp f false l).length (flatF (rp f false l)) ∧ Below w.heap.size w w' := by
  obtain ⟨A, c, rfl, hc1, hc2, _⟩ := hr.sl
  obtain ⟨n, hn⟩ : ∃ n, l.length = n := ⟨_, rfl⟩
  rw [hn] at hr hc1 hl ⊢
  obtain ⟨fn, fv, fd, fk⟩ := f
  obtain ⟨Af, cf, hfv, _⟩ := id hf.rd
  simp only at hfv
  subst hfv
  obtain ⟨nf, hnf⟩ : ∃ nf, (bs fd).length = nf := ⟨_, rfl⟩
  rw [hnf] at hf ⊢
  have hA : Below w.heap.size w (w.alloc (.cells #[.string fn, .slice Af nf cf, .int .i64 fk] 107)) := bw_al (Below.refl _ _) (Nat.le_refl _) _
  have hB : Blk (w.alloc (.cells #[.string fn, .slice Af nf cf, .int .i64 fk] 107)) w.heap.size [.string fn, .slice Af nf cf, .int .i64 fk] 107 := Blk.mk_ _ rfl rfl
  change Calls Try.prog 84 #[.slice A n c, .agg #[.string fn, .slice Af nf cf, .int .i64 fk]] w _
  obtain ⟨w1, hw1⟩ : ∃ w1, w.alloc (.cells #[.string fn, .slice Af nf cf, .int .i64 fk] 107) = w1 := ⟨_, rfl⟩
  have HR := Lib.hid hr; have HN := Lib.hid (fun _ : Unit => hn)
  go_enter Try.func84, Try.ntmps84
  go_upto_region 3 with fail
  rw [hw1] at hA hB
  obtain ⟨gf, hgf⟩ : ∃ g, w.heap.size = g := ⟨_, rfl⟩
  rw [hgf] at hB ⊢
  have HA := Lib.hid hA; have HB := Lib.hid hB
  clear hr hn hf hnf hA hB hw1 hgf
  go_wp2_with fail
  go_loopw [5, 6, 7] (fun x y z wr => ∃ (k : Nat) (laid : Bool) (acc : List FileA), k ≤ n ∧ y = .bool laid ∧ z = .int .i64 k ∧ PutAt w1 wr ⟨fn, .slice Af nf cf, fd, fk⟩ l k laid acc x) (fun _ _ z _ => n - (intOf z).toNat)
  case atStart => exact ⟨0, false, [], Nat.zero_le _, rfl, rfl, World.ownsRow_nil _ _ _ _, rfl, Nat.zero_le _, Below.refl _ _⟩
  case round =>
    obtain ⟨k, laid, acc, hk, rfl, rfl, inv⟩ := hrel
    obtain ⟨wo, rfl⟩ : ∃ wo : World, wo = wr := ⟨_, rfl⟩
    have HI := Lib.hid inv
    clear inv
    by_cases hlt : k < n
    · obtain ⟨X, hX⟩ : ∃ X, l[k]? = some X := ⟨_, List.getElem?_eq_getElem (by rw [HN.out ()]; exact hlt)⟩
      obtain ⟨b0, o0, c0, hu, q0, q1, q2⟩ := HR.out.at_ k X hX
      have hgX := HR.out.good X (List.mem_of_getElem? hX)
      have hdr : l.drop k = X :: l.drop (k + 1) := by
        obtain ⟨h1, h2⟩ := List.getElem?_eq_some_iff.1 hX
        rw [List.drop_eq_getElem_cons h1, h2]
      have HDR := Lib.hid (fun _ : Unit => hdr)
      obtain ⟨xn, xv, xd, xk⟩ := X
      obtain ⟨Ax, cx, hxv, _⟩ := id hgX.rd
      simp only at hxv q0 q1 q2
      subst hxv
      cases hu
      obtain ⟨nx, hnx⟩ : ∃ nx, (bs xd).length = nx := ⟨_, rfl⟩
      rw [hnx] at q1
      have kq0 : ∀ w', Below w1.heap.size w1 w' → w'.cell? ⟨b0, o0 + k * 3, none⟩ = some (.string xn) := fun w' h => cell_stay h (cell_stay HA.out q0)
      have kq1 : ∀ w', Below w1.heap.size w1 w' → w'.cell? ⟨b0, o0 + k * 3 + 1, none⟩ = some (.slice Ax nx cx) := fun w' h => cell_stay h (cell_stay HA.out q1)
      have kq2 : ∀ w', Below w1.heap.size w1 w' → w'.cell? ⟨b0, o0 + k * 3 + 2, none⟩ = some (.int .i64 xk) := fun w' h => cell_stay h (cell_stay HA.out q2)
      have kf0 : ∀ w', Below w1.heap.size w1 w' → w'.cell? ⟨gf, 0, none⟩ = some (.string fn) := fun w' h => (HB.out.stay h).at_ 0 rfl
      have kf1 : ∀ w', Below w1.heap.size w1 w' → w'.cell? ⟨gf, 1, none⟩ = some (.slice Af nf cf) := fun w' h => (HB.out.stay h).at_ 1 rfl
      have kf2 : ∀ w', Below w1.heap.size w1 w' → w'.cell? ⟨gf, 2, none⟩ = some (.int .i64 fk) := fun w' h => (HB.out.stay h).at_ 2 rfl
      have r0 : Below w1.heap.size w1 wo := HI.out.b
      have hzo : w1.heap.size ≤ wo.heap.size := r0.size
      have r1 : Below w1.heap.size w1 wo.drew := bw_d1 r0
      have hacc : acc.length ≤ 2000 := by have := HI.out.len; omega
      have HNX := Lib.hid (fun _ : Unit => hnx); have HX := Lib.hid (fun _ : Unit => hX)
      clear hX hgX hdr hnx q0 q1 q2
      obtain ⟨le, hle⟩ : ∃ le, Op.bytesLess fn.toList xn.toList = le := ⟨_, rfl⟩
      obtain ⟨ee, hee⟩ : ∃ ee, (fn.toList == xn.toList) = ee := ⟨_, rfl⟩
      have hee2 : (xn.toList == fn.toList) = ee := by rw [← hee]; exact Bool.beq_comm
      go_upto_region 6 with fail
      refine region_plan ⟨[0, 1, 3, 7, 15, 7, 7, 103, 231, 487, 1023, 2047], [], [0, 0, 0, 0, 0, 0, 0, 0, 0, 0, 0, 0]⟩
        [⟨[0, 1, 2, 3, 4, 5, 6, 7, 8, 9, 10, 11], [1, 3, 4, 7, 8, 9, 10], none⟩] 52 (by kernel_rfl) (by kernel_rfl) (by kernel_rfl) (by kernel_rfl) rfl ?_
      simp only [SeqGo, opsAt_cons, opsAt_nil, List.getElem?_cons, Option.toList_some, List.singleton_append, ↓reduceIte, Nat.reduceEqDiff, Nat.reduceSub]
      have HLE := Lib.hid (fun _ : Unit => hle); have HEE := Lib.hid (fun _ : Unit => hee); have HEE2 := Lib.hid (fun _ : Unit => hee2)
      have HR1 := Lib.hid r1
      cases laid <;> cases le <;> cases ee
      all_goals (
        go_wp2_with fail
        refine ⟨by (simp only [Sames, Same]; go_simp), ?_⟩
        go_upto_region 9 with (at_builtin; refine wp_app_file (.tmp 26) (.tmp 28) rfl rfl w1.heap.size rfl (l := acc) (f := ⟨fn, .slice Af nf cf, fd, fk⟩) (by exact HI.out.row.alloc _) (g := wo.heap.size) rfl (by exact Blk.mk_ wo rfl rfl) rfl (by omega) (by simp; omega) ?_; intro v3 w3 ho3 hb3)
        try (have hb13 : Below w1.heap.size w1 w3 := (bw_d1 (bw_al r0 hzo _)).trans hb3
             have hz3 := hb13.size
             have hb13d := bw_d1 hb13
             have HO3 := Lib.hid ho3)
        refine region_plan ⟨[0, 0, 3, 7, 15, 0, 32, 127], [], [0, 0, 0, 0, 0, 0, 0, 0]⟩
          [⟨[0, 1, 2, 3, 4, 5, 6, 7], [2, 3, 4, 5, 6, 7], none⟩] 52 (by kernel_rfl) (by kernel_rfl) (by kernel_rfl) (by kernel_rfl) rfl ?_
        simp only [SeqGo, opsAt_cons, opsAt_nil, List.getElem?_cons, Option.toList_some, List.singleton_append, ↓reduceIte, Nat.reduceEqDiff, Nat.reduceSub]
        go_wp2_with fail
        refine ⟨by (simp only [Sames, Same]; go_simp), ?_⟩
        go_wp2_with (first
          | (have _t := ho3; clear _t; at_builtin; refine wp_app_file (.tmp 38) (.tmp 43) rfl rfl w1.heap.size rfl (l := acc ++ [⟨fn, .slice Af nf cf, fd, fk⟩]) (f := ⟨xn, .slice Ax nx cx, xd, xk⟩) (by exact HO3.out.alloc _) (g := w3.heap.size) rfl (by exact Blk.mk_ w3 rfl rfl) rfl (by simp; omega) (by simp; omega) ?_; intro v4 w4 ho4 hb4)
          | (at_builtin; refine wp_app_file (.tmp 38) (.tmp 43) rfl rfl w1.heap.size rfl (l := acc) (f := ⟨xn, .slice Ax nx cx, xd, xk⟩) (by exact HI.out.row.alloc _) (g := wo.heap.size) rfl (by exact Blk.mk_ wo rfl rfl) rfl (by omega) (by simp; omega) ?_; intro v4 w4 ho4 hb4))
        have hle := HLE.out (); have hee := HEE.out (); have hee2 := HEE2.out ()
        have his := HI.out.is
        have hln := HI.out.len
        rw [HDR.out ()] at his
        simp only [rp, leN_, hle, hee, hee2, Bool.not_false, Bool.not_true, Bool.true_and, Bool.false_and, Bool.or_true, Bool.or_false, if_true, if_false, Bool.false_eq_true, List.nil_append, ← List.append_assoc] at his
        try rw [HNX.out ()] at his
        first
          | (have hb14 : Below w1.heap.size w1 w4 := (bw_d1 (bw_al hb13 hz3 _)).trans hb4
             exact ⟨⟨k + 1, true, _, by omega, rfl, by simp, ho4, his, by simp only [List.length_append, List.length_cons, List.length_nil]; omega, hb14⟩, by simp [intOf]; omega⟩)
          | exact ⟨⟨k + 1, true, _, by omega, rfl, by simp, HO3.out, his, by simp only [List.length_append, List.length_cons, List.length_nil]; omega, bw_d1 hb13⟩, by simp [intOf]; omega⟩
          | (have hb14 : Below w1.heap.size w1 w4 := (bw_d1 (bw_d1 (bw_al r0 hzo _))).trans hb4
             first
               | exact ⟨⟨k + 1, true, _, by omega, rfl, by simp, ho4, his, by simp only [List.length_append, List.length_cons, List.length_nil]; omega, hb14⟩, by simp [intOf]; omega⟩
               | exact ⟨⟨k + 1, false, _, by omega, rfl, by simp, ho4, his, by simp only [List.length_append, List.length_cons, List.length_nil]; omega, hb14⟩, by simp [intOf]; omega⟩)
          | exact ⟨⟨k + 1, true, acc, by omega, rfl, by simp, HI.out.row, his, by omega, bw_d1 (bw_d1 r0)⟩, by simp [intOf]; omega⟩
          | exact ⟨⟨k + 1, false, acc, by omega, rfl, by simp, HI.out.row, his, by omega, bw_d1 (bw_d1 r0)⟩, by simp [intOf]; omega⟩
          | trace_state)
    · obtain rfl : k = n := by omega
      have his := HI.out.is
      rw [List.drop_of_length_le (by rw [HN.out ()]; exact Nat.le_refl _)] at his
      have hb1 := HI.out.b
      have hzo : w1.heap.size ≤ wo.heap.size := hb1.size
      have hacc : acc.length ≤ 2000 := by have := HI.out.len; omega
      have kf0 := (HB.out.stay hb1).at_ 0 rfl
      have kf1 := (HB.out.stay hb1).at_ 1 rfl
      have kf2 := (HB.out.stay hb1).at_ 2 rfl
      have HIS := Lib.hid (fun _ : Unit => his)
      clear his
      cases laid
      · go_wp2_with (at_builtin; refine wp_app_file (.tmp 47) (.tmp 49) rfl rfl w1.heap.size rfl (l := acc) (f := ⟨fn, .slice Af nf cf, fd, fk⟩) (by exact HI.out.row.alloc _) (g := wo.heap.size) rfl (by exact Blk.mk_ wo rfl rfl) rfl (by omega) (by simp; omega) ?_; intro v3 w3 ho3 hb3)
        all_goals go_ret
        have his := HIS.out ()
        simp only [rp, Bool.false_eq_true, if_false] at his
        rw [his] at ho3
        exact ⟨_, rfl, ownsRow_mono ho3 HA.out.size, bw_then HA.out ((bw_al hb1 hzo _).trans hb3) HA.out.size⟩
      · go_wp2_with fail
        all_goals go_ret
        have his := HIS.out ()
        simp only [rp, if_true, List.append_nil] at his
        have hrow := HI.out.row
        rw [his] at hrow
        exact ⟨_, rfl, ownsRow_mono hrow HA.out.size, bw_then HA.out hb1 HA.out.size⟩
end Go.Proofs.Ytlgcnnhlbkidmaa
