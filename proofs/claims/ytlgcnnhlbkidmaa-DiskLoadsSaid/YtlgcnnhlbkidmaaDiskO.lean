/-
  disk: a file put in the place of another; the plug's act.
-/
import Derived.Test.YtlgcnnhlbkidmaaDiskT
namespace Go.Proofs.Ytlgcnnhlbkidmaa
open Go.RowKit

theorem pairwise_of {α : Type} {R : α → α → Prop} (hs : ∀ a b, R a b → R b a) {l : List α} (h : l.Pairwise R) {a b : α} (ha : a ∈ l) (hb : b ∈ l) (hne : a ≠ b) : R a b := by
  induction l with
  | nil => cases ha
  | cons x r ih =>
    obtain ⟨h1, h2⟩ := List.pairwise_cons.1 h
    rcases List.mem_cons.1 ha with hax | ha'
    · rcases List.mem_cons.1 hb with hbx | hb'
      · exact absurd (hax.trans hbx.symm) hne
      · rw [hax]; exact h1 b hb'
    · rcases List.mem_cons.1 hb with hbx | hb'
      · rw [hbx]; exact hs _ _ (h1 a ha')
      · exact ih h2 ha' hb'
abbrev Apart (a b : Bt × Ent) : Prop := ∀ k, hold a.2.2 k → ¬ hold b.2.2 k
theorem Apart.symm {a b : Bt × Ent} (h : Apart a b) : Apart b a := fun k hb ha => h k ha hb
theorem DiskAt.apart_of {w : World} {B : Nat} {own : Nat → Prop} {g gm : Nat} {q : Option Nat} {es : List (Bt × Ent)} (h : DiskAt w B own g gm q es) {a b : Bt × Ent} (ha : a ∈ es) (hb : b ∈ es) (hne : a.1 ≠ b.1) : Apart a b :=
  pairwise_of (R := Apart) (fun _ _ => Apart.symm) h.apart ha hb fun e => hne (by rw [e])

/-- A file put in the place of what has its name. -/
theorem DiskAt.set {w w' : World} {B : Nat} {own own' : Nat → Prop} {g gm : Nat} {q : Option Nat} {es : List (Bt × Ent)} (h : DiskAt w B own g gm q es) (x : Bt) (e' : Ent) (hm : FMap w' gm ((putF es x e').map fun e => (e.1, entV e.2)))
    (hk : ∀ b, own b → b ≠ gm → (∀ eo, lookF es x = some eo → ¬ hold eo.2 b) → w'.heap[b]? = w.heap[b]?) (hown : ∀ b, own b → own' b) (hdom : ∀ k, own' k → B ≤ k ∧ k < w'.heap.size)
    (hnew : FileOk w' B own' g gm (x, e')) (hfresh : ∀ k, hold e'.2 k → (∃ eo, lookF es x = some eo ∧ hold eo.2 k) ∨ ¬ own k) (hle : (putF es x e').length ≤ 64) : DiskAt w' B own' g gm q (putF es x e') := by
  have hdel : ∀ a ∈ delF es x, ∀ k, hold a.2.2 k → ∀ eo, lookF es x = some eo → ¬ hold eo.2 k := fun a ha k hk eo he hh => by
    obtain ⟨h1, h2⟩ := mem_delF.1 ha
    exact h.apart_of h1 (lookF_mem he) h2 k hk hh
  refine ⟨(hk g h.og h.ne fun eo he hh => ((h.file _ (lookF_mem he)).mine g hh).2.1 rfl).trans h.head, hm, putF_rise h.rise x e', fun e he => ?_, ?_, hle, hown g h.og, hown gm h.om, h.ne, hdom⟩
  · rcases mem_insF.1 he with rfl | he
    · exact hnew
    · have hf := h.file e (mem_delF.1 he).1
      refine ⟨hf.part.move fun b off n c hv => hk b (hf.mine b ⟨_, _, _, hv⟩).1 (hf.mine b ⟨_, _, _, hv⟩).2.2 (hdel e he b ⟨_, _, _, hv⟩), hf.isB, hf.kept, hf.small, hf.name, fun k hh => ⟨hown k (hf.mine k hh).1, (hf.mine k hh).2⟩⟩
  · refine (List.Perm.pairwise_iff (R := Apart) (fun {_ _} => Apart.symm) (insF_perm (x, e') (delF es x))).2 (List.pairwise_cons.2 ⟨fun a ha k hk1 hk2 => ?_, h.apart.sublist List.filter_sublist⟩)
    rcases hfresh k hk1 with ⟨eo, he, hh⟩ | hn
    · exact hdel a ha k hk2 eo he hh
    · exact hn ((h.file a (mem_delF.1 ha).1).mine k hk2).1
/-- A file taken away. -/
theorem DiskAt.drop {w w' : World} {B : Nat} {own : Nat → Prop} {g gm : Nat} {q : Option Nat} {es : List (Bt × Ent)} (h : DiskAt w B own g gm q es) (x : Bt) (hm : FMap w' gm ((delF es x).map fun e => (e.1, entV e.2))) (hk : Only gm w w') : DiskAt w' B own g gm q (delF es x) := by
  refine ⟨(hk.block g h.ne).trans h.head, hm, delF_rise h.rise x, fun e he => ?_, h.apart.sublist List.filter_sublist, Nat.le_trans (List.length_filter_le _ _) h.le, h.og, h.om, h.ne, fun k hh => by rw [hk.size]; exact h.dom k hh⟩
  have hf := h.file e (mem_delF.1 he).1
  exact ⟨hf.part.move fun b off n c hv => hk.block b (hf.mine b ⟨_, _, _, hv⟩).2.2, hf.isB, hf.kept, hf.small, hf.name, hf.mine⟩

theorem DiskAt.isFile {w : World} {B : Nat} {own : Nat → Prop} {g gm : Nat} {q : Option Nat} {es : List (Bt × Ent)} (h : DiskAt w B own g gm q es) : IsFile (es.map fun e => (e.1, entV e.2)) := by
  intro f hf
  obtain ⟨e, he, rfl⟩ := List.mem_map.1 hf
  rcases (h.file e he).part with ⟨h1, _⟩ | ⟨g, off, cap, cur, h1, _⟩
  · exact ⟨none, 0, 0, e.2.1.kept, by show fileV e.2.2 _ = _; rw [h1]⟩
  · exact ⟨_, _, _, e.2.1.kept, by show fileV e.2.2 _ = _; rw [h1]⟩

/-- The plug's act. -/
theorem plugact_any (w : World) (q : Option Nat) (p : Pow) (h : PowAt w q p) (hp : p.ok) : Calls Try.prog 77 #[.agg #[ptrV q]] w fun e w' => e = .returned (.int .i64 p.act.2) ∧ PowAt w' q p.act.1 ∧ Turns (fun b => q = some b) w w' := by
  have hA : Below w.heap.size w (w.alloc (.cells #[ptrV q] 120)) := bw_al (Below.refl _ _) (Nat.le_refl _) _
  have AC := Lib.hid (actq_any _ q p (h.stay hA) hp)
  have HA := Lib.hid hA
  have hb : Blk (w.alloc (.cells #[ptrV q] 120)) w.heap.size [ptrV q] 120 := Blk.mk_ _ rfl rfl
  have c0 := hb.at_ 0 rfl
  clear h hb hA
  unfold ptrV at *
  cases q
  all_goals (
    simp only [Option.map_none, Option.map_some] at *
    go_enter Try.func77, Try.ntmps77
    go_wp2_with (go_at_call 51; refine AC.out.mono ?_; rintro e w' ⟨rfl, h1, h2⟩)
    all_goals go_ret
    exact ⟨rfl, h1, (Turns.of_below HA.out).trans h2⟩)
end Go.Proofs.Ytlgcnnhlbkidmaa
