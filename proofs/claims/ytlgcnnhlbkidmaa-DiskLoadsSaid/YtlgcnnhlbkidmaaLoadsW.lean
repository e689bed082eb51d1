/-
  DiskLoads: where the two disks stand, and the plain laws of what is laid.
-/
import Derived.Test.YtlgcnnhlbkidmaaRloadC
import Derived.Test.YtlgcnnhlbkidmaaArgF
import Derived.Test.YtlgcnnhlbkidmaaDiskD
namespace Go.Proofs.Ytlgcnnhlbkidmaa
open Go.RowKit

theorem FR.moved {S : Nat → Prop} {w w' : World} {u : Value} {l : List FileA} (h : FR w u l) (k : Turns S w w') (hu : l ≠ [] → ∀ b, hold u b → ¬ S b) (hf : ∀ f ∈ l, f.data ≠ [] → ∀ b, hold f.v b → ¬ S b) : FR w' u l := by
  by_cases hl : l = []
  · subst hl
    exact ⟨h.sl, fun i f hf => by simp at hf, fun f hf => by simp at hf⟩
  · exact h.turns k (hu hl) hf
theorem FR.hold_lt {w : World} {u : Value} {l : List FileA} (h : FR w u l) (hl : l ≠ []) {b : Nat} (hb : hold u b) : b < w.heap.size := by
  obtain ⟨f, r, rfl⟩ := List.exists_cons_of_ne_nil hl
  obtain ⟨b0, o, c, e, h1, _⟩ := h.at_ 0 f rfl
  obtain ⟨o', n', c', e'⟩ := hb
  rw [e] at e'
  cases e'
  exact World.block_lt_of_cell? w _ h1
/-- Elements that a call was handed lie behind its base. -/
theorem FR.elem_lt {w : World} {u : Value} {l : List FileA} (h : FR w u l) : ∀ f ∈ l, f.data ≠ [] → ∀ k, hold f.v k → k < w.heap.size := fun f hf hd k hk => by
  have h1 := (h.good f hf).rd
  exact h1.hold_lt (fun e => hd (by simpa [bs] using e)) hk
structure LI (B : Nat) (w wr : World) (own : Nat → Prop) (g gp gx : Nat) (pv : Value) (fs : Files) (lv : Value) (m : List FileA) : Prop where
  disk : Disk wr B own g (some gp) fs
  blk : Blk wr gx [pv, lv] 110
  nx : ¬ own gx
  row : FR wr lv m
  from_ : ∀ f ∈ m, f.data ≠ [] → ∀ k, hold f.v k → k < B
  lvb : ∀ k, hold lv k → B ≤ k ∧ ¬ own k ∧ k ≠ gx ∧ k < wr.heap.size
  lo : B ≤ gx
  b : Below B w wr
theorem LI.sz {B : Nat} {w wr : World} {own : Nat → Prop} {g gp gx : Nat} {pv : Value} {fs : Files} {lv : Value} {m : List FileA} (h : LI B w wr own g gp gx pv fs lv m) : B ≤ wr.heap.size := by
  have := h.blk.lt; have := h.lo; omega
theorem LI.stay {B : Nat} {w wr w' : World} {own : Nat → Prop} {g gp gx : Nat} {pv : Value} {fs : Files} {lv : Value} {m : List FileA} (h : LI B w wr own g gp gx pv fs lv m) (k : Below wr.heap.size wr w') : LI B w w' own g gp gx pv fs lv m :=
  ⟨h.disk.stay k, h.blk.stay k, h.nx, h.row.stay k (Nat.le_refl _), h.from_, fun j hj => ⟨(h.lvb j hj).1, (h.lvb j hj).2.1, (h.lvb j hj).2.2.1, Nat.lt_of_lt_of_le (h.lvb j hj).2.2.2 k.size⟩, h.lo, bw_then h.b k h.sz⟩
theorem LI.load {B : Nat} {w wr w1 : World} {own : Nat → Prop} {g gp gx : Nat} {pv : Value} {fs fs' : Files} {lv : Value} {m : List FileA} {z : Int} {e : Ending} (h : LI B w wr own g gp gx pv fs lv m) (r : EditRes wr B own g (some gp) (z, fs') e w1) :
    e = .returned (.int .i64 z) ∧ ∃ own', LI B w w1 own' g gp gx pv fs' lv m := by
  obtain ⟨he, own', hd, hiff, ht⟩ := r
  exact ⟨he, own', hd, h.blk.turns ht h.nx, fun ho => h.nx ((hiff gx h.blk.lt).1 ho), h.row.turns ht (fun k hk => (h.lvb k hk).2.1) (fun f hf hx k hk ho => by have := (h.disk.dom k ho).1; have := h.from_ f hf hx k hk; omega), h.from_,
    fun k hk => ⟨(h.lvb k hk).1, fun ho => (h.lvb k hk).2.1 ((hiff k (h.lvb k hk).2.2.2).1 ho), (h.lvb k hk).2.2.1, Nat.lt_of_lt_of_le (h.lvb k hk).2.2.2 ht.size⟩, h.lo, ht.below h.b h.sz fun j hj => (h.disk.dom j hj).1⟩
theorem LI.rload {B : Nat} {w wr w2 : World} {own : Nat → Prop} {g gp gx : Nat} {pv : Value} {fs : Files} {lv : Value} {m m' l : List FileA} {z : Int} {e : Ending} (h : LI B w wr own g gp gx pv fs lv m) (r : RLoadRes wr gx pv lv (z, m') e w2) (hm : ∀ f ∈ m', f ∈ m ∨ f ∈ l) (hl : ∀ f ∈ l, f.data ≠ [] → ∀ k, hold f.v k → k < B) :
    e = .returned (.int .i64 z) ∧ ∃ lv', LI B w w2 own g gp gx pv fs lv' m' := by
  obtain ⟨he, lv', hb, hr, ht, hh⟩ := r
  refine ⟨he, lv', h.disk.turns ht (fun b ho e => h.nx (e ▸ ho)), hb, h.nx, hr, fun f hf hx k hk => (hm f hf).elim (fun h1 => h.from_ f h1 hx k hk) (fun h1 => hl f h1 hx k hk), fun k hk => ?_, h.lo, ht.below h.b h.sz fun j hj => by have := h.lo; omega⟩
  have := h.sz; have := h.blk.lt
  rcases hh k hk with h1 | h1
  · exact ⟨by omega, fun ho => by have := (h.disk.dom k ho).2; omega, by omega, h1.2⟩
  · exact ⟨(h.lvb k h1).1, (h.lvb k h1).2.1, (h.lvb k h1).2.2.1, Nat.lt_of_lt_of_le (h.lvb k h1).2.2.2 ht.size⟩
/-- Both are laid, and say the same. -/
theorem loads_eq (m l : List FileA) : ∃ z m', loadS (m.map viewF) l = (z, m'.map viewF) ∧ rloadS m l = (z, m') ∧ ∀ f ∈ m', f ∈ m ∨ (f ∈ l ∧ okF f = true) := by
  obtain ⟨h1, h2⟩ := loads_both _ m l rfl
  exact ⟨(rloadS m l).1, (rloadS m l).2, Prod.ext h1 h2, rfl, rload_mem m l⟩
theorem ok_view {f g : FileA} (h : viewF f = viewF g) (hf : 0 ≤ f.kept) (hg : okF g = true) : okF f = true := by
  obtain ⟨nf, vf, df, kf⟩ := f
  obtain ⟨ng, vg, dg, kg⟩ := g
  unfold viewF fileS at h
  simp only [Prod.mk.injEq, FileS.mk.injEq] at h
  obtain ⟨h1, h2, h3⟩ := h
  subst h2
  obtain rfl : nf = ng := ByteArray.ext (Array.toList_inj.1 h1)
  unfold okF at hg ⊢
  simp only [Bool.and_eq_true, decide_eq_true_eq] at hg ⊢
  simp only at hf
  refine ⟨⟨hg.1.1, hf⟩, ?_⟩
  omega
theorem ok_kept {f : FileA} (h : okF f = true) : 0 ≤ f.kept := by
  unfold okF at h
  simp only [Bool.and_eq_true, decide_eq_true_eq] at h
  exact h.1.2
theorem all_ok {l m : List FileA} (h : l.map viewF = m.map viewF) (hl : ∀ f ∈ l, 0 ≤ f.kept) (hm : ∀ f ∈ m, okF f = true) : ∀ f ∈ l, okF f = true := fun f hf => by
  have h1 : viewF f ∈ m.map viewF := by rw [← h]; exact List.mem_map_of_mem hf
  obtain ⟨g, hg, he⟩ := List.mem_map.1 h1
  exact ok_view he.symm (hl f hf) (hm g hg)
theorem load_again {l m : List FileA} (h : l.map viewF = m.map viewF) (hl : ∀ f ∈ l, 0 ≤ f.kept) (hm : ∀ f ∈ m, okF f = true) (hr : Rise (m.map viewF)) (hn : m.length ≤ 64) : loadS [] l = (0, m.map viewF) := by
  have h1 := ld_again l [] (all_ok h hl hm) (by rw [List.nil_append, h]; exact hr)
  have hlen : l.length = m.length := by have := congrArg List.length h; simpa using this
  unfold loadS
  rw [h1, List.nil_append, h]
  simp only [List.length_map]
  rw [if_neg (by omega)]
theorem Disk.risen {w : World} {B : Nat} {own : Nat → Prop} {g : Nat} {q : Option Nat} {fs : Files} (h : Disk w B own g q fs) : Rise fs ∧ fs.length ≤ 64 := by
  obtain ⟨gm, es, h1, rfl⟩ := h
  refine ⟨?_, by rw [List.length_map]; exact h1.le⟩
  unfold Rise
  rw [List.pairwise_map]
  exact h1.rise
end Go.Proofs.Ytlgcnnhlbkidmaa
