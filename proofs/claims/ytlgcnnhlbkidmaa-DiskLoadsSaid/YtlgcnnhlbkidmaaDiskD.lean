/-
  A disk with its power: each call in one form.
-/
import Derived.Test.YtlgcnnhlbkidmaaDiskX
namespace Go.Proofs.Ytlgcnnhlbkidmaa
open Go.RowKit

structure DP (w : World) (B : Nat) (own : Nat → Prop) (g gp : Nat) (p : Pow) (fs : Files) : Prop where
  disk : Disk w B own g (some gp) fs
  pow : Blk w gp p.cells 92
  ok : p.ok
  made : p.made = true
  no : ¬ own gp
  lt : B ≤ w.heap.size
  lo : B ≤ gp
theorem DP.pw {w : World} {B : Nat} {own : Nat → Prop} {g gp : Nat} {p : Pow} {fs : Files} (h : DP w B own g gp p fs) : PowAt w (some gp) p := ⟨fun k hk => by cases hk; exact h.pow, fun h => by cases h⟩
theorem DP.stay {w w' : World} {B : Nat} {own : Nat → Prop} {g gp : Nat} {p : Pow} {fs : Files} (h : DP w B own g gp p fs) (k : Below w.heap.size w w') : DP w' B own g gp p fs :=
  ⟨h.disk.stay k, h.pow.stay k, h.ok, h.made, h.no, Nat.le_trans h.lt k.size, h.lo⟩
/-- What may turn in a call. -/
abbrev Dom (own : Nat → Prop) (gp b : Nat) : Prop := own b ∨ b = gp
theorem DP.new {w : World} {B : Nat} {own : Nat → Prop} {g gp : Nat} {p : Pow} {fs : Files} (h : DP w B own g gp p fs) {k : Nat} (hk : w.heap.size ≤ k) : ¬ own k ∧ k ≠ gp :=
  ⟨fun ho => by have := (h.disk.dom k ho).2; omega, fun e => by have := h.pow.lt; omega⟩
theorem DP.old {w : World} {B : Nat} {own : Nat → Prop} {g gp : Nat} {p : Pow} {fs : Files} (h : DP w B own g gp p fs) {k : Nat} (hk : k < B) : ¬ own k ∧ k ≠ gp :=
  ⟨fun ho => by have := (h.disk.dom k ho).1; omega, fun e => by have := h.lo; omega⟩
theorem DP.below {w w' w0 : World} {B : Nat} {own : Nat → Prop} {g gp : Nat} {p : Pow} {fs : Files} (h : DP w B own g gp p fs) (k : Turns (Dom own gp) w w') (hb : Below B w0 w) : Below B w0 w' :=
  k.below hb h.lt fun j hj => hj.elim (fun ho => (h.disk.dom j ho).1) fun e => by rw [e]; exact h.lo
/-- What a call of a disk comes to. -/
def DRes (w : World) (B : Nat) (own : Nat → Prop) (g gp : Nat) (r : Int × Pow × Files) (e : Ending) (w' : World) : Prop :=
  e = .returned (.int .i64 r.1) ∧ ∃ own', DP w' B own' g gp r.2.1 r.2.2 ∧ (∀ b, b < w.heap.size → (own' b ↔ own b)) ∧ Turns (Dom own gp) w w'
theorem DRes.of {w w' : World} {B : Nat} {own : Nat → Prop} {g gp : Nat} {p : Pow} {fs : Files} {r : Int × Pow × Files} {e : Ending} (h : DP w B own g gp p fs) (k : DiskRes w B own g (some gp) r e w') (h1 : r.2.1.ok) (h2 : r.2.1.made = true) : DRes w B own g gp r e w' := by
  obtain ⟨h3, own', h4, h5, h6, h7⟩ := k
  refine ⟨h3, own', ⟨h4, h6.1 gp rfl, h1, h2, fun ho => h.no ((h5 gp h.pow.lt).1 ho), Nat.le_trans h.lt h7.size, h.lo⟩, h5, h7.mono fun b hb => hb.imp id fun e => by cases e; rfl⟩
theorem Pow.act_keep (p : Pow) (h : p.ok) : p.act.1.ok ∧ p.act.1.made = p.made := by
  unfold Pow.act
  obtain ⟨h0, h1⟩ := h
  split
  · exact ⟨⟨h0, h1⟩, rfl⟩
  · split
    · exact ⟨⟨h0, h1⟩, rfl⟩
    · split
      · rename_i h2 h3
        refine ⟨⟨?_, ?_⟩, rfl⟩
        · simp only
          have : p.left ≠ 0 := fun e => h2 ⟨h3, e⟩
          omega
        · simp only
          omega
      · exact ⟨⟨h0, h1⟩, rfl⟩
theorem createS_keep (p : Pow) (fs : Files) (s : ByteArray) (h : p.ok) : (createS p fs s).2.1.ok ∧ (createS p fs s).2.1.made = p.made := by
  have := p.act_keep h
  unfold createS
  split
  · exact ⟨h, rfl⟩
  · split
    · exact ⟨h, rfl⟩
    · split <;> exact this
theorem appendS_keep (p : Pow) (fs : Files) (s : ByteArray) (b : List Int) (h : p.ok) : (appendS p fs s b).2.1.ok ∧ (appendS p fs s b).2.1.made = p.made := by
  have := p.act_keep h
  unfold appendS
  split
  · exact ⟨h, rfl⟩
  · split
    · exact ⟨h, rfl⟩
    · split <;> exact this
theorem syncS_keep (p : Pow) (fs : Files) (s : ByteArray) (h : p.ok) : (syncS p fs s).2.1.ok ∧ (syncS p fs s).2.1.made = p.made := by
  have := p.act_keep h
  unfold syncS
  split
  · exact ⟨h, rfl⟩
  · split <;> exact this
section
variable {w : World} {B : Nat} {own : Nat → Prop} {g gp : Nat} {p : Pow} {fs : Files}
theorem DP.q (h : DP w B own g gp p fs) : ∀ k, some gp = some k → ¬ own k := fun k hk => by cases hk; exact h.no
theorem create_dp (h : DP w B own g gp p fs) (s : ByteArray) (hs : s.size ≤ maxLen) : Calls Try.prog 55 #[.pointer (some ⟨g, 0, none⟩), .string s] w (DRes w B own g gp (createS p fs s)) :=
  (create_any w B own g (some gp) p fs s h.disk h.pw h.ok h.q hs).mono fun _ _ k => DRes.of h k (createS_keep p fs s h.ok).1 ((createS_keep p fs s h.ok).2.trans h.made)
theorem append_dp (h : DP w B own g gp p fs) (s : ByteArray) (hs : s.size ≤ maxLen) (v : Value) (b : List Int) (hr : Rd w v (bs b)) (hb : IsB b) (hv : b ≠ [] → ∀ k, hold v k → ¬ own k ∧ k ≠ gp) : Calls Try.prog 56 #[.pointer (some ⟨g, 0, none⟩), .string s, v] w (DRes w B own g gp (appendS p fs s b)) :=
  (append_any w B own g (some gp) p fs s v b h.disk h.pw h.ok h.q hs hr hb (fun hx k hk => ⟨(hv hx k hk).1, fun e => (hv hx k hk).2 (by cases e; rfl)⟩) h.lt).mono fun _ _ k => DRes.of h k (appendS_keep p fs s b h.ok).1 ((appendS_keep p fs s b h.ok).2.trans h.made)
theorem sync_dp (h : DP w B own g gp p fs) (s : ByteArray) (hs : s.size ≤ maxLen) : Calls Try.prog 57 #[.pointer (some ⟨g, 0, none⟩), .string s] w (DRes w B own g gp (syncS p fs s)) :=
  (sync_any w B own g (some gp) p fs s h.disk h.pw h.ok h.q hs).mono fun _ _ k => DRes.of h k (syncS_keep p fs s h.ok).1 ((syncS_keep p fs s h.ok).2.trans h.made)
theorem read_dp (h : DP w B own g gp p fs) (s : ByteArray) (hs : s.size ≤ maxLen) : Calls Try.prog 59 #[.pointer (some ⟨g, 0, none⟩), .string s] w fun e w' => ∃ v, e = .returned (.tuple #[v, .int .i64 (thereS p fs s)]) ∧ w'.ownsRow w.heap.size 5 1 v (readF p fs s).length (bs (readF p fs s)) ∧ IsB (readF p fs s) ∧ Below w.heap.size w w' := read_any w B own g (some gp) p fs s h.disk h.pw hs
theorem crash_dp (h : DP w B own g gp p fs) (v : Value) (cuts : List Int) (hr : Rd w v (cuts.map (Value.int .i64))) (hv : cuts ≠ [] → ∀ k, hold v k → ¬ own k) :
    Calls Try.prog 58 #[.pointer (some ⟨g, 0, none⟩), v] w fun e w' => e = .returned (.tuple #[]) ∧ DP w' B own g gp Pow.fresh (crashS cuts fs) ∧ Turns (Dom own gp) w w' := by
  refine (crash_any w B own g gp p fs v cuts h.disk h.pw h.made h.no hr hv).mono ?_
  rintro e w' ⟨rfl, h1, h2, h3⟩
  exact ⟨rfl, ⟨h1, h2.1 gp rfl, ⟨Int.le_refl _, by decide⟩, rfl, h.no, Nat.le_trans h.lt h3.size, h.lo⟩, h3⟩
end
/-- A new disk with a power of its own. -/
theorem DP.made_ {w0 w1 w2 : World} {g : Nat} {own : Nat → Prop} (hp : Blk w1 w0.heap.size Pow.fresh.cells 92) (hb1 : Below w0.heap.size w0 w1) (hs : w1.heap.size = w0.heap.size + 1) (hd : Disk w2 w1.heap.size own g (some w0.heap.size) []) (hb2 : Below w1.heap.size w1 w2) : DP w2 w0.heap.size own g w0.heap.size Pow.fresh [] := by
  refine ⟨?_, hp.stay hb2, ⟨Int.le_refl _, by decide⟩, rfl, fun ho => by have := (hd.dom _ ho).1; omega, Nat.le_trans hb1.size hb2.size, Nat.le_refl _⟩
  obtain ⟨gm, es, h1, h2⟩ := hd
  have he : es = [] := by simpa using h2.symm
  subst he
  exact ⟨gm, [], ⟨h1.head, h1.map, h1.rise, (fun e he => by cases he), List.Pairwise.nil, h1.le, h1.og, h1.om, h1.ne, fun k hk => ⟨by have := (h1.dom k hk).1; omega, (h1.dom k hk).2⟩⟩, h2⟩
end Go.Proofs.Ytlgcnnhlbkidmaa
