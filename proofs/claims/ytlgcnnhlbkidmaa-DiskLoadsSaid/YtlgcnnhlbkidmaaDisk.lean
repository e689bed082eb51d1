/-
  A disk: where its parts lie, and what it reads as; what is asked ahead of each call.
-/
import Derived.Test.YtlgcnnhlbkidmaaNames
import Derived.Test.YtlgcnnhlbkidmaaFMap
import Derived.Test.YtlgcnnhlbkidmaaPart
import Derived.Test.YtlgcnnhlbkidmaaPowerB
namespace Go.Proofs.Ytlgcnnhlbkidmaa
open Go.RowKit

/-- A file's bytes, the first ones of which last. -/
structure FileS where
  data : List Int
  kept : Nat
abbrev Ent := FileS × Value
def fileV (v : Value) (k : Nat) : Value := .agg #[v, .int .i64 k]
def entV (e : Ent) : Value := fileV e.2 e.1.kept
/-- A power, or none. -/
def ptrV (q : Option Nat) : Value := .pointer (q.map fun g => ⟨g, 0, none⟩)
def PowAt (w : World) (q : Option Nat) (p : Pow) : Prop := (∀ g, q = some g → Blk w g p.cells 92) ∧ (q = none → p.on = false)
theorem PowAt.turns {S : Nat → Prop} {w w' : World} {q : Option Nat} {p : Pow} (h : PowAt w q p) (k : Turns S w w') (hn : ∀ g, q = some g → ¬ S g) : PowAt w' q p := ⟨fun g hg => (h.1 g hg).turns k (hn g hg), h.2⟩
theorem PowAt.stay {w w' : World} {q : Option Nat} {p : Pow} (h : PowAt w q p) (k : Below w.heap.size w w') : PowAt w' q p := ⟨fun g hg => (h.1 g hg).stay k, h.2⟩
theorem onq_any (w : World) (q : Option Nat) (p : Pow) (h : PowAt w q p) : Calls Try.prog 53 #[ptrV q] w fun e w' => e = .returned (.bool p.on) ∧ w = w' := by
  cases q with
  | none => rw [h.2 rfl]; exact on_nil w
  | some g => exact on_any p g w (h.1 g rfl)
theorem actq_any (w : World) (q : Option Nat) (p : Pow) (h : PowAt w q p) (hp : p.ok) : Calls Try.prog 51 #[ptrV q] w fun e w' => e = .returned (.int .i64 p.act.2) ∧ PowAt w' q p.act.1 ∧ Turns (fun b => q = some b) w w' := by
  cases q with
  | none =>
    refine (act_nil w).mono ?_
    rintro e w' ⟨rfl, rfl⟩
    have hoff := h.2 rfl
    have : p.act = (p, 8) := by unfold Pow.act; rw [if_pos hoff]
    rw [this]
    exact ⟨rfl, h, Turns.refl _ _⟩
  | some g =>
    refine (act_any p g w (h.1 g rfl) hp).mono ?_
    rintro e w' ⟨rfl, h1, h2⟩
    refine ⟨rfl, ⟨fun g' hg => ?_, fun h => by cases h⟩, Turns.of_only h2 rfl⟩
    cases hg; exact h1

structure FileOk (w : World) (B : Nat) (own : Nat → Prop) (g gm : Nat) (e : Bt × Ent) : Prop where
  part : Part w B 5 e.2.2 (bs e.2.1.data)
  isB : IsB e.2.1.data
  kept : e.2.1.kept ≤ e.2.1.data.length
  small : e.2.1.data.length ≤ 1048576
  name : 1 ≤ e.1.length ∧ e.1.length ≤ 40
  mine : ∀ k, hold e.2.2 k → own k ∧ k ≠ g ∧ k ≠ gm
structure DiskAt (w : World) (B : Nat) (own : Nat → Prop) (g gm : Nat) (q : Option Nat) (es : List (Bt × Ent)) : Prop where
  head : Blk w g [ptrV q, .map (some gm)] 123
  map : FMap w gm (es.map fun e => (e.1, entV e.2))
  rise : Rise es
  file : ∀ e ∈ es, FileOk w B own g gm e
  apart : es.Pairwise fun a b => ∀ k, hold a.2.2 k → ¬ hold b.2.2 k
  le : es.length ≤ 64
  og : own g
  om : own gm
  ne : g ≠ gm
  dom : ∀ k, own k → B ≤ k ∧ k < w.heap.size
abbrev Files := List (Bt × FileS)
def Disk (w : World) (B : Nat) (own : Nat → Prop) (g : Nat) (q : Option Nat) (fs : Files) : Prop := ∃ gm es, DiskAt w B own g gm q es ∧ fs = es.map fun e => (e.1, e.2.1)

theorem FileOk.turns {S : Nat → Prop} {w w' : World} {B : Nat} {own : Nat → Prop} {g gm : Nat} {e : Bt × Ent} (h : FileOk w B own g gm e) (k : Turns S w w') (hn : ∀ b, own b → ¬ S b) : FileOk w' B own g gm e :=
  ⟨h.part.move fun b off n c hv => k.block b (h.part.lt b off n c hv).2 (hn b (h.mine b ⟨_, _, _, hv⟩).1), h.isB, h.kept, h.small, h.name, h.mine⟩
theorem DiskAt.turns {S : Nat → Prop} {w w' : World} {B : Nat} {own : Nat → Prop} {g gm : Nat} {q : Option Nat} {es : List (Bt × Ent)} (h : DiskAt w B own g gm q es) (k : Turns S w w') (hn : ∀ b, own b → ¬ S b) : DiskAt w' B own g gm q es :=
  ⟨h.head.turns k (hn g h.og), h.map.turns k (hn gm h.om), h.rise, fun e he => (h.file e he).turns k hn, h.apart, h.le, h.og, h.om, h.ne, fun b hb => ⟨(h.dom b hb).1, Nat.lt_of_lt_of_le (h.dom b hb).2 k.size⟩⟩
theorem Disk.turns {S : Nat → Prop} {w w' : World} {B : Nat} {own : Nat → Prop} {g : Nat} {q : Option Nat} {fs : Files} (h : Disk w B own g q fs) (k : Turns S w w') (hn : ∀ b, own b → ¬ S b) : Disk w' B own g q fs := by
  obtain ⟨gm, es, h1, h2⟩ := h
  exact ⟨gm, es, h1.turns k hn, h2⟩
theorem DiskAt.stay {w w' : World} {B : Nat} {own : Nat → Prop} {g gm : Nat} {q : Option Nat} {es : List (Bt × Ent)} (h : DiskAt w B own g gm q es) (k : Below w.heap.size w w') : DiskAt w' B own g gm q es :=
  h.turns (S := fun _ => False) (Turns.of_below k) fun _ _ h => h
theorem Disk.stay {w w' : World} {B : Nat} {own : Nat → Prop} {g : Nat} {q : Option Nat} {fs : Files} (h : Disk w B own g q fs) (k : Below w.heap.size w w') : Disk w' B own g q fs :=
  h.turns (S := fun _ => False) (Turns.of_below k) fun _ _ h => h
theorem Disk.dom {w : World} {B : Nat} {own : Nat → Prop} {g : Nat} {q : Option Nat} {fs : Files} (h : Disk w B own g q fs) : ∀ k, own k → B ≤ k ∧ k < w.heap.size := by
  obtain ⟨gm, es, h1, h2⟩ := h
  exact h1.dom
theorem Disk.le {w : World} {B : Nat} {own : Nat → Prop} {g : Nat} {q : Option Nat} {fs : Files} (h : Disk w B own g q fs) : fs.length ≤ 64 := by
  obtain ⟨gm, es, h1, rfl⟩ := h
  rw [List.length_map]; exact h1.le

/-! ### Lists of files under a map of their values -/
theorem lookF_map {α β : Type} (f : α → β) (fs : List (Bt × α)) (x : Bt) : lookF (fs.map fun e => (e.1, f e.2)) x = (lookF fs x).map f := by
  unfold lookF
  rw [List.find?_map, Option.map_map, Option.map_map]
  rfl
theorem delF_map {α β : Type} (f : α → β) (fs : List (Bt × α)) (x : Bt) : delF (fs.map fun e => (e.1, f e.2)) x = (delF fs x).map fun e => (e.1, f e.2) := by
  unfold delF
  rw [List.filter_map]
  rfl
theorem insF_map {α β : Type} (f : α → β) (fs : List (Bt × α)) (x : Bt) (v : α) : insF (x, f v) (fs.map fun e => (e.1, f e.2)) = (insF (x, v) fs).map fun e => (e.1, f e.2) := by
  induction fs with
  | nil => rfl
  | cons g r ih =>
    simp only [List.map_cons, insF]
    split
    · rfl
    · rw [ih]; rfl
theorem putF_map {α β : Type} (f : α → β) (fs : List (Bt × α)) (x : Bt) (v : α) : putF (fs.map fun e => (e.1, f e.2)) x (f v) = (putF fs x v).map fun e => (e.1, f e.2) := by
  unfold putF
  rw [delF_map, insF_map]
theorem insF_perm {α : Type} (f : Bt × α) (fs : List (Bt × α)) : (insF f fs).Perm (f :: fs) := by
  induction fs with
  | nil => exact List.Perm.refl _
  | cons g r ih =>
    unfold insF
    split
    · exact List.Perm.refl _
    · exact (List.Perm.cons g ih).trans (List.Perm.swap _ _ _)

/-! ### What is asked -/
def askE (p : Pow) (l : List ByteArray) : Int := if l.any (fun s => !namedB s) then 1 else if p.on then 0 else 8
theorem run_neq_map (g : Nat) (w : World) : (binOp .neq 121 (.map (some g)) (.map none)).run Try.prog w = .ok (.bool true) w := by
  exact run_neq_map_nil (w := w) _ _ _ _ Try.underlying121
theorem run_neq_map0 (w : World) : (binOp .neq 121 (.map none) (.map none)).run Try.prog w = .ok (.bool false) w := by
  exact run_neq_map_nil (w := w) _ _ _ _ Try.underlying121
set_option maxRecDepth 100000 in
theorem made_any (w : World) (g gm : Nat) (pv : Value) (h : Blk w g [pv, .map (some gm)] 123) : Calls Try.prog 79 #[.pointer (some ⟨g, 0, none⟩)] w fun e w' => e = .returned (.bool true) ∧ w = w' := by
  have c1 := h.at_ 1 rfl
  have hnm := run_neq_map gm
  go_enter Try.func79, Try.ntmps79
  go_wp2_with fail
  all_goals go_ret
  exact ⟨rfl, rfl⟩
set_option maxRecDepth 100000 in
set_option maxHeartbeats 400000 in
theorem ask_any (w : World) (g gm : Nat) (q : Option Nat) (p : Pow) (h : Blk w g [ptrV q, .map (some gm)] 123) (hp : PowAt w q p) (v : Value) (l : List ByteArray) (hr : Rd w v (l.map Value.string)) :
    Calls Try.prog 75 #[.pointer (some ⟨g, 0, none⟩), v] w fun e w' => e = .returned (.int .i64 (askE p l)) ∧ w = w' := by
  have MD := Lib.hid (made_any w g gm (ptrV q) h)
  have CF := Lib.hid (containsfunc_any w v l hr)
  have ON := Lib.hid (onq_any w q p hp)
  have c0 := h.at_ 0 rfl
  clear hr hp
  unfold askE
  cases hb : l.any (fun s => !namedB s)
  · rw [hb] at CF
    cases ho : p.on
    · rw [ho] at ON
      clear hb ho
      go_enter Try.func75, Try.ntmps75
      go_wp2_with (first
        | (go_at_call 79; refine MD.out.mono ?_; rintro e w' ⟨rfl, rfl⟩)
        | (go_at_call 86; refine CF.out.mono ?_; rintro e w' ⟨rfl, rfl⟩)
        | (go_at_call 53; refine ON.out.mono ?_; rintro e w' ⟨rfl, rfl⟩))
      all_goals go_ret
      exact ⟨rfl, rfl⟩
    · rw [ho] at ON
      clear hb ho
      go_enter Try.func75, Try.ntmps75
      go_wp2_with (first
        | (go_at_call 79; refine MD.out.mono ?_; rintro e w' ⟨rfl, rfl⟩)
        | (go_at_call 86; refine CF.out.mono ?_; rintro e w' ⟨rfl, rfl⟩)
        | (go_at_call 53; refine ON.out.mono ?_; rintro e w' ⟨rfl, rfl⟩))
      all_goals go_ret
      exact ⟨rfl, rfl⟩
  · rw [hb] at CF
    clear hb
    go_enter Try.func75, Try.ntmps75
    go_wp2_with (first
      | (go_at_call 79; refine MD.out.mono ?_; rintro e w' ⟨rfl, rfl⟩)
      | (go_at_call 86; refine CF.out.mono ?_; rintro e w' ⟨rfl, rfl⟩))
    all_goals go_ret
    exact ⟨rfl, rfl⟩

theorem zfile (w : World) : (zeroValue 147).run Try.prog w = .ok (fileV (.slice none 0 0) 0) w := by kernel_rfl
def zent : Value := fileV (.slice none 0 0) 0
set_option maxRecDepth 100000 in
set_option maxHeartbeats 1000000 in
theorem full_any (w : World) (g gm : Nat) (q : Option Nat) (fs : List (Bt × Value)) (h : Blk w g [ptrV q, .map (some gm)] 123) (hm : FMap w gm fs) (s : ByteArray) (hs : s.size ≤ maxLen) (hsz : ∀ f ∈ fs, ∃ A n c k, f.2 = fileV (.slice A n c) k) :
    Calls Try.prog 76 #[.pointer (some ⟨g, 0, none⟩), .string s] w fun e w' => e = .returned (.bool (!(lookF fs s.data.toList).isSome && decide (64 ≤ fs.length))) ∧ Below w.heap.size w w' := by
  have c1 := h.at_ 1 rfl
  have hl := hm.look_ok Try.underlying121 (zfile w) s hs
  obtain ⟨A, m, c, k, hv⟩ : ∃ A n c k, (lookF fs s.data.toList).getD (fileV (.slice none 0 0) 0) = fileV (.slice A n c) k := by
    cases hq : lookF fs s.data.toList with
    | none => exact ⟨_, _, _, _, rfl⟩
    | some x => exact hsz _ (lookF_mem hq)
  rw [hv] at hl
  unfold fileV at hl
  have hln : ∀ w', Below w.heap.size w w' → (Builtin.len_ #[121] 3 #[.map (some gm)]).run Try.prog w' = .ok (.int .i64 fs.length) w' := fun w' hb => (hm.stay hb).len Try.underlying121 _
  obtain ⟨n, hn⟩ : ∃ n, fs.length = n := ⟨_, rfl⟩
  rw [hn] at hln ⊢
  obtain ⟨b, hb⟩ : ∃ b, (lookF fs s.data.toList).isSome = b := ⟨_, rfl⟩
  rw [hb] at hl ⊢
  have e : (!b && decide (64 ≤ n)) = if b then false else decide ((64 : Int) ≤ n) := by cases b <;> simp; omega
  rw [e]
  have hA : Below w.heap.size w (w.alloc (.cells #[.slice A m c, .int .i64 k] 147)) := bw_al (Below.refl _ _) (Nat.le_refl _) _
  have c1A := (h.stay hA).at_ 1 rfl
  have hlA := hln _ hA
  clear hm hv hn hb hsz e hln
  go_enter Try.func76, Try.ntmps76
  cases b
  · go_wp2_with fail
    all_goals go_ret
    exact ⟨rfl, hA⟩
  · go_wp2_with fail
    all_goals go_ret
    exact ⟨rfl, hA⟩
end Go.Proofs.Ytlgcnnhlbkidmaa
