/-
  cell.Cell and intaglioref10.Cell.
-/
import Derived.Test.YtlgcnnhlbkidmaaPowerB
import Derived.Test.YtlgcnnhlbkidmaaLess
import Derived.Deep.RegionHeld3
import Derived.Deep.QuietTactic
import Derived.BigQuiet
namespace Go.Proofs.Ytlgcnnhlbkidmaa
open Go.RowKit

def bnd (n : Int) : Int := if n < 0 then 0 else if 1099511627776 < n then 1099511627776 else n
theorem bnd_lo (n : Int) : 0 ≤ bnd n := by unfold bnd; split <;> (try split) <;> omega
theorem bnd_hi (n : Int) : bnd n ≤ 1099511627776 := by unfold bnd; split <;> (try split) <;> omega

theorem within_any (n : Int) (w : World) : Calls Try.prog 74 #[.int .i64 n] w fun e w' => e = .returned (.int .i64 (bnd n)) ∧ w = w' := by
  go_enter Try.func74, Try.ntmps74
  go_wp2_with fail
  all_goals (go_ret; refine ⟨?_, rfl⟩)
  all_goals (simp only [bnd]; (repeat' split) <;> (first | rfl | omega | (congr 2; omega)))
theorem bound_any (n : Int) (w : World) : Calls Try.prog 49 #[.int .i64 n] w fun e w' => e = .returned (.int .i64 (bnd n)) ∧ w = w' := by
  go_enter Try.func49, Try.ntmps49
  go_wp2_with fail
  all_goals (go_ret; refine ⟨?_, rfl⟩)
  all_goals (simp only [bnd]; (repeat' split) <;> (first | rfl | omega | (congr 2; omega)))

structure CellM where
  life : Int
  pl : Int
  pn : Int
  ml : Int
  mp : Int
  made : Bool
def CellM.cells (c : CellM) (pw : Value) : List Value := [pw, .int .i64 c.life, .int .i64 c.pl, .int .i64 c.pn, .int .i64 c.ml, .int .i64 c.mp, .bool c.made]

set_option maxHeartbeats 1000000 in
theorem cellnew_any (pw : Value) (b0 b1 b2 b3 b4 b5 b6 : Int) (w : World) (hpw : pw = .pointer none ∨ ∃ g, pw = .pointer (some ⟨g, 0, none⟩)) :
    Calls Try.prog 41 #[pw, .agg #[.int .i64 b0, .int .i64 b1, .int .i64 b2, .int .i64 b3, .int .i64 b4, .int .i64 b5, .int .i64 b6]] w fun e w' => ∃ g, e = .returned (.pointer (some ⟨g, 0, none⟩)) ∧ w.heap.size ≤ g ∧ Blk w' g (CellM.cells ⟨0, 0, 0, bnd b4, bnd b2, true⟩ pw) 61 ∧ Below w.heap.size w w' := by
  obtain ⟨B, hB⟩ : ∃ B, w.heap.size = B := ⟨_, rfl⟩
  rcases hpw with rfl | ⟨g, rfl⟩
  all_goals (
    go_enter Try.func41, Try.ntmps41
    go_upto_region 1 with fail
    have hw0 : Blk (w.alloc (.cells #[.int .i64 b0, .int .i64 b1, .int .i64 b2, .int .i64 b3, .int .i64 b4, .int .i64 b5, .int .i64 b6] 70)) B [.int .i64 b0, .int .i64 b1, .int .i64 b2, .int .i64 b3, .int .i64 b4, .int .i64 b5, .int .i64 b6] 70 := Blk.mk_ _ hB.symm rfl
    have hb0 : Below B w (w.alloc (.cells #[.int .i64 b0, .int .i64 b1, .int .i64 b2, .int .i64 b3, .int .i64 b4, .int .i64 b5, .int .i64 b6] 70)) := bw_al (Below.refl _ _) (by omega) _
    generalize (w.alloc (.cells #[.int .i64 b0, .int .i64 b1, .int .i64 b2, .int .i64 b3, .int .i64 b4, .int .i64 b5, .int .i64 b6] 70)) = w1 at *
    have c2 : w1.cell? ⟨B, 2, none⟩ = some (.int .i64 b2) := hw0.at_ 2 rfl
    have c4 : w1.cell? ⟨B, 4, none⟩ = some (.int .i64 b4) := hw0.at_ 4 rfl
    go_region_held3 (fun w' => w'.cell? ⟨B, 2, none⟩ = some (.int .i64 b2) ∧ w'.cell? ⟨B, 4, none⟩ = some (.int .i64 b4)) (go_keep)
      (first | (go_at_call 74; refine (within_any _ _).mono ?_; rintro e w' ⟨rfl, rfl⟩))
    )
  all_goals (
    have hs : B ≤ w1.heap.size := by have := hw0.lt; omega
    go_wp2_with fail
    go_ret
    refine ⟨_, rfl, by rw [hB]; exact hs, ?_, by rw [hB]; exact bw_d1 (bw_al hb0 hs _)⟩
    exact (Blk.mk_ w1 rfl rfl).d1)

theorem life_nil (w : World) : Calls Try.prog 39 #[.pointer none] w fun e w' => e = .returned (.int .i64 0) ∧ w = w' := by
  go_enter Try.func39, Try.ntmps39
  go_wp2_with fail
  all_goals (go_ret; exact ⟨rfl, rfl⟩)
theorem life_any (c : CellM) (pw : Value) (g : Nat) (w : World) (hb : Blk w g (c.cells pw) 61) : Calls Try.prog 39 #[.pointer (some ⟨g, 0, none⟩)] w fun e w' => e = .returned (.int .i64 c.life) ∧ w = w' := by
  have c1 : w.cell? ⟨g, 1, none⟩ = some (.int .i64 c.life) := hb.at_ 1 rfl
  go_enter Try.func39, Try.ntmps39
  go_wp2_with fail
  all_goals (go_ret; exact ⟨rfl, rfl⟩)
set_option maxRecDepth 8000 in
theorem pin_nil (w : World) : Calls Try.prog 40 #[.pointer none] w fun e w' => e = .returned (.agg #[.int .i64 0, .int .i64 0]) ∧ Below w.heap.size w w' := by
  go_enter Try.func40, Try.ntmps40
  go_wp2_with fail
  refine ret_blk rfl rfl (Blk.mk_ w rfl rfl) Try.underlying39 rfl (n := 2) (by kernel_rfl) rfl rfl ?_
  exact ⟨rfl, bw_al (Below.refl _ _) (Nat.le_refl _) _⟩
set_option maxRecDepth 8000 in
theorem pin_any (c : CellM) (pw : Value) (g : Nat) (w : World) (hb : Blk w g (c.cells pw) 61) : Calls Try.prog 40 #[.pointer (some ⟨g, 0, none⟩)] w fun e w' => e = .returned (.agg #[.int .i64 c.pl, .int .i64 c.pn]) ∧ Below w.heap.size w w' := by
  have c2 : w.cell? ⟨g, 2, none⟩ = some (.int .i64 c.pl) := hb.at_ 2 rfl
  have c3 : w.cell? ⟨g, 3, none⟩ = some (.int .i64 c.pn) := hb.at_ 3 rfl
  have hlt := hb.lt
  go_enter Try.func40, Try.ntmps40
  go_wp2_with fail
  refine ret_blk rfl rfl (Blk.mk_ w rfl rfl) Try.underlying39 rfl (n := 2) (by kernel_rfl) rfl rfl ?_
  exact ⟨rfl, bw_al (Below.refl _ _) (Nat.le_refl _) _⟩

/-- Blocks of S alone may have turned. -/
structure Turns (S : Nat → Prop) (w w' : World) : Prop where
  os : w'.os = w.os
  tape : w'.tape = w.tape
  output : w'.output = w.output
  size : w.heap.size ≤ w'.heap.size
  block : ∀ k, k < w.heap.size → ¬ S k → w'.heap[k]? = w.heap[k]?
theorem Turns.refl (S : Nat → Prop) (w : World) : Turns S w w := ⟨rfl, rfl, rfl, Nat.le_refl _, fun _ _ _ => rfl⟩
theorem Turns.of_below {S : Nat → Prop} {w w' : World} (h : Below w.heap.size w w') : Turns S w w' := ⟨h.os, h.tape, h.output, h.size, fun k hk _ => h.block k hk⟩
theorem Turns.of_only {S : Nat → Prop} {b : Nat} {w w' : World} (h : Only b w w') (hb : S b) : Turns S w w' := ⟨h.os, h.tape, h.output, Nat.le_of_eq h.size.symm, fun k _ hs => h.block k fun e => hs (e ▸ hb)⟩
theorem Turns.trans {S : Nat → Prop} {w w' w2 : World} (h : Turns S w w') (k : Turns S w' w2) : Turns S w w2 :=
  ⟨k.os.trans h.os, k.tape.trans h.tape, k.output.trans h.output, Nat.le_trans h.size k.size, fun j hj hs => (k.block j (Nat.lt_of_lt_of_le hj h.size) hs).trans (h.block j hj hs)⟩
theorem Turns.mono {S S' : Nat → Prop} {w w' : World} (h : Turns S w w') (hs : ∀ k, S k → S' k) : Turns S' w w' := ⟨h.os, h.tape, h.output, h.size, fun j hj hn => h.block j hj fun k => hn (hs j k)⟩
theorem Turns.set {S : Nat → Prop} (w : World) (b i : Nat) (v : Value) (hb : S b) : Turns S w (w.setCell ⟨b, i, none⟩ v) := Turns.of_only (Only.set w b i v) hb
theorem Turns.al {S : Nat → Prop} {w w' : World} (h : Turns S w w') (o : Obj) : Turns S w (w'.alloc o) := h.trans (Turns.of_below (bw_al (Below.refl _ _) (Nat.le_refl _) _))
theorem Turns.d1 {S : Nat → Prop} {w w' : World} (h : Turns S w w') : Turns S w w'.drew := ⟨h.os, h.tape, h.output, h.size, h.block⟩
theorem Turns.dN {S : Nat → Prop} {w w' : World} (h : Turns S w w') (n : Nat) : Turns S w (w'.drewN n) := ⟨h.os, h.tape, h.output, h.size, h.block⟩
theorem Turns.below {S : Nat → Prop} {B : Nat} {w0 w w' : World} (h : Below B w0 w) (k : Turns S w w') (hB : B ≤ w.heap.size) (hs : ∀ j, S j → B ≤ j) : Below B w0 w' :=
  h.trans ⟨k.os, k.tape, k.output, k.size, fun j hj => k.block j (Nat.lt_of_lt_of_le hj hB) fun hS => by have := hs j hS; omega⟩
theorem Blk.turns {S : Nat → Prop} {w w' : World} {c : Nat} {cs : List Value} {t : TypeId} (h : Blk w c cs t) (k : Turns S w w') (hn : ¬ S c) : Blk w' c cs t := (k.block c h.lt hn).trans h

def CellM.birth (c : CellM) (e : Int) : CellM × Int × Int :=
  if c.ml ≤ c.life then (c, 0, 7) else if e ≠ 0 then (c, 0, e) else ({ c with life := c.life + 1 }, c.life + 1, 0)
def CellM.raise (c : CellM) (a b e : Int) : CellM × Int :=
  if a < 0 ∨ b < 0 then (c, 1) else if lessP c.pl c.pn a b = false ∨ c.life < a then (c, 13) else if c.mp < b then (c, 7) else if e ≠ 0 then (c, e) else ({ c with pl := a, pn := b }, 0)
/-- Does the call come to the power? -/
def CellM.asksB (c : CellM) : Bool := decide (c.life < c.ml)
def CellM.asksR (c : CellM) (a b : Int) : Bool := !decide (a < 0 ∨ b < 0) && !decide (lessP c.pl c.pn a b = false ∨ c.life < a) && !decide (c.mp < b)
def Pow.actIf (p : Pow) (b : Bool) : Pow := if b then p.act.1 else p
def RPow.actIf (p : RPow) (b : Bool) : RPow := if b then p.act.1 else p

theorem birth_nil (w : World) : Calls Try.prog 37 #[.pointer none] w fun e w' => e = .returned (.tuple #[.int .i64 0, .int .i64 2]) ∧ w = w' := by
  go_enter Try.func37, Try.ntmps37
  go_wp2_with fail
  all_goals (go_ret2; exact ⟨rfl, rfl⟩)
theorem birth_unmade (c : CellM) (pw : Value) (g : Nat) (w : World) (hb : Blk w g (c.cells pw) 61) (hm : c.made = false) : Calls Try.prog 37 #[.pointer (some ⟨g, 0, none⟩)] w fun e w' => e = .returned (.tuple #[.int .i64 0, .int .i64 2]) ∧ w = w' := by
  have c6 : w.cell? ⟨g, 6, none⟩ = some (.bool c.made) := hb.at_ 6 rfl
  rw [hm] at c6
  go_enter Try.func37, Try.ntmps37
  go_wp2_with fail
  all_goals (go_ret2; exact ⟨rfl, rfl⟩)

set_option maxHeartbeats 1000000 in
theorem birth_any (c : CellM) (g gp : Nat) (p : Pow) (w : World) (hb : Blk w g (c.cells (.pointer (some ⟨gp, 0, none⟩))) 61) (hm : c.made = true) (hp : Blk w gp p.cells 92) (hok : p.ok) (hne : g ≠ gp) (hl : 0 ≤ c.life) (hml : c.ml ≤ 1099511627776) :
    Calls Try.prog 37 #[.pointer (some ⟨g, 0, none⟩)] w fun e w' => e = .returned (.tuple #[.int .i64 (c.birth p.act.2).2.1, .int .i64 (c.birth p.act.2).2.2]) ∧
      Blk w' g ((c.birth p.act.2).1.cells (.pointer (some ⟨gp, 0, none⟩))) 61 ∧ Blk w' gp (p.actIf c.asksB).cells 92 ∧ Turns (fun k => k = g ∨ k = gp) w w' := by
  obtain ⟨life, pl, pn, ml, mp, made⟩ := c
  simp only at hm hl hml
  subst hm
  have c0 : w.cell? ⟨g, 0, none⟩ = some (.pointer (some ⟨gp, 0, none⟩)) := hb.at_ 0 rfl
  have c1 : w.cell? ⟨g, 1, none⟩ = some (.int .i64 life) := hb.at_ 1 rfl
  have c4 : w.cell? ⟨g, 4, none⟩ = some (.int .i64 ml) := hb.at_ 4 rfl
  have c6 : w.cell? ⟨g, 6, none⟩ = some (.bool true) := hb.at_ 6 rfl
  obtain ⟨e, he⟩ : ∃ e, p.act.2 = e := ⟨_, rfl⟩
  simp only [he]
  go_enter Try.func37, Try.ntmps37
  by_cases h1 : ml ≤ life
  · go_upto_region 3 with fail
    go_quiet (fail)
    go_wp2_with fail
    all_goals go_ret2
    simp only [CellM.birth, CellM.asksB, if_pos h1, decide_eq_false (show ¬ life < ml by omega), Pow.actIf]
    exact ⟨rfl, hb.dr _, hp.dr _, (Turns.refl _ _).dN _⟩
  · have ha : p.actIf (CellM.asksB ⟨life, pl, pn, ml, mp, true⟩) = p.act.1 := by simp only [CellM.asksB, decide_eq_true (show life < ml by omega), Pow.actIf, if_true]
    rw [ha]
    go_upto_region 3 with fail
    go_quiet (fail)
    go_upto_region 5 with fail
    have hp' : Blk (w.drewN nq) gp p.cells 92 := hp.dr _
    by_cases h2 : e = 0
    · subst h2
      go_wp2_with (go_at_call 51; refine (act_any p gp _ hp' hok).mono ?_; rintro e2 w2 ⟨rfl, hp2, o2⟩; have hb2 := (hb.dr nq).only o2 hne; have k1 : w2.cell? ⟨g, 1, none⟩ = some (.int .i64 life) := hb2.at_ 1 rfl; have k2 := hb2.free 1)
      all_goals go_ret2
      simp only [CellM.birth, if_neg (show ¬ ml ≤ life by omega), ne_eq, not_true_eq_false, if_false]
      exact ⟨rfl, hb2.set 1 _, hp2.other (Ne.symm hne) _, (((Turns.refl _ w).dN nq).trans (Turns.of_only o2 (.inr rfl))).trans (Turns.set _ _ _ _ (.inl rfl))⟩
    · have h20 : (e == 0) = false := by simpa using h2
      have h21 : (e != 0) = true := by simpa using h2
      go_wp2_with (go_at_call 51; refine (act_any p gp _ hp' hok).mono ?_; rintro e2 w2 ⟨rfl, hp2, o2⟩; have hb2 := (hb.dr nq).only o2 hne)
      all_goals go_ret2
      simp only [CellM.birth, if_neg (show ¬ ml ≤ life by omega), if_pos h2]
      exact ⟨rfl, hb2, hp2, ((Turns.refl _ w).dN nq).trans (Turns.of_only o2 (.inr rfl))⟩
end Go.Proofs.Ytlgcnnhlbkidmaa
