/-
  disk.Power: Plug, Fuse, Mend; intaglioref09.Power: Plug, Fuse, Act.
-/
import Derived.Test.YtlgcnnhlbkidmaaPower
namespace Go.Proofs.Ytlgcnnhlbkidmaa
open Go.RowKit

def Pow.fuse (p : Pow) (n : Int) : Pow := { p with bound := decide (0 ≤ n), left := if n < 0 then 0 else n }
def Pow.fresh : Pow := ⟨true, false, 0, true⟩
structure RPow where
  off : Bool
  left : Int
def RPow.cells (p : RPow) : List Value := [.bool p.off, .int .i64 p.left]
def RPow.act (p : RPow) : RPow × Int :=
  if p.left = 0 then (⟨true, 0⟩, 8) else if p.off = true then (p, 8) else if 0 < p.left then (⟨p.off, p.left - 1⟩, 0) else (p, 0)
def RPow.fuse (p : RPow) (n : Int) : RPow := ⟨p.off, if n < -1 then -1 else n⟩
/-- The same power in both. -/
structure PowRel (p : Pow) (q : RPow) : Prop where
  made : p.made = true
  off : q.off = !p.on
  some : p.bound = true → q.left = p.left
  none : p.bound = false → q.left = -1
  ok : p.ok
theorem PowRel.fresh : PowRel Pow.fresh ⟨false, -1⟩ := ⟨rfl, rfl, (fun h => by cases h), (fun _ => rfl), ⟨Int.le_refl _, by decide⟩⟩
theorem PowRel.fuse {p : Pow} {q : RPow} (h : PowRel p q) {n : Int} (hn : n ≤ 9223372036854775807) : PowRel (p.fuse n) (q.fuse n) := by
  refine ⟨h.made, h.off, fun hb => ?_, fun hb => ?_, ?_⟩
  · simp only [Pow.fuse, decide_eq_true_eq] at hb
    simp only [Pow.fuse, RPow.fuse]
    rw [if_neg (by omega), if_neg (by omega)]
  · simp only [Pow.fuse, decide_eq_false_iff_not] at hb
    simp only [RPow.fuse]
    by_cases h : n < -1
    · rw [if_pos h]
    · rw [if_neg h]; omega
  · simp only [Pow.ok, Pow.fuse]
    split <;> omega
theorem PowRel.act {p : Pow} {q : RPow} (h : PowRel p q) : PowRel p.act.1 q.act.1 ∧ p.act.2 = q.act.2 := by
  obtain ⟨on, bound, left, md⟩ := p
  obtain ⟨off, rl⟩ := q
  obtain ⟨h1, h2, h3, h4, h5⟩ := h
  simp only at h1 h2 h3 h4
  have h50 := h5.1
  have h51 := h5.2
  simp only at h50 h51
  subst h1
  cases on <;> cases bound
  · obtain rfl := h4 rfl
    subst h2
    exact ⟨⟨rfl, rfl, h3, h4, h5⟩, rfl⟩
  · obtain rfl := h3 rfl
    subst h2
    by_cases hz : rl = 0
    · subst hz
      exact ⟨⟨rfl, rfl, fun _ => rfl, (fun h => by cases h), h5⟩, rfl⟩
    · simp only [Pow.act, RPow.act, if_neg hz]
      exact ⟨⟨rfl, rfl, fun _ => rfl, (fun h => by cases h), h5⟩, rfl⟩
  · obtain rfl := h4 rfl
    subst h2
    exact ⟨⟨rfl, rfl, h3, h4, h5⟩, rfl⟩
  · obtain rfl := h3 rfl
    subst h2
    by_cases hz : rl = 0
    · subst hz
      exact ⟨⟨rfl, rfl, fun _ => rfl, (fun h => by cases h), h5⟩, rfl⟩
    · have hp : 0 < rl := by omega
      rw [show ∀ m, Pow.act ⟨true, true, rl, m⟩ = (⟨true, true, rl - 1, m⟩, 0) from fun m => by simp [Pow.act, hz], show RPow.act ⟨!true, rl⟩ = (⟨false, rl - 1⟩, 0) from by simp [RPow.act, hz, hp]]
      exact ⟨⟨rfl, rfl, fun _ => rfl, (fun h => by cases h), ⟨by simp only; omega, by simp only; omega⟩⟩, rfl⟩

theorem plug_any (w : World) : Calls Try.prog 42 #[] w fun e w' => e = .returned (.pointer (some ⟨w.heap.size, 0, none⟩)) ∧ Blk w' w.heap.size Pow.fresh.cells 92 ∧ Below w.heap.size w w' ∧ w'.heap.size = w.heap.size + 1 := by
  go_enter Try.func42, Try.ntmps42
  go_wp2_with fail
  all_goals (go_ret; exact ⟨rfl, Blk.mk_ _ rfl rfl, bw_al (Below.refl _ _) (Nat.le_refl _) _, by simp⟩)
theorem rplug_any (w : World) : Calls Try.prog 43 #[] w fun e w' => e = .returned (.pointer (some ⟨w.heap.size, 0, none⟩)) ∧ Blk w' w.heap.size (RPow.cells ⟨false, -1⟩) 85 ∧ Below w.heap.size w w' ∧ w'.heap.size = w.heap.size + 1 := by
  go_enter Try.func43, Try.ntmps43
  go_wp2_with fail
  all_goals (go_ret; exact ⟨rfl, Blk.mk_ _ rfl rfl, bw_al (Below.refl _ _) (Nat.le_refl _) _, by simp⟩)

theorem fuse_any (p : Pow) (n : Int) (g : Nat) (w : World) (hb : Blk w g p.cells 92) (hm : p.made = true) :
    Calls Try.prog 45 #[.pointer (some ⟨g, 0, none⟩), .int .i64 n] w fun e w' => e = .returned (.tuple #[]) ∧ Blk w' g (p.fuse n).cells 92 ∧ Only g w w' := by
  obtain ⟨on, bound, left, made⟩ := p
  simp only at hm
  subst hm
  have c1 : w.cell? ⟨g, 1, none⟩ = some (.bool bound) := hb.at_ 1 rfl
  have c2 : w.cell? ⟨g, 2, none⟩ = some (.int .i64 left) := hb.at_ 2 rfl
  have c3 : w.cell? ⟨g, 3, none⟩ = some (.bool true) := hb.at_ 3 rfl
  have f1 := hb.free 1
  have f2 := hb.free 2
  go_enter Try.func45, Try.ntmps45
  go_wp2_with fail
  all_goals go_end0
  all_goals (refine ⟨rfl, ?_, (Only.set _ _ _ _).trans (Only.set _ _ _ _)⟩)
  · have hn : n < 0 := by omega
    have e : (Pow.mk on bound left true).fuse n = ⟨on, decide (0 ≤ n), 0, true⟩ := by simp [Pow.fuse, hn]
    rw [e]
    exact (hb.set 1 _).set 2 _
  · have hn : ¬ n < 0 := by omega
    have e : (Pow.mk on bound left true).fuse n = ⟨on, true, n, true⟩ := by simp only [Pow.fuse, if_neg hn]; rw [decide_eq_true (by omega)]
    rw [e]
    exact (hb.set 1 _).set 2 _

set_option maxRecDepth 8000 in
theorem mend_any (p : Pow) (g : Nat) (w : World) (hb : Blk w g p.cells 92) (hm : p.made = true) :
    Calls Try.prog 47 #[.pointer (some ⟨g, 0, none⟩)] w fun e w' => e = .returned (.tuple #[]) ∧ Blk w' g Pow.fresh.cells 92 ∧ Only g w w' := by
  obtain ⟨on, bound, left, made⟩ := p
  simp only at hm
  subst hm
  have c3 : w.cell? ⟨g, 3, none⟩ = some (.bool true) := hb.at_ 3 rfl
  go_enter Try.func47, Try.ntmps47
  go_wp2_with (refine wp_store_blk rfl 92 (.tmp 12) (.tmp 11) rfl rfl (cs' := Pow.fresh.cells) rfl hb (by simp [Pow.fresh, Pow.cells, Value.oneCell']) rfl (n := 4) (by kernel_rfl) rfl ?_; intro w1 h1 o1)
  all_goals go_end0
  exact ⟨rfl, h1, o1⟩

theorem rfuse_any (p : RPow) (n : Int) (g : Nat) (w : World) (hb : Blk w g p.cells 85) :
    Calls Try.prog 46 #[.pointer (some ⟨g, 0, none⟩), .int .i64 n] w fun e w' => e = .returned (.tuple #[]) ∧ Blk w' g (p.fuse n).cells 85 ∧ Only g w w' := by
  obtain ⟨off, left⟩ := p
  have c1 : w.cell? ⟨g, 1, none⟩ = some (.int .i64 left) := hb.at_ 1 rfl
  have f1 := hb.free 1
  go_enter Try.func46, Try.ntmps46
  go_wp2_with fail
  all_goals go_end0
  all_goals (refine ⟨rfl, ?_, Only.set _ _ _ _⟩)
  · by_cases hn : n < -1
    · rw [show (RPow.mk off left).fuse n = ⟨off, -1⟩ from by simp [RPow.fuse, hn]]
      exact hb.set 1 _
    · obtain rfl : n = -1 := by omega
      exact hb.set 1 _
  · rw [show (RPow.mk off left).fuse n = ⟨off, n⟩ from by simp only [RPow.fuse]; rw [if_neg (by omega)]]
    exact hb.set 1 _

set_option maxHeartbeats 400000 in
theorem ract_any (p : RPow) (g : Nat) (w : World) (hb : Blk w g p.cells 85) (hp : p.left ≤ 9223372036854775807) :
    Calls Try.prog 52 #[.pointer (some ⟨g, 0, none⟩)] w fun e w' => e = .returned (.int .i64 p.act.2) ∧ Blk w' g p.act.1.cells 85 ∧ Only g w w' := by
  obtain ⟨off, left⟩ := p
  simp only at hp
  have c0 : w.cell? ⟨g, 0, none⟩ = some (.bool off) := hb.at_ 0 rfl
  have c1 : w.cell? ⟨g, 1, none⟩ = some (.int .i64 left) := hb.at_ 1 rfl
  have f0 := hb.free 0
  have f1 := hb.free 1
  go_enter Try.func52, Try.ntmps52
  by_cases hl : left = 0
  · subst hl
    go_wp2_with fail
    all_goals go_ret
    exact ⟨rfl, hb.set 0 _, Only.set _ _ _ _⟩
  · have hl0 : (left == 0) = false := by simpa using hl
    cases off
    · by_cases h2 : 0 < left
      · go_wp2_with fail
        all_goals go_ret
        have e1 : RPow.act ⟨false, left⟩ = (⟨false, left - 1⟩, 0) := by simp [RPow.act, hl, h2]
        rw [e1]
        exact ⟨rfl, hb.set 1 _, Only.set _ _ _ _⟩
      · go_wp2_with fail
        all_goals go_ret
        have e1 : RPow.act ⟨false, left⟩ = (⟨false, left⟩, 0) := by simp only [RPow.act]; rw [if_neg hl, if_neg (by simp), if_neg (by omega)]
        rw [e1]
        exact ⟨rfl, hb, Only.refl _ _⟩
    · go_wp2_with fail
      all_goals go_ret
      have e1 : RPow.act ⟨true, left⟩ = (⟨true, left⟩, 8) := by simp [RPow.act, hl]
      rw [e1]
      exact ⟨rfl, hb, Only.refl _ _⟩
end Go.Proofs.Ytlgcnnhlbkidmaa
