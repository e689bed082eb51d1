/-
  Texts of mine in one: WNEv, WMore, PAeadSealsx0, PAeadSealsx1, Base, Bytes, Pack, PolyM, Flow, Seq, App.
-/
import Derived.Test.YtmjjnaaiakchhaaDoorAb2
import Derived.Test.YtmjjnaaiakchhaaDoorProg
import Derived.Below
import Derived.Deep.Draws
import Derived.Deep.AppendLies
import Derived.Maps.AppendAt
import Derived.OwnWalk
import Derived.Laws.BytesArg
import Derived.Laws.MakeOwn
import Derived.Laws.OwnMore
import Derived.Deep.OwnRows
import Derived.Tactics
import Derived.Lib.ConvBytes
import Derived.Laws.Slices
import Derived.WalkKit
import Derived.KernelRfl
import Derived.RowKit3
import Derived.Deep.LoopGhost
import Derived.Deep.QuietTactic
import Derived.BigQuiet
import Derived.WideLaws
import Derived.Deep.DeepCutAuto
import Derived.Deep.CutBlock
import Derived.Deep.RegionHeld3
import Derived.Laws.Rows
import Derived.Lib.AppendStr
import Derived.ArgAppend
import Derived.Laws.IdiomCopy
import Derived.OrdersHeld
import Derived.Laws.BitsLemmas
import Derived.RowKit
import Derived.Test.YtmjjnaaiakchhaaDoorRows
import Derived.WalkSpells
import Derived.WalkLawsBesides
import Derived.ProofKit
import Derived.OpenShut
import Derived.Deep.DeepHandedRow
import Derived.Lib.LaidTab
import Derived.Lib.Hide
import Derived.Laws.AppendOwnNone
import Derived.Orders
import Derived.Laws.World
import Derived.IntWalk
section
-- PRINTED BY print.sh 35421559b90ae4d0a3588c463048766b98c2df88dd9212a6774a882060cdf62d: not written by this session
/-! ### 48. N's events: append, a whole row appended, zeros appended, literals, make, stores, cuts, an element taken out -/
namespace Go.Proofs.YtmjjnaaiakchhaaDoorW.PrintWords
open Go.RowKit
namespace Kd
section
variable {α : Type} {d : Kd α} {e base n cap g : Nat} {ok ok' okp : Nat → Prop} {w w1 W : World} {v v1 : Value} {xs ys : List α}
/-- Behind an append: the old elements and the new ones, moved. -/
theorem N_appended {rows news : List (List Value)} (h0 : ∀ k, v.ownBlock = some k → ok k) (hl : rows.length = xs.length) (hf : ∀ (j : Nat) (x : α) (c : List Value), xs[j]? = some x → rows[j]? = some c → FK d W (fun k => ok k ∧ some k ≠ v.ownBlock) x c)
    (hl2 : news.length = ys.length) (hf2 : ∀ (j : Nat) (x : α) (c : List Value), ys[j]? = some x → news[j]? = some c → FK d W okp x c) (hokp : ∀ k, okp k → ok k ∧ some k ≠ v.ownBlock) (hfresh : ∀ k, W.heap.size ≤ k → ok k)
    (hR : (raw d.sz).R e w1 base (fun _ => True) v1 (rows ++ news)) (hg : W.grownBy w1 v.ownBlock) (hat : v1.ownBlock = v.ownBlock ∨ ∃ b, v1.ownBlock = some b ∧ W.heap.size ≤ b) : N d e w1 base ok v1 (xs ++ ys) := by
  have hne : ∀ k, some k ≠ v.ownBlock → k < W.heap.size → some k ≠ v1.ownBlock := by
    intro k hk hlt
    rcases hat with hat | ⟨b, hb, hle⟩
    · rw [hat]; exact hk
    · rw [hb]
      intro he
      injection he with he
      omega
  have step : ∀ {x : α} {c : List Value} {o : Nat → Prop}, FK d W o x c → (∀ k, o k → ok k ∧ some k ≠ v.ownBlock) → FK d w1 (fun k => ok k ∧ some k ≠ v1.ownBlock) x c := by
    intro x c o hq ho
    exact FK_mono (FK_step (FK_bound hq) (fun k hk hlt => hg.block k hlt (ho k hk.1).2)) (fun k hk => ⟨(ho k hk.1).1, hne k (ho k hk.1).2 hk.2⟩)
  refine ⟨fun k hk => ?_, rows ++ news, by rw [List.length_append, List.length_append, hl, hl2], raw_tight hR, fun j x c hx hc => ?_⟩
  · rcases hat with hat | ⟨b, hb, hle⟩
    · exact h0 k (hat ▸ hk)
    · rw [hb] at hk
      injection hk with hk
      exact hfresh k (by omega)
  · rcases Nat.lt_or_ge j xs.length with hlt | hge
    · rw [List.getElem?_append_left hlt] at hx
      rw [List.getElem?_append_left (by omega)] at hc
      exact step (hf j x c hx hc) (fun _ hk => hk)
    · rw [List.getElem?_append_right hge] at hx
      rw [List.getElem?_append_right (by omega), hl] at hc
      exact step (hf2 _ x c hx hc) hokp
theorem FK_raw {x : α} {c : List Value} (h : FK d W ok x c) : c = c ∧ c.length = d.sz ∧ ∀ u ∈ c, u.oneCell' = true := ⟨rfl, d.K_len (FK_now h), d.K_one (FK_now h)⟩
/-- What was made just now. -/
theorem N_made {rows : List (List Value)} (hR : (raw d.sz).R e w1 base (fun k => k = W.heap.size) v1 rows) (hg : W.grownBy w1 none) (hat : ∃ b, v1.ownBlock = some b ∧ W.heap.size ≤ b) (hl : rows.length = xs.length) (hf : ∀ (j : Nat) (x : α) (c : List Value), xs[j]? = some x → rows[j]? = some c → FK d W okp x c)
    (hok : ∀ k, okp k → ok k) (hfresh : ok W.heap.size) : N d e w1 base ok v1 xs := by
  obtain ⟨b, hb, hle⟩ := hat
  refine ⟨fun k hk => by rw [hR.1 k hk]; exact hfresh, rows, hl, raw_tight hR, fun j x c hx hc => ?_⟩
  refine FK_mono (FK_step (FK_bound (hf j x c hx hc)) (fun k hk hlt => hg.block k hlt (by simp))) (fun k hk => ⟨hok k hk.1, fun he => ?_⟩)
  rw [hb] at he
  injection he with he
  have := hk.2
  omega
/-- Element i's cells were written: it is x' then. -/
theorem N_written {rows : List (List Value)} {i : Int} {x' : α} {c' : List Value} (h0 : ∀ k, (Value.slice (some ⟨g, 0, none⟩) n cap).ownBlock = some k → ok k) (hl : rows.length = xs.length) (hf : ∀ (j : Nat) (x : α) (c : List Value), xs[j]? = some x → rows[j]? = some c → FK d W (fun k => ok k ∧ some k ≠ (Value.slice (some ⟨g, 0, none⟩) n cap).ownBlock) x c)
    (hR : (raw d.sz).R e w1 base (fun _ => True) (.slice (some ⟨g, 0, none⟩) n cap) (rows.set i.toNat c')) (hg : W.grownBy w1 (some g)) (hM : FK d W okp x' c') (hokp : ∀ k, okp k → ok k ∧ k ≠ g) : N d e w1 base ok (.slice (some ⟨g, 0, none⟩) n cap) (xs.set i.toNat x') := by
  have hgo : some g = (Value.slice (some ⟨g, 0, none⟩) n cap).ownBlock := by simp [Value.ownBlock]
  refine ⟨h0, rows.set i.toNat c', by rw [List.length_set, List.length_set, hl], raw_tight hR, fun j x c hx hc => ?_⟩
  have hjl : j < xs.length := by have := (List.getElem?_eq_some_iff.1 hx).1; rwa [List.length_set] at this
  by_cases hji : j = i.toNat
  · subst hji
    rw [List.getElem?_set_self hjl] at hx
    rw [List.getElem?_set_self (by omega)] at hc
    injection hx with hx
    injection hc with hc
    rw [← hx, ← hc]
    exact FK_mono (FK_step hM (fun k hk hlt => hg.block k hlt (fun he => (hokp k hk).2 (by injection he)))) (fun k hk => ⟨(hokp k hk).1, fun he => (hokp k hk).2 (by rw [← hgo] at he; injection he)⟩)
  · rw [List.getElem?_set_ne (Ne.symm hji)] at hx hc
    exact FK_step (hf j x c hx hc) (fun k hk hlt => hg.block k hlt (by rw [hgo]; exact hk.2))
/-- Element k was taken out. -/
theorem N_erased {rows : List (List Value)} {k : Nat} (h0 : ∀ k, (Value.slice (some ⟨g, 0, none⟩) n cap).ownBlock = some k → ok k) (hl : rows.length = xs.length) (hf : ∀ (j : Nat) (x : α) (c : List Value), xs[j]? = some x → rows[j]? = some c → FK d W (fun k => ok k ∧ some k ≠ (Value.slice (some ⟨g, 0, none⟩) n cap).ownBlock) x c)
    {n' : Nat} (hR : (raw d.sz).R e w1 base (fun _ => True) (.slice (some ⟨g, 0, none⟩) n' cap) (rows.eraseIdx k)) (hg : W.grownBy w1 (some g)) : N d e w1 base ok (.slice (some ⟨g, 0, none⟩) n' cap) (xs.eraseIdx k) := by
  have hgo : ∀ m, some g = (Value.slice (some ⟨g, 0, none⟩) m cap).ownBlock := fun m => by simp [Value.ownBlock]
  refine ⟨fun b hb => h0 b (by rw [← hgo] at hb ⊢; exact hb), rows.eraseIdx k, by rw [List.length_eraseIdx, List.length_eraseIdx, hl], raw_tight hR, fun j x c hx hc => ?_⟩
  rw [List.getElem?_eraseIdx] at hx hc
  have key : ∀ j', xs[j']? = some x → rows[j']? = some c → FK d w1 (fun k => ok k ∧ some k ≠ (Value.slice (some ⟨g, 0, none⟩) n' cap).ownBlock) x c := fun j' h1 h2 =>
    FK_mono (FK_step (hf j' x c h1 h2) (fun b hb hlt => hg.block b hlt (by rw [hgo n]; exact hb.2))) (fun b hb => ⟨hb.1, by rw [← hgo]; rw [← hgo] at hb; exact hb.2⟩)
  by_cases hjk : j < k
  · rw [if_pos hjk] at hx hc
    exact key _ hx hc
  · rw [if_neg hjk] at hx hc
    exact key _ hx hc
/-- xs = xs[:m]. -/
theorem N_take {A : Option Addr} {m c : Nat} (h : N d e w base ok (.slice A n c) xs) (hm : m ≤ xs.length) : N d e w base ok (.slice A m c) (xs.take m) := by
  obtain ⟨h0, rows, hl, hR, hf⟩ := h
  have hb : ∀ x y : Nat, (Value.slice A x c).ownBlock = (Value.slice A y c).ownBlock := by
    intro x y
    cases A <;> rfl
  refine ⟨fun k hk => h0 k (by rw [hb _ m]; exact hk), rows.take m, by rw [List.length_take, List.length_take, hl], raw_tight (R_take (raw_any hR) (by omega)), fun j x c' hx hc => ?_⟩
  rw [List.getElem?_take] at hx hc
  split at hx
  · rename_i hj
    rw [if_pos hj] at hc
    rw [hb m n]
    exact hf j x c' hx hc
  · cases hx
/-- Cells of element i are written, the world as_ it is then. -/
theorem N_seg (h : N d e W base ok (.slice (some ⟨g, 0, none⟩) n cap) xs) (i : Int) (h0 : 0 ≤ i) (h1 : i < n) {c seg : List Value} {j : Nat} (hcl : c.length = d.sz) (hcc : ∀ j u, c[j]? = some u → W.cell? ⟨g, i.toNat * d.sz + j, none⟩ = some u)
    (hj : j + seg.length ≤ d.sz) {x' : α} (hM : FK d W okp x' (c.take j ++ seg ++ c.drop (j + seg.length))) (hokp : ∀ k, okp k → ok k ∧ k ≠ g) :
    N d e (W.setCells g (i.toNat * d.sz + j) seg) base ok (.slice (some ⟨g, 0, none⟩) n cap) (xs.set i.toNat x') ∧ W.grownBy (W.setCells g (i.toNat * d.sz + j) seg) (some g) := by
  obtain ⟨hown, rows, hl, hR, hf⟩ := h
  obtain ⟨h2, h3⟩ := R_seg (raw_any hR) i h0 h1 (c := c) (seg := seg) (j := j) (x' := c.take j ++ seg ++ c.drop (j + seg.length)) (okp := fun _ => False) hcl hcc hj ⟨rfl, d.K_len (FK_now hM), d.K_one (FK_now hM)⟩ (fun _ hk => hk.elim)
  exact ⟨N_written hown hl hf h2 h3 hM hokp, h3⟩
/-- What is read as_ a row, as_ rows of cells. -/
theorem reads_raw {Rr : α → List Value → Prop} {sz m : Nat} {A : Option Addr} (h : ReadsRow Rr sz W A m ys) (hR : ∀ x c, Rr x c → c.length = sz ∧ ∀ u ∈ c, u.oneCell' = true) :
    ∃ news : List (List Value), news.length = ys.length ∧ ReadsRow (fun x cs => cs = x ∧ cs.length = sz ∧ ∀ u ∈ cs, u.oneCell' = true) sz W A m news ∧ ∀ (j : Nat) (x : α) (c : List Value), ys[j]? = some x → news[j]? = some c → Rr x c := by
  rcases Nat.eq_zero_or_pos m with h0 | hp
  · have hy : ys = [] := List.eq_nil_of_length_eq_zero (h.1.trans h0)
    subst hy
    exact ⟨[], rfl, ⟨h0 ▸ rfl, h.2.1, fun hp => by omega⟩, fun j x c hx => by simp at hx⟩
  · obtain ⟨ad, rfl, _⟩ := h.2.2 hp
    obtain ⟨inner, hr, hc⟩ := ReadsRow.inner_ h
    refine ⟨chunks sz ys.length inner, chunks_length _ _ _, ⟨by rw [chunks_length]; exact h.1, h.2.1, fun _ => ⟨ad, rfl, fun j p hj => ?_⟩⟩, fun j x c hx hcc => ?_⟩
    · have hjl : j < ys.length := by have := (List.getElem?_eq_some_iff.1 hj).1; rwa [chunks_length] at this
      have hpe := chunks_get hj
      have hq := hR _ _ (hr.2 j _ (List.getElem?_eq_getElem hjl))
      rw [← hpe] at hq
      refine ⟨p, hq.1, ⟨rfl, hq⟩, fun i u hu => ?_⟩
      have hu2 : inner[j * sz + i]? = some u := by
        rw [hpe, List.getElem?_take] at hu
        split at hu
        · rw [List.getElem?_drop] at hu
          exact hu
        · cases hu
      exact hc _ u hu2
    · rw [chunks_get hcc]
      exact hr.2 j x hx
end
section
variable {P : Program} {ops : Array Oper} {rest : List Oper} {o : Oper} {a : Act} {Q : Exit → Act → World → Prop} {Kc : Act → World → Prop} {α : Type}
/-- append(v, x), behind 'at_builtin': x's cells are cs. -/
theorem N_append (d : Kd α) {w0 W : World} (base : Nat) (hgd : o.guard = none) (s x : Operand) (t e : TypeId) (z : Value) (bytes : Nat)
    (ho : o.op = .call { callee := .builtin .append, args := #[s, x], argTypes := #[t, t] })
    (ht : P.underlying t = some (.slice e)) (hinfo : (P.info? e).map (fun i => (i.zero, i.size, i.bytes)) = some (some z, d.sz, bytes)) (hz : z.cells.size = d.sz) (hs0 : 0 < d.sz) (hb0 : 0 < bytes)
    (v : Value) (xs : List α) (p : α) (cs : List Value) (ok okp : Nat → Prop) (hs : a.eval s = v) (hx : a.eval x = .slice (some ⟨W.heap.size, 0, none⟩) 1 1) (hp : FK d W okp p cs) (hokp : ∀ k, okp k → ok k ∧ some k ≠ v.ownBlock) (hfresh : ∀ k, W.heap.size ≤ k → ok k)
    (HO : N d e W base ok v xs) (HB : Below base w0 W) (hbase : base ≤ W.heap.size) (hl : (xs.length + 1) * bytes ≤ 140737488355328)
    (h : ∀ v1 w1, N d e w1 base ok v1 (xs ++ [p]) → Below base w0 w1 → W.grownBy w1 v.ownBlock → (v1.ownBlock = v.ownBlock ∨ ∃ b, v1.ownBlock = some b ∧ W.heap.size ≤ b) → wpList P ops Q rest (a.put o.dst v1) w1) :
    wpList P ops Q (o :: rest) a (W.alloc (.cells cs.toArray e)) := by
  obtain ⟨h0, rows, hlr, hR, hf⟩ := HO
  refine R_append (raw d.sz) base hgd s x t e z bytes ho ht hinfo hz hs0 hb0 v rows cs cs (fun _ => True) (fun _ => False) hs hx (FK_raw hp) (fun _ hk => hk.elim) (fun _ _ => trivial) (raw_any hR) HB hbase (by rw [hlr]; exact hl) ?_
  intro v1 w1 hr hb hg hat
  exact h v1 w1 (N_appended h0 hlr hf (ys := [p]) (news := [cs]) rfl (fun j y c hy hc => by
    rcases j with _ | j
    · simp only [List.getElem?_cons_zero, Option.some.injEq] at hy hc
      rw [← hy, ← hc]; exact hp
    · simp at hy) hokp hfresh hr hg hat) hb hg hat
theorem N_append_step (d : Kd α) {w0 W : World} (base : Nat) (hw : Region.wanted o (yielded ops a.tmps) = true) (s x : Operand) (t e : TypeId) (z : Value) (bytes : Nat)
    (ho : o.op = .call { callee := .builtin .append, args := #[s, x], argTypes := #[t, t] })
    (ht : P.underlying t = some (.slice e)) (hinfo : (P.info? e).map (fun i => (i.zero, i.size, i.bytes)) = some (some z, d.sz, bytes)) (hz : z.cells.size = d.sz) (hs0 : 0 < d.sz) (hb0 : 0 < bytes)
    (v : Value) (xs : List α) (p : α) (cs : List Value) (ok okp : Nat → Prop) (hs : a.eval s = v) (hx : a.eval x = .slice (some ⟨W.heap.size, 0, none⟩) 1 1) (hp : FK d W okp p cs) (hokp : ∀ k, okp k → ok k ∧ some k ≠ v.ownBlock) (hfresh : ∀ k, W.heap.size ≤ k → ok k)
    (HO : N d e W base ok v xs) (HB : Below base w0 W) (hbase : base ≤ W.heap.size) (hl : (xs.length + 1) * bytes ≤ 140737488355328)
    (h : ∀ v1 w1, N d e w1 base ok v1 (xs ++ [p]) → Below base w0 w1 → W.grownBy w1 v.ownBlock → (v1.ownBlock = v.ownBlock ∨ ∃ b, v1.ownBlock = some b ∧ W.heap.size ≤ b) → Kc (a.put o.dst v1) w1) :
    if Region.wanted o (yielded ops a.tmps) = true then Oper.wp P o a (W.alloc (.cells cs.toArray e)) Kc Q else Kc (a.put o.dst undef) (W.alloc (.cells cs.toArray e)) := by
  obtain ⟨h0, rows, hlr, hR, hf⟩ := HO
  refine R_append_step (raw d.sz) base hw s x t e z bytes ho ht hinfo hz hs0 hb0 v rows cs cs (fun _ => True) (fun _ => False) hs hx (FK_raw hp) (fun _ hk => hk.elim) (fun _ _ => trivial) (raw_any hR) HB hbase (by rw [hlr]; exact hl) ?_
  intro v1 w1 hr hb hg hat
  exact h v1 w1 (N_appended h0 hlr hf (ys := [p]) (news := [cs]) rfl (fun j y c hy hc => by
    rcases j with _ | j
    · simp only [List.getElem?_cons_zero, Option.some.injEq] at hy hc
      rw [← hy, ← hc]; exact hp
    · simp at hy) hokp hfresh hr hg hat) hb hg hat
/-- append(v, ys...): ys is read (F). -/
theorem N_append_rows (d : Kd α) {w0 W : World} (base : Nat) (hgd : o.guard = none) (s x : Operand) (t e : TypeId) (z : Value) (bytes : Nat)
    (ho : o.op = .call { callee := .builtin .append, args := #[s, x], argTypes := #[t, t] })
    (ht : P.underlying t = some (.slice e)) (hinfo : (P.info? e).map (fun i => (i.zero, i.size, i.bytes)) = some (some z, d.sz, bytes)) (hz : z.cells.size = d.sz) (hs0 : 0 < d.sz) (hb0 : 0 < bytes)
    (v : Value) (xs ys : List α) (A : Option Addr) (m c : Nat) (ok okp : Nat → Prop) (hs : a.eval s = v) (hx : a.eval x = .slice A m c)
    (HO : N d e W base ok v xs) (HR : F d W okp A m ys) (hokp : ∀ k, okp k → ok k ∧ some k ≠ v.ownBlock) (hfresh : ∀ k, W.heap.size ≤ k → ok k)
    (HB : Below base w0 W) (hbase : base ≤ W.heap.size) (hl : (xs.length + m) * bytes ≤ 140737488355328)
    (h : ∀ v1 w1, N d e w1 base ok v1 (xs ++ ys) → Below base w0 w1 → W.grownBy w1 v.ownBlock → (v1.ownBlock = v.ownBlock ∨ ∃ b, v1.ownBlock = some b ∧ W.heap.size ≤ b) → wpList P ops Q rest (a.put o.dst v1) w1) :
    wpList P ops Q (o :: rest) a W := by
  obtain ⟨h0, rows, hlr, hR, hf⟩ := HO
  obtain ⟨news, hnl, hnr, hnf⟩ := reads_raw (F_rows HR) (fun y c hk => ⟨d.K_len (FK_now hk), d.K_one (FK_now hk)⟩)
  refine R_append_rows (raw d.sz) base hgd s x t e z bytes ho ht hinfo hz hs0 hb0 v rows news A m c (fun _ => True) (fun _ => False) hs hx (raw_any hR) hnr (fun _ _ hk => hk) (fun _ hk => hk.elim) (fun _ _ => trivial) HB hbase (by rw [hlr]; exact hl) ?_
  intro v1 w1 hr hb hg hat
  exact h v1 w1 (N_appended h0 hlr hf hnl hnf hokp hfresh hr hg hat) hb hg hat
theorem N_append_rows_step (d : Kd α) {w0 W : World} (base : Nat) (hw : Region.wanted o (yielded ops a.tmps) = true) (s x : Operand) (t e : TypeId) (z : Value) (bytes : Nat)
    (ho : o.op = .call { callee := .builtin .append, args := #[s, x], argTypes := #[t, t] })
    (ht : P.underlying t = some (.slice e)) (hinfo : (P.info? e).map (fun i => (i.zero, i.size, i.bytes)) = some (some z, d.sz, bytes)) (hz : z.cells.size = d.sz) (hs0 : 0 < d.sz) (hb0 : 0 < bytes)
    (v : Value) (xs ys : List α) (A : Option Addr) (m c : Nat) (ok okp : Nat → Prop) (hs : a.eval s = v) (hx : a.eval x = .slice A m c)
    (HO : N d e W base ok v xs) (HR : F d W okp A m ys) (hokp : ∀ k, okp k → ok k ∧ some k ≠ v.ownBlock) (hfresh : ∀ k, W.heap.size ≤ k → ok k)
    (HB : Below base w0 W) (hbase : base ≤ W.heap.size) (hl : (xs.length + m) * bytes ≤ 140737488355328)
    (h : ∀ v1 w1, N d e w1 base ok v1 (xs ++ ys) → Below base w0 w1 → W.grownBy w1 v.ownBlock → (v1.ownBlock = v.ownBlock ∨ ∃ b, v1.ownBlock = some b ∧ W.heap.size ≤ b) → Kc (a.put o.dst v1) w1) :
    if Region.wanted o (yielded ops a.tmps) = true then Oper.wp P o a W Kc Q else Kc (a.put o.dst undef) W := by
  obtain ⟨h0, rows, hlr, hR, hf⟩ := HO
  obtain ⟨news, hnl, hnr, hnf⟩ := reads_raw (F_rows HR) (fun y c hk => ⟨d.K_len (FK_now hk), d.K_one (FK_now hk)⟩)
  refine R_append_rows_step (raw d.sz) base hw s x t e z bytes ho ht hinfo hz hs0 hb0 v rows news A m c (fun _ => True) (fun _ => False) hs hx (raw_any hR) hnr (fun _ _ hk => hk) (fun _ hk => hk.elim) (fun _ _ => trivial) HB hbase (by rw [hlr]; exact hl) ?_
  intro v1 w1 hr hb hg hat
  exact h v1 w1 (N_appended h0 hlr hf hnl hnf hokp hfresh hr hg hat) hb hg hat
/-- append(v, make([]T, n)...). -/
theorem N_append_zeros (d : Kd α) {w0 W : World} (base : Nat) (hgd : o.guard = none) (s x : Operand) (t ti e : TypeId) (z : Value) (bytes : Nat)
    (ho : o.op = .call { callee := .builtin .append, args := #[s, x], argTypes := #[t, ti] })
    (ht : P.underlying t = some (.slice e)) {k : IntKind} (hti : P.underlying ti = some (.int k)) (hinfo : (P.info? e).map (fun i => (i.zero, i.size, i.bytes)) = some (some z, d.sz, bytes)) (hz : z.cells.size = d.sz) (hs0 : 0 < d.sz) (hb0 : 0 < bytes)
    (v : Value) (xs : List α) (z0 : α) {kx : IntKind} (n : Int) (ok : Nat → Prop) (hs : a.eval s = v) (hx : a.eval x = .int kx n) (hzero : FK d W (fun _ => False) z0 z.cells.toList) (hfresh : ∀ k, W.heap.size ≤ k → ok k)
    (HO : N d e W base ok v xs) (h0 : 0 ≤ n) (HB : Below base w0 W) (hbase : base ≤ W.heap.size) (hl : (xs.length + n.toNat) * bytes ≤ 140737488355328)
    (h : ∀ v1 w1, N d e w1 base ok v1 (xs ++ List.replicate n.toNat z0) → Below base w0 w1 → W.grownBy w1 v.ownBlock → (v1.ownBlock = v.ownBlock ∨ ∃ b, v1.ownBlock = some b ∧ W.heap.size ≤ b) → wpList P ops Q rest (a.put o.dst v1) w1) :
    wpList P ops Q (o :: rest) a W := by
  obtain ⟨h0', rows, hlr, hR, hf⟩ := HO
  refine R_append_zeros (raw d.sz) base hgd s x t ti e z bytes ho ht hti hinfo hz hs0 hb0 v rows z.cells.toList n (fun _ => True) hs hx (FK_raw hzero) (fun _ _ => trivial) (raw_any hR) h0 HB hbase (by rw [hlr]; exact hl) ?_
  intro v1 w1 hr hb hg hat
  refine h v1 w1 (N_appended h0' hlr hf (ys := List.replicate n.toNat z0) (news := List.replicate n.toNat z.cells.toList) (by rw [List.length_replicate, List.length_replicate]) (okp := fun _ => False) (fun j y c hy hc => ?_) (fun _ hk => hk.elim) hfresh hr hg hat) hb hg hat
  have h1 := (List.getElem?_eq_some_iff.1 hy).2
  have h2 := (List.getElem?_eq_some_iff.1 hc).2
  rw [List.getElem_replicate] at h1 h2
  rw [← h1, ← h2]
  exact hzero
theorem N_append_zeros_step (d : Kd α) {w0 W : World} (base : Nat) (hw : Region.wanted o (yielded ops a.tmps) = true) (s x : Operand) (t ti e : TypeId) (z : Value) (bytes : Nat)
    (ho : o.op = .call { callee := .builtin .append, args := #[s, x], argTypes := #[t, ti] })
    (ht : P.underlying t = some (.slice e)) {k : IntKind} (hti : P.underlying ti = some (.int k)) (hinfo : (P.info? e).map (fun i => (i.zero, i.size, i.bytes)) = some (some z, d.sz, bytes)) (hz : z.cells.size = d.sz) (hs0 : 0 < d.sz) (hb0 : 0 < bytes)
    (v : Value) (xs : List α) (z0 : α) {kx : IntKind} (n : Int) (ok : Nat → Prop) (hs : a.eval s = v) (hx : a.eval x = .int kx n) (hzero : FK d W (fun _ => False) z0 z.cells.toList) (hfresh : ∀ k, W.heap.size ≤ k → ok k)
    (HO : N d e W base ok v xs) (h0 : 0 ≤ n) (HB : Below base w0 W) (hbase : base ≤ W.heap.size) (hl : (xs.length + n.toNat) * bytes ≤ 140737488355328)
    (h : ∀ v1 w1, N d e w1 base ok v1 (xs ++ List.replicate n.toNat z0) → Below base w0 w1 → W.grownBy w1 v.ownBlock → (v1.ownBlock = v.ownBlock ∨ ∃ b, v1.ownBlock = some b ∧ W.heap.size ≤ b) → Kc (a.put o.dst v1) w1) :
    if Region.wanted o (yielded ops a.tmps) = true then Oper.wp P o a W Kc Q else Kc (a.put o.dst undef) W := by
  obtain ⟨h0', rows, hlr, hR, hf⟩ := HO
  refine R_append_zeros_step (raw d.sz) base hw s x t ti e z bytes ho ht hti hinfo hz hs0 hb0 v rows z.cells.toList n (fun _ => True) hs hx (FK_raw hzero) (fun _ _ => trivial) (raw_any hR) h0 HB hbase (by rw [hlr]; exact hl) ?_
  intro v1 w1 hr hb hg hat
  refine h v1 w1 (N_appended h0' hlr hf (ys := List.replicate n.toNat z0) (news := List.replicate n.toNat z.cells.toList) (by rw [List.length_replicate, List.length_replicate]) (okp := fun _ => False) (fun j y c hy hc => ?_) (fun _ hk => hk.elim) hfresh hr hg hat) hb hg hat
  have h1 := (List.getElem?_eq_some_iff.1 hy).2
  have h2 := (List.getElem?_eq_some_iff.1 hc).2
  rw [List.getElem_replicate] at h1 h2
  rw [← h1, ← h2]
  exact hzero
/-- A literal '[]T{..}': inner its cells; what the elements lead to is okp. -/
theorem N_lit (d : Kd α) {w0 W : World} (base e : Nat) (hgd : o.guard = none) {N' : Tmp} (_hd : o.dst = some N') {xs : List α} {inner : List Value} {ok okp : Nat → Prop}
    (hrun : (execOp a.eval o).run P W = .ok (.value (.slice (some ⟨W.heap.size, 0, none⟩) xs.length xs.length)) (W.alloc (.cells inner.toArray e)))
    (hrep : Reps (FK d W okp) d.sz xs inner) (hok : ∀ k, okp k → ok k) (hfresh : ok W.heap.size) (HB : Below base w0 W) (hbase : base ≤ W.heap.size) (hm : xs.length ≤ 9223372036854775807)
    (h : ∀ v1 w1, N d e w1 base ok v1 xs → Below base w0 w1 → W.grownBy w1 none → (∃ b, v1.ownBlock = some b ∧ W.heap.size ≤ b) → wpList P ops Q rest (a.put o.dst v1) w1) :
    wpList P ops Q (o :: rest) a W := by
  refine R_lit (raw d.sz) base e hgd _hd (xs := chunks d.sz xs.length inner) (inner := inner) (ok := fun k => k = W.heap.size) (okp := fun _ => False) (by rw [chunks_length]; exact hrun) (reps_raw hrep (fun y c hk => ⟨d.K_len (FK_now hk), d.K_one (FK_now hk)⟩)) (fun _ hk => hk.elim) rfl HB hbase (by rw [chunks_length]; exact hm) ?_
  intro v1 w1 hr hb hg hat
  exact h v1 w1 (N_made hr hg hat (chunks_length _ _ _) (fun j y c hy hc => by rw [chunks_get hc]; exact hrep.2 j y hy) hok hfresh) hb hg hat
theorem N_lit_step (d : Kd α) {w0 W : World} (base e : Nat) (hw : Region.wanted o (yielded ops a.tmps) = true) {N' : Tmp} (_hd : o.dst = some N') {xs : List α} {inner : List Value} {ok okp : Nat → Prop}
    (hrun : (execOp a.eval o).run P W = .ok (.value (.slice (some ⟨W.heap.size, 0, none⟩) xs.length xs.length)) (W.alloc (.cells inner.toArray e)))
    (hrep : Reps (FK d W okp) d.sz xs inner) (hok : ∀ k, okp k → ok k) (hfresh : ok W.heap.size) (HB : Below base w0 W) (hbase : base ≤ W.heap.size) (hm : xs.length ≤ 9223372036854775807)
    (h : ∀ v1 w1, N d e w1 base ok v1 xs → Below base w0 w1 → W.grownBy w1 none → (∃ b, v1.ownBlock = some b ∧ W.heap.size ≤ b) → Kc (a.put o.dst v1) w1) :
    if Region.wanted o (yielded ops a.tmps) = true then Oper.wp P o a W Kc Q else Kc (a.put o.dst undef) W := by
  refine R_lit_step (raw d.sz) base e hw _hd (xs := chunks d.sz xs.length inner) (inner := inner) (ok := fun k => k = W.heap.size) (okp := fun _ => False) (by rw [chunks_length]; exact hrun) (reps_raw hrep (fun y c hk => ⟨d.K_len (FK_now hk), d.K_one (FK_now hk)⟩)) (fun _ hk => hk.elim) rfl HB hbase (by rw [chunks_length]; exact hm) ?_
  intro v1 w1 hr hb hg hat
  exact h v1 w1 (N_made hr hg hat (chunks_length _ _ _) (fun j y c hy hc => by rw [chunks_get hc]; exact hrep.2 j y hy) hok hfresh) hb hg hat
theorem N_make (d : Kd α) {w0 W : World} (base e : Nat) (hgd : o.guard = none) {N' : Tmp} (hd : o.dst = some N') (t : TypeId) (x y : Operand) (ho : o.op = .makeSlice t x y) (n : Int) (hx : a.eval x = .int .i64 n) (hy : a.eval y = .int .i64 n)
    (ht : P.underlying t = some (.slice e)) (z : Value) (bytes : Nat) (hinfo : (P.info? e).map (fun i => (i.zero, i.size, i.bytes)) = some (some z, d.sz, bytes)) (hz : z.cells.size = d.sz) (hs0 : 0 < d.sz) (hb0 : 0 < bytes)
    (z0 : α) {ok okp : Nat → Prop} (hzero : FK d W okp z0 z.cells.toList) (hok : ∀ k, okp k → ok k) (hfresh : ok W.heap.size) (h0 : 0 ≤ n) (hl : n.toNat * bytes ≤ 281474976710656) (HB : Below base w0 W) (hbase : base ≤ W.heap.size)
    (h : ∀ v1 w1, N d e w1 base ok v1 (List.replicate n.toNat z0) → Below base w0 w1 → W.grownBy w1 none → (∃ b, v1.ownBlock = some b ∧ W.heap.size ≤ b) → wpList P ops Q rest (a.put o.dst v1) w1) :
    wpList P ops Q (o :: rest) a W := by
  refine R_make (raw d.sz) base e hgd hd t x y ho n hx hy ht z bytes hinfo hz hs0 hb0 z.cells.toList (ok := fun k => k = W.heap.size) (okp := fun _ => False) (FK_raw hzero) (fun _ hk => hk.elim) rfl h0 hl HB hbase ?_
  intro v1 w1 hr hb hg hat
  refine h v1 w1 (N_made hr hg hat (by rw [List.length_replicate, List.length_replicate]) (fun j y c hy hc => ?_) hok hfresh) hb hg hat
  have h1 := (List.getElem?_eq_some_iff.1 hy).2
  have h2 := (List.getElem?_eq_some_iff.1 hc).2
  rw [List.getElem_replicate] at h1 h2
  rw [← h1, ← h2]
  exact hzero
theorem N_make_step (d : Kd α) {w0 W : World} (base e : Nat) (hw : Region.wanted o (yielded ops a.tmps) = true) {N' : Tmp} (hd : o.dst = some N') (t : TypeId) (x y : Operand) (ho : o.op = .makeSlice t x y) (n : Int) (hx : a.eval x = .int .i64 n) (hy : a.eval y = .int .i64 n)
    (ht : P.underlying t = some (.slice e)) (z : Value) (bytes : Nat) (hinfo : (P.info? e).map (fun i => (i.zero, i.size, i.bytes)) = some (some z, d.sz, bytes)) (hz : z.cells.size = d.sz) (hs0 : 0 < d.sz) (hb0 : 0 < bytes)
    (z0 : α) {ok okp : Nat → Prop} (hzero : FK d W okp z0 z.cells.toList) (hok : ∀ k, okp k → ok k) (hfresh : ok W.heap.size) (h0 : 0 ≤ n) (hl : n.toNat * bytes ≤ 281474976710656) (HB : Below base w0 W) (hbase : base ≤ W.heap.size)
    (h : ∀ v1 w1, N d e w1 base ok v1 (List.replicate n.toNat z0) → Below base w0 w1 → W.grownBy w1 none → (∃ b, v1.ownBlock = some b ∧ W.heap.size ≤ b) → Kc (a.put o.dst v1) w1) :
    if Region.wanted o (yielded ops a.tmps) = true then Oper.wp P o a W Kc Q else Kc (a.put o.dst undef) W := by
  refine R_make_step (raw d.sz) base e hw hd t x y ho n hx hy ht z bytes hinfo hz hs0 hb0 z.cells.toList (ok := fun k => k = W.heap.size) (okp := fun _ => False) (FK_raw hzero) (fun _ hk => hk.elim) rfl h0 hl HB hbase ?_
  intro v1 w1 hr hb hg hat
  refine h v1 w1 (N_made hr hg hat (by rw [List.length_replicate, List.length_replicate]) (fun j y c hy hc => ?_) hok hfresh) hb hg hat
  have h1 := (List.getElem?_eq_some_iff.1 hy).2
  have h2 := (List.getElem?_eq_some_iff.1 hc).2
  rw [List.getElem_replicate] at h1 h2
  rw [← h1, ← h2]
  exact hzero
/-- out[i] = T{..}, out[i].f = v: as_ R_store. -/
theorem N_store (d : Kd α) {w0 W : World} (base : Nat) (hN : o.dst = none) (hgd : o.guard = none) (t : TypeId) (p x : Operand) (ho : o.op = .store t p x) (e : TypeId) {g n cap o' : Nat} (i : Int) (j : Nat) (xs : List α) (x' : α) (u : Value) (seg c : List Value) (ok okp : Nat → Prop)
    (haddr : a.eval p = .pointer (some ⟨g, o', none⟩)) (hoff : o' = i.toNat * d.sz + j) (hx : a.eval x = u) (hu : u.cells.toList = seg) (ht : (P.info? t).map (·.size) = some seg.length) (h1 : ∀ q ∈ seg, q.oneCell' = true)
    (HO : N d e W base ok (.slice (some ⟨g, 0, none⟩) n cap) xs) (h0 : 0 ≤ i) (hi : i < n) (hcl : c.length = d.sz) (hcc : ∀ j u, c[j]? = some u → W.cell? ⟨g, i.toNat * d.sz + j, none⟩ = some u)
    (hj : j + seg.length ≤ d.sz) (hM : FK d W okp x' (c.take j ++ seg ++ c.drop (j + seg.length))) (hokp : ∀ k, okp k → ok k ∧ k ≠ g) (HB : Below base w0 W)
    (h : ∀ w1, N d e w1 base ok (.slice (some ⟨g, 0, none⟩) n cap) (xs.set i.toNat x') → Below base w0 w1 → W.grownBy w1 (some g) → wpList P ops Q rest a w1) : wpList P ops Q (o :: rest) a W := by
  obtain ⟨hown, rows, hl, hR, hf⟩ := HO
  refine R_store (raw d.sz) base hN hgd t p x ho e i j rows (c.take j ++ seg ++ c.drop (j + seg.length)) u seg c (fun _ => True) (fun _ => False) haddr hoff hx hu ht h1 (raw_any hR) h0 hi hcl hcc hj (FK_raw hM) (fun _ hk => hk.elim) HB ?_
  intro w1 hr hb hg
  exact h w1 (N_written hown hl hf hr hg hM hokp) hb hg
/-- out = append(out[:k], out[k+1:]...). -/
theorem N_delete (d : Kd α) {w0 W : World} (base : Nat) (hgd : o.guard = none) (s x : Operand) (t e : TypeId) (ho : o.op = .call { callee := .builtin .append, args := #[s, x], argTypes := #[t, t] })
    (ht : P.underlying t = some (.slice e)) (hinfo : (P.info? e).map (·.size) = some d.sz) {g n c k m c2 : Nat} {A : Option Addr} {xs : List α} {ok : Nat → Prop}
    (hs : a.eval s = .slice (some ⟨g, 0, none⟩) k c) (hx : a.eval x = .slice A m c2) (hA : A = if c = k + 1 then some ⟨g, 0, none⟩ else (some (⟨g, 0, none⟩ : Addr)).map (·.add ((k + 1) * d.sz))) (hm : m = n - (k + 1))
    (HO : N d e W base ok (.slice (some ⟨g, 0, none⟩) n c) xs) (hk : k < n) (HB : Below base w0 W) (hbase : base ≤ W.heap.size)
    (h : ∀ w1, N d e w1 base ok (.slice (some ⟨g, 0, none⟩) (n - 1) c) (xs.eraseIdx k) → Below base w0 w1 → W.grownBy w1 (some g) → wpList P ops Q rest (a.put o.dst (.slice (some ⟨g, 0, none⟩) (n - 1) c)) w1) : wpList P ops Q (o :: rest) a W := by
  obtain ⟨hown, rows, hl, hR, hf⟩ := HO
  exact R_delete (raw d.sz) base hgd s x t e ho ht hinfo hs hx hA hm (raw_any hR) hk HB hbase (fun w1 hr hb hg => h w1 (N_erased hown hl hf hr hg) hb hg)
theorem N_delete_step (d : Kd α) {w0 W : World} (base : Nat) (hw : Region.wanted o (yielded ops a.tmps) = true) (s x : Operand) (t e : TypeId) (ho : o.op = .call { callee := .builtin .append, args := #[s, x], argTypes := #[t, t] })
    (ht : P.underlying t = some (.slice e)) (hinfo : (P.info? e).map (·.size) = some d.sz) {g n c k m c2 : Nat} {A : Option Addr} {xs : List α} {ok : Nat → Prop}
    (hs : a.eval s = .slice (some ⟨g, 0, none⟩) k c) (hx : a.eval x = .slice A m c2) (hA : A = if c = k + 1 then some ⟨g, 0, none⟩ else (some (⟨g, 0, none⟩ : Addr)).map (·.add ((k + 1) * d.sz))) (hm : m = n - (k + 1))
    (HO : N d e W base ok (.slice (some ⟨g, 0, none⟩) n c) xs) (hk : k < n) (HB : Below base w0 W) (hbase : base ≤ W.heap.size)
    (h : ∀ w1, N d e w1 base ok (.slice (some ⟨g, 0, none⟩) (n - 1) c) (xs.eraseIdx k) → Below base w0 w1 → W.grownBy w1 (some g) → Kc (a.put o.dst (.slice (some ⟨g, 0, none⟩) (n - 1) c)) w1) :
    if Region.wanted o (yielded ops a.tmps) = true then Oper.wp P o a W Kc Q else Kc (a.put o.dst undef) W := by
  obtain ⟨hown, rows, hl, hR, hf⟩ := HO
  exact R_delete_step (raw d.sz) base hw s x t e ho ht hinfo hs hx hA hm (raw_any hR) hk HB hbase (fun w1 hr hb hg => h w1 (N_erased hown hl hf hr hg) hb hg)
end
end Kd
end Go.Proofs.YtmjjnaaiakchhaaDoorW.PrintWords
end

section
-- PRINTED BY print.sh 35421559b90ae4d0a3588c463048766b98c2df88dd9212a6774a882060cdf62d: not written by this session
-- PRINTED WORDS (module Derived/Print/More.lean): go-gate-2's additions: an AI agent of Go's test side, Tue Nov 17 2026; no person has read it. Lean checks it.
namespace Go.Proofs.YtmjjnaaiakchhaaDoorW.PrintMore
open Go.RowKit Go.Proofs.YtmjjnaaiakchhaaDoorW.PrintWords
namespace Kd
open Go.Proofs.YtmjjnaaiakchhaaDoorW.PrintWords.Kd
/-- Element i of a row of one's own, lent: its cells and what it leads to, as_ the row has them. -/
theorem R_get {α : Type} {d : Kd α} {e base n cap : Nat} {ok : Nat → Prop} {W : World} {ad : Addr} {xs : List α} (h : d.R e W base ok (.slice (some ad) n cap) xs) (z : α) (i : Int) (h0 : 0 ≤ i) (h1 : i < n) :
    ∃ c, c.length = d.sz ∧ d.M W base (fun k => ok k ∧ some k ≠ (Value.slice (some ad) n cap).ownBlock) (xs.getD i.toNat z) c ∧ ∀ j u, c[j]? = some u → W.cell? (ad.add (i.toNat * d.sz + j)) = some u := by
  obtain ⟨g, hg⟩ : ∃ g, ad = ⟨g, 0, none⟩ := by
    obtain ⟨_, inner, ho, _⟩ := h
    rcases ho.2 with ⟨hv, _⟩ | ⟨g, cap', cur, hv, _⟩
    · cases hv
    · injection hv with ha _ _
      injection ha with ha
      exact ⟨g, ha⟩
  subst hg
  obtain ⟨c, hcl, hM, hcc, _⟩ := R_elem h z i h0 h1
  refine ⟨c, hcl, d.M_mono (fun k hk => ⟨hk.1, fun he => hk.2 ?_⟩) hM, fun j u hu => ?_⟩
  · rw [add_at, Nat.zero_add]
    exact hcc j u hu
  · simpa [Value.ownBlock] using he
end Kd

namespace Kd
open Go.Proofs.YtmjjnaaiakchhaaDoorW.PrintWords.Kd
section
variable {α : Type} {d : Kd α} {e base g N : Nat} {ok : Nat → Prop} {W w1 : World} {u v : Value} {xs : List α}
/-- An elder row over an event that only makes: its blocks are elder than what was made. -/
theorem R_old (hu : d.R e W base ok u xs) (hb : Below W.heap.size W w1) : d.R e w1 base (fun k => ok k ∧ k < W.heap.size) u xs :=
  R_mono (R_below (R_bound hu) hb) (fun _ h => ⟨h.1, h.2.2.1⟩)
/-- The same over a state's call. -/
theorem R_oldK (hu : d.R e W base (fun k => ok k ∧ k ≠ g) u xs) (hk : KeepBut W w1 g none) : d.R e w1 base (fun k => ok k ∧ k < W.heap.size) u xs :=
  R_mono (R_keep (R_bound hu) hk (fun _ h => h.1.2)) (fun _ h => ⟨h.1.1, h.2.2.1⟩)
/-- It is none of the rows made since. -/
theorem R_told (h : d.R e w1 base (fun k => ok k ∧ k < N) u xs) (hbase : ∀ k, v.ownBlock = some k → N ≤ k) : d.R e w1 base (fun k => (ok k ∧ some k ≠ v.ownBlock) ∧ k < N) u xs :=
  R_mono h (fun k hk => ⟨⟨hk.1, fun e => Nat.lt_irrefl _ (Nat.lt_of_lt_of_le hk.2 (hbase k e.symm))⟩, hk.2⟩)
end
end Kd
/-- 'max' and 'min' of two whole numbers. -/
theorem max2_int (k k' : IntKind) (x y : Int) : Builtin.max2 (.int k x) (.int k' y) = pure (.int k (if x < y then y else x)) := by simp only [Builtin.max2, gt_iff_lt]
theorem min2_int (k k' : IntKind) (x y : Int) : Builtin.min2 (.int k x) (.int k' y) = pure (.int k (if y < x then y else x)) := by simp only [Builtin.min2]
theorem max_two (ats : Array TypeId) (ty : TypeId) (a b : Value) : Builtin.max_ ats ty #[a, b] = (Builtin.max2 a b >>= fun s => pure s) := by simp only [Builtin.max_, List.foldlM_cons, List.foldlM_nil]
theorem min_two (ats : Array TypeId) (ty : TypeId) (a b : Value) : Builtin.min_ ats ty #[a, b] = (Builtin.min2 a b >>= fun s => pure s) := by simp only [Builtin.min_, List.foldlM_cons, List.foldlM_nil]
theorem max_three (ats : Array TypeId) (ty : TypeId) (a b c : Value) : Builtin.max_ ats ty #[a, b, c] = (Builtin.max2 a b >>= fun s => Builtin.max2 s c >>= fun s => pure s) := by simp only [Builtin.max_, List.foldlM_cons, List.foldlM_nil]
theorem min_three (ats : Array TypeId) (ty : TypeId) (a b c : Value) : Builtin.min_ ats ty #[a, b, c] = (Builtin.min2 a b >>= fun s => Builtin.min2 s c >>= fun s => pure s) := by simp only [Builtin.min_, List.foldlM_cons, List.foldlM_nil]
theorem max_four (ats : Array TypeId) (ty : TypeId) (a b c d : Value) : Builtin.max_ ats ty #[a, b, c, d] = (Builtin.max2 a b >>= fun s => Builtin.max2 s c >>= fun s => Builtin.max2 s d >>= fun s => pure s) := by simp only [Builtin.max_, List.foldlM_cons, List.foldlM_nil]
theorem min_four (ats : Array TypeId) (ty : TypeId) (a b c d : Value) : Builtin.min_ ats ty #[a, b, c, d] = (Builtin.min2 a b >>= fun s => Builtin.min2 s c >>= fun s => Builtin.min2 s d >>= fun s => pure s) := by simp only [Builtin.min_, List.foldlM_cons, List.foldlM_nil]
end Go.Proofs.YtmjjnaaiakchhaaDoorW.PrintMore
namespace Go.Proofs.YtmjjnaaiakchhaaDoorW.PrintWords
open Go.RowKit
section
variable {P : Program} {ops : Array Oper} {rest : List Oper} {o : Oper} {a : Act} {Q : Exit → Act → World → Prop} {W : World}
/-- The operation is a call of this function (a cheap look ahead of a dear step). -/
theorem gate_callee {f : FuncId} {as_ : Array Operand} {ts : Array TypeId} (_ho : o.op = .call { callee := .value (.func f), args := as_, argTypes := ts }) (h : wpList P ops Q (o :: rest) a W) : wpList P ops Q (o :: rest) a W := h
/-- The operation is a builtin over these places. -/
theorem gate_builtin {b : Builtin} {xs : Array Operand} {ts : Array TypeId} (_ho : o.op = .call { callee := .builtin b, args := xs, argTypes := ts }) (h : wpList P ops Q (o :: rest) a W) : wpList P ops Q (o :: rest) a W := h
end
/-- A call's arguments, spelled otherwise. -/
theorem calls_of_args {P : Program} {f : FuncId} {args args' : Array Value} {w : World} {Q : Ending → World → Prop} (h : args = args') (hc : Calls P f args' w Q) : Calls P f args w Q := h ▸ hc
/-- The greater of two whole numbers, as_ Go's max tells it. -/
def mx (a b : Int) : Int := if a < b then b else a
/-- The smaller of two whole numbers, as_ Go's min tells it. -/
def mn (a b : Int) : Int := if b < a then b else a
/-- A shift to the left, as_ Go tells it: a count beyond the width leaves nothing. -/
def shl (k : IntKind) (x y : Int) : Int := k.wrap (x * 2 ^ min y.toNat k.bits)
/-- A shift to the right: a count beyond the width leaves the sign. -/
def shr (k : IntKind) (x y : Int) : Int := x / 2 ^ min y.toNat k.bits
theorem shl_small {k : IntKind} {x y j : Int} (h : shl k x y = j) (hy : y ≤ k.bits) : k.wrap (x * 2 ^ y.toNat) = j := by rw [← h]; unfold shl; rw [Nat.min_eq_left (by omega)]
theorem shr_small {k : IntKind} {x y j : Int} (h : shr k x y = j) (hy : y ≤ k.bits) : x / 2 ^ y.toNat = j := by rw [← h]; unfold shr; rw [Nat.min_eq_left (by omega)]
/-- It says x = x, and that is its use: 'rw [drewN_self w]' fails where the world was not drawn, and the row behind it is skipped. -/
theorem drewN_self (w : World) (n : Nat) : w.drewN n = w.drewN n := rfl
theorem cell_unalloc {W : World} {o : Obj} {a : Addr} {v : Value} (h : (W.alloc o).cell? a = some v) (hlt : a.block < W.heap.size) : W.cell? a = some v := (World.cell?_alloc_lt _ _ _ hlt).symm.trans h
/-- A cell of a block that an event leaves alone. -/
theorem cell_grown {W w1 : World} {row : Option Nat} (hg : W.grownBy w1 row) {a : Addr} {v : Value} (h : W.cell? a = some v) (hne : some a.block ≠ row) : w1.cell? a = some v := by
  have := hg.block a.block (World.block_lt_of_cell? W a h) hne
  simpa [World.cell?, this] using h
namespace Kd
section
variable {α : Type} {d : Kd α} {e base : Nat} {ok : Nat → Prop} {W w1 : World} {v : Value} {xs : List α}
/-- A row of scalars beside a block that is not its own: written. -/
theorem R_grown1 (h : d.R e W base ok v xs) (hE : d.E = []) {row : Option Nat} (hg : W.grownBy w1 row) (hne : row ≠ v.ownBlock) : d.R e w1 base ok v xs :=
  R_mono (R_grown (R_tight hE h) hg (fun _ hk e_ => hne (e_.symm.trans hk))) (fun k hk => h.1 k hk.symm)
/-- The same, told: its block is not that one. -/
theorem R_far1 (h : d.R e W base ok v xs) (hE : d.E = []) {g : Nat} (hne : some g ≠ v.ownBlock) : d.R e W base (fun k => ok k ∧ k ≠ g) v xs :=
  R_mono (R_tight hE h) (fun k hk => ⟨h.1 k hk.symm, fun e_ => hne (by rw [← e_]; exact hk)⟩)
/-- The same, where the row that was written may be none. -/
theorem R_grown2 (h : d.R e W base ok v xs) (hE : d.E = []) {row : Option Nat} (hg : W.grownBy w1 row) (hne : ∀ k, row = some k → some k ≠ v.ownBlock) : d.R e w1 base ok v xs :=
  R_mono (R_grown (R_tight hE h) hg (fun k hk e_ => hne k e_.symm hk)) (fun k hk => h.1 k hk.symm)
end
section
variable {α : Type} {d : Kd α} {e base g n cap : Nat} {ok oki okp : Nat → Prop} {W : World} {xs : List α} {i : Int} {c : List Value}
/-- The place where an element's row comes back: its cells are there, and may be written. -/
theorem H_at (h : H d e W base ok (.slice (some ⟨g, 0, none⟩) n cap) xs i oki c) (h0 : 0 ≤ i) (h1 : i < n) : (∀ j u, c[j]? = some u → W.cell? ⟨g, i.toNat * d.sz + j, none⟩ = some u) ∧ ∀ j, W.frozen? ⟨g, i.toNat * d.sz + j, none⟩ = false := by
  obtain ⟨rows, _, hraw, _, _, hcc, _⟩ := H_raw h h0 h1
  obtain ⟨_, _, _, _, hfr⟩ := R_elem hraw [] i h0 h1
  exact ⟨hcc, hfr⟩
theorem S_seg0 (hH : H d e W base ok (.slice (some ⟨g, 0, none⟩) n cap) xs i oki c) (h0 : 0 ≤ i) (h1 : i < n) {seg : List Value} {j : Nat} (hj : j + seg.length ≤ d.sz)
    {x' : α} (hM : d.M W base okp x' (c.take j ++ seg ++ c.drop (j + seg.length))) (hokp : ∀ k, okp k → oki k) :
    S d e (W.setCells g (i.toNat * d.sz + j) seg) base ok (.slice (some ⟨g, 0, none⟩) n cap) (xs.set i.toNat x') ∧ W.grownBy (W.setCells g (i.toNat * d.sz + j) seg) (some g) :=
  S_seg (okg := fun _ => False) (H_mono hH (fun _ hk => ⟨hk, fun h => h⟩)) h0 h1 hj hM (fun k hk => .inl (hokp k hk)) (fun _ hk => hk.elim)
end
section
variable {α : Type} {d : Kd α} {e base b b' g N : Nat} {ok ok1 : Nat → Prop} {W W2 w1 : World} {u v : Value} {xs ys : List α} {S : Nat → Prop}
theorem Q_tight (hE : d.E = []) (h : d.Q e W base ok v xs) : d.Q e W base (fun k => some k = v.ownBlock) v xs := by
  obtain ⟨h0, inner, ho, hr⟩ := h
  refine ⟨fun k hk => hk.symm, inner, ho, hr.imp_ (fun p c hp => d.M_mono (fun k hk => ?_) (d.M_bound hp))⟩
  obtain ⟨_, _, _, q, hq, _⟩ := hk
  rw [hE] at hq
  cases hq
theorem Q_ok (h : d.Q e W base ok v xs) : ∀ k, v.ownBlock = some k → ok k := h.1
theorem Q_grown1 (h : d.Q e W base ok v xs) (hE : d.E = []) {row : Option Nat} (hg : W.grownBy w1 row) (hne : row ≠ v.ownBlock) : d.Q e w1 base ok v xs :=
  Q_mono (Q_grown (Q_tight hE h) hg (fun _ hk e_ => hne (e_.symm.trans hk))) (fun k hk => h.1 k hk.symm)
theorem Q_grown2 (h : d.Q e W base ok v xs) (hE : d.E = []) {row : Option Nat} (hg : W.grownBy w1 row) (hne : ∀ k, row = some k → some k ≠ v.ownBlock) : d.Q e w1 base ok v xs :=
  Q_mono (Q_grown (Q_tight hE h) hg (fun k hk e_ => hne k e_.symm hk)) (fun k hk => h.1 k hk.symm)
theorem Q_far1 (h : d.Q e W base ok v xs) (hE : d.E = []) {g : Nat} (hne : some g ≠ v.ownBlock) : d.Q e W base (fun k => ok k ∧ k ≠ g) v xs :=
  Q_mono (Q_tight hE h) (fun k hk => ⟨h.1 k hk.symm, fun e_ => hne (by rw [← e_]; exact hk)⟩)
theorem R_tight2 (hE : d.E = []) (h : d.R e W base ok v xs) : d.R e W base (fun k => some k = v.ownBlock ∧ ok k) v xs := R_mono (R_tight hE h) (fun k hk => ⟨hk, h.1 k hk.symm⟩)
theorem R_reok (hE : d.E = []) (h : d.R e W base ok1 v xs) (hok : ∀ k, v.ownBlock = some k → ok k) : d.R e W base ok v xs := R_mono (R_tight hE h) (fun k hk => hok k hk.symm)
theorem own_raise {n size : Nat} {cs : List Value} (h : W.ownsRow b e size v n cs) (hb : ∀ k, v.ownBlock = some k → b' ≤ k) : W.ownsRow b' e size v n cs := by
  obtain ⟨h1, h2⟩ := h
  refine ⟨h1, ?_⟩
  rcases h2 with h2 | ⟨g, cap, cur, rfl, _, r⟩
  · exact .inl h2
  · exact .inr ⟨g, cap, cur, rfl, hb g (by simp [Value.ownBlock]), r⟩
/-- A row whose elements lead to nothing, and whose block is younger than was told. -/
theorem R_raise (hM : ∀ w ok x cs, d.M w b ok x cs → d.M w b' ok x cs) (h : d.R e W b ok v xs) (hb : ∀ k, v.ownBlock = some k → b' ≤ k) : d.R e W b' ok v xs := by
  obtain ⟨h0, inner, ho, hr⟩ := h
  exact ⟨h0, inner, own_raise ho hb, hr.imp_ (fun _ _ hp => hM _ _ _ _ hp)⟩
theorem R_keptB (h : d.R e W base ok v xs) (hk : Kept W W2 S) (hne : ∀ k, ok k → ¬ S k) : d.R e W2 base (fun k => ok k ∧ (¬ S k ∧ k < W.heap.size)) v xs :=
  R_kept (R_mono (R_bound h) (fun k hk => ⟨hk.1, hne k hk.1, hk.2.2.1⟩)) hk (fun _ hk => hk.2.1)
theorem Q_keptB (h : d.Q e W base ok v xs) (hk : Kept W W2 S) (hne : ∀ k, ok k → ¬ S k) : d.Q e W2 base (fun k => ok k ∧ (¬ S k ∧ k < W.heap.size)) v xs :=
  Q_kept (Q_mono (Q_bound h) (fun k hk => ⟨hk.1, hne k hk.1, hk.2.2.1⟩)) hk (fun _ hk => hk.2.1)
theorem S_keptB (h : Kd.S d e W base ok v xs) (hk : Kept W W2 S) (hne : ∀ k, ok k → ¬ S k) : Kd.S d e W2 base (fun k => ok k ∧ (¬ S k ∧ k < W.heap.size)) v xs :=
  S_kept (S_mono (S_bound h) (fun k hk => ⟨hk.1, hne k hk.1, hk.2.2.1⟩)) hk (fun _ hk => hk.2.1)
theorem Q_old (hu : d.Q e W base ok u xs) (hb : Below W.heap.size W w1) : d.Q e w1 base (fun k => ok k ∧ k < W.heap.size) u xs := Q_mono (Q_below (Q_bound hu) hb) (fun _ h => ⟨h.1, h.2.2.1⟩)
theorem Q_oldK (hu : d.Q e W base (fun k => ok k ∧ k ≠ g) u xs) (hk : KeepBut W w1 g none) : d.Q e w1 base (fun k => ok k ∧ k < W.heap.size) u xs := Q_mono (Q_keep (Q_bound hu) hk (fun _ h => h.1.2)) (fun _ h => ⟨h.1.1, h.2.2.1⟩)
theorem Q_apart_nil (h : d.Q e W base ok u xs) : d.Q e W base (fun k => ok k ∧ some k ≠ (Value.slice none 0 0).ownBlock) u xs := Q_mono h (fun k hk => ⟨hk, by simp [Value.ownBlock]⟩)
theorem Q_told (h : d.Q e w1 base (fun k => ok k ∧ k < N) u xs) (hbase : ∀ k, v.ownBlock = some k → N ≤ k) : d.Q e w1 base (fun k => (ok k ∧ some k ≠ v.ownBlock) ∧ k < N) u xs :=
  Q_mono h (fun k hk => ⟨⟨hk.1, fun e => Nat.lt_irrefl _ (Nat.lt_of_lt_of_le hk.2 (hbase k e.symm))⟩, hk.2⟩)
end
end Kd
end Go.Proofs.YtmjjnaaiakchhaaDoorW.PrintWords
namespace Go.Proofs.YtmjjnaaiakchhaaDoorW.PrintWords
open Go.RowKit
/-- Beside a state: what was written is the state's, or new since. -/
theorem Kept.keepG {w W W2 : World} {S2 : Nat → Prop} {g : Nat} (h : KeepBut w W g none) (k : Kept W W2 S2) (hs : ∀ k, S2 k → k = g ∨ w.heap.size ≤ k) : KeepBut w W2 g none :=
  ⟨Nat.le_trans h.1 k.1, fun i hi hg hr => (k.2 i (Nat.lt_of_lt_of_le hi h.1) (fun h2 => (hs i h2).elim hg (fun h3 => by omega))).trans (h.2 i hi hg hr)⟩
namespace Kd
/-- A row that is only read, told by its value: its form, its length, what it leads to (in ok). e and base say nothing; they make it as_ the others are. -/
def V {α : Type} (d : Kd α) (_e : Nat) (W : World) (_base : Nat) (ok : Nat → Prop) (v : Value) (xs : List α) : Prop := ∃ A c, v = .slice A xs.length c ∧ xs.length ≤ c ∧ F d W ok A xs.length xs
section
variable {α β : Type} {d : Kd α} {e base base' n m c g N' lo hi : Nat} {ok ok' S : Nat → Prop} {w W w1 : World} {A : Option Addr} {ad : Addr} {u v v1 : Value} {xs : List α}
theorem V_map (h : V d e W base ok v xs) (hF : ∀ A, F d W ok A xs.length xs → F d w1 ok' A xs.length xs) : V d e w1 base' ok' v xs := by
  obtain ⟨A, c, hv, hl, hf⟩ := h
  exact ⟨A, c, hv, hl, hF A hf⟩
theorem V_mk (hl : xs.length ≤ c) (hf : F d W ok A xs.length xs) : V d e W base ok (.slice A xs.length c) xs := ⟨A, c, rfl, hl, hf⟩
theorem V_slice (h : V d e W base ok v xs) : ∃ A c, v = .slice A xs.length c := by
  obtain ⟨A, c, hv, _⟩ := h
  exact ⟨A, c, hv⟩
theorem V_at (h : V d e W base ok (.slice A n c) xs) : n = xs.length ∧ n ≤ c ∧ F d W ok A xs.length xs := by
  obtain ⟨A', c', hv, hl, hf⟩ := h
  injection hv with ha hn hc
  subst ha; subst hc
  exact ⟨hn, by rw [hn]; exact hl, hf⟩
theorem V_reads' (h : V d e W base ok (.slice A n c) xs) : n = xs.length ∧ n ≤ c ∧ d.C W A xs.length xs := ⟨(V_at h).1, (V_at h).2.1, F_now (V_at h).2.2⟩
theorem V_F (h : V d e W base ok (.slice A n c) xs) : F d W ok A n xs := by
  obtain ⟨hn, _, hf⟩ := V_at h
  rw [hn]
  exact hf
theorem V_nil (d : Kd α) (e : Nat) (W : World) (base : Nat) (ok : Nat → Prop) : V d e W base ok (.slice none 0 0) [] := ⟨none, 0, rfl, Nat.le_refl _, F_nil d W ok⟩
theorem R_V (h : d.R e W base ok v xs) : V d e W base' ok v xs := by
  obtain ⟨A, c, rfl⟩ := R_slice h
  exact ⟨A, c, rfl, (R_reads' h).2.1, R_F h⟩
theorem Q_V (h : d.Q e W base ok v xs) : V d e W base' ok v xs := by
  obtain ⟨A, c, rfl, hl⟩ := Q_slice h
  exact ⟨A, c, rfl, hl, Q_F h⟩
theorem S_V (h : Kd.S d e W base ok v xs) : V d e W base' ok v xs := R_V (S_R h)
theorem N_V (h : N d e W base ok v xs) : V d e W base' ok v xs := by
  obtain ⟨A, c, rfl⟩ := N_slice h
  exact ⟨A, c, rfl, (N_reads' h).2.1, N_F h⟩
theorem V_mono (h : V d e W base ok v xs) (hok : ∀ k, ok k → ok' k) : V d e W base ok' v xs := V_map h (fun _ hf => F_mono hf hok)
theorem V_bound (h : V d e W base ok v xs) : V d e W base (fun k => ok k ∧ k < W.heap.size) v xs := V_map h (fun _ hf => F_bound hf)
theorem V_lower (h : V d e W base ok v xs) (_ : base' ≤ base) : V d e W base' ok v xs := h
theorem V_step (h : V d e W base ok v xs) (hm : ∀ k, ok k → k < W.heap.size → w1.heap[k]? = W.heap[k]?) : V d e w1 base ok v xs := V_map h (fun _ hf => F_step hf hm)
theorem V_below (h : V d e W base ok v xs) (hb : Below W.heap.size W w1) : V d e w1 base ok v xs := V_map h (fun _ hf => F_below hf hb)
theorem V_alloc (h : V d e W base ok v xs) (o : Obj) : V d e (W.alloc o) base ok v xs := V_map h (fun _ hf => F_alloc hf o)
theorem V_drew (h : V d e W base ok v xs) : V d e W.drew base ok v xs := V_map h (fun _ hf => F_drew hf)
theorem V_drewN (h : V d e W base ok v xs) (m : Nat) : V d e (W.drewN m) base ok v xs := V_map h (fun _ hf => F_drewN hf m)
theorem V_grown (h : V d e W base ok v xs) {row : Option Nat} (hg : W.grownBy w1 row) (hok : ∀ k, ok k → some k ≠ row) : V d e w1 base ok v xs := V_map h (fun _ hf => F_grown hf hg hok)
theorem V_far (h : V d e W base ok v xs) {p : Addr} (hok : ∀ k, ok k → k ≠ p.block) (u : Value) : V d e (W.setCell p u) base ok v xs := V_map h (fun _ hf => F_far hf hok u)
theorem V_keep (h : V d e W base ok v xs) (hk : KeepBut W w1 g none) (hok : ∀ k, ok k → k ≠ g) : V d e w1 base ok v xs := V_map h (fun _ hf => F_keep hf hk hok)
theorem V_kept (h : V d e W base ok v xs) (hk : Kept W w1 S) (hok : ∀ k, ok k → ¬ S k) : V d e w1 base ok v xs := V_map h (fun _ hf => F_kept hf hk hok)
theorem V_after (h : V d e W base (fun k => ok k ∧ some k ≠ u.ownBlock) v xs) (hg : W.grownBy w1 u.ownBlock) (hat : v1.ownBlock = u.ownBlock ∨ ∃ b, v1.ownBlock = some b ∧ W.heap.size ≤ b) : V d e w1 base (fun k => ok k ∧ some k ≠ v1.ownBlock) v xs := V_map h (fun _ hf => F_after hf hg hat)
theorem V_afterv (h : V d e W base (fun k => ok k ∧ some k ≠ v.ownBlock) u xs) (hg : W.grownBy w1 v.ownBlock) (hat : v1.ownBlock = v.ownBlock ∨ ∃ b, v1.ownBlock = some b ∧ W.heap.size ≤ b) : V d e w1 base (fun k => ok k ∧ some k ≠ v1.ownBlock) u xs := V_after h hg hat
theorem N_afterv (h : N d e W base (fun k => ok k ∧ some k ≠ v.ownBlock) u xs) (hg : W.grownBy w1 v.ownBlock) (hat : v1.ownBlock = v.ownBlock ∨ ∃ b, v1.ownBlock = some b ∧ W.heap.size ≤ b) : N d e w1 base (fun k => ok k ∧ some k ≠ v1.ownBlock) u xs := N_after h hg hat
theorem V_apart_nil (h : V d e W base ok v xs) : V d e W base (fun k => ok k ∧ some k ≠ (Value.slice none 0 0).ownBlock) v xs := V_map h (fun _ hf => F_apart_nil hf)
theorem V_elder' (h : V d e W base ok v xs) (hbase : ∀ k, u.ownBlock = some k → W.heap.size ≤ k) (hb : Below W.heap.size W w1) : V d e w1 base (fun k => ok k ∧ some k ≠ u.ownBlock) v xs := V_map h (fun _ hf => F_elder' hf hbase hb)
theorem V_elderB (h : V d e W base ok v xs) (a : Nat) (ha : W.heap.size ≤ a) : V d e W base (fun k => ok k ∧ k ≠ a) v xs := V_map h (fun _ hf => F_elderB hf a ha)
theorem V_old (h : V d e W base ok v xs) (hb : Below W.heap.size W w1) : V d e w1 base (fun k => ok k ∧ k < W.heap.size) v xs := V_map h (fun _ hf => F_old hf hb)
theorem V_oldK (h : V d e W base (fun k => ok k ∧ k ≠ g) v xs) (hk : KeepBut W w1 g none) : V d e w1 base (fun k => ok k ∧ k < W.heap.size) v xs := V_map h (fun _ hf => F_oldK hf hk)
theorem V_told (h : V d e w1 base (fun k => ok k ∧ k < N') v xs) (hbase : ∀ k, u.ownBlock = some k → N' ≤ k) : V d e w1 base (fun k => (ok k ∧ some k ≠ u.ownBlock) ∧ k < N') v xs := V_map h (fun _ hf => F_told hf hbase)
theorem V_keptB (h : V d e W base ok v xs) (hk : Kept W w1 S) (hne : ∀ k, ok k → ¬ S k) : V d e w1 base (fun k => ok k ∧ (¬ S k ∧ k < W.heap.size)) v xs :=
  V_kept (V_mono (V_bound h) (fun k hk => ⟨hk.1, hne k hk.1, hk.2⟩)) hk (fun _ hk => hk.2.1)
theorem N_keptB (h : N d e W base ok v xs) (hk : Kept W w1 S) (hne : ∀ k, ok k → ¬ S k) : N d e w1 base (fun k => ok k ∧ (¬ S k ∧ k < W.heap.size)) v xs :=
  N_kept (N_mono (N_bound h) (fun k hk => ⟨hk.1, hne k hk.1, hk.2⟩)) hk (fun _ hk => hk.2.1)
theorem V_get (h : V d e W base ok (.slice (some ad) n c) xs) (z : α) (i : Int) (h0 : 0 ≤ i) (h1 : i < n) :
    ∃ cs, cs.length = d.sz ∧ FK d W ok (xs.getD i.toNat z) cs ∧ ∀ j u, cs[j]? = some u → W.cell? (ad.add (i.toNat * d.sz + j)) = some u := by
  obtain ⟨ad', cs, he, hcl, hK, hcc, _⟩ := F_get (V_F h) z i h0 h1
  injection he with he
  subst he
  exact ⟨cs, hcl, hK, hcc⟩
theorem F_take (h : F d W ok A xs.length xs) (hm : m ≤ xs.length) : F d W ok A (xs.take m).length (xs.take m) := F_imp h (fun _ hC => C_take hC hm)
theorem F_cut (h : F d W ok A xs.length xs) (hm : m ≤ xs.length) (hc : xs.length ≤ c) : F d W ok (if c = m then A else A.map (·.add (m * d.sz))) (xs.drop m).length (xs.drop m) := F_imp h (fun _ hC => C_drop hC hm hc)
theorem F_mid (h : F d W ok A xs.length xs) (h1 : lo ≤ hi) (h2 : hi ≤ xs.length) (hc : xs.length ≤ c) : F d W ok (if c = lo then A else A.map (·.add (lo * d.sz))) ((xs.take hi).drop lo).length ((xs.take hi).drop lo) := F_imp h (fun _ hC => C_mid hC h1 h2 hc)
/-- An element that is itself a row: its one cell. -/
theorem FK_slice_open {l : List α} {cs : List Value} (h : FK (Kd.slice e d) W ok l cs) : ∃ A c, cs = [.slice A l.length c] ∧ l.length ≤ c ∧ F d W ok A l.length l := by
  obtain ⟨A, c, rfl, hl, _⟩ := FK_now h
  refine ⟨A, c, rfl, hl, fun W' hW => ?_⟩
  obtain ⟨A', c', he, _, g'⟩ := h W' hW
  injection he with he _
  injection he with ha _ _
  rw [ha]
  exact g'
theorem FK_slice_mk {l : List α} (hl : l.length ≤ c) (hf : F d W ok A l.length l) : FK (Kd.slice e d) W ok l [.slice A l.length c] := fun W' hW => ⟨A, c, rfl, hl, hf W' hW⟩
theorem foot_int {k : IntKind} {l : List Int} (h : (Kd.int k).C w (some ad) n l) (i : Int) (h0 : 0 ≤ i) (h1 : i < n) : w.cell? (ad.add i.toNat) = some (.int k (rd l i)) := by
  obtain ⟨ad', he, hc⟩ := at_int h i h0 h1
  injection he with he
  subst he
  exact hc
theorem foot_bool {l : List Bool} (h : Kd.bool.C w (some ad) n l) (i : Int) (h0 : 0 ≤ i) (h1 : i < n) : w.cell? (ad.add i.toNat) = some (.bool (rdOf false l i)) := by
  obtain ⟨ad', he, hc⟩ := at_bool h i h0 h1
  injection he with he
  subst he
  exact hc
theorem foot_string {l : List ByteArray} (h : Kd.string.C w (some ad) n l) (i : Int) (h0 : 0 ≤ i) (h1 : i < n) : w.cell? (ad.add i.toNat) = some (.string (rdOf ByteArray.empty l i)) := by
  obtain ⟨ad', he, hc⟩ := at_string h i h0 h1
  injection he with he
  subst he
  exact hc
theorem C_kept_keep {l : List α} (h : ∀ W', Kept w W' S → d.C W' A n l) (hk : Kept w W S) (hg : S g ∨ w.heap.size ≤ g) : ∀ W', KeepBut W W' g none → d.C W' A n l := fun W' k => h W' (hk.of_keep k hg)
theorem C_kept_ownV (h : V d e W base ok (.slice A n c) xs) (hok : ∀ k, ok k → ¬ S k) : ∀ W', Kept W W' S → d.C W' A n xs := fun W' hk => by
  have h2 := V_reads' (V_kept h hk hok)
  rw [h2.1]
  exact h2.2.2
theorem C_foot_ownV (h : V d e W base ok (.slice A n c) xs) (hok : ∀ k, ok k → k ≠ g) : ∀ W', KeepBut W W' g none → d.C W' A n xs := fun W' hk => by
  have h2 := V_reads' (V_keep h hk hok)
  rw [h2.1]
  exact h2.2.2
theorem R_newM {M : Nat → Prop} (h : d.R e w1 W.heap.size ok v xs) (hle : w.heap.size ≤ W.heap.size) (hM : ∀ k, w.heap.size ≤ k → M k) : d.R e w1 W.heap.size (fun k => M k ∧ ok k) v xs := R_mono (R_bound h) (fun k hk => ⟨hM k (Nat.le_trans hle hk.2.1), hk.1⟩)
theorem Q_newM {M : Nat → Prop} (h : d.Q e w1 W.heap.size ok v xs) (hle : w.heap.size ≤ W.heap.size) (hM : ∀ k, w.heap.size ≤ k → M k) : d.Q e w1 W.heap.size (fun k => M k ∧ ok k) v xs := Q_mono (Q_bound h) (fun k hk => ⟨hM k (Nat.le_trans hle hk.2.1), hk.1⟩)
theorem S_newM {M : Nat → Prop} (h : Kd.S d e w1 W.heap.size ok v xs) (hle : w.heap.size ≤ W.heap.size) (hM : ∀ k, w.heap.size ≤ k → M k) : Kd.S d e w1 W.heap.size (fun k => M k ∧ ok k) v xs := S_mono (S_bound h) (fun k hk => ⟨hM k (Nat.le_trans hle hk.2.1), hk.1⟩)
end
end Kd
end Go.Proofs.YtmjjnaaiakchhaaDoorW.PrintWords
end

section
-- PRINTED BY print.sh 35421559b90ae4d0a3588c463048766b98c2df88dd9212a6774a882060cdf62d: not written by this session
namespace Go.Proofs.YtmjjnaaiakchhaaDoor.PAeadSeals
open Go.RowKit Go.Proofs.YtmjjnaaiakchhaaDoorW.PrintWords Go.Proofs.YtmjjnaaiakchhaaDoorW.PrintLast Go.Proofs.YtmjjnaaiakchhaaDoorW.PrintMore
attribute [local go_sem] max2_int min2_int max_two min_two max_three min_three max_four min_four   -- for this text's walks alone
set_option linter.unusedVariables false
set_option linter.unusedSimpArgs false



def errW : Option Int → Value
  | none => .nilIface
  | some c => .iface 0 (.int .i64 c)
theorem errW_none : errW none = .nilIface := rfl
theorem errW_some (c : Int) : errW (some c) = .iface 0 (.int .i64 c) := rfl

theorem info3 : (Tryd.prog.info? 3).map (fun i => (i.zero, i.size, i.bytes)) = some (some (.int .i64 0), 1, 8) := by kernel_rfl
theorem info5 : (Tryd.prog.info? 5).map (fun i => (i.zero, i.size, i.bytes)) = some (some (.int .u8 0), 1, 1) := by kernel_rfl
-- the values' own types
def rd_L1 (xs : List (List Int)) (i : Int) : (List Int) := xs.getD i.toNat ([] : List Int)
theorem at_L1 {w : World} {A : Option Addr} {n : Nat} {xs : List (List Int)} (h : Kd.C (Kd.slice 5 (Kd.int .u8)) w A n xs) (i : Int) (h0 : 0 ≤ i) (h1 : i < n) : ∃ ad A0 c0, A = some ad ∧ w.cell? (ad.add i.toNat) = some (.slice A0 (rd_L1 xs i).length c0) ∧ (rd_L1 xs i).length ≤ c0 ∧ (Kd.int .u8).C w A0 (rd_L1 xs i).length (rd_L1 xs i) := by
  obtain ⟨ad, c, e, _, hK, hc0⟩ := Kd.C_get h ([] : List Int) i h0 h1
  have hc : ∀ j u, c[j]? = some u → w.cell? (ad.add (i.toNat * 1 + j)) = some u := hc0
  obtain ⟨A0, c0, rfl, l0, g0⟩ := hK
  exact ⟨ad, A0, c0, e, by have hq := hc 0 _ rfl; rwa [Nat.mul_one, Nat.add_zero] at hq, l0, g0⟩

end Go.Proofs.YtmjjnaaiakchhaaDoor.PAeadSeals
end

section
-- Printed by the kit, and cut by this session.
namespace Go.Proofs.YtmjjnaaiakchhaaDoor.PAeadSeals
open Go.RowKit Go.Proofs.YtmjjnaaiakchhaaDoorW.PrintWords Go.Proofs.YtmjjnaaiakchhaaDoorW.PrintLast Go.Proofs.YtmjjnaaiakchhaaDoorW.PrintMore
attribute [local go_sem] max2_int min2_int max_two min_two max_three min_three max_four min_four   -- for this text's walks alone
set_option linter.unusedVariables false
set_option linter.unusedSimpArgs false

/-! ### bytes_Equal: function 16 -/
def bytes_Equal.f (l0 : List Int) (l1 : List Int) : Option (Bool) := some ((strOfNums l0).toList == (strOfNums l1).toList)
set_option maxHeartbeats 8000000 in
set_option maxRecDepth 100000 in
theorem bytes_Equal.calls (A0 : Option Addr) (c0 : Nat) (l0 : List Int) (A1 : Option Addr) (c1 : Nat) (l1 : List Int) (r : Bool) (w : World) (hr0 : Kd.C (Kd.int .u8) w A0 l0.length l0) (hc0 : l0.length ≤ c0) (hr1 : Kd.C (Kd.int .u8) w A1 l1.length l1) (hc1 : l1.length ≤ c1) (h : bytes_Equal.f l0 l1 = some r) :
    Calls Tryd.prog 16 #[.slice A0 l0.length c0, .slice A1 l1.length c1] w fun e w' => e = .returned (.bool r) ∧ Drawn0 w w' := by
  have HR0 := Aside0.mk hr0
  have HC0 := Aside0.mk hc0
  clear hr0 hc0
  have HR1 := Aside0.mk hr1
  have HC1 := Aside0.mk hc1
  clear hr1 hc1
  have H : (some ((strOfNums l0).toList == (strOfNums l1).toList)) = some r := h
  clear h
  obtain rfl := Option.some.inj H
  have hcv3 := Kd.C_string (P := Tryd.prog) (A := A0) (c := c0) Tryd.underlying30 Tryd.underlying5 Tryd.underlying9 HR0.out
  have hcv4 := Kd.C_string (P := Tryd.prog) (A := A1) (c := c1) Tryd.underlying30 Tryd.underlying5 Tryd.underlying9 HR1.out
  go_enter Tryd.func16, Tryd.ntmps16
  go_wp2
  go_ret
  exact ⟨by first | rfl | (simp; done) | (simp [*]; done), by repeat (first | exact Drawn0.refl _ | apply Drawn0.step)⟩

-- NOT PRINTED: function 24 (bytes_Clone)

-- NOT PRINTED: function 19 (chacha_New)

/-! ### pack_take: function 65 -/
def pack_take.l0 : Nat → List Int → Int → Int → Int → Int → Option (Int)
  | 0, _, _, _, _, _ => none
  | k + 1, x0, x1, x7, x9, x10 => if x10 < x9 then (if x1 ≥ 0 then (if x1 < (wrap64 ((x0.length : Int) - x10)) then (if 0 ≤ (wrap64 (x1 + x10)) then (if (wrap64 (x1 + x10)) < (x0.length : Int) then (if 0 ≤ (wrap64 (8 * x10)) then (pack_take.l0 k x0 x1 (Go.bits .or .u64 x7 (shl .u64 (IntKind.u64.wrap (rd x0 (wrap64 (x1 + x10)))) (wrap64 (8 * x10)))) x9 (wrap64 (x10 + 1))) else (none)) else (none)) else (none)) else (pack_take.l0 k x0 x1 x7 x9 (wrap64 (x10 + 1)))) else (pack_take.l0 k x0 x1 x7 x9 (wrap64 (x10 + 1)))) else (some x7)
def pack_take.f (k : Nat) (l0 : List Int) (a1 : Int) (a2 : Int) : Option (Int) := pack_take.l0 k l0 a1 0 a2 0
theorem pack_take.mono_l : ∀ k, (∀ y0 y1 y2 y3 y4, LeO (pack_take.l0 k y0 y1 y2 y3 y4) (pack_take.l0 (k + 1) y0 y1 y2 y3 y4))
  | 0 => fun _ _ _ _ _ r h => by simp [pack_take.l0] at h
  | k + 1 => by
    have ih0 := pack_take.mono_l k
    · intro y0 y1 y2 y3 y4
      unfold pack_take.l0
      repeat' first
      | (with_reducible exact ih0 _ _ _ _ _)
      | (with_reducible exact LeO.refl _)
      | (with_reducible exact LeO.none _)
      | (with_reducible refine LeO.ite ?_ ?_)
      | (with_reducible refine LeO.bind ?_ (fun _ => ?_))
      | exact ih0 _ _ _ _ _
      | exact LeO.none _
      | refine LeO.ite ?_ ?_
      | refine LeO.bind ?_ (fun _ => ?_)
theorem pack_take.mono : ∀ a0 a1 a2 k, LeO (pack_take.f k a0 a1 a2) (pack_take.f (k + 1) a0 a1 a2) := by
  intro a0 a1 a2 k
  have ih0 := pack_take.mono_l k
  unfold pack_take.f
  repeat' first
      | (with_reducible exact ih0 _ _ _ _ _)
      | (with_reducible exact LeO.refl _)
      | (with_reducible exact LeO.none _)
      | (with_reducible refine LeO.ite ?_ ?_)
      | (with_reducible refine LeO.bind ?_ (fun _ => ?_))
      | exact ih0 _ _ _ _ _
      | exact LeO.none _
      | refine LeO.ite ?_ ?_
      | refine LeO.bind ?_ (fun _ => ?_)
set_option maxHeartbeats 8000000 in
set_option maxRecDepth 100000 in
theorem pack_take.calls (k : Nat) (A0 : Option Addr) (c0 : Nat) (l0 : List Int) (a1 : Int) (a2 : Int) (r : Int) (w : World) (hr0 : Kd.C (Kd.int .u8) w A0 l0.length l0) (hc0 : l0.length ≤ c0) (h : pack_take.f k l0 a1 a2 = some r) :
    Calls Tryd.prog 65 #[.slice A0 l0.length c0, .int .i64 a1, .int .i64 a2] w fun e w' => e = .returned (.int .u64 r) ∧ Drawn0 w w' := by
  have HR0 := Aside0.mk hr0
  have HC0 := Aside0.mk hc0
  clear hr0 hc0
  have H : (pack_take.l0 k l0 a1 0 a2 0) = some r := h
  clear h
  have H' := Aside0.mk H
  clear H
  go_enter Tryd.func65, Tryd.ntmps65
  go_wp2
  go_loopg [7, 10] k (fun kq v7 v10 w' => ∃ (x7_1 : Int) (x10_1 : Int), v7 = .int .u64 x7_1 ∧ v10 = .int .i64 x10_1 ∧ Aside0 (pack_take.l0 kq l0 a1 x7_1 a2 x10_1 = some r) ∧ Aside0 (kq ≤ k) ∧ Drawn0 w w')
  case atStart => exact ⟨(0), (0), (by first | rfl | (simp; done) | (simp [*]; done)), (by first | rfl | (simp; done) | (simp [*]; done)), H', ⟨Nat.le_refl _⟩, by repeat (first | exact Drawn0.refl _ | apply Drawn0.step)⟩
  case round =>
    clear H'
    try clear p2
    obtain ⟨x7_1, x10_1, rfl, rfl, HA, HK1, ⟨m1, rfl⟩⟩ := hrel
    cases gk with
    | zero => exact absurd HA.out (by simp [pack_take.l0])
    | succ k1 =>
      have H := HA.out
      clear HA
      simp only [pack_take.l0] at H
      by_cases c4 : x10_1 < a2
      · rw [if_pos c4] at H
        have c4b0 : decide (x10_1 < a2) = true := decide_eq_true c4
        clear c4
        by_cases c5 : a1 ≥ 0
        · rw [if_pos c5] at H
          have c5b0 : decide (0 ≤ a1) = true := decide_eq_true c5
          clear c5
          by_cases c6 : a1 < (wrap64 ((l0.length : Int) - x10_1))
          · rw [if_pos c6] at H
            have c6b0 : decide (a1 < (wrap64 ((l0.length : Int) - x10_1))) = true := decide_eq_true c6
            clear c6
            obtain ⟨ji7, hji7⟩ : ∃ j_ : Int, (wrap64 (a1 + x10_1)) = j_ := ⟨_, rfl⟩
            replace H : (if 0 ≤ (ji7) then (if (ji7) < (l0.length : Int) then (if 0 ≤ (wrap64 (8 * x10_1)) then (pack_take.l0 k1 l0 a1 (Go.bits .or .u64 x7_1 (shl .u64 (IntKind.u64.wrap (rd l0 (ji7))) (wrap64 (8 * x10_1)))) a2 (wrap64 (x10_1 + 1))) else (none)) else (none)) else (none)) = some r := by first | (rw [hji7] at H; exact H) | (simp only [hji7] at H ⊢; exact H)
            have hji7w : (IntKind.i64.wrap (a1 + x10_1)) = ji7 := (i64_w _).trans hji7
            by_cases c8 : 0 ≤ (ji7)
            · rw [if_pos c8] at H
              have c8b0 : decide (0 ≤ (ji7)) = true := decide_eq_true c8
              clear c8
              by_cases c9 : (ji7) < (l0.length : Int)
              · rw [if_pos c9] at H
                have c9b0 : decide ((ji7) < (l0.length : Int)) = true := decide_eq_true c9
                clear c9
                obtain ⟨ji10, hji10⟩ : ∃ j_ : Int, (wrap64 (8 * x10_1)) = j_ := ⟨_, rfl⟩
                replace H : (if 0 ≤ (ji10) then (pack_take.l0 k1 l0 a1 (Go.bits .or .u64 x7_1 (shl .u64 (IntKind.u64.wrap (rd l0 (ji7))) (ji10))) a2 (wrap64 (x10_1 + 1))) else (none)) = some r := by first | (rw [hji10] at H; exact H) | (simp only [hji10] at H ⊢; exact H)
                have hji10w : (IntKind.i64.wrap (8 * x10_1)) = ji10 := (i64_w _).trans hji10
                by_cases c11 : 0 ≤ (ji10)
                · rw [if_pos c11] at H
                  have c11b0 := eq_true c11
                  have c11b1 : decide (0 ≤ (ji10)) = true := decide_eq_true c11
                  clear c11
                  obtain ⟨ji12, hji12⟩ : ∃ j_ : Int, (shl .u64 (IntKind.u64.wrap (rd l0 (ji7))) (ji10)) = j_ := ⟨_, rfl⟩
                  replace H : (pack_take.l0 k1 l0 a1 (Go.bits .or .u64 x7_1 (ji12)) a2 (wrap64 (x10_1 + 1))) = some r := by first | (rw [hji12] at H; exact H) | (simp only [hji12] at H ⊢; exact H)
                  have hji12_ : (IntKind.u64.wrap ((IntKind.u64.wrap (rd l0 (ji7))) * 2 ^ min (ji10).toNat 64)) = ji12 := hji12
                  have hji12z : (ji10) ≤ 64 → (IntKind.u64.wrap ((IntKind.u64.wrap (rd l0 (ji7))) * 2 ^ (ji10).toNat)) = ji12 := shl_small hji12
                  have H' := Aside0.mk H
                  clear H
                  have p101 : 0 ≤ ((ji7) : Int) := of_decide_eq_true (by first | (with_reducible assumption) | assumption)
                  have q101 : (ji7) < (l0.length : Int) := of_decide_eq_true (by first | (with_reducible assumption) | assumption)
                  obtain ⟨ad101, e101, hx101_0⟩ := Kd.at_int HR0.out (ji7) p101 q101
                  cases e101
                  replace p101 := eq_true p101
                  replace q101 := eq_true q101
                  go_wp2
                  go_roundg k1
                  case measure => have := HK1.out; omega
                  case rel => exact ⟨(Go.bits .or .u64 x7_1 (ji12)), (wrap64 (x10_1 + 1)), (by first | rfl | (simp; done) | (simp only [← hji12] <;> (first | rfl | simp)) | (simp [*]; done)), (by first | rfl | (simp; done) | (simp [*]; done)), H', ⟨by have := HK1.out; omega⟩, by repeat (first | exact Drawn0.refl _ | apply Drawn0.step)⟩
                · rw [if_neg c11] at H
                  exact absurd H (by simp)
              · rw [if_neg c9] at H
                exact absurd H (by simp)
            · rw [if_neg c8] at H
              exact absurd H (by simp)
          · rw [if_neg c6] at H
            have c6b0 : decide (a1 < (wrap64 ((l0.length : Int) - x10_1))) = false := decide_eq_false c6
            clear c6
            have H' := Aside0.mk H
            clear H
            go_wp2
            go_roundg k1
            case measure => have := HK1.out; omega
            case rel => exact ⟨(x7_1), (wrap64 (x10_1 + 1)), (by first | rfl | (simp; done) | (simp [*]; done)), (by first | rfl | (simp; done) | (simp [*]; done)), H', ⟨by have := HK1.out; omega⟩, by repeat (first | exact Drawn0.refl _ | apply Drawn0.step)⟩
        · rw [if_neg c5] at H
          have c5b0 : decide (0 ≤ a1) = false := decide_eq_false c5
          clear c5
          have H' := Aside0.mk H
          clear H
          go_wp2
          go_roundg k1
          case measure => have := HK1.out; omega
          case rel => exact ⟨(x7_1), (wrap64 (x10_1 + 1)), (by first | rfl | (simp; done) | (simp [*]; done)), (by first | rfl | (simp; done) | (simp [*]; done)), H', ⟨by have := HK1.out; omega⟩, by repeat (first | exact Drawn0.refl _ | apply Drawn0.step)⟩
      · rw [if_neg c4] at H
        have c4b0 : decide (x10_1 < a2) = false := decide_eq_false c4
        clear c4
        obtain rfl := Option.some.inj H
        go_wp2
        go_ret
        exact ⟨by first | rfl | (simp; done) | (simp [*]; done), by repeat (first | exact Drawn0.refl _ | apply Drawn0.step)⟩

/-! ### pack_Le32: function 48 -/
def pack_Le32.f (k : Nat) (l0 : List Int) (a1 : Int) : Option (Int) := (pack_take.f k l0 a1 4).bind fun t102 => (some ((t102) % 4294967296))
theorem pack_Le32.mono : ∀ a0 a1 k, LeO (pack_Le32.f k a0 a1) (pack_Le32.f (k + 1) a0 a1) := by
  intro a0 a1 k
  unfold pack_Le32.f
  repeat' first
      | (with_reducible exact pack_take.mono _ _ _ _)
      | (with_reducible exact LeO.refl _)
      | (with_reducible exact LeO.none _)
      | (with_reducible refine LeO.ite ?_ ?_)
      | (with_reducible refine LeO.bind ?_ (fun _ => ?_))
      | exact pack_take.mono _ _ _ _
      | exact LeO.none _
      | refine LeO.ite ?_ ?_
      | refine LeO.bind ?_ (fun _ => ?_)
set_option maxHeartbeats 8000000 in
set_option maxRecDepth 100000 in
theorem pack_Le32.calls (k : Nat) (A0 : Option Addr) (c0 : Nat) (l0 : List Int) (a1 : Int) (r : Int) (w : World) (hr0 : Kd.C (Kd.int .u8) w A0 l0.length l0) (hc0 : l0.length ≤ c0) (h : pack_Le32.f k l0 a1 = some r) :
    Calls Tryd.prog 48 #[.slice A0 l0.length c0, .int .i64 a1] w fun e w' => e = .returned (.int .u32 r) ∧ Drawn0 w w' := by
  have HR0 := Aside0.mk hr0
  have HC0 := Aside0.mk hc0
  clear hr0 hc0
  have H : ((pack_take.f k l0 a1 4).bind fun t102 => (some ((t102) % 4294967296))) = some r := h
  clear h
  replace H := Option.bind_eq_some_iff.mp H
  obtain ⟨t102, A30, H⟩ := H
  replace H : (some ((t102) % 4294967296)) = some r := H
  have A3 := Aside0.mk A30
  clear A30
  obtain rfl := Option.some.inj H
  go_enter Tryd.func48, Tryd.ntmps48
  go_wp2_with (first | ((with_reducible refine gate_callee (f := 65) rfl ?_); refine goesL_ (some 7) rfl rfl Tryd.func65 (by kernel_rfl) rfl #[.slice A0 l0.length c0, .int .i64 a1, .int .i64 4] rfl (by (try simp only [List.map_toArray, List.map_cons, List.map_nil]); first | done | rfl | (simp only [List.length_drop, List.length_take]; rfl)) ?_; (with_reducible refine (pack_take.calls k _ _ l0 a1 4 t102 _ ?side1 ?side2 A3.out).mono ?_); (case side1 => repeat (first | exact HR0.out | (with_reducible refine Kd.C_alloc ?_ _) | (with_reducible refine Kd.C_drewN ?_ _) | (with_reducible refine Kd.C_drew ?_))); (case side2 => exact HC0.out); rintro e w' ⟨rfl, ⟨nd, rfl⟩⟩; refine ⟨_, rfl, ?_⟩))
  go_ret
  exact ⟨by first | rfl | (simp; done) | (simp [*]; done), by repeat (first | exact Drawn0.refl _ | apply Drawn0.step)⟩

-- NOT PRINTED: function 34 (chacha_first)

/-! ### pack_Le64: function 52 -/
def pack_Le64.f (k : Nat) (l0 : List Int) (a1 : Int) : Option (Int) := (pack_take.f k l0 a1 8).bind fun t107 => (some t107)
theorem pack_Le64.mono : ∀ a0 a1 k, LeO (pack_Le64.f k a0 a1) (pack_Le64.f (k + 1) a0 a1) := by
  intro a0 a1 k
  unfold pack_Le64.f
  repeat' first
      | (with_reducible exact pack_take.mono _ _ _ _)
      | (with_reducible exact LeO.refl _)
      | (with_reducible exact LeO.none _)
      | (with_reducible refine LeO.ite ?_ ?_)
      | (with_reducible refine LeO.bind ?_ (fun _ => ?_))
      | exact pack_take.mono _ _ _ _
      | exact LeO.none _
      | refine LeO.ite ?_ ?_
      | refine LeO.bind ?_ (fun _ => ?_)
set_option maxHeartbeats 8000000 in
set_option maxRecDepth 100000 in
theorem pack_Le64.calls (k : Nat) (A0 : Option Addr) (c0 : Nat) (l0 : List Int) (a1 : Int) (r : Int) (w : World) (hr0 : Kd.C (Kd.int .u8) w A0 l0.length l0) (hc0 : l0.length ≤ c0) (h : pack_Le64.f k l0 a1 = some r) :
    Calls Tryd.prog 52 #[.slice A0 l0.length c0, .int .i64 a1] w fun e w' => e = .returned (.int .u64 r) ∧ Drawn0 w w' := by
  have HR0 := Aside0.mk hr0
  have HC0 := Aside0.mk hc0
  clear hr0 hc0
  have H : ((pack_take.f k l0 a1 8).bind fun t107 => (some t107)) = some r := h
  clear h
  replace H := Option.bind_eq_some_iff.mp H
  obtain ⟨t107, A30, H⟩ := H
  replace H : (some t107) = some r := H
  have A3 := Aside0.mk A30
  clear A30
  obtain rfl := Option.some.inj H
  go_enter Tryd.func52, Tryd.ntmps52
  go_wp2_with (first | ((with_reducible refine gate_callee (f := 65) rfl ?_); refine goesL_ (some 7) rfl rfl Tryd.func65 (by kernel_rfl) rfl #[.slice A0 l0.length c0, .int .i64 a1, .int .i64 8] rfl (by (try simp only [List.map_toArray, List.map_cons, List.map_nil]); first | done | rfl | (simp only [List.length_drop, List.length_take]; rfl)) ?_; (with_reducible refine (pack_take.calls k _ _ l0 a1 8 t107 _ ?side1 ?side2 A3.out).mono ?_); (case side1 => repeat (first | exact HR0.out | (with_reducible refine Kd.C_alloc ?_ _) | (with_reducible refine Kd.C_drewN ?_ _) | (with_reducible refine Kd.C_drew ?_))); (case side2 => exact HC0.out); rintro e w' ⟨rfl, ⟨nd, rfl⟩⟩; refine ⟨_, rfl, ?_⟩))
  go_ret
  exact ⟨by first | rfl | (simp; done) | (simp [*]; done), by repeat (first | exact Drawn0.refl _ | apply Drawn0.step)⟩

-- NOT PRINTED: function 40 (poly_New)

-- NOT PRINTED: function 70 (bits_Add64)

-- NOT PRINTED: function 57 (poly_big_add)

-- NOT PRINTED: function 67 (poly_fold)

/-! ### bits_Mul64: function 75 -/
def bits_Mul64.f (a0 : Int) (a1 : Int) : Option (Int × Int) := some (IntKind.u64.wrap ((IntKind.u64.wrap ((IntKind.u64.wrap ((a0 / 4294967296) * (a1 / 4294967296))) + ((IntKind.u64.wrap ((IntKind.u64.wrap ((a0 / 4294967296) * (Go.bits .and .u64 a1 4294967295))) + ((IntKind.u64.wrap ((Go.bits .and .u64 a0 4294967295) * (Go.bits .and .u64 a1 4294967295))) / 4294967296))) / 4294967296))) + ((IntKind.u64.wrap ((Go.bits .and .u64 (IntKind.u64.wrap ((IntKind.u64.wrap ((a0 / 4294967296) * (Go.bits .and .u64 a1 4294967295))) + ((IntKind.u64.wrap ((Go.bits .and .u64 a0 4294967295) * (Go.bits .and .u64 a1 4294967295))) / 4294967296))) 4294967295) + (IntKind.u64.wrap ((Go.bits .and .u64 a0 4294967295) * (a1 / 4294967296))))) / 4294967296)), IntKind.u64.wrap (a0 * a1))
set_option maxHeartbeats 8000000 in
set_option maxRecDepth 100000 in
theorem bits_Mul64.calls (a0 : Int) (a1 : Int) (r1 : Int) (r2 : Int) (w : World) (h : bits_Mul64.f a0 a1 = some (r1, r2)) :
    Calls Tryd.prog 75 #[.int .u64 a0, .int .u64 a1] w fun e w' => e = .returned (.tuple #[.int .u64 r1, .int .u64 r2]) ∧ Drawn0 w w' := by
  have H : (some (IntKind.u64.wrap ((IntKind.u64.wrap ((IntKind.u64.wrap ((a0 / 4294967296) * (a1 / 4294967296))) + ((IntKind.u64.wrap ((IntKind.u64.wrap ((a0 / 4294967296) * (Go.bits .and .u64 a1 4294967295))) + ((IntKind.u64.wrap ((Go.bits .and .u64 a0 4294967295) * (Go.bits .and .u64 a1 4294967295))) / 4294967296))) / 4294967296))) + ((IntKind.u64.wrap ((Go.bits .and .u64 (IntKind.u64.wrap ((IntKind.u64.wrap ((a0 / 4294967296) * (Go.bits .and .u64 a1 4294967295))) + ((IntKind.u64.wrap ((Go.bits .and .u64 a0 4294967295) * (Go.bits .and .u64 a1 4294967295))) / 4294967296))) 4294967295) + (IntKind.u64.wrap ((Go.bits .and .u64 a0 4294967295) * (a1 / 4294967296))))) / 4294967296)), IntKind.u64.wrap (a0 * a1))) = some (r1, r2) := h
  clear h
  simp only [Option.some.injEq, Prod.mk.injEq] at H
  obtain ⟨rfl, rfl⟩ := H
  go_enter Tryd.func75, Tryd.ntmps75
  go_wp2
  go_ret2
  exact ⟨by first | rfl | (simp; done) | (simp [*]; done), by repeat (first | exact Drawn0.refl _ | apply Drawn0.step)⟩

-- NOT PRINTED: function 68 (poly_Mac_times)

-- NOT PRINTED: function 69 (poly_number)

-- NOT PRINTED: function 54 (poly_Mac_step)

-- NOT PRINTED: function 41 (poly_Mac_Write)

-- NOT PRINTED: function 42 (aead_filled)

-- NOT PRINTED: function 55 (pack_low_uint64)

-- NOT PRINTED: function 43 (pack_PutLe64)

-- NOT PRINTED: function 56 (poly_least)

/-! ### pack_Join: function 58 -/
def pack_Join.l0 : Nat → List Int → List (List Int) → Int → Int → Option (List Int)
  | 0, _, _, _, _ => none
  | k + 1, x3, x6, x7, x8 => if x8 < x7 then (if 0 ≤ x8 then (if x8 < (x6.length : Int) then (if x3.length + (rd_L1 x6 x8).length < 140737488355328 then (pack_Join.l0 k (x3 ++ (rd_L1 x6 x8)) x6 x7 (wrap64 (x8 + 1))) else (none)) else (none)) else (none)) else (some x3)
def pack_Join.f (k : Nat) (l0 : List (List Int)) : Option (List Int) := pack_Join.l0 k ([] : List Int) l0 (l0.length : Int) 0
theorem pack_Join.mono_l : ∀ k, (∀ y0 y1 y2 y3, LeO (pack_Join.l0 k y0 y1 y2 y3) (pack_Join.l0 (k + 1) y0 y1 y2 y3))
  | 0 => fun _ _ _ _ r h => by simp [pack_Join.l0] at h
  | k + 1 => by
    have ih0 := pack_Join.mono_l k
    · intro y0 y1 y2 y3
      unfold pack_Join.l0
      repeat' first
      | (with_reducible exact ih0 _ _ _ _)
      | (with_reducible exact LeO.refl _)
      | (with_reducible exact LeO.none _)
      | (with_reducible refine LeO.ite ?_ ?_)
      | (with_reducible refine LeO.bind ?_ (fun _ => ?_))
      | exact ih0 _ _ _ _
      | exact LeO.none _
      | refine LeO.ite ?_ ?_
      | refine LeO.bind ?_ (fun _ => ?_)
theorem pack_Join.mono : ∀ a0 k, LeO (pack_Join.f k a0) (pack_Join.f (k + 1) a0) := by
  intro a0 k
  have ih0 := pack_Join.mono_l k
  unfold pack_Join.f
  repeat' first
      | (with_reducible exact ih0 _ _ _ _)
      | (with_reducible exact LeO.refl _)
      | (with_reducible exact LeO.none _)
      | (with_reducible refine LeO.ite ?_ ?_)
      | (with_reducible refine LeO.bind ?_ (fun _ => ?_))
      | exact ih0 _ _ _ _
      | exact LeO.none _
      | refine LeO.ite ?_ ?_
      | refine LeO.bind ?_ (fun _ => ?_)
set_option maxHeartbeats 8000000 in
set_option maxRecDepth 100000 in
theorem pack_Join.calls (k : Nat) (A0 : Option Addr) (c0 : Nat) (l0 : List (List Int)) (r : List Int) (w : World) (hr0 : Kd.C (Kd.slice 5 (Kd.int .u8)) w A0 l0.length l0) (hc0 : l0.length ≤ c0) (h : pack_Join.f k l0 = some r) :
    Calls Tryd.prog 58 #[.slice A0 l0.length c0] w fun e w' => ∃ v0_ : Value, e = .returned (v0_) ∧ Kd.R (Kd.int .u8) 5 w' w.heap.size (fun _ => True) v0_ r ∧ Below w.heap.size w w' := by
  have HR0 := Aside0.mk hr0
  have HC0 := Aside0.mk hc0
  clear hr0 hc0
  have HB := Aside0.mk (Below.refl w.heap.size w)
  have H : (pack_Join.l0 k ([] : List Int) l0 (l0.length : Int) 0) = some r := h
  clear h
  have H' := Aside0.mk H
  clear H
  go_enter Tryd.func58, Tryd.ntmps58
  go_wp2
  go_loopg [3, 8] k (fun kq v3 v8 w' => ∃ (x3_1 : List Int) (x8_1 : Int), v8 = .int .i64 x8_1 ∧ Aside0 (pack_Join.l0 kq x3_1 l0 (l0.length : Int) x8_1 = some r) ∧ Aside0 (kq ≤ k) ∧ Aside0 (Kd.R (Kd.int .u8) 5 w' w.heap.size (fun _ => True) v3 x3_1) ∧ Aside0 (Below w.heap.size w w'))
  case atStart => exact ⟨(([] : List Int)), (0), (by first | rfl | (simp; done) | (simp [*]; done)), H', ⟨Nat.le_refl _⟩, ⟨by first | exact Kd.R_nil _ _ _ _ _ | exact Kd.N_nil _ _ _ _ _ | exact Kd.V_nil _ _ _ _ _ | exact Kd.Q_nil _ _ _ _ _ | exact Kd.S_nil _ _ _ _ _⟩, ⟨by repeat (first | (with_reducible first | exact HB.out | apply below_alloc | apply pw_below_drewN | apply below_drew1) | exact HB.out)⟩⟩
  case round =>
    clear H'
    obtain ⟨x3_1, x8_1, rfl, HA, HK1, HO_3, HB⟩ := hrel
    cases gk with
    | zero => exact absurd HA.out (by simp [pack_Join.l0])
    | succ k1 =>
      have H := HA.out
      clear HA
      simp only [pack_Join.l0] at H
      by_cases c2 : x8_1 < (l0.length : Int)
      · rw [if_pos c2] at H
        have c2b0 : decide (x8_1 < (l0.length : Int)) = true := decide_eq_true c2
        clear c2
        by_cases c3 : 0 ≤ x8_1
        · rw [if_pos c3] at H
          have c3b0 : decide (0 ≤ x8_1) = true := decide_eq_true c3
          clear c3
          by_cases c4 : x8_1 < (l0.length : Int)
          · rw [if_pos c4] at H
            have c4b0 : decide (x8_1 < (l0.length : Int)) = true := decide_eq_true c4
            clear c4
            by_cases c5 : x3_1.length + (rd_L1 l0 x8_1).length < 140737488355328
            · rw [if_pos c5] at H
              have LMc5 := Aside0.mk c5
              clear c5
              obtain ⟨y109, hy109⟩ : ∃ y_ : List Int, y_ = (x3_1 ++ (rd_L1 l0 x8_1)) := ⟨_, rfl⟩
              replace H : (pack_Join.l0 k1 y109 l0 (l0.length : Int) (wrap64 (x8_1 + 1))) = some r := by first | (rw [hy109]; with_reducible exact H) | (have H2_ := (Option.bind_some _ _).symm.trans H; rw [hy109]; with_reducible exact H2_) | (have H2_ := (Option.bind_some _ _).symm.trans H; with_reducible exact H2_) | with_reducible exact H | (rw [hy109]; exact H) | exact H
              have Ny109 := Aside0.mk hy109
              clear hy109
              have H' := Aside0.mk H
              clear H
              have p108 : 0 ≤ (x8_1 : Int) := of_decide_eq_true (by first | (with_reducible assumption) | assumption)
              have q108 : x8_1 < (l0.length : Int) := of_decide_eq_true (by first | (with_reducible assumption) | assumption)
              obtain ⟨ad108, A108_0, c108_0, e108, hx108_0, hl108_0, hi108_0⟩ := at_L1 HR0.out x8_1 p108 q108
              cases e108
              replace hx108_0 := (HB.out.cell (World.block_lt_of_cell? w _ hx108_0)).trans hx108_0
              have HR108_0 := Aside0.mk hi108_0
              have HC108_0 := Aside0.mk hl108_0
              clear hi108_0 hl108_0
              replace p108 := eq_true p108
              replace q108 := eq_true q108
              go_wp2_with (first | ((with_reducible refine gate_builtin (b := .append) (xs := #[.tmp 12, .tmp 13]) rfl ?_); at_builtin; refine Kd.R_append_rows (Kd.int .u8) (w0 := w) w.heap.size rfl (.tmp 12) (.tmp 13) 30 5 (.int .u8 0) 1 rfl Tryd.underlying30 info5 rfl (by decide) (by omega) u3 x3_1 (rd_L1 l0 x8_1) _ _ _ (fun _ => True) (fun _ => False) rfl rfl ?aO ?aR (fun _ _ h => h) (fun _ h => h.elim) ?aF ?aB ?aS ?aL ?_; (case aR => repeat (first | exact (Kd.C_below HR108_0.out HB.out) | (with_reducible refine Kd.C_alloc ?_ _) | (with_reducible refine Kd.C_drewN ?_ _) | (with_reducible refine Kd.C_drew ?_))); (case aB => exact (by repeat (first | (with_reducible first | exact HB.out | apply below_alloc | apply pw_below_drewN | apply below_drew1) | exact HB.out))); (case aF => exact (fun _ _ => trivial)); (case aO => exact (by (with_reducible repeat (first | apply Kd.R_alloc | apply Kd.R_drewN | apply Kd.R_drew)); exact HO_3.out)); (case aS => exact (below_size (by repeat (first | (with_reducible first | exact HB.out | apply below_alloc | apply pw_below_drewN | apply below_drew1) | exact HB.out)))); (case aL => have := LMc5.out; omega); intro v110 w6 ho hb hg hat; rw [← Ny109.out] at ho; have n0_ := Aside0.mk (hb); have n1_ := Aside0.mk (ho); clear HB; clear HO_3; have HB := n0_; have HO111 := n1_; clear n0_ n1_; clear ho hb hg hat))
              go_roundg k1
              case measure => have := HK1.out; omega
              case rel => exact ⟨(y109), (wrap64 (x8_1 + 1)), (by first | rfl | (simp; done) | (simp [*]; done)), H', ⟨by have := HK1.out; omega⟩, ⟨by (with_reducible repeat (first | apply Kd.R_alloc | apply Kd.R_drewN | apply Kd.R_drew)); exact HO111.out⟩, ⟨by repeat (first | (with_reducible first | exact HB.out | apply below_alloc | apply pw_below_drewN | apply below_drew1) | exact HB.out)⟩⟩
            · rw [if_neg c5] at H
              exact absurd H (by simp)
          · rw [if_neg c4] at H
            exact absurd H (by simp)
        · rw [if_neg c3] at H
          exact absurd H (by simp)
      · rw [if_neg c2] at H
        have c2b0 : decide (x8_1 < (l0.length : Int)) = false := decide_eq_false c2
        clear c2
        obtain rfl := Option.some.inj H
        go_wp2
        go_ret
        exact ⟨_, by first | rfl | (simp [errW_none, errW_some] <;> rfl) | (simp [*, errW_none, errW_some] <;> rfl), by (with_reducible repeat (first | apply Kd.R_alloc | apply Kd.R_drewN | apply Kd.R_drew)); exact HO_3.out, by repeat (first | (with_reducible first | exact HB.out | apply below_alloc | apply pw_below_drewN | apply below_drew1) | exact HB.out)⟩

-- NOT PRINTED: function 44 (poly_Mac_Sum)

-- NOT PRINTED: function 27 (aead_Mark)

-- NOT PRINTED: function 30 (aead_Seal)

/-! ### intaglioref01_Low: function 39 -/
def intaglioref01_Low.l0 : Nat → Int → Int → List Int → Int → Option (List Int)
  | 0, _, _, _, _ => none
  | k + 1, x0, x1, x5, x6 => if x6 < x1 then (if x5.length < 140737488355328 then (intaglioref01_Low.l0 k (IntKind.u64.wrap (Int.tdiv x0 256)) x1 (x5 ++ [(Int.tmod x0 256) % 256]) (wrap64 (x6 + 1))) else (none)) else (some x5)
def intaglioref01_Low.f (k : Nat) (a0 : Int) (a1 : Int) : Option (List Int) := intaglioref01_Low.l0 k a0 a1 ([] : List Int) 0
theorem intaglioref01_Low.mono_l : ∀ k, (∀ y0 y1 y2 y3, LeO (intaglioref01_Low.l0 k y0 y1 y2 y3) (intaglioref01_Low.l0 (k + 1) y0 y1 y2 y3))
  | 0 => fun _ _ _ _ r h => by simp [intaglioref01_Low.l0] at h
  | k + 1 => by
    have ih0 := intaglioref01_Low.mono_l k
    · intro y0 y1 y2 y3
      unfold intaglioref01_Low.l0
      repeat' first
      | (with_reducible exact ih0 _ _ _ _)
      | (with_reducible exact LeO.refl _)
      | (with_reducible exact LeO.none _)
      | (with_reducible refine LeO.ite ?_ ?_)
      | (with_reducible refine LeO.bind ?_ (fun _ => ?_))
      | exact ih0 _ _ _ _
      | exact LeO.none _
      | refine LeO.ite ?_ ?_
      | refine LeO.bind ?_ (fun _ => ?_)
theorem intaglioref01_Low.mono : ∀ a0 a1 k, LeO (intaglioref01_Low.f k a0 a1) (intaglioref01_Low.f (k + 1) a0 a1) := by
  intro a0 a1 k
  have ih0 := intaglioref01_Low.mono_l k
  unfold intaglioref01_Low.f
  repeat' first
      | (with_reducible exact ih0 _ _ _ _)
      | (with_reducible exact LeO.refl _)
      | (with_reducible exact LeO.none _)
      | (with_reducible refine LeO.ite ?_ ?_)
      | (with_reducible refine LeO.bind ?_ (fun _ => ?_))
      | exact ih0 _ _ _ _
      | exact LeO.none _
      | refine LeO.ite ?_ ?_
      | refine LeO.bind ?_ (fun _ => ?_)
set_option maxHeartbeats 8000000 in
set_option maxRecDepth 100000 in
theorem intaglioref01_Low.calls (k : Nat) (a0 : Int) (a1 : Int) (r : List Int) (w : World) (h : intaglioref01_Low.f k a0 a1 = some r) :
    Calls Tryd.prog 39 #[.int .u64 a0, .int .i64 a1] w fun e w' => ∃ v0_ : Value, e = .returned (v0_) ∧ Kd.R (Kd.int .u8) 5 w' w.heap.size (fun _ => True) v0_ r ∧ Below w.heap.size w w' := by
  have HB := Aside0.mk (Below.refl w.heap.size w)
  have H : (intaglioref01_Low.l0 k a0 a1 ([] : List Int) 0) = some r := h
  clear h
  have H' := Aside0.mk H
  clear H
  go_enter Tryd.func39, Tryd.ntmps39
  go_wp2
  go_loopg [0, 5, 6] k (fun kq v0 v5 v6 w' => ∃ (x0_1 : Int) (x5_1 : List Int) (x6_1 : Int), v0 = .int .u64 x0_1 ∧ v6 = .int .i64 x6_1 ∧ Aside0 (intaglioref01_Low.l0 kq x0_1 a1 x5_1 x6_1 = some r) ∧ Aside0 (kq ≤ k) ∧ Aside0 (Kd.R (Kd.int .u8) 5 w' w.heap.size (fun _ => True) v5 x5_1) ∧ Aside0 (Below w.heap.size w w'))
  case atStart => exact ⟨(a0), (([] : List Int)), (0), (by first | rfl | (simp; done) | (simp [*]; done)), (by first | rfl | (simp; done) | (simp [*]; done)), H', ⟨Nat.le_refl _⟩, ⟨by first | exact Kd.R_nil _ _ _ _ _ | exact Kd.N_nil _ _ _ _ _ | exact Kd.V_nil _ _ _ _ _ | exact Kd.Q_nil _ _ _ _ _ | exact Kd.S_nil _ _ _ _ _⟩, ⟨by repeat (first | (with_reducible first | exact HB.out | apply below_alloc | apply pw_below_drewN | apply below_drew1) | exact HB.out)⟩⟩
  case round =>
    clear H'
    try clear p2
    obtain ⟨x0_1, x5_1, x6_1, rfl, rfl, HA, HK1, HO_5, HB⟩ := hrel
    cases gk with
    | zero => exact absurd HA.out (by simp [intaglioref01_Low.l0])
    | succ k1 =>
      have H := HA.out
      clear HA
      simp only [intaglioref01_Low.l0] at H
      by_cases c3 : x6_1 < a1
      · rw [if_pos c3] at H
        have c3b0 : decide (x6_1 < a1) = true := decide_eq_true c3
        clear c3
        by_cases c4 : x5_1.length < 140737488355328
        · rw [if_pos c4] at H
          have LMc4 := Aside0.mk c4
          clear c4
          obtain ⟨y114, hy114⟩ : ∃ y_ : List Int, y_ = (x5_1 ++ [(Int.tmod x0_1 256) % 256]) := ⟨_, rfl⟩
          replace H : (intaglioref01_Low.l0 k1 (IntKind.u64.wrap (Int.tdiv x0_1 256)) a1 y114 (wrap64 (x6_1 + 1))) = some r := by first | (rw [hy114]; with_reducible exact H) | (have H2_ := (Option.bind_some _ _).symm.trans H; rw [hy114]; with_reducible exact H2_) | (have H2_ := (Option.bind_some _ _).symm.trans H; with_reducible exact H2_) | with_reducible exact H | (rw [hy114]; exact H) | exact H
          have Ny114 := Aside0.mk hy114
          clear hy114
          have H' := Aside0.mk H
          clear H
          go_wp2_with (first | ((with_reducible refine gate_builtin (b := .append) (xs := #[.tmp 12, .tmp 16]) rfl ?_); at_builtin; refine Kd.R_append (Kd.int .u8) (w0 := w) w.heap.size rfl (.tmp 12) (.tmp 16) 30 5 (.int .u8 0) 1 rfl Tryd.underlying30 info5 rfl (by decide) (by omega) u5 x5_1 ((Int.tmod x0_1 256) % 256) [.int .u8 ((Int.tmod x0_1 256) % 256)] (fun _ => True) (fun _ => False) rfl rfl ?aP (fun _ hk => hk.elim) ?aF ?aO ?aB ?aS ?aL ?_; (case aP => exact rfl); (case aB => exact (by repeat (first | (with_reducible first | exact HB.out | apply below_alloc | apply pw_below_drewN | apply below_drew1) | exact HB.out))); (case aF => exact (fun _ _ => trivial)); (case aO => exact (by (with_reducible repeat (first | apply Kd.R_alloc | apply Kd.R_drewN | apply Kd.R_drew)); exact HO_5.out)); (case aS => exact (below_size (by repeat (first | (with_reducible first | exact HB.out | apply below_alloc | apply pw_below_drewN | apply below_drew1) | exact HB.out)))); (case aL => have := LMc4.out; omega); intro v115 w5 ho hb hg hat; rw [← Ny114.out] at ho; have n0_ := Aside0.mk (hb); have n1_ := Aside0.mk (ho); clear HB; clear HO_5; have HB := n0_; have HO116 := n1_; clear n0_ n1_; clear ho hb hg hat))
          go_roundg k1
          case measure => have := HK1.out; omega
          case rel => exact ⟨(IntKind.u64.wrap (Int.tdiv x0_1 256)), (y114), (wrap64 (x6_1 + 1)), (by first | rfl | (simp; done) | (simp [*]; done)), (by first | rfl | (simp; done) | (simp [*]; done)), H', ⟨by have := HK1.out; omega⟩, ⟨by (with_reducible repeat (first | apply Kd.R_alloc | apply Kd.R_drewN | apply Kd.R_drew)); exact HO116.out⟩, ⟨by repeat (first | (with_reducible first | exact HB.out | apply below_alloc | apply pw_below_drewN | apply below_drew1) | exact HB.out)⟩⟩
        · rw [if_neg c4] at H
          exact absurd H (by simp)
      · rw [if_neg c3] at H
        have c3b0 : decide (x6_1 < a1) = false := decide_eq_false c3
        clear c3
        obtain rfl := Option.some.inj H
        go_wp2
        go_ret
        exact ⟨_, by first | rfl | (simp [errW_none, errW_some] <;> rfl) | (simp [*, errW_none, errW_some] <;> rfl), by (with_reducible repeat (first | apply Kd.R_alloc | apply Kd.R_drewN | apply Kd.R_drew)); exact HO_5.out, by repeat (first | (with_reducible first | exact HB.out | apply below_alloc | apply pw_below_drewN | apply below_drew1) | exact HB.out)⟩

-- NOT PRINTED: function 17 (intaglioref02_Block)

-- NOT PRINTED: function 21 (intaglioref02_Bytes)

-- NOT PRINTED: function 25 (intaglioref02_Xor)

/-! ### intaglioref01_Both: function 45 -/
def intaglioref01_Both.f (l0 : List Int) (l1 : List Int) : Option (List Int) := if ([] : List Int).length + l0.length < 140737488355328 then ((some (([] : List Int) ++ l0 : List Int)).bind fun y117 => (if y117.length + l1.length < 140737488355328 then (some (y117 ++ l1)) else (none))) else (none)
set_option maxHeartbeats 8000000 in
set_option maxRecDepth 100000 in
theorem intaglioref01_Both.calls (A0 : Option Addr) (c0 : Nat) (l0 : List Int) (A1 : Option Addr) (c1 : Nat) (l1 : List Int) (r : List Int) (w : World) (hr0 : Kd.C (Kd.int .u8) w A0 l0.length l0) (hc0 : l0.length ≤ c0) (hr1 : Kd.C (Kd.int .u8) w A1 l1.length l1) (hc1 : l1.length ≤ c1) (h : intaglioref01_Both.f l0 l1 = some r) :
    Calls Tryd.prog 45 #[.slice A0 l0.length c0, .slice A1 l1.length c1] w fun e w' => ∃ v0_ : Value, e = .returned (v0_) ∧ Kd.R (Kd.int .u8) 5 w' w.heap.size (fun _ => True) v0_ r ∧ Below w.heap.size w w' := by
  have HR0 := Aside0.mk hr0
  have HC0 := Aside0.mk hc0
  clear hr0 hc0
  have HR1 := Aside0.mk hr1
  have HC1 := Aside0.mk hc1
  clear hr1 hc1
  have HB := Aside0.mk (Below.refl w.heap.size w)
  have H : (if ([] : List Int).length + l0.length < 140737488355328 then ((some (([] : List Int) ++ l0 : List Int)).bind fun y117 => (if y117.length + l1.length < 140737488355328 then (some (y117 ++ l1)) else (none))) else (none)) = some r := h
  clear h
  by_cases c3 : ([] : List Int).length + l0.length < 140737488355328
  · rw [if_pos c3] at H
    have LMc3 := Aside0.mk c3
    clear c3
    obtain ⟨y117, hy117⟩ : ∃ y_ : List Int, y_ = (([] : List Int) ++ l0) := ⟨_, rfl⟩
    replace H : (if y117.length + l1.length < 140737488355328 then (some (y117 ++ l1)) else (none)) = some r := by first | (rw [hy117]; with_reducible exact H) | (have H2_ := (Option.bind_some _ _).symm.trans H; rw [hy117]; with_reducible exact H2_) | (have H2_ := (Option.bind_some _ _).symm.trans H; with_reducible exact H2_) | with_reducible exact H | (rw [hy117]; exact H) | exact H
    have Ny117 := Aside0.mk hy117
    clear hy117
    by_cases c4 : y117.length + l1.length < 140737488355328
    · rw [if_pos c4] at H
      have LMc4 := Aside0.mk c4
      clear c4
      obtain ⟨y120, hy120⟩ : ∃ y_ : List Int, y_ = (y117 ++ l1) := ⟨_, rfl⟩
      replace H : (some y120) = some r := by first | (rw [hy120]; with_reducible exact H) | (have H2_ := (Option.bind_some _ _).symm.trans H; rw [hy120]; with_reducible exact H2_) | (have H2_ := (Option.bind_some _ _).symm.trans H; with_reducible exact H2_) | with_reducible exact H | (rw [hy120]; exact H) | exact H
      have Ny120 := Aside0.mk hy120
      clear hy120
      obtain rfl := Option.some.inj H
      go_enter Tryd.func45, Tryd.ntmps45
      go_wp2_with (first | ((with_reducible refine gate_builtin (b := .append) (xs := #[.tmp 6, .tmp 7]) rfl ?_); at_builtin; refine Kd.R_append_rows (Kd.int .u8) (w0 := w) w.heap.size rfl (.tmp 6) (.tmp 7) 30 5 (.int .u8 0) 1 rfl Tryd.underlying30 info5 rfl (by decide) (by omega) (.slice none 0 0) ([] : List Int) l0 _ _ _ (fun _ => True) (fun _ => False) rfl rfl ?aO ?aR (fun _ _ h => h) (fun _ h => h.elim) ?aF ?aB ?aS ?aL ?_; (case aR => repeat (first | exact HR0.out | (with_reducible refine Kd.C_alloc ?_ _) | (with_reducible refine Kd.C_drewN ?_ _) | (with_reducible refine Kd.C_drew ?_))); (case aB => exact (by repeat (first | (with_reducible first | exact HB.out | apply below_alloc | apply pw_below_drewN | apply below_drew1) | exact HB.out))); (case aF => exact (fun _ _ => trivial)); (case aO => exact ((Kd.R_nil _ _ _ _ (fun _ => True)))); (case aS => exact (below_size (by repeat (first | (with_reducible first | exact HB.out | apply below_alloc | apply pw_below_drewN | apply below_drew1) | exact HB.out)))); (case aL => have := LMc3.out; omega); intro v118 w5 ho hb hg hat; rw [← Ny117.out] at ho; have n0_ := Aside0.mk (hb); have n1_ := Aside0.mk (ho); clear HB; have HB := n0_; have HO119 := n1_; clear n0_ n1_; clear ho hb hg hat) | ((with_reducible refine gate_builtin (b := .append) (xs := #[.tmp 9, .tmp 10]) rfl ?_); at_builtin; refine Kd.R_append_rows (Kd.int .u8) (w0 := w) w.heap.size rfl (.tmp 9) (.tmp 10) 30 5 (.int .u8 0) 1 rfl Tryd.underlying30 info5 rfl (by decide) (by omega) v118 y117 l1 _ _ _ (fun _ => True) (fun _ => False) rfl rfl ?aO ?aR (fun _ _ h => h) (fun _ h => h.elim) ?aF ?aB ?aS ?aL ?_; (case aR => repeat (first | exact (Kd.C_below HR1.out HB.out) | (with_reducible refine Kd.C_alloc ?_ _) | (with_reducible refine Kd.C_drewN ?_ _) | (with_reducible refine Kd.C_drew ?_))); (case aB => exact (by repeat (first | (with_reducible first | exact HB.out | apply below_alloc | apply pw_below_drewN | apply below_drew1) | exact HB.out))); (case aF => exact (fun _ _ => trivial)); (case aO => exact (by (with_reducible repeat (first | apply Kd.R_alloc | apply Kd.R_drewN | apply Kd.R_drew)); exact HO119.out)); (case aS => exact (below_size (by repeat (first | (with_reducible first | exact HB.out | apply below_alloc | apply pw_below_drewN | apply below_drew1) | exact HB.out)))); (case aL => have := LMc4.out; omega); intro v121 w6 ho hb hg hat; rw [← Ny120.out] at ho; have n0_ := Aside0.mk (hb); have n1_ := Aside0.mk (ho); clear HB; clear HO119; have HB := n0_; have HO122 := n1_; clear n0_ n1_; clear ho hb hg hat))
      go_ret
      exact ⟨_, by first | rfl | (simp [errW_none, errW_some] <;> rfl) | (simp [*, errW_none, errW_some] <;> rfl), by (with_reducible repeat (first | apply Kd.R_alloc | apply Kd.R_drewN | apply Kd.R_drew)); exact HO122.out, by repeat (first | (with_reducible first | exact HB.out | apply below_alloc | apply pw_below_drewN | apply below_drew1) | exact HB.out)⟩
    · rw [if_neg c4] at H
      exact absurd H (by simp)
  · rw [if_neg c3] at H
    exact absurd H (by simp)

/-! ### intaglioref04_filled: function 46 -/
def intaglioref04_filled.l0 : Nat → List Int → Int → Option (List Int)
  | 0, _, _ => none
  | k + 1, x3, x4 => if x4 < 16 then (if ((x3.length : Int) % 16) = 0 then (some x3) else (if x3.length < 140737488355328 then (intaglioref04_filled.l0 k (x3 ++ [0]) (wrap64 (x4 + 1))) else (none))) else (some x3)
def intaglioref04_filled.f (k : Nat) (l0 : List Int) : Option (List Int) := (intaglioref01_Both.f ([] : List Int) l0).bind fun t123 => (intaglioref04_filled.l0 k t123 0)
theorem intaglioref04_filled.mono_l : ∀ k, (∀ y0 y1, LeO (intaglioref04_filled.l0 k y0 y1) (intaglioref04_filled.l0 (k + 1) y0 y1))
  | 0 => fun _ _ r h => by simp [intaglioref04_filled.l0] at h
  | k + 1 => by
    have ih0 := intaglioref04_filled.mono_l k
    · intro y0 y1
      unfold intaglioref04_filled.l0
      repeat' first
      | (with_reducible exact ih0 _ _)
      | (with_reducible exact LeO.refl _)
      | (with_reducible exact LeO.none _)
      | (with_reducible refine LeO.ite ?_ ?_)
      | (with_reducible refine LeO.bind ?_ (fun _ => ?_))
      | exact ih0 _ _
      | exact LeO.none _
      | refine LeO.ite ?_ ?_
      | refine LeO.bind ?_ (fun _ => ?_)
theorem intaglioref04_filled.mono : ∀ a0 k, LeO (intaglioref04_filled.f k a0) (intaglioref04_filled.f (k + 1) a0) := by
  intro a0 k
  have ih0 := intaglioref04_filled.mono_l k
  unfold intaglioref04_filled.f
  repeat' first
      | (with_reducible exact ih0 _ _)
      | (with_reducible exact LeO.refl _)
      | (with_reducible exact LeO.none _)
      | (with_reducible refine LeO.ite ?_ ?_)
      | (with_reducible refine LeO.bind ?_ (fun _ => ?_))
      | exact ih0 _ _
      | exact LeO.none _
      | refine LeO.ite ?_ ?_
      | refine LeO.bind ?_ (fun _ => ?_)
set_option maxHeartbeats 8000000 in
set_option maxRecDepth 100000 in
theorem intaglioref04_filled.calls (k : Nat) (A0 : Option Addr) (c0 : Nat) (l0 : List Int) (r : List Int) (w : World) (hr0 : Kd.C (Kd.int .u8) w A0 l0.length l0) (hc0 : l0.length ≤ c0) (h : intaglioref04_filled.f k l0 = some r) :
    Calls Tryd.prog 46 #[.slice A0 l0.length c0] w fun e w' => ∃ v0_ : Value, e = .returned (v0_) ∧ Kd.R (Kd.int .u8) 5 w' w.heap.size (fun _ => True) v0_ r ∧ Below w.heap.size w w' := by
  have HR0 := Aside0.mk hr0
  have HC0 := Aside0.mk hc0
  clear hr0 hc0
  have HB := Aside0.mk (Below.refl w.heap.size w)
  have H : ((intaglioref01_Both.f ([] : List Int) l0).bind fun t123 => (intaglioref04_filled.l0 k t123 0)) = some r := h
  clear h
  replace H := Option.bind_eq_some_iff.mp H
  obtain ⟨t123, A20, H⟩ := H
  replace H : (intaglioref04_filled.l0 k t123 0) = some r := H
  have A2 := Aside0.mk A20
  clear A20
  have H' := Aside0.mk H
  clear H
  go_enter Tryd.func46, Tryd.ntmps46
  go_wp2_with (first | ((with_reducible refine gate_callee (f := 45) rfl ?_); refine goesL_ (some 6) rfl rfl Tryd.func45 (by kernel_rfl) rfl #[.slice none 0 0, .slice A0 l0.length c0] rfl (by (try simp only [List.map_toArray, List.map_cons, List.map_nil]); first | done | rfl | (simp only [List.length_drop, List.length_take]; rfl)) ?_; (refine (intaglioref01_Both.calls _ _ ([] : List Int) _ _ l0 t123 _ ?side1 ?side2 ?side3 ?side4 A2.out).mono ?_); (case side1 => exact Kd.C_nil _ _); (case side2 => exact Nat.le_refl _); (case side3 => repeat (first | exact HR0.out | (with_reducible refine Kd.C_alloc ?_ _) | (with_reducible refine Kd.C_drewN ?_ _) | (with_reducible refine Kd.C_drew ?_))); (case side4 => exact HC0.out); rintro e w3 ⟨v124, rfl, ho0, hb⟩; refine ⟨_, rfl, ?_⟩; have n0_ := Aside0.mk (Kd.R_lower ho0 (below_size (by repeat (first | (with_reducible first | exact HB.out | apply below_alloc | apply pw_below_drewN | apply below_drew1) | exact HB.out)))); have n1_ := Aside0.mk (below_step (by repeat (first | (with_reducible first | exact HB.out | apply below_alloc | apply pw_below_drewN | apply below_drew1) | exact HB.out)) hb); clear HB; have HO125 := n0_; have HB := n1_; clear n0_ n1_; (try clear hb); (try clear hb2); (try clear hk); (try clear hi); (try clear ho0)))
  go_loopg [3, 4] k (fun kq v3 v4 w' => ∃ (x3_1 : List Int) (x4_1 : Int), v4 = .int .i64 x4_1 ∧ Aside0 (intaglioref04_filled.l0 kq x3_1 x4_1 = some r) ∧ Aside0 (kq ≤ k) ∧ Aside0 (Kd.R (Kd.int .u8) 5 w' w.heap.size (fun _ => True) v3 x3_1) ∧ Aside0 (Below w.heap.size w w'))
  case atStart => exact ⟨(t123), (0), (by first | rfl | (simp; done) | (simp [*]; done)), H', ⟨Nat.le_refl _⟩, ⟨by (with_reducible repeat (first | apply Kd.R_alloc | apply Kd.R_drewN | apply Kd.R_drew)); exact HO125.out⟩, ⟨by repeat (first | (with_reducible first | exact HB.out | apply below_alloc | apply pw_below_drewN | apply below_drew1) | exact HB.out)⟩⟩
  case round =>
    clear H'
    try clear p2
    obtain ⟨x3_1, x4_1, rfl, HA, HK1, HO_3, HB⟩ := hrel
    cases gk with
    | zero => exact absurd HA.out (by simp [intaglioref04_filled.l0])
    | succ k1 =>
      have H := HA.out
      clear HA
      simp only [intaglioref04_filled.l0] at H
      by_cases c4 : x4_1 < 16
      · rw [if_pos c4] at H
        have c4b0 : decide (x4_1 < 16) = true := decide_eq_true c4
        clear c4
        by_cases c5 : ((x3_1.length : Int) % 16) = 0
        · rw [if_pos c5] at H
          have c5b0 : (((x3_1.length : Int) % 16) == 0) = true := beq_iff_eq.mpr c5
          have c5b1 : (((x3_1.length : Int) % 16) != 0) = false := bne_eq_false_iff_eq.mpr c5
          clear c5
          obtain rfl := Option.some.inj H
          obtain ⟨Ao6, co6, eo6⟩ := Kd.R_slice HO_3.out
          subst eo6
          go_wp2
          go_ret
          exact ⟨_, by first | rfl | (simp [errW_none, errW_some] <;> rfl) | (simp [*, errW_none, errW_some] <;> rfl), by (with_reducible repeat (first | apply Kd.R_alloc | apply Kd.R_drewN | apply Kd.R_drew)); exact HO_3.out, by repeat (first | (with_reducible first | exact HB.out | apply below_alloc | apply pw_below_drewN | apply below_drew1) | exact HB.out)⟩
        · rw [if_neg c5] at H
          have c5b0 : (((x3_1.length : Int) % 16) == 0) = false := beq_eq_false_iff_ne.mpr c5
          have c5b1 : (((x3_1.length : Int) % 16) != 0) = true := bne_iff_ne.mpr c5
          by_cases c7 : x3_1.length < 140737488355328
          · rw [if_pos c7] at H
            have LMc7 := Aside0.mk c7
            clear c7
            obtain ⟨y126, hy126⟩ : ∃ y_ : List Int, y_ = (x3_1 ++ [0]) := ⟨_, rfl⟩
            replace H : (intaglioref04_filled.l0 k1 y126 (wrap64 (x4_1 + 1))) = some r := by first | (rw [hy126]; with_reducible exact H) | (have H2_ := (Option.bind_some _ _).symm.trans H; rw [hy126]; with_reducible exact H2_) | (have H2_ := (Option.bind_some _ _).symm.trans H; with_reducible exact H2_) | with_reducible exact H | (rw [hy126]; exact H) | exact H
            have Ny126 := Aside0.mk hy126
            clear hy126
            have H' := Aside0.mk H
            clear H
            obtain ⟨Ao8, co8, eo8⟩ := Kd.R_slice HO_3.out
            subst eo8
            go_wp2_with (first | ((with_reducible refine gate_builtin (b := .append) (xs := #[.tmp 17, .tmp 18]) rfl ?_); (try (refine gate_guard (by rfl) ?_; dsimp only)); at_builtin; refine Kd.R_append (Kd.int .u8) (w0 := w) w.heap.size rfl (.tmp 17) (.tmp 18) 30 5 (.int .u8 0) 1 rfl Tryd.underlying30 info5 rfl (by decide) (by omega) (.slice Ao8 x3_1.length co8) x3_1 0 [.int .u8 0] (fun _ => True) (fun _ => False) rfl rfl ?aP (fun _ hk => hk.elim) ?aF ?aO ?aB ?aS ?aL ?_; (case aP => exact rfl); (case aB => exact (by repeat (first | (with_reducible first | exact HB.out | apply below_alloc | apply pw_below_drewN | apply below_drew1) | exact HB.out))); (case aF => exact (fun _ _ => trivial)); (case aO => exact (by (with_reducible repeat (first | apply Kd.R_alloc | apply Kd.R_drewN | apply Kd.R_drew)); exact HO_3.out)); (case aS => exact (below_size (by repeat (first | (with_reducible first | exact HB.out | apply below_alloc | apply pw_below_drewN | apply below_drew1) | exact HB.out)))); (case aL => have := LMc7.out; omega); intro v127 w9 ho hb hg hat; rw [← Ny126.out] at ho; have n0_ := Aside0.mk (hb); have n1_ := Aside0.mk (ho); clear HB; clear HO_3; have HB := n0_; have HO128 := n1_; clear n0_ n1_; clear ho hb hg hat))
            go_roundg k1
            case measure => have := HK1.out; omega
            case rel => exact ⟨(y126), (wrap64 (x4_1 + 1)), (by first | rfl | (simp; done) | (simp [*]; done)), H', ⟨by have := HK1.out; omega⟩, ⟨by (with_reducible repeat (first | apply Kd.R_alloc | apply Kd.R_drewN | apply Kd.R_drew)); exact HO128.out⟩, ⟨by repeat (first | (with_reducible first | exact HB.out | apply below_alloc | apply pw_below_drewN | apply below_drew1) | exact HB.out)⟩⟩
          · rw [if_neg c7] at H
            exact absurd H (by simp)
      · rw [if_neg c4] at H
        have c4b0 : decide (x4_1 < 16) = false := decide_eq_false c4
        clear c4
        obtain rfl := Option.some.inj H
        go_wp2
        go_ret
        exact ⟨_, by first | rfl | (simp [errW_none, errW_some] <;> rfl) | (simp [*, errW_none, errW_some] <;> rfl), by (with_reducible repeat (first | apply Kd.R_alloc | apply Kd.R_drewN | apply Kd.R_drew)); exact HO_3.out, by repeat (first | (with_reducible first | exact HB.out | apply below_alloc | apply pw_below_drewN | apply below_drew1) | exact HB.out)⟩

end Go.Proofs.YtmjjnaaiakchhaaDoor.PAeadSeals
end

section
/-
  Small lemmas of the seat's own: worlds that only grow, slices that read as lists, the closing of a law's row.
-/
namespace Go.Proofs.YtmjjnaaiakchhaaDoor
open Go.ChangeShapes Go.WideShapes Go.ChangeAt Go.RowKit

/-! ### Worlds that only grow -/
theorem bw_al {B : Nat} {w W : World} (h : Below B w W) (hB : B ≤ W.heap.size) (o : Obj) : Below B w (W.alloc o) := h.alloc hB o
theorem bw_dr {B : Nat} {w W : World} (h : Below B w W) (n : Nat) : Below B w (W.drewN n) := ⟨h.os, h.tape, h.output, h.size, h.block⟩
theorem bw_d1 {B : Nat} {w W : World} (h : Below B w W) : Below B w W.drew := ⟨h.os, h.tape, h.output, h.size, h.block⟩
theorem bw_set {B : Nat} {w W : World} (h : Below B w W) (b o : Nat) (hB : B ≤ b) (v : Value) : Below B w (W.setCell ⟨b, o, none⟩ v) := h.setCell (p := ⟨b, o, none⟩) hB v
theorem bw_then {B : Nat} {w W W' : World} (h : Below B w W) (k : Below W.heap.size W W') (hB : B ≤ W.heap.size) : Below B w W' := h.trans (k.mono hB)

theorem cell_stay {w w' : World} (hb : Below w.heap.size w w') {a : Addr} {v : Value} (hc : w.cell? a = some v) : w'.cell? a = some v := (hb.cell (World.block_lt_of_cell? w a hc)).trans hc

/-! ### A block known whole -/
def Blk (w : World) (b : Nat) (cs : List Value) (t : TypeId) : Prop := w.heap[b]? = some (.cells cs.toArray t (0, 0))
section
variable {w w' : World} {b : Nat} {cs : List Value} {t : TypeId}
theorem Blk.lt (h : Blk w b cs t) : b < w.heap.size := (Array.getElem?_eq_some_iff.1 h).1
theorem Blk.get (h : Blk w b cs t) (i : Nat) : w.cell? ⟨b, i, none⟩ = cs[i]? := by
  unfold Blk at h; simp [World.cell?, h]
theorem Blk.cell (h : Blk w b cs t) (i : Nat) (hi : i < cs.length) : w.cell? ⟨b, i, none⟩ = some cs[i] := by rw [h.get, List.getElem?_eq_getElem hi]
theorem Blk.at_ (h : Blk w b cs t) (i : Nat) {v : Value} (hi : cs[i]? = some v) : w.cell? ⟨b, i, none⟩ = some v := by rw [h.get, hi]
theorem Blk.free (h : Blk w b cs t) (i : Nat) : w.frozen? ⟨b, i, none⟩ = false := by
  unfold Blk at h; simp [World.frozen?, h]
theorem Blk.set (h : Blk w b cs t) (i : Nat) (v : Value) : Blk (w.setCell ⟨b, i, none⟩ v) b (cs.set i v) t := by
  unfold Blk at *
  simp [World.setCell, Array.getElem?_modify, h]
theorem Blk.other (h : Blk w b cs t) {a : Addr} (hne : b ≠ a.block) (v : Value) : Blk (w.setCell a v) b cs t := by
  unfold Blk at *; rw [Below.heap_setCell _ _ _ _ hne]; exact h
theorem Blk.al (h : Blk w b cs t) (o : Obj) : Blk (w.alloc o) b cs t := (Below.heap_alloc w o b h.lt).trans h
theorem Blk.dr (h : Blk w b cs t) (n : Nat) : Blk (w.drewN n) b cs t := h
theorem Blk.d1 (h : Blk w b cs t) : Blk w.drew b cs t := h
theorem Blk.keep {B : Nat} (h : Blk w b cs t) (hb : Below B w w') (hB : b < B) : Blk w' b cs t := (hb.block b hB).trans h
theorem Blk.stay (h : Blk w b cs t) (hb : Below w.heap.size w w') : Blk w' b cs t := h.keep hb h.lt
theorem Blk.mk_ (w : World) {b : Nat} {arr : Array Value} {cs : List Value} {t : TypeId} (hb : b = w.heap.size) (ha : arr = cs.toArray) : Blk (w.alloc (.cells arr t)) b cs t := by subst hb ha; exact heap_alloc_new w _
theorem Blk.new (w : World) (cs : List Value) (t : TypeId) : Blk (w.alloc (.cells cs.toArray t)) w.heap.size cs t := heap_alloc_new w _
end

/-! ### One block that may have turned -/
structure Only (b : Nat) (w w' : World) : Prop where
  os : w'.os = w.os
  tape : w'.tape = w.tape
  output : w'.output = w.output
  size : w'.heap.size = w.heap.size
  block : ∀ k, k ≠ b → w'.heap[k]? = w.heap[k]?
theorem Only.set (w : World) (b i : Nat) (v : Value) : Only b w (w.setCell ⟨b, i, none⟩ v) :=
  ⟨rfl, rfl, rfl, by simp [World.setCell], fun k hk => Below.heap_setCell _ _ _ _ hk⟩
theorem Only.row (w : World) (b : Nat) (cs : Array Value) : Only b w (w.setRow b cs) := ⟨rfl, rfl, rfl, setRow_size _ _ _, fun k hk => setRow_other w b k cs hk⟩
theorem Only.below {B b : Nat} {w0 w w' : World} (h : Below B w0 w) (o : Only b w w') (hB : B ≤ b) : Below B w0 w' :=
  h.trans ⟨o.os, o.tape, o.output, Nat.le_of_eq o.size.symm, fun k hk => o.block k (by omega)⟩
theorem Blk.only {w w' : World} {b c : Nat} {cs : List Value} {t : TypeId} (h : Blk w c cs t) (o : Only b w w') (hne : c ≠ b) : Blk w' c cs t := (o.block c hne).trans h

/-- A whole array or struct read out of a block. -/
theorem wp_load_blk {P : Program} {ops : Array Oper} {rest : List Oper} {o : Oper} {a : Act} {w : World} {Q : Exit → Act → World → Prop} (hgd : o.guard = none) (ty : TypeId) (x : Operand) (ho : o.op = .load ty x)
    {g : Nat} (hx : a.eval x = .pointer (some ⟨g, 0, none⟩)) {t : TypeId} {cs : List Value} {d : TypeDesc} (hg : Blk w g cs t)
    (hu : P.underlying ty = some d) (hd : (match d with | .struct _ | .array _ _ => true | _ => false) = true) {n : Nat} (hi : (P.info? ty).map (·.size) = some n) (hn : cs.length = n)
    (h : wpList P ops Q rest (a.put o.dst (.agg cs.toArray)) w) : wpList P ops Q (o :: rest) a w :=
  wpList_load_row hgd ty x ho g hx t cs.toArray (0, 0) d hg hu hd (by rw [hi]; simp [hn]) h
/-- A whole array or struct written into a block. -/
theorem run_store_blk {P : Program} {w : World} (ty : TypeId) {g : Nat} {t : TypeId} {cs cs' : List Value} (hg : Blk w g cs t) (hone : ∀ v ∈ cs', v.oneCell' = true) (hl : cs'.length = cs.length)
    {n : Nat} (hi : (P.info? ty).map (·.size) = some n) (hn : cs'.length = n) : (Instr.storeAt ty (.pointer (some ⟨g, 0, none⟩)) (.agg cs'.toArray)).run P w = .ok () (w.setRow g cs'.toArray) := by
  obtain ⟨i, hi1, hi2⟩ := Option.map_eq_some_iff.1 hi
  have hst := run_storeCells_at P g 0 t cs' 0 cs.toArray w hg (by simp [hl]) hone
  simp only [Nat.zero_add, List.take_zero, List.nil_append] at hst
  rw [List.drop_of_length_le (by simp [hl]), List.append_nil] at hst
  simp [Instr.storeAt, Instr.sureAddr, storeVar, sizeOf, typeInfo, hi1, hi2, Value.cells, hn, hst]
theorem upon_store_blk {P : Program} {o : Oper} {ρ : Operand → Value} {a : Act} {w : World} {K : Act → World → Prop} {Q : Exit → Act → World → Prop} (ty : TypeId) (x y : Operand) (ho : o.op = .store ty x y)
    {g : Nat} (hx : ρ x = .pointer (some ⟨g, 0, none⟩)) {t : TypeId} {cs cs' : List Value} (hy : ρ y = .agg cs'.toArray) (hg : Blk w g cs t) (hone : ∀ v ∈ cs', v.oneCell' = true) (hl : cs'.length = cs.length)
    {n : Nat} (hi : (P.info? ty).map (·.size) = some n) (hn : cs'.length = n)
    (h : ∀ w', Blk w' g cs' t → Only g w w' → K (a.put o.dst undef) w') : o.upon P a K Q ((execOp ρ o).run P w) := by
  simp only [execOp, ho, Sem.run_bind, hx, hy, run_store_blk ty hg hone hl hi hn, Result.andThen_ok, Sem.run_pure, Oper.upon]
  exact h _ (setRow_heap w g cs.toArray cs'.toArray t (0, 0) hg) (Only.row w g _)
theorem wp_store_blk {P : Program} {ops : Array Oper} {rest : List Oper} {o : Oper} {a : Act} {w : World} {Q : Exit → Act → World → Prop} (hgd : o.guard = none) (ty : TypeId) (x y : Operand) (ho : o.op = .store ty x y)
    {g : Nat} (hx : a.eval x = .pointer (some ⟨g, 0, none⟩)) {t : TypeId} {cs cs' : List Value} (hy : a.eval y = .agg cs'.toArray) (hg : Blk w g cs t) (hone : ∀ v ∈ cs', v.oneCell' = true) (hl : cs'.length = cs.length)
    {n : Nat} (hi : (P.info? ty).map (·.size) = some n) (hn : cs'.length = n)
    (h : ∀ w', Blk w' g cs' t → Only g w w' → wpList P ops Q rest (a.put o.dst undef) w') : wpList P ops Q (o :: rest) a w :=
  wpList_plain hgd fun _ hK => upon_store_blk ty x y ho hx hy hg hone hl hi hn fun w' h1 h2 => hK _ _ (h w' h1 h2)
/-- The result is what a block holds. -/
theorem ret_blk {P : Program} {fn : Func} {R : Ending → World → Prop} {a : Act} {w : World} {p : Tmp} {ty : TypeId} (h : fn.results = #[.cell p ty]) {g : Nat} {t : TypeId} {cs : List Value} {d : TypeDesc}
    (hp : a.tmps.getD p undef = .pointer (some ⟨g, 0, none⟩)) (hg : Blk w g cs t) (hu : P.underlying ty = some d) (hd : (match d with | .struct _ | .array _ _ => true | _ => false) = true) {n : Nat} (hi : (P.info? ty).map (·.size) = some n)
    (hn : cs.length = n) (hdf : a.defers = []) (hR : R (.returned (.agg cs.toArray)) w) : bodyPost P fn R .ret a w :=
  bodyPost_ret (results_cell_row h a.tmps w g t cs.toArray (0, 0) d hp hg hu hd (by rw [hi]; simp [hn])) hdf hR

/-! ### A slice of one-cell values that reads as a list -/
def Rd (w : World) (v : Value) (xs : List Value) : Prop :=
  ∃ A c, v = .slice A xs.length c ∧ xs.length ≤ c ∧ c ≤ maxLen ∧ (A = none → c = 0) ∧ (xs = [] ∨ ∃ b o, A = some ⟨b, o, none⟩ ∧ ∀ j (h : j < xs.length), w.cell? ⟨b, o + j, none⟩ = some xs[j])
section
variable {w w' : World} {v : Value} {xs : List Value}
theorem Rd.stay {B : Nat} (h : Rd w v xs) (hb : Below B w w') (hB : w.heap.size ≤ B) : Rd w' v xs := by
  obtain ⟨A, c, rfl, h1, h2, h0, h3⟩ := h
  refine ⟨A, c, rfl, h1, h2, h0, ?_⟩
  rcases h3 with h3 | ⟨b, o, rfl, h3⟩
  · exact .inl h3
  · refine .inr ⟨b, o, rfl, fun j hj => ?_⟩
    have h4 := h3 j hj
    have hlt := World.block_lt_of_cell? w _ h4
    rw [hb.cell (p := ⟨b, o + j, none⟩) (by exact Nat.lt_of_lt_of_le hlt hB)]
    exact h4
theorem Rd.nil (w : World) : Rd w (.slice none 0 0) [] := ⟨none, 0, rfl, Nat.le_refl _, Nat.zero_le _, fun _ => rfl, .inl rfl⟩
theorem Rd.len (h : Rd w v xs) : xs.length ≤ 9223372036854775807 := by
  obtain ⟨A, c, rfl, h1, h2, _⟩ := h
  unfold maxLen at h2; omega
theorem Rd.of_own {base n : Nat} {e : TypeId} (h : w.ownsRow base e 1 v n xs) : Rd w v xs := by
  have hl := h.1
  rcases h.2 with ⟨rfl, rfl⟩ | ⟨g, cap, cur, rfl, _, hg, hn, hc, hs, ht⟩
  · obtain rfl : xs = [] := List.eq_nil_of_length_eq_zero (by omega)
    exact Rd.nil w
  · rw [Nat.mul_one] at hl ht hs
    refine ⟨some ⟨g, 0, none⟩, cap, by rw [hl], by omega, hc, (fun h => by cases h), .inr ⟨g, 0, rfl, fun j hj => ?_⟩⟩
    subst ht
    rw [Nat.zero_add]
    simp [World.cell?, hg]
theorem Rd.of_blk {b : Nat} {cs : List Value} {t : TypeId} (h : Blk w b cs t) (hm : cs.length ≤ 9223372036854775807) : Rd w (.slice (some ⟨b, 0, none⟩) cs.length cs.length) cs :=
  ⟨_, _, rfl, Nat.le_refl _, by unfold maxLen; omega, (fun h => by cases h), .inr ⟨b, 0, rfl, fun j hj => by rw [Nat.zero_add]; exact h.cell j hj⟩⟩
end

theorem Rd.one (w : World) (v : Value) (e : TypeId) : Rd (w.alloc (.cells #[v] e)) (.slice (some ⟨w.heap.size, 0, none⟩) 1 1) [v] := Rd.of_blk (Blk.new w [v] e) (by simp)

theorem Rd.addr {w : World} {A : Option Addr} {n c : Nat} {xs : List Value} (hr : Rd w (.slice A n c) xs) : n = xs.length ∧ ((A = none ∧ xs = []) ∨ ∃ a, A = some a ∧ ∀ j v, xs[j]? = some v → w.cell? (a.add j) = some v) := by
  obtain ⟨A', c', hv, h1, _, h0, h⟩ := hr
  cases hv
  refine ⟨rfl, ?_⟩
  cases A with
  | none =>
    have := h0 rfl
    exact .inl ⟨rfl, List.eq_nil_of_length_eq_zero (by omega)⟩
  | some a =>
    refine .inr ⟨a, rfl, fun j v hj => ?_⟩
    rcases h with rfl | ⟨b, o, ha, h⟩
    · simp at hj
    · obtain rfl : a = ⟨b, o, none⟩ := by simpa using ha
      obtain ⟨hlt, rfl⟩ := List.getElem?_eq_some_iff.1 hj
      rw [← h j hlt]
      congr 1
      unfold Addr.add; split <;> simp_all

/-- append onto a row of the call's own, whatever is appended. -/
theorem wp_app {P : Program} {ops : Array Oper} {rest : List Oper} {o : Oper} {a : Act} {Q : Exit → Act → World → Prop} {w : World} (s x : Operand) (t : TypeId) (hgd : o.guard = none)
    (ho : o.op = .call { callee := .builtin .append, args := #[s, x], argTypes := #[t, t] }) (e : TypeId) (z : Value) (bytes : Nat) (ht : P.underlying t = some (.slice e))
    (hinfo : (P.info? e).map (fun i => (i.zero, i.size, i.bytes)) = some (some z, 1, bytes)) (hzs : z.cells.size = 1) (base : Nat) {v u : Value} {n : Nat} {xs ys : List Value} (hs : a.eval s = v) (hown : w.ownsRow base e 1 v n xs)
    (hx : a.eval x = u) (hr : Rd w u ys) (h1 : ∀ y ∈ ys, y.oneCell' = true) (hb1 : 1 ≤ bytes) (hbytes : (n + ys.length) * bytes ≤ 140737488355328) (hbase : base ≤ w.heap.size)
    (h : ∀ v' w', w'.ownsRow base e 1 v' (n + ys.length) (xs ++ ys) → w.grownBy w' v.ownBlock → Below base w w' → wpList P ops Q rest (a.put o.dst v') w') : wpList P ops Q (o :: rest) a w := by
  obtain ⟨i, hi, hz0, hz1, hz2⟩ := info_parts hinfo
  have h63 : n + ys.length ≤ maxLen := by
    have h2 : n + ys.length ≤ (n + ys.length) * bytes := Nat.le_mul_of_pos_right _ hb1
    unfold maxLen; omega
  obtain ⟨A, c, rfl, hc1, hc2, h0, h3⟩ := hr
  cases A with
  | none =>
    obtain rfl : c = 0 := h0 rfl
    obtain rfl : ys = [] := List.eq_nil_of_length_eq_zero (by omega)
    refine wpList_append_own_none hgd s x t ho base e i 1 ht hi v n xs hs hown hx (h v w (by simpa using hown) ⟨rfl, rfl, rfl, Nat.le_refl _, fun _ _ _ => rfl⟩ (Below.refl _ _))
  | some ad =>
    refine wpList_append_own w hgd s x t ho base e i z 1 bytes ht hi hz0 hz1 hz2 hzs (by decide) v n xs hs hown ad ys.length c ys hx (by simp) ?_ h1 h63 hbytes hbase (fun v' w' h4 h5 _ => h v' w' h4 h5 ((Below.refl base w).grown h5 hbase (fun k hk => (hown.lt k hk).1)))
    intro j y hj
    rcases h3 with rfl | ⟨b, o', hA, h3⟩
    · simp at hj
    · obtain rfl : ad = ⟨b, o', none⟩ := by simpa using hA
      obtain ⟨hlt, rfl⟩ := List.getElem?_eq_some_iff.1 hj
      rw [← h3 j hlt]
      congr 1
      unfold Addr.add; split <;> simp_all

/-! ### Arrays of integers that are compared -/
theorem run_part_int {P : Program} {w : World} {e : TypeId} {k : IntKind} (he : P.underlying e = some (.int k)) (cs : Array Value) (off : Nat) (v : Value) (h : cs[off]? = some v) : (part e cs off).run P w = .ok v w := by
  simp [part, isAgg, run_underlying he, h]

theorem run_eq_ints {P : Program} {w : World} (d : Nat) (t e : TypeId) (n : Nat) (k : IntKind) (xs ys : List Int) (hx : xs.length = n) (hy : ys.length = n) (ht : P.underlying t = some (.array n e)) (he : P.underlying e = some (.int k)) (i : TypeInfo) (hi : P.info? e = some i) (hz : i.size = 1) :
    (Op.equalIn (d + 2) t (.agg (xs.map (Value.int k)).toArray) (.agg (ys.map (Value.int k)).toArray)).run P w = .ok (xs == ys) w := by
  obtain ⟨D, hD⟩ : ∃ D, D = d + 1 := ⟨_, rfl⟩
  rw [show d + 2 = D + 1 from by omega]
  simp only [Op.equalIn, Sem.run_bind, run_underlying ht, Result.andThen_ok]
  simp only [sizeOf, typeInfo, Sem.run_bind, run_program, Result.andThen_ok, hi, Sem.run_pure, hz, Nat.mul_one]
  rw [Std.Legacy.Range.forIn_eq_forIn_range']
  simp only [Std.Legacy.Range.size, Nat.sub_zero, Nat.add_sub_cancel, Nat.div_one]
  have key : ∀ (m s : Nat), s + m = n → ∀ (w : World),
      (forIn (m := Sem) (List.range' s m 1) ((none : Option Bool), ()) fun i __s => do
            let a ← part e (xs.map (Value.int k)).toArray i
            let b ← part e (ys.map (Value.int k)).toArray i
            let r ← Op.equalIn D e a b
            if (!r) = true then pure (ForInStep.done (some false, ())) else pure (ForInStep.yield (none, ()))).run P w =
        .ok (if xs.drop s == ys.drop s then (none, ()) else (some false, ())) w := by
    intro m
    induction m with
    | zero =>
      intro s hs w
      rw [List.drop_of_length_le (by omega), List.drop_of_length_le (by omega)]
      simp
    | succ m ih =>
      intro s hs w
      have h1 : s < xs.length := by omega
      have h2 : s < ys.length := by omega
      simp only [List.range'_succ, List.forIn_cons, Sem.run_bind]
      rw [run_part_int he _ s (.int k xs[s]) (by simp [h1]), Result.andThen_ok, run_part_int he _ s (.int k ys[s]) (by simp [h2]), Result.andThen_ok, hD, run_equalIn_int w d e k k _ _ he, Result.andThen_ok]
      have hbeq : (xs.drop s == ys.drop s) = ((xs[s] == ys[s]) && (xs.drop (s + 1) == ys.drop (s + 1))) := by
        rw [List.drop_eq_getElem_cons h1, List.drop_eq_getElem_cons h2, List.cons_beq_cons]
      rw [hbeq]
      by_cases hxy : xs[s] = ys[s]
      · simp only [hxy, beq_self_eq_true, Bool.not_true, Bool.false_eq_true, if_false, Sem.run_pure, Result.andThen_ok]
        rw [← hD, ih (s + 1) (by omega) w, Bool.true_and]
      · have hb : (xs[s] == ys[s]) = false := by simpa using hxy
        simp only [hb, Bool.not_false, if_true, Sem.run_pure, Result.andThen_ok, Bool.false_and, Bool.false_eq_true, if_false]
  rw [key n 0 (by omega) w]
  simp only [Result.andThen_ok, List.drop_zero]
  by_cases h : xs = ys
  · simp [h]
  · simp [h]

/-! ### The closing of a law's row: it answers true, and nothing that was there has turned -/
theorem trodAll_stays {H : Type} {enc : TypeId × Value → H} {P : Program} (hl : laidOutB P = true) {W W' : World} (hb : Below W.heap.size W W') :
    ∀ (ts : List TypeId) (vs : List Value) (ds : List (DataW H)) (ps : List MemPlace), (ts.all fun t => P.readableRec t && decide (t < P.types.size)) = true →
      DataW.TrodAll enc P W 0 (fun _ => true) true ts vs ds ps → (∀ x ∈ ps, x.block < W.heap.size) →
      DataW.TrodAll enc P W' 0 (fun b => decide (b < W.heap.size)) true ts vs ds ps := by
  intro ts
  induction ts with
  | nil =>
    intro vs ds ps _ h _
    cases vs <;> cases ds <;> simp_all [DataW.TrodAll]
  | cons t ts ih =>
    intro vs ds ps hr h hlt
    cases vs with
    | nil => cases ds <;> simp [DataW.TrodAll] at h
    | cons v vs =>
      cases ds with
      | nil => simp [DataW.TrodAll] at h
      | cons d ds =>
        simp only [List.all_cons, Bool.and_eq_true, decide_eq_true_eq] at hr
        obtain ⟨p, q, h1, h2, rfl⟩ := h
        refine ⟨p, q, Below.trod hl hr.1.1 hr.1.2 h1 hb (fun x hx => hlt x (List.mem_append_left _ hx)), ih vs ds q (by simpa using hr.2) h2 (fun x hx => hlt x (List.mem_append_right _ hx)), rfl⟩

theorem law_post {H : Type} {enc : TypeId × Value → H} {P : Program} {f : Func} {s : ChangeSpec} {W W' : World} {args : Array Value} {ds : List (DataW H)} {before : List MemPlace} {tb : TypeId}
    (hl : laidOutB P = true) (hr : (f.params.toList.all fun t => P.readableRec t && decide (t < P.types.size)) = true) (hrt : f.resultTypes = #[tb]) (htb : P.underlying tb = some .bool)
    (hv : s.vars = []) (hs : (s.fn H (ds ++ [])).results = [.lit (.bool true)]) (ha : (s.fn H (ds ++ [])).args = ds) (hsv : (s.fn H (ds ++ [])).vars = [])
    (hW : DataW.Whole enc P f.params.toList s.vars false W args.toList ds [] before) (hb : Below W.heap.size W W') : s.post enc P f false true false false W args (.bool true) W' := by
  have hW' := hW
  obtain ⟨p, q, hA, hV, rfl, _, _⟩ := hW
  rw [hv] at hV
  obtain rfl : q = [] := by simpa [DataW.TrodVars] using hV
  have hlt : ∀ x ∈ p, x.block < W.heap.size := fun x hx => hA.lt x hx
  refine ⟨ds, [], p ++ [], [], p, [], hW', ?_, ?_, ?_, hb.frame _, fun h => by cases h⟩
  · rw [hs, hrt]; exact trodAll_mk1 (shut_bool htb true)
  · rw [ha]; exact trodAll_stays hl hb _ _ _ _ hr hA hlt
  · rw [hv, hsv]; rfl

/-! ### Arguments that are rows of integers -/
theorem trod_arr_ints {H : Type} {enc : TypeId × Value → H} {P : Program} {w : World} {base : Nat} {spare : Nat → Bool} {held : Bool} {fuel : Nat} {t e : TypeId} {n : Nat} {k : IntKind} {cs : List Value} {x : DataW H × List MemPlace}
    (ht : P.underlying t = some (.array n e)) (he : P.underlying e = some (.int k)) (hc : P.cellsOf e = 1) (hct : P.cellsOf t = n)
    (h : DataW.trod enc P w base spare held fuel t cs = some x) : ∃ zs : List Int, zs.length = n ∧ cs = zs.map (Value.int k) ∧ ∀ z ∈ zs, (Lit.int k z).wf = true := by
  obtain ⟨xs, m, _, _, hlen, hxl, hx⟩ := DataW.trod_array ht h
  rw [hct] at hlen
  rw [hc] at hx
  have hcell : ∀ i (hi : i < cs.length), ∃ z, cs[i] = .int k z ∧ (Lit.int k z).wf = true := by
    intro i hi
    have h1 := hx i (by omega)
    rw [Nat.mul_one, List.drop_eq_getElem_cons hi, List.getElem?_eq_getElem (by omega)] at h1
    obtain ⟨z, hz, _, hw⟩ := DataW.trod_int he h1
    simp only [List.take_succ_cons, List.take_zero, List.cons.injEq, and_true] at hz
    exact ⟨z, hz, hw⟩
  refine ⟨cs.map intOf, by simpa using hlen, ?_, ?_⟩
  · apply List.ext_getElem (by simp)
    intro i h1 h2
    obtain ⟨z, hz, _⟩ := hcell i h1
    simp [hz, intOf]
  · intro z hz
    obtain ⟨v, hv, rfl⟩ := List.mem_map.1 hz
    obtain ⟨i, hi, rfl⟩ := List.mem_iff_getElem.1 hv
    obtain ⟨z, hz', hw⟩ := hcell i hi
    rw [hz']; exact hw

theorem Tryd.own : ownKnob Tryd.prog.godebug = none := by kernel_rfl
theorem Tryd.laidOut : laidOutB Tryd.prog = true := by kernel_rfl

theorem laid_none (P : Program) (w : World) : laidMetH P [] w := ⟨[], rfl, List.nodup_nil, fun _ _ h => by cases h⟩

/-- What a law's walk gives: true, and nothing that was there has turned. -/
def Holds (e : Ending) (w w' : World) : Prop := e = .returned (.bool true) ∧ Below w.heap.size w w'
end Go.Proofs.YtmjjnaaiakchhaaDoor
end

section
/-
  Bytes as values; bytes.Clone, bytes.Equal.
-/
namespace Go.Proofs.YtmjjnaaiakchhaaDoor
open Go.RowKit

/-- Bytes as values. -/
def bs (xs : List Int) : List Value := xs.map (Value.int .u8)
def IsB (xs : List Int) : Prop := ∀ x ∈ xs, 0 ≤ x ∧ x ≤ 255
theorem bs_len (xs : List Int) : (bs xs).length = xs.length := by simp [bs]

theorem IsB.at_ {xs : List Int} (h : IsB xs) (i : Nat) : 0 ≤ xs.getD i 0 ∧ xs.getD i 0 ≤ 255 := by
  rw [List.getD_eq_getElem?_getD]
  rcases Nat.lt_or_ge i xs.length with hi | hi
  · rw [List.getElem?_eq_getElem hi]; exact h _ (List.getElem_mem hi)
  · rw [List.getElem?_eq_none hi]; simp

theorem info5 : (Tryd.prog.info? 5).map (fun i => (i.zero, i.size, i.bytes)) = some (some (.int .u8 0), 1, 1) := by kernel_rfl

/-- The answer is a new row of bytes, and nothing that was there has turned. -/
def NewB (xs : List Int) (w : World) (e : Ending) (w' : World) : Prop :=
  ∃ v, e = .returned v ∧ Below w.heap.size w w' ∧ w'.ownsRow w.heap.size 5 1 v xs.length (bs xs)

theorem bs_one (xs : List Int) : ∀ y ∈ bs xs, y.oneCell' = true := by
  intro y hy
  obtain ⟨x, _, rfl⟩ := List.mem_map.1 hy
  rfl
theorem bs_append (xs ys : List Int) : bs (xs ++ ys) = bs xs ++ bs ys := by simp [bs]

set_option maxHeartbeats 400000 in
theorem clone_any (v : Value) (xs : List Int) (w : World) (hr : Rd w v (bs xs)) (hl : xs.length ≤ 140737488355328) :
    Calls Tryd.prog 24 #[v] w fun e w' => NewB xs w e w' := by
  have hr0 := Lib.hid hr
  obtain ⟨A, c, rfl, hc1, hc2, h0, hcell⟩ := hr
  have hown := World.ownsRow_made (e := 5) (size := 1) w #[] 0 (Nat.le_refl _) (Nat.zero_le _) (by simp)
  have hn := fun A n c => Lib.run_eql_slice_nil (P := Tryd.prog) w 30 5 A n c 0 0 Tryd.underlying30
  cases A with
  | none =>
    obtain rfl : c = 0 := h0 rfl
    obtain rfl : xs = [] := List.eq_nil_of_length_eq_zero (by rw [bs_len] at hc1; omega)
    go_enter Tryd.func24, Tryd.ntmps24
    go_wp2
    go_ret
    exact ⟨_, rfl, Below.refl _ _, World.ownsRow_nil _ _ _ _⟩
  | some a =>
    clear h0 hcell
    go_enter Tryd.func24, Tryd.ntmps24
    go_wp2_with (at_builtin; go_loud (refine wp_app (.tmp 5) (.tmp 6) 30 rfl rfl 5 (.int .u8 0) 1 Tryd.underlying30 info5 rfl w.heap.size rfl hown rfl (hr0.out.stay ((Below.refl _ _).alloc (Nat.le_refl _) _) (Nat.le_refl _)) (bs_one _) (by decide) (by rw [bs_len]; omega) (by simp) ?_; intro v' w1 hown1 _ hb1))
    go_ret
    exact ⟨_, rfl, ((Below.refl _ _).alloc (Nat.le_refl _) _).trans hb1, by simpa [bs_len] using hown1⟩

/-- Are two lists of bytes one? -/
def eqB (xs ys : List Int) : Bool := xs == ys
def strOf (xs : List Int) : ByteArray := xs.foldl (fun r n => r.push (UInt8.ofNat n.toNat)) ByteArray.empty
theorem strOf_from (xs : List Int) (s : ByteArray) : (xs.foldl (fun r n => r.push (UInt8.ofNat n.toNat)) s).data.toList = s.data.toList ++ xs.map fun n => UInt8.ofNat n.toNat := by
  induction xs generalizing s with
  | nil => simp
  | cons x xs ih => rw [List.foldl_cons, ih]; simp [ByteArray.push]
theorem strOf_toList (xs : List Int) : (strOf xs).toList = xs.map fun n => UInt8.ofNat n.toNat := by
  rw [ByteArray.toList_eq, strOf, strOf_from]; simp
theorem u8_inj {x y : Int} (hx : 0 ≤ x ∧ x ≤ 255) (hy : 0 ≤ y ∧ y ≤ 255) (h : UInt8.ofNat x.toNat = UInt8.ofNat y.toNat) : x = y := by
  have h1 := congrArg UInt8.toNat h
  simp at h1
  omega
theorem map_u8_inj : ∀ {xs ys : List Int}, IsB xs → IsB ys → (xs.map fun n => UInt8.ofNat n.toNat) = (ys.map fun n => UInt8.ofNat n.toNat) → xs = ys
  | [], [], _, _, _ => rfl
  | [], y :: ys, _, _, h => by simp at h
  | x :: xs, [], _, _, h => by simp at h
  | x :: xs, y :: ys, hx, hy, h => by
    simp only [List.map_cons, List.cons.injEq] at h
    rw [u8_inj (hx x (by simp)) (hy y (by simp)) h.1, map_u8_inj (fun z hz => hx z (by simp [hz])) (fun z hz => hy z (by simp [hz])) h.2]
theorem strOf_eq {xs ys : List Int} (hx : IsB xs) (hy : IsB ys) : ((strOf xs).toList == (strOf ys).toList) = eqB xs ys := by
  rw [strOf_toList, strOf_toList, eqB, Bool.eq_iff_iff, beq_iff_eq, beq_iff_eq]
  exact ⟨map_u8_inj hx hy, fun h => by rw [h]⟩
theorem run_conv (w : World) (A : Option Addr) (n c : Nat) (xs : List Int) (hr : Rd w (.slice A n c) (bs xs)) :
    (convert 30 9 (.slice A n c)).run Tryd.prog w = .ok (.string (strOf xs)) w := by
  rw [run_convert_bytes_string w _ _ _ A n c Tryd.underlying30 Tryd.underlying5 Tryd.underlying9]
  obtain ⟨rfl, ⟨rfl, h⟩ | ⟨a, rfl, h⟩⟩ := hr.addr
  · obtain rfl : xs = [] := by simpa [bs] using h
    rfl
  · exact run_bytesToString w a _ c xs (by have := run_loadCells_list (P := Tryd.prog) w a (bs xs) h; exact this)

set_option maxHeartbeats 400000 in
theorem equal_any (u v : Value) (xs ys : List Int) (w : World) (hu : Rd w u (bs xs)) (hv : Rd w v (bs ys)) (hx : IsB xs) (hy : IsB ys) :
    Calls Tryd.prog 16 #[u, v] w fun e w' => e = .returned (.bool (eqB xs ys)) ∧ w = w' := by
  have hu0 := hu
  have hv0 := hv
  obtain ⟨A, c, rfl, _⟩ := hu
  obtain ⟨A', c', rfl, _⟩ := hv
  have h1 := run_conv w _ _ _ xs hu0
  have h2 := run_conv w _ _ _ ys hv0
  have h3 := strOf_eq hx hy
  clear hu0 hv0 hx hy
  go_enter Tryd.func16, Tryd.ntmps16
  go_wp2_with fail
  go_ret
  exact ⟨rfl, rfl⟩
end Go.Proofs.YtmjjnaaiakchhaaDoor
end

section
/-
  Contracts of package pack's functions that lay and take numbers.
-/
namespace Go.Proofs.YtmjjnaaiakchhaaDoor
open Go.RowKit

/-- The number of n bytes from a place on, the lowest first; what is not there counts 0. -/
def leN (xs : List Int) (a : Nat) : Nat → Int
  | 0 => 0
  | i + 1 => leN xs a i + xs.getD (a + i) 0 * 256 ^ i

theorem leN_range {xs : List Int} (h : IsB xs) (a : Nat) (n : Nat) : 0 ≤ leN xs a n ∧ leN xs a n < 256 ^ n := by
  induction n with
  | zero => simp [leN]
  | succ n ih =>
    have hb := h.at_ (a + n)
    have hp : (0 : Int) < 256 ^ n := Int.pow_pos (by decide)
    simp only [leN]
    have h1 : xs.getD (a + n) 0 * 256 ^ n ≤ 255 * 256 ^ n := Int.mul_le_mul_of_nonneg_right hb.2 (by omega)
    have h2 : 0 ≤ xs.getD (a + n) 0 * 256 ^ n := Int.mul_nonneg hb.1 (by omega)
    have h3 : (256 : Int) ^ (n + 1) = 256 * 256 ^ n := by rw [Int.pow_succ, Int.mul_comm]
    omega

theorem or_low (x z : Int) (k : Nat) (hk : k ≤ 7) (hx : 0 ≤ x ∧ x < 256 ^ k) (hz : 0 ≤ z ∧ z ≤ 255) :
    bits .or .u64 x (IntKind.u64.wrap (z * 2 ^ (8 * k))) = x + z * 256 ^ k := by
  obtain ⟨X, rfl⟩ := Int.eq_ofNat_of_zero_le hx.1
  obtain ⟨Z, rfl⟩ := Int.eq_ofNat_of_zero_le hz.1
  have e : (256 : Nat) ^ k = 2 ^ (8 * k) := (Nat.pow_mul 2 8 k).symm
  have hX : X < 2 ^ (8 * k) := by rw [← e]; have h := hx.2; exact Int.ofNat_lt.1 (by rw [Int.natCast_pow]; exact h)
  have hp : 2 ^ (8 * k) ≤ 2 ^ 56 := Nat.pow_le_pow_right (by decide) (by omega)
  have hZ : Z ≤ 255 := by omega
  have hY : Z * 2 ^ (8 * k) ≤ 255 * 2 ^ 56 := Nat.mul_le_mul hZ hp
  have h1 : IntKind.u64.wrap ((Z : Int) * 2 ^ (8 * k)) = ((Z * 2 ^ (8 * k) : Nat) : Int) := by
    rw [IntKind.wrap_u64]
    have e2 : (Z : Int) * 2 ^ (8 * k) = ((Z * 2 ^ (8 * k) : Nat) : Int) := by rw [Int.natCast_mul, Int.natCast_pow]; rfl
    rw [e2]; omega
  rw [h1, u64_or_nat X (Z * 2 ^ (8 * k)) (by omega) (by omega), Nat.or_comm, nat_join (8 * k) _ X (Nat.mul_mod_left _ _) hX, ← e]
  rw [Int.natCast_add, Int.natCast_mul, Int.natCast_pow, Int.add_comm]; rfl

set_option maxHeartbeats 400000 in
theorem take_any (v : Value) (xs : List Int) (at_ n : Int) (w : World) (hr : Rd w v (bs xs)) (hx : IsB xs) (h0 : 0 ≤ at_) (h1 : at_ ≤ 4294967296) (hn0 : 0 ≤ n) (hn : n ≤ 8) :
    Calls Tryd.prog 65 #[v, .int .i64 at_, .int .i64 n] w fun e w' => e = .returned (.int .u64 (leN xs at_.toNat n.toNat)) ∧ w = w' := by
  obtain ⟨A, c, rfl, hc1, hc2, _, hcell⟩ := hr
  obtain ⟨a, rfl⟩ := Int.eq_ofNat_of_zero_le h0
  obtain ⟨n, rfl⟩ := Int.eq_ofNat_of_zero_le hn0
  rw [bs_len] at *
  unfold maxLen at hc2
  simp only [Int.toNat_natCast]
  go_enter Tryd.func65, Tryd.ntmps65
  go_wp2
  go_loop [7, 10] (fun x i => ∃ k : Nat, k ≤ n ∧ i = .int .i64 k ∧ x = .int .u64 (leN xs a k)) (fun _ i => n - (intOf i).toNat)
  case atStart => exact ⟨0, Nat.zero_le _, rfl, rfl⟩
  case round =>
    obtain ⟨k, hk, rfl, rfl⟩ := hrel
    by_cases hlt : k < n
    · by_cases hin : a + k < xs.length
      · rcases hcell with h | ⟨b, o, rfl, hcell⟩
        · simp [bs] at h; subst h; simp at hin
        have hc : w.cell? ⟨b, o + (a + k), none⟩ = some (.int .u8 (xs.getD (a + k) 0)) := by
          rw [hcell (a + k) (by rw [bs_len]; exact hin)]; simp [bs, List.getD_eq_getElem?_getD, hin]
        clear hcell
        have hby := hx.at_ (a + k)
        generalize hz : xs.getD (a + k) 0 = z at *
        have HZ := Lib.hid hz
        clear hz
        have hor := or_low (leN xs a k) z k (by omega) (leN_range hx a k) hby
        go_wp2
        go_round
        case rel => exact ⟨k + 1, by omega, by go_num, by rw [leN, HZ.out]⟩
        case measure => simp [intOf]; omega
      · have hz : leN xs a (k + 1) = leN xs a k := by
          rw [leN, List.getD_eq_getElem?_getD, List.getElem?_eq_none (by omega)]; simp
        have HZ := Lib.hid hz
        clear hz
        go_wp2
        go_round
        case rel => exact ⟨k + 1, by omega, by go_num, by rw [HZ.out]⟩
        case measure => simp [intOf]; omega
    · obtain rfl : k = n := by omega
      go_wp2
      go_ret
      exact ⟨rfl, rfl⟩

set_option maxHeartbeats 400000 in
theorem le64_any (v : Value) (xs : List Int) (at_ : Int) (w : World) (hr : Rd w v (bs xs)) (hx : IsB xs) (h0 : 0 ≤ at_) (h1 : at_ ≤ 4294967296) :
    Calls Tryd.prog 52 #[v, .int .i64 at_] w fun e w' => e = .returned (.int .u64 (leN xs at_.toNat 8)) ∧ w = w' := by
  go_enter Tryd.func52, Tryd.ntmps52
  go_wp2_with (go_at_call 65; refine (take_any _ xs _ _ _ hr hx h0 h1 (by omega) (by omega)).mono ?_; rintro e w' ⟨rfl, rfl⟩)
  go_ret
  exact ⟨rfl, rfl⟩

/-- A number's n bytes, the lowest first. -/
def lowN (x : Int) : Nat → List Int
  | 0 => []
  | n + 1 => lowN x n ++ [x / 2 ^ (8 * n) % 256]
theorem lowN_len (x : Int) (n : Nat) : (lowN x n).length = n := by induction n with | zero => rfl | succ n ih => simp [lowN, ih]
theorem lowN_isB (x : Int) (n : Nat) : IsB (lowN x n) := by
  induction n with
  | zero => intro y hy; simp [lowN] at hy
  | succ n ih =>
    intro y hy
    rw [lowN, List.mem_append] at hy
    rcases hy with hy | hy
    · exact ih y hy
    · obtain rfl : y = _ := by simpa using hy
      omega

set_option maxHeartbeats 1000000 in
theorem lowu64_any (v : Value) (xs : List Int) (x n : Int) (w : World) (hr : Rd w v (bs xs)) (hl : xs.length ≤ 70368744177664) (_hx0 : 0 ≤ x) (h0 : 0 ≤ n) (hn : n ≤ 8) :
    Calls Tryd.prog 55 #[v, .int .u64 x, .int .i64 n] w fun e w' => NewB (xs ++ lowN x n.toNat) w e w' := by
  have hr0 := Lib.hid hr
  obtain ⟨A, c, rfl, _⟩ := hr
  obtain ⟨n, rfl⟩ := Int.eq_ofNat_of_zero_le h0
  simp only [Int.toNat_natCast]
  rw [bs_len] at hr0 ⊢
  go_enter Tryd.func55, Tryd.ntmps55
  go_wp2_with (at_builtin; refine wp_app _ _ 30 rfl rfl 5 (.int .u8 0) 1 Tryd.underlying30 info5 rfl w.heap.size rfl (World.ownsRow_nil _ _ _ _) rfl hr0.out (bs_one _) (by decide) (by rw [bs_len]; omega) (Nat.le_refl _) ?_; intro v' w1 hown1 _ hb1)
  simp only [Nat.zero_add, List.nil_append, bs_len] at hown1
  go_loopw [7, 12] (fun v i wr => ∃ k : Nat, k ≤ n ∧ i = .int .i64 k ∧ wr.ownsRow w.heap.size 5 1 v (xs.length + k) (bs (xs ++ lowN x k)) ∧ Below w.heap.size w wr) (fun _ i _ => n - (intOf i).toNat)
  case atStart => exact ⟨0, Nat.zero_le _, rfl, by simpa [lowN] using hown1, hb1⟩
  case round =>
    obtain ⟨k, hk, rfl, hown, hb⟩ := hrel
    by_cases hlt : k < n
    · have hsz := hb.size
      go_wp2_with (at_builtin; refine wp_app _ _ 30 rfl rfl 5 (.int .u8 0) 1 Tryd.underlying30 info5 rfl w.heap.size rfl (hown.alloc _) rfl (Rd.one _ _ _) (by intro y hy; simp at hy; subst hy; rfl) (by decide) (by simp; omega) (by simp; omega) ?_; intro v2 w2 hown2 _ hb2)
      go_roundw
      case rel => exact ⟨k + 1, by omega, by go_num, by simpa [lowN, bs, Nat.add_assoc] using hown2, (hb.alloc hsz _).trans hb2⟩
      case measure => simp [intOf]; omega
    · obtain rfl : k = n := by omega
      go_wp2
      go_ret
      exact ⟨_, rfl, hb, by rw [List.length_append, lowN_len]; exact hown⟩

set_option maxHeartbeats 400000 in
theorem putLe64_any (v : Value) (xs : List Int) (x : Int) (w : World) (hr : Rd w v (bs xs)) (hl : xs.length ≤ 70368744177664) (hx0 : 0 ≤ x) :
    Calls Tryd.prog 43 #[v, .int .u64 x] w fun e w' => NewB (xs ++ lowN x (64 / 8)) w e w' := by
  go_enter Tryd.func43, Tryd.ntmps43
  go_wp2_with (go_at_call 55; refine (lowu64_any _ xs _ _ _ hr hl hx0 (by omega) (by omega)).mono ?_; rintro e w' ⟨v', rfl, hb, ho⟩)
  go_ret
  exact ⟨_, rfl, hb, ho⟩
end Go.Proofs.YtmjjnaaiakchhaaDoor
end

section
/-
  Poly1305 in numbers. Plain Lean, no program in sight.
-/
namespace Go.Proofs.YtmjjnaaiakchhaaDoor
open Go.RowKit

/-- The number whose digits to 256 a list has, the lowest first. -/
def leV : List Int → Int
  | [] => 0
  | x :: r => x + 256 * leV r
/-- 2^130 - 5. -/
def pr : Int := 1361129467683753853853498429727072845819

theorem leV_range {xs : List Int} (h : IsB xs) : 0 ≤ leV xs ∧ leV xs < 256 ^ xs.length := by
  induction xs with
  | nil => simp [leV]
  | cons x r ih =>
    have hx := h x (by simp)
    have hr := ih fun y hy => h y (by simp [hy])
    simp only [leV, List.length_cons, Int.pow_succ]
    omega
theorem leV_append (xs ys : List Int) : leV (xs ++ ys) = leV xs + 256 ^ xs.length * leV ys := by
  induction xs with
  | nil => simp [leV]
  | cons x r ih =>
    simp only [List.cons_append, leV, ih, List.length_cons, Int.pow_succ]
    rw [Int.mul_add, Int.add_assoc, ← Int.mul_assoc, Int.mul_comm 256 (256 ^ r.length)]
theorem leV_zeros (n : Nat) : leV (List.replicate n 0) = 0 := by
  induction n with
  | zero => rfl
  | succ n ih => simp [List.replicate_succ, leV, ih]
/-- A number of n bytes, from a place on. -/
theorem leN_eq (xs : List Int) (a n : Nat) : leN xs a n = leV ((xs.drop a).take n ++ List.replicate (n - (xs.length - a)) 0) := by
  rw [leV_append, leV_zeros, Int.mul_zero, Int.add_zero]
  induction n with
  | zero => simp [leN, leV]
  | succ n ih =>
    rw [leN, ih]
    by_cases h : a + n < xs.length
    · rw [List.take_add_one, leV_append]
      have h1 : (xs.drop a)[n]? = some (xs.getD (a + n) 0) := by
        rw [List.getElem?_drop, List.getD_eq_getElem?_getD, List.getElem?_eq_getElem h]; rfl
      rw [h1, List.length_take, List.length_drop, Nat.min_eq_left (by omega)]
      simp only [Option.toList_some, leV]
      rw [Int.mul_zero, Int.add_zero, Int.mul_comm]
    · rw [List.getD_eq_getElem?_getD, List.getElem?_eq_none (by omega), List.take_of_length_le (by rw [List.length_drop]; omega), List.take_of_length_le (by rw [List.length_drop]; omega)]
      simp
theorem leV_lowN (x : Int) (n : Nat) (h : 0 ≤ x) : leV (lowN x n) = x % 256 ^ n := by
  induction n with
  | zero => simp [lowN, leV, Int.emod_one]
  | succ n ih =>
    rw [lowN, leV_append, ih, lowN_len]
    simp only [leV]
    rw [Int.mul_zero, Int.add_zero, Int.pow_succ]
    have e : (2 : Int) ^ (8 * n) = 256 ^ n := by rw [Int.pow_mul]; rfl
    obtain ⟨X, rfl⟩ := Int.eq_ofNat_of_zero_le h
    have h1 : (256 : Int) ^ n = ((256 ^ n : Nat) : Int) := by rw [Int.natCast_pow]; rfl
    rw [e, h1, show (256 : Int) = ((256 : Nat) : Int) from rfl]
    have := Nat.mod_mul (a := 256 ^ n) (b := 256) (x := X)
    generalize 256 ^ n = q at *
    have h2 : ((q : Nat) : Int) * ((256 : Nat) : Int) = ((q * 256 : Nat) : Int) := by rw [Int.natCast_mul]
    rw [h2, ← Int.natCast_emod, ← Int.natCast_emod, this, Int.natCast_add, Int.natCast_mul, ← Int.natCast_ediv]
    rfl
/-- Digits are known by their number. -/
theorem leV_inj : ∀ {xs ys : List Int}, IsB xs → IsB ys → xs.length = ys.length → leV xs = leV ys → xs = ys
  | [], [], _, _, _, _ => rfl
  | x :: xs, y :: ys, hx, hy, hl, h => by
    have h1 := hx x (by simp)
    have h2 := hy y (by simp)
    simp only [leV] at h
    obtain rfl : x = y := by omega
    have h3 := leV_inj (xs := xs) (ys := ys) (fun z hz => hx z (by simp [hz])) (fun z hz => hy z (by simp [hz])) (by simpa using hl) (by omega)
    rw [h3]

/-- What is summed behind k pieces. -/
def hK (r : Int) (xs : List Int) : Nat → Int
  | 0 => 0
  | k + 1 => (hK r xs k + leV ((xs.drop (16 * k)).take 16 ++ [1])) * r % pr
theorem hK_range (r : Int) (xs : List Int) (k : Nat) : 0 ≤ hK r xs k ∧ hK r xs k < pr := by
  cases k with
  | zero => exact ⟨Int.le_refl _, by show (0 : Int) < pr; decide⟩
  | succ k => exact ⟨Int.emod_nonneg _ (by decide), Int.emod_lt_of_pos _ (by decide)⟩
theorem hK_append (r : Int) (xs ys : List Int) (k : Nat) (h : 16 * k ≤ xs.length) : hK r (xs ++ ys) k = hK r xs k := by
  induction k with
  | zero => rfl
  | succ k ih =>
    rw [hK, hK, ih (by omega), List.drop_append_of_le_length (by omega), List.take_append_of_le_length (by rw [List.length_drop]; omega)]
theorem hK_zero (xs : List Int) (k : Nat) : hK 0 xs k = 0 := by
  cases k with
  | zero => rfl
  | succ k => rw [hK, Int.mul_zero]; rfl

/-- The bits of a key that count. -/
def clampL (key : List Int) : List Int := (List.range 16).map fun i => if i % 4 = 3 then key.getD i 0 % 16 else if 0 < i ∧ i % 4 = 0 then key.getD i 0 / 4 * 4 else key.getD i 0
/-- The sum of a text. -/
def tagL (key xs : List Int) : List Int := lowN (hK (leV (clampL key)) xs ((xs.length + 15) / 16) + leV ((key.drop 16).take 16)) 16
end Go.Proofs.YtmjjnaaiakchhaaDoor
end

section
/-
  A region whose order Go leaves open: what holds of the operations that have come up, whatever the order. Plain Lean, no program in sight.
-/
namespace Go.Proofs.YtmjjnaaiakchhaaDoor
open Go

/-- An operation that hangs on none but such as stand ahead of it in the text. -/
def lowB (ops : Array Oper) : Bool := (List.range ops.size).all fun i => match ops[i]? with
  | some o => o.after.toList.all fun e => !Region.binds .any e || decide (e.on < i)
  | none => true

/-- What holds of those that have come up, whatever the order. -/
structure Came (ops : Array Oper) (l : Nat → Bool) : Prop where
  shut : ∀ j o, ops[j]? = some o → l j = true → ∀ e ∈ o.after, Region.binds .any e = true → l e.on = true

theorem inv_any {P : Program} {ops : Array Oper} {Q : Exit → Act → World → Prop} (hlow : lowB ops = true) (Inv : (Nat → Bool) → Act → World → Prop)
    (hstep : ∀ (l : Nat → Bool) (a : Act) (w : World) (i : Nat) (o : Oper), ops[i]? = some o → l i = false → (∀ e ∈ o.after, Region.binds .any e = true → l e.on = true) → Came ops l →
      Inv l a w → wpOp P ops Q i (fun a' w' => Inv (fun j => l j || j == i) a' w') a w)
    (hend : ∀ (l : Nat → Bool) (a : Act) (w : World), (∀ i, i < ops.size → l i = true) → Inv l a w → Q .normal a w) :
    ∀ (fuel : Nat) (listed : Array Bool) (a : Act) (w : World), listed.size = ops.size → Came ops (fun j => listed.getD j false) →
      ((List.range ops.size).filter fun i => !listed.getD i false).length ≤ fuel → Inv (fun j => listed.getD j false) a w → wpAny P .any ops Q fuel listed a w := by
  have hready : ∀ listed : Array Bool, listed.size = ops.size → Region.ready .any ops listed = [] → ∀ i, i < ops.size → listed.getD i false = true := by
    intro listed hsz hr i
    induction i using Nat.strongRecOn with
    | ind i ih =>
      intro hi
      cases hl : listed.getD i false with
      | true => rfl
      | false =>
        exfalso
        have hmem : i ∈ Region.ready .any ops listed := by
          refine mem_ready.2 ⟨?_, ops[i], Array.getElem?_eq_getElem hi, ?_⟩
          · simp only [Array.getD_eq_getD_getElem?] at hl ⊢
            rw [Array.getElem?_eq_getElem (by omega)] at hl ⊢
            simpa using hl
          · intro e he hb
            have h1 := List.all_eq_true.1 hlow i (List.mem_range.2 hi)
            rw [Array.getElem?_eq_getElem hi] at h1
            have h2 := List.all_eq_true.1 h1 e (by simpa using he)
            rw [hb] at h2
            have h3 : e.on < i := by simpa using h2
            exact ih e.on h3 (by omega)
        rw [hr] at hmem
        cases hmem
  intro fuel
  induction fuel with
  | zero =>
    intro listed a w hsz hc hf hi
    have hall : ∀ i, i < ops.size → listed.getD i false = true := by
      intro i hi'
      cases hl : listed.getD i false with
      | true => rfl
      | false =>
        exfalso
        have : i ∈ (List.range ops.size).filter fun i => !listed.getD i false := by simp only [List.mem_filter, List.mem_range]; exact ⟨hi', by rw [hl]; rfl⟩
        have := List.length_pos_of_mem this
        omega
    refine ⟨?_, hend _ a w hall hi⟩
    cases hr : Region.ready .any ops listed with
    | nil => rfl
    | cons x xs =>
      have hx : x ∈ Region.ready .any ops listed := by rw [hr]; simp
      obtain ⟨h1, o, ho, _⟩ := mem_ready.1 hx
      have hxs : x < ops.size := (Array.getElem?_eq_some_iff.1 ho).1
      have h2 := hall x hxs
      simp only [Array.getD_eq_getD_getElem?] at h1 h2
      rw [Array.getElem?_eq_getElem (by omega)] at h1 h2
      simp at h1 h2
      rw [h1] at h2; cases h2
  | succ fuel ih =>
    intro listed a w hsz hc hf hi
    refine ⟨fun hr => hend _ a w (hready listed hsz hr) hi, fun i hmem => ?_⟩
    obtain ⟨h1, o, ho, hall⟩ := mem_ready.1 hmem
    have his : i < ops.size := (Array.getElem?_eq_some_iff.1 ho).1
    have hli : listed.getD i false = false := by
      simp only [Array.getD_eq_getD_getElem?] at h1 ⊢
      rw [Array.getElem?_eq_getElem (by omega)] at h1 ⊢
      simpa using h1
    have hnew : (fun j => (listed.setIfInBounds i true).getD j false) = (fun j => listed.getD j false || j == i) := by
      funext j
      by_cases hji : j = i
      · subst hji
        simp [Array.getD_eq_getD_getElem?, hsz, his]
      · simp [Array.getD_eq_getD_getElem?, Ne.symm hji, hji]
    refine wpOp_mono (fun a' w' h => ih (listed.setIfInBounds i true) a' w' (by simpa using hsz) ?_ ?_ ?_) (hstep _ a w i o ho hli hall hc hi)
    · rw [hnew]
      refine ⟨fun j oj hj hl e he hb => ?_⟩
      simp only [Bool.or_eq_true, beq_iff_eq] at hl ⊢
      rcases hl with hl | rfl
      · exact .inl (hc.shut j oj hj hl e he hb)
      · rw [ho] at hj; cases hj
        exact .inl (hall e he hb)
    · have : ((List.range ops.size).filter fun j => !(listed.setIfInBounds i true).getD j false).length < ((List.range ops.size).filter fun j => !listed.getD j false).length := by
        have h3 : ((List.range ops.size).filter fun j => !(listed.setIfInBounds i true).getD j false) = ((List.range ops.size).filter fun j => !listed.getD j false).filter (fun j => !(j == i)) := by
          rw [List.filter_filter]
          apply List.filter_congr
          intro j _
          have hj : (listed.setIfInBounds i true).getD j false = (listed.getD j false || j == i) := congrFun hnew j
          rw [hj]
          cases listed.getD j false <;> cases (j == i) <;> rfl
        rw [h3]
        refine List.length_filter_lt_length_iff_exists.2 ⟨i, ?_, by simp⟩
        simp only [List.mem_filter, List.mem_range]
        exact ⟨his, by rw [hli]; rfl⟩
      omega
    · rw [hnew]; exact h

/-- A region that draws its order, by what holds of those that have come up. -/
theorem region_inv {P : Program} {ops : Array Oper} {Q : Exit → Act → World → Prop} {id : Nat} {a : Act} {w : World} (hm : P.follows .mixedOrders = true) (hlow : lowB ops = true) (Inv : (Nat → Bool) → Act → World → Prop)
    (h0 : Inv (fun _ => false) a w.drew)
    (hstep : ∀ (l : Nat → Bool) (a : Act) (w : World) (i : Nat) (o : Oper), ops[i]? = some o → l i = false → (∀ e ∈ o.after, Region.binds .any e = true → l e.on = true) → Came ops l →
      Inv l a w → wpOp P ops Q i (fun a' w' => Inv (fun j => l j || j == i) a' w') a w)
    (hend : ∀ (l : Nat → Bool) (a : Act) (w : World), (∀ i, i < ops.size → l i = true) → Inv l a w → Q .normal a w) : (Code.region id ops true).wp P Q a w := by
  refine wp_region_any hm (inv_any hlow Inv hstep hend ops.size _ a _ (by simp) ⟨fun j o _ hl => ?_⟩ ?_ ?_)
  · exfalso
    have : (Array.replicate ops.size false).getD j false = false := by
      simp only [Array.getD_eq_getD_getElem?, Array.getElem?_replicate]
      split <;> rfl
    have hl' : (Array.replicate ops.size false).getD j false = true := hl
    rw [this] at hl'
    cases hl'
  · exact Nat.le_trans (List.length_filter_le _ _) (by simp)
  · have : (fun j => (Array.replicate ops.size false).getD j false) = fun _ => false := by
      funext j
      simp only [Array.getD_eq_getD_getElem?, Array.getElem?_replicate]
      split <;> rfl
    rw [this]; exact h0

/-! ### The same, where each operation's value is known ahead, but for those of a few -/
/-- The slots that are written ahead: each by one operation. -/
def fillP (a : Act) (puts : List (Nat × Value)) : Act := puts.foldl (fun a p => a.put (some p.1) p.2) a
def fillT (a : Act) (gs : List Nat) (T : Nat → Value) : Act := gs.foldl (fun a t => a.put (some t) (T t)) a

theorem put_size (a : Act) (d : Option Tmp) (v : Value) : (a.put d v).tmps.size = a.tmps.size := by cases d <;> simp [Act.put]
theorem put_defers (a : Act) (d : Option Tmp) (v : Value) : (a.put d v).defers = a.defers := by cases d <;> rfl
theorem put_get_ne (a : Act) (d t : Nat) (v : Value) (h : d ≠ t) : (a.put (some d) v).tmps[t]? = a.tmps[t]? := by simp [Act.put, Array.getElem?_setIfInBounds_ne h]
theorem put_get_same (a : Act) (d : Nat) (v : Value) (h : d < a.tmps.size) : (a.put (some d) v).tmps[d]? = some v := by simp [Act.put, h]

theorem fillP_size (puts : List (Nat × Value)) : ∀ a : Act, (fillP a puts).tmps.size = a.tmps.size := by
  induction puts with
  | nil => intro a; rfl
  | cons p ps ih => intro a; simp only [fillP, List.foldl_cons] at ih ⊢; rw [ih, put_size]
theorem fillP_defers (puts : List (Nat × Value)) : ∀ a : Act, (fillP a puts).defers = a.defers := by
  induction puts with
  | nil => intro a; rfl
  | cons p ps ih => intro a; simp only [fillP, List.foldl_cons] at ih ⊢; rw [ih, put_defers]
theorem fillP_other (puts : List (Nat × Value)) (t : Nat) : ∀ a : Act, t ∉ puts.map (·.1) → (fillP a puts).tmps[t]? = a.tmps[t]? := by
  induction puts with
  | nil => intro a _; rfl
  | cons p ps ih =>
    intro a h
    simp only [List.map_cons, List.mem_cons, not_or] at h
    have := ih (a.put (some p.1) p.2) h.2
    simp only [fillP, List.foldl_cons] at this ⊢
    rw [this, put_get_ne _ _ _ _ (Ne.symm h.1)]
theorem fillP_in (puts : List (Nat × Value)) (d : Nat) (v : Value) : ∀ a : Act, (puts.map (·.1)).Nodup → (d, v) ∈ puts → d < a.tmps.size → (fillP a puts).tmps[d]? = some v := by
  induction puts with
  | nil => intro a _ h; cases h
  | cons p ps ih =>
    intro a hn hm hd
    simp only [List.map_cons, List.nodup_cons] at hn
    simp only [fillP, List.foldl_cons]
    rcases List.mem_cons.1 hm with rfl | hm
    · have := fillP_other ps d (a.put (some d) v) hn.1
      simp only [fillP] at this
      rw [this, put_get_same _ _ _ hd]
    · exact ih (a.put (some p.1) p.2) hn.2 hm (by rw [put_size]; exact hd)
theorem fillT_eq (gs : List Nat) (T : Nat → Value) : ∀ a : Act, fillT a gs T = fillP a (gs.map fun t => (t, T t)) := by
  induction gs with
  | nil => intro a; rfl
  | cons g gs ih => intro a; simp only [fillT, fillP, List.foldl_cons, List.map_cons] at ih ⊢; exact ih _

theorem act_ext {a b : Act} (h1 : a.defers = b.defers) (h2 : a.tmps.size = b.tmps.size) (h3 : ∀ t, t < a.tmps.size → a.tmps[t]? = b.tmps[t]?) : a = b := by
  cases a with
  | mk t1 d1 =>
    cases b with
    | mk t2 d2 =>
      simp only at h1 h2 h3
      subst h1
      congr 1
      apply Array.ext_getElem?
      intro i
      by_cases hi : i < t1.size
      · exact h3 i hi
      · rw [Array.getElem?_eq_none (by omega), Array.getElem?_eq_none (by omega)]

/-- Every slot that is written is written by one operation alone; what an operation looks at was written ahead of it, or by none. -/
def flowB (ops : Array Oper) (ps gs : List Nat) (olds : Nat → List Nat) (N : Nat) : Bool :=
  let n := ops.size
  let dst (j : Nat) : Option Nat := (ops[j]?).bind (·.dst)
  let waits (o : Oper) (j : Nat) : Bool := o.after.toList.any fun e => e.on == j && Region.binds .any e
  decide ((ps ++ gs).Nodup) && (ps ++ gs).all (fun t => decide (t < N) && (List.range n).any fun j => dst j == some t) &&
  (List.range n).all fun i => match ops[i]? with
    | none => true
    | some o =>
      (match o.dst with | none => true | some d => (ps ++ gs).contains d) &&
      (List.range n).all (fun j => i == j || dst i == none || !(dst i == dst j)) &&
      (o.looksAt ops).all (fun t => !(ps ++ gs).contains t || (if (olds i).contains t then (List.range n).any fun j => dst j == some t && (j == i || (match ops[j]? with | some oj => waits oj i | none => false))
        else (List.range n).any fun j => dst j == some t && waits o j)) &&
      (match o.op with | .select .. => false | _ => true)

/-- The operations that are not known ahead. -/
def effB (ops : Array Oper) (ps : List Nat) (i : Nat) : Bool := match (ops[i]?).bind (·.dst) with
  | some d => !ps.contains d
  | none => true

theorem execOp_same (o : Oper) (hs : ∀ cs b, o.op ≠ .select cs b) {ops : Array Oper} {a b : Act} (h : ∀ t ∈ o.looksAt ops, a.tmps[t]? = b.tmps[t]?) : execOp a.eval o = execOp b.eval o :=
  execOp_congr o hs fun x hx => by
    cases x with
    | tmp t =>
      have := h t (List.mem_append_left _ (List.mem_filterMap.2 ⟨.tmp t, by simpa using hx, rfl⟩))
      simp only [Act.eval, Array.getD_eq_getD_getElem?, this]
    | const v => rfl
    | global g => rfl
    | func f => rfl
theorem wanted_same (o : Oper) {ops : Array Oper} {a b : Act} (h : ∀ t ∈ o.looksAt ops, a.tmps[t]? = b.tmps[t]?) : Region.wanted o (yielded ops a.tmps) = Region.wanted o (yielded ops b.tmps) := by
  unfold Region.wanted
  cases hg : o.guard with
  | none => rfl
  | some gw =>
    obtain ⟨g, want⟩ := gw
    have hy : yielded ops a.tmps g = yielded ops b.tmps g := by
      unfold yielded
      cases ht : (ops[g]?).bind (·.dst) with
      | none => rfl
      | some t =>
        have := h t (by simp [Oper.looksAt, hg, ht])
        simp [this]
    simp only [hy]

/-- The frame that an operation sees: the slots 'os' as they were. -/
def seenA (a0 : Act) (puts : List (Nat × Value)) (gs os : List Nat) (T : Nat → Value) : Act :=
  fillT (fillP a0 (puts.filter fun p => !os.contains p.1)) (gs.filter fun t => !os.contains t) T

theorem seenA_get {a0 : Act} {puts : List (Nat × Value)} {gs : List Nat} (os : List Nat) (T : Nat → Value) {N : Nat} (hN : a0.tmps.size = N) (hnp : (puts.map (·.1)).Nodup) (hng : gs.Nodup) (hpg : ∀ t, t ∈ puts.map (·.1) → t ∉ gs)
    (hltN : ∀ t, t ∈ puts.map (·.1) ∨ t ∈ gs → t < N) :
    (∀ t, t ∉ puts.map (·.1) → t ∉ gs → (seenA a0 puts gs os T).tmps[t]? = a0.tmps[t]?) ∧ (∀ t, t ∈ os → (seenA a0 puts gs os T).tmps[t]? = a0.tmps[t]?) ∧
    (∀ d v, (d, v) ∈ puts → d ∉ os → (seenA a0 puts gs os T).tmps[d]? = some v) ∧ (∀ d, d ∈ gs → d ∉ os → (seenA a0 puts gs os T).tmps[d]? = some (T d)) := by
  have hgm : ((gs.filter fun t => !os.contains t).map fun t => (t, T t)).map (·.1) = gs.filter fun t => !os.contains t := by rw [List.map_map]; exact List.map_id _
  have hpm : ∀ d, d ∈ (puts.filter fun p => !os.contains p.1).map (·.1) → d ∈ puts.map (·.1) ∧ d ∉ os := fun d h => by
    obtain ⟨x, hx, rfl⟩ := List.mem_map.1 h
    obtain ⟨h1, h2⟩ := List.mem_filter.1 hx
    exact ⟨List.mem_map.2 ⟨x, h1, rfl⟩, by simpa using h2⟩
  have hgm2 : ∀ d, d ∈ (gs.filter fun t => !os.contains t) → d ∈ gs ∧ d ∉ os := fun d h => by
    obtain ⟨h1, h2⟩ := List.mem_filter.1 h
    exact ⟨h1, by simpa using h2⟩
  have hnp' : ((puts.filter fun p => !os.contains p.1).map (·.1)).Nodup := hnp.sublist (List.Sublist.map _ List.filter_sublist)
  have hng' : (gs.filter fun t => !os.contains t).Nodup := hng.sublist List.filter_sublist
  unfold seenA
  refine ⟨fun t h1 h2 => ?_, fun t h => ?_, fun d v h ho => ?_, fun d h ho => ?_⟩
  · rw [fillT_eq, fillP_other _ _ _ (by rw [hgm]; exact fun h => h2 (hgm2 t h).1), fillP_other _ _ _ fun h => h1 (hpm t h).1]
  · rw [fillT_eq, fillP_other _ _ _ (by rw [hgm]; exact fun h2 => (hgm2 t h2).2 h), fillP_other _ _ _ fun h2 => (hpm t h2).2 h]
  · have hd : d ∈ puts.map (·.1) := List.mem_map.2 ⟨(d, v), h, rfl⟩
    rw [fillT_eq, fillP_other _ _ _ (by rw [hgm]; exact fun h2 => hpg d hd (hgm2 d h2).1)]
    exact fillP_in _ _ _ _ hnp' (List.mem_filter.2 ⟨h, by simpa using ho⟩) (by rw [hN]; exact hltN d (.inl hd))
  · rw [fillT_eq]
    exact fillP_in _ _ _ _ (by rw [hgm]; exact hng') (List.mem_map.2 ⟨d, List.mem_filter.2 ⟨h, by simpa using ho⟩, rfl⟩) (by rw [fillP_size, hN]; exact hltN d (.inr h))

/-- What is known of the frame and the world while a region is under way. -/
structure Flow (ops : Array Oper) (a0 : Act) (puts : List (Nat × Value)) (gs : List Nat) (G : (Nat → Bool) → (Nat → Value) → World → Prop) (l : Nat → Bool) (T : Nat → Value) (a : Act) (w : World) : Prop where
  defers : a.defers = a0.defers
  size : a.tmps.size = a0.tmps.size
  free : ∀ t, (∀ (i : Nat) (o : Oper), l i = true → ops[i]? = some o → o.dst ≠ some t) → a.tmps[t]? = a0.tmps[t]?
  known : ∀ (i : Nat) (o : Oper) d v, l i = true → ops[i]? = some o → o.dst = some d → (d, v) ∈ puts → a.tmps[d]? = some v
  ghost : ∀ (i : Nat) (o : Oper) d, l i = true → ops[i]? = some o → o.dst = some d → d ∈ gs → a.tmps[d]? = some (T d)
  world : G (fun j => l j && effB ops (puts.map (·.1)) j) T w

theorem region_flow {P : Program} {ops : Array Oper} {Q : Exit → Act → World → Prop} {id : Nat} {a0 : Act} {w : World} (hm : P.follows .mixedOrders = true) (hlow : lowB ops = true)
    (puts : List (Nat × Value)) (gs : List Nat) (olds : Nat → List Nat) (N : Nat) (hN : a0.tmps.size = N) (hB : flowB ops (puts.map (·.1)) gs olds N = true) (G : (Nat → Bool) → (Nat → Value) → World → Prop) (T0 : Nat → Value)
    (h0 : G (fun _ => false) T0 w.drew)
    (hfl : ∀ (L : Nat → Bool) (T : Nat → Value) (w : World) (i : Nat) (o : Oper) (d : Nat) (v : Value), ops[i]? = some o → o.dst = some d → (d, v) ∈ puts →
      (∀ e ∈ o.after, Region.binds .any e = true → effB ops (puts.map (·.1)) e.on = true → L e.on = true) →
      (∀ (j : Nat) (oj : Oper), L j = true → ops[j]? = some oj → ∀ e ∈ oj.after, Region.binds .any e = true → e.on ≠ i) → G L T w →
      (Region.wanted o (yielded ops (seenA a0 puts gs (olds i) T).tmps) = true ∧ (execOp (seenA a0 puts gs (olds i) T).eval o).run P w = .ok (.value v) w) ∨
      (Region.wanted o (yielded ops (seenA a0 puts gs (olds i) T).tmps) = false ∧ v = undef))
    (heff : ∀ (L : Nat → Bool) (T : Nat → Value) (w : World) (i : Nat) (o : Oper), ops[i]? = some o → effB ops (puts.map (·.1)) i = true → L i = false →
      (∀ e ∈ o.after, Region.binds .any e = true → effB ops (puts.map (·.1)) e.on = true → L e.on = true) →
      (∀ (j : Nat) (oj : Oper), L j = true → ops[j]? = some oj → ∀ e ∈ oj.after, Region.binds .any e = true → e.on ≠ i) → G L T w →
      (Region.wanted o (yielded ops (seenA a0 puts gs (olds i) T).tmps) = true ∧ ∀ (a : Act) (K : Act → World → Prop),
        (∀ v w', G (fun j => L j || j == i) (fun t => if o.dst = some t then v else T t) w' → K (a.put o.dst v) w') → o.upon P a K Q ((execOp (seenA a0 puts gs (olds i) T).eval o).run P w)) ∨
      (Region.wanted o (yielded ops (seenA a0 puts gs (olds i) T).tmps) = false ∧ G (fun j => L j || j == i) (fun t => if o.dst = some t then undef else T t) w))
    (hend : ∀ (L : Nat → Bool) (T : Nat → Value) (w : World), (∀ i, i < ops.size → effB ops (puts.map (·.1)) i = true → L i = true) → G L T w → Q .normal (fillT (fillP a0 puts) gs T) w) :
    (Code.region id ops true).wp P Q a0 w := by
  simp only [flowB, Bool.and_eq_true, decide_eq_true_eq] at hB
  obtain ⟨⟨hnd, hlt⟩, hops⟩ := hB
  have hltN : ∀ t, t ∈ puts.map (·.1) ∨ t ∈ gs → t < N := fun t ht => by
    have := List.all_eq_true.1 hlt t (List.mem_append.2 ht)
    simp only [Bool.and_eq_true, decide_eq_true_eq] at this
    exact this.1
  have hwr : ∀ t, t ∈ puts.map (·.1) ∨ t ∈ gs → ∃ (j : Nat) (o : Oper), j < ops.size ∧ ops[j]? = some o ∧ o.dst = some t := fun t ht => by
    have := List.all_eq_true.1 hlt t (List.mem_append.2 ht)
    simp only [Bool.and_eq_true, List.any_eq_true, List.mem_range, beq_iff_eq] at this
    obtain ⟨_, j, hj, hd⟩ := this
    refine ⟨j, ops[j], hj, Array.getElem?_eq_getElem hj, ?_⟩
    rw [Array.getElem?_eq_getElem hj] at hd
    simpa using hd
  have hnp : (puts.map (·.1)).Nodup := (List.nodup_append.1 hnd).1
  have hng : gs.Nodup := (List.nodup_append.1 hnd).2.1
  have hpg : ∀ t, t ∈ puts.map (·.1) → t ∉ gs := fun t h1 h2 => (List.nodup_append.1 hnd).2.2 t h1 t h2 rfl
  have hop : ∀ (i : Nat) (o : Oper), ops[i]? = some o → (∀ d, o.dst = some d → d ∈ puts.map (·.1) ∨ d ∈ gs) ∧ (∀ (j : Nat) (oj : Oper) d, i ≠ j → ops[j]? = some oj → o.dst = some d → oj.dst ≠ some d) ∧
      (∀ t ∈ o.looksAt ops, t ∉ puts.map (·.1) ∧ t ∉ gs ∨ (t ∈ olds i ∧ ∃ (j : Nat) (oj : Oper), ops[j]? = some oj ∧ oj.dst = some t ∧ (j = i ∨ ∃ e ∈ oj.after, e.on = i ∧ Region.binds .any e = true)) ∨
        (t ∉ olds i ∧ ∃ (j : Nat) (oj : Oper) (e : Edge), ops[j]? = some oj ∧ oj.dst = some t ∧ e ∈ o.after ∧ e.on = j ∧ Region.binds .any e = true)) ∧ (∀ cs b, o.op ≠ .select cs b) := by
    intro i o ho
    have hi : i < ops.size := (Array.getElem?_eq_some_iff.1 ho).1
    have h1 := List.all_eq_true.1 hops i (List.mem_range.2 hi)
    rw [ho] at h1
    simp only [Bool.and_eq_true] at h1
    obtain ⟨⟨⟨h1, h2⟩, h3⟩, h4⟩ := h1
    refine ⟨fun d hd => ?_, fun j oj d hij hj hd hd' => ?_, fun t ht => ?_, fun cs b hsel => ?_⟩
    · rw [hd] at h1
      simpa using h1
    · have hjs : j < ops.size := (Array.getElem?_eq_some_iff.1 hj).1
      have := List.all_eq_true.1 h2 j (List.mem_range.2 hjs)
      simp [hj, hd, hd', hij] at this
    · have := List.all_eq_true.1 h3 t ht
      by_cases hto : t ∈ olds i
      · rw [if_pos (by simpa using hto)] at this
        simp only [Bool.or_eq_true, Bool.not_eq_true', List.contains_eq_mem, decide_eq_false_iff_not, List.mem_append, not_or, List.any_eq_true, List.mem_range, Bool.and_eq_true, beq_iff_eq] at this
        rcases this with h | ⟨j, hj, hd, hw⟩
        · exact .inl h
        · rw [Array.getElem?_eq_getElem hj] at hd hw
          refine .inr (.inl ⟨hto, j, ops[j], Array.getElem?_eq_getElem hj, by simpa using hd, hw.imp (fun h => h) fun hw => ?_⟩)
          simp only [List.any_eq_true, Bool.and_eq_true, beq_iff_eq] at hw
          obtain ⟨e, he, h1, h2⟩ := hw
          exact ⟨e, by simpa using he, h1, h2⟩
      · rw [if_neg (by simpa using hto)] at this
        simp only [Bool.or_eq_true, Bool.not_eq_true', List.contains_eq_mem, decide_eq_false_iff_not, List.mem_append, not_or, List.any_eq_true, List.mem_range, Bool.and_eq_true, beq_iff_eq, Array.mem_toList_iff] at this
        rcases this with h | ⟨j, hj, hd, e, he, hej, hb⟩
        · exact .inl h
        · refine .inr (.inr ⟨hto, j, ops[j], e, Array.getElem?_eq_getElem hj, ?_, he, hej, hb⟩)
          rw [Array.getElem?_eq_getElem hj] at hd
          simpa using hd
    · rw [hsel] at h4; cases h4
  have hfin : ∀ (T : Nat → Value), (∀ t, t ∉ puts.map (·.1) → t ∉ gs → (fillT (fillP a0 puts) gs T).tmps[t]? = a0.tmps[t]?) ∧ (∀ d v, (d, v) ∈ puts → (fillT (fillP a0 puts) gs T).tmps[d]? = some v) ∧ (∀ d, d ∈ gs → (fillT (fillP a0 puts) gs T).tmps[d]? = some (T d)) := by
    intro T
    have hgm : (gs.map fun t => (t, T t)).map (·.1) = gs := by rw [List.map_map]; exact List.map_id gs
    refine ⟨fun t h1 h2 => ?_, fun d v h => ?_, fun d h => ?_⟩
    · rw [fillT_eq, fillP_other _ _ _ (by rw [hgm]; exact h2), fillP_other _ _ _ h1]
    · have hd : d ∈ puts.map (·.1) := List.mem_map.2 ⟨(d, v), h, rfl⟩
      rw [fillT_eq, fillP_other _ _ _ (by rw [hgm]; exact hpg d hd)]
      exact fillP_in _ _ _ _ hnp h (by rw [hN]; exact hltN d (.inl hd))
    · rw [fillT_eq]
      exact fillP_in _ _ _ _ (by rw [hgm]; exact hng) (List.mem_map.2 ⟨d, h, rfl⟩) (by rw [fillP_size, hN]; exact hltN d (.inr h))
  refine region_inv hm hlow (fun l a w => ∃ T, Flow ops a0 puts gs G l T a w) ?_ ?_ ?_
  · exact ⟨T0, ⟨rfl, rfl, fun _ _ => rfl, fun i o d v h => (nomatch h), fun i o d h => (nomatch h), by simpa using h0⟩⟩
  · rintro l a w i o ho hli hpre hcame ⟨T, hF⟩
    obtain ⟨hd1, hd2, hlook, hsel⟩ := hop i o ho
    have hsn := seenA_get (a0 := a0) (puts := puts) (gs := gs) (olds i) T hN hnp hng hpg hltN
    have hsame : ∀ t ∈ o.looksAt ops, a.tmps[t]? = (seenA a0 puts gs (olds i) T).tmps[t]? := by
      intro t ht
      rcases hlook t ht with ⟨h1, h2⟩ | ⟨hto, j, oj, hj, hdj, hw⟩ | ⟨hto, j, oj, e, hj, hdj, he, rfl, hb⟩
      · rw [hsn.1 t h1 h2]
        refine hF.free t fun i' o' hl' ho' hd' => ?_
        rcases (hop i' o' ho').1 t hd' with h | h
        · exact h1 h
        · exact h2 h
      · rw [hsn.2.1 t hto]
        refine hF.free t fun i' o' hl' ho' hd' => ?_
        by_cases hji : j = i'
        · subst hji
          rcases hw with rfl | ⟨e, he, rfl, hb⟩
          · rw [hli] at hl'; cases hl'
          · have := hcame.shut j oj hj hl' e he hb
            rw [hli] at this; cases this
        · exact (hop j oj hj).2.1 i' o' t hji ho' hdj hd'
      · have hl := hpre e he hb
        rcases (hop _ oj hj).1 t hdj with h | h
        · obtain ⟨⟨d, v⟩, hp, rfl⟩ := List.mem_map.1 h
          rw [hF.known _ oj d v hl hj hdj hp, hsn.2.2.1 d v hp hto]
        · rw [hF.ghost _ oj t hl hj hdj h, hsn.2.2.2 t h hto]
    have hex := execOp_same o hsel hsame
    have hwant := wanted_same o hsame
    have hL1 : ∀ e ∈ o.after, Region.binds .any e = true → effB ops (puts.map (·.1)) e.on = true → (fun j => l j && effB ops (puts.map (·.1)) j) e.on = true := fun e he hb h => by simp [hpre e he hb, h]
    have hL2 : ∀ (j : Nat) (oj : Oper), (fun j => l j && effB ops (puts.map (·.1)) j) j = true → ops[j]? = some oj → ∀ e ∈ oj.after, Region.binds .any e = true → e.on ≠ i := fun j oj hj hoj e he hb heq => by
      have hlj : l j = true := by simp only [Bool.and_eq_true] at hj; exact hj.1
      have := hcame.shut j oj hoj hlj e he hb
      rw [heq, hli] at this; cases this
    unfold wpOp
    simp only [ho]
    by_cases he : effB ops (puts.map (·.1)) i = true
    · have hnew : (fun j => (l j || j == i) && effB ops (puts.map (·.1)) j) = fun j => (l j && effB ops (puts.map (·.1)) j) || j == i := by
        funext j
        by_cases hji : j = i
        · subst hji; simp [he]
        · have hb : (j == i) = false := by simpa using hji
          simp only [hb, Bool.or_false]
      have hstep : ∀ v w', G (fun j => (l j && effB ops (puts.map (·.1)) j) || j == i) (fun t => if o.dst = some t then v else T t) w' → ∃ T', Flow ops a0 puts gs G (fun j => l j || j == i) T' (a.put o.dst v) w' := by
        intro v w' hG
        have hnotp : ∀ d, o.dst = some d → d ∉ puts.map (·.1) := fun d hd hp => by
          simp [effB, ho, hd] at he
          simp at hp
          obtain ⟨x, hx⟩ := hp
          exact he x hx
        refine ⟨_, by rw [put_defers, hF.defers], by rw [put_size, hF.size], fun t h1 => ?_, fun j oj d v' hj hoj hd hp => ?_, fun j oj d hj hoj hd hg => ?_, by rw [hnew]; exact hG⟩
        · have hfr := hF.free t fun i' o' hl' ho' => h1 i' o' (by simp [hl']) ho'
          cases hdo : o.dst with
          | none => exact hfr
          | some d =>
            have : d ≠ t := fun hdt => h1 i o (by simp) ho (by rw [hdo, hdt])
            rw [put_get_ne _ _ _ _ this, hfr]
        · simp only [Bool.or_eq_true, beq_iff_eq] at hj
          have hdp : d ∈ puts.map (·.1) := List.mem_map.2 ⟨(d, v'), hp, rfl⟩
          rcases hj with hj | rfl
          · cases hdo : o.dst with
            | none => exact hF.known j oj d v' hj hoj hd hp
            | some d' =>
              have : d' ≠ d := fun h => hnotp d' hdo (by rw [h]; exact hdp)
              rw [put_get_ne _ _ _ _ this]; exact hF.known j oj d v' hj hoj hd hp
          · rw [ho] at hoj; cases hoj
            exact absurd hdp (hnotp d hd)
        · simp only [Bool.or_eq_true, beq_iff_eq] at hj
          by_cases hod : o.dst = some d
          · rw [hod, if_pos rfl]
            exact put_get_same _ _ _ (by rw [hF.size, hN]; exact hltN d (.inr hg))
          · rw [if_neg hod]
            rcases hj with hj | rfl
            · cases hdo : o.dst with
              | none => exact hF.ghost j oj d hj hoj hd hg
              | some d' =>
                have : d' ≠ d := fun h => hod (by rw [hdo, h])
                rw [put_get_ne _ _ _ _ this]; exact hF.ghost j oj d hj hoj hd hg
            · rw [ho] at hoj; cases hoj
              exact absurd hd hod
      rcases heff _ T w i o ho he (by simp [hli]) hL1 hL2 hF.world with ⟨hw, hup⟩ | ⟨hw, hG⟩
      · rw [hwant, if_pos hw]
        refine .inl ?_
        unfold Oper.wp
        rw [hex]
        exact hup a _ hstep
      · rw [hwant, if_neg (by rw [hw]; simp)]
        exact hstep undef w hG
    · have hne : effB ops (puts.map (·.1)) i = false := by simpa using he
      obtain ⟨d, hd, hdp⟩ : ∃ d, o.dst = some d ∧ d ∈ puts.map (·.1) := by
        unfold effB at hne
        rw [ho] at hne
        cases hdo : o.dst with
        | none => simp [hdo] at hne
        | some d => exact ⟨d, rfl, by simpa [hdo] using hne⟩
      obtain ⟨⟨d', v⟩, hp, rfl⟩ := List.mem_map.1 hdp
      have hnew : (fun j => (l j || j == i) && effB ops (puts.map (·.1)) j) = fun j => l j && effB ops (puts.map (·.1)) j := by
        funext j
        by_cases hji : j = i
        · subst hji; simp [hne]
        · have hb : (j == i) = false := by simpa using hji
          simp only [hb, Bool.or_false]
      have hstep : ∃ T', Flow ops a0 puts gs G (fun j => l j || j == i) T' (a.put o.dst v) w := by
        refine ⟨T, by rw [put_defers, hF.defers], by rw [put_size, hF.size], fun t h1 => ?_, fun j oj dj v' hj hoj hdj hp' => ?_, fun j oj dj hj hoj hdj hg => ?_, by rw [hnew]; exact hF.world⟩
        · have : d' ≠ t := fun h => h1 i o (by simp) ho (by rw [hd, h])
          rw [hd, put_get_ne _ _ _ _ this]
          exact hF.free t fun i' o' hl' ho' => h1 i' o' (by simp [hl']) ho'
        · by_cases hdd : dj = d'
          · subst hdd
            have hvv : v' = v := by
              have e1 := (hfin T).2.1 dj v' hp'
              have e2 := (hfin T).2.1 dj v hp
              rw [e1] at e2
              exact Option.some.inj e2
            subst hvv
            rw [hd, put_get_same _ _ _ (by rw [hF.size, hN]; exact hltN dj (.inl hdp))]
          · rw [hd, put_get_ne _ _ _ _ (Ne.symm hdd)]
            simp only [Bool.or_eq_true, beq_iff_eq] at hj
            rcases hj with hj | rfl
            · exact hF.known j oj dj v' hj hoj hdj hp'
            · rw [ho] at hoj; cases hoj
              rw [hd] at hdj; cases hdj
              exact absurd rfl hdd
        · have : d' ≠ dj := fun h => by subst h; exact hpg d' hdp hg
          rw [hd, put_get_ne _ _ _ _ this]
          simp only [Bool.or_eq_true, beq_iff_eq] at hj
          rcases hj with hj | rfl
          · exact hF.ghost j oj dj hj hoj hdj hg
          · rw [ho] at hoj; cases hoj
            rw [hd] at hdj; cases hdj
            exact absurd rfl this
      rcases hfl _ T w i o d' v ho hd hp hL1 hL2 hF.world with ⟨hw, hrun⟩ | ⟨hw, rfl⟩
      · rw [hwant, if_pos hw]
        refine .inl ?_
        unfold Oper.wp
        rw [hex, hrun]
        exact hstep
      · rw [hwant, if_neg (by rw [hw]; simp)]
        exact hstep
  · rintro l a w hall ⟨T, hF⟩
    have hL : ∀ i, i < ops.size → effB ops (puts.map (·.1)) i = true → (fun j => l j && effB ops (puts.map (·.1)) j) i = true := fun i hi he => by simp [hall i hi, he]
    have hfa : a = fillT (fillP a0 puts) gs T := by
      refine act_ext ?_ ?_ fun t _ => ?_
      · rw [hF.defers, fillT_eq, fillP_defers, fillP_defers]
      · rw [hF.size, fillT_eq, fillP_size, fillP_size]
      · by_cases h1 : t ∈ puts.map (·.1)
        · obtain ⟨j, o, hj, hoj, hd⟩ := hwr t (.inl h1)
          obtain ⟨⟨d, v⟩, hp, rfl⟩ := List.mem_map.1 h1
          rw [hF.known j o d v (hall j hj) hoj hd hp, (hfin T).2.1 d v hp]
        · by_cases h2 : t ∈ gs
          · obtain ⟨j, o, hj, hoj, hd⟩ := hwr t (.inr h2)
            rw [hF.ghost j o t (hall j hj) hoj hd h2, (hfin T).2.2 t h2]
          · rw [(hfin T).1 t h1 h2]
            refine hF.free t fun i' o' hl' ho' hd' => ?_
            rcases (hop i' o' ho').1 t hd' with h | h
            · exact h1 h
            · exact h2 h
    rw [hfa]
    exact hend _ T w hL hF.world

/-! ### What a prover lays: an operation at a time -/
/-- The value at an operand when all has come up. -/
def envF (a0 : Act) (puts : List (Nat × Value)) (gs os : List Nat) (T : Nat → Value) : Operand → Value
  | .tmp t => if os.contains t then a0.tmps.getD t undef else if gs.contains t then T t else (puts.lookup t).getD (a0.tmps.getD t undef)
  | .const v => v
  | .global g => .pointer (some ⟨g, 0, none⟩)
  | .func f => .func (.func f) #[] #[]
/-- Is an operation carried out? -/
def wantF (ops : Array Oper) (ρ : Operand → Value) (o : Oper) : Bool := match o.guard with
  | none => true
  | some (j, want) => match (ops[j]?).bind (·.dst) with
    | some t => (match ρ (.tmp t) with | .bool b => b == want | _ => false)
    | none => false
def hangs (o : Oper) (j : Nat) : Bool := o.after.toList.any fun e => e.on == j && Region.binds .any e

def oldAt (olds : List (Nat × List Nat)) (i : Nat) : List Nat := (olds.lookup i).getD []
def OpGoal (P : Program) (ops : Array Oper) (Q : Exit → Act → World → Prop) (a0 : Act) (puts : List (Nat × Value)) (gs : List Nat) (olds : List (Nat × List Nat)) (G : (Nat → Bool) → (Nat → Value) → World → Prop) (i : Nat) (o : Oper) : Prop :=
  match o.dst.bind fun d => puts.lookup d with
  | some v => ∀ (L : Nat → Bool) (T : Nat → Value) (w : World), (∀ j, hangs o j = true → effB ops (puts.map (·.1)) j = true → L j = true) →
      (∀ j oj, ops[j]? = some oj → hangs oj i = true → L j = false) → G L T w →
      (wantF ops (envF a0 puts gs (oldAt olds i) T) o = true ∧ (execOp (envF a0 puts gs (oldAt olds i) T) o).run P w = .ok (.value v) w) ∨ (wantF ops (envF a0 puts gs (oldAt olds i) T) o = false ∧ v = undef)
  | none => ∀ (L : Nat → Bool) (T : Nat → Value) (w : World), L i = false → (∀ j, hangs o j = true → effB ops (puts.map (·.1)) j = true → L j = true) →
      (∀ j oj, ops[j]? = some oj → hangs oj i = true → L j = false) → G L T w →
      (wantF ops (envF a0 puts gs (oldAt olds i) T) o = true ∧ ∀ (a : Act) (K : Act → World → Prop),
        (∀ v w', G (fun j => L j || j == i) (fun t => if o.dst = some t then v else T t) w' → K (a.put o.dst v) w') → o.upon P a K Q ((execOp (envF a0 puts gs (oldAt olds i) T) o).run P w)) ∨
      (wantF ops (envF a0 puts gs (oldAt olds i) T) o = false ∧ G (fun j => L j || j == i) (fun t => if o.dst = some t then undef else T t) w)
def AllFrom (p : Nat → Oper → Prop) : Nat → List Oper → Prop
  | _, [] => True
  | k, o :: r => p k o ∧ AllFrom p (k + 1) r
theorem AllFrom.at_ {p : Nat → Oper → Prop} : ∀ {l : List Oper} {k : Nat}, AllFrom p k l → ∀ (i : Nat) (o : Oper), l[i]? = some o → p (k + i) o
  | [], _, _, i, o, h => by simp at h
  | x :: r, k, ⟨h0, hr⟩, i, o, h => by
    cases i with
    | zero => simp at h; subst h; exact h0
    | succ i =>
      have := AllFrom.at_ hr i o (by simpa using h)
      rwa [show k + 1 + i = k + (i + 1) from by omega] at this

theorem lookup_of_mem {d : Nat} {v : Value} : ∀ {puts : List (Nat × Value)}, (puts.map (·.1)).Nodup → (d, v) ∈ puts → puts.lookup d = some v
  | [], _, h => by cases h
  | (d', v') :: ps, hn, h => by
    simp only [List.map_cons, List.nodup_cons] at hn
    rcases List.mem_cons.1 h with h1 | h1
    · cases h1; simp [List.lookup]
    · have hd : d ≠ d' := fun e => hn.1 (by rw [← e]; exact List.mem_map.2 ⟨(d, v), h1, rfl⟩)
      have hb : (d == d') = false := by simpa using hd
      simp only [List.lookup, hb]
      exact lookup_of_mem hn.2 h1
theorem lookup_none {d : Nat} : ∀ {puts : List (Nat × Value)}, d ∉ puts.map (·.1) → puts.lookup d = none
  | [], _ => rfl
  | (d', v') :: ps, h => by
    simp only [List.map_cons, List.mem_cons, not_or] at h
    have hb : (d == d') = false := by simpa using h.1
    simp only [List.lookup, hb]
    exact lookup_none h.2

theorem region_draws_old {P : Program} {l : List Oper} {Q : Exit → Act → World → Prop} {id : Nat} {a0 : Act} {w : World} (puts : List (Nat × Value)) (gs : List Nat) (olds : List (Nat × List Nat)) (G : (Nat → Bool) → (Nat → Value) → World → Prop) (T0 : Nat → Value)
    (hm : P.follows .mixedOrders = true) (hlow : lowB l.toArray = true) (N : Nat) (hN : a0.tmps.size = N) (hB : flowB l.toArray (puts.map (·.1)) gs (oldAt olds) N = true)
    (h0 : G (fun _ => false) T0 w.drew) (hops : AllFrom (OpGoal P l.toArray Q a0 puts gs olds G) 0 l)
    (hend : ∀ (L : Nat → Bool) (T : Nat → Value) (w : World), (∀ i, i < l.length → effB l.toArray (puts.map (·.1)) i = true → L i = true) → G L T w → Q .normal (fillT (fillP a0 puts) gs T) w) :
    (Code.region id l.toArray true).wp P Q a0 w := by
  have hB' := hB
  simp only [flowB, Bool.and_eq_true, decide_eq_true_eq] at hB'
  obtain ⟨⟨hnd, hlt⟩, _⟩ := hB'
  have hnp : (puts.map (·.1)).Nodup := (List.nodup_append.1 hnd).1
  have hng : gs.Nodup := (List.nodup_append.1 hnd).2.1
  have hpg : ∀ t, t ∈ puts.map (·.1) → t ∉ gs := fun t h1 h2 => (List.nodup_append.1 hnd).2.2 t h1 t h2 rfl
  have hltN : ∀ t, t ∈ puts.map (·.1) ∨ t ∈ gs → t < N := fun t ht => by
    have := List.all_eq_true.1 hlt t (List.mem_append.2 ht)
    simp only [Bool.and_eq_true, decide_eq_true_eq] at this
    exact this.1
  have henv : ∀ (T : Nat → Value) (os : List Nat) (t : Nat), (seenA a0 puts gs os T).tmps.getD t undef = envF a0 puts gs os T (.tmp t) := by
    intro T os t
    obtain ⟨q1, q2, q3, q4⟩ := seenA_get (a0 := a0) (puts := puts) (gs := gs) os T hN hnp hng hpg hltN
    rw [Array.getD_eq_getD_getElem?]
    simp only [envF]
    by_cases ho : t ∈ os
    · rw [q2 t ho, if_pos (by simpa using ho), Array.getD_eq_getD_getElem?]
    · rw [if_neg (by simpa using ho)]
      by_cases h2 : t ∈ gs
      · rw [q4 t h2 ho, if_pos (by simpa using h2)]; rfl
      · rw [if_neg (by simpa using h2)]
        by_cases h1 : t ∈ puts.map (·.1)
        · obtain ⟨⟨d, v⟩, hp, rfl⟩ := List.mem_map.1 h1
          rw [q3 d v hp ho, lookup_of_mem hnp hp]
          rfl
        · rw [q1 t h1 h2, lookup_none h1, Array.getD_eq_getD_getElem?]
          rfl
  have heval : ∀ (T : Nat → Value) (os : List Nat), (seenA a0 puts gs os T).eval = envF a0 puts gs os T := fun T os => by
    funext x
    cases x with
    | tmp t => exact henv T os t
    | const v => rfl
    | global g => rfl
    | func f => rfl
  have hwant : ∀ (T : Nat → Value) (os : List Nat) (o : Oper), Region.wanted o (yielded l.toArray (seenA a0 puts gs os T).tmps) = wantF l.toArray (envF a0 puts gs os T) o := fun T os o => by
    unfold Region.wanted wantF
    cases hg : o.guard with
    | none => rfl
    | some jw =>
      obtain ⟨j, want⟩ := jw
      simp only [yielded]
      cases hd : (l.toArray[j]?).bind (·.dst) with
      | none => simp
      | some t =>
        have := henv T os t
        rw [Array.getD_eq_getD_getElem?] at this
        simp only [Option.bind_some]
        cases ht : (seenA a0 puts gs os T).tmps[t]? with
        | none =>
          rw [ht] at this
          simp only [Option.getD_none] at this
          rw [← this]
          simp [undef]
        | some v =>
          rw [ht] at this
          simp only [Option.getD_some] at this
          rw [← this]
          cases v <;> simp
  have hh : ∀ (o : Oper) (e : Edge), e ∈ o.after → Region.binds .any e = true → hangs o e.on = true := fun o e he hb => by
    simp only [hangs, List.any_eq_true, Bool.and_eq_true, beq_iff_eq]
    exact ⟨e, by simpa using he, rfl, hb⟩
  have hh' : ∀ (o : Oper) (j : Nat), hangs o j = true → ∃ e ∈ o.after, e.on = j ∧ Region.binds .any e = true := fun o j h => by
    simp only [hangs, List.any_eq_true, Bool.and_eq_true, beq_iff_eq] at h
    obtain ⟨e, he, h1, h2⟩ := h
    exact ⟨e, by simpa using he, h1, h2⟩
  refine region_flow hm hlow puts gs (oldAt olds) N hN hB G T0 h0 ?_ ?_ (by simpa using hend)
  · intro L T w i o d v ho hd hp hpre hpost hG
    have h1 := hops.at_ i o (by simpa using ho)
    rw [Nat.zero_add] at h1
    unfold OpGoal at h1
    rw [hd, Option.bind_some, lookup_of_mem hnp hp] at h1
    have h2 := h1 L T w (fun j hj he => by obtain ⟨e, hem, rfl, hb⟩ := hh' o j hj; exact hpre e hem hb he)
      (fun j oj hoj hj => by
        cases hL : L j with
        | false => rfl
        | true => obtain ⟨e, hem, he, hb⟩ := hh' oj i hj; exact absurd he (hpost j oj hL hoj e hem hb)) hG
    rw [hwant, heval]
    exact h2
  · intro L T w i o ho he hLi hpre hpost hG
    have h1 := hops.at_ i o (by simpa using ho)
    rw [Nat.zero_add] at h1
    unfold OpGoal at h1
    have hnone : (o.dst.bind fun d => puts.lookup d) = none := by
      cases hd : o.dst with
      | none => rfl
      | some d =>
        unfold effB at he
        simp only [ho, Option.bind_some, hd, Bool.not_eq_true', List.contains_eq_mem, decide_eq_false_iff_not] at he
        rw [Option.bind_some]
        exact lookup_none he
    rw [hnone] at h1
    have h2 := h1 L T w hLi (fun j hj he => by obtain ⟨e, hem, rfl, hb⟩ := hh' o j hj; exact hpre e hem hb he)
      (fun j oj hoj hj => by
        cases hL : L j with
        | false => rfl
        | true => obtain ⟨e, hem, he, hb⟩ := hh' oj i hj; exact absurd he (hpost j oj hL hoj e hem hb)) hG
    rw [hwant, heval]
    exact h2
theorem region_draws {P : Program} {l : List Oper} {Q : Exit → Act → World → Prop} {id : Nat} {a0 : Act} {w : World} (puts : List (Nat × Value)) (gs : List Nat) (G : (Nat → Bool) → (Nat → Value) → World → Prop) (T0 : Nat → Value)
    (hm : P.follows .mixedOrders = true) (hlow : lowB l.toArray = true) (N : Nat) (hN : a0.tmps.size = N) (hB : flowB l.toArray (puts.map (·.1)) gs (oldAt []) N = true)
    (h0 : G (fun _ => false) T0 w.drew) (hops : AllFrom (OpGoal P l.toArray Q a0 puts gs [] G) 0 l)
    (hend : ∀ (L : Nat → Bool) (T : Nat → Value) (w : World), (∀ i, i < l.length → effB l.toArray (puts.map (·.1)) i = true → L i = true) → G L T w → Q .normal (fillT (fillP a0 puts) gs T) w) :
    (Code.region id l.toArray true).wp P Q a0 w := region_draws_old puts gs [] G T0 hm hlow N hN hB h0 hops hend
attribute [go_sem] oldAt Option.getD_some Option.getD_none envF List.lookup_cons List.lookup_nil List.contains_cons List.contains_nil

end Go.Proofs.YtmjjnaaiakchhaaDoor
end

section
/-
  A region whose order Go leaves open and whose effects stand in one chain: it does what its operations do in the order of a plan, if each operation that only looks would see the same at any later time. Plain Lean, no program in sight.
-/
namespace Go.Proofs.YtmjjnaaiakchhaaDoor
open Go

/-- Kinds that yield a value. -/
def valueKind (o : Oper) : Bool := match o.op with
  | .move _ | .assign _ | .pick .. | .load .. | .nilCheck _ | .binOp .. | .unOp .. | .convert .. | .field .. | .fieldAddr .. | .index .. | .indexAddr .. | .build .. | .slice .. | .extract .. | .lookup .. | .typeAssert .. | .makeInterface .. | .makeFunc .. | .sliceToArrayPointer .. => true
  | .call { callee := .builtin .len, .. } | .call { callee := .builtin .cap, .. } | .call { callee := .builtin .min, .. } | .call { callee := .builtin .max, .. } => true
  | _ => false
/-- Kinds whose value hangs on no world. -/
def plainKind (o : Oper) : Bool := match o.op with
  | .move _ | .assign _ | .pick .. => true
  | _ => false

def Ends (m : Sem Next) : Prop := ∀ (P : Program) (w w' : World) (x : Next), m.run P w = .ok x w' → ∃ v, x = .value v
theorem Ends.pure (v : Value) : Ends (pure (.value v)) := fun P w w' x h => by
  simp only [Sem.run_pure, Result.ok.injEq] at h
  exact ⟨_, h.1.symm⟩
theorem Ends.bind {α : Type} {m : Sem α} {f : α → Sem Next} (h : ∀ a, Ends (f a)) : Ends (m >>= f) := fun P w w' x hr => by
  rw [Sem.run_bind] at hr
  cases hs : m.run P w with
  | ok v w1 =>
    rw [hs] at hr
    exact h v P w1 w' x hr
  | halt hh w1 => rw [hs] at hr; simp [Result.andThen] at hr
theorem Ends.panic : Ends (runtimePanic .nilDeref) := fun P w w' x h => by
  simp [runtimePanic, goPanic] at h

theorem value_result {ρ : Operand → Value} {o : Oper} (hk : valueKind o = true) : Ends (execOp ρ o) := by
  obtain ⟨dst, op, type, pos, after, guard⟩ := o
  unfold valueKind at hk
  unfold execOp
  cases op <;> simp only at hk ⊢ <;> try cases hk
  all_goals first
    | exact Ends.bind fun a => Ends.pure a
    | exact Ends.pure _
    | exact Ends.bind fun a => Ends.pure _
    | skip
  case nilCheck.intro y =>
    split
    all_goals first
      | exact Ends.panic
      | exact Ends.pure _
      | skip
    split
    all_goals first
      | exact Ends.panic
      | exact Ends.pure _
      | skip
    refine Ends.bind fun p => Ends.bind fun b => ?_
    split
    · exact Ends.bind fun _ => Ends.pure _
    · exact Ends.pure _
  case call c =>
    obtain ⟨callee, args, tys⟩ := c
    cases callee with
    | value f => simp at hk
    | invoke r n => simp at hk
    | builtin b =>
      unfold resolve
      simp only
      refine fun P w w' x h => ?_
      rw [Sem.run_bind] at h
      simp only [Sem.run_pure, Result.andThen_ok, invoke, builtin] at h
      cases b <;> simp at hk <;> exact (Ends.bind fun a => Ends.pure a) P w w' x h

theorem plain_run {o : Oper} (hk : plainKind o = true) {ρ : Operand → Value} {P : Program} {w w' : World} {v : Value} (h : (execOp ρ o).run P w = .ok (.value v) w') : ∀ w2, (execOp ρ o).run P w2 = .ok (.value v) w2 := by
  obtain ⟨dst, op, type, pos, after, guard⟩ := o
  unfold plainKind at hk
  intro w2
  cases op with
  | move x => simp only [execOp, Sem.run_pure, Result.ok.injEq, Next.value.injEq] at h ⊢; exact ⟨h.1, trivial⟩
  | assign x => simp only [execOp, Sem.run_pure, Result.ok.injEq, Next.value.injEq] at h ⊢; exact ⟨h.1, trivial⟩
  | pick c a b =>
    simp only [execOp, Sem.run_bind] at h ⊢
    generalize ρ c = u at *
    cases u with
    | bool t => simp only [asBool, Sem.run_pure, Result.andThen_ok, Result.ok.injEq, Next.value.injEq] at h ⊢; exact ⟨h.1, trivial⟩
    | _ => simp [asBool, Result.andThen, stuck] at h
  | _ => cases hk

structure Seg where
  floats : List Nat
  checks : List Nat
  eff : Option Nat
structure Plan where
  /-- who stands ahead of each, as bits -/
  anc : List Nat
  /-- those that act, in their chain -/
  effs : List Nat
  /-- the others: behind how many of them they come up -/
  stage : List Nat
def Plan.ahead (p : Plan) (i j : Nat) : Bool := (p.anc.getD i 0).testBit j
def Plan.act (p : Plan) (i : Nat) : Bool := p.effs.contains i
def Plan.at_ (p : Plan) (i : Nat) : Nat := p.stage.getD i 0
/-- Those that look, behind k acts. -/
def Plan.floatsAt (p : Plan) (n k : Nat) : List Nat := (List.range n).filter fun i => !p.act i && p.at_ i == k
def Plan.checksAt (p : Plan) (l : List Oper) (k : Nat) : List Nat := (List.range l.length).filter fun i => !p.act i && decide (p.at_ i ≤ k) && (match l[i]? with | some o => !plainKind o | none => false) &&
  (match k with | 0 => true | k + 1 => match p.effs[k]? with | some e => !p.ahead e i | none => true)
def Plan.segs (p : Plan) (l : List Oper) : List Seg := (List.range (p.effs.length + 1)).map fun k => ⟨p.floatsAt l.length k, p.checksAt l k, p.effs[k]?⟩

def opsAt (l : List Oper) (is : List Nat) : List Oper := is.filterMap fun i => l[i]?

/-- It would see the same now. -/
def Same (P : Program) (ops : Array Oper) (o : Oper) (a : Act) (w : World) : Prop :=
  if Region.wanted o (yielded ops a.tmps) = true then (execOp a.eval o).run P w = .ok (.value (a.tmps.getD (o.dst.getD 0) undef)) w else a.tmps.getD (o.dst.getD 0) undef = undef
def Sames (P : Program) (ops : Array Oper) (a : Act) (w : World) : List Oper → Prop
  | [] => True
  | o :: r => Same P ops o a w ∧ Sames P ops a w r
def SeqGo (P : Program) (l : List Oper) (Q : Exit → Act → World → Prop) : List Seg → Act → World → Prop
  | [], _, _ => True
  | s :: r, a, w => wpList P l.toArray (fun e a' w' => e = .normal ∧ w' = w ∧ Sames P l.toArray a' w (opsAt l s.checks) ∧
      match s.eff with
      | none => Q .normal a' w
      | some i => wpList P l.toArray (fun e a2 w2 => e = .normal ∧ SeqGo P l Q r a2 w2) (opsAt l [i]) a' w) (opsAt l s.floats) a w

/-- What a plan has to keep. -/
def Plan.ok (p : Plan) (l : List Oper) (N : Nat) : Bool :=
  let n := l.length
  let dst (j : Nat) : Option Nat := (l[j]?).bind (·.dst)
  decide (p.effs.Nodup) && (p.effs.all fun e => decide (e < n)) &&
  (List.range n).all fun i => match l[i]? with
    | none => true
    | some o =>
      -- who stands ahead
      ((List.range n).all fun j => !p.ahead i j || o.after.toList.any fun e => Region.binds .any e && (e.on == j || p.ahead e.on j)) &&
      (o.after.toList.all fun e => !Region.binds .any e || (p.ahead i e.on && decide (e.on < i))) &&
      -- slots
      (match o.dst with | none => true | some d => decide (d < N)) &&
      ((List.range n).all fun j => i == j || dst i == none || !(dst i == dst j)) &&
      ((List.range n).all fun j => match dst j with
        | none => true
        | some t => !(o.looksAt l.toArray).contains t || p.ahead i j || (p.ahead j i && (p.act i || plainKind o))) &&
      (match o.op with | .select .. => false | _ => true) &&
      -- its place
      (if p.act i then
        ((List.range p.effs.length).all fun k => !(p.effs[k]? == some i) || ((List.range n).all fun j => !p.ahead i j || (if p.act j then (List.range k).any (fun m => p.effs[m]? == some j) else decide (p.at_ j ≤ k))) &&
          (match k with | 0 => true | m + 1 => match p.effs[m]? with | some e => p.ahead i e | none => false))
      else
        valueKind o && o.dst.isSome && decide (p.at_ i ≤ p.effs.length) &&
        (match p.at_ i with | 0 => true | m + 1 => match p.effs[m]? with | some e => p.ahead i e | none => false) &&
        ((List.range n).all fun j => !p.ahead i j || (if p.act j then (List.range (p.at_ i)).any (fun m => p.effs[m]? == some j) else decide (p.at_ j ≤ p.at_ i))))

structure PlanOK (p : Plan) (l : List Oper) (N : Nat) : Prop where
  nodup : p.effs.Nodup
  efflt : ∀ e ∈ p.effs, e < l.length
  step : ∀ (i : Nat) (o : Oper) (j : Nat), l[i]? = some o → j < l.length → p.ahead i j = true → ∃ e ∈ o.after, Region.binds .any e = true ∧ (e.on = j ∨ p.ahead e.on j = true)
  dep : ∀ (i : Nat) (o : Oper), l[i]? = some o → ∀ e ∈ o.after, Region.binds .any e = true → p.ahead i e.on = true ∧ e.on < i
  lt : ∀ (i : Nat) (o : Oper) (d : Nat), l[i]? = some o → o.dst = some d → d < N
  one : ∀ (i j : Nat) (oi oj : Oper) (d : Nat), l[i]? = some oi → l[j]? = some oj → oi.dst = some d → oj.dst = some d → i = j
  reads : ∀ (i j : Nat) (oi oj : Oper) (t : Nat), l[i]? = some oi → l[j]? = some oj → oj.dst = some t → t ∈ oi.looksAt l.toArray → p.ahead i j = true ∨ (p.ahead j i = true ∧ (p.act i = true ∨ plainKind oi = true))
  sel : ∀ (i : Nat) (o : Oper), l[i]? = some o → ∀ cs b, o.op ≠ .select cs b
  eff : ∀ i k, p.effs[k]? = some i → (∀ j, j < l.length → p.ahead i j = true → if p.act j = true then ∃ m, m < k ∧ p.effs[m]? = some j else p.at_ j ≤ k) ∧ (∀ m, k = m + 1 → ∃ e, p.effs[m]? = some e ∧ p.ahead i e = true)
  flo : ∀ (i : Nat) (o : Oper), l[i]? = some o → p.act i = false → valueKind o = true ∧ (∃ d, o.dst = some d) ∧ p.at_ i ≤ p.effs.length ∧ (∀ m, p.at_ i = m + 1 → ∃ e, p.effs[m]? = some e ∧ p.ahead i e = true) ∧
    (∀ j, j < l.length → p.ahead i j = true → if p.act j = true then ∃ m, m < p.at_ i ∧ p.effs[m]? = some j else p.at_ j ≤ p.at_ i)

theorem PlanOK.of {p : Plan} {l : List Oper} {N : Nat} (h : p.ok l N = true) : PlanOK p l N := by
  unfold Plan.ok at h
  simp only [Bool.and_eq_true, decide_eq_true_eq, List.all_eq_true, List.mem_range] at h
  obtain ⟨⟨hnd, hlt⟩, hall⟩ := h
  have hat := fun (i : Nat) (o : Oper) (ho : l[i]? = some o) => by
    have h1 := hall i (List.getElem?_eq_some_iff.1 ho).1
    rw [ho] at h1
    simp only [Bool.and_eq_true, List.all_eq_true, List.mem_range] at h1
    exact h1
  have hil : ∀ (i : Nat) (o : Oper), l[i]? = some o → i < l.length := fun i o ho => (List.getElem?_eq_some_iff.1 ho).1
  refine ⟨hnd, fun e he => by simpa using hlt e he, ?_, ?_, ?_, ?_, ?_, ?_, ?_, ?_⟩
  · intro i o j ho hj ha
    have h1 := (hat i o ho).1.1.1.1.1.1 j hj
    rw [ha] at h1
    simp only [Bool.not_true, Bool.false_or, List.any_eq_true, Bool.and_eq_true, Bool.or_eq_true, beq_iff_eq] at h1
    obtain ⟨e, he, h2, h3⟩ := h1
    exact ⟨e, by simpa using he, h2, h3⟩
  · intro i o ho e he hb
    have h1 := (hat i o ho).1.1.1.1.1.2 e (by simpa using he)
    rw [hb] at h1
    simpa using h1
  · intro i o d ho hd
    have h1 := (hat i o ho).1.1.1.1.2
    rw [hd] at h1
    simpa using h1
  · intro i j oi oj d hi hj hdi hdj
    have h1 := (hat i oi hi).1.1.1.2 j (hil j oj hj)
    simpa [hi, hj, hdi, hdj] using h1
  · intro i j oi oj t hi hj hdj ht
    have h1 := (hat i oi hi).1.1.2 j (hil j oj hj)
    rw [hj] at h1
    simp only [Option.bind_some, hdj] at h1
    have h2 : (oi.looksAt l.toArray).contains t = true := by simpa using ht
    rw [h2] at h1
    simpa using h1
  · intro i o ho cs b hc
    have h1 := (hat i o ho).1.2
    rw [hc] at h1
    cases h1
  · intro i k hk
    have hi : i < l.length := by simpa using hlt i (List.mem_of_getElem? hk)
    have h1 := (hat i l[i] (List.getElem?_eq_getElem hi)).2
    have hact : p.act i = true := by simpa [Plan.act] using List.mem_of_getElem? hk
    rw [if_pos hact] at h1
    simp only [List.all_eq_true, List.mem_range] at h1
    have h2 := h1 k (List.getElem?_eq_some_iff.1 hk).1
    rw [hk] at h2
    simp only [beq_self_eq_true, Bool.not_true, Bool.false_or, Bool.and_eq_true, List.all_eq_true, List.mem_range] at h2
    refine ⟨fun j hj ha => ?_, fun m hm => ?_⟩
    · have h3 := h2.1 j hj
      rw [ha] at h3
      by_cases hc : p.act j = true
      · rw [if_pos hc] at h3 ⊢
        simpa using h3
      · rw [if_neg hc] at h3 ⊢
        simpa using h3
    · have h3 := h2.2
      rw [hm] at h3
      simp only at h3
      cases he : p.effs[m]? with
      | none => rw [he] at h3; cases h3
      | some e => rw [he] at h3; exact ⟨e, rfl, h3⟩
  · intro i o ho hact
    have h1 := (hat i o ho).2
    rw [if_neg (by rw [hact]; simp)] at h1
    simp only [Bool.and_eq_true, decide_eq_true_eq, List.all_eq_true, List.mem_range] at h1
    obtain ⟨⟨⟨⟨h2, h3⟩, h4⟩, h5⟩, h6⟩ := h1
    refine ⟨h2, Option.isSome_iff_exists.1 h3, h4, fun m hm => ?_, fun j hj ha => ?_⟩
    · rw [hm] at h5
      simp only at h5
      cases he : p.effs[m]? with
      | none => rw [he] at h5; cases h5
      | some e => rw [he] at h5; exact ⟨e, rfl, h5⟩
    · have h3 := h6 j hj
      rw [ha] at h3
      by_cases hc : p.act j = true
      · rw [if_pos hc] at h3 ⊢
        simpa using h3
      · rw [if_neg hc] at h3 ⊢
        simpa using h3

section
variable {P : Program} {l : List Oper} {p : Plan} {N : Nat}

theorem PlanOK.lower (h : PlanOK p l N) : ∀ (i : Nat) (o : Oper), l[i]? = some o → ∀ j, j < l.length → p.ahead i j = true → j < i := by
  intro i
  induction i using Nat.strongRecOn with
  | ind i ih =>
    intro o ho j hj ha
    obtain ⟨e, he, hb, h1⟩ := h.step i o j ho hj ha
    have h2 := (h.dep i o ho e he hb).2
    have hi : i < l.length := (List.getElem?_eq_some_iff.1 ho).1
    rcases h1 with rfl | h1
    · exact h2
    · have := ih e.on h2 l[e.on] (List.getElem?_eq_getElem (by omega)) j hj h1
      omega
theorem PlanOK.closed (h : PlanOK p l N) {L : Nat → Bool} (hc : Came l.toArray L) : ∀ (i : Nat) (o : Oper), l[i]? = some o → (∀ e ∈ o.after, Region.binds .any e = true → L e.on = true) → ∀ j, j < l.length → p.ahead i j = true → L j = true := by
  intro i
  induction i using Nat.strongRecOn with
  | ind i ih =>
    intro o ho hd j hj ha
    obtain ⟨e, he, hb, h1⟩ := h.step i o j ho hj ha
    have h2 := (h.dep i o ho e he hb).2
    have hi : i < l.length := (List.getElem?_eq_some_iff.1 ho).1
    have h3 := hd e he hb
    rcases h1 with rfl | h1
    · exact h3
    · have hget : l[e.on]? = some l[e.on] := List.getElem?_eq_getElem (by omega)
      exact ih e.on h2 l[e.on] hget (fun e' he' hb' => hc.shut e.on l[e.on] (by simp) h3 e' he' hb') j hj h1
theorem PlanOK.closed' (h : PlanOK p l N) {L : Nat → Bool} (hc : Came l.toArray L) (i : Nat) (o : Oper) (ho : l[i]? = some o) (hl : L i = true) (j : Nat) (hj : j < l.length) (ha : p.ahead i j = true) : L j = true :=
  h.closed hc i o ho (fun e he hb => hc.shut i o (by simpa using ho) hl e he hb) j hj ha

/-- What it yields. -/
def Yld (P : Program) (ops : Array Oper) (o : Oper) (b : Act) (w : World) (v : Value) : Prop :=
  (Region.wanted o (yielded ops b.tmps) = true ∧ (execOp b.eval o).run P w = .ok (.value v) w) ∨ (Region.wanted o (yielded ops b.tmps) = false ∧ v = undef)

theorem floats_walk (h : PlanOK p l N) {Q' : Exit → Act → World → Prop} {R : Act → World → Prop} (hQ : ∀ e a w, Q' e a w → e = .normal ∧ R a w) : ∀ (F : List Nat) (a : Act) (w1 : World),
    (∀ i ∈ F, ∃ o d, l[i]? = some o ∧ valueKind o = true ∧ o.dst = some d) → F.Pairwise (· < ·) → wpList P l.toArray Q' (opsAt l F) a w1 →
    ∃ a' w2, R a' w2 ∧ a'.defers = a.defers ∧ a'.tmps.size = a.tmps.size ∧ (∀ t, (∀ i ∈ F, ∀ o, l[i]? = some o → o.dst ≠ some t) → a'.tmps[t]? = a.tmps[t]?) ∧
      ∀ i ∈ F, ∀ o, l[i]? = some o → plainKind o = true → ∃ b v d, o.dst = some d ∧ (d < a.tmps.size → a'.tmps[d]? = some v) ∧
        (∀ t, (∃ j ∈ F, j < i ∧ ∃ oj, l[j]? = some oj ∧ oj.dst = some t) → b.tmps[t]? = a'.tmps[t]?) ∧ (∀ t, (∀ j ∈ F, j < i → ∀ oj, l[j]? = some oj → oj.dst ≠ some t) → b.tmps[t]? = a.tmps[t]?) ∧
        ∀ w, Yld P l.toArray o b w v := by
  intro F
  induction F with
  | nil =>
    intro a w1 _ _ hw
    exact ⟨a, w1, (hQ _ _ _ hw).2, rfl, rfl, fun _ _ => rfl, fun i hi => by cases hi⟩
  | cons i F ih =>
    intro a w1 hF hP hw
    obtain ⟨o, d, ho, hk, hd⟩ := hF i (List.mem_cons_self ..)
    have hops : opsAt l (i :: F) = o :: opsAt l F := by simp [opsAt, ho]
    rw [hops] at hw
    have hP1 := (List.pairwise_cons.1 hP).1
    have hP2 := (List.pairwise_cons.1 hP).2
    -- the step: some value, and the rest
    have key : ∃ v w3, wpList P l.toArray Q' (opsAt l F) (a.put o.dst v) w3 ∧ (plainKind o = true → ∀ w, Yld P l.toArray o a w v) := by
      simp only [wpList] at hw
      split at hw
      · rename_i hwant
        rcases hw with hw | ⟨_, a9, w9, hw⟩
        · unfold Oper.wp at hw
          cases hr : (execOp a.eval o).run P w1 with
          | ok x w3 =>
            obtain ⟨v, rfl⟩ := value_result hk P w1 w3 x hr
            rw [hr] at hw
            exact ⟨v, w3, hw, fun hp w => .inl ⟨hwant, plain_run hp hr w⟩⟩
          | halt hh w3 =>
            rw [hr] at hw
            cases hh <;> simp only [Oper.upon] at hw
            have := (hQ _ _ _ hw).1
            cases this
        · have := (hQ _ _ _ hw).1
          cases this
      · rename_i hwant
        exact ⟨undef, w1, hw, fun _ _ => .inr ⟨by simpa using hwant, rfl⟩⟩
    obtain ⟨v, w3, hrest, hy⟩ := key
    obtain ⟨a', w2, hR, hdf, hsz, hfree, hall⟩ := ih (a.put o.dst v) w3 (fun j hj => hF j (List.mem_cons_of_mem _ hj)) hP2 hrest
    have hdF : ∀ j ∈ F, ∀ oj, l[j]? = some oj → oj.dst ≠ some d := fun j hj oj hoj e => by
      have := h.one i j o oj d ho hoj hd e
      have := hP1 j hj
      omega
    have hput : ∀ t, t ≠ d → (a.put o.dst v).tmps[t]? = a.tmps[t]? := fun t ht => by rw [hd, put_get_ne _ _ _ _ (Ne.symm ht)]
    refine ⟨a', w2, hR, by rw [hdf, put_defers], by rw [hsz, put_size], fun t ht => ?_, fun j hj oj hoj hp => ?_⟩
    · rw [hfree t fun j hj oj hoj => ht j (List.mem_cons_of_mem _ hj) oj hoj]
      refine hput t fun e => ht i (List.mem_cons_self ..) o ho (by rw [hd, e])
    · rcases List.mem_cons.1 hj with rfl | hj
      · rw [ho] at hoj; cases hoj
        refine ⟨a, v, d, hd, fun hlt => ?_, fun t ⟨j', hj', hlt, _⟩ => ?_, fun t _ => rfl, hy hp⟩
        · rw [hfree d hdF, hd]
          exact put_get_same _ _ _ hlt
        · rcases List.mem_cons.1 hj' with rfl | hj'
          · omega
          · have := hP1 j' hj'; omega
      · obtain ⟨b, v', d', hd', h1, h2, h3, h4⟩ := hall j hj oj hoj hp
        refine ⟨b, v', d', hd', fun hlt => h1 (by rw [put_size]; exact hlt), fun t ⟨j', hj', hlt, oj', hoj', hdj'⟩ => ?_, fun t ht => ?_, h4⟩
        · rcases List.mem_cons.1 hj' with rfl | hj'
          · rw [ho] at hoj'; cases hoj'
            rw [hd] at hdj'; cases hdj'
            rw [h3 _ fun j'' hj'' _ oj'' hoj'' => hdF j'' hj'' oj'' hoj'', hfree _ hdF]
          · exact h2 t ⟨j', hj', hlt, oj', hoj', hdj'⟩
        · rw [h3 t fun j'' hj'' hlt oj'' hoj'' => ht j'' (List.mem_cons_of_mem _ hj'') hlt oj'' hoj'']
          refine hput t fun e => ht i (List.mem_cons_self ..) (hP1 j hj) o ho (by rw [hd, e])

theorem sames_at {ops : Array Oper} {a : Act} {w : World} : ∀ {C : List Nat}, Sames P ops a w (opsAt l C) → ∀ i ∈ C, ∀ o, l[i]? = some o → Same P ops o a w
  | [], _, i, hi, _, _ => by cases hi
  | j :: C, h, i, hi, o, ho => by
    cases hj : l[j]? with
    | none =>
      have e : opsAt l (j :: C) = opsAt l C := by simp [opsAt, hj]
      rw [e] at h
      rcases List.mem_cons.1 hi with rfl | hi
      · rw [hj] at ho; cases ho
      · exact sames_at h i hi o ho
    | some oj =>
      have e : opsAt l (j :: C) = oj :: opsAt l C := by simp [opsAt, hj]
      rw [e] at h
      rcases List.mem_cons.1 hi with rfl | hi
      · rw [hj] at ho; cases ho
        exact h.1
      · exact sames_at h.2 i hi o ho

def doneE (p : Plan) (k j : Nat) : Prop := if p.act j = true then ∃ m, m < k ∧ p.effs[m]? = some j else p.at_ j ≤ k
def doneS (p : Plan) (k j : Nat) : Prop := if p.act j = true then ∃ m, m < k ∧ p.effs[m]? = some j else p.at_ j < k
def Sees (p : Plan) (l : List Oper) (a0 a : Act) (i : Nat) (o : Oper) (b : Act) : Prop :=
  ∀ t ∈ o.looksAt l.toArray, (∀ (j : Nat) (oj : Oper), l[j]? = some oj → oj.dst = some t → (p.ahead i j = true → b.tmps[t]? = a.tmps[t]?) ∧ (p.ahead i j = false → b.tmps[t]? = a0.tmps[t]?)) ∧
    ((∀ (j : Nat) (oj : Oper), l[j]? = some oj → oj.dst ≠ some t) → b.tmps[t]? = a0.tmps[t]?)

/-- Where the plan stands: behind k acts and all that looks behind them. -/
structure Mid (P : Program) (l : List Oper) (p : Plan) (N : Nat) (Q : Exit → Act → World → Prop) (a0 : Act) (k : Nat) (a : Act) (w : World) : Prop where
  size : a.tmps.size = N
  free : ∀ t, (∀ (j : Nat) (oj : Oper), l[j]? = some oj → oj.dst = some t → ¬ doneE p k j) → a.tmps[t]? = a0.tmps[t]?
  plain : ∀ (i : Nat) (o : Oper), l[i]? = some o → p.act i = false → plainKind o = true → p.at_ i ≤ k → ∃ b v d, o.dst = some d ∧ a.tmps[d]? = some v ∧ Sees p l a0 a i o b ∧ ∀ w, Yld P l.toArray o b w v
  checks : ∀ (i : Nat) (o : Oper), l[i]? = some o → p.act i = false → plainKind o = false → p.at_ i ≤ k → (∀ m e, k = m + 1 → p.effs[m]? = some e → p.ahead e i = false) → Same P l.toArray o a w
  next : match p.effs[k]? with
    | none => Q .normal a w
    | some i => wpList P l.toArray (fun e a2 w2 => e = .normal ∧ SeqGo P l Q ((p.segs l).drop (k + 1)) a2 w2) (opsAt l [i]) a w

theorem mid_of (h : PlanOK p l N) {Q : Exit → Act → World → Prop} {a0 a : Act} {w : World} {k : Nat} (hk : k ≤ p.effs.length) (hgo : SeqGo P l Q ((p.segs l).drop k) a w) (hsz : a.tmps.size = N)
    (hfree : ∀ t, (∀ (j : Nat) (oj : Oper), l[j]? = some oj → oj.dst = some t → ¬ doneS p k j) → a.tmps[t]? = a0.tmps[t]?)
    (hplain : ∀ (i : Nat) (o : Oper), l[i]? = some o → p.act i = false → plainKind o = true → p.at_ i < k → ∃ b v d, o.dst = some d ∧ a.tmps[d]? = some v ∧ Sees p l a0 a i o b ∧ ∀ w, Yld P l.toArray o b w v) :
    ∃ a', Mid P l p N Q a0 k a' w ∧ a'.defers = a.defers ∧ ∀ t, (∀ (i : Nat) (o : Oper), l[i]? = some o → p.act i = false → p.at_ i = k → o.dst ≠ some t) → a'.tmps[t]? = a.tmps[t]? := by
  have hlen : (p.segs l).length = p.effs.length + 1 := by simp [Plan.segs]
  have hdrop : (p.segs l).drop k = ⟨p.floatsAt l.length k, p.checksAt l k, p.effs[k]?⟩ :: (p.segs l).drop (k + 1) := by
    rw [List.drop_eq_getElem_cons (by omega)]
    congr 1
    simp [Plan.segs]
  rw [hdrop] at hgo
  simp only [SeqGo] at hgo
  have hmemF : ∀ i, i ∈ p.floatsAt l.length k ↔ i < l.length ∧ p.act i = false ∧ p.at_ i = k := fun i => by simp [Plan.floatsAt]
  obtain ⟨a', w2, ⟨rfl, hsame, hnext⟩, hdf, hsz', hfr, hall⟩ := floats_walk h (R := fun a' w' => w' = w ∧ Sames P l.toArray a' w (opsAt l (p.checksAt l k)) ∧ _) (fun e a w h => h) (p.floatsAt l.length k) a w
    (fun i hi => by
      obtain ⟨h1, h2, h3⟩ := (hmemF i).1 hi
      obtain ⟨h4, ⟨d, h5⟩, _⟩ := h.flo i l[i] (List.getElem?_eq_getElem h1) h2
      exact ⟨l[i], d, List.getElem?_eq_getElem h1, h4, h5⟩)
    (List.Pairwise.sublist List.filter_sublist List.pairwise_lt_range) hgo
  have hfr' : ∀ t, (∀ (i : Nat) (o : Oper), l[i]? = some o → p.act i = false → p.at_ i = k → o.dst ≠ some t) → a'.tmps[t]? = a.tmps[t]? := fun t ht =>
    hfr t fun i hi o ho => ht i o ho ((hmemF i).1 hi).2.1 ((hmemF i).1 hi).2.2
  have hil : ∀ (i : Nat) (o : Oper), l[i]? = some o → i < l.length := fun i o ho => (List.getElem?_eq_some_iff.1 ho).1
  refine ⟨a', ⟨by rw [hsz', hsz], fun t ht => ?_, fun i o ho ha hp hat => ?_, fun i o ho ha hp hat hne => ?_, hnext⟩, hdf, hfr'⟩
  · rw [hfr' t fun i o ho ha hat hd => ht i o ho hd (by unfold doneE; rw [if_neg (by rw [ha]; simp)]; omega)]
    refine hfree t fun j oj hoj hdj hdone => ht j oj hoj hdj ?_
    unfold doneS at hdone
    unfold doneE
    split
    · rename_i hc; rw [if_pos hc] at hdone; exact hdone
    · rename_i hc; rw [if_neg hc] at hdone; omega
  · rcases Nat.lt_or_ge (p.at_ i) k with hlt | hge
    · obtain ⟨b, v, d, hd, hv, hs, hy⟩ := hplain i o ho ha hp hlt
      refine ⟨b, v, d, hd, ?_, fun t ht => ⟨fun j oj hoj hdj => ⟨fun haj => ?_, ((hs t ht).1 j oj hoj hdj).2⟩, (hs t ht).2⟩, hy⟩
      · rw [hfr' d fun i' o' ho' ha' hat' hd' => ?_]
        · exact hv
        · have := h.one i i' o o' d ho ho' hd hd'
          subst this
          omega
      · rw [((hs t ht).1 j oj hoj hdj).1 haj]
        refine (hfr' t fun i' o' ho' ha' hat' hd' => ?_).symm
        obtain rfl := h.one j i' oj o' t hoj ho' hdj hd'
        have hf := (h.flo i o ho ha).2.2.2.2 j (hil j oj hoj) haj
        rw [if_neg (by rw [ha']; simp)] at hf
        omega
    · have hatk : p.at_ i = k := by omega
      obtain ⟨b, v, d, hd, hv, h1, h2, hy⟩ := hall i ((hmemF i).2 ⟨hil i o ho, ha, hatk⟩) o ho hp
      refine ⟨b, v, d, hd, hv (by rw [hsz]; exact h.lt i o d ho hd), fun t ht => ⟨fun j oj hoj hdj => ⟨fun haj => ?_, fun haj => ?_⟩, fun hno => ?_⟩, hy⟩
      · have hf := (h.flo i o ho ha).2.2.2.2 j (hil j oj hoj) haj
        have hlo := h.lower i o ho j (hil j oj hoj) haj
        by_cases hcase : p.act j = false ∧ p.at_ j = k
        · exact h1 t ⟨j, (hmemF j).2 ⟨hil j oj hoj, hcase⟩, hlo, oj, hoj, hdj⟩
        · rw [h2 t fun j' hj' _ oj' hoj' hdj' => by
            obtain rfl := h.one j j' oj oj' t hoj hoj' hdj hdj'
            exact hcase ((hmemF j).1 hj').2]
          refine (hfr' t fun i' o' ho' ha' hat' hd' => ?_).symm
          obtain rfl := h.one j i' oj o' t hoj ho' hdj hd'
          exact hcase ⟨ha', hat'⟩
      · have hr := (h.reads i j o oj t ho hoj hdj ht).resolve_left (by rw [haj]; simp)
        have hlo := h.lower j oj hoj i (hil i o ho) hr.1
        rw [h2 t fun j' hj' hlt oj' hoj' hdj' => by
          obtain rfl := h.one j j' oj oj' t hoj hoj' hdj hdj'
          omega]
        refine hfree t fun j' oj' hoj' hdj' hdone => ?_
        obtain rfl := h.one j j' oj oj' t hoj hoj' hdj hdj'
        unfold doneS at hdone
        by_cases hc : p.act j = true
        · rw [if_pos hc] at hdone
          obtain ⟨m, hm, hem⟩ := hdone
          have hf := (h.eff j m hem).1 i (hil i o ho) hr.1
          rw [if_neg (by rw [ha]; simp)] at hf
          omega
        · rw [if_neg hc] at hdone
          have hf := (h.flo j oj hoj (by simpa using hc)).2.2.2.2 i (hil i o ho) hr.1
          rw [if_neg (by rw [ha]; simp)] at hf
          omega
      · rw [h2 t fun j _ _ oj hoj => hno j oj hoj]
        exact hfree t fun j oj hoj hdj => absurd hdj (hno j oj hoj)
  · refine sames_at hsame i ?_ o ho
    simp only [Plan.checksAt, List.mem_filter, List.mem_range, Bool.and_eq_true, decide_eq_true_eq, ho, ha, hp, Bool.not_false, and_true]
    refine ⟨hil i o ho, ⟨trivial, hat⟩, ?_⟩
    cases k with
    | zero => rfl
    | succ m =>
      simp only
      cases he : p.effs[m]? with
      | none => rfl
      | some e => simp [hne m e rfl he]

/-- The state of the drawn walk: some of what looks has not come up yet. -/
structure Here (P : Program) (l : List Oper) (p : Plan) (N : Nat) (Q : Exit → Act → World → Prop) (a0 : Act) (L : Nat → Bool) (a : Act) (w : World) (k : Nat) (b : Act) : Prop where
  le : k ≤ p.effs.length
  mid : Mid P l p N Q a0 k b w
  defers : a.defers = b.defers
  size : a.tmps.size = N
  acts : ∀ m e, p.effs[m]? = some e → (L e = true ↔ m < k)
  came : ∀ (j : Nat) (o : Oper) (d : Nat), L j = true → l[j]? = some o → o.dst = some d → a.tmps[d]? = b.tmps[d]?
  old : ∀ t, (∀ (j : Nat) (o : Oper), L j = true → l[j]? = some o → o.dst ≠ some t) → a.tmps[t]? = a0.tmps[t]?
  late : ∀ (i : Nat) (o : Oper), l[i]? = some o → p.act i = false → p.at_ i ≤ k → L i = false → ∃ b' v d, o.dst = some d ∧ b.tmps[d]? = some v ∧ Sees p l a0 b i o b' ∧ Yld P l.toArray o b' w v

theorem late_of (h : PlanOK p l N) {Q : Exit → Act → World → Prop} {a0 b : Act} {w : World} {k : Nat} (hm : Mid P l p N Q a0 k b w) {i : Nat} {o : Oper} (ho : l[i]? = some o) (ha : p.act i = false) (hat : p.at_ i ≤ k)
    (hne : ∀ m e, k = m + 1 → p.effs[m]? = some e → p.ahead e i = false) : ∃ b' v d, o.dst = some d ∧ b.tmps[d]? = some v ∧ Sees p l a0 b i o b' ∧ Yld P l.toArray o b' w v := by
  by_cases hp : plainKind o = true
  · obtain ⟨b', v, d, h1, h2, h3, h4⟩ := hm.plain i o ho ha hp hat
    exact ⟨b', v, d, h1, h2, h3, h4 w⟩
  · have hp' : plainKind o = false := by simpa using hp
    have hs := hm.checks i o ho ha hp' hat hne
    obtain ⟨_, ⟨d, hd⟩, _⟩ := h.flo i o ho ha
    have hlt := h.lt i o d ho hd
    have hget : b.tmps[d]? = some (b.tmps.getD d undef) := by
      have := hm.size
      rw [Array.getElem?_eq_getElem (by omega), Array.getD_eq_getD_getElem?, Array.getElem?_eq_getElem (by omega)]
      rfl
    refine ⟨b, b.tmps.getD d undef, d, hd, hget, fun t ht => ⟨fun j oj hoj hdj => ⟨fun _ => rfl, fun hf => ?_⟩, fun hno => ?_⟩, ?_⟩
    · rcases h.reads i j o oj t ho hoj hdj ht with h1 | ⟨_, h1 | h1⟩
      · rw [hf] at h1; cases h1
      · rw [ha] at h1; cases h1
      · rw [hp'] at h1; cases h1
    · exact hm.free t fun j oj hoj hdj => absurd hdj (hno j oj hoj)
    · unfold Same at hs
      rw [hd] at hs
      simp only [Option.getD_some] at hs
      unfold Yld
      by_cases hw : Region.wanted o (yielded l.toArray b.tmps) = true
      · rw [if_pos hw] at hs
        exact .inl ⟨hw, hs⟩
      · rw [if_neg hw] at hs
        exact .inr ⟨by simpa using hw, hs⟩

theorem upon_rel {o : Oper} {a b : Act} (hd : a.defers = b.defers) {K : Act → World → Prop} {Kb : Act → World → Prop} {Q Qb : Exit → Act → World → Prop} (hQb : ∀ e a w, Qb e a w → e = .normal)
    (h : ∀ (a2 b2 : Act) (v : Value) (w2 : World), a2.defers = b2.defers → a2.tmps = (a.put o.dst v).tmps → b2.tmps = (b.put o.dst v).tmps → Kb b2 w2 → K a2 w2) (r : Result Next) (hh : o.upon P b Kb Qb r) : o.upon P a K Q r := by
  have hput : ∀ v, (a.put o.dst v).defers = (b.put o.dst v).defers := fun v => by rw [put_defers, put_defers, hd]
  cases r with
  | ok n w' =>
    cases n <;> simp only [Oper.upon] at hh ⊢
    case value v => exact h _ _ v _ (hput v) rfl rfl hh
    case skip => exact h _ _ undef _ (hput undef) rfl rfl hh
    case defer d =>
      refine h _ _ undef _ ?_ ?_ ?_ hh
      · rw [put_defers, put_defers, hd]
      · cases o.dst <;> rfl
      · cases o.dst <;> rfl
    case enter f args =>
      refine Calls.mono hh fun e w'' he => ?_
      cases e with
      | returned v => exact h _ _ v _ (hput v) rfl rfl he
      | panicked c => have := hQb _ _ _ he; cases this
      | outgrown => obtain ⟨a9, w9, h9⟩ := he; have := hQb _ _ _ h9; cases this
    case row rw args => exact Rows.mono hh fun v w'' he => h _ _ v _ (hput v) rfl rfl he
  | halt x w' =>
    cases x <;> simp only [Oper.upon] at hh ⊢
    case panic v => have := hQb _ _ _ hh; cases this

theorem agree_at (h : PlanOK p l N) {Q : Exit → Act → World → Prop} {a0 a b b' : Act} {w : World} {L : Nat → Bool} {k : Nat} (hc : Came l.toArray L) (hh : Here P l p N Q a0 L a w k b) {i : Nat} {o : Oper} (ho : l[i]? = some o) (hl : L i = false)
    (hdeps : ∀ e ∈ o.after, Region.binds .any e = true → L e.on = true) (hs : Sees p l a0 b i o b') : ∀ t ∈ o.looksAt l.toArray, a.tmps[t]? = b'.tmps[t]? := by
  intro t ht
  have hil : ∀ (i : Nat) (o : Oper), l[i]? = some o → i < l.length := fun i o ho => (List.getElem?_eq_some_iff.1 ho).1
  by_cases hw : ∃ (j : Nat) (oj : Oper), l[j]? = some oj ∧ oj.dst = some t
  · obtain ⟨j, oj, hoj, hdj⟩ := hw
    cases haj : p.ahead i j with
    | true =>
      have hlj := h.closed hc i o ho hdeps j (hil j oj hoj) haj
      rw [hh.came j oj t hlj hoj hdj, ((hs t ht).1 j oj hoj hdj).1 haj]
    | false =>
      have hr := (h.reads i j o oj t ho hoj hdj ht).resolve_left (by rw [haj]; simp)
      rw [((hs t ht).1 j oj hoj hdj).2 haj]
      refine hh.old t fun j' oj' hl' hoj' hdj' => ?_
      obtain rfl := h.one j j' oj oj' t hoj hoj' hdj hdj'
      have := h.closed' hc j oj hoj hl' i (hil i o ho) hr.1
      rw [hl] at this; cases this
  · have hno : ∀ (j : Nat) (oj : Oper), l[j]? = some oj → oj.dst ≠ some t := fun j oj hoj hdj => hw ⟨j, oj, hoj, hdj⟩
    rw [(hs t ht).2 hno, hh.old t fun j oj _ hoj => hno j oj hoj]

theorem region_seq {Q : Exit → Act → World → Prop} {id : Nat} {a0 : Act} {w : World} (p : Plan) (N : Nat) (hm : P.follows .mixedOrders = true) (hlow : lowB l.toArray = true) (hok : p.ok l N = true) (hN : a0.tmps.size = N)
    (hgo : SeqGo P l Q (p.segs l) a0 w.drew) : (Code.region id l.toArray true).wp P Q a0 w := by
  have h : PlanOK p l N := PlanOK.of hok
  have hil : ∀ (i : Nat) (o : Oper), l[i]? = some o → i < l.length := fun i o ho => (List.getElem?_eq_some_iff.1 ho).1
  refine region_inv hm hlow (fun L a w => ∃ k b, Here P l p N Q a0 L a w k b) ?_ ?_ ?_
  · obtain ⟨b, hmid, hdf, _⟩ := mid_of h (a0 := a0) (a := a0) (k := 0) (Nat.zero_le _) (by simpa using hgo) hN (fun _ _ => rfl) (fun i o _ _ _ hlt => absurd hlt (Nat.not_lt_zero _))
    exact ⟨0, b, ⟨Nat.zero_le _, hmid, hdf.symm, hN, (fun m e he => by simp), (fun j o d hl => by cases hl), (fun _ _ => rfl), fun i o ho ha hat _ => late_of h hmid ho ha hat (fun m e hk => by omega)⟩⟩
  · rintro L a w i o ho hli hdeps hc ⟨k, b, hh⟩
    have ho' : l[i]? = some o := by simpa using ho
    have hdeps' : ∀ e ∈ o.after, Region.binds .any e = true → L e.on = true := hdeps
    unfold wpOp
    rw [ho]
    simp only
    cases ha : p.act i with
    | false =>
      obtain ⟨hval, ⟨d, hd⟩, hle, hprev, hplace⟩ := h.flo i o ho' ha
      have hat : p.at_ i ≤ k := by
        cases hk : p.at_ i with
        | zero => omega
        | succ m =>
          obtain ⟨e, he, hae⟩ := hprev m hk
          have := h.closed hc i o ho' hdeps' e (h.efflt e (List.mem_of_getElem? he)) hae
          have := (hh.acts m e he).1 this
          omega
      obtain ⟨b', v, d', hd', hv, hs, hy⟩ := hh.late i o ho' ha hat hli
      rw [hd] at hd'; cases hd'
      have hag := agree_at h hc hh ho' hli hdeps' hs
      have hex : execOp a.eval o = execOp b'.eval o := execOp_same o (h.sel i o ho') hag
      have hwa : Region.wanted o (yielded l.toArray a.tmps) = Region.wanted o (yielded l.toArray b'.tmps) := wanted_same o hag
      have hnew : ∃ k b, Here P l p N Q a0 (fun j => L j || j == i) (a.put o.dst v) w k b := by
        refine ⟨k, b, ⟨hh.le, hh.mid, by rw [put_defers, hh.defers], by rw [put_size, hh.size], fun m e he => ?_, fun j oj dj hj hoj hdj => ?_, fun t ht => ?_, fun i' o' ho' ha' hat' hl' => ?_⟩⟩
        · have hne : (e == i) = false := by
            refine Bool.eq_false_iff.2 fun hb => ?_
            have hb' : e = i := by simpa using hb
            subst hb'
            have : p.act e = true := by simpa [Plan.act] using List.mem_of_getElem? he
            rw [ha] at this; cases this
          simp only [hne, Bool.or_false]
          exact hh.acts m e he
        · rw [hd]
          simp only [Bool.or_eq_true, beq_iff_eq] at hj
          rcases hj with hj | rfl
          · by_cases hdd : dj = d
            · subst hdd
              obtain rfl := h.one j i oj o dj hoj ho' hdj hd
              rw [hj] at hli; cases hli
            · rw [put_get_ne _ _ _ _ (Ne.symm hdd)]
              exact hh.came j oj dj hj hoj hdj
          · rw [ho'] at hoj; cases hoj
            rw [hd] at hdj; cases hdj
            rw [put_get_same _ _ _ (by rw [hh.size]; exact h.lt j o d ho' hd), hv]
        · have htd : d ≠ t := fun e => ht i o (by simp) ho' (by rw [hd, e])
          rw [hd, put_get_ne _ _ _ _ htd]
          exact hh.old t fun j oj hj hoj => ht j oj (by simp [hj]) hoj
        · simp only [Bool.or_eq_false_iff] at hl'
          exact hh.late i' o' ho' ha' hat' hl'.1
      rcases hy with ⟨hwant, hrun⟩ | ⟨hwant, rfl⟩
      · rw [hwa, if_pos hwant]
        refine .inl ?_
        unfold Oper.wp
        rw [hex, hrun]
        exact hnew
      · rw [hwa, if_neg (by rw [hwant]; simp)]
        exact hnew
    | true =>
      obtain ⟨k', hk'lt, hk'⟩ : ∃ k', k' < p.effs.length ∧ p.effs[k']? = some i := by
        have : i ∈ p.effs := by simpa [Plan.act] using ha
        obtain ⟨k', hlt, he⟩ := List.getElem_of_mem this
        exact ⟨k', hlt, by rw [List.getElem?_eq_getElem hlt, he]⟩
      have hkk : k' = k := by
        have h1 : ¬ k' < k := fun hlt => by
          have := (hh.acts k' i hk').2 hlt
          rw [hli] at this; cases this
        cases k' with
        | zero => omega
        | succ m =>
          obtain ⟨e, he, hae⟩ := (h.eff i (m + 1) hk').2 m rfl
          have := h.closed hc i o ho' hdeps' e (h.efflt e (List.mem_of_getElem? he)) hae
          have := (hh.acts m e he).1 this
          omega
      subst hkk
      have hnext := hh.mid.next
      rw [hk'] at hnext
      simp only at hnext
      have hops : opsAt l [i] = [o] := by simp [opsAt, ho']
      rw [hops] at hnext
      have hinj : ∀ m e, p.effs[m]? = some e → e = i → m = k' := fun m e he hei => by
        subst hei
        obtain ⟨hm1, hm2⟩ := List.getElem?_eq_some_iff.1 he
        obtain ⟨hk1, hk2⟩ := List.getElem?_eq_some_iff.1 hk'
        exact (List.getElem_inj h.nodup).1 (hm2.trans hk2.symm)
      have hs : Sees p l a0 b i o b := fun t ht => ⟨fun j oj hoj hdj => ⟨fun _ => rfl, fun hf => by
          have hr := (h.reads i j o oj t ho' hoj hdj ht).resolve_left (by rw [hf]; simp)
          refine hh.mid.free t fun j' oj' hoj' hdj' hdone => ?_
          obtain rfl := h.one j j' oj oj' t hoj hoj' hdj hdj'
          unfold doneE at hdone
          by_cases hc' : p.act j = true
          · rw [if_pos hc'] at hdone
            obtain ⟨m, hm', hem⟩ := hdone
            have := h.closed' hc j oj hoj ((hh.acts m j hem).2 hm') i (hil i o ho') hr.1
            rw [hli] at this; cases this
          · rw [if_neg hc'] at hdone
            have hf' := (h.flo j oj hoj (by simpa using hc')).2.2.2.2 i (hil i o ho') hr.1
            rw [if_pos ha] at hf'
            obtain ⟨m, hm', hem⟩ := hf'
            have := hinj m i hem rfl
            omega⟩, fun hno => hh.mid.free t fun j oj hoj hdj => absurd hdj (hno j oj hoj)⟩
      have hag := agree_at h hc hh ho' hli hdeps' hs
      have hex : execOp a.eval o = execOp b.eval o := execOp_same o (h.sel i o ho') hag
      have hwa : Region.wanted o (yielded l.toArray a.tmps) = Region.wanted o (yielded l.toArray b.tmps) := wanted_same o hag
      have hnd : ∀ (j : Nat) (oj : Oper) (t : Nat), l[j]? = some oj → oj.dst = some t → doneE p k' j → o.dst ≠ some t := fun j oj t hoj hdj hdone hdt => by
        obtain rfl := h.one j i oj o t hoj ho' hdj hdt
        unfold doneE at hdone
        rw [if_pos ha] at hdone
        obtain ⟨m, hm', hem⟩ := hdone
        have := hinj m j hem rfl
        omega
      have cont : ∀ (a2 b2 : Act) (v : Value) (w2 : World), a2.defers = b2.defers → a2.tmps = (a.put o.dst v).tmps → b2.tmps = (b.put o.dst v).tmps → SeqGo P l Q ((p.segs l).drop (k' + 1)) b2 w2 →
          ∃ k b, Here P l p N Q a0 (fun j => L j || j == i) a2 w2 k b := by
        intro a2 b2 v w2 hdf ha2 hb2 hgo2
        have hbput : ∀ t, o.dst ≠ some t → b2.tmps[t]? = b.tmps[t]? := fun t ht => by
          rw [hb2]
          cases hd : o.dst with
          | none => rfl
          | some d => exact put_get_ne _ _ _ _ fun e => ht (by rw [hd, e])
        have haput : ∀ t, o.dst ≠ some t → a2.tmps[t]? = a.tmps[t]? := fun t ht => by
          rw [ha2]
          cases hd : o.dst with
          | none => rfl
          | some d => exact put_get_ne _ _ _ _ fun e => ht (by rw [hd, e])
        obtain ⟨b3, hmid3, hdf3, hfr3⟩ := mid_of h (a0 := a0) (a := b2) (w := w2) (k := k' + 1) (by omega) hgo2 (by rw [hb2, put_size, hh.mid.size])
          (fun t ht => by
            have hne : o.dst ≠ some t := fun hd => ht i o ho' hd (by unfold doneS; rw [if_pos ha]; exact ⟨k', by omega, hk'⟩)
            rw [hbput t hne]
            refine hh.mid.free t fun j oj hoj hdj hdone => ht j oj hoj hdj ?_
            unfold doneE at hdone
            unfold doneS
            split
            · rename_i hc'; rw [if_pos hc'] at hdone
              obtain ⟨m, hm', hem⟩ := hdone
              exact ⟨m, by omega, hem⟩
            · rename_i hc'; rw [if_neg hc'] at hdone; omega)
          (fun i' o2 ho2 ha2' hp2 hlt2 => by
            obtain ⟨b', v', d', h1, h2, h3, h4⟩ := hh.mid.plain i' o2 ho2 ha2' hp2 (by omega)
            refine ⟨b', v', d', h1, ?_, fun t ht => ⟨fun j oj hoj hdj => ⟨fun haj => ?_, ((h3 t ht).1 j oj hoj hdj).2⟩, (h3 t ht).2⟩, h4⟩
            · rw [hbput d' (hnd i' o2 d' ho2 h1 (by unfold doneE; rw [if_neg (by rw [ha2']; simp)]; omega))]
              exact h2
            · rw [((h3 t ht).1 j oj hoj hdj).1 haj]
              refine (hbput t (hnd j oj t hoj hdj ?_)).symm
              have hf := (h.flo i' o2 ho2 ha2').2.2.2.2 j (hil j oj hoj) haj
              unfold doneE
              split
              · rename_i hc'; rw [if_pos hc'] at hf
                obtain ⟨m, hm', hem⟩ := hf
                exact ⟨m, by omega, hem⟩
              · rename_i hc'; rw [if_neg hc'] at hf; omega)
        refine ⟨k' + 1, b3, ⟨by omega, hmid3, by rw [hdf, hdf3], by rw [ha2, put_size, hh.size], fun m e he => ?_, fun j oj d hj hoj hdj => ?_, fun t ht => ?_, fun i' o2 ho2 ha2' hat2 hl2 => ?_⟩⟩
        · by_cases hei : e = i
          · have := hinj m e he hei
            subst hei
            simp [this]
          · have hb : (e == i) = false := by simpa using hei
            simp only [hb, Bool.or_false]
            rw [hh.acts m e he]
            constructor
            · intro h1; omega
            · intro h1
              rcases Nat.lt_or_ge m k' with h2 | h2
              · exact h2
              · have : m = k' := by omega
                subst this
                rw [hk'] at he; cases he
                exact absurd rfl hei
        · have hb3 : b3.tmps[d]? = b2.tmps[d]? := hfr3 d fun i' o2 ho2 ha2' hat2 hd2 => by
            obtain rfl := h.one j i' oj o2 d hoj ho2 hdj hd2
            obtain ⟨e, he, hae⟩ := (h.flo j oj hoj ha2').2.2.2.1 k' hat2
            rw [hk'] at he; cases he
            simp only [Bool.or_eq_true, beq_iff_eq] at hj
            rcases hj with hj | rfl
            · have := h.closed' hc j oj hoj hj i (hil i o ho') hae
              rw [hli] at this; cases this
            · rw [ha] at ha2'; cases ha2'
          rw [hb3]
          simp only [Bool.or_eq_true, beq_iff_eq] at hj
          by_cases hdo : o.dst = some d
          · rw [ha2, hb2, hdo, put_get_same _ _ _ (by rw [hh.size]; exact h.lt i o d ho' hdo), put_get_same _ _ _ (by rw [hh.mid.size]; exact h.lt i o d ho' hdo)]
          · rcases hj with hj | rfl
            · rw [haput d hdo, hbput d hdo]
              exact hh.came j oj d hj hoj hdj
            · rw [ho'] at hoj; cases hoj
              exact absurd hdj hdo
        · have hne : o.dst ≠ some t := fun hd => ht i o (by simp) ho' hd
          rw [haput t hne]
          exact hh.old t fun j oj hj hoj => ht j oj (by simp [hj]) hoj
        · refine late_of h hmid3 ho2 ha2' hat2 fun m e hk1 he => ?_
          obtain rfl : m = k' := by omega
          rw [hk'] at he; cases he
          simp only [Bool.or_eq_false_iff] at hl2
          refine Bool.eq_false_iff.2 fun hb => ?_
          have := h.closed hc i o ho' hdeps' i' (hil i' o2 ho2) hb
          rw [hl2.1] at this; cases this
      simp only [wpList] at hnext
      by_cases hw : Region.wanted o (yielded l.toArray b.tmps) = true
      · rw [if_pos hw] at hnext
        rw [hwa, if_pos hw]
        rcases hnext with hnext | ⟨_, a9, w9, h9⟩
        · refine .inl ?_
          unfold Oper.wp at hnext ⊢
          rw [hex]
          exact upon_rel hh.defers (fun e a w h => h.1) (fun a2 b2 v w2 h1 h2 h3 h4 => cont a2 b2 v w2 h1 h2 h3 h4.2) _ hnext
        · cases h9.1
      · rw [if_neg hw] at hnext
        rw [hwa, if_neg hw]
        exact cont _ _ undef _ (by rw [put_defers, put_defers, hh.defers]) rfl rfl hnext.2
  · rintro L a w hall ⟨k, b, hh⟩
    have hkm : k = p.effs.length := by
      rcases Nat.lt_or_ge k p.effs.length with hlt | hge
      · have he : p.effs[k]? = some p.effs[k] := List.getElem?_eq_getElem hlt
        have := (hh.acts k _ he).1 (hall _ (by simpa using h.efflt _ (List.mem_of_getElem? he)))
        omega
      · have := hh.le; omega
    have hnext := hh.mid.next
    rw [List.getElem?_eq_none (by omega)] at hnext
    simp only at hnext
    have hab : a = b := by
      refine act_ext hh.defers (by rw [hh.size, hh.mid.size]) fun t _ => ?_
      by_cases hw : ∃ (j : Nat) (oj : Oper), l[j]? = some oj ∧ oj.dst = some t
      · obtain ⟨j, oj, hoj, hdj⟩ := hw
        exact hh.came j oj t (hall j (by simpa using hil j oj hoj)) hoj hdj
      · have hno : ∀ (j : Nat) (oj : Oper), l[j]? = some oj → oj.dst ≠ some t := fun j oj hoj hdj => hw ⟨j, oj, hoj, hdj⟩
        rw [hh.old t fun j oj _ hoj => hno j oj hoj, hh.mid.free t fun j oj hoj hdj => absurd hdj (hno j oj hoj)]
    rw [hab]
    exact hnext

theorem region_plan {Q : Exit → Act → World → Prop} {id : Nat} {a0 : Act} {w : World} (p : Plan) (segs : List Seg) (N : Nat) (hm : P.follows .mixedOrders = true) (hlow : lowB l.toArray = true) (hok : p.ok l N = true) (hs : p.segs l = segs) (hN : a0.tmps.size = N)
    (hgo : SeqGo P l Q segs a0 w.drew) : (Code.region id l.toArray true).wp P Q a0 w := region_seq p N hm hlow hok hN (by rw [hs]; exact hgo)
theorem opsAt_nil (l : List Oper) : opsAt l [] = [] := rfl
theorem opsAt_cons (l : List Oper) (i : Nat) (r : List Nat) : opsAt l (i :: r) = (l[i]?).toList ++ opsAt l r := by
  unfold opsAt
  cases h : l[i]? <;> simp [h]
end
end Go.Proofs.YtmjjnaaiakchhaaDoor
end

section
/-
  append in a drawn region; rows of the call's own in later worlds.
-/
namespace Go.Proofs.YtmjjnaaiakchhaaDoor
open Go.RowKit Go.ChangeShapes Go.WideShapes Go.ChangeAt

/-- append onto a row of the call's own, whatever is appended: as it runs. -/
theorem run_app {P : Program} {w : World} (t ty e : TypeId) (z : Value) (bytes : Nat) (ht : P.underlying t = some (.slice e))
    (hinfo : (P.info? e).map (fun i => (i.zero, i.size, i.bytes)) = some (some z, 1, bytes)) (hzs : z.cells.size = 1) (base : Nat) {v u : Value} {n : Nat} {xs ys : List Value} (hown : w.ownsRow base e 1 v n xs)
    (hr : Rd w u ys) (h1 : ∀ y ∈ ys, y.oneCell' = true) (hb1 : 1 ≤ bytes) (hbytes : (n + ys.length) * bytes ≤ 140737488355328) (hbase : base ≤ w.heap.size) :
    ∃ v' w', (Builtin.append_ #[t, t] ty #[v, u]).run P w = .ok v' w' ∧ w'.ownsRow base e 1 v' (n + ys.length) (xs ++ ys) ∧ Below base w w' := by
  obtain ⟨i, hi, hz0, hz1, hz2⟩ := info_parts hinfo
  have h63 : n + ys.length ≤ maxLen := by
    have h2 : n + ys.length ≤ (n + ys.length) * bytes := Nat.le_mul_of_pos_right _ hb1
    unfold maxLen; omega
  obtain ⟨A, c, rfl, hc1, hc2, h0, h3⟩ := hr
  cases A with
  | none =>
    obtain rfl : c = 0 := h0 rfl
    obtain rfl : ys = [] := List.eq_nil_of_length_eq_zero (by omega)
    exact ⟨v, w, run_append_owned_none (P := P) (w := w) base t ty e i 1 ht hi v n xs hown, by simpa using hown, Below.refl _ _⟩
  | some ad =>
    obtain ⟨v', w', h4, h5, h6, _⟩ := run_append_own w base t ty e i z 1 bytes ht hi hz0 hz1 hz2 hzs (by decide) v n xs hown ad ys.length c ys (by simp) (by
      intro j y hj
      rcases h3 with rfl | ⟨b, o', hA, h3⟩
      · simp at hj
      · obtain rfl : ad = ⟨b, o', none⟩ := by simpa using hA
        obtain ⟨hlt, rfl⟩ := List.getElem?_eq_some_iff.1 hj
        rw [← h3 j hlt]
        congr 1
        unfold Addr.add; split <;> simp_all) h1 h63 hbytes hbase
    exact ⟨v', w', h4, h5, (Below.refl base w).grown h6 hbase (fun k hk => (hown.lt k hk).1)⟩
theorem upon_app {P : Program} {o : Oper} {ρ : Operand → Value} {a : Act} {w : World} {K : Act → World → Prop} {Q : Exit → Act → World → Prop} (s x : Operand) (t : TypeId)
    (ho : o.op = .call { callee := .builtin .append, args := #[s, x], argTypes := #[t, t] }) (e : TypeId) (z : Value) (bytes : Nat) (ht : P.underlying t = some (.slice e))
    (hinfo : (P.info? e).map (fun i => (i.zero, i.size, i.bytes)) = some (some z, 1, bytes)) (hzs : z.cells.size = 1) (base : Nat) {v u : Value} {n : Nat} {xs ys : List Value} (hs : ρ s = v) (hown : w.ownsRow base e 1 v n xs)
    (hx : ρ x = u) (hr : Rd w u ys) (h1 : ∀ y ∈ ys, y.oneCell' = true) (hb1 : 1 ≤ bytes) (hbytes : (n + ys.length) * bytes ≤ 140737488355328) (hbase : base ≤ w.heap.size)
    (h : ∀ v' w', w'.ownsRow base e 1 v' (n + ys.length) (xs ++ ys) → Below base w w' → K (a.put o.dst v') w') : o.upon P a K Q ((execOp ρ o).run P w) := by
  obtain ⟨v', w', h4, h5, h6⟩ := run_app (P := P) t o.type e z bytes ht hinfo hzs base hown hr h1 hb1 hbytes hbase
  simp [execOp, ho, resolve, invoke, builtin, hs, hx, h4, Result.andThen]
  exact h _ _ h5 h6
theorem ownsRow_mono {w : World} {base b : Nat} {e : TypeId} {size : Nat} {v : Value} {n : Nat} {xs : List Value} (h : w.ownsRow base e size v n xs) (hb : b ≤ base) : w.ownsRow b e size v n xs :=
  ⟨h.1, h.2.imp id fun ⟨g, cap, cur, h1, h2, h3⟩ => ⟨g, cap, cur, h1, Nat.le_trans hb h2, h3⟩⟩
theorem ownsRow_keep {w w' : World} {base B : Nat} {e : TypeId} {size : Nat} {v : Value} {n : Nat} {xs : List Value} (h : w.ownsRow base e size v n xs) (hb : Below B w w') (hB : w.heap.size ≤ B) : w'.ownsRow base e size v n xs := by
  refine ⟨h.1, h.2.imp id ?_⟩
  rintro ⟨g, cap, cur, h1, h2, h3, h4⟩
  exact ⟨g, cap, cur, h1, h2, (hb.block g (by have := (Array.getElem?_eq_some_iff.1 h3).1; omega)).trans h3, h4⟩

end Go.Proofs.YtmjjnaaiakchhaaDoor
end
