/-
  What is laid, in both: plain laws.
-/
import Derived.Test.YtlgcnnhlbkidmaaRsame
namespace Go.Proofs.Ytlgcnnhlbkidmaa
open Go.RowKit

theorem ins_last {α : Type} (f : Bt × α) : ∀ l : List (Bt × α), (∀ g ∈ l, bytesBefore g.1 f.1 = true) → insF f l = l ++ [f]
  | [], _ => rfl
  | g :: r, h => by
    have h1 := h g List.mem_cons_self
    have h2 : ¬ bytesBefore f.1 g.1 = true := fun h3 => by
      have := WideShapes.bytes_trans _ _ _ h1 h3
      rw [WideAt.bytes_irrefl] at this
      cases this
    unfold insF
    rw [if_neg h2, ins_last f r (fun x hx => h x (List.mem_cons_of_mem _ hx))]
    rfl
theorem less_before : ∀ a b : List UInt8, Op.bytesLess a b = bytesBefore a b
  | [], [] => rfl
  | [], _ :: _ => rfl
  | _ :: _, [] => rfl
  | a :: x, b :: y => by simp only [Op.bytesLess, bytesBefore, less_before x y]
theorem rp_true_all (f : FileA) : ∀ r : List FileA, (∀ x ∈ r, x.nm.data.toList ≠ f.nm.data.toList) → rp f true r = r
  | [], _ => rfl
  | y :: t, h => by
    have h1 := rp_true_all f t fun x hx => h x (List.mem_cons_of_mem _ hx)
    have h2 : (y.nm.toList == f.nm.toList) = false := by
      rw [ByteArray.toList_eq, ByteArray.toList_eq]
      simpa using h y List.mem_cons_self
    simp only [rp, Bool.not_true, Bool.false_and, Bool.false_eq_true, if_false, Bool.true_or, h1, h2, List.nil_append]
    rfl
theorem rp_view (f : FileA) : ∀ acc : List FileA, Rise (acc.map viewF) → (rp f false acc).map viewF = putF (acc.map viewF) f.nm.data.toList (fileS f)
  | [], _ => rfl
  | x :: r, h => by
    have hx := (List.pairwise_cons.1 h).1
    have hr := (List.pairwise_cons.1 h).2
    have ih := rp_view f r hr
    have hle : leN_ f.nm x.nm = (bytesBefore f.nm.data.toList x.nm.data.toList || f.nm.data.toList == x.nm.data.toList) := by
      unfold leN_; rw [ByteArray.toList_eq, ByteArray.toList_eq, less_before]
    have hmem : ∀ y ∈ r, bytesBefore x.nm.data.toList y.nm.data.toList = true := fun y hy => hx (viewF y) (List.mem_map_of_mem hy)
    by_cases he : x.nm.data.toList = f.nm.data.toList
    · have h1 : (x.nm.toList == f.nm.toList) = true := by rw [ByteArray.toList_eq, ByteArray.toList_eq]; simpa using he
      have h2 : leN_ f.nm x.nm = true := by rw [hle, he]; simp
      have h3 : rp f true r = r := rp_true_all f r fun y hy e => by
        have := hmem y hy
        rw [he, e, WideAt.bytes_irrefl] at this
        cases this
      have h4 : putF ((x :: r).map viewF) f.nm.data.toList (fileS f) = ((x :: r).map viewF).set 0 (f.nm.data.toList, fileS f) := putF_set h (i := 0) (u := fileS x) (by simp [viewF, he]) _
      rw [h4]
      simp only [rp, Bool.not_false, h2, Bool.and_self, if_true, h1, List.nil_append, Bool.or_true, h3, List.map_cons, List.map_append, List.map_nil, List.set_cons_zero]
      rfl
    · have h1 : (x.nm.toList == f.nm.toList) = false := by rw [ByteArray.toList_eq, ByteArray.toList_eq]; simpa using he
      have h5 : (f.nm.data.toList == x.nm.data.toList) = false := by simpa using Ne.symm he
      have h6 : delF ((x :: r).map viewF) f.nm.data.toList = viewF x :: delF (r.map viewF) f.nm.data.toList := by
        unfold delF
        rw [List.map_cons, List.filter_cons]
        have : ((viewF x).1 == f.nm.data.toList) = false := by simpa [viewF] using he
        simp [this]
      cases hb : bytesBefore f.nm.data.toList x.nm.data.toList
      · have h2 : leN_ f.nm x.nm = false := by rw [hle, hb, h5]; rfl
        unfold putF at ih ⊢
        rw [h6]
        simp only [insF]
        rw [if_neg (by show ¬ bytesBefore _ (viewF x).1 = true; unfold viewF; simp [hb]), ← ih]
        simp only [rp, h2, Bool.and_false, Bool.false_eq_true, if_false, List.nil_append, h1, Bool.or_false, List.map_append, List.map_cons, List.map_nil]
        rfl
      · have h2 : leN_ f.nm x.nm = true := by rw [hle, hb]; rfl
        have hne : ∀ y ∈ r, y.nm.data.toList ≠ f.nm.data.toList := fun y hy e => by
          have h7 := WideShapes.bytes_trans _ _ _ hb (hmem y hy)
          rw [e, WideAt.bytes_irrefl] at h7
          cases h7
        have h3 := rp_true_all f r hne
        have h8 : delF (r.map viewF) f.nm.data.toList = r.map viewF := delF_none (lookF_none.2 fun g hg => by
          obtain ⟨y, hy, rfl⟩ := List.mem_map.1 hg
          exact hne y hy)
        unfold putF
        rw [h6, h8]
        simp only [insF]
        rw [if_pos (by show bytesBefore _ (viewF x).1 = true; exact hb)]
        simp only [rp, Bool.not_false, h2, Bool.and_self, if_true, h1, Bool.false_eq_true, if_false, Bool.or_true, h3, List.map_append, List.map_cons, List.map_nil]
        rfl
theorem rl_view : ∀ (l acc : List FileA), Rise (acc.map viewF) → (rl acc l).map (·.map viewF) = ld (acc.map viewF) l
  | [], acc, _ => rfl
  | f :: r, acc, h => by
    have h1 := rp_view f acc h
    have h2 := rl_view r (rp f false acc) (by rw [h1]; exact putF_rise h _ _)
    simp only [rl, ld]
    split
    · rw [h2, h1]
    · rfl
theorem rl_ok : ∀ (l acc m : List FileA), rl acc l = some m → ∀ f ∈ m, f ∈ acc ∨ (f ∈ l ∧ okF f = true)
  | [], acc, m, h, f, hf => by cases h; exact .inl hf
  | x :: r, acc, m, h, f, hf => by
    simp only [rl] at h
    split at h
    · rename_i hok
      rcases rl_ok r _ _ h f hf with h1 | ⟨h1, h2⟩
      · rcases rp_mem _ _ _ _ h1 with rfl | h1
        · exact .inr ⟨List.mem_cons_self, hok⟩
        · exact .inl h1
      · exact .inr ⟨List.mem_cons_of_mem _ h1, h2⟩
    · cases h
/-- Both answer alike. -/
theorem loads_both (fs : Files) (old l : List FileA) (h : old.map viewF = fs) : (loadS fs l).1 = (rloadS old l).1 ∧ (loadS fs l).2 = (rloadS old l).2.map viewF := by
  have hv := rl_view l [] List.Pairwise.nil
  unfold loadS rloadS
  cases hm : rl [] l with
  | none =>
    rw [hm] at hv
    have : ld [] l = none := hv.symm
    rw [this]
    exact ⟨rfl, h.symm⟩
  | some m =>
    rw [hm] at hv
    have : ld [] l = some (m.map viewF) := hv.symm
    rw [this]
    simp only [List.length_map]
    split
    · exact ⟨rfl, h.symm⟩
    · exact ⟨rfl, rfl⟩
theorem rload_mem (old l : List FileA) : ∀ f ∈ (rloadS old l).2, f ∈ old ∨ (f ∈ l ∧ okF f = true) := by
  intro f hf
  unfold rloadS at hf
  split at hf
  · exact .inl hf
  · rename_i m hm
    split at hf
    · exact .inl hf
    · rcases rl_ok _ _ _ hm f hf with h | h
      · cases h
      · exact .inr h
/-- Files as they are told are laid again as they were. -/
theorem ld_again : ∀ (l : List FileA) (acc : Files), (∀ f ∈ l, okF f = true) → Rise (acc ++ l.map viewF) → ld acc l = some (acc ++ l.map viewF)
  | [], acc, _, _ => by simp [ld]
  | f :: r, acc, hok, h => by
    have h1 : ∀ g ∈ acc, bytesBefore g.1 (viewF f).1 = true := fun g hg => (List.pairwise_append.1 h).2.2 g hg (viewF f) (by simp)
    have hne : lookF acc f.nm.data.toList = none := lookF_none.2 fun g hg e => by
      have := h1 g hg
      have e' : g.1 = (viewF f).1 := e
      rw [e', WideAt.bytes_irrefl] at this
      cases this
    have h2 : putF acc f.nm.data.toList (fileS f) = acc ++ [viewF f] := by
      unfold putF
      rw [delF_none hne]
      exact ins_last (f.nm.data.toList, fileS f) acc h1
    simp only [ld, hok f List.mem_cons_self, if_true]
    rw [h2, ld_again r (acc ++ [viewF f]) (fun g hg => hok g (List.mem_cons_of_mem _ hg)) (by simpa using h)]
    simp
end Go.Proofs.Ytlgcnnhlbkidmaa
