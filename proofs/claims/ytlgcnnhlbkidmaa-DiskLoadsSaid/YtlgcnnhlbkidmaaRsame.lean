/-
  The reference's Same, at files that are the same.
-/
import Derived.Test.YtlgcnnhlbkidmaaDiskI
import Derived.Test.YtlgcnnhlbkidmaaAwakeD
namespace Go.Proofs.Ytlgcnnhlbkidmaa
open Go.RowKit

set_option maxRecDepth 100000 in
set_option maxHeartbeats 2000000 in
theorem rsame_any (w : World) (u v : Value) (l m : List FileA) (hu : FR w u l) (hv : FR w v m) (hl : l.map viewF = m.map viewF) (hk : ∀ f ∈ l, 0 ≤ f.kept) (hk2 : ∀ f ∈ m, 0 ≤ f.kept) :
    Calls Try.prog 64 #[u, v] w fun e w' => e = .returned (.bool true) ∧ Below w.heap.size w w' := by
  have hlen : l.length = m.length := by have := congrArg List.length hl; simpa using this
  obtain ⟨A, c, rfl, hc1, hc2, _⟩ := hu.sl
  obtain ⟨A', c', rfl, hc1', hc2', _⟩ := hv.sl
  obtain ⟨n, hn⟩ : ∃ n, l.length = n := ⟨_, rfl⟩
  have hn' : m.length = n := by rw [← hlen, hn]
  rw [hn] at hu hc1 ⊢
  rw [hn'] at hv hc1' ⊢
  unfold maxLen at hc2 hc2'
  have HU := Lib.hid hu; have HV := Lib.hid hv; have HL := Lib.hid (fun _ : Unit => hl); have HK := Lib.hid hk; have HK2 := Lib.hid hk2; have HN := Lib.hid (fun _ : Unit => hn); have HN2 := Lib.hid (fun _ : Unit => hn')
  clear hu hv hl hk hk2 hn hn' hlen
  go_enter Try.func64, Try.ntmps64
  go_wp2_with fail
  go_loopw [5] (fun y wr => ∃ (k : Nat), k ≤ n ∧ y = .int .i64 k ∧ Below w.heap.size w wr) (fun y _ => n - (intOf y).toNat)
  case atStart => exact ⟨0, Nat.zero_le _, rfl, Below.refl _ _⟩
  case round =>
    obtain ⟨k, hk, rfl, hbw⟩ := hrel
    obtain ⟨wo, rfl⟩ : ∃ wo : World, wo = wr := ⟨_, rfl⟩
    by_cases hlt : k < n
    · obtain ⟨b, o, xn, Ax, nx, cx, xd, xk, hA, hn', hX, hnx, hxn, hxk, kq0, kq1, kq2⟩ := HU.out.elem (k := k) (by rw [HN.out ()]; exact hlt)
      obtain ⟨b', o', yn, Ay, ny, cy, yd, yk, hA', hn'', hY, hny, hyn, hyk, kp0, kp1, kp2⟩ := HV.out.elem (k := k) (by rw [HN2.out ()]; exact hlt)
      subst hA hA'
      have hvv : viewF ⟨xn, .slice Ax nx cx, xd, xk⟩ = viewF ⟨yn, .slice Ay ny cy, yd, yk⟩ := by
        have h1 := congrArg (·[k]?) (HL.out ())
        simp only [List.getElem?_map, hX, hY, Option.map_some] at h1
        exact Option.some.inj h1
      unfold viewF fileS at hvv
      simp only [Prod.mk.injEq, FileS.mk.injEq] at hvv
      obtain ⟨e1, e2, e3⟩ := hvv
      have hx0 := HK.out _ (List.mem_of_getElem? hX)
      have hy0 := HK2.out _ (List.mem_of_getElem? hY)
      simp only at hx0 hy0
      have e3' : xk = yk := by omega
      have e1' : xn = yn := by
        cases xn with | mk a => cases yn with | mk b => exact congrArg ByteArray.mk (Array.toList_inj.1 e1)
      subst e1' e2 e3'
      have hrx := (HU.out.good _ (List.mem_of_getElem? hX)).rd
      have hry := (HV.out.good _ (List.mem_of_getElem? hY)).rd
      simp only at hrx hry
      have cvx : ∀ w', Below w.heap.size w w' → (convert 22 9 (.slice Ax nx cx)).run Try.prog w' = .ok (.string (strOf xd)) w' := fun w' h => conv_rd (hrx.stay h (Nat.le_refl _))
      have cvy : ∀ w', Below w.heap.size w w' → (convert 22 9 (.slice Ay ny cy)).run Try.prog w' = .ok (.string (strOf xd)) w' := fun w' h => conv_rd (hry.stay h (Nat.le_refl _))
      have hbd : Below w.heap.size w wo.drew := bw_d1 hbw
      clear hX hY hrx hry e1 e3 hn' hn'' hnx hny hx0 hy0
      go_upto_region 6 with fail
      refine region_plan ⟨[0, 0, 3, 7, 15, 0, 0, 96, 224, 480, 1023, 2047, 4095, 4095, 16383, 32767, 65535, 4095, 4095, 397311, 921599, 1970175, 4194303, 8388607, 16777215, 33554431, 33554431, 134217727, 268435455, 536870911, 1073741823, 33554431, 33554431, 6476005375, 15065939967, 32245809151, 66605547519, 137438953471, 274877906943], [], [0, 0, 0, 0, 0, 0, 0, 0, 0, 0, 0, 0, 0, 0, 0, 0, 0, 0, 0, 0, 0, 0, 0, 0, 0, 0, 0, 0, 0, 0, 0, 0, 0, 0, 0, 0, 0, 0, 0]⟩
        [⟨[0, 1, 2, 3, 4, 5, 6, 7, 8, 9, 10, 11, 12, 13, 14, 15, 16, 17, 18, 19, 20, 21, 22, 23, 24, 25, 26, 27, 28, 29, 30, 31, 32, 33, 34, 35, 36, 37, 38], [2, 3, 4, 7, 8, 9, 10, 14, 15, 16, 19, 20, 21, 22, 27, 28, 29, 30, 33, 34, 35, 36, 37], none⟩] 56 (by kernel_rfl) (by kernel_rfl) (by kernel_rfl) (by kernel_rfl) rfl ?_
      simp only [SeqGo, opsAt_cons, opsAt_nil, List.getElem?_cons, Option.toList_some, List.singleton_append, ↓reduceIte, Nat.reduceEqDiff, Nat.reduceSub]
      go_wp2_with fail
      refine ⟨by (simp only [Sames, Same]; go_simp), ?_⟩
      go_wp2_with fail
      exact ⟨⟨k + 1, by omega, by simp, hbd⟩, by simp [intOf]; omega⟩
    · obtain rfl : k = n := by omega
      go_wp2_with fail
      all_goals go_ret
      exact ⟨rfl, hbw⟩
end Go.Proofs.Ytlgcnnhlbkidmaa
