/- A clock in memory: how often a timer fires. -/
import Derived.Test.YtjlapnnmdfdjdaaC15
import Derived.Test.YtjlapnnmdfdjdaaC5
import Derived.Test.YtjlapnnmdfdjdaaV23
namespace Go.Proofs.Ytjlapnnmdfdjdaa
open Go.RowKit
theorem firings_c {t : Tm} {T : Int} (ha : 0 ≤ t.a ∧ t.a ≤ 1099511627776) (he : 0 ≤ t.e ∧ t.e ≤ 1099511627776) (ht : 0 ≤ T ∧ T ≤ 1099511627776) (w : World) :
    Calls Try.prog 27 #[t.val, .int .i64 T] w fun e w' => e = .returned (.int .i64 (capN T t : Nat)) ∧ Below w.heap.size w w' := by
  obtain ⟨tn, ta, te⟩ := t
  simp only at ha he
  unfold Tm.val
  simp only
  have hb : Below w.heap.size w (w.alloc (.cells #[.int .i64 tn, .int .i64 ta, .int .i64 te] 39)) := (Below.refl _ _).alloc (Nat.le_refl _) _
  have HB := Lib.hid hb
  clear hb
  obtain ⟨N, hN⟩ : ∃ N, N = capN T ⟨tn, ta, te⟩ := ⟨_, rfl⟩
  rw [← hN]
  by_cases h1 : T < ta
  · have e : N = 0 := by rw [hN]; unfold capN cnt1; simp only; rw [if_pos h1]; rfl
    rw [e]
    clear hN e
    go_enter Try.func27, Try.ntmps27
    go_wp2
    go_ret
    exact ⟨rfl, HB.out⟩
  · by_cases h2 : te = 0
    · have e : N = 1 := by rw [hN]; unfold capN cnt1; simp only; rw [if_neg h1, if_pos (by omega)]; rfl
      rw [e]
      subst h2
      clear hN e
      go_enter Try.func27, Try.ntmps27
      go_wp2
      go_ret
      exact ⟨rfl, HB.out⟩
    · obtain ⟨q, hq⟩ : ∃ q : Nat, (T - ta).tdiv te = (q : Int) ∧ (T - ta) / te = (q : Int) ∧ (q : Int) ≤ 1099511627776 := by
        have h0 : 0 ≤ (T - ta) / te := Int.ediv_nonneg (by omega) (by omega)
        have h3 : (T - ta) / te ≤ T - ta := Int.ediv_le_self _ (by omega)
        exact ⟨((T - ta) / te).toNat, by rw [Int.tdiv_eq_ediv_of_nonneg (by omega)]; omega, by omega, by omega⟩
      obtain ⟨q1, q2, q3⟩ := hq
      have e : (N : Int) = min (1 + (q : Int)) 4097 := by rw [hN]; unfold capN cnt1; simp only; rw [if_neg h1, if_neg (by omega), q2]; omega
      have hne : (te == 0) = false := by simpa using h2
      rw [e]
      clear hN e
      go_enter Try.func27, Try.ntmps27
      go_wp2
      go_ret
      exact ⟨rfl, HB.out⟩
end Go.Proofs.Ytjlapnnmdfdjdaa
