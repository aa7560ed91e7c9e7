/- PLAIN: an Advance, firing by firing. -/
import Derived.Test.YtjlapnnmdfdjdaaC3
namespace Go.Proofs.Ytjlapnnmdfdjdaa
/-- As far as j firings. -/
theorem fires_round {to now : Int} (hm : to ≤ 1099511627776) : ∀ (j : Nat) (L : List Tm), Fit now L → j ≤ cnt to L → (fires to j L).1.length = j ∧ cnt to (fires to j L).2 + j = cnt to L ∧ Fit now (fires to j L).2
  | 0, L, hf, _ => ⟨rfl, rfl, hf⟩
  | j + 1, [], hf, h => by simp [cnt] at h
  | j + 1, t :: L, hf, h => by
    have hc : t.a ≤ to := by
      apply Classical.byContradiction
      intro c
      have := cnt_zero hf.sor (to := to) (by omega)
      omega
    have hcf := cnt_fire1 (L := L) hc hm
    obtain ⟨h1, h2, h3⟩ := fires_round hm j (fire1 t L) hf.fire1 (by omega)
    unfold fires
    rw [if_pos hc]
    exact ⟨by simp only [List.length_cons, h1], by simp only; omega, h3⟩
theorem fires_next {to now : Int} (hm : to ≤ 1099511627776) {L l : List Tm} {x : Tm} {j : Nat} (hf : Fit now L) (hj : j ≤ cnt to L) (he : (fires to j L).2 = x :: l) (hx : x.a ≤ to) :
    fires to (j + 1) L = ((fires to j L).1 ++ [(x.n, x.a)], fire1 x l) ∧ j + 1 ≤ cnt to L := by
  obtain ⟨h1, h2, _⟩ := fires_round hm j L hf hj
  rw [he] at h2
  have h3 : 0 < cnt to (x :: l) := by
    have := cnt1_pos.2 hx
    rw [cnt_cons]
    omega
  refine ⟨?_, by omega⟩
  rw [fires_split (Int.le_refl to) j 1 L h1, he]
  simp only [fires, if_pos hx]
theorem fires_end {to now : Int} (hm : to ≤ 1099511627776) {L : List Tm} {j : Nat} (hf : Fit now L) (hj : j ≤ cnt to L) (he : ∀ x l, (fires to j L).2 = x :: l → to < x.a) : j = cnt to L := by
  obtain ⟨_, h2, h3⟩ := fires_round hm j L hf hj
  cases hL : (fires to j L).2 with
  | nil => rw [hL, show cnt to [] = 0 from rfl] at h2; omega
  | cons x l =>
    have := he x l hL
    rw [hL] at h2 h3
    rw [cnt_zero h3.sor this] at h2
    omega
/-- The sum of what fires, cut at a little more than may be told: it is past the bound just where the whole is. -/
def capN (to : Int) (t : Tm) : Nat := min (cnt1 to t) 4097
theorem cap_cnt (to : Int) (L : List Tm) : (∀ k, k ≤ L.length → ((L.take k).map (capN to)).sum ≤ 4096) ∨ 4096 < cnt to L := by
    by_cases h : 4096 < cnt to L
    · exact .inr h
    · refine .inl fun k _ => ?_
      have hle : ∀ l : List Tm, (l.map (capN to)).sum ≤ cnt to l := fun l => by
        induction l with
        | nil => simp [cnt]
        | cons x l ih =>
          rw [cnt_cons, List.map_cons, List.sum_cons]
          have : capN to x ≤ cnt1 to x := Nat.min_le_left _ _
          omega
      have h2 : cnt to (L.take k) ≤ cnt to L := by
        have e : cnt to L = cnt to (L.take k) + cnt to (L.drop k) := by
          conv => lhs; rw [← List.take_append_drop k L]
          unfold cnt
          rw [List.map_append, List.sum_append]
        omega
      have := hle (L.take k)
      omega
theorem cap_all (to : Int) : ∀ L : List Tm, (L.map (capN to)).sum ≤ 4096 → (L.map (capN to)).sum = cnt to L
  | [], _ => rfl
  | x :: L, h => by
    rw [List.map_cons, List.sum_cons] at h ⊢
    rw [cnt_cons, cap_all to L (by omega)]
    unfold capN at h ⊢
    omega
end Go.Proofs.Ytjlapnnmdfdjdaa
