/- PLAIN: of each timer what was to come; in which order. -/
import Derived.Test.YtjlapnnmdfdjdaaC0
namespace Go.Proofs.Ytjlapnnmdfdjdaa
def timesF : Tm → Nat → List (Int × Int)
  | _, 0 => []
  | t, m + 1 => (t.n, t.a) :: timesF ⟨t.n, t.a + t.e, t.e⟩ m
theorem cnt_mem {to : Int} {t : Tm} : ∀ {L : List Tm}, t ∈ L → cnt1 to t ≤ cnt to L
  | [], h => by cases h
  | x :: L, h => by
    rw [cnt_cons]
    rcases List.mem_cons.1 h with rfl | h
    · omega
    · have := cnt_mem (to := to) h; omega
theorem mem_fire1 {t x : Tm} {L : List Tm} (h : x ∈ fire1 t L) : x ∈ L ∨ (0 < t.e ∧ x = ⟨t.n, t.a + t.e, t.e⟩) := by
  unfold fire1 at h
  split at h
  · rename_i c
    rcases mem_laid.1 h with h | h
    · exact .inr ⟨c.1, h⟩
    · exact .inl h
  · exact .inl h
theorem fire1_of {t x : Tm} {L : List Tm} (h : x ∈ L) : x ∈ fire1 t L := by
  unfold fire1
  split
  · exact mem_laid.2 (.inr h)
  · exact h
/-- Whose firing it is. -/
theorem fires_from {to : Int} : ∀ (k : Nat) (L : List Tm) (x : Int × Int), x ∈ (fires to k L).1 → (∃ t ∈ L, x.1 = t.n ∧ t.a ≤ x.2) ∧ x.2 ≤ to
  | 0, _, x, h => by simp [fires] at h
  | _ + 1, [], x, h => by simp [fires] at h
  | k + 1, t :: L, x, h => by
    unfold fires at h
    split at h
    · rename_i c
      rcases List.mem_cons.1 h with rfl | h
      · exact ⟨⟨t, List.mem_cons_self, rfl, Int.le_refl _⟩, c⟩
      · obtain ⟨⟨y, hy, h1, h2⟩, h3⟩ := fires_from k _ x h
        refine ⟨?_, h3⟩
        rcases mem_fire1 hy with hy | ⟨he, rfl⟩
        · exact ⟨y, List.mem_cons_of_mem _ hy, h1, h2⟩
        · exact ⟨t, List.mem_cons_self, h1, by simp only at h2; omega⟩
    · simp at h
theorem fires_order {to now : Int} : ∀ (k : Nat) (L : List Tm), Fit now L → (fires to k L).1.Pairwise fun x y => x.2 < y.2 ∨ (x.2 = y.2 ∧ x.1 < y.1)
  | 0, _, _ => by simp [fires]
  | _ + 1, [], _ => by simp [fires]
  | k + 1, t :: L, hf => by
    unfold fires
    split
    · refine List.pairwise_cons.2 ⟨fun x hx => ?_, fires_order k _ hf.fire1⟩
      obtain ⟨⟨y, hy, h1, h2⟩, _⟩ := fires_from k _ x hx
      rcases mem_fire1 hy with hy | ⟨he, rfl⟩
      · have := Tm.lt_iff.1 ((List.pairwise_cons.1 hf.sor).1 y hy)
        simp only
        omega
      · simp only at h1 h2 ⊢
        omega
    · simp
theorem fires_each {to now : Int} (hm : to ≤ 1099511627776) : ∀ (k : Nat) (L : List Tm), Fit now L → cnt to L ≤ k → ∀ t ∈ L, (fires to k L).1.filter (fun x => decide (x.1 = t.n)) = timesF t (cnt1 to t)
  | 0, L, hf, hk, t, ht => by
    have : cnt1 to t = 0 := by
      have := cnt_mem (to := to) ht
      omega
    rw [this]
    rfl
  | k + 1, [], hf, hk, t, ht => by cases ht
  | k + 1, h :: L, hf, hk, t, ht => by
    by_cases c : h.a ≤ to
    · have hc := cnt_fire1 (L := L) c hm
      have hk2 : cnt to (fire1 h L) ≤ k := by omega
      have ih := fires_each hm k (fire1 h L) hf.fire1 hk2
      unfold fires
      rw [if_pos c]
      simp only [List.filter_cons]
      by_cases e : t = h
      · subst e
        rw [if_pos (by simp)]
        by_cases cr : 0 < t.e ∧ t.e ≤ 1099511627776 - t.a
        · have hin : (⟨t.n, t.a + t.e, t.e⟩ : Tm) ∈ fire1 t L := by unfold fire1; rw [if_pos cr]; exact mem_laid.2 (.inl rfl)
          rw [ih _ hin, ← cnt1_next c cr.1]
          rfl
        · rw [cnt1_last c hm cr]
          have hno : (fires to k (fire1 t L)).1.filter (fun x => decide (x.1 = t.n)) = [] := by
            rw [List.filter_eq_nil_iff]
            intro x hx hd
            obtain ⟨⟨y, hy, h1, _⟩, _⟩ := fires_from k _ x hx
            have hd' := of_decide_eq_true hd
            unfold fire1 at hy
            rw [if_neg cr] at hy
            exact hf.fresh y hy (h1.symm.trans hd')
          rw [hno]
          rfl
      · have htL : t ∈ L := (List.mem_cons.1 ht).resolve_left e
        have hne : h.n ≠ t.n := fun q => hf.fresh t htL q.symm
        rw [if_neg (by simpa using hne)]
        exact ih t (fire1_of htL)
    · have h0 := cnt_zero hf.sor (to := to) (by omega)
      have : cnt1 to t = 0 := by
        have := cnt_mem (to := to) ht
        omega
      rw [this]
      unfold fires
      rw [if_neg c]
      rfl
/-- Behind it nothing is left that should have fired. -/
theorem cnt_none {to : Int} : ∀ {L : List Tm}, cnt to L = 0 → ∀ t ∈ L, to < t.a
  | [], _, t, h => by cases h
  | x :: L, h, t, ht => by
    rw [cnt_cons] at h
    rcases List.mem_cons.1 ht with rfl | ht
    · unfold cnt1 at h
      split at h
      · assumption
      · split at h <;> omega
    · exact cnt_none (by omega) t ht
theorem Fit.later {now to : Int} {L : List Tm} (h : Fit now L) (h0 : cnt to L = 0) : Fit to L :=
  ⟨h.sor, fun t ht => by have h1 := cnt_none h0 t ht; have h2 := h.rng t ht; omega, h.nod⟩
end Go.Proofs.Ytjlapnnmdfdjdaa
