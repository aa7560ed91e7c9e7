/- PLAIN: by turns, or by how often, each that is always ready is picked in time. -/
import Derived.Test.YtbgnchddeklmeaaK11
namespace Go.Proofs.Ytbgnchddeklmeaa
open Go.RowKit
/-- How far off the pick of a is. -/
def Dist (fair : Bool) (last count : Int) (often : Nat → Int) (a D : Int) : Prop :=
  if fair = true then D = (a - count) % 12 ∧ 0 ≤ count ∧ ∀ i : Nat, i < 12 → often i = (count + 11 - i) / 12 else D = (a - last - 1) % 12 ∧ -1 ≤ last ∧ last < 12
theorem rnd_spec (last : Int) {l : List Int} (h0 : 0 < l.length) (hl : l.Pairwise (· < ·)) {a : Int} (ha : a ∈ l) (hr : ∀ x ∈ l, 0 ≤ x ∧ x < 12) (hla : -1 ≤ last ∧ last < 12) :
    0 ≤ l[rndK last l]'(rndK_lt last h0) ∧ l[rndK last l]'(rndK_lt last h0) < 12 ∧ (l[rndK last l]'(rndK_lt last h0) ≠ a → (a - l[rndK last l]'(rndK_lt last h0) - 1) % 12 + 1 ≤ (a - last - 1) % 12) := by
  obtain ⟨m, hm, hma⟩ := List.mem_iff_getElem.1 ha
  have hb := hr _ (List.getElem_mem (rndK_lt last h0))
  have hra := hr a ha
  refine ⟨hb.1, hb.2, fun hne => ?_⟩
  have hp := List.pairwise_iff_getElem.1 hl
  cases hf : l.findIdx? (fun n => decide (last < n)) with
  | none =>
    have hk : rndK last l = 0 := by unfold rndK; rw [hf]; rfl
    simp only [hk] at hb hne ⊢
    have h1 := List.findIdx?_eq_none_iff.1 hf a ha
    have h2 : l[0] < a := by
      rcases Nat.eq_zero_or_pos m with h | h
      · subst h; exact absurd hma hne
      · have := hp 0 m h0 hm h; omega
    simp at h1
    omega
  | some i =>
    have hk : rndK last l = i := by unfold rndK; rw [hf]; rfl
    obtain ⟨hi, h1, h2⟩ := List.findIdx?_eq_some_iff_getElem.1 hf
    simp only [hk] at hb hne ⊢
    simp at h1
    rcases Nat.lt_trichotomy m i with h | h | h
    · have h3 := h2 m h
      simp at h3
      rw [hma] at h3
      omega
    · subst h; exact absurd hma hne
    · have h3 := hp i m hi hm h
      rw [hma] at h3
      omega
theorem minAt_first {l : List Int} (h : 0 < l.length) : ∃ hk : minAt l < l.length, (∀ x ∈ l, l[minAt l] ≤ x) ∧ ∀ j (hj : j < l.length), j < minAt l → l[minAt l] < l[j] := by
  obtain ⟨k, h1, hk, h2, h3⟩ := idxOf_at (minOf_mem h)
  have h4 : minAt l = k := by unfold minAt; rw [h1]; simp
  simp only [h4]
  refine ⟨hk, fun x hx => by rw [h2]; exact minOf_le hx, fun j hj hjk => ?_⟩
  have h5 := h3 j hj hjk
  have h6 := minOf_le (List.getElem_mem hj)
  omega
def all12 : List Int := someL 4095 12
theorem all12_eq : all12 = [0, 1, 2, 3, 4, 5, 6, 7, 8, 9, 10, 11] := by decide
theorem all12_get (i : Nat) (h : i < all12.length) : all12[i] = i := by
  have h1 : i < 12 := by rw [all12_eq] at h; simpa using h
  simp only [all12_eq]
  have : ∀ i : Fin 12, ([0, 1, 2, 3, 4, 5, 6, 7, 8, 9, 10, 11] : List Int)[i.val]'(by have := i.isLt; simp) = (i.val : Int) := by decide
  exact this ⟨i, h1⟩
theorem all12_length : all12.length = 12 := by rw [all12_eq]; rfl
theorem oft_get (often : Nat → Int) (l : List Int) (j : Nat) (h : j < (oft often l).length) (h2 : j < l.length) : (oft often l)[j]'h = often (l[j]'h2).toNat := List.getElem_map _
theorem fair_spec {often : Nat → Int} {c : Int} (ho : ∀ i : Nat, i < 12 → often i = (c + 11 - i) / 12) (h0 : 0 < all12.length) :
    all12[fairK often all12]'(fairK_lt often h0) = c % 12 := by
  have hol : (oft often all12).length = 12 := by rw [oft_length, all12_length]
  obtain ⟨hk, h1, h2⟩ := minAt_first (l := oft often all12) (by omega)
  have hg : ∀ j (hj : j < (oft often all12).length), (oft often all12)[j] = (c + 11 - j) / 12 := fun j hj => by
    have hj2 : j < all12.length := by rw [all12_length]; omega
    rw [oft_get often all12 j hj hj2, all12_get j hj2, Int.toNat_natCast]
    exact ho j (by omega)
  rw [all12_get]
  show ((minAt (oft often all12) : Nat) : Int) = c % 12
  obtain ⟨r, hr⟩ : ∃ r : Nat, (r : Int) = c % 12 := ⟨(c % 12).toNat, by omega⟩
  have hr12 : r < (oft often all12).length := by omega
  have h3 := h1 _ (List.getElem_mem hr12)
  rw [hg, hg] at h3
  rcases Nat.lt_trichotomy (minAt (oft often all12)) r with h | h | h
  · omega
  · omega
  · have h4 := h2 r hr12 h
    rw [hg, hg] at h4
    omega
theorem dist_round {last count : Int} {often : Nat → Int} {a D : Int} (h : Dist false last count often a D) {l : List Int} (h0 : 0 < l.length) (hl : l.Pairwise (· < ·)) (ha : a ∈ l) (hr : ∀ x ∈ l, 0 ≤ x ∧ x < 12) :
    ∃ D', Dist false (l[rndK last l]'(rndK_lt last h0)) (count + 1) (bump often (l[rndK last l]'(rndK_lt last h0))) a D' ∧ 0 ≤ D' ∧ D' ≤ 11 ∧ (l[rndK last l]'(rndK_lt last h0) ≠ a → D' + 1 ≤ D) := by
  unfold Dist at h
  rw [if_neg (by decide)] at h
  have hra := hr a ha
  obtain ⟨h1, h2, h3⟩ := rnd_spec last h0 hl ha hr h.2
  refine ⟨(a - (l[rndK last l]'(rndK_lt last h0)) - 1) % 12, ?_, by omega, by omega, fun hne => by have := h3 hne; omega⟩
  unfold Dist
  rw [if_neg (by decide)]
  exact ⟨rfl, by omega, h2⟩
theorem dist_fair {last count : Int} {often : Nat → Int} {a D : Int} (h : Dist true last count often a D) (h0 : 0 < all12.length) (ha : 0 ≤ a ∧ a < 12) :
    ∃ D', Dist true (all12[fairK often all12]'(fairK_lt often h0)) (count + 1) (bump often (all12[fairK often all12]'(fairK_lt often h0))) a D' ∧ 0 ≤ D' ∧ D' ≤ 11 ∧ (all12[fairK often all12]'(fairK_lt often h0) ≠ a → D' + 1 ≤ D) := by
  unfold Dist at h
  rw [if_pos rfl] at h
  rw [fair_spec h.2.2 h0]
  refine ⟨(a - (count + 1)) % 12, ?_, by omega, by omega, fun hne => by omega⟩
  unfold Dist
  rw [if_pos rfl]
  refine ⟨rfl, by omega, fun i hi => ?_⟩
  have := h.2.2 i hi
  unfold bump
  split <;> omega
end Go.Proofs.Ytbgnchddeklmeaa
