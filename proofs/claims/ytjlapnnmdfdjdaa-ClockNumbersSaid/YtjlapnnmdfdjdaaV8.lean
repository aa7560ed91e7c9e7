/- PLAIN: heaps in a list: up, down, what a push, a pop, a mending leave. -/
import Derived.Test.YtjlapnnmdfdjdaaV0
namespace Go.Proofs.Ytjlapnnmdfdjdaa
open Go.RowKit
section
variable {α : Type} [Inhabited α]
def swpL (L : List α) (i j : Nat) : List α := (L.set i L[j]!).set j L[i]!
theorem swpL_length (L : List α) (i j : Nat) : (swpL L i j).length = L.length := by simp [swpL]
theorem swpL_get {L : List α} {i j : Nat} (hi : i < L.length) (hj : j < L.length) (k : Nat) : (swpL L i j)[k]! = if k = j then L[i]! else if k = i then L[j]! else L[k]! := by
  unfold swpL
  simp only [List.getElem!_eq_getElem?_getD, List.getElem?_set, List.length_set]
  by_cases h1 : k = j
  · subst h1; simp [hj]
  · by_cases h2 : k = i
    · subst h2; simp [h1, hi, Ne.symm h1]
    · simp [h1, h2, Ne.symm h1, Ne.symm h2]
theorem swpL_perm {L : List α} {i j : Nat} (hi : i < L.length) (hj : j < L.length) : (swpL L i j).Perm L := by
  have h := Array.swap_perm (xs := L.toArray) (i := i) (j := j) (by simpa using hi) (by simpa using hj)
  have h2 := Array.perm_iff_toList_perm.1 h
  have e : (L.toArray.swap i j (by simpa using hi) (by simpa using hj)).toList = swpL L i j := by
    unfold swpL
    rw [getElem!_pos L i hi, getElem!_pos L j hj]
    simp [Array.swap]
  rw [e] at h2
  exact h2
def par (k : Nat) : Nat := (k - 1) / 2
theorem par_lt {k : Nat} (h : 0 < k) : par k < k := by unfold par; omega
/-- How one stands ahead of another. -/
structure Ord (lt : α → α → Bool) : Prop where
  asym : ∀ a b, lt a b = true → lt b a = false
  tr : ∀ a b c, lt b a = false → lt c b = false → lt c a = false
variable {lt : α → α → Bool}
omit [Inhabited α] in
theorem Ord.irrefl (h : Ord lt) (a : α) : lt a a = false := by
  cases e : lt a a with
  | false => rfl
  | true => have := h.asym a a e; rw [e] at this; cases this
/-- The first n are a heap. -/
def Heap (lt : α → α → Bool) (L : List α) (n : Nat) : Prop := ∀ k, 0 < k → k < n → lt L[k]! L[par k]! = false
/-- They are but for the place i: all beneath it are fit for what is above it. -/
def Near (lt : α → α → Bool) (L : List α) (n i : Nat) : Prop :=
  (∀ k, 0 < k → k < n → k ≠ i → par k ≠ i → lt L[k]! L[par k]! = false) ∧ ∀ k, 0 < k → k < n → 0 < i → par k = i → lt L[k]! L[par i]! = false
/-- They are but for the way from i up. -/
def UpTo (lt : α → α → Bool) (L : List α) (n i : Nat) : Prop :=
  (∀ k, 0 < k → k < n → k ≠ i → lt L[k]! L[par k]! = false) ∧ ∀ k, 0 < k → k < n → 0 < i → par k = i → lt L[k]! L[par i]! = false
theorem UpTo.near {L : List α} {n i : Nat} (h : UpTo lt L n i) : Near lt L n i := ⟨fun k h0 h1 h2 _ => h.1 k h0 h1 h2, h.2⟩
theorem Heap.upTo (o : Ord lt) {L : List α} {n : Nat} (h : Heap lt L n) (i : Nat) (hi : i < n) : UpTo lt L n i :=
  ⟨fun k h0 h1 _ => h k h0 h1, fun k h0 h1 hi0 hp => o.tr _ _ _ (h i hi0 hi) (by have := h k h0 h1; rwa [hp] at this)⟩
theorem UpTo.heap {L : List α} {n i : Nat} (h : UpTo lt L n i) (hi : 0 < i → i < n → lt L[i]! L[par i]! = false) : Heap lt L n := fun k h0 h1 => by
  by_cases e : k = i
  · subst e; exact hi h0 h1
  · exact h.1 k h0 h1 e
theorem UpTo.step (o : Ord lt) {L : List α} {n i : Nat} (h : UpTo lt L n i) (hn : n ≤ L.length) (hi : i < n) (h0 : 0 < i) (hl : lt L[i]! L[par i]! = true) : UpTo lt (swpL L (par i) i) n (par i) := by
  have hp := par_lt h0
  have g := swpL_get (L := L) (i := par i) (j := i) (by omega) (by omega)
  have hpi : par (par i) ≠ i := by unfold par at *; omega
  constructor
  · intro k hk0 hk1 hk
    have hkp := par_lt hk0
    rw [g, g]
    by_cases e : k = i
    · subst e
      rw [if_pos rfl, if_neg (by omega), if_pos rfl]
      exact o.asym _ _ hl
    · rw [if_neg e, if_neg hk]
      by_cases e2 : par k = i
      · rw [if_pos e2]
        exact h.2 k hk0 hk1 h0 e2
      · rw [if_neg e2]
        by_cases e3 : par k = par i
        · rw [if_pos e3]
          have := h.1 k hk0 hk1 e
          rw [e3] at this
          exact o.tr _ _ _ (o.asym _ _ hl) this
        · rw [if_neg e3]
          exact h.1 k hk0 hk1 e
  · intro k hk0 hk1 hp0 hk
    have hkp := par_lt hk0
    have hpp := par_lt hp0
    have hpar := h.1 (par i) hp0 (by omega) (by omega)
    have hq : par (par i) ≠ par i := by omega
    by_cases e : k = i
    · subst e; rw [g, g, if_pos rfl, if_neg hpi, if_neg hq]; exact hpar
    · have hk2 : k ≠ par i := by omega
      rw [g, g, if_neg hpi, if_neg hq, if_neg e, if_neg hk2]
      have := h.1 k hk0 hk1 e
      rw [hk] at this
      exact o.tr _ _ _ hpar this
theorem par_child {k i : Nat} (h : 0 < k) : par k = i ↔ k = 2 * i + 1 ∨ k = 2 * i + 2 := by unfold par; omega
theorem Near.step (o : Ord lt) {L : List α} {n i j : Nat} (h : Near lt L n i) (hn : n ≤ L.length) (hj : j < n) (h0 : 0 < j) (hp : par j = i) (hl : lt L[j]! L[i]! = true)
    (hm : ∀ k, 0 < k → k < n → par k = i → lt L[k]! L[j]! = false) : Near lt (swpL L i j) n j ∧ lt (swpL L i j)[j]! (swpL L i j)[par j]! = false ∧ (0 < i → lt (swpL L i j)[i]! (swpL L i j)[par i]! = false) := by
  have hij : i < j := by have := par_lt h0; omega
  have g := swpL_get (L := L) (i := i) (j := j) (by omega) (by omega)
  refine ⟨⟨fun k hk0 hk1 hk hkj => ?_, fun k hk0 hk1 _ hk => ?_⟩, ?_, fun hi0 => ?_⟩
  · have hkp := par_lt hk0
    rw [g, g, if_neg hk, if_neg hkj]
    by_cases e : k = i
    · subst e
      rw [if_pos rfl, if_neg (by omega)]
      exact h.2 j h0 hj hk0 hp
    · rw [if_neg e]
      by_cases e2 : par k = i
      · rw [if_pos e2]; exact hm k hk0 hk1 e2
      · rw [if_neg e2]; exact h.1 k hk0 hk1 e e2
  · have hkp := par_lt hk0
    rw [g, g, if_neg (by omega), if_neg (by omega), hp, if_neg (by omega), if_pos rfl]
    have := h.1 k hk0 hk1 (by omega) (by omega)
    rw [hk] at this
    exact this
  · rw [g, g, if_pos rfl, hp, if_neg (by omega), if_pos rfl]
    exact o.asym _ _ hl
  · have := par_lt hi0
    rw [g, g, if_neg (by omega), if_pos rfl, if_neg (by omega), if_neg (by omega)]
    exact h.2 j h0 hj hi0 hp
theorem Near.done {L : List α} {n i : Nat} (h : Near lt L n i) (hm : ∀ k, 0 < k → k < n → par k = i → lt L[k]! L[i]! = false) : UpTo lt L n i :=
  ⟨fun k h0 h1 hk => by
    by_cases e : par k = i
    · have := hm k h0 h1 e; rwa [← e] at this
    · exact h.1 k h0 h1 hk e, h.2⟩
theorem Heap.root (o : Ord lt) {L : List α} {n : Nat} (h : Heap lt L n) : ∀ k, k < n → lt L[k]! L[0]! = false := by
  intro k
  induction k using Nat.strongRecOn with
  | ind k ih =>
    intro hk
    by_cases h0 : k = 0
    · subst h0; exact o.irrefl _
    · have hp := par_lt (by omega : 0 < k)
      exact o.tr _ _ _ (ih _ hp (by omega)) (h k (by omega) hk)
/-- One more at the end. -/
theorem Heap.pushed {L : List α} (h : Heap lt L L.length) (a : α) : UpTo lt (L ++ [a]) (L.length + 1) L.length := by
  have g : ∀ k, k < L.length → (L ++ [a])[k]! = L[k]! := fun k hk => by
    rw [getElem!_pos _ k (by simp; omega), getElem!_pos _ k hk, List.getElem_append_left hk]
  refine ⟨fun k h0 h1 hk => ?_, fun k h0 h1 _ hp => ?_⟩
  · have := par_lt h0
    rw [g k (by omega), g _ (by omega)]
    exact h k h0 (by omega)
  · have := par_lt h0; omega
/-- One's place is given to another. -/
theorem Heap.put (o : Ord lt) {L : List α} {n : Nat} (h : Heap lt L n) {i : Nat} (a : α) (hi : i < n) : Near lt (L.set i a) n i := by
  have hg : ∀ k, k ≠ i → (L.set i a)[k]! = L[k]! := fun k hk => by
    simp only [List.getElem!_eq_getElem?_getD, List.getElem?_set]; rw [if_neg (Ne.symm hk)]
  refine ⟨fun k h0 h1 hk hp => ?_, fun k h0 h1 hi0 hp => ?_⟩
  · rw [hg k hk, hg _ hp]; exact h k h0 h1
  · have hkp := par_lt h0
    have hip := par_lt hi0
    rw [hg k (by omega), hg _ (by omega)]
    have := h k h0 h1
    rw [hp] at this
    exact o.tr _ _ _ (h i hi0 hi) this
theorem Near.congr {L M : List α} {n i : Nat} (h : Near lt L n i) (e : ∀ k, k < n → M[k]! = L[k]!) (hi : i < n) : Near lt M n i :=
  ⟨fun k h0 h1 hk hp => by have := par_lt h0; rw [e k h1, e _ (by omega)]; exact h.1 k h0 h1 hk hp, fun k h0 h1 hi0 hp => by have := par_lt hi0; rw [e k h1, e _ (by omega)]; exact h.2 k h0 h1 hi0 hp⟩
theorem Heap.congr {L M : List α} {n : Nat} (h : Heap lt L n) (e : ∀ k, k < n → M[k]! = L[k]!) : Heap lt M n :=
  fun k h0 h1 => by have := par_lt h0; rw [e k h1, e _ (by omega)]; exact h k h0 h1
theorem Heap.less {L : List α} {n m : Nat} (h : Heap lt L n) (hm : m ≤ n) : Heap lt L m := fun k h0 h1 => h k h0 (by omega)
/-- The last takes the place of i. -/
theorem Heap.swapped (o : Ord lt) {L : List α} {n i : Nat} (h : Heap lt L (n + 1)) (hn : n + 1 = L.length) (hi : i < n) : Near lt (swpL L i n) n i := by
  refine (h.less (Nat.le_succ n)).put o L[n]! hi |>.congr (fun k hk => ?_) hi
  rw [swpL_get (by omega) (by omega), if_neg (by omega)]
  by_cases e : k = i
  · subst e
    rw [if_pos rfl, getElem!_pos _ k (by rw [List.length_set]; omega)]
    simp
  · rw [if_neg e]
    simp only [List.getElem!_eq_getElem?_getD, List.getElem?_set]; rw [if_neg (Ne.symm e)]
theorem get_take {L : List α} {n k : Nat} (hk : k < n) : (L.take n)[k]! = L[k]! := by
  simp only [List.getElem!_eq_getElem?_getD, List.getElem?_take]
  rw [if_pos hk]
theorem swpL_last {L : List α} {n i : Nat} (hn : n + 1 = L.length) (hi : i ≤ n) : (swpL L i n)[n]! = L[i]! := by
  rw [swpL_get (by omega) (by omega), if_pos rfl]
theorem split_last {L : List α} {n : Nat} (hn : n + 1 = L.length) : L = L.take n ++ [L[n]!] := by
  rw [getElem!_pos L n (by omega), ← List.take_succ_eq_append_getElem (by omega), hn, List.take_length]
end
end Go.Proofs.Ytjlapnnmdfdjdaa
