/- Rows of numbers: cloned, sorted, made compact. -/
import Derived.Test.YtbgnchddeklmeaaK1
import Derived.Test.YtbgnchddeklmeaaS0
import Derived.Sort.OwnSortedInts
import Derived.Lib.RowBridge
namespace Go.Proofs.Ytbgnchddeklmeaa
open Go.RowKit

abbrev I (xs : List Int) : List Value := xs.map (Value.int .i64)
def sortI (xs : List Int) : List Int := xs.mergeSort fun x y => decide (x ≤ y)
theorem sortI_length (xs : List Int) : (sortI xs).length = xs.length := List.length_mergeSort ..
theorem RowAt.ints {w : World} {X : Option Addr} {xs : List Int} (h : RowAt w X (I xs)) : xs = [] ∨ ∃ b off, X = some ⟨b, off, none⟩ ∧ b < w.heap.size ∧ ∀ j, j < xs.length → w.cell? ⟨b, off + j, none⟩ = some (.int .i64 (xs.getD j 0)) := by
  rcases h with h | ⟨b, off, e, hl, hc⟩
  · exact .inl (List.map_eq_nil_iff.1 h)
  · refine .inr ⟨b, off, e, hl, fun j hj => ?_⟩
    have := hc j (by simpa using hj)
    rw [this]
    simp [List.getD, hj]
theorem clone_c {w : World} {X : Option Addr} {xs : List Int} (d : Nat) (h : RowAt w X (I xs)) (hl : xs.length ≤ 4096) :
    Calls Try.prog 24 #[.slice X xs.length d] w fun e w' => ∃ v, e = .returned v ∧ w'.ownsRow w.heap.size 3 1 v xs.length (I xs) ∧ Below w.heap.size w w' := by
  rcases h.ints with rfl | ⟨b, off, rfl, hb, hc⟩
  · cases X with
    | none => exact (Try.slices_Clone_int_nil _ _ _).mono (by rintro e w' ⟨rfl, rfl⟩; exact ⟨_, rfl, ⟨rfl, .inl ⟨rfl, rfl⟩⟩, Below.refl _ _⟩)
    | some a => exact (Try.slices_Clone_int_zero a d w).mono (by rintro e w' ⟨v, rfl, ho, _, hB⟩; exact ⟨v, rfl, ho, hB⟩)
  · exact (Try.slices_Clone_int b off xs.length d xs w (Nat.le_refl _) (by omega) hc).mono (by rintro e w' ⟨v, rfl, ho, _, hB⟩; rw [List.take_length] at ho; exact ⟨v, rfl, ho, hB⟩)
theorem own_ints_cases {w : World} {B n : Nat} {e : TypeId} {v : Value} {xs : List Int} (h : w.ownsRow B e 1 v n (I xs)) : (v = .slice none 0 0 ∧ n = 0 ∧ xs = []) ∨
    ∃ g cap cur, v = .slice (some ⟨g, 0, none⟩) n cap ∧ n = xs.length ∧ B ≤ g ∧ g < w.heap.size ∧ w.heap[g]? = some (.cells cur e (0, 0)) ∧ n ≤ cap ∧ cap ≤ maxLen ∧ cur.size = cap * 1 ∧ cur.toList.take xs.length = I xs := by
  have hl : n = xs.length := by have := h.1; simp at this; omega
  rcases h.2 with ⟨rfl, h0⟩ | ⟨g, cap, cur, rfl, hB, hh, h1, h2, h3, h4⟩
  · exact .inl ⟨rfl, h0, List.eq_nil_of_length_eq_zero (by omega)⟩
  · exact .inr ⟨g, cap, cur, rfl, hl, hB, (Array.getElem?_eq_some_iff.1 hh).1, hh, h1, h2, h3, by rw [Nat.mul_one, hl] at h4; exact h4⟩
theorem sort_c {w : World} {B : Nat} {v : Value} {xs : List Int} (h : w.ownsRow B 3 1 v xs.length (I xs)) (hl : xs.length ≤ 4096) :
    Calls Try.prog 25 #[v] w fun e w' => e = .returned (.tuple #[]) ∧ w'.ownsRow B 3 1 v xs.length (I (sortI xs)) ∧ w.grownBy w' v.ownBlock := by
  rcases own_ints_cases h with ⟨rfl, h0, rfl⟩ | ⟨g, cap, cur, rfl, _, hB, hg, hh, h1, h2, h3, h4⟩
  · exact (Try.slices_Sort_int_none _ _ _).mono (by rintro e w' ⟨rfl, rfl⟩; exact ⟨rfl, ⟨by simp [sortI], .inl ⟨rfl, rfl⟩⟩, World.grownBy.refl _ _⟩)
  · refine (Try.slices_Sort_int g 0 cap xs w (holds_of_blockI hh h4) hg (by omega)).mono ?_
    rintro e w' ⟨rfl, n, os, rfl⟩
    exact ⟨rfl, ownsRow_sortedI (sortI_length xs) hB hh h1 h2 h3, grownBy_sortedI _⟩
/-- Only the length of what compact gives back is wanted here. -/
theorem compact_c {w : World} {B : Nat} {v : Value} {xs : List Int} (h : w.ownsRow B 3 1 v xs.length (I xs)) (hl : xs.length ≤ 4096) :
    Calls Try.prog 26 #[v] w fun e w' => (∃ X d, e = .returned (.slice X (Lib.compact xs).length d)) ∧ w.grownBy w' v.ownBlock := by
  rcases own_ints_cases h with ⟨rfl, h0, rfl⟩ | ⟨g, cap, cur, rfl, _, hB, hg, hh, h1, h2, h3, h4⟩
  · exact (Try.slices_Compact_int_empty none 0 w).mono (by rintro e w' ⟨rfl, rfl⟩; exact ⟨⟨none, 0, rfl⟩, World.grownBy.refl _ _⟩)
  · refine (Try.slices_Compact_int g 0 cap xs w (holds_of_blockI hh h4) (by omega) h1).mono ?_
    rintro e w' ⟨rfl, q, rfl⟩
    exact ⟨⟨_, _, rfl⟩, by have := grownBy_sortedI (w := w) (g := g) (n := q) (os := #[]) (Lib.compact xs ++ List.replicate (xs.length - (Lib.compact xs).length) 0).toArray; rwa [Sort.grow_empty] at this⟩
end Go.Proofs.Ytbgnchddeklmeaa
