/- PLAIN: timers on a heap: what the calls of the heap leave, of the row in order. -/
import Derived.Test.YtjlapnnmdfdjdaaV8
import Derived.Test.YtjlapnnmdfdjdaaC3
namespace Go.Proofs.Ytjlapnnmdfdjdaa
theorem tm_ord : Ord Tm.lt := ⟨fun a b h => by have h1 := Tm.lt_iff.1 h; exact Tm.lt_no.2 (by omega), fun a b c h k => by have h1 := Tm.lt_no.1 h; have h2 := Tm.lt_no.1 k; exact Tm.lt_no.2 (by omega)⟩
/-- A heap of the timers L. -/
structure HeapOf (H L : List Tm) : Prop where
  perm : H.Perm L
  heap : Heap Tm.lt H H.length
theorem HeapOf.length {H L : List Tm} (h : HeapOf H L) : H.length = L.length := h.perm.length_eq
/-- The first on the heap is the first in order. -/
theorem HeapOf.first {H l : List Tm} {x : Tm} (h : HeapOf H (x :: l)) (hs : Sor (x :: l)) : H[0]! = x := by
  have hl := h.length
  rw [List.length_cons] at hl
  have h0 : 0 < H.length := by omega
  have hin : H[0]! ∈ x :: l := h.perm.mem_iff.1 (by rw [getElem!_pos H 0 h0]; exact List.getElem_mem h0)
  rcases List.mem_cons.1 hin with e | hin
  · exact e
  · have h1 := (List.pairwise_cons.1 hs).1 _ hin
    obtain ⟨k, hk, e⟩ := List.mem_iff_getElem.1 (h.perm.mem_iff.2 (show x ∈ x :: l from List.mem_cons_self))
    have h2 := h.heap.root tm_ord k hk
    rw [getElem!_pos H k hk, e] at h2
    rw [h1] at h2
    cases h2
theorem HeapOf.popped {H H' l : List Tm} {x : Tm} (h : HeapOf H (x :: l)) (hs : Sor (x :: l)) (hp : (H[0]! :: H').Perm H) (hh : Heap Tm.lt H' H'.length) : HeapOf H' l := by
  rw [h.first hs] at hp
  exact ⟨(hp.trans h.perm).cons_inv, hh⟩
theorem HeapOf.pushed {H H' L : List Tm} {t : Tm} (h : HeapOf H L) (hp : H'.Perm (H ++ [t])) (hh : Heap Tm.lt H' H'.length) : HeapOf H' (laid t L) :=
  ⟨hp.trans ((h.perm.append_right [t]).trans ((List.perm_append_singleton t L).trans (laid_perm t L).symm)), hh⟩
theorem without_cons {k : Int} {L : List Tm} {x : Tm} (hx : x.n = k) (hno : ∀ y ∈ L, y.n ≠ k) : without k (x :: L) = L := by
  unfold without
  rw [List.filter_cons, if_neg (by simp [hx])]
  exact List.filter_eq_self.2 fun y hy => by simp [hno y hy]
theorem without_perm {k : Int} {A B : List Tm} (h : A.Perm B) : (without k A).Perm (without k B) := h.filter _
/-- Each number once: what is left but for the place i. -/
theorem HeapOf.left {H H' L : List Tm} {i : Nat} (h : HeapOf H L) (hn : (L.map (·.n)).Nodup) (hp : (H[i]! :: H').Perm H) : H'.Perm (without H[i]!.n L) := by
  have hn2 : ((H[i]! :: H').map (·.n)).Nodup := ((hp.trans h.perm).map (·.n)).nodup_iff.2 hn
  rw [List.map_cons, List.nodup_cons] at hn2
  have h1 : without H[i]!.n (H[i]! :: H') = H' := without_cons rfl fun y hy e => hn2.1 (List.mem_map.2 ⟨y, hy, e⟩)
  have h2 := without_perm (k := H[i]!.n) (hp.trans h.perm)
  rw [h1] at h2
  exact h2
theorem HeapOf.removed {H H' L : List Tm} {i : Nat} (h : HeapOf H L) (hn : (L.map (·.n)).Nodup) (hp : (H[i]! :: H').Perm H) (hh : Heap Tm.lt H' H'.length) : HeapOf H' (without H[i]!.n L) := ⟨h.left hn hp, hh⟩
theorem set_perm {H : List Tm} {i : Nat} (hi : i < H.length) (t : Tm) : (H.set i t).Perm (t :: (H.take i ++ H.drop (i + 1))) ∧ (H[i]! :: (H.take i ++ H.drop (i + 1))).Perm H := by
  have hs : H = H.take i ++ H[i]! :: H.drop (i + 1) := by rw [getElem!_pos H i hi, List.getElem_cons_drop, List.take_append_drop]
  constructor
  · rw [List.set_eq_take_append_cons_drop, if_pos hi]
    exact List.perm_middle
  · conv => rhs; rw [hs]
    exact List.perm_middle.symm
/-- A timer is given another time (or period): mended, it is the row with that one laid. -/
theorem HeapOf.fixed {H H' L : List Tm} {i : Nat} {t : Tm} (h : HeapOf H L) (hn : (L.map (·.n)).Nodup) (hi : i < H.length) (hp : H'.Perm (H.set i t)) (hh : Heap Tm.lt H' H'.length) : HeapOf H' (laid t (without H[i]!.n L)) := by
  obtain ⟨h1, h2⟩ := set_perm hi t
  exact ⟨hp.trans (h1.trans (((h.left hn h2).cons t).trans (laid_perm t _).symm)), hh⟩
theorem HeapOf.near {H L : List Tm} {i : Nat} (h : HeapOf H L) (hi : i < H.length) (t : Tm) : Near Tm.lt (H.set i t) (H.set i t).length i := by
  rw [List.length_set]
  exact h.heap.put tm_ord t hi
end Go.Proofs.Ytjlapnnmdfdjdaa
