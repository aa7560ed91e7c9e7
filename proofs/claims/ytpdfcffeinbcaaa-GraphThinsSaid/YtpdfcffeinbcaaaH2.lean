/- Where all nodes lead. -/
import Derived.Test.YtpdfcffeinbcaaaH1
import Derived.Test.YtpdfcffeinbcaaaS15
import Derived.Sort.OwnSortedInts
namespace Go.Proofs.Ytpdfcffeinbcaaa
open Go.RowKit
theorem info_int : (Try.prog.info? 3).map (fun i => (i.zero, i.size, i.bytes)) = some (some (.int .i64 0), 1, 8) := by kernel_rfl
theorem info_ints : (Try.prog.info? 25).map (fun i => (i.zero, i.size, i.bytes)) = some (some (.slice none 0 0), 1, 24) := by kernel_rfl
theorem own_take {w : World} {B k n cap g : Nat} {e : TypeId} {xs : List Value} (h : w.ownsRow B e 1 (.slice (some ⟨g, 0, none⟩) n cap) n xs) (hk : k ≤ n) : w.ownsRow B e 1 (.slice (some ⟨g, 0, none⟩) k cap) k (xs.take k) := by
  rcases h with ⟨hl, ⟨h0, _⟩ | ⟨g', cap', cur, hv, hB, hh, hn, hc, hsz, htk⟩⟩
  · cases h0
  · cases hv
    refine ⟨by rw [List.length_take]; omega, .inr ⟨g, cap, cur, rfl, hB, hh, by omega, hc, hsz, ?_⟩⟩
    rw [← htk, List.take_take]
    congr 1
    omega
theorem sort_c {w : World} {B : Nat} {v : Value} {xs : List Int} (h : w.ownsRow B 3 1 v xs.length (I xs)) (hl : xs.length ≤ 140737488355328) :
    Calls Try.prog 52 #[v] w fun e w' => e = .returned (.tuple #[]) ∧ w'.ownsRow B 3 1 v xs.length (I (sortI xs)) ∧ w.grownBy w' v.ownBlock := by
  rcases own_ints_cases h with ⟨rfl, h0, rfl⟩ | ⟨g, cap, cur, rfl, _, hB, hg, hh, h1, h2, h3, h4⟩
  · exact (Try.slices_Sort_int_none _ _ _).mono (by rintro e w' ⟨rfl, rfl⟩; exact ⟨rfl, ⟨by simp [sortI], .inl ⟨rfl, rfl⟩⟩, World.grownBy.refl _ _⟩)
  · refine (Try.slices_Sort_int g 0 cap xs w (holds_of_blockI hh h4) hg (by omega)).mono ?_
    rintro e w' ⟨rfl, n, os, rfl⟩
    exact ⟨rfl, ownsRow_sortedI (sortI_length xs) hB hh h1 h2 h3, grownBy_sortedI _⟩
theorem compact_c {w : World} {B : Nat} {v : Value} {xs : List Int} (h : w.ownsRow B 3 1 v xs.length (I xs)) (hl : xs.length ≤ 140737488355328) :
    Calls Try.prog 71 #[v] w fun e w' => ∃ v', e = .returned v' ∧ w'.ownsRow B 3 1 v' (Lib.compact xs).length (I (Lib.compact xs)) ∧ v'.ownBlock = v.ownBlock ∧ w.grownBy w' v.ownBlock := by
  rcases own_ints_cases h with ⟨rfl, h0, rfl⟩ | ⟨g, cap, cur, rfl, _, hB, hg, hh, h1, h2, h3, h4⟩
  · exact (Try.slices_Compact_int_empty none 0 w).mono (by rintro e w' ⟨rfl, rfl⟩; exact ⟨_, rfl, ⟨rfl, .inl ⟨rfl, rfl⟩⟩, rfl, World.grownBy.refl _ _⟩)
  · refine (Try.slices_Compact_int g 0 cap xs w (holds_of_blockI hh h4) (by omega) h1).mono ?_
    rintro e w' ⟨rfl, q, rfl⟩
    have hcl := Lib.compact_length_le xs
    have hl2 : (Lib.compact xs ++ List.replicate (xs.length - (Lib.compact xs).length) 0).length = xs.length := by rw [List.length_append, List.length_replicate]; omega
    have ho := ownsRow_sortedI (n := q) (os := #[]) hl2 hB hh h1 h2 h3
    rw [Sort.grow_empty] at ho
    have ho2 := own_take ho hcl
    rw [← List.map_take, List.take_left'] at ho2
    · exact ⟨_, rfl, ho2, rfl, by have := grownBy_sortedI (w := w) (g := g) (n := q) (os := #[]) (Lib.compact xs ++ List.replicate (xs.length - (Lib.compact xs).length) 0).toArray; rwa [Sort.grow_empty] at this⟩
    · rfl
def upd {α : Type} (f : Nat → α) (i : Nat) (a : α) : Nat → α := fun k => if k = i then a else f k
theorem upd_same {α : Type} (f : Nat → α) (i : Nat) (a : α) : upd f i a i = a := if_pos rfl
theorem upd_far {α : Type} (f : Nat → α) {i k : Nat} (a : α) (h : k ≠ i) : upd f i a k = f k := if_neg h
/-- A row of rows of one's own, in block ob; all else behind it. -/
def NxAt (n ob : Nat) (w : World) (rows : Nat → Value) (ls : Nat → List Int) : Prop :=
  ob < w.heap.size ∧ (∀ j, w.frozen? ⟨ob, j, none⟩ = false) ∧ (∀ i, i < n → w.cell? ⟨ob, i, none⟩ = some (rows i) ∧ w.ownsRow (ob + 1) 3 1 (rows i) (ls i).length (I (ls i))) ∧
    ∀ i j, i < n → j < n → i ≠ j → ∀ g, (rows i).ownBlock = some g → (rows j).ownBlock ≠ some g
theorem NxAt.kept {n ob i : Nat} {w w1 : World} {rows : Nat → Value} {ls : Nat → List Int} {v' : Value} {l' : List Int} (h : NxAt n ob w rows ls) (hi : i < n) (ho : w1.ownsRow (ob + 1) 3 1 v' l'.length (I l')) (hg : w.grownBy w1 (rows i).ownBlock)
    (hb : ∀ g, v'.ownBlock = some g → (rows i).ownBlock = some g ∨ w.heap.size ≤ g) :
    ob < w1.heap.size ∧ (∀ j, w1.frozen? ⟨ob, j, none⟩ = false) ∧ (∀ k, w1.cell? ⟨ob, k, none⟩ = w.cell? ⟨ob, k, none⟩) ∧ (∀ k, k < n → w1.ownsRow (ob + 1) 3 1 (upd rows i v' k) (upd ls i l' k).length (I (upd ls i l' k))) ∧
      ∀ a b, a < n → b < n → a ≠ b → ∀ g, (upd rows i v' a).ownBlock = some g → (upd rows i v' b).ownBlock ≠ some g := by
  obtain ⟨h1, h2, h3, h4⟩ := h
  have hne : (rows i).ownBlock ≠ some ob := fun e => by have := ((h3 i hi).2.lt ob e).1; omega
  have hbl := hg.block ob h1 (fun e => hne e.symm)
  refine ⟨Nat.lt_of_lt_of_le h1 hg.size, fun j => ?_, fun k => World.cell?_of_block (a := ⟨ob, k, none⟩) hbl, fun k hk => ?_, fun a b ha hb' hab g e1 e2 => ?_⟩
  · have := h2 j
    unfold World.frozen? at this ⊢
    rw [hbl]; exact this
  · by_cases e : k = i
    · subst e; rw [upd_same, upd_same]; exact ho
    · rw [upd_far _ _ e, upd_far _ _ e]
      exact own_kept2 (h3 k hk).2 hg (fun g hv hp => h4 i k hi hk (fun c => e c.symm) g hp hv)
  · by_cases ea : a = i
    · subst ea
      rw [upd_same] at e1
      rw [upd_far _ _ (fun c => hab c.symm)] at e2
      rcases hb g e1 with h5 | h5
      · exact h4 a b ha hb' hab g h5 e2
      · have := ((h3 b hb').2.lt g e2).2; omega
    · rw [upd_far _ _ ea] at e1
      by_cases eb : b = i
      · subst eb
        rw [upd_same] at e2
        rcases hb g e2 with h5 | h5
        · exact h4 a b ha hb' hab g e1 h5
        · have := ((h3 a ha).2.lt g e1).2; omega
      · rw [upd_far _ _ eb] at e2
        exact h4 a b ha hb' hab g e1 e2
theorem NxAt.put {n ob i : Nat} {w w1 : World} {rows : Nat → Value} {ls : Nat → List Int} {v' : Value} {l' : List Int} (h : NxAt n ob w rows ls) (hi : i < n) (ho : w1.ownsRow (ob + 1) 3 1 v' l'.length (I l')) (hg : w.grownBy w1 (rows i).ownBlock)
    (hb : ∀ g, v'.ownBlock = some g → (rows i).ownBlock = some g ∨ w.heap.size ≤ g) : NxAt n ob (w1.setCell ⟨ob, i, none⟩ v') (upd rows i v') (upd ls i l') := by
  obtain ⟨k1, k2, k3, k4, k5⟩ := h.kept hi ho hg hb
  refine ⟨by simpa [World.setCell] using k1, fun j => by rw [World.frozen?_setCell]; exact k2 j, fun k hk => ⟨?_, own_low (k4 k hk) _ _ (by show ob < ob + 1; omega)⟩, k5⟩
  by_cases e : k = i
  · subst e; rw [upd_same]; exact set_here _ _ _ _ _ ((k3 k).trans (h.2.2.1 k hk).1)
  · rw [upd_far _ _ e, set_far _ _ _ _ _ (fun c => e c.symm), k3 k]; exact (h.2.2.1 k hk).1
theorem NxAt.turn {n ob i : Nat} {w w1 : World} {rows : Nat → Value} {ls : Nat → List Int} {l' : List Int} (h : NxAt n ob w rows ls) (hi : i < n) (ho : w1.ownsRow (ob + 1) 3 1 (rows i) l'.length (I l')) (hg : w.grownBy w1 (rows i).ownBlock) : NxAt n ob w1 rows (upd ls i l') := by
  obtain ⟨k1, k2, k3, k4, k5⟩ := h.kept hi ho hg (fun g e => .inl e)
  have he : ∀ k, upd rows i (rows i) k = rows k := fun k => by unfold upd; split <;> simp_all
  exact ⟨k1, k2, fun k hk => ⟨(k3 k).trans (h.2.2.1 k hk).1, by have := k4 k hk; rwa [he] at this⟩, h.2.2.2⟩
theorem NxAt.drew {n ob : Nat} {w : World} {rows : Nat → Value} {ls : Nat → List Int} (h : NxAt n ob w rows ls) : NxAt n ob w.drew rows ls := h
theorem NxAt.congr {n ob : Nat} {w : World} {rows : Nat → Value} {ls ls' : Nat → List Int} (h : NxAt n ob w rows ls) (he : ∀ i, i < n → ls i = ls' i) : NxAt n ob w rows ls' :=
  ⟨h.1, h.2.1, fun i hi => by rw [← he i hi]; exact h.2.2.1 i hi, h.2.2.2⟩
theorem nx_made (w : World) (n : Nat) : NxAt n w.heap.size (w.alloc (.cells (madeCells #[.slice none 0 0] n) 25)) (fun _ => .slice none 0 0) (fun _ => []) := by
  refine ⟨by simp, fun j => frozen_new _ _ _ _, fun i hi => ⟨?_, ⟨rfl, .inl ⟨rfl, rfl⟩⟩⟩, fun i j _ _ _ g e => by simp [Value.ownBlock] at e⟩
  rw [cell_new, ← Array.getElem?_toList, toList_madeCells_one]
  simp [hi]
/-- What is handed out: rows that are read, all of their blocks from lo on. -/
def NextAt (w : World) (lo : Nat) (v : Value) (n : Nat) (ls : Nat → List Int) : Prop :=
  ∃ b d, v = .slice (some ⟨b, 0, none⟩) n d ∧ lo ≤ b ∧ b < w.heap.size ∧ ∀ i, i < n → ∃ Y d', w.cell? ⟨b, i, none⟩ = some (.slice Y (ls i).length d') ∧ RowAt w Y (I (ls i)) ∧ ∀ b' o, Y = some ⟨b', o, none⟩ → lo ≤ b'
theorem NxAt.next {n ob lo d : Nat} {w : World} {rows : Nat → Value} {ls : Nat → List Int} (h : NxAt n ob w rows ls) (hlo : lo ≤ ob) : NextAt w lo (.slice (some ⟨ob, 0, none⟩) n d) n ls := by
  refine ⟨ob, d, rfl, hlo, h.1, fun i hi => ?_⟩
  obtain ⟨h1, h2⟩ := h.2.2.1 i hi
  obtain ⟨Y, d', hv, hr⟩ := own_row1 h2
  rw [List.length_map] at hv
  rw [hv] at h1
  refine ⟨Y, d', h1, hr, fun b' o e => ?_⟩
  have := (h2.lt b' (by rw [hv, e]; rfl)).1
  omega
theorem NextAt.moves {w w' : World} {lo n : Nat} {v : Value} {ls : Nat → List Int} {M : List Nat} (h : NextAt w lo v n ls) (hm : Moves M w w') (hM : ∀ k ∈ M, k < lo ∨ w.heap.size ≤ k) : NextAt w' lo v n ls := by
  obtain ⟨b, d, rfl, h1, h2, h3⟩ := h
  refine ⟨b, d, rfl, h1, Nat.lt_of_lt_of_le h2 hm.2.2.2.1, fun i hi => ?_⟩
  obtain ⟨Y, d', h4, h5, h6⟩ := h3 i hi
  refine ⟨Y, d', (hm.cell h2 (fun hk => by have := hM b hk; omega) _).trans h4, ?_, h6⟩
  rcases h5 with h5 | ⟨b', off, rfl, hl, hc⟩
  · exact .inl h5
  · have hb' : b' ∉ M := fun hk => by have := hM b' hk; have := h6 b' off rfl; omega
    exact .inr ⟨b', off, rfl, Nat.lt_of_lt_of_le hl hm.2.2.2.1, fun j hj => (hm.cell hl hb' _).trans (hc j hj)⟩
theorem NextAt.below {w w' : World} {lo n : Nat} {v : Value} {ls : Nat → List Int} (h : NextAt w lo v n ls) (hb : Below w.heap.size w w') : NextAt w' lo v n ls := h.moves (Moves.of_new [] hb) (by simp)
end Go.Proofs.Ytpdfcffeinbcaaa
