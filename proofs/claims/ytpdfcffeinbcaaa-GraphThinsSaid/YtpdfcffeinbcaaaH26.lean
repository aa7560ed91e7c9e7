/- PLAIN: who goes round with whom. -/
import Derived.Test.YtpdfcffeinbcaaaH23
import Derived.Test.YtpdfcffeinbcaaaH14
import Derived.Test.YtpdfcffeinbcaaaH15
namespace Go.Proofs.Ytpdfcffeinbcaaa
open Go.RowKit
/-- An edge. -/
def Edg (g : XG) (a b : Int) : Prop := (a, b) ∈ g.es
abbrev TG (g : XG) : Int → Int → Prop := Relation.TransGen (Edg g)
theorem tg_in {g : XG} (hg : Good g) {a b : Int} (h : TG g a b) : (0 ≤ a ∧ a < g.n) ∧ 0 ≤ b ∧ b < g.n := by
  induction h with
  | single h => exact hg.all _ h
  | tail _ h ih => exact ⟨ih.1, (hg.all _ h).2⟩
theorem way_tg {g : XG} (hg : Good g) {a x : Int} (ha : 0 ≤ a) : Way (tgt g.es) (-1) [a] x ↔ TG g a x := by
  constructor
  · intro h
    induction h with
    | base hs _ hy _ =>
      obtain rfl := List.mem_singleton.1 hs
      exact .single (mem_tgt.1 hy)
    | step _ hy _ ih => exact .tail ih (mem_tgt.1 hy)
  · intro h
    induction h with
    | single h => exact .base (List.mem_singleton.2 rfl) (by omega) (mem_tgt.2 h) (by have := (hg.all _ h).2; simp at this; omega)
    | tail _ h ih => exact .step ih (mem_tgt.2 h) (by have := (hg.all _ h).2; simp at this; omega)
theorem edg_turn {g : XG} {a b : Int} : Edg ⟨g.n, g.es.map swp⟩ a b ↔ Edg g b a := by
  unfold Edg
  rw [List.mem_map]
  constructor
  · rintro ⟨⟨c, d⟩, h, e⟩
    unfold swp at e
    cases e
    exact h
  · intro h; exact ⟨(b, a), h, rfl⟩
theorem tg_turn {g : XG} {a b : Int} : TG ⟨g.n, g.es.map swp⟩ a b ↔ TG g b a := by
  constructor
  · intro h
    induction h with
    | single h => exact .single (edg_turn.1 h)
    | tail _ h ih => exact Relation.TransGen.trans (.single (edg_turn.1 h)) ih
  · intro h
    induction h with
    | single h => exact .single (edg_turn.2 h)
    | tail _ h ih => exact Relation.TransGen.trans (.single (edg_turn.2 h)) ih
theorem good_turn {g : XG} (hg : Good g) : Good ⟨g.n, g.es.map swp⟩ := ⟨hg.n0, hg.n1, by rw [List.length_map]; exact hg.len, fun e he => by
  obtain ⟨e', h, rfl⟩ := List.mem_map.1 he
  have := hg.all _ h
  exact ⟨this.2, this.1⟩⟩
/-- Two go round together, or are one. -/
def Same (g : XG) (a b : Int) : Prop := a = b ∨ TG g a b ∧ TG g b a
theorem Same.refl (g : XG) (a : Int) : Same g a a := .inl rfl
theorem Same.symm {g : XG} {a b : Int} (h : Same g a b) : Same g b a := h.elim (fun e => .inl e.symm) (fun h => .inr h.symm)
theorem Same.trans {g : XG} {a b c : Int} (h : Same g a b) (k : Same g b c) : Same g a c := by
  rcases h with rfl | h
  · exact k
  · rcases k with rfl | k
    · exact .inr h
    · exact .inr ⟨h.1.trans k.1, k.2.trans h.2⟩
/-- One below i goes round with k. -/
def Done (g : XG) (i : Nat) (k : Int) : Prop := ∃ m : Nat, m < i ∧ Same g m k
theorem done_self {g : XG} {i k : Nat} (h : k < i) : Done g i k := ⟨k, h, .refl _ _⟩
theorem done_succ {g : XG} {i : Nat} {k : Int} : Done g (i + 1) k ↔ Done g i k ∨ Same g i k := by
  constructor
  · rintro ⟨m, h1, h2⟩
    rcases Nat.lt_or_ge m i with c | c
    · exact .inl ⟨m, c, h2⟩
    · obtain rfl : m = i := by omega
      exact .inr h2
  · rintro (⟨m, h1, h2⟩ | h)
    · exact ⟨m, by omega, h2⟩
    · exact ⟨i, by omega, h⟩
theorem done_skip {g : XG} {i : Nat} (h : Done g i i) (k : Int) : Done g (i + 1) k ↔ Done g i k := by
  rw [done_succ]
  constructor
  · rintro (h1 | h1)
    · exact h1
    · obtain ⟨m, h2, h3⟩ := h
      exact ⟨m, h2, h3.trans h1⟩
  · exact .inl
open Classical in
noncomputable def sameB (g : XG) (i : Int) (k : Int) : Bool := decide (Same g i k)
open Classical in
noncomputable def doneB (g : XG) (i : Nat) (k : Int) : Bool := decide (Done g i k)
open Classical in
theorem sameB_iff {g : XG} {i k : Int} : sameB g i k = true ↔ Same g i k := by unfold sameB; exact decide_eq_true_iff
open Classical in
theorem doneB_iff {g : XG} {i : Nat} {k : Int} : doneB g i k = true ↔ Done g i k := by unfold doneB; exact decide_eq_true_iff
theorem doneB_congr {g : XG} {i j : Nat} {k : Int} (h : Done g i k ↔ Done g j k) : doneB g i k = doneB g j k := by rw [Bool.eq_iff_iff, doneB_iff, doneB_iff]; exact h
/-- A node's component, rising. -/
noncomputable def compRow (g : XG) (i : Nat) : List Int := (nodes g.n.toNat).filter (sameB g i)
/-- The components ahead of i, by their first nodes. -/
noncomputable def compsTo (g : XG) (i : Nat) : List (List Int) := ((List.range i).filter fun k => !doneB g k k).map (compRow g)
noncomputable def compsF (g : XG) : List (List Int) := compsTo g g.n.toNat
theorem compsTo_succ (g : XG) (i : Nat) : compsTo g (i + 1) = if doneB g i i = true then compsTo g i else compsTo g i ++ [compRow g i] := by
  unfold compsTo
  rw [List.range_succ, List.filter_append, List.map_append]
  cases h : doneB g i i <;> simp [h]
theorem mem_compRow {g : XG} {i : Nat} {x : Int} : x ∈ compRow g i ↔ (0 ≤ x ∧ x < (g.n.toNat : Int)) ∧ Same g i x := by
  unfold compRow; rw [List.mem_filter, mem_nodes, sameB_iff]
theorem compRow_rising (g : XG) (i : Nat) : (compRow g i).Pairwise (· < ·) := (nodes_rising _).filter _
/-- A first node's component begins with it. -/
theorem comp_from {g : XG} {i k : Nat} (h : ¬ Done g i i) (hk : k ≤ i) : (nodes k).filter (sameB g i) = [] := by
  rw [List.filter_eq_nil_iff]
  intro x hx hs
  have h1 := mem_nodes.1 hx
  have h2 := sameB_iff.1 hs
  obtain ⟨y, rfl⟩ : ∃ y : Nat, x = y := ⟨x.toNat, by omega⟩
  exact h ⟨y, by omega, h2.symm⟩
theorem comp_next (g : XG) (i k : Nat) : (nodes (k + 1)).filter (sameB g i) = (nodes k).filter (sameB g i) ++ if sameB g i k = true then [(k : Int)] else [] := by
  rw [nodes_succ, List.filter_append]
  congr 1
  cases h : sameB g i k <;> simp [h]
theorem compsTo_length (g : XG) : ∀ i, (compsTo g i).length ≤ i := fun i => by
  unfold compsTo; rw [List.length_map]
  exact Nat.le_trans (List.length_filter_le _ _) (by simp)
theorem mem_comps {g : XG} {n : Nat} {l : List Int} : l ∈ compsTo g n ↔ ∃ i, i < n ∧ ¬ Done g i i ∧ l = compRow g i := by
  unfold compsTo
  rw [List.mem_map]
  constructor
  · rintro ⟨i, hi, rfl⟩
    rw [List.mem_filter, List.mem_range] at hi
    exact ⟨i, hi.1, fun h => by have := doneB_iff.2 h; simp [this] at hi, rfl⟩
  · rintro ⟨i, h1, h2, rfl⟩
    refine ⟨i, ?_, rfl⟩
    rw [List.mem_filter, List.mem_range]
    refine ⟨h1, ?_⟩
    cases h : doneB g i i with
    | false => rfl
    | true => exact absurd (doneB_iff.1 h) h2
/-- Each node is in the component of a first one. -/
theorem comp_of (g : XG) (k : Nat) : ∃ i, i ≤ k ∧ ¬ Done g i i ∧ Same g i k := by
  induction k using Nat.strongRecOn with
  | ind k ih =>
    by_cases h : Done g k k
    · obtain ⟨m, h1, h2⟩ := h
      obtain ⟨i, h3, h4, h5⟩ := ih m h1
      exact ⟨i, by omega, h4, h5.trans h2⟩
    · exact ⟨k, Nat.le_refl _, h, .refl _ _⟩
theorem two_of_nodup {l : List Int} (hn : l.Nodup) (h : 1 < l.length) (x : Int) : ∃ y ∈ l, y ≠ x := by
  match l, h with
  | a :: b :: r, _ =>
    by_cases e : a = x
    · refine ⟨b, by simp, fun e2 => ?_⟩
      have := (List.nodup_cons.1 hn).1
      exact this (by rw [e, e2]; simp)
    · exact ⟨a, by simp, e⟩
theorem len_of_two {l : List Int} {x y : Int} (hx : x ∈ l) (hy : y ∈ l) (h : x ≠ y) : 1 < l.length := by
  match l, hx, hy with
  | [], hx, _ => cases hx
  | [a], hx, hy => simp at hx hy; exact absurd (hx.trans hy.symm) h
  | a :: b :: r, _, _ => simp
/-- Who goes round: in a component of more than one, or by an edge to itself. -/
theorem goes_iff {g : XG} (hg : Good g) {k : Int} (h0 : 0 ≤ k ∧ k < g.n) : TG g k k ↔ (∃ l ∈ compsF g, 1 < l.length ∧ k ∈ l) ∨ Edg g k k := by
  obtain ⟨j, rfl⟩ : ∃ j : Nat, k = j := ⟨k.toNat, by omega⟩
  constructor
  · intro h
    have : Edg g j j ∨ ∃ b, b ≠ (j : Int) ∧ TG g j b ∧ TG g b j := by
      cases h with
      | single h => exact .inl h
      | tail h1 h2 =>
        rename_i b
        by_cases e : b = (j : Int)
        · subst e; exact .inl h2
        · exact .inr ⟨b, e, h1, .single h2⟩
    rcases this with h | ⟨b, hb, h1, h2⟩
    · exact .inr h
    · left
      obtain ⟨i, hi, hd, hs⟩ := comp_of g j
      have hbr := (tg_in hg h1).2
      have hsb : Same g i b := hs.trans (.inr ⟨h1, h2⟩)
      exact ⟨compRow g i, mem_comps.2 ⟨i, by omega, hd, rfl⟩, len_of_two (mem_compRow.2 ⟨by omega, hs⟩) (mem_compRow.2 ⟨by omega, hsb⟩) (fun e => hb e.symm), mem_compRow.2 ⟨by omega, hs⟩⟩
  · rintro (⟨l, hl, h1, h2⟩ | h)
    · obtain ⟨i, hi, hd, rfl⟩ := mem_comps.1 hl
      obtain ⟨b, hb, hne⟩ := two_of_nodup (rising_nodup (compRow_rising g i)) h1 j
      have hs := (mem_compRow.1 h2).2.symm.trans (mem_compRow.1 hb).2
      rcases hs with e | hs
      · exact absurd e.symm hne
      · exact hs.1.trans hs.2
    · exact .single h
open Classical in
noncomputable def roundL (g : XG) : List Int := if chkF g = 0 then toldL (fun k => decide (TG g k k)) g.n.toNat else []
open Classical in
theorem mem_roundL {g : XG} (hg : Good g) {x : Int} : x ∈ roundL g ↔ TG g x x := by
  unfold roundL
  rw [if_pos (chkF_good.2 hg), mem_toldL, decide_eq_true_eq]
  constructor
  · rintro ⟨h0, h1, h2⟩; rw [Int.toNat_of_nonneg h0] at h2; exact h2
  · intro h
    have := (tg_in hg h).1
    refine ⟨this.1, by omega, ?_⟩
    rw [Int.toNat_of_nonneg this.1]; exact h
end Go.Proofs.Ytpdfcffeinbcaaa
