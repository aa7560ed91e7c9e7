/- PLAIN: in which component each node is; as nodes, components go round nowhere. -/
import Derived.Test.YtpdfcffeinbcaaaH48
import Derived.Test.YtpdfcffeinbcaaaM2
namespace Go.Proofs.Ytpdfcffeinbcaaa
open Go.RowKit
/-- In which of the first rows each is; -1: in none. -/
def ofF (cs : List (List Int)) : Nat → Int → Int
  | 0, _ => -1
  | i + 1, x => if x ∈ cs.getD i [] then (i : Int) else ofF cs i x
def ofP (cs : List (List Int)) (i k : Nat) (x : Int) : Int := if x ∈ (cs.getD i []).take k then (i : Int) else ofF cs i x
theorem ofP_zero (cs : List (List Int)) (i : Nat) : ofP cs i 0 = ofF cs i := by funext x; unfold ofP; simp
theorem ofF_succ (cs : List (List Int)) (i : Nat) (x : Int) : ofF cs (i + 1) x = if x ∈ cs.getD i [] then (i : Int) else ofF cs i x := rfl
theorem ofP_done (cs : List (List Int)) (i : Nat) : ofP cs i (cs.getD i []).length = ofF cs (i + 1) := by funext x; rw [ofF_succ]; unfold ofP; rw [List.take_length]
theorem ofP_next {cs : List (List Int)} {i k : Nat} (hk : k < (cs.getD i []).length) (x : Int) : ofP cs i (k + 1) x = if x = (cs.getD i [])[k] then (i : Int) else ofP cs i k x := by
  unfold ofP
  generalize cs.getD i [] = row at hk ⊢
  rw [List.take_succ_eq_append_getElem hk]
  by_cases h : x = row[k]
  · rw [if_pos h, if_pos (by rw [h]; exact List.mem_append_right _ (List.mem_singleton.2 rfl))]
  · rw [if_neg h]
    have : (x ∈ row.take k ++ [row[k]]) ↔ x ∈ row.take k := by
      rw [List.mem_append, List.mem_singleton]
      exact ⟨fun h2 => h2.resolve_right h, .inl⟩
    simp only [this]
theorem ofF_bound (cs : List (List Int)) : ∀ (i : Nat) (x : Int), -1 ≤ ofF cs i x ∧ ofF cs i x < i
  | 0, x => ⟨Int.le_refl _, by show (-1 : Int) < 0; omega⟩
  | i + 1, x => by
    have := ofF_bound cs i x
    unfold ofF
    split <;> omega
theorem ofF_none {cs : List (List Int)} : ∀ (i : Nat) (x : Int), (∀ j, j < i → x ∉ cs.getD j []) → ofF cs i x = -1
  | 0, _, _ => rfl
  | i + 1, x, h => by unfold ofF; rw [if_neg (h i (by omega))]; exact ofF_none i x fun j hj => h j (by omega)
theorem ofF_some {cs : List (List Int)} : ∀ (i : Nat) (x : Int) {j : Nat}, j < i → x ∈ cs.getD j [] → (∀ a b, a < i → b < i → x ∈ cs.getD a [] → x ∈ cs.getD b [] → a = b) → ofF cs i x = j
  | 0, _, j, hj, _, _ => by omega
  | i + 1, x, j, hj, hx, hu => by
    unfold ofF
    by_cases h : x ∈ cs.getD i []
    · rw [if_pos h, hu i j (by omega) hj h hx]
    · rw [if_neg h]
      have : j ≠ i := fun e => by rw [e] at hx; exact h hx
      exact ofF_some i x (by omega) hx fun a b ha hb => hu a b (by omega) (by omega)
section
variable {g : XG}
theorem comp_uniq {a b : Nat} {x : Int} (ha : a < (compsF g).length) (hb : b < (compsF g).length) (hx : x ∈ (compsF g).getD a []) (hy : x ∈ (compsF g).getD b []) : a = b := by
  have e1 : (compsF g).getD a [] = (compsF g)[a] := by simp [List.getD, ha]
  have e2 : (compsF g).getD b [] = (compsF g)[b] := by simp [List.getD, hb]
  rw [e1] at hx
  rw [e2] at hy
  have h := List.pairwise_iff_getElem.1 (comps_apart (g := g))
  rcases Nat.lt_trichotomy a b with c | c | c
  · exact absurd rfl (h a b ha hb c x hx x hy)
  · exact c
  · exact absurd rfl (h b a hb ha c x hy x hx)
theorem comp_mem {a : Nat} (ha : a < (compsF g).length) {x y : Int} (hx : x ∈ (compsF g).getD a []) : y ∈ (compsF g).getD a [] ↔ (0 ≤ y ∧ y < (g.n.toNat : Int)) ∧ Same g x y := by
  have e1 : (compsF g).getD a [] = (compsF g)[a] := by simp [List.getD, ha]
  rw [e1] at hx ⊢
  obtain ⟨i, _, _, e⟩ := mem_comps.1 (show (compsF g)[a] ∈ compsTo g g.n.toNat from List.getElem_mem ha)
  rw [e] at hx ⊢
  rw [mem_compRow]
  have h := (mem_compRow.1 hx).2
  exact and_congr_right fun _ => ⟨fun h2 => h.symm.trans h2, fun h2 => h.trans h2⟩
theorem comp_in {x : Int} (hx : 0 ≤ x ∧ x < (g.n.toNat : Int)) : ∃ a, a < (compsF g).length ∧ x ∈ (compsF g).getD a [] := by
  obtain ⟨i, h1, h2, h3⟩ := comp_of g x.toNat
  rw [Int.toNat_of_nonneg hx.1] at h3
  have hc : compRow g i ∈ compsF g := mem_comps.2 ⟨i, by omega, h2, rfl⟩
  obtain ⟨a, ha, e⟩ := List.mem_iff_getElem.1 hc
  exact ⟨a, ha, by rw [show (compsF g).getD a [] = (compsF g)[a] by simp [List.getD, ha], e]; exact mem_compRow.2 ⟨hx, h3⟩⟩
/-- The node's component's number. -/
noncomputable def ofC (g : XG) : Int → Int := ofF (compsF g) (compsF g).length
theorem ofC_at {x : Int} {a : Nat} (ha : a < (compsF g).length) (hx : x ∈ (compsF g).getD a []) : ofC g x = a := ofF_some _ x ha hx fun _ _ h1 h2 h3 h4 => comp_uniq h1 h2 h3 h4
theorem ofC_range {x : Int} (hx : 0 ≤ x ∧ x < (g.n.toNat : Int)) : 0 ≤ ofC g x ∧ ofC g x < (compsF g).length := by
  obtain ⟨a, ha, h⟩ := comp_in hx
  rw [ofC_at ha h]
  omega
theorem ofC_same {x y : Int} (hx : 0 ≤ x ∧ x < (g.n.toNat : Int)) (hy : 0 ≤ y ∧ y < (g.n.toNat : Int)) : ofC g x = ofC g y ↔ Rc g x y ∧ Rc g y x := by
  obtain ⟨a, ha, h⟩ := comp_in hx
  obtain ⟨b, hb, h'⟩ := comp_in hy
  rw [ofC_at ha h, ofC_at hb h', ← same_rc]
  constructor
  · intro e
    have : a = b := by omega
    subst this
    exact ((comp_mem ha h).1 h').2
  · intro hs
    rw [comp_uniq ha hb ((comp_mem ha h).2 ⟨hx, .refl _ _⟩) ((comp_mem hb h').2 ⟨hx, hs.symm⟩)]
/-- What is not yet placed, where a new one is met. -/
theorem ofP_new {i k : Nat} (hi : i < (compsF g).length) (hk : k < ((compsF g).getD i []).length) : ofP (compsF g) i k ((compsF g).getD i [])[k] = -1 := by
  have hm : ((compsF g).getD i [])[k] ∈ (compsF g).getD i [] := List.getElem_mem hk
  have hn : ((compsF g).getD i []).Nodup := by
    rw [show (compsF g).getD i [] = (compsF g)[i] by simp [List.getD, hi]]
    obtain ⟨j, _, _, e⟩ := mem_comps.1 (show (compsF g)[i] ∈ compsTo g g.n.toNat from List.getElem_mem hi)
    rw [e]; exact rising_nodup (compRow_rising g j)
  unfold ofP
  rw [if_neg, ofF_none]
  · intro j hj hx
    have := comp_uniq (show j < (compsF g).length by omega) hi hx hm
    omega
  · intro hx
    obtain ⟨j, hj, e⟩ := List.mem_iff_getElem.1 hx
    rw [List.length_take] at hj
    rw [List.getElem_take] at e
    have := nd_inj hn _ _ e
    omega
/-- The edges between components. -/
noncomputable def quoE (g : XG) (k : Nat) : List (Int × Int) := ((g.es.take k).filter fun e => decide (ofC g e.1 ≠ ofC g e.2)).map fun e => (ofC g e.1, ofC g e.2)
theorem quoE_succ {k : Nat} (hk : k < g.es.length) : quoE g (k + 1) = if ofC g g.es[k].1 ≠ ofC g g.es[k].2 then quoE g k ++ [(ofC g g.es[k].1, ofC g g.es[k].2)] else quoE g k := by
  unfold quoE
  rw [List.take_succ_eq_append_getElem hk, List.filter_append, List.map_append]
  by_cases h : ofC g g.es[k].1 ≠ ofC g g.es[k].2
  · rw [if_pos h]; simp [h]
  · rw [if_neg h]; simp at h; simp [h]
theorem quoE_length (k : Nat) : (quoE g k).length ≤ g.es.length := by
  unfold quoE
  rw [List.length_map]
  exact Nat.le_trans (List.length_filter_le _ _) (by rw [List.length_take]; omega)
noncomputable def quoG (g : XG) : XG := ⟨(compsF g).length, quoE g g.es.length⟩
theorem quo_edge {a b : Int} : Edg (quoG g) a b ↔ a ≠ b ∧ ∃ x y, Edg g x y ∧ ofC g x = a ∧ ofC g y = b := by
  unfold Edg quoG quoE
  simp only [List.take_length, List.mem_map, List.mem_filter, decide_eq_true_eq, Prod.mk.injEq, Prod.exists]
  constructor
  · rintro ⟨x, y, ⟨h1, h2⟩, rfl, rfl⟩; exact ⟨h2, x, y, h1, rfl, rfl⟩
  · rintro ⟨h, x, y, h1, rfl, rfl⟩; exact ⟨x, y, ⟨h1, h⟩, rfl, rfl⟩
theorem quo_good (hg : Good g) : Good (quoG g) := by
  have hn := hg.n0
  refine ⟨by show (0 : Int) ≤ (compsF g).length; omega, ?_, Nat.le_trans (quoE_length _) hg.len, fun e he => ?_⟩
  · have h1 := compsTo_length g g.n.toNat
    have h2 := hg.n1
    show ((compsF g).length : Int) ≤ _
    unfold compsF
    omega
  · obtain ⟨_, x, y, h1, h2, h3⟩ := quo_edge.1 (show Edg (quoG g) e.1 e.2 from he)
    have hr := hg.all _ h1
    simp only at hr
    rw [← h2, ← h3]
    exact ⟨ofC_range (by omega), ofC_range (by omega)⟩
theorem quo_way (hg : Good g) {a b : Int} (h : TG (quoG g) a b) : ∀ x y, (0 ≤ x ∧ x < g.n) → (0 ≤ y ∧ y < g.n) → ofC g x = a → ofC g y = b → Rc g x y := by
  have hn := hg.n0
  have key : ∀ {a b : Int}, Edg (quoG g) a b → ∀ x y, (0 ≤ x ∧ x < g.n) → (0 ≤ y ∧ y < g.n) → ofC g x = a → ofC g y = b → Rc g x y := fun {a b} h x y hx hy e1 e2 => by
    obtain ⟨_, u, v, h1, h2, h3⟩ := quo_edge.1 h
    have hr := hg.all _ h1
    simp only at hr
    have h4 := (ofC_same (g := g) (x := x) (y := u) (by omega) (by omega)).1 (by rw [e1, h2])
    have h5 := (ofC_same (g := g) (x := v) (y := y) (by omega) (by omega)).1 (by rw [e2, h3])
    exact (h4.1.trans (.edge h1)).trans h5.1
  induction h with
  | single h => exact key h
  | tail _ h ih =>
    intro x y hx hy e1 e2
    obtain ⟨_, u, v, h1, h2, h3⟩ := quo_edge.1 h
    have hr := hg.all _ h1
    exact (ih x u hx hr.1 e1 h2).trans (key h u y hr.1 hy h2 e2)
/-- As nodes, components go round nowhere. -/
theorem quo_round (hg : Good g) : roundL (quoG g) = [] := by
  have hn := hg.n0
  cases hr : roundL (quoG g) with
  | nil => rfl
  | cons a l =>
    have h : TG (quoG g) a a := (mem_roundL (quo_good hg)).1 (by rw [hr]; exact List.mem_cons_self)
    exfalso
    cases h with
    | single h => exact (quo_edge.1 h).1 rfl
    | tail h1 h2 =>
      obtain ⟨hne, u, v, h3, h4, h5⟩ := quo_edge.1 h2
      have hr := hg.all _ h3
      simp only at hr
      have h6 := quo_way hg h1 v u hr.2 hr.1 h5 h4
      exact hne (by rw [← h4, ← h5]; exact (ofC_same (g := g) (by omega) (by omega)).2 ⟨.edge h3, h6⟩)
end
end Go.Proofs.Ytpdfcffeinbcaaa
