/- PLAIN: who goes round, out of the components. -/
import Derived.Test.YtpdfcffeinbcaaaH46
import Derived.Test.YtpdfcffeinbcaaaH28
namespace Go.Proofs.Ytpdfcffeinbcaaa
open Go.RowKit
/-- A component that goes round. -/
def selC (g : XG) (c : List Int) : Bool := decide (1 < c.length) || decide (hd c ∈ nxt g (hd c))
noncomputable def selTo (g : XG) (j : Nat) : List Int := (((compsF g).take j).filter (selC g)).flatten
theorem selTo_succ {g : XG} {j : Nat} (hj : j < (compsF g).length) : selTo g (j + 1) = if selC g (compsF g)[j] = true then selTo g j ++ (compsF g)[j] else selTo g j := by
  unfold selTo
  rw [List.take_succ_eq_append_getElem hj, List.filter_append, List.flatten_append]
  cases h : selC g (compsF g)[j] <;> simp [h]
theorem comps_apart {g : XG} : (compsF g).Pairwise fun a b => ∀ x ∈ a, ∀ y ∈ b, x ≠ y := by
  have h := comps_heads g
  rw [List.pairwise_map] at h
  refine h.imp_of_mem (fun {a b} ha hb hab x hx y hy e => ?_)
  obtain ⟨i, _, _, rfl⟩ := mem_comps.1 ha
  obtain ⟨k, _, _, rfl⟩ := mem_comps.1 hb
  subst e
  have hs := (mem_compRow.1 hx).2.trans (mem_compRow.1 hy).2.symm
  have : compRow g i = compRow g k := rising_ext (compRow_rising g i) (compRow_rising g k) fun z => by
    rw [mem_compRow, mem_compRow]
    exact and_congr_right fun _ => ⟨fun h => hs.symm.trans h, fun h => hs.trans h⟩
  rw [this] at hab
  omega
theorem sel_nodup (g : XG) (j : Nat) : (selTo g j).Nodup := by
  have hsub : ((compsF g).take j |>.filter (selC g)).Sublist (compsF g) := List.filter_sublist.trans (List.take_sublist _ _)
  unfold selTo List.Nodup
  rw [List.pairwise_flatten]
  refine ⟨fun c hc => ?_, comps_apart.sublist hsub⟩
  obtain ⟨i, _, _, rfl⟩ := mem_comps.1 (hsub.subset hc)
  exact rising_nodup (compRow_rising g i)
theorem mem_sel {g : XG} {j : Nat} {x : Int} : x ∈ selTo g j ↔ ∃ c ∈ (compsF g).take j, selC g c = true ∧ x ∈ c := by
  unfold selTo
  simp only [List.mem_flatten, List.mem_filter]
  constructor
  · rintro ⟨c, ⟨h1, h2⟩, h3⟩; exact ⟨c, h1, h2, h3⟩
  · rintro ⟨c, h1, h2, h3⟩; exact ⟨c, ⟨h1, h2⟩, h3⟩
theorem sel_in {g : XG} {j : Nat} {x : Int} (h : x ∈ selTo g j) : 0 ≤ x ∧ x < (g.n.toNat : Int) := by
  obtain ⟨c, h1, _, h3⟩ := mem_sel.1 h
  obtain ⟨i, _, _, rfl⟩ := mem_comps.1 (List.mem_of_mem_take h1)
  exact (mem_compRow.1 h3).1
theorem sel_length (g : XG) (j : Nat) : (selTo g j).length ≤ g.n.toNat := nodup_len _ _ (sel_nodup g j) fun _ hx => sel_in hx
theorem sel_round {g : XG} (hg : Good g) : sortI (selTo g (compsF g).length) = roundL g := by
  refine rising_ext (sort_rising (sel_nodup g _)) (by unfold roundL; rw [if_pos (chkF_good.2 hg)]; exact toldL_rising _ _) fun x => ?_
  rw [(sortI_perm _).mem_iff, mem_roundL hg, mem_sel, List.take_length]
  have hn := hg.n0
  constructor
  · rintro ⟨c, h1, h2, h3⟩
    have hx : 0 ≤ x ∧ x < (g.n.toNat : Int) := by
      obtain ⟨i, _, _, rfl⟩ := mem_comps.1 h1
      exact (mem_compRow.1 h3).1
    rw [goes_iff hg (k := x) (by omega)]
    unfold selC at h2
    by_cases hl : 1 < c.length
    · exact .inl ⟨c, h1, hl, h3⟩
    · right
      have h4 : hd c ∈ nxt g (hd c) := by simpa [hl] using h2
      cases c with
      | nil => cases h3
      | cons a l =>
        have : l = [] := List.eq_nil_of_length_eq_zero (by have : (a :: l).length = l.length + 1 := rfl; omega)
        subst this
        obtain rfl := List.mem_singleton.1 h3
        exact mem_nxt.1 h4
  · intro h
    have hx := (tg_in hg h).1
    rcases (goes_iff hg hx).1 h with ⟨c, h1, h2, h3⟩ | he
    · exact ⟨c, h1, by unfold selC; simp [h2], h3⟩
    · obtain ⟨i, h1, h2, h3⟩ := comp_of g x.toNat
      rw [Int.toNat_of_nonneg hx.1] at h3
      have hc : compRow g i ∈ compsF g := mem_comps.2 ⟨i, by omega, h2, rfl⟩
      have hm : x ∈ compRow g i := mem_compRow.2 ⟨by omega, h3⟩
      refine ⟨_, hc, ?_, hm⟩
      unfold selC
      by_cases hl : 1 < (compRow g i).length
      · simp [hl]
      · cases hr : compRow g i with
        | nil => rw [hr] at hm; cases hm
        | cons a l =>
          rw [hr] at hm hl
          have : l = [] := List.eq_nil_of_length_eq_zero (by have : (a :: l).length = l.length + 1 := rfl; omega)
          subst this
          obtain rfl := List.mem_singleton.1 hm
          have : x ∈ nxt g x := mem_nxt.2 he
          simp [hd, this]
end Go.Proofs.Ytpdfcffeinbcaaa
