/- PLAIN: the components, put in order by their first nodes. -/
import Derived.Test.YtpdfcffeinbcaaaH43
namespace Go.Proofs.Ytpdfcffeinbcaaa
open Go.RowKit
/-- A row's first. -/
def hd (c : List Int) : Int := c.headD 0
theorem compRow_head {g : XG} {i : Nat} (hi : i < g.n.toNat) (hn : ¬ Done g i i) : hd (compRow g i) = i ∧ compRow g i ≠ [] := by
  have hm : (i : Int) ∈ compRow g i := mem_compRow.2 ⟨by omega, .refl _ _⟩
  have hr := compRow_rising g i
  have hall : ∀ a ∈ compRow g i, (i : Int) ≤ a := fun a ha => by
    obtain ⟨h1, h2⟩ := mem_compRow.1 ha
    rcases Int.lt_or_le a i with c | c
    · exact absurd ⟨a.toNat, by omega, by rw [Int.toNat_of_nonneg h1.1]; exact h2.symm⟩ hn
    · exact c
  cases hc : compRow g i with
  | nil => rw [hc] at hm; cases hm
  | cons a l =>
    rw [hc] at hm hr hall
    refine ⟨?_, by simp⟩
    show a = (i : Int)
    rcases List.mem_cons.1 hm with e | e
    · exact e.symm
    · have h1 := (List.pairwise_cons.1 hr).1 _ e
      have h2 := hall a List.mem_cons_self
      omega
/-- A component is what its first says. -/
theorem comp_by_head {g : XG} {c : List Int} (hc : c ∈ compsF g) : c = compRow g (hd c).toNat ∧ c ≠ [] ∧ (0 ≤ hd c ∧ hd c < (g.n.toNat : Int)) := by
  obtain ⟨i, h1, h2, rfl⟩ := mem_comps.1 hc
  obtain ⟨h3, h4⟩ := compRow_head h1 h2
  rw [h3]
  exact ⟨by rw [Int.toNat_natCast], h4, by omega⟩
theorem comps_heads (g : XG) : ((compsF g).map hd).Pairwise (· < ·) := by
  unfold compsF compsTo
  rw [List.pairwise_map, List.pairwise_map]
  refine (List.Pairwise.filter _ List.pairwise_lt_range).imp_of_mem (fun {a b} ha hb hab => ?_)
  have key : ∀ {k : Nat}, k ∈ (List.range g.n.toNat).filter (fun k => !doneB g k k) → k < g.n.toNat ∧ ¬ Done g k k := fun {k} hk => by
    rw [List.mem_filter, List.mem_range] at hk
    exact ⟨hk.1, fun h => by have := doneB_iff.2 h; simp [this] at hk⟩
  rw [(compRow_head (key ha).1 (key ha).2).1, (compRow_head (key hb).1 (key hb).2).1]
  omega
theorem by_heads {g : XG} {R : List (List Int)} (h : ∀ c ∈ R, c ∈ compsF g) : R = (R.map hd).map fun a => compRow g a.toNat := by
  rw [List.map_map]
  have : R.map id = R.map ((fun a => compRow g a.toNat) ∘ hd) := List.map_congr_left fun c hc => (comp_by_head (h c hc)).1
  rwa [List.map_id] at this
/-- What has their members, in the order of the first ones. -/
theorem comps_sorted {g : XG} {R : List (List Int)} (hm : ∀ c, c ∈ R ↔ c ∈ compsF g) (hn : R.Nodup) (hr : R.Pairwise fun a b => hd a ≤ hd b) : R = compsF g := by
  have hs : (R.map hd).Pairwise (· < ·) := by
    rw [List.pairwise_map]
    refine (hr.and hn).imp_of_mem (fun {a b} ha hb hab => ?_)
    rcases Int.lt_or_le (hd a) (hd b) with c | c
    · exact c
    · have e : hd a = hd b := by have := hab.1; omega
      exact absurd (by rw [(comp_by_head ((hm a).1 ha)).1, (comp_by_head ((hm b).1 hb)).1, e]) hab.2
  have he : R.map hd = (compsF g).map hd := rising_ext hs (comps_heads g) fun x => by
    simp only [List.mem_map, hm]
  rw [by_heads (R := R) (fun c hc => (hm c).1 hc), he, ← by_heads (fun c hc => hc)]
end Go.Proofs.Ytpdfcffeinbcaaa
