/- PLAIN: where nobody goes round, of those left over one has nobody ahead. -/
import Derived.Test.YtpdfcffeinbcaaaH12
namespace Go.Proofs.Ytpdfcffeinbcaaa
open Go.RowKit
theorem filter_lt {α : Type} {p q : α → Bool} : ∀ {l : List α}, (∀ x ∈ l, p x = true → q x = true) → ∀ {y : α}, y ∈ l → q y = true → p y = false → (l.filter p).length < (l.filter q).length
  | a :: l, h, y, hy, hq, hp => by
    have hle : ∀ {l : List α}, (∀ x ∈ l, p x = true → q x = true) → (l.filter p).length ≤ (l.filter q).length := by
      intro l
      induction l with
      | nil => intro _; simp
      | cons b l ih =>
        intro h
        have := ih (fun x hx => h x (List.mem_cons_of_mem _ hx))
        have hb := h b (List.mem_cons_self ..)
        simp only [List.filter_cons]
        cases hpb : p b <;> cases hqb : q b <;> simp_all <;> omega
    have ht := fun x hx => h x (List.mem_cons_of_mem a hx)
    rcases List.mem_cons.1 hy with rfl | hy
    · simp only [List.filter_cons, hq, hp, if_true]
      have := hle ht
      simp only [Bool.false_eq_true, if_false, List.length_cons]
      omega
    · have h2 := filter_lt ht hy hq hp
      have ha := h a (List.mem_cons_self ..)
      simp only [List.filter_cons]
      cases hpb : p a <;> cases hqb : q a <;> simp_all <;> omega
open Classical in
theorem least_free {R : Int → Int → Prop} (n : Nat) (hno : ∀ x, ¬ Relation.TransGen R x x) (U : Int → Prop) (hr : ∀ v, U v → 0 ≤ v ∧ v < (n : Int)) : ∀ (k : Nat) (v : Int), ((List.range n).filter (fun (i : Nat) => decide (Relation.TransGen R (i : Int) v))).length ≤ k → U v → ∃ v, U v ∧ ∀ u, U u → ¬ R u v
  | k, v, hk, hv => by
    by_cases h : ∃ u, U u ∧ R u v
    · obtain ⟨u, hu, hR⟩ := h
      have hur := hr u hu
      have hlt : ((List.range n).filter (fun (i : Nat) => decide (Relation.TransGen R (i : Int) u))).length < ((List.range n).filter (fun (i : Nat) => decide (Relation.TransGen R (i : Int) v))).length := by
        refine filter_lt (fun x _ hx => ?_) (y := u.toNat) (List.mem_range.2 (by omega)) ?_ ?_
        · exact decide_eq_true (.tail (of_decide_eq_true hx) hR)
        · rw [Int.toNat_of_nonneg hur.1]; exact decide_eq_true (.single hR)
        · rw [Int.toNat_of_nonneg hur.1]; exact decide_eq_false (hno u)
      match k, hk with
      | 0, hk => omega
      | k + 1, hk => exact least_free n hno U hr k u (by omega) hu
    · exact ⟨v, hv, fun u hu hR => h ⟨u, hu, hR⟩⟩
end Go.Proofs.Ytpdfcffeinbcaaa
