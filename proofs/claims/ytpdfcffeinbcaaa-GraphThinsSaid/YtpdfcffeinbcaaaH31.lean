/- PLAIN: levels. -/
import Derived.Test.YtpdfcffeinbcaaaH29
namespace Go.Proofs.Ytpdfcffeinbcaaa
open Go.RowKit
def levStep (v w : Int) (f : Int → Int) : Int → Int := fun i => if i = w then max (f w) (f v + 1) else f i
def levRow (v : Int) (ws : List Int) (f : Int → Int) : Int → Int := ws.foldl (fun f w => levStep v w f) f
def levF (adj : Int → List Int) (o : List Int) : Int → Int := o.foldl (fun f v => levRow v (adj v) f) fun _ => 0
theorem levRow_nil (v : Int) (f : Int → Int) : levRow v [] f = f := rfl
theorem levRow_snoc (v : Int) (ws : List Int) (w : Int) (f : Int → Int) : levRow v (ws ++ [w]) f = levStep v w (levRow v ws f) := by unfold levRow; rw [List.foldl_append]; rfl
theorem levF_nil (adj : Int → List Int) : levF adj [] = fun _ => 0 := rfl
theorem levF_snoc (adj : Int → List Int) (o : List Int) (v : Int) : levF adj (o ++ [v]) = levRow v (adj v) (levF adj o) := by unfold levF; rw [List.foldl_append]; rfl
theorem levRow_eq {v : Int} : ∀ {ws : List Int}, v ∉ ws → ∀ (f : Int → Int) (i : Int), levRow v ws f i = if i ∈ ws then max (f i) (f v + 1) else f i
  | [], _, f, i => by simp [levRow]
  | w :: ws, h, f, i => by
    have hw : v ≠ w := fun e => h (by simp [e])
    have ih := levRow_eq (v := v) (ws := ws) (fun hm => h (List.mem_cons_of_mem _ hm)) (levStep v w f) i
    show levRow v ws (levStep v w f) i = _
    rw [ih]
    unfold levStep
    rw [if_neg hw]
    by_cases e : i = w
    · subst e
      simp only [if_true, List.mem_cons, true_or]
      split <;> omega
    · simp only [List.mem_cons, e, false_or, if_false]
theorem levF_congr {a b : Int → List Int} (h : ∀ v x, x ∈ a v ↔ x ∈ b v) (hv : ∀ v, v ∉ a v) (o : List Int) : levF a o = levF b o := by
  unfold levF
  generalize (fun _ : Int => (0 : Int)) = f
  induction o generalizing f with
  | nil => rfl
  | cons v o ih =>
    simp only [List.foldl_cons]
    have : levRow v (a v) f = levRow v (b v) f := by
      funext i
      rw [levRow_eq (hv v), levRow_eq (fun hm => hv v ((h v v).2 hm))]
      simp only [h]
    rw [this]
    exact ih _
theorem levStep_bound {v w : Int} {f : Int → Int} {k : Int} (h : ∀ i, 0 ≤ f i ∧ f i ≤ k) : ∀ i, 0 ≤ levStep v w f i ∧ levStep v w f i ≤ k + 1 := fun i => by
  have h1 := h i; have h2 := h v; have h3 := h w
  unfold levStep; split <;> omega
theorem levRow_bound {v : Int} {ws : List Int} (hv : v ∉ ws) {f : Int → Int} {k : Int} (h : ∀ i, 0 ≤ f i ∧ f i ≤ k) : ∀ i, 0 ≤ levRow v ws f i ∧ levRow v ws f i ≤ k + 1 := fun i => by
  have h1 := h i; have h2 := h v
  rw [levRow_eq hv]; split <;> omega
theorem levF_bound {adj : Int → List Int} (hv : ∀ v, v ∉ adj v) (o : List Int) : ∀ i, 0 ≤ levF adj o i ∧ levF adj o i ≤ o.length := by
  have key : ∀ (o : List Int) (f : Int → Int) (k : Int), (∀ i, 0 ≤ f i ∧ f i ≤ k) → ∀ i, 0 ≤ o.foldl (fun f v => levRow v (adj v) f) f i ∧ o.foldl (fun f v => levRow v (adj v) f) f i ≤ k + o.length := by
    intro o
    induction o with
    | nil => intro f k h i; simpa using h i
    | cons v o ih =>
      intro f k h i
      have := ih _ _ (levRow_bound (hv v) h) i
      simp only [List.foldl_cons, List.length_cons]
      omega
  intro i
  have := key o (fun _ => 0) 0 (fun _ => ⟨Int.le_refl _, Int.le_refl _⟩) i
  unfold levF
  omega
theorem no_self {g : XG} (hno : ∀ x, ¬ TG g x x) (v : Int) : v ∉ nxt g v := fun h => hno v (.single (mem_nxt.1 h))
theorem lev_both {g : XG} (hno : ∀ x, ¬ TG g x x) (o : List Int) : levF (tgt g.es) o = levF (nxt g) o :=
  levF_congr (fun v x => by rw [mem_nxt, mem_tgt]) (fun v h => hno v (.single (mem_tgt.1 h))) o
/-- The levels of a graph without rounds. -/
def levL (g : XG) : List Int := if ordE g = 0 then (nodes g.n.toNat).map (levF (nxt g) (ordF (nxt g) g.n.toNat)) else []
theorem ordE_zero {g : XG} (h : ordE g = 0) : Good g ∧ (ordF (nxt g) g.n.toNat).length = g.n.toNat ∧ ∀ x, ¬ TG g x x := by
  have hk : chkF g = 0 := by
    apply Classical.byContradiction
    intro hk
    unfold ordE at h
    rw [if_neg hk] at h
    exact hk h
  have hg := chkF_good.1 hk
  have hl : (ordF (nxt g) g.n.toNat).length = g.n.toNat := by
    apply Classical.byContradiction
    intro hl
    unfold ordE at h
    rw [if_pos hk, if_neg hl] at h
    cases h
  exact ⟨hg, hl, (ord_iff hg).1 hl⟩
theorem num_row {w : World} {b n : Nat} {f : Int → Int} (h : NumAt w b n (fun i => f i)) : RowAt w (some ⟨b, 0, none⟩) (I ((nodes n).map f)) :=
  .inr ⟨b, 0, rfl, h.1, fun j hj => by
    rw [List.length_map, List.length_map, nodes_length] at hj
    rw [Nat.zero_add, h.2.1 j hj]
    unfold nodes
    simp⟩
end Go.Proofs.Ytpdfcffeinbcaaa
