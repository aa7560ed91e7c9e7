/- PLAIN: the longest way by weights. -/
import Derived.Test.YtpdfcffeinbcaaaH31
namespace Go.Proofs.Ytpdfcffeinbcaaa
open Go.RowKit
/-- The greatest of c and of f at all of ws. -/
def maxs (f : Int → Int) (c : Int) (ws : List Int) : Int := ws.foldl (fun m w => max m (f w)) c
theorem maxs_nil (f : Int → Int) (c : Int) : maxs f c [] = c := rfl
theorem maxs_snoc (f : Int → Int) (c : Int) (ws : List Int) (w : Int) : maxs f c (ws ++ [w]) = max (maxs f c ws) (f w) := by unfold maxs; rw [List.foldl_append]; rfl
theorem maxs_cons (f : Int → Int) (c : Int) (ws : List Int) (w : Int) : maxs f c (w :: ws) = maxs f (max c (f w)) ws := rfl
theorem maxs_ge (f : Int → Int) : ∀ (ws : List Int) (c : Int), c ≤ maxs f c ws ∧ ∀ w ∈ ws, f w ≤ maxs f c ws
  | [], c => ⟨Int.le_refl _, by simp⟩
  | w :: ws, c => by
    obtain ⟨h1, h2⟩ := maxs_ge f ws (max c (f w))
    rw [maxs_cons]
    refine ⟨by omega, fun x hx => ?_⟩
    rcases List.mem_cons.1 hx with rfl | hx
    · omega
    · exact h2 x hx
theorem maxs_is (f : Int → Int) : ∀ (ws : List Int) (c : Int), maxs f c ws = c ∨ ∃ w ∈ ws, maxs f c ws = f w
  | [], c => .inl rfl
  | w :: ws, c => by
    rw [maxs_cons]
    rcases maxs_is f ws (max c (f w)) with h | ⟨x, hx, h⟩
    · rcases Int.le_total c (f w) with h1 | h1
      · exact .inr ⟨w, by simp, by rw [h]; omega⟩
      · exact .inl (by rw [h]; omega)
    · exact .inr ⟨x, List.mem_cons_of_mem _ hx, h⟩
theorem maxs_congr {f g : Int → Int} {c : Int} {a b : List Int} (hm : ∀ x, x ∈ a ↔ x ∈ b) (hf : ∀ x ∈ a, f x = g x) : maxs f c a = maxs g c b := by
  have h1 := maxs_ge f a c
  have h2 := maxs_ge g b c
  refine Int.le_antisymm ?_ ?_
  · rcases maxs_is f a c with h | ⟨w, hw, h⟩
    · rw [h]; exact h2.1
    · rw [h, hf w hw]; exact h2.2 w ((hm w).1 hw)
  · rcases maxs_is g b c with h | ⟨w, hw, h⟩
    · rw [h]; exact h1.1
    · have := (hm w).2 hw
      rw [h, ← hf w this]; exact h1.2 w this
theorem maxs_add (f : Int → Int) (k : Int) : ∀ (ws : List Int) (c : Int), ws.foldl (fun m w => max m (k + f w)) (k + c) = k + maxs f c ws
  | [], c => rfl
  | w :: ws, c => by
    rw [maxs_cons, ← maxs_add f k ws (max c (f w))]
    simp only [List.foldl_cons]
    congr 1
    omega
/-- One node more is reckoned. -/
def lonRow (wt : Int → Int) (v : Int) (ws : List Int) (f : Int → Int) : Int → Int := fun i => if i = v then wt v + maxs f 0 ws else f i
/-- The sums behind the nodes p, each reckoned behind those that it leads to. -/
def lonF (wt : Int → Int) (adj : Int → List Int) (f0 : Int → Int) (p : List Int) : Int → Int := p.foldl (fun f v => lonRow wt v (adj v) f) f0
theorem lonF_snoc (wt : Int → Int) (adj : Int → List Int) (f0 : Int → Int) (p : List Int) (v : Int) : lonF wt adj f0 (p ++ [v]) = lonRow wt v (adj v) (lonF wt adj f0 p) := by unfold lonF; rw [List.foldl_append]; rfl
theorem lonF_out {wt : Int → Int} {adj : Int → List Int} {f0 : Int → Int} {p : List Int} {i : Int} (h : i ∉ p) : lonF wt adj f0 p i = f0 i := by
  unfold lonF
  induction p generalizing f0 with
  | nil => rfl
  | cons v p ih =>
    simp only [List.foldl_cons]
    rw [ih (fun hm => h (List.mem_cons_of_mem _ hm))]
    unfold lonRow
    rw [if_neg (fun e => h (by simp [e]))]
/-- A way of reckoning: each once, those that it leads to ahead of it. -/
structure Back (adj : Int → List Int) (p : List Int) : Prop where
  nod : p.Nodup
  ahead : ∀ (k : Nat) (h : k < p.length) (x : Int), x ∈ adj p[k] → x ∈ p.take k
theorem take_prefix {α : Type} (p q : List α) (k : Nat) (h : k ≤ p.length) : (p ++ q).take k = p.take k := List.take_append_of_le_length h
theorem Back.left {adj : Int → List Int} {p q : List Int} (h : Back adj (p ++ q)) : Back adj p :=
  ⟨(List.nodup_append.1 h.nod).1, fun k hk x hx => by
    have := h.ahead k (by simp; omega) x (by rw [List.getElem_append_left hk]; exact hx)
    rwa [take_prefix p q k (by omega)] at this⟩
/-- What was reckoned stays. -/
theorem lonF_stays {wt : Int → Int} {adj : Int → List Int} {f0 : Int → Int} {p q : List Int} (hn : (p ++ q).Nodup) {i : Int} (hi : i ∈ p) : lonF wt adj f0 (p ++ q) i = lonF wt adj f0 p i := by
  unfold lonF
  rw [List.foldl_append]
  exact lonF_out (wt := wt) (adj := adj) (f0 := p.foldl (fun f v => lonRow wt v (adj v) f) f0) (fun hq => (List.nodup_append.1 hn).2.2 i hi i hq rfl)
/-- Two that begin otherwise, over lists with the same members, reckon the same. -/
theorem lonF_same {wt : Int → Int} {a b : Int → List Int} (hm : ∀ v x, x ∈ a v ↔ x ∈ b v) {f0 g0 : Int → Int} : ∀ {p : List Int}, Back a p → ∀ i ∈ p, lonF wt a f0 p i = lonF wt b g0 p i := by
  intro p
  induction hp : p.length generalizing p with
  | zero => intro _ i hi; rw [List.eq_nil_of_length_eq_zero hp] at hi; cases hi
  | succ n ih =>
    intro h i hi
    obtain ⟨q, v, rfl⟩ : ∃ q v, p = q ++ [v] := by
      rcases List.eq_nil_or_concat p with rfl | ⟨q, v, e⟩
      · simp at hp
      · exact ⟨q, v, by rw [e, List.concat_eq_append]⟩
    have hq : q.length = n := by simp at hp; exact hp
    rw [lonF_snoc, lonF_snoc]
    unfold lonRow
    by_cases e : i = v
    · rw [if_pos e, if_pos e]
      congr 1
      refine maxs_congr (hm v) (fun x hx => ?_)
      have hx2 := h.ahead q.length (by simp) x (by rw [List.getElem_append_right (Nat.le_refl _)]; simpa using hx)
      rw [take_prefix q [v] _ (Nat.le_refl _), List.take_length] at hx2
      exact ih hq h.left x hx2
    · rw [if_neg e, if_neg e]
      refine ih hq h.left i ?_
      rcases List.mem_append.1 hi with h1 | h1
      · exact h1
      · simp at h1; exact absurd h1 e
/-- The sums tell of each how much is along the longest way from it on. -/
theorem lonF_rec {wt : Int → Int} {adj : Int → List Int} {f0 : Int → Int} {p : List Int} (h : Back adj p) {v : Int} (hv : v ∈ p) : lonF wt adj f0 p v = wt v + maxs (lonF wt adj f0 p) 0 (adj v) := by
  obtain ⟨k, hk, rfl⟩ := List.mem_iff_getElem.1 hv
  have hs : p = (p.take k ++ [p[k]]) ++ p.drop (k + 1) := by
    rw [← List.take_succ_eq_append_getElem hk, List.take_append_drop]
  have hn : ((p.take k ++ [p[k]]) ++ p.drop (k + 1)).Nodup := by rw [← hs]; exact h.nod
  have h1 : lonF wt adj f0 p p[k] = lonF wt adj f0 (p.take k ++ [p[k]]) p[k] := by
    have := lonF_stays (wt := wt) (adj := adj) (f0 := f0) hn (i := p[k]) (List.mem_append_right _ (List.mem_singleton.2 rfl))
    rwa [← hs] at this
  rw [h1, lonF_snoc]
  unfold lonRow
  rw [if_pos rfl]
  congr 1
  refine maxs_congr (fun _ => Iff.rfl) (fun x hx => ?_)
  have hx2 := h.ahead k hk x hx
  have hn2 : (p.take k ++ ([p[k]] ++ p.drop (k + 1))).Nodup := by rw [← List.append_assoc]; exact hn
  have := lonF_stays (wt := wt) (adj := adj) (f0 := f0) hn2 hx2
  rw [← List.append_assoc, ← hs] at this
  exact this.symm
theorem lonF_bound {wt : Int → Int} {adj : Int → List Int} {f0 : Int → Int} {c : Int} (hc : 0 ≤ c) (hw : ∀ i, 0 ≤ wt i ∧ wt i ≤ c) (h0 : ∀ i, 0 ≤ f0 i ∧ f0 i ≤ c) : ∀ (p : List Int) (i : Int), 0 ≤ lonF wt adj f0 p i ∧ lonF wt adj f0 p i ≤ (p.length + 1) * c := by
  intro p
  unfold lonF
  have key : ∀ (p : List Int) (f : Int → Int) (k : Nat), (∀ i, 0 ≤ f i ∧ f i ≤ (k + 1) * c) → ∀ i, 0 ≤ p.foldl (fun f v => lonRow wt v (adj v) f) f i ∧ p.foldl (fun f v => lonRow wt v (adj v) f) f i ≤ (k + p.length + 1 : Nat) * c := by
    intro p
    induction p with
    | nil => intro f k h i; simpa using h i
    | cons v p ih =>
      intro f k h i
      have h2 : ∀ i, 0 ≤ lonRow wt v (adj v) f i ∧ lonRow wt v (adj v) f i ≤ ((k + 1 : Nat) + 1) * c := fun i => by
        have h3 := h i
        have h4 := hw v
        have h5 := (maxs_ge f (adj v) 0).1
        have h6 : maxs f 0 (adj v) ≤ (k + 1) * c := by
          rcases maxs_is f (adj v) 0 with e | ⟨w, _, e⟩
          · rw [e]; exact Int.mul_nonneg (by omega) hc
          · rw [e]; exact (h w).2
        have h7 : (((k + 1 : Nat) : Int) + 1) * c = (k + 1) * c + c := by rw [Int.add_mul, Int.one_mul]; simp
        unfold lonRow
        rw [h7]
        split <;> omega
      have := ih _ (k + 1) h2 i
      simp only [List.foldl_cons, List.length_cons]
      rw [show k + (p.length + 1) + 1 = k + 1 + p.length + 1 by omega]
      exact this
  intro i
  have := key p f0 0 (fun i => by simpa using h0 i) i
  simpa using this
end Go.Proofs.Ytpdfcffeinbcaaa
