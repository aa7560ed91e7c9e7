/- Generic: a queue of one-cell values (a slice that is cut ahead and appended to). -/
import Derived.Test.YtpdfcffeinbcaaaV4
import Derived.ArgAppend
namespace Go.Proofs.Ytpdfcffeinbcaaa
open Go.RowKit
def QueueAt (w : World) (base : Nat) (v : Value) (xs : List Value) : Prop :=
  (v = .slice none 0 0 ∧ xs = []) ∨ ∃ g off cap, v = .slice (some ⟨g, off, none⟩) xs.length cap ∧ base ≤ g ∧ g < w.heap.size ∧ xs.length ≤ cap ∧ cap ≤ 9223372036854775807 ∧ (∀ j, w.frozen? ⟨g, j, none⟩ = false) ∧
    (∀ j, j < cap → ∃ u, w.cell? ⟨g, off + j, none⟩ = some u) ∧ ∀ j (h : j < xs.length), w.cell? ⟨g, off + j, none⟩ = some xs[j]
theorem queue_nil (w : World) (base : Nat) : QueueAt w base (.slice none 0 0) [] := .inl ⟨rfl, rfl⟩
theorem QueueAt.of_own {w : World} {base n : Nat} {e : TypeId} {v : Value} {xs : List Value} (h : w.ownsRow base e 1 v n xs) : QueueAt w base v xs := by
  have hl : n = xs.length := by have := h.1; omega
  subst hl
  rcases h with ⟨_, ⟨rfl, h0⟩ | ⟨g, cap, cur, rfl, hB, hh, hn, hc, hsz, htk⟩⟩
  · exact .inl ⟨rfl, List.eq_nil_of_length_eq_zero h0⟩
  · have h' : w.ownsRow base e 1 (.slice (some ⟨g, 0, none⟩) xs.length cap) xs.length xs := ⟨by omega, .inr ⟨g, cap, cur, rfl, hB, hh, hn, hc, hsz, htk⟩⟩
    refine .inr ⟨g, 0, cap, rfl, hB, (Array.getElem?_eq_some_iff.1 hh).1, hn, by simpa [maxLen] using hc, fun j => ?_, fun j hj => ?_, fun j hj => ?_⟩
    · unfold World.frozen?; rw [hh]; simp
    · unfold World.cell?
      rw [hh]
      simp only [Option.isSome_none, Bool.false_eq_true, if_false, Nat.zero_add]
      exact ⟨_, Array.getElem?_eq_getElem (by omega)⟩
    · have h3 := h'.cells (g := g) rfl j _ (List.getElem?_eq_getElem hj)
      rw [add_zero] at h3
      rw [Nat.zero_add, h3]
theorem QueueAt.moves {M : List Nat} {w w1 : World} {base : Nat} {v : Value} {xs : List Value} (h : QueueAt w base v xs) (hm : Moves M w w1) (hM : ∀ g, v.ownBlock = some g → g ∉ M) : QueueAt w1 base v xs := by
  rcases h with h | ⟨g, off, cap, rfl, h1, h2, h3, h4, h5, h6, h7⟩
  · exact .inl h
  · have hg := hM g rfl
    exact .inr ⟨g, off, cap, rfl, h1, Nat.lt_of_lt_of_le h2 hm.2.2.2.1, h3, h4, fun j => (hm.frozen h2 hg j).trans (h5 j), fun j hj => by obtain ⟨u, hu⟩ := h6 j hj; exact ⟨u, (hm.cell h2 hg _).trans hu⟩, fun j hj => (hm.cell h2 hg _).trans (h7 j hj)⟩
theorem QueueAt.lt {w : World} {base : Nat} {v : Value} {xs : List Value} (h : QueueAt w base v xs) : ∀ g, v.ownBlock = some g → base ≤ g ∧ g < w.heap.size := by
  intro g e
  rcases h with ⟨rfl, _⟩ | ⟨g', off, cap, rfl, h1, h2, _⟩
  · simp [Value.ownBlock] at e
  · cases e; exact ⟨h1, h2⟩
theorem QueueAt.form {w : World} {base : Nat} {v : Value} {xs : List Value} (h : QueueAt w base v xs) : ∃ X cap, v = .slice X xs.length cap := by
  rcases h with ⟨rfl, rfl⟩ | ⟨g', off, cap, rfl, _⟩
  · exact ⟨_, _, rfl⟩
  · exact ⟨_, _, rfl⟩
/-- The first is there; behind it the rest is a queue. -/
theorem QueueAt.cut {w : World} {base : Nat} {v : Value} {x : Value} {xs : List Value} (h : QueueAt w base v (x :: xs)) :
    ∃ g off cap, v = .slice (some ⟨g, off, none⟩) (xs.length + 1) (cap + 1) ∧ cap + 1 ≤ 9223372036854775807 ∧ xs.length ≤ cap ∧ w.cell? ⟨g, off, none⟩ = some x ∧ base ≤ g ∧ g < w.heap.size ∧
      QueueAt w base (.slice (some (if cap = 0 then ⟨g, off, none⟩ else ⟨g, off + 1, none⟩)) xs.length cap) xs := by
  rcases h with ⟨_, h⟩ | ⟨g, off, cap, rfl, h1, h2, h3, h4, h5, h6, h7⟩
  · cases h
  · rw [List.length_cons] at h3
    obtain ⟨c, rfl⟩ : ∃ c, cap = c + 1 := ⟨cap - 1, by omega⟩
    refine ⟨g, off, c, rfl, h4, by omega, h7 0 (by simp), h1, h2, ?_⟩
    by_cases hc : c = 0
    · subst hc
      have : xs = [] := List.eq_nil_of_length_eq_zero (by omega)
      subst this
      rw [if_pos rfl]
      exact .inr ⟨g, off, 0, rfl, h1, h2, by simp, by omega, h5, fun j hj => by omega, fun j hj => by simp at hj⟩
    · rw [if_neg hc]
      exact .inr ⟨g, off + 1, c, rfl, h1, h2, by omega, by omega, h5, fun j hj => by have := h6 (j + 1) (by omega); rwa [show off + 1 + j = off + (j + 1) by omega], fun j hj => by have := h7 (j + 1) (by simp; omega); rw [show off + 1 + j = off + (j + 1) by omega, this]; simp⟩
theorem app_queue {P : Program} {ops : Array Oper} {rest : List Oper} {o : Oper} {a : Act} {Q : Exit → Act → World → Prop} {W : World} (base : Nat) (hgd : o.guard = none) (s x : Operand) (t e : TypeId) (z : Value) (bytes : Nat)
    (ho : o.op = .call { callee := .builtin .append, args := #[s, x], argTypes := #[t, t] })
    (ht : P.underlying t = some (.slice e)) (hinfo : (P.info? e).map (fun i => (i.zero, i.size, i.bytes)) = some (some z, 1, bytes)) (hz : z.cells.size = 1)
    (v : Value) (xs : List Value) (y : Value) (hs : a.eval s = v) (nb : Nat) (hx : a.eval x = .slice (some ⟨nb, 0, none⟩) 1 1) (hnb : nb = W.heap.size) (h1 : y.oneCell' = true)
    (HO : QueueAt W base v xs) (hbase : base ≤ W.heap.size) (hlen : xs.length + 1 ≤ 140737488355328) (hl : (xs.length + 1) * bytes ≤ 140737488355328)
    (h : ∀ v1 w1, QueueAt w1 base v1 (xs ++ [y]) → W.grownBy w1 v.ownBlock → (∀ g, v1.ownBlock = some g → v.ownBlock = some g ∨ W.heap.size ≤ g) → W.heap.size < w1.heap.size → wpList P ops Q rest (a.put o.dst v1) w1) :
    wpList P ops Q (o :: rest) a (W.alloc (.cells #[y] e)) := by
  obtain ⟨i0, hi, hzz⟩ := Option.map_eq_some_iff.1 hinfo
  simp only [Prod.mk.injEq] at hzz
  obtain ⟨hz0, hz1, hz2⟩ := hzz
  subst hnb
  have hgrow : ∀ v' w', w'.ownsRow (W.alloc (.cells #[y] e)).heap.size e 1 v' (xs.length + 1) (xs ++ [y]) → (W.alloc (.cells #[y] e)).grownBy w' none → wpList P ops Q rest (a.put o.dst v') w' := fun v' w' hown hg => by
    rw [al_size] at hown
    have hgr : W.grownBy w' none := World.grownBy.trans (World.grownBy_alloc W _ _) hg
    have hsz := hg.size
    rw [al_size] at hsz
    exact h _ w' (QueueAt.of_own (own_base hown (by omega))) ⟨hgr.os, hgr.tape, hgr.output, hgr.size, fun k hk _ => hgr.block k hk (by simp)⟩ (fun g e => .inr (by have := (hown.lt g e).1; omega)) (by omega)
  have hnew : ∀ j u, [y][j]? = some u → (W.alloc (.cells #[y] e)).cell? ((⟨W.heap.size, 0, none⟩ : Addr).add j) = some u := fun j u hu => by rw [add_zero, cell_new]; simpa using hu
  rcases HO with ⟨rfl, rfl⟩ | ⟨g, off, cap, rfl, q1, q2, q3, q4, q5, q6, q7⟩
  · exact wpList_append_grows (W.alloc (.cells #[y] e)) hgd s x t ho e i0 z 1 bytes ht hi hz0 hz1 hz2 hz (by omega) none 0 0 [] hs (fun _ => ⟨rfl, rfl⟩) rfl (fun b e => by cases e) ⟨W.heap.size, 0, none⟩ 1 1 [y] hx rfl hnew (by simpa using h1) (by omega) (by simp only [maxLen]; omega) (by simpa using hl) hgrow
  · have hcl : ∀ j, j < cap → ∃ u, (W.alloc (.cells #[y] e)).cell? ⟨g, off + j, none⟩ = some u := fun j hj => by
      obtain ⟨u, hu⟩ := q6 j hj
      exact ⟨u, (World.cell?_alloc_lt _ _ ⟨g, off + j, none⟩ q2).trans hu⟩
    have hfz : ∀ j, (W.alloc (.cells #[y] e)).frozen? ⟨g, j, none⟩ = false := fun j => by
      have := q5 j
      unfold World.frozen? at this ⊢
      rw [heap_alloc_old _ _ q2]; exact this
    refine wpList_append_arg (W.alloc (.cells #[y] e)) hgd s x t ho e i0 z 1 bytes ht hi hz0 hz1 hz2 hz (by omega) g off xs.length cap xs hs (by omega) (fun j u hu => ?_) ⟨W.heap.size, 0, none⟩ 1 1 [y] hx rfl hnew (by simpa using h1) (fun hr j hj => ?_) (by simp only [maxLen]; omega) hl (fun hr => ?_) (fun _ => hgrow)
    · obtain ⟨hj, rfl⟩ := List.getElem?_eq_some_iff.1 hu
      exact (World.cell?_alloc_lt _ _ ⟨g, off + j, none⟩ q2).trans (q7 j hj)
    · obtain rfl : j = 0 := by simpa using hj
      obtain ⟨u, hu⟩ := hcl xs.length (by omega)
      rw [Nat.mul_one, Nat.add_zero]
      exact ⟨by rw [hu]; rfl, hfz _⟩
    · rw [Nat.mul_one]
      show wpList P ops Q rest _ ((W.alloc (.cells #[y] e)).setCell ⟨g, off + xs.length, none⟩ y)
      have hsz : ((W.alloc (.cells #[y] e)).setCell ⟨g, off + xs.length, none⟩ y).heap.size = W.heap.size + 1 := by simp [World.setCell]
      refine h _ _ (.inr ⟨g, off, cap, by rw [List.length_append]; rfl, q1, by omega, by simp; omega, q4, fun j => by rw [World.frozen?_setCell]; exact hfz j, fun j hj => ?_, fun j hj => ?_⟩) ?_ (fun g' e => .inl e) (by omega)
      · obtain ⟨u, hu⟩ := hcl j hj
        by_cases e : j = xs.length
        · subst e; exact ⟨y, set_here _ _ _ _ _ hu⟩
        · exact ⟨u, (set_far _ _ _ _ _ (by omega)).trans hu⟩
      · by_cases e : j = xs.length
        · subst e
          obtain ⟨u, hu⟩ := hcl xs.length (by omega)
          rw [set_here _ _ _ _ _ hu]; simp
        · have hj2 : j < xs.length := by simp at hj; omega
          rw [set_far _ _ _ _ _ (by omega), List.getElem_append_left hj2]
          exact (World.cell?_alloc_lt _ _ ⟨g, off + j, none⟩ q2).trans (q7 j hj2)
      · refine ⟨rfl, rfl, rfl, by omega, fun k hk hne => ?_⟩
        rw [Below.heap_setCell _ ⟨g, off + xs.length, none⟩ y k (fun e => hne (by rw [e]; rfl))]
        exact heap_alloc_old _ _ hk
end Go.Proofs.Ytpdfcffeinbcaaa
