/- A range over a function whose rounds are told what they are handed. -/
import Derived.Test.YtofmdmmgbfbaoaaDoorA0
import Derived.RangeFuncNested
import Derived.RangeFuncBound
import Derived.RangeFuncCalls
import Derived.RangeFuncLeaves
namespace Go.Proofs.YtofmdmmgbfbaoaaDoor
open Go.RowKit

theorem grown_none {w w' : World} (h : Below w.heap.size w w') : w.grownBy w' none := ⟨h.os, h.tape, h.output, h.size, fun i hi _ => h.block i hi⟩
/-- What is no cells, and lies at or beyond B, stays. -/
def Rest (B : Nat) (W W' : World) : Prop := ∀ i o, B ≤ i → W.heap[i]? = some o → o.isCells = false → W'.heap[i]? = some o
theorem range_rounds {P : Program} {n : Nat} {g : Operand} {ps : Array Tmp} {assign body : Code} {Q : Exit → Act → World → Prop} {a : Act} {w : World}
    {gf : Nat} {lb : Array Value} (hg : a.eval g = .func (.func gf) #[] lb) (eg : ∀ args w, (callFunc gf args).run P w = .ok (.enter gf args) w)
    (n₀ N : Nat) (hn0 : n₀ ≤ w.heap.size) (R : Nat → World → Array Value → Prop) (K : Nat → World → Prop) (Ax : Nat → Act → World → Prop)
    (hRs : ∀ k W args, R k W args → args.size = ps.size)
    (hK : ∀ k A B row, K k A → A.grownBy B row → (∀ r, row = some r → w.heap.size ≤ r) → K k B)
    (hAx : ∀ k a' A B l, Ax k a' A → A.grownBy B (some l) → (∃ o : Obj, A.heap[l]? = some o ∧ o.isCells = false) → Ax k a' B)
    (hiter : ∀ (l : Nat) (J : Nat → World → Prop) (W : World), Below w.heap.size w W → (∀ k A B, J k A → A.grownBy B none → J k B) →
      (∀ k W1 args, k < N → J k W1 → R k W1 args → YieldAt Fence.wide (n - 1 - 1) P l args W1 fun e W' => e = .returned (.bool true) ∧ J (k + 1) W' ∧ Below n₀ W1 W') → J 0 W →
      CallsIn Fence.wide (n - 1) P gf (#[.func (.yield l) #[] #[]] ++ lb) W fun e W' => (∃ v, e = .returned v) ∧ J N W')
    (hassign : ∀ (l k : Nat) (W : World) (args : Array Value) (K' : Act → World → Prop), K k W → R k W args → (∀ a' W', Below W.heap.size W W' → Ax k a' W' → K' a' W') →
      assign.wpIn (Fence.wide.inRound l) (n - 1 - 1) P (Exit.then K' (fun _ _ _ => False)) { tmps := (ps.zip args).foldl (fun t (p, v) => t.setIfInBounds p v) a.tmps, defers := [] } W)
    (hbody : ∀ (l k : Nat) (W : World) (a' : Act), k < N → K k W → Ax k a' W →
      body.wpIn (Fence.wide.inRound l) (n - 1 - 1) P (fun e _ W' => e = .normal ∧ K (k + 1) W' ∧ Below n₀ W W' ∧ Rest w.heap.size W W') a' W)
    (h0 : K 0 w)
    (hdone : ∀ (D : Nat) (W : World), w.heap.size ≤ D → K N W → W.heap[D]? = some (.deferred (some [])) → Q .normal { a with defers := { target := .collected D, args := #[] } :: a.defers } W) :
    (Code.rangeFunc g ps assign body).wpIn Fence.wide n P Q a w := by
  refine wpIn_rangeFunc fun fn hfn => ?_
  -- the record, ready or busy
  obtain ⟨rc, hrc⟩ : ∃ rc : LoopState → Loop, rc = fun st => { state := st, pending := none, fn, tmps := a.tmps, params := ps, assign, body, defers := w.heap.size } := ⟨_, rfl⟩
  obtain ⟨W1, hW1⟩ : ∃ W1, W1 = (w.alloc (.deferred (some []))).alloc (.loop (rc .ready)) := ⟨_, rfl⟩
  have hz1 : (w.alloc (.deferred (some []))).heap.size = w.heap.size + 1 := World.size_alloc _ _
  have hrec1 : W1.heap[w.heap.size + 1]? = some (.loop (rc .ready)) := by
    rw [hW1, ← hz1]; exact World.alloc_heap_new _ _
  have hdef1 : W1.heap[w.heap.size]? = some (.deferred (some [])) := by
    rw [hW1, Below.heap_alloc _ _ _ (by rw [hz1]; omega)]; exact World.alloc_heap_new _ _
  have hbel1 : Below w.heap.size w W1 := by
    rw [hW1]; exact ((Below.refl _ w).alloc (Nat.le_refl _) _).alloc (by rw [hz1]; omega) _
  have hK1 : K 0 W1 := hK 0 w W1 none h0 (grown_none hbel1) (fun r e => by cases e)
  refine ⟨w.heap.size + 1, [{ target := .collected w.heap.size, args := #[] }], W1, { target := .fn (.func gf) lb, args := #[.func (.yield (w.heap.size + 1)) #[] #[]] }, W1, gf, #[.func (.yield (w.heap.size + 1)) #[] #[]] ++ lb, W1, ?_, ?_, fun _ _ => trivial, ?_, fun h => (by cases h), ?_⟩
  · rw [hW1, hrc]
    exact run_enterLoop_outer _ _ _ _ _
  · simp only [resolve, hg]
    simp [go_sem]
  · simp [invoke, go_sem, eg]
  · refine (hiter (w.heap.size + 1) (fun k W => K k W ∧ W.heap[w.heap.size + 1]? = some (.loop (rc .ready)) ∧ W.heap[w.heap.size]? = some (.deferred (some []))) W1 hbel1 ?_ ?_ ⟨hK1, hrec1, hdef1⟩).mono ?_
    · rintro k A B ⟨h1, h2, h3⟩ hgr
      exact ⟨hK k A B none h1 hgr (fun r e => by cases e), (hgr.block _ (Array.getElem?_eq_some_iff.1 h2).1 (by simp)).trans h2, (hgr.block _ (Array.getElem?_eq_some_iff.1 h3).1 (by simp)).trans h3⟩
    · -- one round
      rintro k W args hkN ⟨hKk, hr, hd⟩ hR
      have hy := run_yield (P := P) (args := args) hr (by rw [hrc]; exact hRs k W args hR)
      rw [hrc] at hy
      refine ⟨fn, _, assign, body, hy, roundIn_of_wpIn hfn (hassign _ k W args _ hKk hR fun a' W2 hb2 hax => ?_)⟩
      have hr2 : W2.heap[w.heap.size + 1]? = some (.loop (rc .ready)) := (hb2.block _ (Array.getElem?_eq_some_iff.1 hr).1).trans hr
      have hd2 : W2.heap[w.heap.size]? = some (.deferred (some [])) := (hb2.block _ (Array.getElem?_eq_some_iff.1 hd).1).trans hd
      have hK2 : K k W2 := hK k W W2 none hKk (grown_none hb2) (fun r e => by cases e)
      refine ⟨_, run_beginRound hr2 (by rw [hrc]), ?_⟩
      have hg3 := grownBy_putObj' W2 (w.heap.size + 1) (.loop { rc .ready with state := .busy })
      have hK3 := hK k W2 _ _ hK2 hg3 (fun r e => by cases e; omega)
      have hax3 := hAx k a' W2 _ _ hax hg3 ⟨_, hr2, rfl⟩
      have hl3 : (W2.putObj (w.heap.size + 1) (.loop { rc .ready with state := .busy })).heap[w.heap.size + 1]? = some (.loop { rc .ready with state := .busy }) := World.putObj_heap_same (Array.getElem?_eq_some_iff.1 hr2).1
      have hd3 : (W2.putObj (w.heap.size + 1) (.loop { rc .ready with state := .busy })).heap[w.heap.size]? = some (.deferred (some [])) := (World.putObj_heap_other (by omega)).trans hd2
      have hb3 : Below n₀ W2 (W2.putObj (w.heap.size + 1) (.loop { rc .ready with state := .busy })) := (Below.refl n₀ W2).grown hg3 (by have := (Array.getElem?_eq_some_iff.1 hr2).1; omega) (fun r e => by cases e; omega)
      refine wpIn_mono (hbody (w.heap.size + 1) k _ a' hkN hK3 hax3) ?_
      rintro e a4 W4 ⟨rfl, hK4, hb4, hrest⟩
      have hl4 := hrest _ _ (by omega) hl3 rfl
      have hd4 := hrest _ _ (Nat.le_refl _) hd3 rfl
      have hend := run_endRound (P := P) none hl4
      have hg5 := grownBy_putObj' W4 (w.heap.size + 1) (.loop { ({ rc .ready with state := .busy } : Loop) with state := if (none : Option Code).isNone then .ready else .done, pending := none })
      refine ⟨_, _, hend, rfl, ⟨hK (k + 1) W4 _ _ hK4 hg5 (fun r e => by cases e; omega), ?_, (World.putObj_heap_other (by omega)).trans hd4⟩, ?_⟩
      · rw [World.putObj_heap_same (Array.getElem?_eq_some_iff.1 hl4).1, hrc]
        rfl
      · exact (((hb2.mono (by have := (Array.getElem?_eq_some_iff.1 hd).1; omega)).trans hb3).trans hb4).grown hg5 (by have := (Array.getElem?_eq_some_iff.1 hl4).1; omega) (fun r e => by cases e; omega)
    · -- behind the iterator
      rintro e W2 ⟨⟨v, rfl⟩, hKN, hr, hd⟩
      have hend := run_endLoop (P := P) hr (by rw [hrc]; simp)
      have hg5 := grownBy_putObj' W2 (w.heap.size + 1) (.loop { (rc .ready) with state := .exhausted })
      refine ⟨none, _, ?_, hdone w.heap.size _ (Nat.le_refl _) (hK N W2 _ _ hKN hg5 (fun r e => by cases e; omega)) ((World.putObj_heap_other (by omega)).trans hd)⟩
      rw [hrc] at hend ⊢
      exact hend
end Go.Proofs.YtofmdmmgbfbaoaaDoor
