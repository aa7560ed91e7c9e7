/- copy of a whole row of structs. -/
import Derived.Test.YtofmdmmgbfbaoaaDoorR0
import Derived.Laws.CopyRow
import Derived.Laws.CopyOwn
namespace Go.Proofs.YtofmdmmgbfbaoaaDoor
open Go.RowKit

theorem run_copyN {P : Program} (w : World) (dT sT ty elem : TypeId) (g n dCap sCap size : Nat) (A : Option Addr) (cur : Array Value) (t : TypeId) (cs : List Value)
    (hu : P.underlying dT = some (.slice elem)) (hs : (P.info? elem).map (·.size) = some size)
    (hg : w.heap[g]? = some (.cells cur t (0, 0))) (hn : cs.length = n * size) (hc : cur.size = n * size)
    (hsrc : cs = [] ∨ ∃ a, A = some a ∧ ∀ j v, cs[j]? = some v → w.cell? (a.add j) = some v) (h1 : ∀ v ∈ cs, v.oneCell' = true) :
    (Builtin.copy_ #[dT, sT] ty #[.slice (some ⟨g, 0, none⟩) n dCap, .slice A n sCap]).run P w = .ok (goInt n) (w.setRow g cs.toArray) := by
  have hst := run_storeCells_at P g 0 t cs 0 cur w hg (by omega) h1
  have hd : cur.toList.drop (0 + 0 + cs.length) = [] := List.drop_of_length_le (by rw [Array.length_toList]; omega)
  rw [hd] at hst
  simp only [Nat.add_zero, List.take_zero, List.nil_append, List.append_nil] at hst
  cases hq : P.info? elem with
  | none => simp [hq] at hs
  | some i =>
    have hi : i.size = size := by simpa [hq] using hs
    rcases A with _ | a
    · rcases hsrc with rfl | ⟨a, h, _⟩
      · simp [Builtin.copy_, run_underlying hu, Builtin.lenOf, Builtin.firstCells, sizeOf, typeInfo, hq, hst]
      · cases h
    · have hl : (loadCells a cs.length).run P w = .ok cs.toArray w := by
        rcases hsrc with rfl | ⟨a', h, hsrc⟩
        · exact run_loadCells_list (P := P) w a [] (fun j v h => by simp at h)
        · cases h; exact run_loadCells_list (P := P) w a cs hsrc
      rw [hn] at hl
      simp [Builtin.copy_, run_underlying hu, Builtin.lenOf, Builtin.firstCells, sizeOf, typeInfo, hq, hi, hl, hst]
theorem wpList_copyN {P : Program} {w : World} {ops : Array Oper} {rest : List Oper} {o : Oper} {a : Act} {Q : Exit → Act → World → Prop} (hgd : o.guard = none) (d s : Operand) (dT sT : TypeId)
    (ho : o.op = .call { callee := .builtin .copy, args := #[d, s], argTypes := #[dT, sT] }) (elem : TypeId) (hu : P.underlying dT = some (.slice elem)) (size : Nat) (hs : (P.info? elem).map (·.size) = some size)
    (g n dCap sCap : Nat) (A : Option Addr) (hd : a.eval d = .slice (some ⟨g, 0, none⟩) n dCap) (hsv : a.eval s = .slice A n sCap) (cur : Array Value) (t : TypeId) (hg : w.heap[g]? = some (.cells cur t (0, 0))) (cs : List Value) (hn : cs.length = n * size) (hc : cur.size = n * size)
    (hsrc : cs = [] ∨ ∃ a, A = some a ∧ ∀ j v, cs[j]? = some v → w.cell? (a.add j) = some v) (h1 : ∀ v ∈ cs, v.oneCell' = true)
    (h : ∀ w', w'.heap[g]? = some (.cells cs.toArray t (0, 0)) → (∀ B, B ≤ g → Below B w w') → w'.heap.size = w.heap.size → wpList P ops Q rest (a.put o.dst (goInt n)) w') : wpList P ops Q (o :: rest) a w := by
  refine wpList_plain hgd fun K hK => ?_
  have hrun := run_copyN (P := P) w dT sT o.type elem g n dCap sCap size A cur t cs hu hs hg hn hc hsrc h1
  unfold Oper.wp
  simp [execOp, ho, resolve, invoke, builtin, hd, hsv, hrun, Result.andThen]
  exact hK _ _ (h _ (setRow_heap w g cur cs.toArray t (0, 0) hg) (fun B hB => below_setRow (Below.refl _ _) hB _) (by simp [World.setRow]))
theorem ops_src {w : World} {A : Option Addr} {es : List XOp} (h : OpsAt w A es) : opCells es = [] ∨ ∃ a, A = some a ∧ ∀ j v, (opCells es)[j]? = some v → w.cell? (a.add j) = some v := by
  rcases Nat.eq_zero_or_pos es.length with h0 | h0
  · exact .inl (by rw [List.eq_nil_of_length_eq_zero h0]; rfl)
  · obtain ⟨a, e, _, hc⟩ := h.reads.2 h0
    exact .inr ⟨a, e, hc⟩
theorem ops_block {w : World} {g : Nat} {t : TypeId} {es : List XOp} (h : w.heap[g]? = some (.cells (opCells es).toArray t (0, 0))) : OpsAt w (some ⟨g, 0, none⟩) es := by
  refine .inr ⟨g, 0, rfl, (Array.getElem?_eq_some_iff.1 h).1, fun i hi => ?_⟩
  obtain ⟨h0, h1, h2, h3⟩ := opCells_get es i hi
  have hc : ∀ o, w.cell? ⟨g, o, none⟩ = (opCells es)[o]? := fun o => by unfold World.cell?; rw [h]; simp
  simp only [hc, Nat.zero_add]
  exact ⟨h0, h1, h2, h3⟩
end Go.Proofs.YtofmdmmgbfbaoaaDoor
