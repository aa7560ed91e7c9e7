/- A row of structs that came in, its elements opened one by one. -/
import Derived.Test.YtjlapnnmdfdjdaaV2
namespace Go.Proofs.Ytjlapnnmdfdjdaa
open Go.ChangeShapes Go.WideShapes Go.ChangeAt Go.RowKit Go.Deep
/-- Rows of k cells each. -/
def RowsIn {α : Type} (w : World) (V : Option Addr) (k : Nat) (el : α → List Value) (rs : List α) : Prop :=
  rs = [] ∨ ∃ b off, V = some ⟨b, off, none⟩ ∧ b < w.heap.size ∧ ∀ i (hi : i < rs.length) j, j < k → w.cell? ⟨b, off + (i * k + j), none⟩ = (el rs[i])[j]?
theorem RowsIn.keep {α : Type} {w w' : World} {V : Option Addr} {k : Nat} {el : α → List Value} {rs : List α} (h : RowsIn w V k el rs) (hb : Below w.heap.size w w') : RowsIn w' V k el rs :=
  h.imp id fun ⟨b, off, e, hl, hc⟩ => ⟨b, off, e, Nat.lt_of_lt_of_le hl hb.size, fun i hi j hj => (hb.cell (p := ⟨b, off + (i * k + j), none⟩) hl).trans (hc i hi j hj)⟩
theorem open_structs {P : Program} {H α : Type} {enc : TypeId × Value → H} {w : World} {base : Nat} {sp : Nat → Bool} {held : Bool} {fuel : Nat} {cs : List Value} {x : DataW H × List MemPlace} {t e : TypeId} {k bytes : Nat} {el : α → List Value} {Q : α → Prop}
    (ht : P.underlying t = some (.slice e)) (hk : P.cellsOf e = k) (hk0 : 0 < k) (hb : P.bytesOf e = bytes)
    (hopen : ∀ {fuel : Nat} {cs : List Value} {x : DataW H × List MemPlace}, DataW.trod enc P w base sp held fuel e cs = some x → (∀ n ∈ x.1.weights P e, n ≤ reachBytes) → ∃ r : α, cs = el r ∧ Q r)
    (h : DataW.trod enc P w base sp held fuel t cs = some x) (hz : ∀ n ∈ x.1.weights P t, n ≤ reachBytes) :
    ∃ V c rs, cs = [.slice V (List.length rs) c] ∧ RowsIn w V k el rs ∧ (∀ r ∈ rs, Q r) ∧ rs.length * bytes ≤ 140737488351232 ∧ rs.length ≤ c := by
  rcases open_slice ht h with ⟨rfl, rfl⟩ | ⟨a, len, cap, m, n, D, Pl, rfl, _, hlc, hcm, hm, rfl, hi⟩
  · exact ⟨none, 0, [], rfl, .inl rfl, by simp, by simp, by simp⟩
  · have hlm : len ≤ m := by rw [hm]; split <;> omega
    have hsz : len * bytes ≤ 140737488351232 := by
      have := hz ((((List.range len).map D).length + ((List.range (m - len)).map fun j => D (len + j)).length) * P.bytesOf e) (by simp only [DataW.weights, ht]; exact List.mem_cons_self ..)
      simp [reachBytes, hb] at this
      exact Nat.le_trans (Nat.mul_le_mul_right _ (by omega)) this
    obtain ⟨rs, hrs, hq⟩ := list_of (Q := fun i (r : α) => (∀ j, j < k → w.cell? (a.add (i * k + j)) = (el r)[j]?) ∧ (el r).length = k ∧ Q r) len (fun i hil => by
      obtain ⟨cs', hc, ht'⟩ := hi i (by omega)
      rw [hk] at hc
      obtain ⟨_, hcl, hat⟩ := World.cells?_some hc
      have hw : ∀ q ∈ (D i).weights P e, q ≤ reachBytes := fun q hq => hz _ (by
        simp only [DataW.weights, ht]
        exact List.mem_cons_of_mem _ (List.mem_append_left _ (weights_all_mem hq (List.mem_map.2 ⟨i, List.mem_range.2 hil, rfl⟩))))
      obtain ⟨r, hcs, hp⟩ := hopen ht' hw
      refine ⟨r, fun j hj => ?_, by rw [← hcs]; exact hcl, hp⟩
      have h3 := hat j hj
      rw [Go.Deep.add_add, hcs] at h3
      exact h3)
    subst hrs
    refine ⟨some a, cap, rs, rfl, ?_, fun r hr => ?_, hsz, hlc⟩
    · rcases Nat.eq_zero_or_pos rs.length with h0 | h0
      · exact .inl (List.eq_nil_of_length_eq_zero h0)
      · obtain ⟨h1, h2, _⟩ := hq 0 h0
        have hc := h1 0 hk0
        rw [Nat.zero_mul, Nat.add_zero, List.getElem?_eq_getElem (by omega)] at hc
        have hs : a.spot = none := spot_none_ hc
        obtain ⟨b, off, spot⟩ := a
        simp only at hs
        subst hs
        have hb := World.block_lt_of_cell? w _ hc
        refine .inr ⟨b, off, rfl, by simpa [add_any] using hb, fun i hi j hj => ?_⟩
        have q := (hq i hi).1 j hj
        simp only [add_any] at q
        exact q
    · obtain ⟨j, hj, rfl⟩ := List.mem_iff_getElem.1 hr
      exact (hq j hj).2.2
end Go.Proofs.Ytjlapnnmdfdjdaa
