/- What the bound of the second form gives: a slice's length (after the guide's lemmas on bulk). -/
import Derived.Test.YtbgnchddeklmeaaRows
import Derived.Test.YtbgnchddeklmeaaV2
namespace Go.Proofs.Ytbgnchddeklmeaa.bulks
open Go.ChangeShapes Go.WideShapes Go.RowKit Go.Deep
theorem one_le {H : Type} (d : DataW H) : 1 ≤ Rows.uptoBulk d := by
  cases d with
  | lit l => cases l <;> simp [Rows.uptoBulk]
  | _ => simp [Rows.uptoBulk]
theorem part_le {H : Type} {d : DataW H} {l : List (DataW H)} (h : d ∈ l) : Rows.uptoBulk d ≤ Rows.uptoBulkAll l := by
  induction l with
  | nil => cases h
  | cons x r ih =>
    simp only [Rows.uptoBulkAll]
    cases List.mem_cons.1 h with
    | inl e => subst e; omega
    | inr e => have := ih e; omega
theorem length_le {H : Type} (l : List (DataW H)) : l.length ≤ Rows.uptoBulkAll l := by
  induction l with
  | nil => simp [Rows.uptoBulkAll]
  | cons x r ih => have := one_le x; simp only [Rows.uptoBulkAll, List.length_cons]; omega
theorem bound {H : Type} {l : List (DataW H)} (hk : Rows.uptoSmall H l = true) : Rows.uptoBulkAll l ≤ 1048576 := of_decide_eq_true hk
theorem slice_len {H : Type} {enc : TypeId × Value → H} {P : Program} {w : World} {base : Nat} {sp : Nat → Bool} {held : Bool} {fuel : Nat} {t e : TypeId} {cs : List Value} {x : DataW H × List MemPlace} {V : Option Addr} {n c : Nat}
    (ht : P.underlying t = some (.slice e)) (hcs : cs = [.slice V n c]) (h : DataW.trod enc P w base sp held fuel t cs = some x) {l : List (DataW H)} (hm : x.1 ∈ l) (hk : Rows.uptoSmall H l = true) : n ≤ 1048576 := by
  have h1 := bound hk
  have h2 := part_le hm
  rcases open_slice ht h with ⟨h0, _⟩ | ⟨a, len, cap, m, f, D, Pl, h0, _, _, _, _, rfl, _⟩
  · rw [hcs] at h0
    simp only [List.cons.injEq, and_true, Value.slice.injEq] at h0
    omega
  · rw [hcs] at h0
    simp only [List.cons.injEq, and_true, Value.slice.injEq] at h0
    simp only [Rows.uptoBulk] at h2
    have h3 := length_le ((List.range len).map D)
    rw [List.length_map, List.length_range] at h3
    omega
end Go.Proofs.Ytbgnchddeklmeaa.bulks
