/- A row of words that came in. -/
import Derived.OpenShut
import Derived.Carry
import Derived.ChangeSlices
import Derived.SizedLaws
import Derived.Deep.Slices
import Derived.Test.YtbgnchddeklmeaaK14
namespace Go.Proofs.Ytbgnchddeklmeaa
open Go.ChangeShapes Go.WideShapes Go.RowKit

theorem words8 : Try.prog.bytesOf 26 = 8 := by kernel_rfl
theorem words1 : Try.prog.cellsOf 26 = 1 := by kernel_rfl
theorem spot_none {w : World} {a : Addr} {v : Value} (h : w.cell? a = some v) : a.spot = none := by
  unfold World.cell? at h
  split at h
  · split at h
    · cases h
    · rename_i hs
      simpa using hs
  · cases h
theorem open_words {H : Type} {enc : TypeId × Value → H} {w : World} {base : Nat} {sp : Nat → Bool} {held : Bool} {fuel : Nat} {cs : List Value} {x : DataW H × List MemPlace}
    (h : DataW.trod enc Try.prog w base sp held fuel 22 cs = some x) (hz : (x.1.weights Try.prog 22).all (· ≤ reachBytes) = true) :
    ∃ V c rs, cs = [.slice V (List.length rs) c] ∧ RowAt w V (U rs) ∧ rs.length ≤ 140737488355328 ∧ ∀ v ∈ rs, v < 18446744073709551616 := by
  rcases open_ints Try.underlying22 Try.underlying26 words1 h with ⟨rfl, rfl⟩ | ⟨a, len, cap, zs, rfl, _, hlc, hcm, hm, rfl, hi, hwf⟩
  · exact ⟨none, 0, [], rfl, .inl rfl, by simp, by simp⟩
  · have hlm : len ≤ zs.length := by rw [hm]; split <;> omega
    have hz' := List.all_eq_true.1 hz
    have hsz : len ≤ 140737488355328 := by
      have := hz' (((lits .u64 (zs.take len)).length + (lits .u64 (zs.drop len)).length) * Try.prog.bytesOf 26) (by simp only [DataW.weights, Try.underlying22]; exact List.mem_cons_self ..)
      simp [reachBytes, words8, lits] at this
      omega
    have hb : ∀ n ∈ zs, 0 ≤ n ∧ n < 18446744073709551616 := fun n hn => by
      have := hwf n hn
      simp [Lit.wf, IntKind.min, IntKind.max, IntKind.signed, IntKind.bits] at this
      omega
    refine ⟨some a, cap, (zs.take len).map Int.toNat, by simp; omega, ?_, by simp; omega, fun v hv => ?_⟩
    · rcases Nat.eq_zero_or_pos len with h0 | h0
      · subst h0; exact .inl rfl
      · have hc := hi 0 (by omega)
        have hs : a.spot = none := spot_none hc
        obtain ⟨b, off, spot⟩ := a
        simp only at hs
        subst hs
        have hbl := World.block_lt_of_cell? w _ hc
        refine .inr ⟨b, off, rfl, by simpa [add_any] using hbl, fun j hj => ?_⟩
        have hj2 : j < len := by rw [U_length] at hj; simp at hj; omega
        have q := hi j (by omega)
        simp only [add_any] at q
        rw [q, U_get _ j (by simp; omega)]
        have hmem := hb _ (List.getElem_mem (show j < zs.length by omega))
        simp [List.getD, show j < zs.length by omega]
        omega
    · obtain ⟨n, hn, rfl⟩ := List.mem_map.1 hv
      have := hb n (List.mem_of_mem_take hn)
      omega
end Go.Proofs.Ytbgnchddeklmeaa
