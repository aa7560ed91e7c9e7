/- A row of providers that came in. -/
import Derived.Test.YtofmdmmgbfbaoaaDoorA20
import Derived.Test.YtofmdmmgbfbaoaaDoorB1
namespace Go.Proofs.YtofmdmmgbfbaoaaDoor
open Go.ChangeShapes Go.WideShapes Go.ChangeAt Go.RowKit Go.Deep

theorem provs104 : Tryd.prog.bytesOf 36 = 104 := by kernel_rfl
theorem provs9 : Tryd.prog.cellsOf 36 = 9 := by kernel_rfl
theorem open_provs {H : Type} {enc : TypeId × Value → H} {w : World} {base : Nat} {sp : Nat → Bool} {held : Bool} {fuel : Nat} {cs : List Value} {x : DataW H × List MemPlace}
    (h : DataW.trod enc Tryd.prog w base sp held fuel 22 cs = some x) (hz : (x.1.weights Tryd.prog 22).all (· ≤ reachBytes) = true) :
    ∃ V c rs, cs = [.slice V (List.length rs) c] ∧ ProvsAt w V rs ∧ rs.length * 104 ≤ 140737488351232 ∧ rs.length ≤ c := by
  rcases open_slice Tryd.underlying22 h with ⟨rfl, rfl⟩ | ⟨a, len, cap, m, n, D, Pl, rfl, _, hlc, hcm, hm, rfl, hi⟩
  · exact ⟨none, 0, [], rfl, ⟨.inl rfl, by simp⟩, by simp, by simp⟩
  · have hlm : len ≤ m := by rw [hm]; split <;> omega
    have hz' := List.all_eq_true.1 hz
    have hsz : len * 104 ≤ 140737488351232 := by
      have := hz' ((((List.range len).map D).length + ((List.range (m - len)).map fun j => D (len + j)).length) * Tryd.prog.bytesOf 36) (by simp only [DataW.weights, Tryd.underlying22]; exact List.mem_cons_self ..)
      simp [reachBytes, provs104] at this
      omega
    obtain ⟨rs, hrs, hq⟩ := list_of (Q := fun i (r : PRow) => (∀ j (hj : j < 9), w.cell? (a.add (i * 9 + j)) = some (r.cells[j]'hj)) ∧ ProvAt w r.A r.p) len (fun i hil => by
      obtain ⟨cs', hc, ht⟩ := hi i (by omega)
      rw [provs9] at hc
      obtain ⟨_, hcl, hat⟩ := World.cells?_some hc
      have hw : ∀ k ∈ (D i).weights Tryd.prog 36, k ≤ reachBytes := fun k hk => of_decide_eq_true (hz' _ (by
        simp only [DataW.weights, Tryd.underlying22]
        exact List.mem_cons_of_mem _ (List.mem_append_left _ (weights_all_mem hk (List.mem_map.2 ⟨i, List.mem_range.2 hil, rfl⟩)))))
      obtain ⟨p, A, c, hpv, hp⟩ := open_prov ht hw
      have hcs : cs' = (PRow.mk p A c).cells := by
        have h2 : cs'.toArray = (PRow.mk p A c).cells.toArray := by injection hpv
        simpa using congrArg Array.toList h2
      refine ⟨⟨p, A, c⟩, fun j hj => ?_, hp⟩
      have h3 := hat j hj
      rw [Go.Deep.add_add, hcs] at h3
      rw [h3]
      exact List.getElem?_eq_getElem hj)
    subst hrs
    refine ⟨some a, cap, rs, rfl, ⟨?_, fun r hr => ?_⟩, hsz, hlc⟩
    · rcases Nat.eq_zero_or_pos rs.length with h0 | h0
      · exact .inl (List.eq_nil_of_length_eq_zero h0)
      · have hc := (hq 0 h0).1 0 (by omega)
        have hs : a.spot = none := spot_none hc
        obtain ⟨b, off, spot⟩ := a
        simp only at hs
        subst hs
        have hb := World.block_lt_of_cell? w _ hc
        refine .inr ⟨b, off, rfl, by simpa [add_any] using hb, fun i hi => ?_⟩
        have q := (hq i hi).1
        simp only [add_any] at q
        exact ⟨q 0 (by omega), q 1 (by omega), q 2 (by omega), q 3 (by omega), q 4 (by omega), q 5 (by omega), q 6 (by omega), q 7 (by omega), q 8 (by omega)⟩
    · obtain ⟨j, hj, rfl⟩ := List.mem_iff_getElem.1 hr
      exact (hq j hj).2
end Go.Proofs.YtofmdmmgbfbaoaaDoor
