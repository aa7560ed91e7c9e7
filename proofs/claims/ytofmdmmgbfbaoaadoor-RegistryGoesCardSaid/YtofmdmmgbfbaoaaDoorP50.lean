/- A row of acts that came in. -/
import Derived.Test.YtofmdmmgbfbaoaaDoorA20
import Derived.Test.YtofmdmmgbfbaoaaDoorP11
namespace Go.Proofs.YtofmdmmgbfbaoaaDoor
open Go.ChangeShapes Go.WideShapes Go.ChangeAt Go.RowKit Go.Deep

theorem acts112 : Tryd.prog.bytesOf 70 = 112 := by kernel_rfl
theorem acts10 : Tryd.prog.cellsOf 70 = 10 := by kernel_rfl
/-- An act's cells. -/
def ARow.cells (a : ARow) : List Value := .int .i64 a.kind :: a.r.cells
theorem open_act {H : Type} {enc : TypeId × Value → H} {w : World} {base : Nat} {sp : Nat → Bool} {held : Bool} {fuel : Nat} {cs : List Value} {x : DataW H × List MemPlace}
    (h : DataW.trod enc Tryd.prog w base sp held fuel 70 cs = some x) (hz : ∀ n ∈ x.1.weights Tryd.prog 70, n ≤ reachBytes) : ∃ a : ARow, cs = a.cells ∧ ProvAt w a.r.A a.r.p := by
  obtain ⟨hl, n, hf⟩ := struct_at Tryd.underlying70 h
  rw [acts10] at hl
  obtain ⟨c0, cr, rfl⟩ : ∃ c0 cr, cs = c0 :: cr := by
    match cs, hl with
    | c0 :: cr, _ => exact ⟨c0, cr, rfl⟩
  obtain ⟨y0, t0, w0⟩ := hf 0 _ rfl 3 0 1 rfl rfl (by kernel_rfl)
  obtain ⟨y1, t1, w1⟩ := hf 1 _ rfl 36 1 9 rfl rfl (by kernel_rfl)
  simp only [List.drop_zero, List.take_succ_cons, List.take_zero] at t0
  obtain ⟨k0, rfl⟩ := trod_i t0
  have h9 : ((Value.int .i64 k0 :: cr).drop 1).take 9 = cr := by
    simp only [List.drop_succ_cons, List.drop_zero]
    exact List.take_of_length_le (by simp at hl; omega)
  rw [h9] at t1
  obtain ⟨p, A, c, hpv, hp⟩ := open_prov t1 (fun m hm => hz m (w1 m hm))
  refine ⟨⟨k0, ⟨p, A, c⟩⟩, ?_, hp⟩
  have h2 : cr.toArray = (PRow.mk p A c).cells.toArray := by injection hpv
  have h3 : cr = (PRow.mk p A c).cells := by simpa using congrArg Array.toList h2
  rw [h3]
  rfl
theorem open_acts {H : Type} {enc : TypeId × Value → H} {w : World} {base : Nat} {sp : Nat → Bool} {held : Bool} {fuel : Nat} {cs : List Value} {x : DataW H × List MemPlace}
    (h : DataW.trod enc Tryd.prog w base sp held fuel 46 cs = some x) (hz : (x.1.weights Tryd.prog 46).all (· ≤ reachBytes) = true) :
    ∃ V c rs, cs = [.slice V (List.length rs) c] ∧ ActsAt w V rs ∧ rs.length * 112 ≤ 140737488351232 ∧ rs.length ≤ c := by
  rcases open_slice Tryd.underlying46 h with ⟨rfl, rfl⟩ | ⟨a, len, cap, m, n, D, Pl, rfl, _, hlc, hcm, hm, rfl, hi⟩
  · exact ⟨none, 0, [], rfl, ⟨.inl rfl, by simp⟩, by simp, by simp⟩
  · have hlm : len ≤ m := by rw [hm]; split <;> omega
    have hz' := List.all_eq_true.1 hz
    have hsz : len * 112 ≤ 140737488351232 := by
      have := hz' ((((List.range len).map D).length + ((List.range (m - len)).map fun j => D (len + j)).length) * Tryd.prog.bytesOf 70) (by simp only [DataW.weights, Tryd.underlying46]; exact List.mem_cons_self ..)
      simp [reachBytes, acts112] at this
      omega
    obtain ⟨rs, hrs, hq⟩ := list_of (Q := fun i (r : ARow) => (∀ j (hj : j < 10), w.cell? (a.add (i * 10 + j)) = some (r.cells[j]'hj)) ∧ ProvAt w r.r.A r.r.p) len (fun i hil => by
      obtain ⟨cs', hc, ht⟩ := hi i (by omega)
      rw [acts10] at hc
      obtain ⟨_, hcl, hat⟩ := World.cells?_some hc
      have hw : ∀ k ∈ (D i).weights Tryd.prog 70, k ≤ reachBytes := fun k hk => of_decide_eq_true (hz' _ (by
        simp only [DataW.weights, Tryd.underlying46]
        exact List.mem_cons_of_mem _ (List.mem_append_left _ (weights_all_mem hk (List.mem_map.2 ⟨i, List.mem_range.2 hil, rfl⟩)))))
      obtain ⟨r, hcs, hp⟩ := open_act ht hw
      refine ⟨r, fun j hj => ?_, hp⟩
      have h3 := hat j hj
      rw [Go.Deep.add_add, hcs] at h3
      rw [h3]
      exact List.getElem?_eq_getElem hj)
    subst hrs
    refine ⟨some a, cap, rs, rfl, ⟨?_, fun r hr => ?_⟩, hsz, hlc⟩
    · rcases Nat.eq_zero_or_pos rs.length with h0 | h0
      · exact .inl (List.eq_nil_of_length_eq_zero h0)
      · have hc := (hq 0 h0).1 0 (by omega)
        have hs : a.spot = none := spot_none hc
        obtain ⟨b, off, spot⟩ := a
        simp only at hs
        subst hs
        have hb := World.block_lt_of_cell? w _ hc
        refine .inr ⟨b, off, rfl, by simpa [add_any] using hb, fun i hi => ?_⟩
        have q := (hq i hi).1
        simp only [add_any] at q
        exact ⟨q 0 (by omega), q 1 (by omega), q 2 (by omega), q 3 (by omega), q 4 (by omega), q 5 (by omega), q 6 (by omega), q 7 (by omega), q 8 (by omega), q 9 (by omega)⟩
    · obtain ⟨j, hj, rfl⟩ := List.mem_iff_getElem.1 hr
      exact (hq j hj).2
end Go.Proofs.YtofmdmmgbfbaoaaDoor
