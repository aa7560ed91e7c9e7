/- A graph that came in. -/
import Derived.Test.YtpdfcffeinbcaaaH0
import Derived.Test.YtpdfcffeinbcaaaM1
namespace Go.Proofs.Ytpdfcffeinbcaaa
open Go.ChangeShapes Go.WideShapes Go.ChangeAt Go.RowKit Go.Deep
theorem edge16 : Try.prog.bytesOf 51 = 16 := by kernel_rfl
theorem edge2 : Try.prog.cellsOf 51 = 2 := by kernel_rfl
theorem graph2 : Try.prog.cellsOf 24 = 2 := by kernel_rfl
theorem open_edges {H : Type} {enc : TypeId × Value → H} {w : World} {base : Nat} {sp : Nat → Bool} {held : Bool} {fuel : Nat} {cs : List Value} {x : DataW H × List MemPlace}
    (h : DataW.trod enc Try.prog w base sp held fuel 22 cs = some x) (hz : ∀ n ∈ x.1.weights Try.prog 22, n ≤ reachBytes) :
    ∃ V c es, cs = [.slice V (List.length es) c] ∧ RowAt w V (edgeCells es) ∧ es.length ≤ 8796093022208 := by
  rcases open_slice Try.underlying22 h with ⟨rfl, rfl⟩ | ⟨a, len, cap, m, n, D, Pl, rfl, _, hlc, hcm, hm, rfl, hi⟩
  · exact ⟨none, 0, [], rfl, .inl rfl, by simp⟩
  · have hlm : len ≤ m := by rw [hm]; split <;> omega
    have hsz : len * 16 ≤ 140737488351232 := by
      have := hz ((((List.range len).map D).length + ((List.range (m - len)).map fun j => D (len + j)).length) * Try.prog.bytesOf 51) (by simp only [DataW.weights, Try.underlying22]; exact List.mem_cons_self ..)
      simp [reachBytes, edge16] at this
      omega
    obtain ⟨es, hes, hq⟩ := list_of (Q := fun i (e : Int × Int) => w.cell? (a.add (i * 2)) = some (.int .i64 e.1) ∧ w.cell? (a.add (i * 2 + 1)) = some (.int .i64 e.2)) len (fun i hil => by
      obtain ⟨cs', hc, ht⟩ := hi i (by omega)
      rw [edge2] at hc
      obtain ⟨_, hcl, hat⟩ := World.cells?_some hc
      obtain ⟨hl, n, hf⟩ := struct_at Try.underlying51 ht
      rw [edge2] at hl
      obtain ⟨c0, c1, rfl⟩ : ∃ c0 c1, cs' = [c0, c1] := by
        match cs', hl with
        | [c0, c1], _ => exact ⟨c0, c1, rfl⟩
      obtain ⟨y0, t0, w0⟩ := hf 0 _ rfl 3 0 1 rfl rfl (by kernel_rfl)
      obtain ⟨y1, t1, w1⟩ := hf 1 _ rfl 3 1 1 rfl rfl (by kernel_rfl)
      simp only [List.drop_zero, List.take_succ_cons, List.take_zero] at t0
      simp only [List.drop_succ_cons, List.drop_zero, List.take_succ_cons, List.take_zero] at t1
      obtain ⟨k0, rfl, _⟩ := trod_num Try.underlying3 t0
      obtain ⟨k1, rfl, _⟩ := trod_num Try.underlying3 t1
      refine ⟨(k0, k1), ?_, ?_⟩
      · have h3 := hat 0 (by omega)
        rw [Go.Deep.add_add, Nat.add_zero] at h3
        rw [h3]; rfl
      · have h3 := hat 1 (by omega)
        rw [Go.Deep.add_add] at h3
        rw [h3]; rfl)
    subst hes
    refine ⟨some a, cap, es, rfl, ?_, by omega⟩
    rcases Nat.eq_zero_or_pos es.length with h0 | h0
    · exact .inl (by rw [List.eq_nil_of_length_eq_zero h0]; rfl)
    · have hc := (hq 0 h0).1
      have hs : a.spot = none := spot_none_ hc
      obtain ⟨b, off, spot⟩ := a
      simp only at hs
      subst hs
      have hb := World.block_lt_of_cell? w _ hc
      refine .inr ⟨b, off, rfl, by simpa [add_any] using hb, fun j hj => ?_⟩
      have hl := edgeCells_length es
      have q := hq (j / 2) (by omega)
      have hg := edgeCells_get (es := es) (j := j / 2) (by omega)
      simp only [add_any] at q
      rcases Nat.mod_two_eq_zero_or_one j with e | e
      · have e2 : j / 2 * 2 = j := by omega
        rw [e2] at q hg
        rw [q.1]
        have := hg.1
        rw [List.getElem?_eq_getElem hj] at this
        exact this.symm
      · have e2 : j / 2 * 2 + 1 = j := by omega
        rw [e2] at q hg
        rw [q.2]
        have := hg.2
        rw [List.getElem?_eq_getElem hj] at this
        exact this.symm
theorem open_graph {H : Type} {enc : TypeId × Value → H} {w : World} {base : Nat} {sp : Nat → Bool} {held : Bool} {fuel : Nat} {cs : List Value} {x : DataW H × List MemPlace}
    (h : DataW.trod enc Try.prog w base sp held fuel 24 cs = some x) (hz : ∀ n ∈ x.1.weights Try.prog 24, n ≤ reachBytes) : ∃ (g : XG) (E : Option Addr) (d : Nat), Value.agg cs.toArray = g.val E d ∧ GAt w E g ∧ g.es.length ≤ 8796093022208 := by
  obtain ⟨hl, n, hf⟩ := struct_at Try.underlying24 h
  rw [graph2] at hl
  obtain ⟨c0, c1, rfl⟩ : ∃ c0 c1, cs = [c0, c1] := by
    match cs, hl with
    | [c0, c1], _ => exact ⟨c0, c1, rfl⟩
  obtain ⟨y0, t0, w0⟩ := hf 0 _ rfl 3 0 1 rfl rfl (by kernel_rfl)
  obtain ⟨y1, t1, w1⟩ := hf 1 _ rfl 22 1 1 rfl rfl (by kernel_rfl)
  simp only [List.drop_zero, List.take_succ_cons, List.take_zero] at t0
  simp only [List.drop_succ_cons, List.drop_zero, List.take_succ_cons, List.take_zero] at t1
  obtain ⟨k0, rfl, _⟩ := trod_num Try.underlying3 t0
  obtain ⟨V, c, es, hcs, hr, hle⟩ := open_edges t1 (fun m hm => hz m (w1 m hm))
  obtain rfl : c1 = .slice V es.length c := by simpa using hcs
  exact ⟨⟨k0, es⟩, V, c, rfl, hr, hle⟩
theorem open_irow {H : Type} {enc : TypeId × Value → H} {w : World} {base : Nat} {sp : Nat → Bool} {held : Bool} {fuel : Nat} {cs : List Value} {x : DataW H × List MemPlace}
    (h : DataW.trod enc Try.prog w base sp held fuel 25 cs = some x) (hz : (x.1.weights Try.prog 25).all (· ≤ reachBytes) = true) :
    ∃ V c rs, cs = [.slice V (List.length rs) c] ∧ RowAt w V (I rs) ∧ rs.length ≤ 17592186044416 := by
  have hz' := List.all_eq_true.1 hz
  obtain ⟨V, c, rs, hcs, hr, hl, _⟩ := open_nums Try.underlying25 Try.underlying3 (by kernel_rfl) h (fun n hn => of_decide_eq_true (hz' n hn))
  rw [show Try.prog.bytesOf 3 = 8 by kernel_rfl] at hl
  refine ⟨V, c, rs, hcs, ?_, by omega⟩
  rcases hr with rfl | ⟨b, off, rfl, hb, hc⟩
  · exact .inl rfl
  · refine .inr ⟨b, off, rfl, hb, fun j hj => ?_⟩
    rw [hc j (by simpa using hj)]
    simp
end Go.Proofs.Ytpdfcffeinbcaaa
