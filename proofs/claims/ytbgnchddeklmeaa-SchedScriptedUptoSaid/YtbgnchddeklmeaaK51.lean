/- A rule that came in. -/
import Derived.Test.YtbgnchddeklmeaaV2
import Derived.Test.YtbgnchddeklmeaaK50
import Derived.Test.YtbgnchddeklmeaaK28
namespace Go.Proofs.Ytbgnchddeklmeaa
open Go.ChangeShapes Go.WideShapes Go.RowKit
theorem open_rule {H : Type} {enc : TypeId × Value → H} {w : World} {base : Nat} {sp : Nat → Bool} {held : Bool} {fuel : Nat} {cs : List Value} {x : DataW H × List MemPlace}
    (h : DataW.trod enc Try.prog w base sp held fuel 40 cs = some x) (hz : ∀ n ∈ x.1.weights Try.prog 40, n ≤ reachBytes) :
    ∃ (p : XRule) (X : Option Addr) (d : Nat), Value.agg cs.toArray = p.val X d ∧ RowAt w X (I p.list) ∧ p.list.length ≤ 17592186044416 := by
  obtain ⟨hl, n, hf⟩ := struct_at Try.underlying40 h
  rw [show Try.prog.cellsOf 40 = 5 by kernel_rfl] at hl
  obtain ⟨c0, c1, c2, c3, c4, rfl⟩ : ∃ c0 c1 c2 c3 c4, cs = [c0, c1, c2, c3, c4] := by
    match cs, hl with
    | [c0, c1, c2, c3, c4], _ => exact ⟨c0, c1, c2, c3, c4, rfl⟩
  obtain ⟨y0, t0, _⟩ := hf 0 _ rfl 3 0 1 rfl rfl (by kernel_rfl)
  obtain ⟨y1, t1, _⟩ := hf 1 _ rfl 3 1 1 rfl rfl (by kernel_rfl)
  obtain ⟨y2, t2, _⟩ := hf 2 _ rfl 3 2 1 rfl rfl (by kernel_rfl)
  obtain ⟨y3, t3, w3⟩ := hf 3 _ rfl 30 3 1 rfl rfl (by kernel_rfl)
  obtain ⟨y4, t4, _⟩ := hf 4 _ rfl 26 4 1 rfl rfl (by kernel_rfl)
  simp only [List.drop_zero, List.drop_succ_cons, List.take_succ_cons, List.take_zero] at t0 t1 t2 t3 t4
  obtain ⟨n0, rfl, _⟩ := trod_num Try.underlying3 t0
  obtain ⟨n1, rfl, _⟩ := trod_num Try.underlying3 t1
  obtain ⟨n2, rfl, _⟩ := trod_num Try.underlying3 t2
  obtain ⟨V, c, rs, h3, hr, hb, _⟩ := open_nums Try.underlying30 Try.underlying3 (by kernel_rfl) t3 (fun m hm => hz m (w3 m hm))
  obtain ⟨n4, rfl, _⟩ := trod_num Try.underlying26 t4
  simp only [List.cons.injEq, and_true] at h3
  subst h3
  refine ⟨⟨n0, n1, n2, rs, n4⟩, V, c, rfl, ?_, ?_⟩
  · rcases hr with h | ⟨b, off, e, hbl, hcl⟩
    · exact .inl (by show I rs = []; rw [h]; rfl)
    · refine .inr ⟨b, off, e, hbl, fun j hj => ?_⟩
      have hj2 : j < rs.length := by simpa using hj
      rw [hcl j hj2]
      simp
  · rw [show Try.prog.bytesOf 3 = 8 by kernel_rfl] at hb
    show rs.length ≤ _
    omega
end Go.Proofs.Ytbgnchddeklmeaa
