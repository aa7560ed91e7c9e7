/- A row of calls that came in. -/
import Derived.Test.YtjlapnnmdfdjdaaV24
namespace Go.Proofs.Ytjlapnnmdfdjdaa
open Go.ChangeShapes Go.WideShapes Go.ChangeAt Go.RowKit Go.Deep
/-- A call: its kind, its two numbers. -/
structure CallR where
  k : Int
  a : Int
  b : Int
def CallR.cells (c : CallR) : List Value := [.int .i64 c.k, .int .i64 c.a, .int .i64 c.b]
theorem open_calls {H : Type} {enc : TypeId × Value → H} {w : World} {base : Nat} {sp : Nat → Bool} {held : Bool} {fuel : Nat} {cs : List Value} {x : DataW H × List MemPlace}
    (h : DataW.trod enc Try.prog w base sp held fuel 22 cs = some x) (hz : (x.1.weights Try.prog 22).all (· ≤ reachBytes) = true) :
    ∃ V c rs, cs = [.slice V (List.length rs) c] ∧ RowsIn w V 3 CallR.cells rs ∧ rs.length ≤ 8796093022208 := by
  have hz' := List.all_eq_true.1 hz
  obtain ⟨V, c, rs, h1, h2, _, h4, _⟩ := open_structs (k := 3) (bytes := 24) (el := CallR.cells) (Q := fun _ => True) Try.underlying22 (by kernel_rfl) (by omega) (by kernel_rfl) (fun {fuel cs x} ht hw => by
    obtain ⟨hl, n, hf⟩ := struct_at Try.underlying50 ht
    rw [show Try.prog.cellsOf 50 = 3 by kernel_rfl] at hl
    obtain ⟨c0, c1, c2, rfl⟩ : ∃ c0 c1 c2, cs = [c0, c1, c2] := by
      match cs, hl with
      | [c0, c1, c2], _ => exact ⟨c0, c1, c2, rfl⟩
    obtain ⟨y0, t0, w0⟩ := hf 0 _ rfl 3 0 1 rfl rfl (by kernel_rfl)
    obtain ⟨y1, t1, w1⟩ := hf 1 _ rfl 3 1 1 rfl rfl (by kernel_rfl)
    obtain ⟨y2, t2, w2⟩ := hf 2 _ rfl 3 2 1 rfl rfl (by kernel_rfl)
    simp only [List.drop_zero, List.take_succ_cons, List.take_zero, List.drop_succ_cons] at t0 t1 t2
    obtain ⟨k0, rfl, _⟩ := trod_num Try.underlying3 t0
    obtain ⟨k1, rfl, _⟩ := trod_num Try.underlying3 t1
    obtain ⟨k2, rfl, _⟩ := trod_num Try.underlying3 t2
    exact ⟨⟨k0, k1, k2⟩, rfl, trivial⟩) h (fun n hn => of_decide_eq_true (hz' n hn))
  exact ⟨V, c, rs, h1, h2, by omega⟩
end Go.Proofs.Ytjlapnnmdfdjdaa
