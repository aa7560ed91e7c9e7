/- PLAIN: a timer's three cells set. -/
import Derived.Test.YtjlapnnmdfdjdaaC6
namespace Go.Proofs.Ytjlapnnmdfdjdaa
theorem tmCells_set : ∀ (L : List Tm) (i : Nat) (t : Tm), i < L.length → (((tmCells L).set (i * 3) (.int .i64 t.n)).set (i * 3 + 1) (.int .i64 t.a)).set (i * 3 + 2) (.int .i64 t.e) = tmCells (L.set i t)
  | [], _, _, h => by simp at h
  | x :: l, 0, t, _ => rfl
  | x :: l, i + 1, t, h => by
    have ih := tmCells_set l i t (by simpa using h)
    have e1 : tmCells (x :: l) = .int .i64 x.n :: .int .i64 x.a :: .int .i64 x.e :: tmCells l := rfl
    have e2 : tmCells ((x :: l).set (i + 1) t) = .int .i64 x.n :: .int .i64 x.a :: .int .i64 x.e :: tmCells (l.set i t) := rfl
    rw [e1, e2, ← ih, show (i + 1) * 3 = i * 3 + 3 by omega]
    rfl
end Go.Proofs.Ytjlapnnmdfdjdaa
