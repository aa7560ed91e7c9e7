/- Operations: arity, well, the texts of a kind. -/
import Derived.Test.YtofmdmmgbfbaoaaDoorA1
import Derived.Lib.SmallJoins
namespace Go.Proofs.YtofmdmmgbfbaoaaDoor
open Go.RowKit

def arityF (o : XOp) : Int :=
  if o.kind = 1 ∨ o.kind = 2 ∨ o.kind = 3 ∨ o.kind = 4 then 0
  else if o.kind = 11 ∨ o.kind = 16 ∨ o.kind = 17 ∨ o.kind = 18 then 1
  else if o.kind = 6 ∨ o.kind = 7 ∨ o.kind = 8 ∨ o.kind = 9 ∨ o.kind = 10 ∨ o.kind = 12 ∨ o.kind = 13 ∨ o.kind = 15 ∨ o.kind = 19 then 2
  else if o.kind = 14 then 3
  else if o.kind = 5 then o.n
  else -1
set_option maxHeartbeats 1000000 in
theorem arity_c (k n i : Int) (t : ByteArray) (w : World) :
    Calls Tryd.prog 78 #[.agg #[.int .i64 k, .int .i64 n, .int .i64 i, .string t]] w fun e w' => e = .returned (.int .i64 (arityF ⟨k, n, i, t⟩)) ∧ Below w.heap.size w w' := by
  go_enter Tryd.func78, Tryd.ntmps78
  go_wp2
  all_goals go_ret
  all_goals (refine ⟨?_, (Below.refl _ _).alloc (Nat.le_refl _) _⟩)
  all_goals (refine ret_int ?_; simp_all [arityF])

/-- An operation that is right by itself. -/
def wellF (o : XOp) : Bool :=
  if arityF o < 0 ∨ arityF o ≠ o.n then false
  else if o.kind = 1 then decide (-9007199254740992 ≤ o.int) && (decide (o.int ≤ 9007199254740992) && o.text.toList.isEmpty)
  else if o.kind = 2 then o.int == 0
  else if o.kind = 3 ∨ o.kind = 4 ∨ o.kind = 18 ∨ o.kind = 19 then o.int == 0 && isName o.text
  else o.int == 0 && o.text.toList.isEmpty
set_option maxHeartbeats 1000000 in
theorem well_c (k n i : Int) (t : ByteArray) (w : World) (hk : KeysIn w) (ht : t.size ≤ 140737488355328) :
    Calls Tryd.prog 67 #[.agg #[.int .i64 k, .int .i64 n, .int .i64 i, .string t]] w fun e w' => e = .returned (.bool (wellF ⟨k, n, i, t⟩)) ∧ Below w.heap.size w w' := by
  go_enter Tryd.func67, Tryd.ntmps67
  go_wp2_with (first | (go_at_call 78; refine (arity_c _ _ _ _ _).mono ?_; rintro e w1 ⟨rfl, hb⟩; obtain ⟨hc, hf⟩ := bcell hb) | (go_at_call 35; refine (isName_c _ _ (hk.below (((Below.refl _ _).alloc (Nat.le_refl _) _).trans (hb.mono (by simp)))) ht).mono ?_; rintro e w' ⟨rfl, rfl⟩))
  all_goals go_ret
  all_goals (refine ⟨ret_bool ?_, (((Below.refl _ _).alloc (Nat.le_refl _) _).trans (hb.mono (by simp)))⟩)
  all_goals (clear hb hc hf; generalize hA : arityF { kind := k, n := n, int := i, text := t } = ar at *)
  all_goals (by_cases h0 : ar < 0 <;> by_cases h1 : ar = n)
  all_goals (first | (exfalso; simp_all; omega) | (subst h1; simp_all [wellF]; done) | (simp_all [wellF]; done) | (subst h1; simp_all [wellF]; intros; omega))
end Go.Proofs.YtofmdmmgbfbaoaaDoor
