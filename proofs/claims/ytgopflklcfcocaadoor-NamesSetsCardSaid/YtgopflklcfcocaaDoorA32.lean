/- The reference's sure. -/
import Derived.Test.YtgopflklcfcocaaDoorA31
namespace Go.Proofs.YtgopflklcfcocaaDoor
open Go.RowKit

/-- What the part number j gives. -/
def contrib (es : List XOp) (fr : List Nat) (f : Nat) (kind : Int) (ps : List Nat) (j : Nat) (x : ByteArray) : Bool :=
  if kind = 15 ∧ j = 1 then false else if kind = 14 ∧ j = 2 then false
  else if kind = 14 ∧ j = 1 then sureF es fr f (ps.getD 1 0) x && sureF es fr f (ps.getD 2 0) x
  else sureF es fr f (ps.getD j 0) x
def anyTo (g : Nat → Bool) : Nat → Bool
  | 0 => false
  | n + 1 => anyTo g n || g n
theorem anyTo_list (l : List Nat) (F : Nat → Bool) (g : Nat → Bool) : ∀ n, n ≤ l.length → (∀ j, j < n → g j = F (l.getD j 0)) → anyTo g n = (l.take n).any F := by
  intro n
  induction n with
  | zero => intro _ _; simp [anyTo]
  | succ n ih =>
    intro hn hg
    have hlt : n < l.length := by omega
    rw [anyTo, ih (by omega) (fun j hj => hg j (by omega)), hg n (by omega), List.take_succ_eq_append_getElem hlt, List.any_append, List.getD_eq_getElem?_getD, List.getElem?_eq_getElem hlt]
    simp
theorem contrib_all {es : List XOp} {fr : List Nat} {f pos m : Nat} (hp : pos < es.length) (hm : es[pos].n = (m : Int)) (hw : wellF es[pos] = true) (h3 : es[pos].kind ≠ 3) (x : ByteArray) :
    anyTo (fun j => contrib es fr f es[pos].kind (partsGo fr m pos) j x) m = sureF es fr (f + 1) pos x := by
  rw [sureF_unfold hp, if_neg h3, hm, Int.toNat_natCast]
  by_cases h15 : es[pos].kind = 15
  · have := arity_try h15 hw
    obtain rfl : m = 2 := by omega
    rw [if_pos h15]
    simp [anyTo, contrib, h15]
  · rw [if_neg h15]
    by_cases h14 : es[pos].kind = 14
    · have := arity_if h14 hw
      obtain rfl : m = 3 := by omega
      rw [if_pos h14]
      simp [anyTo, contrib, h14]
    · rw [if_neg h14]
      have hl := partsGo_length fr m pos
      rw [anyTo_list (partsGo fr m pos) (fun p => sureF es fr f p x) _ m (by omega) (fun j _ => by simp [contrib, h14, h15])]
      rw [List.take_of_length_le (by omega)]
end Go.Proofs.YtgopflklcfcocaaDoor
