/- What is surely asked: plain. -/
import Derived.Test.YtgopflklcfcocaaDoorA28
namespace Go.Proofs.YtgopflklcfcocaaDoor
open Go.RowKit

/-- Is x surely asked for by the part that ends at pos? -/
def sureF (es : List XOp) (fr : List Nat) : Nat → Nat → ByteArray → Bool
  | 0, _, _ => false
  | f + 1, pos, x =>
    match es[pos]? with
    | none => false
    | some o =>
      if o.kind = 3 then decide (x = o.text)
      else if o.kind = 15 then sureF es fr f ((partsGo fr o.n.toNat pos).getD 0 0) x
      else if o.kind = 14 then sureF es fr f ((partsGo fr o.n.toNat pos).getD 0 0) x || (sureF es fr f ((partsGo fr o.n.toNat pos).getD 1 0) x && sureF es fr f ((partsGo fr o.n.toNat pos).getD 2 0) x)
      else (partsGo fr o.n.toNat pos).any fun p => sureF es fr f p x
theorem sureF_unfold {es : List XOp} {fr : List Nat} {f pos : Nat} (h : pos < es.length) (x : ByteArray) :
    sureF es fr (f + 1) pos x = if es[pos].kind = 3 then decide (x = es[pos].text)
      else if es[pos].kind = 15 then sureF es fr f ((partsGo fr es[pos].n.toNat pos).getD 0 0) x
      else if es[pos].kind = 14 then sureF es fr f ((partsGo fr es[pos].n.toNat pos).getD 0 0) x || (sureF es fr f ((partsGo fr es[pos].n.toNat pos).getD 1 0) x && sureF es fr f ((partsGo fr es[pos].n.toNat pos).getD 2 0) x)
      else (partsGo fr es[pos].n.toNat pos).any fun p => sureF es fr f p x := by
  rw [sureF, List.getElem?_eq_getElem h]
/-- How many operations the part at pos has. -/
def spanN (fr : List Nat) (pos : Nat) : Nat := pos + 1 - fr.getD pos 0
/-- The parts' spans sum to what lies between. -/
theorem tile_sum {fr : List Nat} {lo r hi : Nat} (h : tile fr lo r hi) : ((partsGo fr r hi).map (spanN fr)).sum = hi - lo := by
  induction r generalizing hi with
  | zero => rw [tile] at h; subst h; simp [partsGo]
  | succ r ih =>
    rw [tile] at h
    obtain ⟨h1, s, h2, hs, ht⟩ := h
    have hg := getD_of h2 0
    rw [partsGo, hg, List.map_append, List.sum_append, ih ht]
    have := tile_le ht
    simp only [List.map_cons, List.map_nil, List.sum_cons, List.sum_nil, spanN, hg]
    omega
theorem arity_try {o : XOp} (h : o.kind = 15) (hw : wellF o = true) : o.n = 2 := by
  have ha : arityF o = 2 := by simp [arityF, h]
  unfold wellF at hw
  rw [ha] at hw
  split at hw
  · cases hw
  · omega
theorem arity_if {o : XOp} (h : o.kind = 14) (hw : wellF o = true) : o.n = 3 := by
  have ha : arityF o = 3 := by simp [arityF, h]
  unfold wellF at hw
  rw [ha] at hw
  split at hw
  · cases hw
  · omega
theorem arity_name {o : XOp} (h : o.kind = 3) (hw : wellF o = true) : o.n = 0 := by
  have ha : arityF o = 0 := by simp [arityF, h]
  unfold wellF at hw
  rw [ha] at hw
  split at hw
  · cases hw
  · omega
end Go.Proofs.YtgopflklcfcocaaDoor
