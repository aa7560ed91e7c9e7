/- Generic words for regions that draw their order: cells that are held. -/
import Derived.Test.YtjlapnnmdfdjdaaV0
namespace Go.Proofs.Ytjlapnnmdfdjdaa
open Go.RowKit
theorem kept_cell {w w3 : World} {a : Addr} {v : Value} (h : w.cell? a = some v) (hb : Below w.heap.size w w3) : w3.cell? a = some v := (hb.cell (World.block_lt_of_cell? w _ h)).trans h
theorem frozen_block {w w' : World} {a : Addr} (h : w'.heap[a.block]? = w.heap[a.block]?) : w'.frozen? a = w.frozen? a := by unfold World.frozen?; rw [h]
theorem hk0 {B : Nat} {w0 w w3 : World} (h : Below B w0 w ∧ B ≤ w.heap.size) (hb : Below w.heap.size w w3) : Below B w0 w3 ∧ B ≤ w3.heap.size := ⟨h.1.trans (hb.mono h.2), Nat.le_trans h.2 hb.size⟩
theorem hk1 {B : Nat} {w0 w w3 : World} {a1 : Addr} {v1 : Value} (h : (Below B w0 w ∧ B ≤ w.heap.size) ∧ w.cell? a1 = some v1) (hb : Below w.heap.size w w3) : (Below B w0 w3 ∧ B ≤ w3.heap.size) ∧ w3.cell? a1 = some v1 := ⟨hk0 h.1 hb, kept_cell h.2 hb⟩
theorem hk2 {B : Nat} {w0 w w3 : World} {a1 a2 : Addr} {v1 v2 : Value} (h : (Below B w0 w ∧ B ≤ w.heap.size) ∧ w.cell? a1 = some v1 ∧ w.cell? a2 = some v2) (hb : Below w.heap.size w w3) : (Below B w0 w3 ∧ B ≤ w3.heap.size) ∧ w3.cell? a1 = some v1 ∧ w3.cell? a2 = some v2 :=
  ⟨hk0 h.1 hb, kept_cell h.2.1 hb, kept_cell h.2.2 hb⟩
theorem hk3 {B : Nat} {w0 w w3 : World} {a1 a2 a3 : Addr} {v1 v2 v3 : Value} (h : (Below B w0 w ∧ B ≤ w.heap.size) ∧ w.cell? a1 = some v1 ∧ w.cell? a2 = some v2 ∧ w.cell? a3 = some v3) (hb : Below w.heap.size w w3) :
    (Below B w0 w3 ∧ B ≤ w3.heap.size) ∧ w3.cell? a1 = some v1 ∧ w3.cell? a2 = some v2 ∧ w3.cell? a3 = some v3 := ⟨hk0 h.1 hb, kept_cell h.2.1 hb, kept_cell h.2.2.1 hb, kept_cell h.2.2.2 hb⟩
theorem hk4 {B : Nat} {w0 w w3 : World} {a1 a2 a3 a4 : Addr} {v1 v2 v3 v4 : Value} (h : (Below B w0 w ∧ B ≤ w.heap.size) ∧ w.cell? a1 = some v1 ∧ w.cell? a2 = some v2 ∧ w.cell? a3 = some v3 ∧ w.cell? a4 = some v4) (hb : Below w.heap.size w w3) :
    (Below B w0 w3 ∧ B ≤ w3.heap.size) ∧ w3.cell? a1 = some v1 ∧ w3.cell? a2 = some v2 ∧ w3.cell? a3 = some v3 ∧ w3.cell? a4 = some v4 := ⟨hk0 h.1 hb, kept_cell h.2.1 hb, kept_cell h.2.2.1 hb, kept_cell h.2.2.2.1 hb, kept_cell h.2.2.2.2 hb⟩
end Go.Proofs.Ytjlapnnmdfdjdaa
