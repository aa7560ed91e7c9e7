/- Clocks that lie apart; time that goes by in two steps. -/
import Derived.Test.YtjlapnnmdfdjdaaC21
namespace Go.Proofs.Ytjlapnnmdfdjdaa
open Go.RowKit
theorem CAt.blk {B s : Nat} {w : World} {c : Clk} (h : CAt B s w c) : B ≤ s ∧ s < w.heap.size ∧ ∀ k ∈ blkAt s 2 w, B ≤ k ∧ k < w.heap.size ∧ k ≠ s := by
  obtain ⟨H, ⟨hq, _⟩, _⟩ := h.q
  exact ⟨by obtain ⟨_, _, _, _, _, h⟩ := hq; exact h, hq.lt, hq.blk⟩
theorem CAt.moves {B s : Nat} {w w' : World} {c : Clk} {M : List Nat} (h : CAt B s w c) (hm : Moves M w w') (hs : ∀ k ∈ s :: blkAt s 2 w, k ∉ M) : CAt B s w' c ∧ blkAt s 2 w' = blkAt s 2 w := by
  obtain ⟨h0, h1, H, ⟨hq, hf⟩, hh⟩ := h
  have hs1 := hs s List.mem_cons_self
  obtain ⟨h2, h3⟩ := HRow.moves hq hm hs1 (fun k hk => hs k (List.mem_cons_of_mem _ hk))
  exact ⟨⟨(hm.cell hq.lt hs1 0).trans h0, (hm.cell hq.lt hs1 1).trans h1, H, ⟨h2, hf⟩, hh⟩, h3⟩
/-- Two clocks have no block in common. -/
def Apart (s t : Nat) (w : World) : Prop := ∀ k ∈ s :: blkAt s 2 w, k ∉ t :: blkAt t 2 w
theorem Apart.symm {s t : Nat} {w : World} (h : Apart s t w) : Apart t s w := fun k hk hm => h k hm hk
theorem Apart.moves {B s t : Nat} {w w' : World} {c : Clk} (h : Apart s t w) (hc : CAt B t w c) (hm : HMoves s 2 w w') : CAt B t w' c ∧ Apart s t w' ∧ blkAt t 2 w' = blkAt t 2 w := by
  obtain ⟨h1, h2⟩ := hc.moves hm.1 (fun k hk hM => h k hM hk)
  refine ⟨h1, fun k hk hM => ?_, h2⟩
  rw [h2] at hM
  rcases List.mem_cons.1 hk with rfl | hk
  · exact h k List.mem_cons_self hM
  · rcases hm.2 k hk with h3 | h3
    · exact h k (List.mem_cons_of_mem _ h3) hM
    · rcases List.mem_cons.1 hM with rfl | hM
      · have := hc.blk.2.1; omega
      · have := (hc.blk.2.2 k hM).2.1; omega
theorem Apart.below {B B' s t : Nat} {w w' : World} {c d : Clk} (h : Apart s t w) (hc : CAt B s w c) (hd : CAt B' t w d) (hb : Below w.heap.size w w') : Apart s t w' := by
  have h1 := (hc.moves (Moves.of_new [] hb) (by simp)).2
  have h2 := (hd.moves (Moves.of_new [] hb) (by simp)).2
  unfold Apart
  rw [h1, h2]
  exact h
/-- A clone lies apart. -/
theorem apart_clone {B s t : Nat} {w w' : World} {c d : Clk} (hc : CAt B s w c) (hb : Below w.heap.size w w') (hd : CAt w.heap.size t w' d) : CAt B s w' c ∧ Apart s t w' := by
  obtain ⟨h1, h2⟩ := hc.moves (Moves.of_new [] hb) (by simp)
  refine ⟨h1, fun k hk hM => ?_⟩
  rw [h2] at hk
  have hk2 : k < w.heap.size := by
    rcases List.mem_cons.1 hk with rfl | hk
    · exact hc.blk.2.1
    · exact (hc.blk.2.2 k hk).2.1
  have hk3 : w.heap.size ≤ k := by
    rcases List.mem_cons.1 hM with rfl | hM
    · exact hd.blk.1
    · exact (hd.blk.2.2 k hM).1
  omega
/-- A row of one's own that lies apart from a clock. -/
def OutAt (D : Nat) (s : Nat) (w : World) (v : Value) : Prop := s < D ∧ ∀ g ∈ blkAt s 2 w, v.ownBlock ≠ some g
theorem OutAt.moves {D e sz n s : Nat} {v : Value} {xs : List Value} {w1 w2 : World} (h : OutAt D s w1 v) (own : w1.ownsRow D e sz v n xs) (m : HMoves s 2 w1 w2) : w2.ownsRow D e sz v n xs ∧ OutAt D s w2 v := by
  obtain ⟨h1, h2⟩ := out_step own h.2 h.1 m
  exact ⟨h1, h.1, h2⟩
theorem OutAt.same {D s : Nat} {v : Value} {w1 w2 : World} (h : OutAt D s w1 v) (e : blkAt s 2 w2 = blkAt s 2 w1) : OutAt D s w2 v := ⟨h.1, by rw [e]; exact h.2⟩
/-- Whoever lay before the row was made lies apart from it. -/
theorem OutAt.old {B D e sz n s : Nat} {v : Value} {xs : List Value} {w w1 : World} {c : Clk} (hc : CAt B s w c) (hw : w.heap.size ≤ D) (own : w1.ownsRow D e sz v n xs) (e : blkAt s 2 w1 = blkAt s 2 w) : OutAt D s w1 v := by
  refine ⟨by have := hc.blk.2.1; omega, fun g hg hv => ?_⟩
  rw [e] at hg
  have := (hc.blk.2.2 g hg).2.1
  have := (own.lt g hv).1
  omega
end Go.Proofs.Ytjlapnnmdfdjdaa
