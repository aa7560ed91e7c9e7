/- A clock in memory: what an Advance keeps from firing to firing. -/
import Derived.Test.YtjlapnnmdfdjdaaC16
namespace Go.Proofs.Ytjlapnnmdfdjdaa
open Go.RowKit
def frC (l : List (Int × Int)) : List Value := l.flatMap fun x => [.int .i64 x.1, .int .i64 x.2]
theorem frC_app (a b : List (Int × Int)) : frC (a ++ b) = frC a ++ frC b := by unfold frC; rw [List.flatMap_append]
theorem info_fr : (Try.prog.info? 41).map (fun i => (i.zero, i.size, i.bytes)) = some (some (.agg #[.int .i64 0, .int .i64 0]), 2, 16) := by kernel_rfl
/-- A row of one's own that is not the queue's. -/
theorem out_step {D e sz n s : Nat} {v : Value} {xs : List Value} {w1 w2 : World} (own : w1.ownsRow D e sz v n xs) (dis : ∀ g ∈ blkAt s 2 w1, v.ownBlock ≠ some g) (hD : s < D) (m : HMoves s 2 w1 w2) :
    w2.ownsRow D e sz v n xs ∧ ∀ g ∈ blkAt s 2 w2, v.ownBlock ≠ some g := by
  refine ⟨own_mv own m.1 fun g hg hm => ?_, fun g hg hv => ?_⟩
  · rcases List.mem_cons.1 hm with rfl | hm
    · have := (own.lt _ hg).1; omega
    · exact dis g hm hg
  · rcases m.2 g hg with h | h
    · exact dis g h hv
    · have := (own.lt _ hv).2; omega
theorem app_step {B D e sz n s : Nat} {v v1 : Value} {xs : List Value} {H : List Tm} {w wr w1 : World} (q : QAt B s wr H) (own : wr.ownsRow D e sz v n xs) (dis : ∀ g ∈ blkAt s 2 wr, v.ownBlock ≠ some g) (hD : s < D) (hw : D = w.heap.size) (hg : wr.grownBy w1 v.ownBlock)
    (h1 : ∀ g, v1.ownBlock = some g → v.ownBlock = some g ∨ wr.heap.size ≤ g) (hm : HMoves s 2 w wr) :
    QAt B s w1 H ∧ HMoves s 2 w w1 ∧ (∀ g ∈ blkAt s 2 w1, v1.ownBlock ≠ some g) ∧ ∀ k, w1.cell? ⟨s, k, none⟩ = wr.cell? ⟨s, k, none⟩ := by
  have hmv : Moves v.ownBlock.toList wr w1 := Moves.of_grown hg (by intro k e; simp [e])
  have hs : s ∉ v.ownBlock.toList := fun h => by have := (own.lt s (by simpa using h)).1; omega
  obtain ⟨h2, h3⟩ := HRow.moves q hmv hs (fun k hk hv => dis k hk (by simpa using hv))
  refine ⟨h2, ⟨hm.1.onto hmv (fun k hk => .inr ?_), fun g h => hm.2 g (by rw [← h3]; exact h)⟩, fun g h hv => ?_, fun k => hmv.cell q.lt hs k⟩
  · have := (own.lt k (by simpa using hk)).1; omega
  · rw [h3] at h
    rcases h1 g hv with h4 | h4
    · exact dis g h h4
    · have := (q.blk g h).2.1; omega
/-- As far as k firings. -/
structure AInv (B s : Nat) (w : World) (c : Clk) (T : Int) (k : Nat) (v : Value) (wr : World) : Prop where
  le : k ≤ cnt T c.L
  at_ : CAt B s wr ⟨T, c.last, (fires T k c.L).2⟩
  own : wr.ownsRow w.heap.size 41 2 v k (frC (fires T k c.L).1)
  mv : HMoves s 2 w wr
  dis : ∀ g ∈ blkAt s 2 wr, v.ownBlock ≠ some g
def AdvPost (B s : Nat) (w : World) (c : Clk) (t : Int) (e : Ending) (w' : World) : Prop :=
  ∃ v, e = .returned (.tuple #[v, .int .i64 (c.adv t).2.2]) ∧ w'.ownsRow w.heap.size 41 2 v (c.adv t).2.1.length (frC (c.adv t).2.1) ∧ CAt B s w' (c.adv t).1 ∧ HMoves s 2 w w' ∧ ∀ g ∈ blkAt s 2 w', v.ownBlock ≠ some g
theorem AInv.done {B s : Nat} {w wr : World} {c : Clk} {t : Int} {k : Nat} {v : Value} (h : AInv B s w c (c.now + t) k v wr) (hf : c.Fine) (h1 : ¬ (t < 0 ∨ 1099511627776 - c.now < t)) (h2 : ¬ 4096 < cnt (c.now + t) c.L) (he : ∀ x l, (fires (c.now + t) k c.L).2 = x :: l → c.now + t < x.a) : AdvPost B s w c t (.returned (.tuple #[v, .int .i64 0])) wr := by
  have hk := fires_end (now := c.now) (by omega) hf.ok.fit h.le he
  have e : c.adv t = (⟨c.now + t, c.last, (fires (c.now + t) k c.L).2⟩, (fires (c.now + t) k c.L).1, 0) := by unfold Clk.adv; rw [if_neg h1, if_neg h2, ← hk]
  unfold AdvPost
  rw [e]
  have hl := (fires_round (now := c.now) (by omega) k c.L hf.ok.fit h.le).1
  exact ⟨v, rfl, by simp only; rw [hl]; exact h.own, h.at_, h.mv, h.dis⟩
/-- A timer is given another time. -/
theorem q_at {B s g cap j : Nat} {w : World} {H : List Tm} (hq : QAt B s w H) (c2 : w.cell? ⟨s, 2, none⟩ = some (.slice (some ⟨g, 0, none⟩) H.length cap)) (hj : j < H.length) (a : Int) :
    QAt B s (w.setCell ⟨g, j * 3 + 1, none⟩ (.int .i64 a)) (H.set j ⟨H[j]!.n, a, H[j]!.e⟩) ∧ QMoves s w (w.setCell ⟨g, j * 3 + 1, none⟩ (.int .i64 a)) := by
  obtain ⟨v, c3, hz, ho, hne, hB⟩ := hq
  rw [c2] at c3
  cases c3
  have hgs : g ≠ s := fun e => hne (by rw [e]; rfl)
  obtain ⟨t, ht⟩ : ∃ t : Tm, t = ⟨H[j]!.n, a, H[j]!.e⟩ := ⟨_, rfl⟩
  rw [← ht]
  have hmv2 : Moves [g] w (w.setCell ⟨g, j * 3 + 1, none⟩ (.int .i64 a)) := Moves.set _ _ _ (by simp)
  have ho2 : (w.setCell ⟨g, j * 3 + 1, none⟩ (.int .i64 a)).ownsRow B 39 3 (.slice (some ⟨g, 0, none⟩) H.length cap) H.length (tmCells (H.set j t)) := by
    have h3 := own_set (k := j * 3 + 1) ho (.int .i64 a)
    have e2 : (tmCells H).set (j * 3 + 1) (.int .i64 a) = tmCells (H.set j t) := by
      rw [← tmCells_set H j t hj, ht]
      obtain ⟨q1, q2, q3⟩ := tmCells_get hj
      have s1 : (tmCells H).set (j * 3) (.int .i64 H[j]!.n) = tmCells H := by
        have hlt : j * 3 < (tmCells H).length := by rw [tmCells_length]; omega
        rw [List.getElem?_eq_getElem hlt] at q1
        rw [← Option.some.inj q1, List.set_getElem_self]
      simp only
      rw [s1, List.set_comm _ _ (by omega)]
      have hlt : j * 3 + 2 < (tmCells H).length := by rw [tmCells_length]; omega
      have s2 : (tmCells H).set (j * 3 + 2) (.int .i64 H[j]!.e) = tmCells H := by
        rw [List.getElem?_eq_getElem hlt] at q3
        rw [← Option.some.inj q3, List.set_getElem_self]
      rw [s2]
    rw [e2] at h3
    exact h3
  have hr := HRow.wrote c2 hz hne hB hmv2 ho2
  exact ⟨by unfold QAt; rw [List.length_set]; exact hr.1, hr.2, fun q _ => hmv2.cell (World.block_lt_of_cell? w _ c2) (by simpa using fun e => hgs e.symm) q⟩
theorem AInv.next {B s : Nat} {w w5 w' : World} {c : Clk} {T xn xa : Int} {k : Nat} {v : Value} {fs : List (Int × Int)} {R H' : List Tm} (hk : k + 1 ≤ cnt T c.L) (hF : fires T (k + 1) c.L = (fs ++ [(xn, xa)], R))
    (own : w5.ownsRow w.heap.size 41 2 v (k + 1) (frC fs ++ [.int .i64 xn, .int .i64 xa])) (mv : HMoves s 2 w w5) (dis : ∀ g ∈ blkAt s 2 w5, v.ownBlock ≠ some g) (hs : s < w.heap.size)
    (a0 : w5.cell? ⟨s, 0, none⟩ = some (.int .i64 T)) (a1 : w5.cell? ⟨s, 1, none⟩ = some (.int .i64 c.last)) (m : QMoves s w5 w') (q : QR B s w' H') (hh : HeapOf H' R) : AInv B s w c T (k + 1) v w' := by
  obtain ⟨h1, h2⟩ := out_step own dis hs m.1
  refine ⟨hk, ⟨(m.2 0 (by omega)).trans a0, (m.2 1 (by omega)).trans a1, H', q, by rw [hF]; exact hh⟩, ?_, mv.trans m.1, h2⟩
  rw [hF]
  simp only
  rw [frC_app]
  exact h1
end Go.Proofs.Ytjlapnnmdfdjdaa
