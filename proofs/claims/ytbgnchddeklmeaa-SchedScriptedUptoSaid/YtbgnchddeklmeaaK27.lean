/- Schedulers made: by changing weights. -/
import Derived.Test.YtbgnchddeklmeaaK26
import Derived.Test.YtbgnchddeklmeaaV1
namespace Go.Proofs.Ytbgnchddeklmeaa
open Go.RowKit
theorem zero_pct : Try.zeroCells82 = #[.int .u64 0, .slice none 0 0] ++ Array.replicate 128 (.bool false) ++ Array.replicate 128 (.int .i64 0) := by kernel_rfl
/-- The first so many points. -/
def ptsL (c : Int) (steps : Int) : Nat → List Int
  | 0 => []
  | n + 1 => ptsL c steps n ++ [(belowK (stN c n) steps : Int)]
theorem ptsL_length (c steps : Int) : ∀ n, (ptsL c steps n).length = n
  | 0 => rfl
  | n + 1 => by rw [ptsL, List.length_append, ptsL_length c steps n]; rfl
def pctE (steps depth : Int) : Int := if steps < 1 ∨ 1048576 < steps ∨ depth < 0 ∨ 64 < depth then 1 else 0
/-- A policy of changing weights while its points are thrown. -/
structure PctRow (steps x : Int) (b : Nat) (w0 w : World) (v : Value) (j : Nat) : Prop where
  at_ : PctAt w b v (polOf 7 [] (stN (begS x) j))
  own : w.ownsRow (b + 1) 3 1 v j (I (ptsL (begS x) steps j))
  bel : Below b w0 w
theorem pct_row0 (steps x : Int) (w : World) : PctRow steps x w.heap.size w (w.alloc (.cells (Try.zeroCells82.setIfInBounds 0 (.int .u64 (begS x))) 82)) (.slice none 0 0) 0 := by
  refine ⟨⟨by simp, ?_, ?_, fun i hi => ?_, fun i hi => ?_, fun j => frozen_new _ _ _ _⟩, ⟨rfl, .inl ⟨rfl, rfl⟩⟩, (Below.refl _ _).alloc (Nat.le_refl _) _⟩
  all_goals rw [cell_new, zero_pct]; simp [Array.getElem?_append, Array.getElem?_replicate, stN, polOf]
  all_goals (try omega)
  · rw [if_pos (by omega)]; simp [hi]
  · rw [if_neg (by omega), if_neg (by omega)]; simp; omega
theorem PctRow.next {steps x : Int} {b : Nat} {w0 wr w5 : World} {v v5 : Value} {j : Nat} {o : Obj} (h : PctRow steps x b w0 wr v j)
    (ho : w5.ownsRow (b + 1) 3 1 v5 (j + 1) (I (ptsL (begS x) steps j) ++ [.int .i64 (belowK (stN (begS x) j) steps : Int)]))
    (hg : ((wr.setCell ⟨b, 0, none⟩ (.int .u64 (nxS (stN (begS x) j)))).alloc o).drew.grownBy w5 v.ownBlock) : PctRow steps x b w0 (w5.setCell ⟨b, 1, none⟩ v5) v5 (j + 1) := by
  obtain ⟨⟨h1, h2, h3, h4, h5, h6⟩, hown, hbel⟩ := h
  have hsz3 : (wr.setCell ⟨b, 0, none⟩ (.int .u64 (nxS (stN (begS x) j)))).heap.size = wr.heap.size := by simp [World.setCell]
  have hgb : w5.heap[b]? = (wr.setCell ⟨b, 0, none⟩ (.int .u64 (nxS (stN (begS x) j)))).heap[b]? := by
    rw [hg.block b (by show b < (World.alloc _ _).heap.size; rw [al_size]; omega) (fun e => by have := (hown.lt _ e.symm).1; omega)]
    exact heap_alloc_old _ _ (by omega)
  have hc : ∀ i, w5.cell? ⟨b, i, none⟩ = (wr.setCell ⟨b, 0, none⟩ (.int .u64 (nxS (stN (begS x) j)))).cell? ⟨b, i, none⟩ := fun i => World.cell?_of_block (a := ⟨b, i, none⟩) hgb
  have hz : ∀ i, w5.frozen? ⟨b, i, none⟩ = false := fun i => by
    unfold World.frozen?
    rw [hgb]
    exact (World.frozen?_setCell wr ⟨b, 0, none⟩ ⟨b, i, none⟩ _).trans (h6 i)
  have hs5 : wr.heap.size + 1 ≤ w5.heap.size := by have h := hg.size; have h2 : (World.alloc (wr.setCell ⟨b, 0, none⟩ (.int .u64 (nxS (stN (begS x) j)))) o).heap.size ≤ w5.heap.size := h; rw [al_size] at h2; omega
  refine ⟨⟨by simp [World.setCell]; omega, ?_, ?_, fun i hi => ?_, fun i hi => ?_, fun i => by rw [World.frozen?_setCell]; exact hz i⟩, ?_, ?_⟩
  · rw [set_far _ _ _ _ _ (by omega), hc]
    exact set_here _ _ _ _ _ h2
  · exact set_here _ _ _ _ _ ((hc 1).trans ((set_far _ _ _ _ _ (by omega)).trans h3))
  · rw [set_far _ _ _ _ _ (by omega), hc, set_far _ _ _ _ _ (by omega)]
    exact h4 i hi
  · rw [set_far _ _ _ _ _ (by omega), hc, set_far _ _ _ _ _ (by omega)]
    exact h5 i hi
  · have h7 : I (ptsL (begS x) steps j) ++ [.int .i64 (belowK (stN (begS x) j) steps : Int)] = I (ptsL (begS x) steps (j + 1)) := by rw [ptsL]; simp [I]
    rw [h7] at ho
    exact own_low ho _ _ (by show b < b + 1; omega)
  · have hb1 : Below b w0 (wr.setCell ⟨b, 0, none⟩ (.int .u64 (nxS (stN (begS x) j)))) := hbel.setCell (Nat.le_refl _) _
    exact ((((hb1.alloc (by omega) o).drew).grown hg (by show b ≤ (World.alloc _ _).heap.size; rw [al_size]; omega) (fun k hk => by have := (hown.lt k hk).1; omega))).setCell (Nat.le_refl _) _
set_option maxHeartbeats 4000000 in
set_option maxRecDepth 100000 in
theorem pct_c (x steps depth : Int) (w : World) : Calls Try.prog 35 #[.int .u64 x, .int .i64 steps, .int .i64 depth] w (Made (pctE steps depth) (polOf 7 (ptsL (begS x) steps depth.toNat) (stN (begS x) depth.toNat)) w) := by
  by_cases hg : steps < 1 ∨ 1048576 < steps ∨ depth < 0 ∨ 64 < depth
  · have hE : pctE steps depth = 1 := by unfold pctE; rw [if_pos hg]
    rw [hE]
    rcases (show steps < 1 ∨ (¬ steps < 1 ∧ 1048576 < steps) ∨ (¬ steps < 1 ∧ ¬ 1048576 < steps ∧ depth < 0) ∨ (¬ steps < 1 ∧ ¬ 1048576 < steps ∧ ¬ depth < 0 ∧ 64 < depth) by omega) with h | ⟨h, h2⟩ | ⟨h, h2, h3⟩ | ⟨h, h2, h3, h4⟩
    all_goals
      clear hg hE
      go_enter Try.func35, Try.ntmps35
      go_wp2
      go_ret2
      exact made_no (by decide) ⟨rfl, Below.refl _ _⟩
  · have hE : pctE steps depth = 0 := by unfold pctE; rw [if_neg hg]
    rw [hE]
    obtain ⟨k, rfl⟩ : ∃ k : Nat, depth = k := ⟨depth.toNat, by omega⟩
    have h1 : ¬ steps < 1 := by omega
    have h2 : ¬ 1048576 < steps := by omega
    have h3 : ¬ (k : Int) < 0 := by omega
    have h4 : ¬ (64 : Int) < (k : Int) := by omega
    have hk : k ≤ 64 := by omega
    rw [Int.toNat_natCast]
    clear hg hE
    go_enter Try.func35, Try.ntmps35
    go_wp2_with (go_at_call 27; refine (seeded_c x _).mono ?_; rintro e w1 ⟨rfl, rfl⟩)
    obtain ⟨i0, hi, hzz⟩ := Option.map_eq_some_iff.1 info_int
    simp only [Prod.mk.injEq] at hzz
    have HI := Lib.hid hi
    have HZ := Lib.hid hzz
    clear hi hzz
    obtain ⟨W2, hW2⟩ : ∃ W2, W2 = w1.alloc (.cells (Try.zeroCells82.setIfInBounds 0 (.int .u64 (begS x))) 82) := ⟨_, rfl⟩
    have hp0 : PctRow steps x w1.heap.size w1 W2 (.slice none 0 0) 0 := by
      rw [hW2]; exact pct_row0 _ _ _
    rw [← hW2]
    have hz2 : w1.heap.size < W2.heap.size := by rw [hW2]; simp
    have HZ2 := Lib.hid hz2
    clear hW2 hz2
    go_loopw [28] (fun i wr => ∃ (j : Nat) (v : Value), j ≤ k ∧ i = .int .i64 j ∧ PctRow steps x w1.heap.size w1 wr v j) (fun i _ => k - (intOf i).toNat)
    case atStart => exact ⟨0, _, by omega, rfl, hp0⟩
    case round =>
      obtain ⟨j, v, hj, rfl, hr⟩ := hrel
      by_cases hlt : j < k
      · have hj0 : (0 : Int) ≤ (j : Int) := Int.natCast_nonneg _
        have hj1 : (j : Int) < (k : Int) := by omega
        have HR := Lib.hid hr
        obtain ⟨c, hc⟩ : ∃ c, c = stN (begS x) j := ⟨_, rfl⟩
        have q0 : wr.drew.cell? ⟨w1.heap.size, 0, none⟩ = some (.int .u64 c) := by rw [hc]; exact hr.at_.2.1
        have q1 : wr.cell? ⟨w1.heap.size, 1, none⟩ = some v := hr.at_.2.2.1
        have z0 : wr.drew.frozen? ⟨w1.heap.size, 0, none⟩ = false := hr.at_.2.2.2.2.2 0
        have z1 : wr.frozen? ⟨w1.heap.size, 1, none⟩ = false := hr.at_.2.2.2.2.2 1
        have hb1 : w1.heap.size < wr.heap.size := hr.at_.1
        have ho : wr.ownsRow (w1.heap.size + 1) 3 1 v j (I (ptsL (begS x) steps j)) := hr.own
        have HC := Lib.hid hc
        have HO := Lib.hid ho
        obtain ⟨W3, hW3⟩ : ∃ W3, W3 = wr.drew.setCell ⟨w1.heap.size, 0, none⟩ (.int .u64 (nxS c)) := ⟨_, rfl⟩
        have HW3 := Lib.hid hW3
        have hb3 : w1.heap.size < (wr.setCell ⟨w1.heap.size, 0, none⟩ (.int .u64 (nxS c))).drew.heap.size := by simpa [World.setCell] using hb1
        have k1 : (wr.setCell ⟨w1.heap.size, 0, none⟩ (.int .u64 (nxS c))).drew.cell? ⟨w1.heap.size, 1, none⟩ = some v := (set_far wr w1.heap.size 1 0 _ (by omega)).trans q1
        have k2 : ((wr.setCell ⟨w1.heap.size, 0, none⟩ (.int .u64 (nxS c))).alloc (.cells #[.int .i64 (belowK c steps : Int)] 3)).drew.cell? ⟨w1.heap.size, 1, none⟩ = some v := (World.cell?_alloc_lt _ _ ⟨w1.heap.size, 1, none⟩ hb3).trans ((set_far wr w1.heap.size 1 0 _ (by omega)).trans q1)
        have hsz3 : (wr.setCell ⟨w1.heap.size, 0, none⟩ (.int .u64 (nxS c))).heap.size = wr.heap.size := by simp [World.setCell]
        have hoa : ∀ o, ((wr.setCell ⟨w1.heap.size, 0, none⟩ (.int .u64 (nxS c))).alloc o).drew.ownsRow (w1.heap.size + 1) 3 1 v j (I (ptsL (begS x) steps j)) := fun o => own_drew ((own_low ho _ _ (by show w1.heap.size < _; omega)).alloc _)
        have hrd : Reads ((wr.setCell ⟨w1.heap.size, 0, none⟩ (.int .u64 (nxS c))).alloc (.cells #[.int .i64 (belowK c steps : Int)] 3)).drew (wr.heap.size + 1) 1 (some ⟨wr.heap.size, 0, none⟩) 1 [.int .i64 (belowK c steps : Int)] := by
          have := reads_new (wr.setCell ⟨w1.heap.size, 0, none⟩ (.int .u64 (nxS c))) [.int .i64 (belowK c steps : Int)] 3 1 rfl
          rw [al_size, hsz3] at this
          exact this.drew
        have hgo : ∀ w5, (((wr.setCell ⟨w1.heap.size, 0, none⟩ (.int .u64 (nxS c))).alloc (.cells #[.int .i64 (belowK c steps : Int)] 3)).drew.grownBy w5 v.ownBlock) → w5.heap[w1.heap.size]? = (wr.setCell ⟨w1.heap.size, 0, none⟩ (.int .u64 (nxS c))).heap[w1.heap.size]? := fun w5 hg => by
          rw [hg.block w1.heap.size (by show w1.heap.size < (World.alloc _ _).heap.size; rw [al_size]; omega) (fun e => by have := (ho.lt _ e.symm).1; omega)]
          exact heap_alloc_old _ _ (by omega)
        have HC5 := Lib.hid (fun w5 hg => (World.cell?_of_block (a := ⟨w1.heap.size, 1, none⟩) (hgo w5 hg)).trans ((set_far wr w1.heap.size 1 0 _ (by omega)).trans q1) : ∀ w5, (((wr.setCell ⟨w1.heap.size, 0, none⟩ (.int .u64 (nxS c))).alloc (.cells #[.int .i64 (belowK c steps : Int)] 3)).drew.grownBy w5 v.ownBlock) → w5.cell? ⟨w1.heap.size, 1, none⟩ = some v)
        have HZ5 := Lib.hid (fun w5 hg => by (unfold World.frozen?; rw [hgo w5 hg]; exact (World.frozen?_setCell wr ⟨w1.heap.size, 0, none⟩ _ _).trans z1) : ∀ w5, (((wr.setCell ⟨w1.heap.size, 0, none⟩ (.int .u64 (nxS c))).alloc (.cells #[.int .i64 (belowK c steps : Int)] 3)).drew.grownBy w5 v.ownBlock) → w5.frozen? ⟨w1.heap.size, 1, none⟩ = false)
        have HOA := Lib.hid hoa
        have HRD := Lib.hid hrd
        clear hc ho hr hW3 hoa hrd hgo hsz3
        go_wp2_with fail
        go_region_law
          (first | (go_simp; go_at_call 45; refine (below_c c steps w1.heap.size _ q0 z0 (by omega)).mono ?_; rintro e w3 ⟨rfl, rfl⟩) | (refine step_append_any _ (by rfl) _ _ 30 (by rfl) (w1.heap.size + 1) 3 i0 (.int .i64 0) 1 8 Try.underlying30 HI.out HZ.out.1 HZ.out.2.1 HZ.out.2.2 rfl (by decide) v j (I (ptsL (begS x) steps j)) (by rfl) (HOA.out _) _ (some ⟨wr.heap.size, 0, none⟩) 1 1 [.int .i64 (belowK c steps : Int)] (by rfl) HRD.out (by simp [Value.oneCell']) (by simp only [maxLen]; omega) (by omega) (by simp [World.setCell]; omega) ?_; intro v5 w5 hown5 hg5 _; obtain ⟨g5, cap5, hv5, hg50, hg51⟩ := hown5.form (Nat.succ_pos j); subst hv5; have c5 : w5.cell? ⟨w1.heap.size, 1, none⟩ = some v := HC5.out w5 hg5; have z5 : w5.frozen? ⟨w1.heap.size, 1, none⟩ = false := HZ5.out w5 hg5))
        all_goals
          go_wp2
          go_roundw
          case rel => exact ⟨j + 1, _, by omega, by go_num, HR.out.next (by rw [← HC.out]; exact hown5) (by rw [← HC.out]; exact hg5)⟩
          case measure => simp [intOf]; omega
      · have hge : ¬ (j : Int) < (k : Int) := by omega
        have hjk : j = k := by omega
        subst hjk
        have HR := Lib.hid hr
        clear hr
        go_wp2_with (go_at_call 18; refine (made_c _ _ _).mono ?_; rintro e w3 ⟨s, rfl, hs3, hS3, hb3⟩)
        go_ret2
        obtain ⟨hP, hO, hB⟩ := HR.out
        have hb3s := hb3.size
        have h1s := hP.1
        obtain ⟨X, d, hv, hrow⟩ : ∃ X d, v = .slice X (ptsL (begS x) steps j).length d ∧ RowIn w3 w1.heap.size (w3.heap.size - w1.heap.size) [s, w1.heap.size] X (ptsL (begS x) steps j) := by
          have ho2 : wr.ownsRow (w1.heap.size + 1) 3 1 v (ptsL (begS x) steps j).length (I (ptsL (begS x) steps j)) := by rw [ptsL_length]; exact hO
          rcases own_ints_cases ho2 with ⟨rfl, h0, h00⟩ | ⟨g, cap, cur, rfl, _, hgB, hg, _⟩
          · exact ⟨none, 0, by rw [h00]; rfl, .inl h00⟩
          · refine ⟨_, cap, rfl, .inr ⟨g, 0, rfl, by omega, by omega, by simp; omega, Nat.lt_of_lt_of_le hg hb3.size, fun i hi => ?_⟩⟩
            have h3 := ho2.cells (g := g) rfl i (.int .i64 ((ptsL (begS x) steps j).getD i 0)) (by simp [List.getD, hi])
            rw [add_zero] at h3
            rw [Nat.zero_add]
            exact (hb3.cell (p := ⟨g, i, none⟩) hg).trans h3
        subst hv
        have hP3 := hP.below hb3
        refine made_ok ⟨s, rfl, fresh_of (by omega) hS3 (.inr (.inr (.inr (.inr ⟨rfl, rfl, by show (ptsL _ _ _).length ≤ 4096; rw [ptsL_length]; omega, w1.heap.size, X, d, rfl, rfl, Nat.le_refl _, by omega, by omega, hP3.1, hP3.2.1, hP3.2.2.1, hrow, hP3.2.2.2.1, hP3.2.2.2.2.1, hP3.2.2.2.2.2⟩)))) (hB.trans (hb3.mono (by omega)))⟩
end Go.Proofs.Ytbgnchddeklmeaa
