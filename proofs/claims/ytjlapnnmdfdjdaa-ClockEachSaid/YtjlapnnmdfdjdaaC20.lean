/- The chapter's first example works; a clock under calls. -/
import Derived.Test.YtjlapnnmdfdjdaaC19
namespace Go.Proofs.Ytjlapnnmdfdjdaa
open Go.RowKit
theorem HMoves.below {B s D : Nat} {w w' : World} {c : Clk} (h : HMoves s 2 w w') (hc : CAt B s w c) (hD : D ≤ B) : Below D w w' := by
  obtain ⟨H, ⟨hq, _⟩, _⟩ := hc.q
  have hBs : B ≤ s := by obtain ⟨_, _, _, _, _, h⟩ := hq; exact h
  refine ⟨h.1.1, h.1.2.1, h.1.2.2.1, h.1.2.2.2.1, fun k hk => ?_⟩
  have hs := hq.lt
  refine h.1.2.2.2.2 k (by omega) (fun hm => ?_)
  rcases List.mem_cons.1 hm with rfl | hm
  · omega
  · have := (hq.blk k hm).1; omega
theorem fine0 : clk0.Fine := ⟨clk0_ok, by simp [clk0]⟩
def wk1 : Clk := ⟨0, 1, [⟨1, 5, 0⟩]⟩
def wk2 : Clk := ⟨0, 2, [⟨2, 2, 3⟩, ⟨1, 5, 0⟩]⟩
def wk3 : Clk := ⟨5, 2, [⟨2, 8, 3⟩]⟩
theorem wk_1 : clk0.at_ 5 = (wk1, 1, 0) := rfl
theorem wk_2 : wk1.every 2 3 = (wk2, 2, 0) := rfl
theorem wk_3 : wk2.adv 5 = (wk3, [(2, 2), (1, 5), (2, 5)], 0) := rfl
theorem Clk.Fine.at_ {s : Clk} (h : s.Fine) (a : Int) (ht : s.last + 1 < 4611686018427387904) : (s.at_ a).1.Fine := ⟨h.ok.at_ a, by unfold Clk.at_ Clk.set; split; exact h.top; split; exact h.top; simp only; omega⟩
theorem Clk.Fine.after {s : Clk} (h : s.Fine) (a : Int) (ht : s.last + 1 < 4611686018427387904) : (s.after a).1.Fine := ⟨h.ok.after a, by unfold Clk.after Clk.set; split; exact h.top; split; exact h.top; simp only; omega⟩
theorem Clk.Fine.every {s : Clk} (h : s.Fine) (a b : Int) (ht : s.last + 1 < 4611686018427387904) : (s.every a b).1.Fine := ⟨h.ok.every a b, by unfold Clk.every Clk.set; split; exact h.top; split; exact h.top; simp only; omega⟩
theorem Clk.Fine.stop {s : Clk} (h : s.Fine) (a : Int) : (s.stop a).1.Fine := ⟨h.ok.stop a, by unfold Clk.stop; split <;> exact h.top⟩
theorem Clk.Fine.move {s : Clk} (h : s.Fine) (a b : Int) : (s.move a b).1.Fine := ⟨h.ok.move a b, by unfold Clk.move; split; exact h.top; split <;> exact h.top⟩
theorem Clk.Fine.adv {s : Clk} (h : s.Fine) (a : Int) : (s.adv a).1.Fine := ⟨h.ok.adv a, by unfold Clk.adv; split; exact h.top; split <;> exact h.top⟩
set_option maxRecDepth 100000 in
theorem works_c (w : World) : Calls Try.prog 8 #[] w fun e w' => e = .returned (.bool true) ∧ Below w.heap.size w w' := by
  have HN := Lib.hid (new_c w)
  go_enter Try.func8, Try.ntmps8
  go_wp2_with fail
  go_at_call 20
  refine HN.out.mono ?_
  rintro e w1 ⟨rfl, hc1, hb1, hz1⟩
  obtain ⟨s, hs⟩ : ∃ s, s = w.heap.size := ⟨_, rfl⟩
  rw [← hs] at hc1
  have HA := at_c hc1 fine0 5
  rw [wk_1] at HA
  replace HA := Lib.hid HA
  have HB1 := Lib.hid hb1
  have HC1 := Lib.hid hc1
  have HS := Lib.hid hs
  rw [← hs]
  clear hc1 hb1 hz1 HN hs
  go_wp2_with fail
  go_at_call 24
  refine HA.out.mono ?_
  rintro e w2 ⟨rfl, hc2, hm2⟩
  have f1 : wk1.Fine := (fine0.at_ 5 (by simp [clk0]) : _)
  have HE := every_c hc2 f1 2 3
  rw [wk_2] at HE
  replace HE := Lib.hid HE
  have HM2 := Lib.hid hm2
  have F1 := Lib.hid f1
  clear hc2 hm2 f1 HA
  unfold two
  go_wp2_with fail
  go_at_call 25
  refine HE.out.mono ?_
  rintro e w3 ⟨rfl, hc3, hm3⟩
  have f2 : wk2.Fine := (F1.out.every 2 3 (by simp [wk1]) : _)
  have HD := adv_c hc3 f2 5
  unfold AdvPost at HD
  rw [wk_3] at HD
  replace HD := Lib.hid HD
  have HM3 := Lib.hid hm3
  clear hc3 hm3 f2 HE F1
  unfold two
  go_wp2_with fail
  go_at_call 12
  refine HD.out.mono ?_
  rintro e w4 ⟨v, rfl, ho, hc4, hm4, hdis⟩
  have FIN : Hid (∀ w', Below w4.heap.size w4 w' → Below w.heap.size w w') := Lib.hid fun w' h => by
    have hq := ((HM2.out.trans HM3.out).trans hm4).below HC1.out (Nat.le_of_eq HS.out.symm)
    exact (HB1.out.trans hq).trans (h.mono (Nat.le_trans HB1.out.size hq.size))
  obtain ⟨W, hW⟩ : ∃ W, W = w4.alloc (.cells #[.int .i64 2, .int .i64 2, .int .i64 1, .int .i64 5, .int .i64 2, .int .i64 5] 41) := ⟨_, rfl⟩
  have hbW : Below w4.heap.size w4 W := by rw [hW]; exact (Below.refl _ _).alloc (Nat.le_refl _) _
  have hcW := (hc4.below hbW).1
  have hsame := firings_same (w := W) (l := [(2, 2), (1, 5), (2, 5)]) (u := v) (v := .slice (some ⟨w4.heap.size, 0, none⟩) 3 3) (CellsAt.of_own (by rw [hW]; exact ho.alloc _))
    ⟨_, _, rfl, fun _ => ⟨w4.heap.size, rfl, fun j u hu => by rw [hW, cell_new, ← Array.getElem?_toList]; exact hu⟩⟩ (by decide)
  have hnow : ∀ q, Calls Try.prog 14 #[cV s] (W.drewN q) fun e w' => e = .returned (.int .i64 5) ∧ w' = W.drewN q := fun q => now_c (w := W.drewN q) (c := wk3) ⟨hcW.now, hcW.last, hcW.q⟩
  have HSM := Lib.hid hsame
  have HNW := Lib.hid hnow
  have HW := Lib.hid hW
  have FIN2 : Hid (∀ q, Below w.heap.size w (W.drewN q)) := Lib.hid fun q => by
    have := FIN.out W hbW
    exact ⟨this.os, this.tape, this.output, this.size, this.block⟩
  obtain ⟨X, d, rfl, _⟩ := own_rowS ho
  clear hW hbW hcW hsame hnow ho hc4 hm4 hdis HD
  go_wp2_with (first | (rw [← HW.out]; go_at_call 13; refine HSM.out.mono ?_; rintro e w5 ⟨rfl, q, rfl⟩) | (go_at_call 14; refine (HNW.out _).mono ?_; rintro e w6 ⟨rfl, rfl⟩))
  go_ret
  exact ⟨rfl, FIN2.out _⟩
end Go.Proofs.Ytjlapnnmdfdjdaa
