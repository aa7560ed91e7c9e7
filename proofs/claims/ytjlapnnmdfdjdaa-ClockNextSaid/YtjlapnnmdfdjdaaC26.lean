/- Up to just ahead of Next nothing fires; with it something does. -/
import Derived.Test.YtjlapnnmdfdjdaaC23
namespace Go.Proofs.Ytjlapnnmdfdjdaa
open Go.RowKit
set_option maxRecDepth 100000 in
set_option maxHeartbeats 4000000 in
theorem law_next (xs : List CallR) (V : Option Addr) (d0 : Nat) (w : World) (hx : RowsIn w V 3 CallR.cells xs) (hl : xs.length ≤ 8796093022208) :
    Calls Try.prog 7 #[.slice V xs.length d0] w fun e w' => e = .returned (.bool true) ∧ Below w.heap.size w w' := by
  have HW := Lib.hid (works_c w)
  have HX := Lib.hid hx
  clear hx
  go_enter Try.func7, Try.ntmps7
  go_wp2_with fail
  go_at_call 8
  refine HW.out.mono ?_
  rintro e w1 ⟨rfl, hb1⟩
  have HP := Lib.hid (played_c d0 (HX.out.keep hb1) hl)
  have HB1 := Lib.hid hb1
  clear hb1 HW
  go_wp2_with fail
  go_at_call 9
  refine HP.out.mono ?_
  rintro e w2 ⟨B, s, rfl, hc2, hb2, hB2⟩
  have hfin := playF_fine hl
  have hlast := (playF_ok xs).2
  obtain ⟨c, hcc⟩ : ∃ c, c = playF xs := ⟨_, rfl⟩
  rw [← hcc] at hc2 hfin hlast
  have HC2 := Lib.hid hc2
  have HF := Lib.hid hfin
  have HBL : Hid (Below w.heap.size w w2) := Lib.hid (HB1.out.trans (hb2.mono HB1.out.size))
  have hBw : w.heap.size ≤ B := by have := HB1.out.size; omega
  have HLS : Hid (c.last ≤ 8796093022208) := Lib.hid (by omega)
  clear hb2 hcc HP hB2 HB1 hlast
  have HNX := Lib.hid (next_c hc2 hfin)
  have HPD := Lib.hid (pending_c hc2 hfin)
  clear hc2 hfin
  go_wp2_with (go_at_call 23; refine HNX.out.mono ?_; rintro e w3 ⟨rfl, hw3⟩; subst w3)
  go_at_call 16
  refine HPD.out.mono ?_
  rintro e w3 ⟨v6, rfl, ho6, hb3⟩
  obtain ⟨hc3, hk3⟩ := HC2.out.moves (Moves.of_new [] hb3) (by simp)
  have hot6 : OutAt w2.heap.size s w3 v6 := OutAt.old HC2.out (Nat.le_refl _) ho6 hk3
  have HC3 := Lib.hid hc3
  have HBL3 : Hid (Below w.heap.size w w3) := Lib.hid (HBL.out.trans (hb3.mono HBL.out.size))
  cases hL : c.L with
  | nil =>
    have hna : c.nextA = 0 := by unfold Clk.nextA; rw [hL]
    rw [hL] at ho6
    obtain ⟨X6, d6, rfl, _⟩ := own_rowS ho6
    rw [hna]
    simp only [List.length_nil, List.isEmpty_nil, Bool.not_true]
    clear ho6 hb3 hc3 hk3 hot6 HPD HNX hL hna
    go_wp2
    go_ret
    exact ⟨rfl, HBL3.out⟩
  | cons x l =>
    have hna : c.nextA = x.a := by unfold Clk.nextA; rw [hL]
    rw [hna]
    have hl0 : 0 < c.L.length := by rw [hL]; simp
    have hx0 : c.L[0]! = x := by rw [hL]; rfl
    have hll := HF.out.ok.len
    obtain ⟨h1, h2, h3, h4⟩ := HF.out.ok.next hL
    obtain ⟨g, d6, rfl, _, _⟩ := ho6.form hl0
    obtain ⟨e1, e2, e3⟩ := own_tm ho6 hl0
    rw [hx0] at e1 e2
    simp only [Nat.zero_mul, Nat.zero_add] at e1 e2
    have hle : ((c.L.length : Int) == 0) = false := beq_eq_false_iff_ne.2 (by omega)
    have hlp : (0 : Int) < (c.L.length : Int) := by omega
    have hn0 := HF.out.ok.now0
    have HN3 := Lib.hid (now_c hc3)
    have HO6 := Lib.hid ho6
    have HT6 := Lib.hid hot6
    have HK := Lib.hid h4
    have HX0 := Lib.hid hx0
    have HAD : Hid (c.now < x.a → Calls Try.prog 12 #[cV s, .int .i64 (x.a - 1 - c.now)] w3 (AdvPost B s w3 c (x.a - 1 - c.now))) := Lib.hid fun _ => adv_c hc3 HF.out _
    have HE : Hid (c.now < x.a → c.adv (x.a - 1 - c.now) = (⟨x.a - 1, c.last, c.L⟩, [], 0)) := Lib.hid h3
    obtain ⟨xn, xa, xe⟩ := x
    simp only at h1 h2 e1 e2 HK HAD HE
    obtain ⟨n0, hnn⟩ : ∃ q, q = c.now := ⟨_, rfl⟩
    rw [← hnn] at h1 hn0 HN3 HAD HE
    have HNN := Lib.hid hnn
    have HLP := Lib.hid hl0
    have hl1 : ¬ xa < n0 := by omega
    have hl2 : ¬ 1099511627776 < xa := by omega
    simp only [List.isEmpty_cons, Bool.not_false]
    clear ho6 hb3 hc3 hk3 hot6 HPD HNX hL hna h3 h4 hl0 hx0 hnn e3
    by_cases hlt : n0 < xa
    · skip
      have hlt2 : ¬ xa ≤ n0 := by omega
      obtain ⟨n1, hn1⟩ : ∃ q, q = xa - 1 := ⟨_, rfl⟩
      have had := HAD.out hlt
      unfold AdvPost at had
      rw [HE.out hlt] at had
      have hfc := HF.out.adv (xa - 1 - n0)
      rw [HE.out hlt] at hfc
      simp only at had hfc
      obtain ⟨c', hcc⟩ : ∃ c' : Clk, c' = ⟨xa - 1, c.last, c.L⟩ := ⟨_, rfl⟩
      rw [← hcc] at had hfc
      have hcl : c'.L = c.L := by rw [hcc]
      have hcn : c'.now = n1 := by rw [hcc, hn1]
      have HKX : Hid ((c'.adv (xa - n1)).2.2 = 3 ∨ ((c'.adv (xa - n1)).2.2 = 0 ∧ ∃ r, (c'.adv (xa - n1)).2.1 = (xn, xa) :: r)) := Lib.hid (by have := HK.out c' hcl (by omega) hfc.ok; rw [hcn] at this; exact this)
      have HAD2 := Lib.hid had
      have HFC := Lib.hid hfc
      have HCL := Lib.hid hcl
      have HCN := Lib.hid hcn
      have hn10 : 0 ≤ n1 := by omega
      have hn11 : n1 ≤ 1099511627776 := by omega
      clear had hfc hn1 hcc hcl hcn
      go_wp2_with (go_at_call 14; refine HN3.out.mono ?_; rintro e w4 ⟨rfl, hw4⟩; subst w4)
      go_at_call 12
      refine HAD2.out.mono ?_
      rintro e w4 ⟨v4, rfl, ho4, hc4, hm4, hdis4⟩
      obtain ⟨ho6, ht6⟩ := HT6.out.moves HO6.out hm4
      obtain ⟨X4, d4, rfl, _⟩ := own_rowS ho4
      have HBL4 : Hid (Below w.heap.size w w4) := Lib.hid (HBL3.out.trans (hm4.below HC3.out hBw))
      have HPD4 := Lib.hid (pending_c hc4 HFC.out)
      have HC4 := Lib.hid hc4
      have HO64 := Lib.hid ho6
      have HT64 := Lib.hid ht6
      clear ho4 hc4 hm4 hdis4 ho6 ht6 HAD2
      simp only [List.length_nil]
      go_wp2_with fail
      go_at_call 16
      refine HPD4.out.mono ?_
      rintro e w5 ⟨v5, rfl, ho5, hb5⟩
      obtain ⟨hc5, hk5⟩ := HC4.out.moves (Moves.of_new [] hb5) (by simp)
      have ho65 := own_mv HO64.out (Moves.of_new [] hb5) (by simp)
      have ht65 := HT64.out.same hk5
      rw [HCL.out] at ho5
      have HTM := Lib.hid (timers_same (CellsAt.of_own ho5) (CellsAt.of_own ho65) (by omega))
      have HC5 := Lib.hid hc5
      have HO65 := Lib.hid ho65
      have HT65 := Lib.hid ht65
      have HBL5 : Hid (Below w.heap.size w w5) := Lib.hid (HBL4.out.trans (hb5.mono HBL4.out.size))
      clear ho5 hb5 hc5 hk5 ho65 ht65
      go_wp2_with (go_at_call 15; refine HTM.out.mono ?_; rintro e w6 ⟨rfl, q6, rfl⟩)
      have hc6 : CAt B s (w5.drewN q6) c' := ⟨HC5.out.now, HC5.out.last, HC5.out.q⟩
      have hN6 := now_c hc6
      rw [HCN.out] at hN6
      have HC6 := Lib.hid hc6
      have HN6 := Lib.hid hN6
      have HO66 : Hid ((w5.drewN q6).ownsRow w2.heap.size 39 3 (.slice (some ⟨g, 0, none⟩) c.L.length d6) c.L.length (tmCells c.L)) := Lib.hid HO65.out
      have HT66 : Hid (OutAt w2.heap.size s (w5.drewN q6) (.slice (some ⟨g, 0, none⟩) c.L.length d6)) := Lib.hid HT65.out
      have HBL6 : Hid (Below w.heap.size w (w5.drewN q6)) := Lib.hid ⟨HBL5.out.os, HBL5.out.tape, HBL5.out.output, HBL5.out.size, HBL5.out.block⟩
      have HVT := Lib.hid (adv_c hc6 HFC.out (xa - n1))
      clear hc6 hN6
      refine HN6.out.mono ?_
      rintro e w7 ⟨rfl, hw7⟩
      subst w7
      go_wp2_with fail
      go_at_call 12
      refine HVT.out.mono ?_
      rintro e w8 ⟨v5, rfl, ho5, hc5, hm5, hdis5⟩
      obtain ⟨ho6, _⟩ := HT66.out.moves HO66.out hm5
      have FIN : Hid (Below w.heap.size w w8) := Lib.hid (HBL6.out.trans (hm5.below HC6.out hBw))
      have hkx := HKX.out
      have hfw := (adv_few HFC.out (xa - n1)).1
      obtain ⟨p, hp⟩ : ∃ p, p = c'.adv (xa - n1) := ⟨_, rfl⟩
      rw [← hp] at hkx ho5 hfw
      simp only [← hp]
      obtain ⟨c5, l5, e5⟩ := p
      simp only at hkx ho5 hfw
      obtain ⟨X5, d5, rfl, _⟩ := own_rowS ho5
      have q1 := ho6.cells (g := g) rfl 0 (.int .i64 xn) (by have := (tmCells_get HLP.out).1; rw [HX0.out] at this; exact this)
      rw [add_zero] at q1
      rcases hkx with rfl | ⟨rfl, r, rfl⟩
      · clear ho5 hc5 hm5 hdis5 ho6 hp hfw HVT
        go_wp2_with fail
        go_quiet (fail)
        go_wp2
        go_ret
        exact ⟨rfl, FIN.out.os, FIN.out.tape, FIN.out.output, FIN.out.size, FIN.out.block⟩
      · obtain ⟨g5, cap5, hv5, _, _⟩ := ho5.form (by simp)
        cases hv5
        have q2 := ho5.cells (g := g5) rfl 0 (.int .i64 xn) rfl
        have q3 := ho5.cells (g := g5) rfl 1 (.int .i64 xa) rfl
        rw [add_zero] at q2 q3
        have hl5 : (0 : Int) < (((xn, xa) :: r).length : Int) := by rw [List.length_cons]; omega
        obtain ⟨m5, hm5'⟩ : ∃ q, q = ((xn, xa) :: r).length := ⟨_, rfl⟩
        rw [← hm5'] at hl5 hfw
        have hl6 : 0 < m5 := by omega
        simp only [← hm5']
        have heq : ∀ W, (binOp .eql 41 (.agg #[.int .i64 xn, .int .i64 xa]) (.agg #[.int .i64 xn, .int .i64 xa])).run Try.prog W = .ok (.bool true) W := fun W => by simp [go_sem]
        clear ho5 hc5 hm5 hdis5 ho6 hp HVT hm5'
        go_wp2_with fail
        go_quiet (fail)
        go_wp2
        go_ret
        exact ⟨rfl, FIN.out.os, FIN.out.tape, FIN.out.output, FIN.out.size, FIN.out.block⟩
    · have hlt2 : xa ≤ n0 := by omega
      have HKX : Hid ((c.adv (xa - n0)).2.2 = 3 ∨ ((c.adv (xa - n0)).2.2 = 0 ∧ ∃ r, (c.adv (xa - n0)).2.1 = (xn, xa) :: r)) := Lib.hid (by have := HK.out c rfl (by rw [← HNN.out]; omega) HF.out.ok; rw [← HNN.out] at this; exact this)
      have HVT := Lib.hid (adv_c HC3.out HF.out (xa - n0))
      go_wp2_with (go_at_call 14; refine HN3.out.mono ?_; rintro e w4 ⟨rfl, hw4⟩; subst w4)
      go_at_call 12
      refine HVT.out.mono ?_
      rintro e w5 ⟨v5, rfl, ho5, hc5, hm5, hdis5⟩
      obtain ⟨ho6, _⟩ := HT6.out.moves HO6.out hm5
      have FIN : Hid (Below w.heap.size w w5) := Lib.hid (HBL3.out.trans (hm5.below HC3.out hBw))
      have hkx := HKX.out
      have hfw := (adv_few HF.out (xa - n0)).1
      obtain ⟨p, hp⟩ : ∃ p, p = c.adv (xa - n0) := ⟨_, rfl⟩
      rw [← hp] at hkx ho5 hfw
      simp only [← hp]
      obtain ⟨c5, l5, e5⟩ := p
      simp only at hkx ho5 hfw
      obtain ⟨X5, d5, rfl, _⟩ := own_rowS ho5
      have q1 := ho6.cells (g := g) rfl 0 (.int .i64 xn) (by have := (tmCells_get HLP.out).1; rw [HX0.out] at this; exact this)
      rw [add_zero] at q1
      rcases hkx with rfl | ⟨rfl, r, rfl⟩
      · clear ho5 hc5 hm5 hdis5 ho6 hp hfw HVT
        go_wp2_with fail
        go_quiet (fail)
        go_wp2
        go_ret
        exact ⟨rfl, FIN.out.os, FIN.out.tape, FIN.out.output, FIN.out.size, FIN.out.block⟩
      · obtain ⟨g5, cap5, hv5, _, _⟩ := ho5.form (by simp)
        cases hv5
        have q2 := ho5.cells (g := g5) rfl 0 (.int .i64 xn) rfl
        have q3 := ho5.cells (g := g5) rfl 1 (.int .i64 xa) rfl
        rw [add_zero] at q2 q3
        have hl5 : (0 : Int) < (((xn, xa) :: r).length : Int) := by rw [List.length_cons]; omega
        obtain ⟨m5, hm5'⟩ : ∃ q, q = ((xn, xa) :: r).length := ⟨_, rfl⟩
        rw [← hm5'] at hl5 hfw
        have hl6 : 0 < m5 := by omega
        simp only [← hm5']
        have heq : ∀ W, (binOp .eql 41 (.agg #[.int .i64 xn, .int .i64 xa]) (.agg #[.int .i64 xn, .int .i64 xa])).run Try.prog W = .ok (.bool true) W := fun W => by simp [go_sem]
        clear ho5 hc5 hm5 hdis5 ho6 hp HVT hm5'
        go_wp2_with fail
        go_quiet (fail)
        go_wp2
        go_ret
        exact ⟨rfl, FIN.out.os, FIN.out.tape, FIN.out.output, FIN.out.size, FIN.out.block⟩
end Go.Proofs.Ytjlapnnmdfdjdaa
