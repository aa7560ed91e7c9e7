/- What is told is in order, and of each timer just what was to come. -/
import Derived.Test.YtjlapnnmdfdjdaaC23
namespace Go.Proofs.Ytjlapnnmdfdjdaa
open Go.RowKit
theorem cnt_take {T : Int} {L : List Tm} {j : Nat} (h : j < L.length) : cnt T (L.take (j + 1)) = cnt T (L.take j) + cnt1 T L[j]! := by
  unfold cnt
  rw [List.take_succ_eq_append_getElem h, List.map_append, List.sum_append, getElem!_pos L j h]
  simp
theorem cnt_take_le {T : Int} {L : List Tm} (j : Nat) : cnt T (L.take j) ≤ cnt T L := by
  have e : cnt T L = cnt T (L.take j) + cnt T (L.drop j) := by
    conv => lhs; rw [← List.take_append_drop j L]
    unfold cnt
    rw [List.map_append, List.sum_append]
  omega
theorem seenN_zero (l : List (Int × Int)) (k : Int) : seenN l k 0 = 0 := by simp [seenN]
theorem seenN_le (l : List (Int × Int)) (k : Int) (i : Nat) : seenN l k i ≤ l.length := by
  unfold seenN
  refine Nat.le_trans (List.length_filter_le _ _) ?_
  rw [List.length_take]
  omega
theorem adv_rng {c : Clk} {t : Int} (e : (c.adv t).2.2 = 0) : 0 ≤ t ∧ t ≤ 1099511627776 - c.now := by
  apply Classical.byContradiction
  intro h
  unfold Clk.adv at e
  rw [if_pos (by omega)] at e
  cases e
set_option maxRecDepth 100000 in
set_option maxHeartbeats 4000000 in
theorem law_each (xs : List CallR) (V : Option Addr) (d0 : Nat) (t : Int) (w : World) (hx : RowsIn w V 3 CallR.cells xs) (hl : xs.length ≤ 8796093022208) :
    Calls Try.prog 4 #[.slice V xs.length d0, .int .i64 t] w fun e w' => e = .returned (.bool true) ∧ Below w.heap.size w w' := by
  have HW := Lib.hid (works_c w)
  have HX := Lib.hid hx
  clear hx
  go_enter Try.func4, Try.ntmps4
  go_wp2_with fail
  go_at_call 8
  refine HW.out.mono ?_
  rintro e w1 ⟨rfl, hb1⟩
  have HP := Lib.hid (played_c d0 (HX.out.keep hb1) hl)
  have HB1 := Lib.hid hb1
  clear hb1 HW
  go_wp2_with fail
  go_at_call 9
  refine HP.out.mono ?_
  rintro e w2 ⟨B, s, rfl, hc2, hb2, hB2⟩
  have hfin := playF_fine hl
  have hlast := (playF_ok xs).2
  obtain ⟨c, hcc⟩ : ∃ c, c = playF xs := ⟨_, rfl⟩
  rw [← hcc] at hc2 hfin hlast
  have HC2 := Lib.hid hc2
  have HF := Lib.hid hfin
  have HBL : Hid (Below w.heap.size w w2) := Lib.hid (HB1.out.trans (hb2.mono HB1.out.size))
  have hBw : w.heap.size ≤ B := by have := HB1.out.size; omega
  have HLS : Hid (c.last ≤ 8796093022208) := Lib.hid (by omega)
  clear hb2 hcc HP hB2 HB1 hlast
  have HPD := Lib.hid (pending_c hc2 hfin)
  clear hc2 hfin
  go_wp2_with fail
  go_at_call 16
  refine HPD.out.mono ?_
  rintro e w3 ⟨v6, rfl, ho6, hb3⟩
  obtain ⟨hc3, hk3⟩ := HC2.out.moves (Moves.of_new [] hb3) (by simp)
  have hot6 : OutAt w2.heap.size s w3 v6 := OutAt.old HC2.out (Nat.le_refl _) ho6 hk3
  have HC3 := Lib.hid hc3
  have HO6 := Lib.hid ho6
  have HT6 := Lib.hid hot6
  have HBL3 : Hid (Below w.heap.size w w3) := Lib.hid (HBL.out.trans (hb3.mono HBL.out.size))
  have HN3 := Lib.hid (now_c hc3)
  have HV := Lib.hid (adv_c hc3 HF.out t)
  obtain ⟨X6, d6, rfl, _⟩ := own_rowS ho6
  clear ho6 hb3 hc3 hk3 hot6 HPD HBL HC2
  go_wp2_with (go_at_call 14; refine HN3.out.mono ?_; rintro e w4 ⟨rfl, rfl⟩)
  go_at_call 12
  refine HV.out.mono ?_
  rintro e w4 ⟨v8, rfl, ho8, hc4, hm4, hdis⟩
  obtain ⟨ho6, _⟩ := HT6.out.moves HO6.out hm4
  have HBL4 : Hid (Below w.heap.size w w4) := Lib.hid (HBL3.out.trans (hm4.below HC3.out hBw))
  have hn0 := HF.out.ok.now0
  have hn1 := HF.out.ok.now1
  by_cases he : (c.adv t).2.2 = 0
  · have hrg := adv_rng he
    obtain ⟨hok, hnw⟩ := HF.out.ok.adv_ok he
    have hf4 := HF.out.adv t
    obtain ⟨⟨c4, l, er⟩, hp⟩ : ∃ p, p = c.adv t := ⟨_, rfl⟩
    rw [← hp] at ho8 hc4 hok hnw hf4 he
    simp only at ho8 hc4 hok hnw hf4 he
    simp only [← hp]
    subst he
    obtain ⟨T, hT⟩ : ∃ T, T = c.now + t := ⟨_, rfl⟩
    have hN4 := now_c hc4
    rw [hnw, ← hT] at hN4
    obtain ⟨heach, horder, htotal, hfew, hrng⟩ := hok
    have hrt : ∀ x ∈ l, x.2 ≤ 1099511627776 := fun x hx => by have := hrng x hx; omega
    clear hrng
    rw [← hT] at heach htotal
    obtain ⟨X8, d8, rfl, _⟩ := own_rowS ho8
    have htt : c.now + t = T := hT.symm
    have hT1 : 0 ≤ T ∧ T ≤ 1099511627776 := by omega
    have hfit : ∀ x ∈ c.L, c.now ≤ x.a ∧ x.a ≤ 1099511627776 ∧ 0 ≤ x.e ∧ x.e ≤ 1099511627776 := HF.out.ok.fit.rng
    have hll := HF.out.ok.len
    have HEA := Lib.hid heach
    have HRT := Lib.hid hrt
    have HOR := Lib.hid horder
    have HTO := Lib.hid htotal
    have HFT := Lib.hid hfit
    have HN4 := Lib.hid hN4
    have HO6' := Lib.hid ho6
    have HO8 := Lib.hid ho8
    have hcn0 : 0 ≤ c.now := hn0
    obtain ⟨n0, hn0'⟩ : ∃ q, q = c.now := ⟨_, rfl⟩
    rw [← hn0'] at htt hn0 hn1
    simp only [← hn0']
    have HTN := Lib.hid hT
    clear hrt heach horder htotal hfit hN4 ho6 ho8 hc4 hm4 hdis hp hnw hf4 hT hn0' HV HN3
    go_wp2_with (go_at_call 14; refine HN4.out.mono ?_; rintro e w5 ⟨rfl, hw5⟩; subst w5)
    go_loopw [76, 11] (fun i tot wr => ∃ j q : Nat, i = .int .i64 j ∧ tot = .int .i64 q ∧ j ≤ c.L.length ∧ q = cnt T (c.L.take j) ∧ Below w4.heap.size w4 wr) (fun i _ _ => c.L.length - (intOf i).toNat)
    case atStart => exact ⟨0, 0, rfl, rfl, Nat.zero_le _, by simp [cnt], Below.refl _ _⟩
    case round =>
      obtain ⟨j, q, rfl, rfl, hj, hq, hb⟩ := hrel
      have HB := Lib.hid hb
      have HQ := Lib.hid hq
      have hq4 : q ≤ 4096 := by have := HTO.out; have := cnt_take_le (T := T) (L := c.L) j; omega
      clear hb hq
      obtain ⟨wl, rfl⟩ : ∃ wl : World, wl = wr := ⟨_, rfl⟩
      by_cases hlt : j < c.L.length
      · obtain ⟨g, cap', hv, _, _⟩ := HO6'.out.form (by omega : 0 < c.L.length)
        cases hv
        obtain ⟨q1, q2, q3⟩ := own_tm HO6'.out hlt
        have hg : g < w4.heap.size := World.block_lt_of_cell? w4 _ q1
        rw [← HB.out.cell hg] at q1 q2 q3
        obtain ⟨x, hx⟩ : ∃ x, x = c.L[j]! := ⟨_, rfl⟩
        have hxm : x ∈ c.L := by rw [hx, getElem!_pos c.L j hlt]; exact List.getElem_mem hlt
        have htk := cnt_take (T := T) hlt
        have hxf := HFT.out x hxm
        have hea := HEA.out x hxm
        rw [← hx] at q1 q2 q3 htk
        obtain ⟨xn, xa, xe⟩ := x
        simp only at q1 q2 q3 hxf hea
        obtain ⟨N, hN⟩ : ∃ N, N = cnt1 T ⟨xn, xa, xe⟩ := ⟨_, rfl⟩
        rw [← hN] at htk hea
        have hj0 : (0 : Int) ≤ (j : Int) := by omega
        have hj1 : (j : Int) < (c.L.length : Int) := by omega
        obtain ⟨nb, hnb⟩ : ∃ nb, nb = wl.heap.size := ⟨_, rfl⟩
        obtain ⟨W1, hW1⟩ : ∃ W1, W1 = wl.alloc (.cells #[.int .i64 xn, .int .i64 xa, .int .i64 xe] 39) := ⟨_, rfl⟩
        have hbW : Below w4.heap.size w4 W1 := by rw [hW1]; exact HB.out.alloc HB.out.size _
        have k0 : W1.cell? ⟨nb, 0, none⟩ = some (.int .i64 xn) := by rw [hW1, hnb]; exact cell_new _ _ _ _
        have k1 : W1.cell? ⟨nb, 1, none⟩ = some (.int .i64 xa) := by rw [hW1, hnb]; exact cell_new _ _ _ _
        have k2 : W1.cell? ⟨nb, 2, none⟩ = some (.int .i64 xe) := by rw [hW1, hnb]; exact cell_new _ _ _ _
        have hnl : nb < W1.heap.size := by rw [hW1, al_size, hnb]; omega
        have HW1 := Lib.hid hW1
        have HNB := Lib.hid hnb
        have HBW := Lib.hid hbW
        have HTK := Lib.hid htk
        have HEX := Lib.hid hea
        have HN := Lib.hid hN
        have K0 := Lib.hid k0
        have K2 := Lib.hid k2
        obtain ⟨hx0, hx1, hx2, hx3⟩ := hxf
        have hNl : N ≤ 4096 := by have := HTO.out; have := cnt_take_le (T := T) (L := c.L) (j + 1); have := HTK.out; omega
        clear hx htk hea hN hg hxm hW1 hnb hbW
        go_upto_if 83 with (fail)
        rw [← HW1.out, ← HNB.out]
        go_cut [14] (fun s14 w' => s14 = .int .i64 (N : Int) ∧ w' = W1)
        case first =>
          by_cases hc1 : xa ≤ T
          · by_cases hc2 : 0 < xe
            · have hN3 : (N : Int) = 1 + (T - xa).tdiv xe := by
                rw [HN.out]
                unfold cnt1
                simp only
                rw [if_neg (by omega), if_neg (by omega), Int.tdiv_eq_ediv_of_nonneg (by omega)]
                have : 0 ≤ (T - xa) / xe := Int.ediv_nonneg (by omega) (by omega)
                omega
              have hq0 : 0 ≤ (T - xa).tdiv xe ∧ (T - xa).tdiv xe ≤ 4096 := ⟨Int.tdiv_nonneg (by omega) (by omega), by omega⟩
              obtain ⟨hq01, hq02⟩ := hq0
              have hne : (xe == 0) = false := by simp; omega
              have hne2 : xe ≠ 0 := by omega
              have hne3 : xe ≠ -1 := by omega
              go_wp2
              go_meet
              case rel => exact ⟨by rw [hN3], rfl⟩
            · have hN3 : N = 1 := by
                rw [HN.out]
                unfold cnt1
                simp only
                rw [if_neg (by omega), if_pos (by omega)]
              subst hN3
              go_wp2
              go_meet
              case rel => exact ⟨rfl, rfl⟩
          · have hN3 : N = 0 := by
              rw [HN.out]
              unfold cnt1
              simp only
              rw [if_pos (by omega)]
            subst hN3
            go_wp2
            go_meet
            case rel => exact ⟨rfl, rfl⟩
        case rest =>
          obtain ⟨rfl, hwc⟩ := hcut
          subst wc
          go_wp2_with fail
          go_quiet (fail)
          go_wp2
          go_loopw [100, 15, 16] (fun i k at_ wr => ∃ (j2 : Nat) (A : Int), i = .int .i64 j2 ∧ k = .int .i64 (seenN l xn j2 : Nat) ∧ at_ = .int .i64 A ∧ j2 ≤ l.length ∧ A = xa + (seenN l xn j2 : Nat) * xe ∧ (0 ≤ A ∧ A ≤ 2199023255552) ∧ Below W1.heap.size W1 wr) (fun i _ _ _ => l.length - (intOf i).toNat)
          case atStart => exact ⟨0, xa, rfl, by rw [seenN_zero]; rfl, rfl, Nat.zero_le _, by rw [seenN_zero]; simp, by omega, ⟨rfl, rfl, rfl, Nat.le_refl _, fun _ _ => rfl⟩⟩
          case round =>
            obtain ⟨j2, A, rfl, rfl, rfl, hj2, hA, hA1, hb⟩ := hrel
            have k0 : wr.cell? ⟨nb, 0, none⟩ = some (.int .i64 xn) := (hb.cell hnl).trans K0.out
            have k2 : wr.cell? ⟨nb, 2, none⟩ = some (.int .i64 xe) := (hb.cell hnl).trans K2.out
            have hnr : nb < wr.heap.size := World.block_lt_of_cell? wr _ k0
            have HB2 := Lib.hid hb
            have HA := Lib.hid hA
            clear hb hA
            by_cases hlt2 : j2 < l.length
            · obtain ⟨g8, cap8, hv8, _, _⟩ := HO8.out.form (by omega : 0 < l.length)
              cases hv8
              obtain ⟨p1, p2⟩ := frC_get hlt2
              replace p1 := HO8.out.cells (g := g8) rfl _ _ p1
              replace p2 := HO8.out.cells (g := g8) rfl _ _ p2
              rw [add_zero] at p1 p2
              have hg8 : g8 < w4.heap.size := World.block_lt_of_cell? w4 _ p1
              have hb48 : Below w4.heap.size w4 wr := HBW.out.trans (HB2.out.mono HBW.out.size)
              rw [← hb48.cell hg8] at p1 p2
              have hyr := HRT.out _ (List.getElem_mem hlt2)
              have hst := each_step (t := ⟨xn, xa, xe⟩) HEX.out hlt2
              have hss := seenN_succ (k := xn) hlt2
              simp only at hst
              obtain ⟨y, hy⟩ : ∃ y, y = l[j2] := ⟨_, rfl⟩
              rw [← hy] at p1 p2 hyr hst hss
              obtain ⟨yn, ya⟩ := y
              simp only at p1 p2 hyr hst hss
              have hj20 : (0 : Int) ≤ (j2 : Int) := by omega
              have hj21 : (j2 : Int) < (l.length : Int) := by omega
              have HB3 : Hid (Below W1.heap.size W1 (wr.alloc (.cells #[.int .i64 yn, .int .i64 ya] 41))) := Lib.hid (HB2.out.alloc HB2.out.size _)
              have hsl := seenN_le l xn j2
              clear hy hb48 hg8
              by_cases hye : yn = xn
              · have hyA : ya = A := by rw [HA.out]; exact hst hye
                have hA2 : A + xe = xa + (seenN l xn (j2 + 1) : Nat) * xe := by
                  rw [hss, if_pos hye, HA.out, show ((seenN l xn j2 + 1 : Nat) : Int) = (seenN l xn j2 : Nat) + 1 by omega, Int.add_mul, Int.one_mul]
                  omega
                rw [if_pos hye] at hss
                subst hye
                subst hyA
                have HSS := Lib.hid hss
                have HA2 := Lib.hid hA2
                clear hst hss hA2
                go_wp2
                go_roundw
                case rel => exact ⟨j2 + 1, ya + xe, by go_num, by rw [HSS.out]; go_num, by go_num, by omega, HA2.out, by omega, HB3.out⟩
                case measure => simp [intOf]; omega
              · rw [if_neg hye] at hss
                have hyb : (yn == xn) = false := by simpa using hye
                have HSS := Lib.hid hss
                clear hst hss
                go_wp2
                go_roundw
                case rel => exact ⟨j2 + 1, A, by go_num, by rw [HSS.out], rfl, by omega, by rw [HSS.out]; exact HA.out, hA1, HB3.out⟩
                case measure => simp [intOf]; omega
            · have hge : ¬ (j2 : Int) < (l.length : Int) := by omega
              obtain rfl : j2 = l.length := by omega
              have hall := each_all (t := ⟨xn, xa, xe⟩) HEX.out
              simp only at hall
              rw [hall]
              have FIN : Hid (Below w4.heap.size w4 wr) := Lib.hid (HBW.out.trans (HB2.out.mono HBW.out.size))
              clear hall
              go_wp2
              go_roundw
              case rel => exact ⟨j + 1, q + N, by go_num, by go_num, by omega, by rw [HTK.out, ← HQ.out], FIN.out⟩
              case measure => simp [intOf]; omega
      · have hge : ¬ (j : Int) < (c.L.length : Int) := by omega
        obtain rfl : j = c.L.length := by omega
        have hqt : q = l.length := by
          have := HQ.out
          rw [List.take_length] at this
          rw [this, HTO.out]
        subst hqt
        have HBE := Lib.hid HB.out
        clear HQ HB hq4
        go_wp2
        go_loopw [19] (fun i wr => ∃ (k : Nat), i = .int .i64 k ∧ 1 ≤ k ∧ (k ≤ l.length ∨ k = 1) ∧ ∃ m, wr = wl.drewN m) (fun i _ => l.length - (intOf i).toNat)
        case atStart => exact ⟨1, rfl, Nat.le_refl _, .inr rfl, 0, rfl⟩
        case round =>
          obtain ⟨k, rfl, hk1, hk2, m, rfl⟩ := hrel
          by_cases hlt : k < l.length
          · obtain ⟨g8, cap8, hv8, _, _⟩ := HO8.out.form (by omega : 0 < l.length)
            cases hv8
            obtain ⟨k', hkk⟩ : ∃ k', k = k' + 1 := ⟨k - 1, by omega⟩
            obtain ⟨p1, p2⟩ := frC_get hlt
            obtain ⟨p3, p4⟩ := frC_get (show k' < l.length by omega)
            replace p1 := HO8.out.cells (g := g8) rfl _ _ p1
            replace p2 := HO8.out.cells (g := g8) rfl _ _ p2
            replace p3 := HO8.out.cells (g := g8) rfl _ _ p3
            replace p4 := HO8.out.cells (g := g8) rfl _ _ p4
            rw [add_zero] at p1 p2 p3 p4
            have hg8 : g8 < w4.heap.size := World.block_lt_of_cell? w4 _ p1
            rw [← HBE.out.cell hg8] at p1 p2 p3 p4
            have hor := (List.pairwise_iff_getElem.1 HOR.out) k' k (by omega) hlt (by omega)
            obtain ⟨y, hy⟩ : ∃ y, y = l[k] := ⟨_, rfl⟩
            obtain ⟨x, hx⟩ : ∃ x, x = l[k'] := ⟨_, rfl⟩
            rw [← hy] at p1 p2 hor
            rw [← hx] at p3 p4 hor
            obtain ⟨yn, ya⟩ := y
            obtain ⟨xn, xa⟩ := x
            simp only at p1 p2 p3 p4 hor
            have he1 : (k : Int) - 1 = (k' : Int) := by omega
            have hj0 : (0 : Int) ≤ (k' : Int) := by omega
            have hj1 : (k' : Int) < (l.length : Int) := by omega
            have hj2 : (k : Int) < (l.length : Int) := by omega
            have hj3 : (0 : Int) ≤ (k : Int) := by omega
            have hwr : IntKind.i64.wrap (k' : Int) = (k' : Int) := by simp [IntKind.wrap, IntKind.bits, IntKind.signed]; omega
            have hj4 : ¬ ya < xa := by omega
            have hj5 : decide (ya < xa) = false := by simpa using hj4
            clear hx hy hg8 hkk
            by_cases hab : xa = ya
            · have hab2 : (xa == ya) = true := by simpa using hab
              have hnn : ¬ yn ≤ xn := by omega
              clear hab hor
              go_wp2_with fail
              go_quiet (fail)
              go_wp2
              go_roundw
              case rel => exact ⟨k + 1, by go_num, by omega, by omega, _, rfl⟩
              case measure => simp [intOf]; omega
            · have hab2 : (xa == ya) = false := by simpa using hab
              clear hab hor
              go_wp2_with fail
              -- begin pairs
              refine wp_region_held_drew (S := (fun w' => w'.cell? ⟨g8, k * 2, none⟩ = some (.int .i64 yn) ∧ w'.cell? ⟨g8, k * 2 + 1, none⟩ = some (.int .i64 ya) ∧ w'.cell? ⟨g8, k' * 2, none⟩ = some (.int .i64 xn) ∧ w'.cell? ⟨g8, k' * 2 + 1, none⟩ = some (.int .i64 xa))) (by kernel_rfl) ?nxs (fun hHeld => ?nxr)
              case nxs => exact ⟨p1, p2, p3, p4⟩
              refine take_at (i := 0) (d := 133) (v := ?nxv0) rfl (by rfl) (by kernel_rfl) (by kernel_rfl) (by kernel_rfl) (fun _ _ _ h => h) (Or.inl ⟨by rfl, ?nxy0⟩) (by assumption) ?nxr0
              case nxy0 => intro w' hSw; obtain ⟨q1, q2, q3, q4⟩ := hSw; go_simp; (try with_reducible rfl)
              case' nxr0 => simp only [Act.put, List.setIfInBounds_toArray, List.set_cons_zero, List.set_cons_succ]
              refine take_at (i := 1) (d := 134) (v := ?nxv1) rfl (by rfl) (by kernel_rfl) (by kernel_rfl) (by kernel_rfl) (fun _ _ _ h => h) (Or.inl ⟨by rfl, ?nxy1⟩) (by assumption) ?nxr1
              case nxy1 => intro w' hSw; obtain ⟨q1, q2, q3, q4⟩ := hSw; go_simp; (try with_reducible rfl)
              case' nxr1 => simp only [Act.put, List.setIfInBounds_toArray, List.set_cons_zero, List.set_cons_succ]
              refine take_at (i := 2) (d := 135) (v := ?nxv2) rfl (by rfl) (by kernel_rfl) (by kernel_rfl) (by kernel_rfl) (fun _ _ _ h => h) (Or.inl ⟨by rfl, ?nxy2⟩) (by assumption) ?nxr2
              case nxy2 => intro w' hSw; obtain ⟨q1, q2, q3, q4⟩ := hSw; go_simp; (try with_reducible rfl)
              case' nxr2 => simp only [Act.put, List.setIfInBounds_toArray, List.set_cons_zero, List.set_cons_succ]
              refine take_at (i := 3) (d := 136) (v := ?nxv3) rfl (by rfl) (by kernel_rfl) (by kernel_rfl) (by kernel_rfl) (fun _ _ _ h => h) (Or.inl ⟨by rfl, ?nxy3⟩) (by assumption) ?nxr3
              case nxy3 => intro w' hSw; obtain ⟨q1, q2, q3, q4⟩ := hSw; go_simp; (try with_reducible rfl)
              case' nxr3 => simp only [Act.put, List.setIfInBounds_toArray, List.set_cons_zero, List.set_cons_succ]
              refine take_at (i := 4) (d := 137) (v := ?nxv4) rfl (by rfl) (by kernel_rfl) (by kernel_rfl) (by kernel_rfl) (fun _ _ _ h => h) (Or.inl ⟨by rfl, ?nxy4⟩) (by assumption) ?nxr4
              case nxy4 => intro w' hSw; obtain ⟨q1, q2, q3, q4⟩ := hSw; go_simp; (try with_reducible rfl)
              case' nxr4 => simp only [Act.put, List.setIfInBounds_toArray, List.set_cons_zero, List.set_cons_succ]
              refine take_at (i := 5) (d := 138) (v := ?nxv5) rfl (by rfl) (by kernel_rfl) (by kernel_rfl) (by kernel_rfl) (fun _ _ _ h => h) (Or.inl ⟨by rfl, ?nxy5⟩) (by assumption) ?nxr5
              case nxy5 => intro w' hSw; obtain ⟨q1, q2, q3, q4⟩ := hSw; go_simp; (try with_reducible rfl)
              case' nxr5 => simp only [Act.put, List.setIfInBounds_toArray, List.set_cons_zero, List.set_cons_succ]
              refine take_at (i := 6) (d := 139) (v := ?nxv6) rfl (by rfl) (by kernel_rfl) (by kernel_rfl) (by kernel_rfl) (fun _ _ _ h => h) (Or.inl ⟨by rfl, ?nxy6⟩) (by assumption) ?nxr6
              case nxy6 => intro w' hSw; obtain ⟨q1, q2, q3, q4⟩ := hSw; go_simp; (try with_reducible rfl)
              case' nxr6 => simp only [Act.put, List.setIfInBounds_toArray, List.set_cons_zero, List.set_cons_succ]
              refine take_at (i := 7) (d := 140) (v := ?nxv7) rfl (by rfl) (by kernel_rfl) (by kernel_rfl) (by kernel_rfl) (fun _ _ _ h => h) (Or.inl ⟨by rfl, ?nxy7⟩) (by assumption) ?nxr7
              case nxy7 => intro w' hSw; obtain ⟨q1, q2, q3, q4⟩ := hSw; go_simp; (try with_reducible rfl)
              case' nxr7 => simp only [Act.put, List.setIfInBounds_toArray, List.set_cons_zero, List.set_cons_succ]
              refine take_at (i := 8) (d := 141) (v := ?nxv8) rfl (by rfl) (by kernel_rfl) (by kernel_rfl) (by kernel_rfl) (fun _ _ _ h => h) (Or.inl ⟨by rfl, ?nxy8⟩) (by assumption) ?nxr8
              case nxy8 => intro w' hSw; obtain ⟨q1, q2, q3, q4⟩ := hSw; go_simp; (try with_reducible rfl)
              case' nxr8 => simp only [Act.put, List.setIfInBounds_toArray, List.set_cons_zero, List.set_cons_succ]
              refine take_at (i := 9) (d := 142) (v := ?nxv9) rfl (by rfl) (by kernel_rfl) (by kernel_rfl) (by kernel_rfl) (fun _ _ _ h => h) (Or.inl ⟨by rfl, ?nxy9⟩) (by assumption) ?nxr9
              case nxy9 => intro w' hSw; obtain ⟨q1, q2, q3, q4⟩ := hSw; go_simp; (try with_reducible rfl)
              case' nxr9 => simp only [Act.put, List.setIfInBounds_toArray, List.set_cons_zero, List.set_cons_succ]
              refine take_at (i := 10) (d := 143) (v := ?nxv10) rfl (by rfl) (by kernel_rfl) (by kernel_rfl) (by kernel_rfl) (fun _ _ _ h => h) (Or.inl ⟨by rfl, ?nxy10⟩) (by assumption) ?nxr10
              case nxy10 => intro w' hSw; obtain ⟨q1, q2, q3, q4⟩ := hSw; go_simp; (try with_reducible rfl)
              case' nxr10 => simp only [Act.put, List.setIfInBounds_toArray, List.set_cons_zero, List.set_cons_succ]
              refine take_at (i := 11) (d := 144) (v := ?nxv11) rfl (by rfl) (by kernel_rfl) (by kernel_rfl) (by kernel_rfl) (fun _ _ _ h => h) (Or.inl ⟨by rfl, ?nxy11⟩) (by assumption) ?nxr11
              case nxy11 => intro w' hSw; obtain ⟨q1, q2, q3, q4⟩ := hSw; go_simp; (try with_reducible rfl)
              case' nxr11 => (simp only [Act.put, List.setIfInBounds_toArray, List.set_cons_zero, List.set_cons_succ]; try simp only [hj5])
              refine take_at (i := 12) (d := 145) (v := ?nxv12) rfl (by rfl) (by kernel_rfl) (by kernel_rfl) (by kernel_rfl) (fun _ _ _ h => h) (Or.inl ⟨by rfl, ?nxy12⟩) (by assumption) ?nxr12
              case nxy12 => intro w' hSw; obtain ⟨q1, q2, q3, q4⟩ := hSw; go_simp; (try with_reducible rfl)
              case' nxr12 => simp only [Act.put, List.setIfInBounds_toArray, List.set_cons_zero, List.set_cons_succ]
              refine take_at (i := 13) (d := 146) (v := ?nxv13) rfl (by rfl) (by kernel_rfl) (by kernel_rfl) (by kernel_rfl) (fun _ _ _ h => h) (Or.inl ⟨by rfl, ?nxy13⟩) (by assumption) ?nxr13
              case nxy13 => intro w' hSw; obtain ⟨q1, q2, q3, q4⟩ := hSw; go_simp; (try with_reducible rfl)
              case' nxr13 => simp only [Act.put, List.setIfInBounds_toArray, List.set_cons_zero, List.set_cons_succ]
              refine take_at (i := 14) (d := 147) (v := ?nxv14) rfl (by rfl) (by kernel_rfl) (by kernel_rfl) (by kernel_rfl) (fun _ _ _ h => h) (Or.inl ⟨by rfl, ?nxy14⟩) (by assumption) ?nxr14
              case nxy14 => intro w' hSw; obtain ⟨q1, q2, q3, q4⟩ := hSw; go_simp; (try with_reducible rfl)
              case' nxr14 => simp only [Act.put, List.setIfInBounds_toArray, List.set_cons_zero, List.set_cons_succ]
              refine take_at (i := 15) (d := 148) (v := ?nxv15) rfl (by rfl) (by kernel_rfl) (by kernel_rfl) (by kernel_rfl) (fun _ _ _ h => h) (Or.inl ⟨by rfl, ?nxy15⟩) (by assumption) ?nxr15
              case nxy15 => intro w' hSw; obtain ⟨q1, q2, q3, q4⟩ := hSw; go_simp; (try with_reducible rfl)
              case' nxr15 => simp only [Act.put, List.setIfInBounds_toArray, List.set_cons_zero, List.set_cons_succ]
              refine take_at (i := 16) (d := 149) (v := ?nxv16) rfl (by rfl) (by kernel_rfl) (by kernel_rfl) (by kernel_rfl) (fun _ _ _ h => h) (Or.inl ⟨by rfl, ?nxy16⟩) (by assumption) ?nxr16
              case nxy16 => intro w' hSw; obtain ⟨q1, q2, q3, q4⟩ := hSw; go_simp; (try with_reducible rfl)
              case' nxr16 => simp only [Act.put, List.setIfInBounds_toArray, List.set_cons_zero, List.set_cons_succ]
              refine take_at (i := 17) (d := 150) (v := ?nxv17) rfl (by rfl) (by kernel_rfl) (by kernel_rfl) (by kernel_rfl) (fun _ _ _ h => h) (Or.inl ⟨by rfl, ?nxy17⟩) (by assumption) ?nxr17
              case nxy17 => intro w' hSw; obtain ⟨q1, q2, q3, q4⟩ := hSw; go_simp; (try with_reducible rfl)
              case' nxr17 => simp only [Act.put, List.setIfInBounds_toArray, List.set_cons_zero, List.set_cons_succ]
              refine take_at (i := 18) (d := 151) (v := ?nxv18) rfl (by rfl) (by kernel_rfl) (by kernel_rfl) (by kernel_rfl) (fun _ _ _ h => h) (Or.inl ⟨by rfl, ?nxy18⟩) (by assumption) ?nxr18
              case nxy18 => intro w' hSw; obtain ⟨q1, q2, q3, q4⟩ := hSw; go_simp; (try with_reducible rfl)
              case' nxr18 => simp only [Act.put, List.setIfInBounds_toArray, List.set_cons_zero, List.set_cons_succ]
              refine take_at (i := 19) (d := 152) (v := ?nxv19) rfl (by rfl) (by kernel_rfl) (by kernel_rfl) (by kernel_rfl) (fun _ _ _ h => h) (Or.inl ⟨by rfl, ?nxy19⟩) (by assumption) ?nxr19
              case nxy19 => intro w' hSw; obtain ⟨q1, q2, q3, q4⟩ := hSw; go_simp; (try with_reducible rfl)
              case' nxr19 => simp only [Act.put, List.setIfInBounds_toArray, List.set_cons_zero, List.set_cons_succ]
              refine take_at (i := 20) (d := 153) (v := ?nxv20) rfl (by rfl) (by kernel_rfl) (by kernel_rfl) (by kernel_rfl) (fun _ _ _ h => h) (Or.inl ⟨by rfl, ?nxy20⟩) (by assumption) ?nxr20
              case nxy20 => intro w' hSw; obtain ⟨q1, q2, q3, q4⟩ := hSw; go_simp; (try with_reducible rfl)
              case' nxr20 => simp only [Act.put, List.setIfInBounds_toArray, List.set_cons_zero, List.set_cons_succ]
              refine take_at (i := 21) (d := 154) (v := ?nxv21) rfl (by rfl) (by kernel_rfl) (by kernel_rfl) (by kernel_rfl) (fun _ _ _ h => h) (Or.inl ⟨by rfl, ?nxy21⟩) (by assumption) ?nxr21
              case nxy21 => intro w' hSw; obtain ⟨q1, q2, q3, q4⟩ := hSw; go_simp; (try with_reducible rfl)
              case' nxr21 => simp only [Act.put, List.setIfInBounds_toArray, List.set_cons_zero, List.set_cons_succ]
              refine take_at (i := 22) (d := 155) (v := ?nxv22) rfl (by rfl) (by kernel_rfl) (by kernel_rfl) (by kernel_rfl) (fun _ _ _ h => h) (Or.inl ⟨by rfl, ?nxy22⟩) (by assumption) ?nxr22
              case nxy22 => intro w' hSw; obtain ⟨q1, q2, q3, q4⟩ := hSw; go_simp; (try with_reducible rfl)
              case' nxr22 => simp only [Act.put, List.setIfInBounds_toArray, List.set_cons_zero, List.set_cons_succ]
              refine take_at (i := 23) (d := 156) (v := ?nxv23) rfl (by rfl) (by kernel_rfl) (by kernel_rfl) (by kernel_rfl) (fun _ _ _ h => h) (Or.inl ⟨by rfl, ?nxy23⟩) (by assumption) ?nxr23
              case nxy23 => intro w' hSw; obtain ⟨q1, q2, q3, q4⟩ := hSw; go_simp; (try with_reducible rfl)
              case' nxr23 => simp only [Act.put, List.setIfInBounds_toArray, List.set_cons_zero, List.set_cons_succ]
              refine take_at (i := 24) (d := 157) (v := ?nxv24) rfl (by rfl) (by kernel_rfl) (by kernel_rfl) (by kernel_rfl) (fun _ _ _ h => h) (Or.inl ⟨by rfl, ?nxy24⟩) (by assumption) ?nxr24
              case nxy24 => intro w' hSw; obtain ⟨q1, q2, q3, q4⟩ := hSw; go_simp; (try with_reducible rfl)
              case' nxr24 => (simp only [Act.put, List.setIfInBounds_toArray, List.set_cons_zero, List.set_cons_succ]; try simp only [hab2])
              refine take_at (i := 25) (d := 158) (v := ?nxv25) rfl (by rfl) (by kernel_rfl) (by kernel_rfl) (by kernel_rfl) (fun _ _ _ h => h) (Or.inl ⟨by rfl, ?nxy25⟩) (by assumption) ?nxr25
              case nxy25 => intro w' hSw; obtain ⟨q1, q2, q3, q4⟩ := hSw; go_simp; (try with_reducible rfl)
              case' nxr25 => simp only [Act.put, List.setIfInBounds_toArray, List.set_cons_zero, List.set_cons_succ]
              refine pass_at (i := 26) (d := 159) rfl (by rfl) (by kernel_rfl) (by kernel_rfl) (by kernel_rfl) (fun _ _ _ h => h) (by rfl) (by assumption) ?nxr26
              case' nxr26 => simp only [Act.put, List.setIfInBounds_toArray, List.set_cons_zero, List.set_cons_succ]
              refine pass_at (i := 27) (d := 160) rfl (by rfl) (by kernel_rfl) (by kernel_rfl) (by kernel_rfl) (fun _ _ _ h => h) (by rfl) (by assumption) ?nxr27
              case' nxr27 => simp only [Act.put, List.setIfInBounds_toArray, List.set_cons_zero, List.set_cons_succ]
              refine pass_at (i := 28) (d := 161) rfl (by rfl) (by kernel_rfl) (by kernel_rfl) (by kernel_rfl) (fun _ _ _ h => h) (by rfl) (by assumption) ?nxr28
              case' nxr28 => simp only [Act.put, List.setIfInBounds_toArray, List.set_cons_zero, List.set_cons_succ]
              refine pass_at (i := 29) (d := 162) rfl (by rfl) (by kernel_rfl) (by kernel_rfl) (by kernel_rfl) (fun _ _ _ h => h) (by rfl) (by assumption) ?nxr29
              case' nxr29 => simp only [Act.put, List.setIfInBounds_toArray, List.set_cons_zero, List.set_cons_succ]
              refine pass_at (i := 30) (d := 163) rfl (by rfl) (by kernel_rfl) (by kernel_rfl) (by kernel_rfl) (fun _ _ _ h => h) (by rfl) (by assumption) ?nxr30
              case' nxr30 => simp only [Act.put, List.setIfInBounds_toArray, List.set_cons_zero, List.set_cons_succ]
              refine pass_at (i := 31) (d := 164) rfl (by rfl) (by kernel_rfl) (by kernel_rfl) (by kernel_rfl) (fun _ _ _ h => h) (by rfl) (by assumption) ?nxr31
              case' nxr31 => simp only [Act.put, List.setIfInBounds_toArray, List.set_cons_zero, List.set_cons_succ]
              refine pass_at (i := 32) (d := 165) rfl (by rfl) (by kernel_rfl) (by kernel_rfl) (by kernel_rfl) (fun _ _ _ h => h) (by rfl) (by assumption) ?nxr32
              case' nxr32 => simp only [Act.put, List.setIfInBounds_toArray, List.set_cons_zero, List.set_cons_succ]
              refine pass_at (i := 33) (d := 166) rfl (by rfl) (by kernel_rfl) (by kernel_rfl) (by kernel_rfl) (fun _ _ _ h => h) (by rfl) (by assumption) ?nxr33
              case' nxr33 => simp only [Act.put, List.setIfInBounds_toArray, List.set_cons_zero, List.set_cons_succ]
              refine pass_at (i := 34) (d := 167) rfl (by rfl) (by kernel_rfl) (by kernel_rfl) (by kernel_rfl) (fun _ _ _ h => h) (by rfl) (by assumption) ?nxr34
              case' nxr34 => simp only [Act.put, List.setIfInBounds_toArray, List.set_cons_zero, List.set_cons_succ]
              refine pass_at (i := 35) (d := 168) rfl (by rfl) (by kernel_rfl) (by kernel_rfl) (by kernel_rfl) (fun _ _ _ h => h) (by rfl) (by assumption) ?nxr35
              case' nxr35 => simp only [Act.put, List.setIfInBounds_toArray, List.set_cons_zero, List.set_cons_succ]
              refine pass_at (i := 36) (d := 169) rfl (by rfl) (by kernel_rfl) (by kernel_rfl) (by kernel_rfl) (fun _ _ _ h => h) (by rfl) (by assumption) ?nxr36
              case' nxr36 => simp only [Act.put, List.setIfInBounds_toArray, List.set_cons_zero, List.set_cons_succ]
              refine pass_at (i := 37) (d := 170) rfl (by rfl) (by kernel_rfl) (by kernel_rfl) (by kernel_rfl) (fun _ _ _ h => h) (by rfl) (by assumption) ?nxr37
              case' nxr37 => simp only [Act.put, List.setIfInBounds_toArray, List.set_cons_zero, List.set_cons_succ]
              refine take_at (i := 38) (d := 171) (v := ?nxv38) rfl (by rfl) (by kernel_rfl) (by kernel_rfl) (by kernel_rfl) (fun _ _ _ h => h) (Or.inl ⟨by rfl, ?nxy38⟩) (by assumption) ?nxr38
              case nxy38 => intro w' hSw; obtain ⟨q1, q2, q3, q4⟩ := hSw; go_simp; (try with_reducible rfl)
              case' nxr38 => simp only [Act.put, List.setIfInBounds_toArray, List.set_cons_zero, List.set_cons_succ]
              refine take_at (i := 39) (d := 172) (v := ?nxv39) rfl (by rfl) (by kernel_rfl) (by kernel_rfl) (by kernel_rfl) (fun _ _ _ h => h) (Or.inl ⟨by rfl, ?nxy39⟩) (by assumption) ?nxr39
              case nxy39 => intro w' hSw; obtain ⟨q1, q2, q3, q4⟩ := hSw; go_simp; (try with_reducible rfl)
              case' nxr39 => simp only [Act.put, List.setIfInBounds_toArray, List.set_cons_zero, List.set_cons_succ]
              refine wpAnyH_done (by kernel_rfl) ?nxz _
              -- end pairs
              clear hHeld
              go_wp2
              go_roundw
              case rel => exact ⟨k + 1, by go_num, by omega, by omega, _, rfl⟩
              case measure => simp [intOf]; omega
          · have hge : ¬ (k : Int) < (l.length : Int) := by omega
            have FIN : Hid (Below w.heap.size w (wl.drewN m)) := Lib.hid (by
              have := HBL4.out.trans (HBE.out.mono HBL4.out.size)
              exact ⟨this.os, this.tape, this.output, this.size, this.block⟩)
            go_wp2
            go_ret
            exact ⟨rfl, FIN.out⟩
  · obtain ⟨ha1, ha2, ha3⟩ := Clk.adv_no he
    obtain ⟨⟨c4, l, er⟩, hp⟩ : ∃ p, p = c.adv t := ⟨_, rfl⟩
    rw [← hp] at ho8 hc4 ha1 ha2 ha3 he
    simp only at ho8 hc4 ha1 ha2 ha3 he
    simp only [← hp]
    subst ha1 ha2
    obtain ⟨X8, d8, rfl, _⟩ := own_rowS ho8
    have HN4 := Lib.hid (now_c hc4)
    have HP4 := Lib.hid (pending_c hc4 HF.out)
    have HO6' := Lib.hid ho6
    have hll := HF.out.ok.len
    have HTM : Hid (∀ v9 w9, w9.ownsRow w4.heap.size 39 3 v9 c4.L.length (tmCells c4.L) → Below w4.heap.size w4 w9 → Calls Try.prog 15 #[v9, .slice X6 c4.L.length d6] w9 fun e w' => e = .returned (.bool true) ∧ Below w.heap.size w w') := Lib.hid fun v9 w9 h1 h2 => by
      have h3 := own_mv HO6'.out (Moves.of_new [] h2) (by simp)
      refine (timers_same (CellsAt.of_own h1) (CellsAt.of_own h3) (by omega)).mono ?_
      rintro e w' ⟨rfl, q, rfl⟩
      have hb := HBL4.out.trans (h2.mono HBL4.out.size)
      exact ⟨rfl, hb.os, hb.tape, hb.output, hb.size, hb.block⟩
    obtain ⟨n0, hn0'⟩ : ∃ q, q = c4.now := ⟨_, rfl⟩
    rw [← hn0'] at HN4 ha3 hn0 hn1
    simp only [← hn0']
    clear ho8 hc4 hm4 hdis hp ho6 hn0' HV HN3
    have h3 : t < 0 ∨ (¬ t < 0 ∧ 1099511627776 - n0 < t) ∨ (¬ t < 0 ∧ ¬ 1099511627776 - n0 < t ∧ er = 3) := by omega
    clear ha3
    rcases h3 with h1 | ⟨h1, h2⟩ | ⟨h1, h2, rfl⟩
    all_goals
      simp only [List.length_nil]
      go_wp2_with (first | (go_at_call 14; refine HN4.out.mono ?_; rintro e w5 ⟨rfl, rfl⟩) | (go_at_call 16; refine HP4.out.mono ?_; rintro e w9 ⟨v9, rfl, ho9, hb9⟩; have HTM9 := Lib.hid (HTM.out v9 w9 ho9 hb9); clear ho9 hb9) | (go_at_call 15; refine HTM9.out.mono ?_; rintro e w10 ⟨rfl, hb10⟩))
      go_ret
      exact ⟨rfl, hb10⟩
end Go.Proofs.Ytjlapnnmdfdjdaa
