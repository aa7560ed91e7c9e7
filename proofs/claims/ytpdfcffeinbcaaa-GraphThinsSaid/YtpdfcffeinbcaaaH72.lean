/- The law GraphThins. -/
import Derived.Test.YtpdfcffeinbcaaaH58
import Derived.Test.YtpdfcffeinbcaaaH61
import Derived.Test.YtpdfcffeinbcaaaH59
import Derived.Test.YtpdfcffeinbcaaaM3
import Derived.Test.YtpdfcffeinbcaaaH18
namespace Go.Proofs.Ytpdfcffeinbcaaa
open Go.RowKit
theorem lean_c (g : XG) (E : Option Addr) (d : Nat) (w : World) (h : GAt w E g) (hl : g.es.length ≤ 4611686018427387904) :
    Calls Try.prog 31 #[g.val E d] w (LeanPost g w) := by
  by_cases hok : ordE g = 0
  · exact lean_yes g E d w h hl hok
  · exact lean_no g E d w h hl hok
theorem wrap_pred (i q : Nat) (h : i = q + 1) (hi : i ≤ 4096) : IntKind.i64.wrap ((i : Int) - 1) = (q : Int) := by
  rw [IntKind.wrap_i64]
  omega
theorem rem_at (at_ : Int) (L : Nat) (h : 0 < L) (h2 : L ≤ 16384) : ∃ k : Nat, k < L ∧ wrap64 ((IntKind.u64.wrap at_).tmod (L : Int)) = (k : Int) := by
  have h0 := wrap_u64_nonneg at_
  rw [Int.tmod_eq_emod_of_nonneg h0]
  have h1 := Int.emod_nonneg (IntKind.u64.wrap at_) (show (L : Int) ≠ 0 by omega)
  have h3 := Int.emod_lt_of_pos (IntKind.u64.wrap at_) (show (0 : Int) < (L : Int) by omega)
  refine ⟨(IntKind.u64.wrap at_ % (L : Int)).toNat, by omega, ?_⟩
  rw [wrap64]
  omega
set_option maxHeartbeats 8000000 in
set_option maxRecDepth 100000 in
theorem thins_c (g : XG) (E : Option Addr) (d : Nat) (wts : List Int) (X : Option Addr) (c : Nat) (at_ : Int) (w : World) (h : GAt w E g) (hl : g.es.length ≤ 8796093022208) (hr : RowAt w X (I wts)) (hwl : wts.length ≤ 4611686018427387904) :
    Calls Try.prog 10 #[g.val E d, .slice X wts.length c, .int .i64 at_] w fun e w' => e = .returned (.bool true) ∧ Below w.heap.size w w' := by
  obtain ⟨m, hm⟩ : ∃ m, m = g.es.length := ⟨_, rfl⟩
  have hv : ∀ E d, g.val E d = .agg #[.int .i64 g.n, .slice E m d] := fun _ _ => by rw [hm]; rfl
  have hft := fun W h => fits_c g E d W h (by omega)
  have hlo := fun W h hr => glong2_c g E d wts X c W h (by omega) hr hwl
  have hle := fun W h => lean_c g E d W h (by omega)
  have hrc := fun x Y dY W h hr => greach_c g E d [x] Y dY W h (by omega) hr (by simp)
  have hed := fun a b W h => edge_c g E d a b W h (by omega)
  have hbx := box_at (w := w) (t := 24) g E d
  simp only [hv] at hft hlo hle hrc hed ⊢
  obtain ⟨wB, hwB⟩ : ∃ wB, wB = w.alloc (.cells #[.int .i64 g.n, .slice E m d] 24) := ⟨_, rfl⟩
  rw [← hm, ← hwB] at hbx
  have hG := h.below hbx.bel
  have hR := hr.below hbx.bel
  have hcell : ∀ W, Below wB.heap.size wB W → W.cell? ⟨w.heap.size, 0, none⟩ = some (.int .i64 g.n) ∧ W.cell? ⟨w.heap.size, 1, none⟩ = some (.slice E m d) ∧ GAt W E g ∧ RowAt W X (I wts) := fun W hb =>
    ⟨(hb.cell (p := ⟨w.heap.size, 0, none⟩) hbx.lt).trans hbx.c0, (hb.cell (p := ⟨w.heap.size, 1, none⟩) hbx.lt).trans (by rw [hbx.c1, hm]), hG.below hb, hR.below hb⟩
  obtain ⟨c0, c1, hg0, _⟩ := hcell wB (Below.refl _ _)
  have HFT := Lib.hid hft
  have HLO := Lib.hid hlo
  have HLE := Lib.hid hle
  have HRC := Lib.hid hrc
  have HED := Lib.hid hed
  have HM := Lib.hid hm
  have HCELL := Lib.hid hcell
  have HBW := Lib.hid hbx.bel
  have HLT := Lib.hid hbx.lt
  have HWB := Lib.hid hwB
  clear hft hlo hle hrc hed hm hv h hr hG hR hcell hg0 hbx hwB
  go_enter Try.func10, Try.ntmps10
  go_upto_region 1 with (fail)
  rw [← HWB.out]
  go_wp2_with fail
  go_at_call 41
  refine (works_c wB).mono ?_
  rintro e w1 ⟨rfl, hb1⟩
  obtain ⟨c0, c1, hg1, _⟩ := HCELL.out w1 hb1
  have HG1 := Lib.hid hg1
  have HB1 := Lib.hid hb1
  clear hg1 hb1
  go_wp2_with fail
  go_at_call 42
  refine (HFT.out w1 HG1.out).mono ?_
  rintro e w2 ⟨rfl, hb2⟩
  have hb2' := HB1.out.trans (hb2.mono HB1.out.size)
  obtain ⟨c0, c1, hg2, hr2⟩ := HCELL.out w2 hb2'
  have HG2 := Lib.hid hg2
  have HR2 := Lib.hid hr2
  have HB2 := Lib.hid hb2'
  clear hg2 hr2 hb2 hb2'
  obtain ⟨fb, hfb⟩ : ∃ fb, fb = fitsB g := ⟨_, rfl⟩
  rw [← hfb]
  have HFB := Lib.hid hfb
  clear hfb
  cases fb with
  | false =>
    have HE := Lib.hid (HBW.out.trans (HB2.out.mono (Nat.le_of_lt HLT.out)))
    go_wp2
    go_ret
    exact ⟨rfl, HE.out⟩
  | true =>
    obtain ⟨hn0, hn24, hm200, hchk⟩ : 0 ≤ g.n ∧ g.n ≤ 24 ∧ g.es.length ≤ 200 ∧ chkF g = 0 := by
      have := HFB.out.symm
      unfold fitsB at this
      exact of_decide_eq_true this
    have hgood := chkF_good.1 hchk
    obtain ⟨n, hn⟩ : ∃ n : Nat, g.n = n := ⟨g.n.toNat, by omega⟩
    have hnn : g.n.toNat = n := by omega
    have hn4 : n ≤ 24 := by omega
    rw [hn] at c0 HLO HLE HRC HED HCELL
    have HGOOD := Lib.hid hgood
    have HN := Lib.hid hn
    have HNN := Lib.hid hnn
    have HCHK := Lib.hid hchk
    have hm200' : m ≤ 200 := by have := HM.out; omega
    clear hgood hn hnn hn0 hn24 hm200 hchk HG1 HB1
    go_wp2_with fail
    go_at_call 29
    refine (HLO.out w2 HG2.out HR2.out).mono ?_
    rintro e w3 ⟨Z, dz, rfl, hz, hb3⟩
    obtain ⟨s, hs⟩ : ∃ s, s = lonSum g wts := ⟨_, rfl⟩
    obtain ⟨wy, hwy⟩ : ∃ wy, wy = lonWay g wts := ⟨_, rfl⟩
    obtain ⟨le, hle⟩ : ∃ le, le = lonE g wts := ⟨_, rfl⟩
    rw [← hs, ← hwy, ← hle]
    rw [← hwy] at hz
    have hb3' := HB2.out.trans (hb3.mono HB2.out.size)
    have HS := Lib.hid hs
    have HWY := Lib.hid hwy
    have HLE2 := Lib.hid hle
    have HZ := Lib.hid hz
    have HB3 := Lib.hid hb3'
    clear hs hwy hle hz hb3 hb3' c0 c1
    go_upto_if 34 with (fail)
    go_cut [10] (fun _ w' => Below wB.heap.size wB w')
    case first =>
      as_aux_lemma =>
        by_cases hz0 : le = 0
        · have hzb : (le == 0) = true := by simpa using hz0
          have hf := lon_facts (HLE2.out.symm.trans hz0)
          rw [← HS.out, ← HWY.out] at hf
          have hwn : wts.length = n := by rw [hf.len, HNN.out]
          have hbd : ∀ x, 0 ≤ wtF wts x ∧ wtF wts x ≤ 1099511627776 := fun x => by
            unfold wtF
            split
            · omega
            · simp only [List.getD]
              cases hx : wts[x.toNat]? with
              | none => simp
              | some y => exact hf.fine y (List.mem_of_getElem? hx)
          have HF := Lib.hid hf
          have HBD := Lib.hid hbd
          have HWN := Lib.hid hwn
          obtain ⟨_, _, hg3, hr3⟩ := HCELL.out w3 HB3.out
          have HR3 := Lib.hid hr3
          clear hz0 hf hbd hwn hg3 hr3
          go_wp2
          go_loop [10, 12] (fun a i => ∃ i' : Nat, i = .int .i64 i' ∧ i' ≤ wts.length ∧ a = .int .i64 (sumL (wtF wts) (nodes i'))) (fun _ i => wts.length - (intOf i).toNat)
          case atStart => exact ⟨0, rfl, by omega, rfl⟩
          case round =>
            obtain ⟨i, rfl, hi, rfl⟩ := hrel
            have hsb := sum_take HBD.out (nodes i)
            have hln : (nodes i).length = i := by simp [nodes]
            rw [hln] at hsb
            by_cases hlt : i < wts.length
            · have hi0 : (0 : Int) ≤ (i : Int) := by omega
              have hi1 : (i : Int) < (wts.length : Int) := by omega
              obtain ⟨b, off, rfl, hci⟩ := HR3.out.int hlt
              have hfx := HF.out.fine _ (List.getElem_mem hlt)
              have hex := HF.out.each _ (List.getElem_mem hlt)
              have hsn : sumL (wtF wts) (nodes (i + 1)) = sumL (wtF wts) (nodes i) + wts[i] := by rw [nodes_succ, sumL_snoc, wtF_get hlt]
              obtain ⟨x, hx⟩ : ∃ x, x = wts[i] := ⟨_, rfl⟩
              obtain ⟨q, hq⟩ : ∃ q, q = sumL (wtF wts) (nodes i) := ⟨_, rfl⟩
              rw [← hx] at hci hfx hex hsn
              rw [← hq] at hsb hsn ⊢
              have HSN := Lib.hid hsn
              have hq0 : 0 ≤ q := hsb.1
              have hq1 : q ≤ 1099511627776 * 24 := by have := hsb.2; have := HWN.out; omega
              have hx0 : 0 ≤ x := hfx.1
              have hx1 : x ≤ 1099511627776 := hfx.2
              have hnx : ¬ s < x := by omega
              clear hsb hsn hx hq hfx hex hln
              go_wp2
              go_round
              case rel => exact ⟨i + 1, by go_num, by omega, by rw [HSN.out]⟩
              case measure => simp [intOf]; omega
            · have hge : ¬ (i : Int) < (wts.length : Int) := by omega
              obtain rfl : i = wts.length := by omega
              have htot : sumL (wtF wts) (nodes wts.length) = sumL id wts := by rw [← sumL_wts wts wts.length (Nat.le_refl _), List.take_of_length_le (Nat.le_refl _)]
              rw [htot]
              have hmost := HF.out.most
              obtain ⟨tot, ht⟩ : ∃ tot, tot = sumL id wts := ⟨_, rfl⟩
              rw [← ht] at hmost ⊢
              have hst : s ≤ tot := hmost
              have hnt : ¬ tot < s := by omega
              have HST := Lib.hid hnt
              clear hsb hln htot ht hmost hst hnt
              go_wp2
              go_loopw [11, 13] (fun a i wr => ∃ i' : Nat, i = .int .i64 i' ∧ i' ≤ wy.length ∧ a = .int .i64 (sumL (wtF wts) (wy.take i')) ∧ Below w3.heap.size w3 wr) (fun _ i _ => wy.length - (intOf i).toNat)
              case atStart => exact ⟨0, rfl, by omega, rfl, Below.refl _ _⟩
              case round =>
                obtain ⟨i, rfl, hi, rfl, hbr⟩ := hrel
                have hbB := HB3.out.trans (hbr.mono HB3.out.size)
                have hsb := sum_take HBD.out (wy.take i)
                have hln : (wy.take i).length ≤ 24 := by rw [List.length_take]; have := HF.out.short; have := HNN.out; omega
                by_cases hlt : i < wy.length
                · have hi0 : (0 : Int) ≤ (i : Int) := by omega
                  have hi1 : (i : Int) < (wy.length : Int) := by omega
                  obtain ⟨c0, c1, hgr, hrX⟩ := HCELL.out wr hbB
                  obtain ⟨zb, zo, hZ, hci⟩ := (HZ.out.below hbr).int hlt
                  have hrg := HF.out.rng _ (List.getElem_mem hlt)
                  have hstep := fun (q : Nat) (h : i = q + 1) => HF.out.step q (by omega)
                  have hsn : sumL (wtF wts) (wy.take (i + 1)) = sumL (wtF wts) (wy.take i) + wtF wts wy[i] := by rw [List.take_succ_eq_append_getElem hlt, sumL_snoc]
                  have hfb := HBD.out wy[i]
                  obtain ⟨y, hy⟩ : ∃ y : Nat, wy[i] = (y : Int) := ⟨wy[i].toNat, by omega⟩
                  have hyn : y < n := by have := HN.out; omega
                  have hyw : y < wts.length := by have := HWN.out; omega
                  obtain ⟨xb, xo, hX, hcx⟩ := hrX.int hyw
                  rw [hy, wtF_get hyw] at hsn hfb
                  rw [hy] at hci
                  obtain ⟨x, hx⟩ : ∃ x, x = wts[y] := ⟨_, rfl⟩
                  obtain ⟨o, ho⟩ : ∃ o, o = sumL (wtF wts) (wy.take i) := ⟨_, rfl⟩
                  rw [← hx] at hcx hsn hfb
                  rw [← ho] at hsb hsn ⊢
                  have ho0 : 0 ≤ o := hsb.1
                  have ho1 : o ≤ 1099511627776 * 24 := by have := hsb.2; omega
                  have hx0 : 0 ≤ x := hfb.1
                  have hx1 : x ≤ 1099511627776 := hfb.2
                  have hy0 : (0 : Int) ≤ (y : Int) := by omega
                  have hy1 : (y : Int) < (wts.length : Int) := by omega
                  have hyl : ¬ (y : Int) < 0 := by omega
                  have hyg : ¬ (n : Int) ≤ (y : Int) := by omega
                  subst hZ
                  subst hX
                  have HSN := Lib.hid hsn
                  have hcell2 : ∀ W, Below wr.heap.size wr W → W.cell? ⟨zb, zo + i, none⟩ = some (.int .i64 (y : Int)) ∧ W.cell? ⟨xb, xo + y, none⟩ = some (.int .i64 x) := fun W hb => ⟨(hb.cell (p := ⟨zb, zo + i, none⟩) (World.block_lt_of_cell? wr _ hci)).trans hci, (hb.cell (p := ⟨xb, xo + y, none⟩) (World.block_lt_of_cell? wr _ hcx)).trans hcx⟩
                  have HC2 := Lib.hid hcell2
                  have HBR := Lib.hid hbr
                  have HGR := Lib.hid hgr
                  have hlN : wy.length ≤ 24 := by have := HF.out.short; have := HNN.out; omega
                  clear hsn hx ho hsb hfb hrg hln hgr hrX hbr hbB hcell2 hyn hcx
                  by_cases hi00 : i = 0
                  · subst hi00
                    clear hstep hy hlN
                    rw [Nat.add_zero] at hci
                    go_upto_region 17 with (fail)
                    -- begin ra
                    refine wp_region_held_drew (S := (fun w' => Below wr.heap.size wr w' ∧ w'.cell? ⟨w.heap.size, 0, none⟩ = some (.int .i64 (n : Int)) ∧ w'.cell? ⟨w.heap.size, 1, none⟩ = some (.slice E m d) ∧ w'.cell? ⟨zb, zo, none⟩ = some (.int .i64 (y : Int)))) (by kernel_rfl) ?raxs (fun hHeld => ?raxr)
                    case raxs => exact ⟨(Below.refl _ _).drew, c0, c1, hci⟩
                    refine take_at (i := 0) (d := 59) (v := ?raxv0) rfl (by rfl) (by kernel_rfl) (by kernel_rfl) (by kernel_rfl) (fun _ _ _ h => h) (Or.inl ⟨by rfl, ?raxy0⟩) (by assumption) ?raxr0
                    case raxy0 => intro w' hSw; obtain ⟨_, q1, q2, q3⟩ := hSw; go_simp; (try with_reducible rfl)
                    case' raxr0 => simp only [Act.put, List.setIfInBounds_toArray, List.set_cons_zero, List.set_cons_succ]
                    refine take_at (i := 1) (d := 60) (v := ?raxv1) rfl (by rfl) (by kernel_rfl) (by kernel_rfl) (by kernel_rfl) (fun _ _ _ h => h) (Or.inl ⟨by rfl, ?raxy1⟩) (by assumption) ?raxr1
                    case raxy1 => intro w' hSw; obtain ⟨_, q1, q2, q3⟩ := hSw; go_simp; (try with_reducible rfl)
                    case' raxr1 => simp only [Act.put, List.setIfInBounds_toArray, List.set_cons_zero, List.set_cons_succ]
                    refine take_at (i := 2) (d := 61) (v := ?raxv2) rfl (by rfl) (by kernel_rfl) (by kernel_rfl) (by kernel_rfl) (fun _ _ _ h => h) (Or.inl ⟨by rfl, ?raxy2⟩) (by assumption) ?raxr2
                    case raxy2 => intro w' hSw; obtain ⟨_, q1, q2, q3⟩ := hSw; go_simp; (try with_reducible rfl)
                    case' raxr2 => simp only [Act.put, List.setIfInBounds_toArray, List.set_cons_zero, List.set_cons_succ]
                    refine take_at (i := 3) (d := 62) (v := ?raxv3) rfl (by rfl) (by kernel_rfl) (by kernel_rfl) (by kernel_rfl) (fun _ _ _ h => h) (Or.inl ⟨by rfl, ?raxy3⟩) (by assumption) ?raxr3
                    case raxy3 => intro w' hSw; obtain ⟨_, q1, q2, q3⟩ := hSw; go_simp; (try with_reducible rfl)
                    case' raxr3 => simp only [Act.put, List.setIfInBounds_toArray, List.set_cons_zero, List.set_cons_succ]
                    refine take_at (i := 4) (d := 63) (v := ?raxv4) rfl (by rfl) (by kernel_rfl) (by kernel_rfl) (by kernel_rfl) (fun _ _ _ h => h) (Or.inl ⟨by rfl, ?raxy4⟩) (by assumption) ?raxr4
                    case raxy4 => intro w' hSw; obtain ⟨_, q1, q2, q3⟩ := hSw; go_simp; (try with_reducible rfl)
                    case' raxr4 => simp only [Act.put, List.setIfInBounds_toArray, List.set_cons_zero, List.set_cons_succ]
                    refine take_at (i := 5) (d := 64) (v := ?raxv5) rfl (by rfl) (by kernel_rfl) (by kernel_rfl) (by kernel_rfl) (fun _ _ _ h => h) (Or.inl ⟨by rfl, ?raxy5⟩) (by assumption) ?raxr5
                    case raxy5 => intro w' hSw; obtain ⟨_, q1, q2, q3⟩ := hSw; go_simp; (try with_reducible rfl)
                    case' raxr5 => simp only [Act.put, List.setIfInBounds_toArray, List.set_cons_zero, List.set_cons_succ]
                    refine take_at (i := 6) (d := 65) (v := ?raxv6) rfl (by rfl) (by kernel_rfl) (by kernel_rfl) (by kernel_rfl) (fun _ _ _ h => h) (Or.inl ⟨by rfl, ?raxy6⟩) (by assumption) ?raxr6
                    case raxy6 => intro w' hSw; obtain ⟨_, q1, q2, q3⟩ := hSw; go_simp; (try with_reducible rfl)
                    case' raxr6 => simp only [Act.put, List.setIfInBounds_toArray, List.set_cons_zero, List.set_cons_succ]
                    refine take_at (i := 7) (d := 66) (v := ?raxv7) rfl (by rfl) (by kernel_rfl) (by kernel_rfl) (by kernel_rfl) (fun _ _ _ h => h) (Or.inl ⟨by rfl, ?raxy7⟩) (by assumption) ?raxr7
                    case raxy7 => intro w' hSw; obtain ⟨_, q1, q2, q3⟩ := hSw; go_simp; (try with_reducible rfl)
                    case' raxr7 => simp only [Act.put, List.setIfInBounds_toArray, List.set_cons_zero, List.set_cons_succ]
                    refine take_at (i := 8) (d := 67) (v := ?raxv8) rfl (by rfl) (by kernel_rfl) (by kernel_rfl) (by kernel_rfl) (fun _ _ _ h => h) (Or.inl ⟨by rfl, ?raxy8⟩) (by assumption) ?raxr8
                    case raxy8 => intro w' hSw; obtain ⟨_, q1, q2, q3⟩ := hSw; go_simp; (try with_reducible rfl)
                    case' raxr8 => simp only [Act.put, List.setIfInBounds_toArray, List.set_cons_zero, List.set_cons_succ]
                    refine take_at (i := 9) (d := 68) (v := ?raxv9) rfl (by rfl) (by kernel_rfl) (by kernel_rfl) (by kernel_rfl) (fun _ _ _ h => h) (Or.inl ⟨by rfl, ?raxy9⟩) (by assumption) ?raxr9
                    case raxy9 => intro w' hSw; obtain ⟨_, q1, q2, q3⟩ := hSw; go_simp; (try with_reducible rfl)
                    case' raxr9 => simp only [Act.put, List.setIfInBounds_toArray, List.set_cons_zero, List.set_cons_succ]
                    refine take_at (i := 10) (d := 69) (v := ?raxv10) rfl (by rfl) (by kernel_rfl) (by kernel_rfl) (by kernel_rfl) (fun _ _ _ h => h) (Or.inl ⟨by rfl, ?raxy10⟩) (by assumption) ?raxr10
                    case raxy10 => intro w' hSw; obtain ⟨_, q1, q2, q3⟩ := hSw; go_simp; (try with_reducible rfl)
                    case' raxr10 => simp only [Act.put, List.setIfInBounds_toArray, List.set_cons_zero, List.set_cons_succ]
                    refine take_at (i := 11) (d := 70) (v := ?raxv11) rfl (by rfl) (by kernel_rfl) (by kernel_rfl) (by kernel_rfl) (fun _ _ _ h => h) (Or.inl ⟨by rfl, ?raxy11⟩) (by assumption) ?raxr11
                    case raxy11 => intro w' hSw; obtain ⟨_, q1, q2, q3⟩ := hSw; go_simp; (try with_reducible rfl)
                    case' raxr11 => simp only [Act.put, List.setIfInBounds_toArray, List.set_cons_zero, List.set_cons_succ]
                    refine take_at (i := 12) (d := 71) (v := ?raxv12) rfl (by rfl) (by kernel_rfl) (by kernel_rfl) (by kernel_rfl) (fun _ _ _ h => h) (Or.inl ⟨by rfl, ?raxy12⟩) (by assumption) ?raxr12
                    case raxy12 => intro w' hSw; obtain ⟨_, q1, q2, q3⟩ := hSw; go_simp; (try with_reducible rfl)
                    case' raxr12 => simp only [Act.put, List.setIfInBounds_toArray, List.set_cons_zero, List.set_cons_succ]
                    refine take_at (i := 13) (d := 72) (v := ?raxv13) rfl (by rfl) (by kernel_rfl) (by kernel_rfl) (by kernel_rfl) (fun _ _ _ h => h) (Or.inl ⟨by rfl, ?raxy13⟩) (by assumption) ?raxr13
                    case raxy13 => intro w' hSw; obtain ⟨_, q1, q2, q3⟩ := hSw; go_simp; (try with_reducible rfl)
                    case' raxr13 => simp only [Act.put, List.setIfInBounds_toArray, List.set_cons_zero, List.set_cons_succ]
                    refine take_at (i := 14) (d := 73) (v := ?raxv14) rfl (by rfl) (by kernel_rfl) (by kernel_rfl) (by kernel_rfl) (fun _ _ _ h => h) (Or.inl ⟨by rfl, ?raxy14⟩) (by assumption) ?raxr14
                    case raxy14 => intro w' hSw; obtain ⟨_, q1, q2, q3⟩ := hSw; go_simp; (try with_reducible rfl)
                    case' raxr14 => simp only [Act.put, List.setIfInBounds_toArray, List.set_cons_zero, List.set_cons_succ]
                    refine take_at (i := 15) (d := 74) (v := ?raxv15) rfl (by rfl) (by kernel_rfl) (by kernel_rfl) (by kernel_rfl) (fun _ _ _ h => h) (Or.inl ⟨by rfl, ?raxy15⟩) (by assumption) ?raxr15
                    case raxy15 => intro w' hSw; obtain ⟨_, q1, q2, q3⟩ := hSw; go_simp; (try with_reducible rfl)
                    case' raxr15 => simp only [Act.put, List.setIfInBounds_toArray, List.set_cons_zero, List.set_cons_succ]
                    refine take_at (i := 16) (d := 75) (v := ?raxv16) rfl (by rfl) (by kernel_rfl) (by kernel_rfl) (by kernel_rfl) (fun _ _ _ h => h) (Or.inl ⟨by rfl, ?raxy16⟩) (by assumption) ?raxr16
                    case raxy16 => intro w' hSw; obtain ⟨_, q1, q2, q3⟩ := hSw; go_simp; (try with_reducible rfl)
                    case' raxr16 => simp only [Act.put, List.setIfInBounds_toArray, List.set_cons_zero, List.set_cons_succ]
                    refine take_at (i := 17) (d := 76) (v := ?raxv17) rfl (by rfl) (by kernel_rfl) (by kernel_rfl) (by kernel_rfl) (fun _ _ _ h => h) (Or.inl ⟨by rfl, ?raxy17⟩) (by assumption) ?raxr17
                    case raxy17 => intro w' hSw; obtain ⟨_, q1, q2, q3⟩ := hSw; go_simp; (try with_reducible rfl)
                    case' raxr17 => simp only [Act.put, List.setIfInBounds_toArray, List.set_cons_zero, List.set_cons_succ]
                    refine pass_at (i := 18) (d := 77) rfl (by rfl) (by kernel_rfl) (by kernel_rfl) (by kernel_rfl) (fun _ _ _ h => h) (by rfl) (by assumption) ?raxr18
                    case' raxr18 => simp only [Act.put, List.setIfInBounds_toArray, List.set_cons_zero, List.set_cons_succ]
                    refine pass_at (i := 19) (d := 78) rfl (by rfl) (by kernel_rfl) (by kernel_rfl) (by kernel_rfl) (fun _ _ _ h => h) (by rfl) (by assumption) ?raxr19
                    case' raxr19 => simp only [Act.put, List.setIfInBounds_toArray, List.set_cons_zero, List.set_cons_succ]
                    refine pass_at (i := 20) (d := 79) rfl (by rfl) (by kernel_rfl) (by kernel_rfl) (by kernel_rfl) (fun _ _ _ h => h) (by rfl) (by assumption) ?raxr20
                    case' raxr20 => simp only [Act.put, List.setIfInBounds_toArray, List.set_cons_zero, List.set_cons_succ]
                    refine pass_at (i := 21) (d := 80) rfl (by rfl) (by kernel_rfl) (by kernel_rfl) (by kernel_rfl) (fun _ _ _ h => h) (by rfl) (by assumption) ?raxr21
                    case' raxr21 => simp only [Act.put, List.setIfInBounds_toArray, List.set_cons_zero, List.set_cons_succ]
                    refine pass_at (i := 22) (d := 81) rfl (by rfl) (by kernel_rfl) (by kernel_rfl) (by kernel_rfl) (fun _ _ _ h => h) (by rfl) (by assumption) ?raxr22
                    case' raxr22 => simp only [Act.put, List.setIfInBounds_toArray, List.set_cons_zero, List.set_cons_succ]
                    refine pass_at (i := 23) (d := 82) rfl (by rfl) (by kernel_rfl) (by kernel_rfl) (by kernel_rfl) (fun _ _ _ h => h) (by rfl) (by assumption) ?raxr23
                    case' raxr23 => simp only [Act.put, List.setIfInBounds_toArray, List.set_cons_zero, List.set_cons_succ]
                    refine pass_at (i := 24) (d := 83) rfl (by rfl) (by kernel_rfl) (by kernel_rfl) (by kernel_rfl) (fun _ _ _ h => h) (by rfl) (by assumption) ?raxr24
                    case' raxr24 => simp only [Act.put, List.setIfInBounds_toArray, List.set_cons_zero, List.set_cons_succ]
                    refine pass_at (i := 25) (d := 84) rfl (by rfl) (by kernel_rfl) (by kernel_rfl) (by kernel_rfl) (fun _ _ _ h => h) (by rfl) (by assumption) ?raxr25
                    case' raxr25 => simp only [Act.put, List.setIfInBounds_toArray, List.set_cons_zero, List.set_cons_succ]
                    refine pass_at (i := 26) (d := 85) rfl (by rfl) (by kernel_rfl) (by kernel_rfl) (by kernel_rfl) (fun _ _ _ h => h) (by rfl) (by assumption) ?raxr26
                    case' raxr26 => simp only [Act.put, List.setIfInBounds_toArray, List.set_cons_zero, List.set_cons_succ]
                    refine pass_at (i := 27) (d := 86) rfl (by rfl) (by kernel_rfl) (by kernel_rfl) (by kernel_rfl) (fun _ _ _ h => h) (by rfl) (by assumption) ?raxr27
                    case' raxr27 => simp only [Act.put, List.setIfInBounds_toArray, List.set_cons_zero, List.set_cons_succ]
                    refine pass_at (i := 28) (d := 87) rfl (by rfl) (by kernel_rfl) (by kernel_rfl) (by kernel_rfl) (fun _ _ _ h => h) (by rfl) (by assumption) ?raxr28
                    case' raxr28 => simp only [Act.put, List.setIfInBounds_toArray, List.set_cons_zero, List.set_cons_succ]
                    refine pass_at (i := 29) (d := 88) rfl (by rfl) (by kernel_rfl) (by kernel_rfl) (by kernel_rfl) (fun _ _ _ h => h) (by rfl) (by assumption) ?raxr29
                    case' raxr29 => simp only [Act.put, List.setIfInBounds_toArray, List.set_cons_zero, List.set_cons_succ]
                    refine take_at (i := 30) (d := 89) (v := ?raxv30) rfl (by rfl) (by kernel_rfl) (by kernel_rfl) (by kernel_rfl) (fun _ _ _ h => h) (Or.inl ⟨by rfl, ?raxy30⟩) (by assumption) ?raxr30
                    case raxy30 => intro w' hSw; obtain ⟨_, q1, q2, q3⟩ := hSw; go_simp; (try with_reducible rfl)
                    case' raxr30 => simp only [Act.put, List.setIfInBounds_toArray, List.set_cons_zero, List.set_cons_succ]
                    refine take_at (i := 31) (d := 90) (v := ?raxv31) rfl (by rfl) (by kernel_rfl) (by kernel_rfl) (by kernel_rfl) (fun _ _ _ h => h) (Or.inl ⟨by rfl, ?raxy31⟩) (by assumption) ?raxr31
                    case raxy31 => intro w' hSw; obtain ⟨_, q1, q2, q3⟩ := hSw; go_simp; (try with_reducible rfl)
                    case' raxr31 => simp only [Act.put, List.setIfInBounds_toArray, List.set_cons_zero, List.set_cons_succ]
                    refine wpAnyH_done (by kernel_rfl) ?raxz _
                    -- end ra
                    obtain ⟨e1, e2⟩ := HC2.out wr.drew ((Below.refl _ _).drew)
                    rw [Nat.add_zero] at e1
                    have HB9 := Lib.hid (HBR.out.trans (((Below.refl _ wr).drew).mono HBR.out.size))
                    obtain ⟨wd, hwd⟩ : ∃ wd, wd = wr.drew := ⟨_, rfl⟩
                    rw [← hwd] at e1 e2 HB9 ⊢
                    clear hwd hHeld c0 c1 hci
                    go_wp2
                    go_roundw
                    case rel => exact ⟨1, by go_num, by omega, by rw [HSN.out], HB9.out⟩
                    case measure => simp [intOf]; omega
                  · obtain ⟨q, hq⟩ : ∃ q, i = q + 1 := ⟨i - 1, by omega⟩
                    have hqz : q < wy.length := by omega
                    obtain ⟨zb', zo', hZ', hcz⟩ := (HZ.out.below HBR.out).int hqz
                    cases hZ'
                    have hs : Edg g wy[q] (y : Int) := by
                      rw [← hy]
                      have h9 := hstep q hq
                      subst hq
                      exact h9
                    obtain ⟨z, hz⟩ : ∃ z, z = wy[q] := ⟨_, rfl⟩
                    rw [← hz] at hs hcz
                    have heq : ∀ W, Below wr.heap.size wr W → Calls Try.prog 44 #[.agg #[.int .i64 (n : Int), .slice E m d], .int .i64 z, .int .i64 (y : Int)] W fun e w' => e = .returned (.bool true) ∧ Below W.heap.size W w' := fun W hb => by
                      have := HED.out z y W (HGR.out.below hb)
                      rwa [edgeB_iff.2 hs] at this
                    have hkc : ∀ w' w'', (Below wr.heap.size wr w' ∧ w'.cell? ⟨w.heap.size, 0, none⟩ = some (.int .i64 (n : Int)) ∧ w'.cell? ⟨w.heap.size, 1, none⟩ = some (.slice E m d) ∧ w'.cell? ⟨zb, zo + i, none⟩ = some (.int .i64 (y : Int)) ∧ w'.cell? ⟨zb, zo + q, none⟩ = some (.int .i64 z)) → Below w'.heap.size w' w'' →
                        (Below wr.heap.size wr w'' ∧ w''.cell? ⟨w.heap.size, 0, none⟩ = some (.int .i64 (n : Int)) ∧ w''.cell? ⟨w.heap.size, 1, none⟩ = some (.slice E m d) ∧ w''.cell? ⟨zb, zo + i, none⟩ = some (.int .i64 (y : Int)) ∧ w''.cell? ⟨zb, zo + q, none⟩ = some (.int .i64 z)) := fun w' w'' h hb =>
                      ⟨h.1.trans (hb.mono h.1.size), (kept_cell h.2.1 hb), (kept_cell h.2.2.1 hb), (kept_cell h.2.2.2.1 hb), (kept_cell h.2.2.2.2 hb)⟩
                    have HEQ := Lib.hid heq
                    have HKC := Lib.hid hkc
                    have hqw := wrap_pred i q hq (by omega)
                    have hq0 : (0 : Int) ≤ (q : Int) := by omega
                    have hq1 : (q : Int) < (wy.length : Int) := by omega
                    have hi2 : (0 : Int) < (i : Int) := by omega
                    have hi3 : 0 < i := by omega
                    clear hstep hs hz heq hkc hy hqz hq hi00
                    go_upto_region 17 with (fail)
                    -- begin rb
                    refine wp_region_held_drew (S := (fun w' => Below wr.heap.size wr w' ∧ w'.cell? ⟨w.heap.size, 0, none⟩ = some (.int .i64 (n : Int)) ∧ w'.cell? ⟨w.heap.size, 1, none⟩ = some (.slice E m d) ∧ w'.cell? ⟨zb, zo + i, none⟩ = some (.int .i64 (y : Int)) ∧ w'.cell? ⟨zb, zo + q, none⟩ = some (.int .i64 z))) (by kernel_rfl) ?rbxs (fun hHeld => ?rbxr)
                    case rbxs => exact ⟨(Below.refl _ _).drew, c0, c1, hci, hcz⟩
                    refine take_at (i := 0) (d := 59) (v := ?rbxv0) rfl (by rfl) (by kernel_rfl) (by kernel_rfl) (by kernel_rfl) (fun _ _ _ h => h) (Or.inl ⟨by rfl, ?rbxy0⟩) (by assumption) ?rbxr0
                    case rbxy0 => intro w' hSw; obtain ⟨_, q1, q2, q3, q4⟩ := hSw; go_simp; (try with_reducible rfl)
                    case' rbxr0 => simp only [Act.put, List.setIfInBounds_toArray, List.set_cons_zero, List.set_cons_succ]
                    refine take_at (i := 1) (d := 60) (v := ?rbxv1) rfl (by rfl) (by kernel_rfl) (by kernel_rfl) (by kernel_rfl) (fun _ _ _ h => h) (Or.inl ⟨by rfl, ?rbxy1⟩) (by assumption) ?rbxr1
                    case rbxy1 => intro w' hSw; obtain ⟨_, q1, q2, q3, q4⟩ := hSw; go_simp; (try with_reducible rfl)
                    case' rbxr1 => simp only [Act.put, List.setIfInBounds_toArray, List.set_cons_zero, List.set_cons_succ]
                    refine take_at (i := 2) (d := 61) (v := ?rbxv2) rfl (by rfl) (by kernel_rfl) (by kernel_rfl) (by kernel_rfl) (fun _ _ _ h => h) (Or.inl ⟨by rfl, ?rbxy2⟩) (by assumption) ?rbxr2
                    case rbxy2 => intro w' hSw; obtain ⟨_, q1, q2, q3, q4⟩ := hSw; go_simp; (try with_reducible rfl)
                    case' rbxr2 => simp only [Act.put, List.setIfInBounds_toArray, List.set_cons_zero, List.set_cons_succ]
                    refine take_at (i := 3) (d := 62) (v := ?rbxv3) rfl (by rfl) (by kernel_rfl) (by kernel_rfl) (by kernel_rfl) (fun _ _ _ h => h) (Or.inl ⟨by rfl, ?rbxy3⟩) (by assumption) ?rbxr3
                    case rbxy3 => intro w' hSw; obtain ⟨_, q1, q2, q3, q4⟩ := hSw; go_simp; (try with_reducible rfl)
                    case' rbxr3 => simp only [Act.put, List.setIfInBounds_toArray, List.set_cons_zero, List.set_cons_succ]
                    refine take_at (i := 4) (d := 63) (v := ?rbxv4) rfl (by rfl) (by kernel_rfl) (by kernel_rfl) (by kernel_rfl) (fun _ _ _ h => h) (Or.inl ⟨by rfl, ?rbxy4⟩) (by assumption) ?rbxr4
                    case rbxy4 => intro w' hSw; obtain ⟨_, q1, q2, q3, q4⟩ := hSw; go_simp; (try with_reducible rfl)
                    case' rbxr4 => simp only [Act.put, List.setIfInBounds_toArray, List.set_cons_zero, List.set_cons_succ]
                    refine take_at (i := 5) (d := 64) (v := ?rbxv5) rfl (by rfl) (by kernel_rfl) (by kernel_rfl) (by kernel_rfl) (fun _ _ _ h => h) (Or.inl ⟨by rfl, ?rbxy5⟩) (by assumption) ?rbxr5
                    case rbxy5 => intro w' hSw; obtain ⟨_, q1, q2, q3, q4⟩ := hSw; go_simp; (try with_reducible rfl)
                    case' rbxr5 => simp only [Act.put, List.setIfInBounds_toArray, List.set_cons_zero, List.set_cons_succ]
                    refine take_at (i := 6) (d := 65) (v := ?rbxv6) rfl (by rfl) (by kernel_rfl) (by kernel_rfl) (by kernel_rfl) (fun _ _ _ h => h) (Or.inl ⟨by rfl, ?rbxy6⟩) (by assumption) ?rbxr6
                    case rbxy6 => intro w' hSw; obtain ⟨_, q1, q2, q3, q4⟩ := hSw; go_simp; (try with_reducible rfl)
                    case' rbxr6 => simp only [Act.put, List.setIfInBounds_toArray, List.set_cons_zero, List.set_cons_succ]
                    refine take_at (i := 7) (d := 66) (v := ?rbxv7) rfl (by rfl) (by kernel_rfl) (by kernel_rfl) (by kernel_rfl) (fun _ _ _ h => h) (Or.inl ⟨by rfl, ?rbxy7⟩) (by assumption) ?rbxr7
                    case rbxy7 => intro w' hSw; obtain ⟨_, q1, q2, q3, q4⟩ := hSw; go_simp; (try with_reducible rfl)
                    case' rbxr7 => simp only [Act.put, List.setIfInBounds_toArray, List.set_cons_zero, List.set_cons_succ]
                    refine take_at (i := 8) (d := 67) (v := ?rbxv8) rfl (by rfl) (by kernel_rfl) (by kernel_rfl) (by kernel_rfl) (fun _ _ _ h => h) (Or.inl ⟨by rfl, ?rbxy8⟩) (by assumption) ?rbxr8
                    case rbxy8 => intro w' hSw; obtain ⟨_, q1, q2, q3, q4⟩ := hSw; go_simp; (try with_reducible rfl)
                    case' rbxr8 => simp only [Act.put, List.setIfInBounds_toArray, List.set_cons_zero, List.set_cons_succ]
                    refine take_at (i := 9) (d := 68) (v := ?rbxv9) rfl (by rfl) (by kernel_rfl) (by kernel_rfl) (by kernel_rfl) (fun _ _ _ h => h) (Or.inl ⟨by rfl, ?rbxy9⟩) (by assumption) ?rbxr9
                    case rbxy9 => intro w' hSw; obtain ⟨_, q1, q2, q3, q4⟩ := hSw; go_simp; (try with_reducible rfl)
                    case' rbxr9 => simp only [Act.put, List.setIfInBounds_toArray, List.set_cons_zero, List.set_cons_succ]
                    refine take_at (i := 10) (d := 69) (v := ?rbxv10) rfl (by rfl) (by kernel_rfl) (by kernel_rfl) (by kernel_rfl) (fun _ _ _ h => h) (Or.inl ⟨by rfl, ?rbxy10⟩) (by assumption) ?rbxr10
                    case rbxy10 => intro w' hSw; obtain ⟨_, q1, q2, q3, q4⟩ := hSw; go_simp; (try with_reducible rfl)
                    case' rbxr10 => simp only [Act.put, List.setIfInBounds_toArray, List.set_cons_zero, List.set_cons_succ]
                    refine take_at (i := 11) (d := 70) (v := ?rbxv11) rfl (by rfl) (by kernel_rfl) (by kernel_rfl) (by kernel_rfl) (fun _ _ _ h => h) (Or.inl ⟨by rfl, ?rbxy11⟩) (by assumption) ?rbxr11
                    case rbxy11 => intro w' hSw; obtain ⟨_, q1, q2, q3, q4⟩ := hSw; go_simp; (try with_reducible rfl)
                    case' rbxr11 => simp only [Act.put, List.setIfInBounds_toArray, List.set_cons_zero, List.set_cons_succ]
                    refine take_at (i := 12) (d := 71) (v := ?rbxv12) rfl (by rfl) (by kernel_rfl) (by kernel_rfl) (by kernel_rfl) (fun _ _ _ h => h) (Or.inl ⟨by rfl, ?rbxy12⟩) (by assumption) ?rbxr12
                    case rbxy12 => intro w' hSw; obtain ⟨_, q1, q2, q3, q4⟩ := hSw; go_simp; (try with_reducible rfl)
                    case' rbxr12 => simp only [Act.put, List.setIfInBounds_toArray, List.set_cons_zero, List.set_cons_succ]
                    refine take_at (i := 13) (d := 72) (v := ?rbxv13) rfl (by rfl) (by kernel_rfl) (by kernel_rfl) (by kernel_rfl) (fun _ _ _ h => h) (Or.inl ⟨by rfl, ?rbxy13⟩) (by assumption) ?rbxr13
                    case rbxy13 => intro w' hSw; obtain ⟨_, q1, q2, q3, q4⟩ := hSw; go_simp; (try with_reducible rfl)
                    case' rbxr13 => simp only [Act.put, List.setIfInBounds_toArray, List.set_cons_zero, List.set_cons_succ]
                    refine take_at (i := 14) (d := 73) (v := ?rbxv14) rfl (by rfl) (by kernel_rfl) (by kernel_rfl) (by kernel_rfl) (fun _ _ _ h => h) (Or.inl ⟨by rfl, ?rbxy14⟩) (by assumption) ?rbxr14
                    case rbxy14 => intro w' hSw; obtain ⟨_, q1, q2, q3, q4⟩ := hSw; go_simp; (try with_reducible rfl)
                    case' rbxr14 => simp only [Act.put, List.setIfInBounds_toArray, List.set_cons_zero, List.set_cons_succ]
                    refine take_at (i := 15) (d := 74) (v := ?rbxv15) rfl (by rfl) (by kernel_rfl) (by kernel_rfl) (by kernel_rfl) (fun _ _ _ h => h) (Or.inl ⟨by rfl, ?rbxy15⟩) (by assumption) ?rbxr15
                    case rbxy15 => intro w' hSw; obtain ⟨_, q1, q2, q3, q4⟩ := hSw; go_simp; (try with_reducible rfl)
                    case' rbxr15 => simp only [Act.put, List.setIfInBounds_toArray, List.set_cons_zero, List.set_cons_succ]
                    refine take_at (i := 16) (d := 75) (v := ?rbxv16) rfl (by rfl) (by kernel_rfl) (by kernel_rfl) (by kernel_rfl) (fun _ _ _ h => h) (Or.inl ⟨by rfl, ?rbxy16⟩) (by assumption) ?rbxr16
                    case rbxy16 => intro w' hSw; obtain ⟨_, q1, q2, q3, q4⟩ := hSw; go_simp; (try with_reducible rfl)
                    case' rbxr16 => simp only [Act.put, List.setIfInBounds_toArray, List.set_cons_zero, List.set_cons_succ]
                    refine take_at (i := 17) (d := 76) (v := ?rbxv17) rfl (by rfl) (by kernel_rfl) (by kernel_rfl) (by kernel_rfl) (fun _ _ _ h => h) (Or.inl ⟨by rfl, ?rbxy17⟩) (by assumption) ?rbxr17
                    case rbxy17 => intro w' hSw; obtain ⟨_, q1, q2, q3, q4⟩ := hSw; go_simp; (try with_reducible rfl)
                    case' rbxr17 => simp only [Act.put, List.setIfInBounds_toArray, List.set_cons_zero, List.set_cons_succ]
                    refine take_at (i := 18) (d := 77) (v := ?rbxv18) rfl (by rfl) (by kernel_rfl) (by kernel_rfl) (by kernel_rfl) (fun _ _ _ h => h) (Or.inl ⟨by rfl, ?rbxy18⟩) (by assumption) ?rbxr18
                    case rbxy18 => intro w' hSw; obtain ⟨_, q1, q2, q3, q4⟩ := hSw; go_simp; (try with_reducible rfl)
                    case' rbxr18 => simp only [Act.put, List.setIfInBounds_toArray, List.set_cons_zero, List.set_cons_succ]
                    refine take_at (i := 19) (d := 78) (v := ?rbxv19) rfl (by rfl) (by kernel_rfl) (by kernel_rfl) (by kernel_rfl) (fun _ _ _ h => h) (Or.inl ⟨by rfl, ?rbxy19⟩) (by assumption) ?rbxr19
                    case rbxy19 => intro w' hSw; obtain ⟨_, q1, q2, q3, q4⟩ := hSw; go_simp; (try with_reducible rfl)
                    case' rbxr19 => simp only [Act.put, List.setIfInBounds_toArray, List.set_cons_zero, List.set_cons_succ]
                    refine take_at (i := 20) (d := 79) (v := ?rbxv20) rfl (by rfl) (by kernel_rfl) (by kernel_rfl) (by kernel_rfl) (fun _ _ _ h => h) (Or.inl ⟨by rfl, ?rbxy20⟩) (by assumption) ?rbxr20
                    case rbxy20 => intro w' hSw; obtain ⟨_, q1, q2, q3, q4⟩ := hSw; go_simp; (try with_reducible rfl)
                    case' rbxr20 => simp only [Act.put, List.setIfInBounds_toArray, List.set_cons_zero, List.set_cons_succ]
                    refine take_at (i := 21) (d := 80) (v := ?rbxv21) rfl (by rfl) (by kernel_rfl) (by kernel_rfl) (by kernel_rfl) (fun _ _ _ h => h) (Or.inl ⟨by rfl, ?rbxy21⟩) (by assumption) ?rbxr21
                    case rbxy21 => intro w' hSw; obtain ⟨_, q1, q2, q3, q4⟩ := hSw; go_simp; (try with_reducible rfl)
                    case' rbxr21 => simp only [Act.put, List.setIfInBounds_toArray, List.set_cons_zero, List.set_cons_succ]
                    refine take_at (i := 22) (d := 81) (v := ?rbxv22) rfl (by rfl) (by kernel_rfl) (by kernel_rfl) (by kernel_rfl) (fun _ _ _ h => h) (Or.inl ⟨by rfl, ?rbxy22⟩) (by assumption) ?rbxr22
                    case rbxy22 => intro w' hSw; obtain ⟨_, q1, q2, q3, q4⟩ := hSw; go_simp; (try with_reducible rfl)
                    case' rbxr22 => simp only [Act.put, List.setIfInBounds_toArray, List.set_cons_zero, List.set_cons_succ]
                    refine take_at (i := 23) (d := 82) (v := ?rbxv23) rfl (by rfl) (by kernel_rfl) (by kernel_rfl) (by kernel_rfl) (fun _ _ _ h => h) (Or.inl ⟨by rfl, ?rbxy23⟩) (by assumption) ?rbxr23
                    case rbxy23 => intro w' hSw; obtain ⟨_, q1, q2, q3, q4⟩ := hSw; go_simp; (try with_reducible rfl)
                    case' rbxr23 => simp only [Act.put, List.setIfInBounds_toArray, List.set_cons_zero, List.set_cons_succ]
                    refine take_at (i := 24) (d := 83) (v := ?rbxv24) rfl (by rfl) (by kernel_rfl) (by kernel_rfl) (by kernel_rfl) (fun _ _ _ h => h) (Or.inl ⟨by rfl, ?rbxy24⟩) (by assumption) ?rbxr24
                    case rbxy24 => intro w' hSw; obtain ⟨_, q1, q2, q3, q4⟩ := hSw; go_simp; (try with_reducible rfl)
                    case' rbxr24 => simp only [Act.put, List.setIfInBounds_toArray, List.set_cons_zero, List.set_cons_succ]
                    refine take_at (i := 25) (d := 84) (v := ?rbxv25) rfl (by rfl) (by kernel_rfl) (by kernel_rfl) (by kernel_rfl) (fun _ _ _ h => h) (Or.inl ⟨by rfl, ?rbxy25⟩) (by assumption) ?rbxr25
                    case rbxy25 => intro w' hSw; obtain ⟨_, q1, q2, q3, q4⟩ := hSw; go_simp; (try with_reducible rfl)
                    case' rbxr25 => simp only [Act.put, List.setIfInBounds_toArray, List.set_cons_zero, List.set_cons_succ]
                    refine take_at (i := 26) (d := 85) (v := ?rbxv26) rfl (by rfl) (by kernel_rfl) (by kernel_rfl) (by kernel_rfl) (fun _ _ _ h => h) (Or.inl ⟨by rfl, ?rbxy26⟩) (by assumption) ?rbxr26
                    case rbxy26 => intro w' hSw; obtain ⟨_, q1, q2, q3, q4⟩ := hSw; go_simp; (try with_reducible rfl)
                    case' rbxr26 => simp only [Act.put, List.setIfInBounds_toArray, List.set_cons_zero, List.set_cons_succ]
                    refine take_at (i := 27) (d := 86) (v := ?rbxv27) rfl (by rfl) (by kernel_rfl) (by kernel_rfl) (by kernel_rfl) (fun _ _ _ h => h) (Or.inl ⟨by rfl, ?rbxy27⟩) (by assumption) ?rbxr27
                    case rbxy27 => intro w' hSw; obtain ⟨_, q1, q2, q3, q4⟩ := hSw; go_simp; (try with_reducible rfl)
                    case' rbxr27 => simp only [Act.put, List.setIfInBounds_toArray, List.set_cons_zero, List.set_cons_succ]
                    refine wpAnyH_ready (rs := [28]) (by kernel_rfl) (by simp) ?rbxc28
                    refine AllReadyH.cons rfl (fun K hK => ?rbxb28) AllReadyH.nil
                    go_simp
                    go_at_call 44; refine (HEQ.out _ hHeld.1).mono ?_; rintro e w8 ⟨rfl, hb8⟩
                    refine hK.out _ _ ?rbxh28 (fun hHeld => ?rbxr28)
                    case rbxh28 => exact HKC.out _ _ hHeld hb8
                    case' rbxr28 => (clear hK K; try simp only [Act.put, List.setIfInBounds_toArray, List.set_cons_zero, List.set_cons_succ])
                    refine take_at (i := 29) (d := 88) (v := ?rbxv29) rfl (by rfl) (by kernel_rfl) (by kernel_rfl) (by kernel_rfl) (fun _ _ _ h => h) (Or.inl ⟨by rfl, ?rbxy29⟩) (by assumption) ?rbxr29
                    case rbxy29 => intro w' hSw; obtain ⟨_, q1, q2, q3, q4⟩ := hSw; go_simp; (try with_reducible rfl)
                    case' rbxr29 => simp only [Act.put, List.setIfInBounds_toArray, List.set_cons_zero, List.set_cons_succ]
                    refine take_at (i := 30) (d := 89) (v := ?rbxv30) rfl (by rfl) (by kernel_rfl) (by kernel_rfl) (by kernel_rfl) (fun _ _ _ h => h) (Or.inl ⟨by rfl, ?rbxy30⟩) (by assumption) ?rbxr30
                    case rbxy30 => intro w' hSw; obtain ⟨_, q1, q2, q3, q4⟩ := hSw; go_simp; (try with_reducible rfl)
                    case' rbxr30 => simp only [Act.put, List.setIfInBounds_toArray, List.set_cons_zero, List.set_cons_succ]
                    refine take_at (i := 31) (d := 90) (v := ?rbxv31) rfl (by rfl) (by kernel_rfl) (by kernel_rfl) (by kernel_rfl) (fun _ _ _ h => h) (Or.inl ⟨by rfl, ?rbxy31⟩) (by assumption) ?rbxr31
                    case rbxy31 => intro w' hSw; obtain ⟨_, q1, q2, q3, q4⟩ := hSw; go_simp; (try with_reducible rfl)
                    case' rbxr31 => simp only [Act.put, List.setIfInBounds_toArray, List.set_cons_zero, List.set_cons_succ]
                    refine wpAnyH_done (by kernel_rfl) ?rbxz _
                    -- end rb
                    obtain ⟨e1, e2⟩ := HC2.out w8 hHeld.1
                    have HB9 := Lib.hid (HBR.out.trans (hHeld.1.mono HBR.out.size))
                    clear hHeld c0 c1 hci hcz hb8
                    go_wp2
                    go_roundw
                    case rel => exact ⟨i + 1, by go_num, by omega, by rw [HSN.out], HB9.out⟩
                    case measure => simp [intOf]; omega
                · have hge : ¬ (i : Int) < (wy.length : Int) := by omega
                  obtain rfl : i = wy.length := by omega
                  have hown : sumL (wtF wts) (wy.take wy.length) = s := by rw [List.take_of_length_le (Nat.le_refl _)]; exact HF.out.own
                  rw [hown]
                  have hnb : (s != s) = false := by simp
                  have hnt := HST.out
                  have HB9 := Lib.hid hbB
                  clear hown hbr hbB hsb hln
                  go_wp2
                  go_meet
                  case rel => exact HB9.out
        · have hzb : (le == 0) = false := by simpa using hz0
          have HB := Lib.hid HB3.out
          clear hz0
          go_wp2
          go_meet
          case rel => exact HB3.out
    case rest =>
      have hbB : Below wB.heap.size wB wc := ‹Below wB.heap.size wB wc›
      obtain ⟨c0, c1, hgc, _⟩ := HCELL.out wc hbB
      have hlec := HLE.out wc hgc
      have HLEC := Lib.hid hlec
      have HBC := Lib.hid hbB
      clear hlec hgc hbB
      go_wp2_with fail
      go_at_call 31
      refine HLEC.out.mono ?_
      rintro e w4 ⟨hb4, hpost⟩
      have hb4' := HBC.out.trans (hb4.mono HBC.out.size)
      rcases hpost with ⟨hke, rfl⟩ | ⟨hok, Xh, ch, rfl, hgh, hch, hch2⟩
      · have hk150 := ordE_150 HCHK.out hke
        rw [hk150]
        have HE := Lib.hid (HBW.out.trans (((hb4'.alloc hb4'.size (.cells #[.int .i64 0, .slice none 0 0] 24))).mono (Nat.le_of_lt HLT.out)))
        clear hb4 hb4' hke hk150
        go_wp2
        go_ret
        exact ⟨rfl, HE.out⟩
      · obtain ⟨L, hL⟩ : ∃ L, L = (leanG g).es.length := ⟨_, rfl⟩
        have hval : (leanG g).val Xh ch = .agg #[.int .i64 (n : Int), .slice Xh L ch] := by
          unfold XG.val
          rw [← hL]
          show Value.agg #[.int .i64 g.n, _] = _
          rw [HN.out]
        have hsz : g.n.toNat * g.es.length ≤ 16384 := by
          rw [HNN.out, ← HM.out]
          exact Nat.le_trans (Nat.mul_le_mul hn4 hm200') (by decide)
        have hgl := lean_good HGOOD.out hsz
        have hL2 : L ≤ 16384 := by rw [hL]; exact hgl.len
        rw [hval]
        obtain ⟨wh, hwh⟩ : ∃ wh, wh = w4.alloc (.cells #[.int .i64 (n : Int), .slice Xh L ch] 24) := ⟨_, rfl⟩
        have hbh : Below w4.heap.size w4 wh := by rw [hwh]; exact (Below.refl _ _).alloc (Nat.le_refl _) _
        have hh0 : wh.cell? ⟨w4.heap.size, 0, none⟩ = some (.int .i64 (n : Int)) := by rw [hwh, cell_new]; rfl
        have hh1 : wh.cell? ⟨w4.heap.size, 1, none⟩ = some (.slice Xh L ch) := by rw [hwh, cell_new]; rfl
        have hhl : w4.heap.size < wh.heap.size := by rw [hwh, al_size]; omega
        have hbB := hb4'.trans (hbh.mono hb4'.size)
        have hcl : ∀ W, Below wh.heap.size wh W → W.cell? ⟨w.heap.size, 0, none⟩ = some (.int .i64 (n : Int)) ∧ W.cell? ⟨w.heap.size, 1, none⟩ = some (.slice E m d) ∧ GAt W E g ∧ W.cell? ⟨w4.heap.size, 0, none⟩ = some (.int .i64 (n : Int)) ∧ W.cell? ⟨w4.heap.size, 1, none⟩ = some (.slice Xh L ch) ∧ GAt W Xh (leanG g) ∧ Below wB.heap.size wB W := fun W hb => by
          have hbW := hbB.trans (hb.mono hbB.size)
          obtain ⟨q0, q1, q2, _⟩ := HCELL.out W hbW
          exact ⟨q0, q1, q2, kept_cell hh0 hb, kept_cell hh1 hb, (hgh.below hbh).below hb, hbW⟩
        have hrh : ∀ (x : Int) Y dY W, GAt W Xh (leanG g) → RowAt W Y (I [x]) → Calls Try.prog 19 #[.agg #[.int .i64 (n : Int), .slice Xh L ch], .slice Y 1 dY] W (RowErr (reachL (leanG g) [x]) (reachE (leanG g) [x]) W) := fun x Y dY W h hr => by
          have := greach_c (leanG g) Xh ch [x] Y dY W h (by rw [← hL]; omega) hr (by simp)
          rwa [hval] at this
        have HOK := Lib.hid hok
        have HCL := Lib.hid hcl
        have HRH := Lib.hid hrh
        have HGL := Lib.hid hgl
        have HL := Lib.hid hL
        have HWH := Lib.hid hwh
        obtain ⟨k0, k1, _, k3, k4, _, _⟩ := hcl wh (Below.refl _ _)
        clear hok hcl hrh hgl hL hwh hbB hh0 hh1 hbh hgh hb4' hb4 hsz hval c0 c1
        go_upto_region 25 with (fail)
        rw [← HWH.out]
        have hnb : ((n : Int) != (n : Int)) = false := by simp
        go_wp2
        clear k0 k1 k3 k4 hnb
        go_loopw [15] (fun i wr => ∃ i' : Nat, i = .int .i64 i' ∧ i' ≤ n ∧ Below wh.heap.size wh wr) (fun i _ => n - (intOf i).toNat)
        case atStart => exact ⟨0, rfl, by omega, Below.refl _ _⟩
        case round =>
          obtain ⟨i, rfl, hi, hbr⟩ := hrel
          obtain ⟨k0, k1, hg1, k3, k4, hg2, hbB⟩ := HCL.out wr hbr
          by_cases hlt : i < n
          · have hi0 : (0 : Int) ≤ (i : Int) := by omega
            have hi1 : (i : Int) < (n : Int) := by omega
            have hri : 0 ≤ (i : Int) ∧ (i : Int) < g.n := by rw [HN.out]; omega
            have he1 := reach_one HGOOD.out hri
            have he2 := reach_one HGL.out (show 0 ≤ (i : Int) ∧ (i : Int) < (leanG g).n from hri)
            have hx2 := lean_reachL HOK.out HGL.out hri
            have hxl := reachL_len g (i : Int)
            obtain ⟨xs, hxs⟩ : ∃ xs, xs = reachL g [(i : Int)] := ⟨_, rfl⟩
            obtain ⟨wa, hwa⟩ : ∃ wa, wa = wr.alloc (.cells #[.int .i64 (i : Int)] 3) := ⟨_, rfl⟩
            have hba : Below wr.heap.size wr wa := by rw [hwa]; exact (Below.refl _ _).alloc (Nat.le_refl _) _
            have hra : RowAt wa (some ⟨wr.heap.size, 0, none⟩) (I [(i : Int)]) := by rw [hwa]; exact row_lit 3 wr [(i : Int)]
            have hc1 := HRC.out (i : Int) _ 1 wa (hg1.below hba) hra
            rw [he1, ← hxs] at hc1
            rw [← hxs] at hx2 hxl
            have HC1 := Lib.hid hc1
            have HWA := Lib.hid hwa
            have HX2 := Lib.hid hx2
            have HE2 := Lib.hid he2
            have HBA := Lib.hid hba
            have HBR := Lib.hid hbr
            have hxl2 : xs.length ≤ 140737488355328 := by omega
            clear hc1 hwa hx2 he2 hba hbr hra he1 hg1 hg2 hbB hxs hxl
            go_wp2_with fail
            rw [← HWA.out]
            go_at_call 19
            refine HC1.out.mono ?_
            rintro e w5 ⟨X1, d1, rfl, hr1, hb5⟩
            have hb5r := HBA.out.trans (hb5.mono HBA.out.size)
            have hb5w := HBR.out.trans (hb5r.mono HBR.out.size)
            obtain ⟨j0, j1, _, j3, j4, hg5, _⟩ := HCL.out w5 hb5w
            obtain ⟨wd, hwd⟩ : ∃ wd, wd = w5.alloc (.cells #[.int .i64 (i : Int)] 3) := ⟨_, rfl⟩
            have hbd : Below w5.heap.size w5 wd := by rw [hwd]; exact (Below.refl _ _).alloc (Nat.le_refl _) _
            have hrd : RowAt wd (some ⟨w5.heap.size, 0, none⟩) (I [(i : Int)]) := by rw [hwd]; exact row_lit 3 w5 [(i : Int)]
            have hc2 := HRH.out (i : Int) _ 1 wd (hg5.below hbd) hrd
            rw [HE2.out, HX2.out] at hc2
            have HC2 := Lib.hid hc2
            have HWD := Lib.hid hwd
            have HBD5 := Lib.hid (hb5w.trans (hbd.mono hb5w.size))
            have HR1 := Lib.hid (hr1.below hbd)
            clear hc2 hwd hrd hg5 hb5 hb5r hb5w hr1 hbd k0 k1 k3 k4
            go_wp2_with fail
            rw [← HWD.out]
            go_at_call 19
            refine HC2.out.mono ?_
            rintro e w6 ⟨X2, d2, rfl, hr2, hb6⟩
            have hsm := sameInts_c xs X1 X2 d1 d2 w6 (HR1.out.below hb6) hr2 hxl2
            have HSM := Lib.hid hsm
            have HB6 := Lib.hid (HBD5.out.trans (hb6.mono HBD5.out.size))
            clear hsm hr2 hb6 j0 j1 j3 j4
            go_wp2_with fail
            go_at_call 18
            refine HSM.out.mono ?_
            rintro e w7 ⟨rfl, hb7⟩
            have HB7 := Lib.hid (HB6.out.trans (hb7.mono HB6.out.size))
            clear hb7
            go_wp2
            go_roundw
            case rel => exact ⟨i + 1, by go_num, by omega, HB7.out⟩
            case measure => simp [intOf]; omega
          · have hge : ¬ (i : Int) < (n : Int) := by omega
            have HBR := Lib.hid hbr
            clear hbr hbB hg1 hg2
            by_cases hL0 : L = 0
            · have hlb : ((L : Int) == 0) = true := by rw [hL0]; rfl
              have HE := Lib.hid (HBW.out.trans ((HCL.out wr HBR.out).2.2.2.2.2.2.mono (Nat.le_of_lt HLT.out)))
              clear hL0
              go_wp2
              go_ret
              exact ⟨rfl, HE.out⟩
            · have hlb : ((L : Int) == 0) = false := by rw [beq_eq_false_iff_ne]; omega
              have hLp : (0 : Int) < (L : Int) := by omega
              clear hL0
              go_upto_region 37 with (fail)
              obtain ⟨k, hk, hke⟩ := rem_at at_ L (by omega) hL2
              rw [hke]
              clear hke
              obtain ⟨_, _, _, _, _, hg2, _⟩ := HCL.out wr HBR.out
              have hkl : k < (leanG g).es.length := by rw [← HL.out]; exact hk
              obtain ⟨b, off, rfl, _, hex, hey⟩ := hg2.edge hkl
              obtain ⟨hel, hwl2⟩ := lean_last HOK.out HGL.out hkl
              obtain ⟨ex, hexx⟩ : ∃ ex, ex = (leanG g).es[k].1 := ⟨_, rfl⟩
              obtain ⟨ey, heyy⟩ : ∃ ey, ey = (leanG g).es[k].2 := ⟨_, rfl⟩
              rw [← hexx] at hex hel hwl2
              rw [← heyy] at hey hel hwl2
              have HEX := Lib.hid hex
              have HEY := Lib.hid hey
              have HEL := Lib.hid hel
              have HWL := Lib.hid hwl2
              clear hex hey hel hwl2 hexx heyy
              have hk0 : (0 : Int) ≤ (k : Int) := by omega
              have hk1 : (k : Int) < (L : Int) := by omega
              have hLc : L ≤ ch := by rw [HL.out]; exact hch
              have hkc : (k : Int) ≤ (ch : Int) := by omega
              have hk2 : (0 : Int) ≤ (k : Int) + 1 := by omega
              have hk3 : (k : Int) + 1 ≤ (L : Int) := by omega
              have hkw := wrap_succ k (by omega)
              have hkt : ((k : Int) + 1).toNat = k + 1 := by omega
              have hrdA : ∀ W, Below wr.heap.size wr W → Reads W W.heap.size 2 (some ⟨b, off, none⟩) k (edgeCells (((leanG g).es.drop 0).take k)) := fun W hb => part_reads (hg2.below hb) 0 k (by omega) _ (fun _ => by simp)
              obtain ⟨A2, hA2⟩ : ∃ A2 : Option Addr, A2 = if ch = k + 1 then some ⟨b, off, none⟩ else some ⟨b, off + (k + 1) * 2, none⟩ := ⟨_, rfl⟩
              have hrdB : ∀ W, Below wr.heap.size wr W → Reads W W.heap.size 2 A2 (L - (k + 1)) (edgeCells (((leanG g).es.drop (k + 1)).take (L - (k + 1)))) := fun W hb => part_reads (hg2.below hb) (k + 1) (L - (k + 1)) (by rw [← HL.out]; omega) _ (fun hp => by rw [hA2, if_neg (by omega)])
              have hes : edgeCells (((leanG g).es.drop 0).take k) ++ edgeCells (((leanG g).es.drop (k + 1)).take (L - (k + 1))) = edgeCells (lessG (leanG g) k).es := by
                rw [← edgeCells_app, List.drop_zero, List.take_of_length_le (l := (leanG g).es.drop (k + 1)) (by rw [List.length_drop, ← HL.out]; exact Nat.le_refl _)]
                rfl
              have hle : k + (L - (k + 1)) = L - 1 := by omega
              have hhs : ∀ W, Below wr.heap.size wr W → (Below wr.heap.size wr W ∧ W.cell? ⟨w4.heap.size, 0, none⟩ = some (.int .i64 (n : Int)) ∧ W.cell? ⟨w4.heap.size, 1, none⟩ = some (.slice (some ⟨b, off, none⟩) L ch)) := fun W hb => ⟨hb, kept_cell k3 hb, kept_cell k4 hb⟩
              obtain ⟨i0, hi0, hzz⟩ := Option.map_eq_some_iff.1 info_edge
              simp only [Prod.mk.injEq] at hzz
              have HI := Lib.hid hi0
              have HZ0 := Lib.hid hzz
              have HRA := Lib.hid hrdA
              have HRB := Lib.hid hrdB
              have HES := Lib.hid hes
              have HLE := Lib.hid hle
              have HHS := Lib.hid hhs
              have HA2 := Lib.hid hA2
              clear hch hi0 hzz hrdA hrdB hes hle hhs hA2
              go_cut [20] (fun s20 w' => MadeG wr (lessG (leanG g) k) (L - 1) s20 w')
              case first =>
                as_aux_lemma =>
                  refine wp_region_held_drew (S := (fun w' => Below wr.heap.size wr w' ∧ w'.cell? ⟨w4.heap.size, 0, none⟩ = some (.int .i64 (n : Int)) ∧ w'.cell? ⟨w4.heap.size, 1, none⟩ = some (.slice (some ⟨b, off, none⟩) L ch))) (by kernel_rfl) ?thns (fun hHeld => ?thnr)
                  case thns => exact ⟨(Below.refl _ _).drew, k3, k4⟩
                  -- begin t
                  refine take_at (i := 0) (d := 166) (v := ?thav0) rfl (by rfl) (by kernel_rfl) (by kernel_rfl) (by kernel_rfl) (fun _ _ _ h => h) (Or.inl ⟨by rfl, ?thay0⟩) (by assumption) ?thar0
                  case thay0 => intro w' hSw; obtain ⟨_, q1, q2⟩ := hSw; go_simp; (try with_reducible rfl)
                  case' thar0 => simp only [Act.put, List.setIfInBounds_toArray, List.set_cons_zero, List.set_cons_succ]
                  refine take_at (i := 1) (d := 167) (v := ?thav1) rfl (by rfl) (by kernel_rfl) (by kernel_rfl) (by kernel_rfl) (fun _ _ _ h => h) (Or.inl ⟨by rfl, ?thay1⟩) (by assumption) ?thar1
                  case thay1 => intro w' hSw; obtain ⟨_, q1, q2⟩ := hSw; go_simp; (try with_reducible rfl)
                  case' thar1 => simp only [Act.put, List.setIfInBounds_toArray, List.set_cons_zero, List.set_cons_succ]
                  refine take_at (i := 3) (d := 169) (v := ?thav3) rfl (by rfl) (by kernel_rfl) (by kernel_rfl) (by kernel_rfl) (fun _ _ _ h => h) (Or.inl ⟨by rfl, ?thay3⟩) (by assumption) ?thar3
                  case thay3 => intro w' hSw; obtain ⟨_, q1, q2⟩ := hSw; go_simp; (try with_reducible rfl)
                  case' thar3 => simp only [Act.put, List.setIfInBounds_toArray, List.set_cons_zero, List.set_cons_succ]
                  refine take_at (i := 4) (d := 170) (v := ?thav4) rfl (by rfl) (by kernel_rfl) (by kernel_rfl) (by kernel_rfl) (fun _ _ _ h => h) (Or.inl ⟨by rfl, ?thay4⟩) (by assumption) ?thar4
                  case thay4 => intro w' hSw; obtain ⟨_, q1, q2⟩ := hSw; go_simp; (try with_reducible rfl)
                  case' thar4 => simp only [Act.put, List.setIfInBounds_toArray, List.set_cons_zero, List.set_cons_succ]
                  refine take_at (i := 5) (d := 171) (v := ?thav5) rfl (by rfl) (by kernel_rfl) (by kernel_rfl) (by kernel_rfl) (fun _ _ _ h => h) (Or.inl ⟨by rfl, ?thay5⟩) (by assumption) ?thar5
                  case thay5 => intro w' hSw; obtain ⟨_, q1, q2⟩ := hSw; go_simp; (try with_reducible rfl)
                  case' thar5 => simp only [Act.put, List.setIfInBounds_toArray, List.set_cons_zero, List.set_cons_succ]
                  refine take_at (i := 6) (d := 172) (v := ?thav6) rfl (by rfl) (by kernel_rfl) (by kernel_rfl) (by kernel_rfl) (fun _ _ _ h => h) (Or.inl ⟨by rfl, ?thay6⟩) (by assumption) ?thar6
                  case thay6 => intro w' hSw; obtain ⟨_, q1, q2⟩ := hSw; go_simp; (try with_reducible rfl)
                  case' thar6 => simp only [Act.put, List.setIfInBounds_toArray, List.set_cons_zero, List.set_cons_succ]
                  refine take_at (i := 8) (d := 174) (v := ?thav8) rfl (by rfl) (by kernel_rfl) (by kernel_rfl) (by kernel_rfl) (fun _ _ _ h => h) (Or.inl ⟨by rfl, ?thay8⟩) (by assumption) ?thar8
                  case thay8 => intro w' hSw; obtain ⟨_, q1, q2⟩ := hSw; go_simp; (try with_reducible rfl)
                  case' thar8 => simp only [Act.put, List.setIfInBounds_toArray, List.set_cons_zero, List.set_cons_succ]
                  refine take_at (i := 9) (d := 175) (v := ?thav9) rfl (by rfl) (by kernel_rfl) (by kernel_rfl) (by kernel_rfl) (fun _ _ _ h => h) (Or.inl ⟨by rfl, ?thay9⟩) (by assumption) ?thar9
                  case thay9 => intro w' hSw; obtain ⟨_, q1, q2⟩ := hSw; go_simp; (try with_reducible rfl)
                  case' thar9 => simp only [Act.put, List.setIfInBounds_toArray, List.set_cons_zero, List.set_cons_succ]
                  refine take_at (i := 10) (d := 176) (v := ?thav10) rfl (by rfl) (by kernel_rfl) (by kernel_rfl) (by kernel_rfl) (fun _ _ _ h => h) (Or.inl ⟨by rfl, ?thay10⟩) (by assumption) ?thar10
                  case thay10 => intro w' hSw; obtain ⟨_, q1, q2⟩ := hSw; go_simp; (try with_reducible rfl)
                  case' thar10 => simp only [Act.put, List.setIfInBounds_toArray, List.set_cons_zero, List.set_cons_succ]
                  refine take_at (i := 11) (d := 177) (v := ?thav11) rfl (by rfl) (by kernel_rfl) (by kernel_rfl) (by kernel_rfl) (fun _ _ _ h => h) (Or.inl ⟨by rfl, ?thay11⟩) (by assumption) ?thar11
                  case thay11 => intro w' hSw; obtain ⟨_, q1, q2⟩ := hSw; go_simp; (try with_reducible rfl)
                  case' thar11 => simp only [Act.put, List.setIfInBounds_toArray, List.set_cons_zero, List.set_cons_succ]
                  refine take_at (i := 12) (d := 178) (v := ?thav12) rfl (by rfl) (by kernel_rfl) (by kernel_rfl) (by kernel_rfl) (fun _ _ _ h => h) (Or.inl ⟨by rfl, ?thay12⟩) (by assumption) ?thar12
                  case thay12 => intro w' hSw; obtain ⟨_, q1, q2⟩ := hSw; go_simp; (try with_reducible rfl)
                  case' thar12 => simp only [Act.put, List.setIfInBounds_toArray, List.set_cons_zero, List.set_cons_succ]
                  rw [← HA2.out]
                  have hbd0 : Below wr.heap.size wr wr.drew := (Below.refl _ _).drew
                  obtain ⟨wd, hwd⟩ : ∃ wd, wd = wr.drew := ⟨_, rfl⟩
                  rw [← hwd] at hbd0 hHeld ⊢
                  clear hwd
                  refine wpAnyH_ready (rs := [2, 15]) (by kernel_rfl) (by simp) ?yc
                  refine AllReadyH.cons rfl (fun K hK => ?yb2) (AllReadyH.cons rfl (fun K hK => ?yb15) AllReadyH.nil)
                  case yb2 =>
                    obtain ⟨wya, hwya⟩ : ∃ wya, wya = wd.alloc (.cells #[] 51) := ⟨_, rfl⟩
                    have hMya : Made wr (.slice (some ⟨wd.heap.size, 0, none⟩) 0 0) 0 [] wya := by rw [hwya]; exact Made.void hbd0
                    go_simp
                    refine hK.out _ _ ?yah (fun hHeld => ?yar)
                    case yah => rw [← hwya]; exact HHS.out _ hMya.bel
                    case' yar => (clear hK K; try simp only [Act.put, List.setIfInBounds_toArray, List.set_cons_zero, List.set_cons_succ])
                    rw [← hwya] at hHeld ⊢
                    clear hwya
                    refine wpAnyH_ready (rs := [7, 15]) (by kernel_rfl) (by simp) ?yac
                    refine AllReadyH.cons rfl (fun K hK => ?yab7) (AllReadyH.cons rfl (fun K hK => ?yab15) AllReadyH.nil)
                    case yab7 =>
                      refine step_append_any _ (by rfl) _ _ 22 (by rfl) wr.heap.size 51 i0 (.agg #[.int .i64 0, .int .i64 0]) 2 16 Try.underlying22 HI.out HZ0.out.1 HZ0.out.2.1 HZ0.out.2.2 rfl (by decide) _ 0 ([]) (by rfl) hMya.own _ (some ⟨b, off, none⟩) k ch (edgeCells (((leanG g).es.drop 0).take k)) (by rfl) (HRA.out _ hMya.bel) (edgeCells_one _) (by simp only [maxLen]; omega) (by omega) hMya.bel.size ?_
                      intro vyab wyab hoyab hgyab hatyab
                      have hMyab := hMya.app hoyab hgyab
                      rw [Nat.zero_add, List.nil_append] at hMyab
                      obtain ⟨Xyab, cyab, hvyab, _, _⟩ := own_rowS hMyab.own
                      subst hvyab
                      clear hoyab hgyab hatyab
                      refine hK.out _ _ ?yabh (fun hHeld => ?yabr)
                      case yabh => exact HHS.out _ hMyab.bel
                      case' yabr => (clear hK K; simp only [Act.put, List.getElem_toArray, List.getElem_cons_succ, List.getElem_cons_zero, List.setIfInBounds_toArray, List.set_cons_zero, List.set_cons_succ])
                      refine wpAnyH_ready (rs := [13, 15]) (by kernel_rfl) (by simp) ?yabc
                      refine AllReadyH.cons rfl (fun K hK => ?yabb13) (AllReadyH.cons rfl (fun K hK => ?yabb15) AllReadyH.nil)
                      case yabb13 =>
                        refine step_append_any _ (by rfl) _ _ 22 (by rfl) wr.heap.size 51 i0 (.agg #[.int .i64 0, .int .i64 0]) 2 16 Try.underlying22 HI.out HZ0.out.1 HZ0.out.2.1 HZ0.out.2.2 rfl (by decide) _ k (edgeCells (((leanG g).es.drop 0).take k)) (by rfl) hMyab.own _ A2 (L - (k + 1)) (ch - (k + 1)) (edgeCells (((leanG g).es.drop (k + 1)).take (L - (k + 1)))) (by rfl) (HRB.out _ hMyab.bel) (edgeCells_one _) (by simp only [maxLen]; omega) (by omega) hMyab.bel.size ?_
                        intro vyabc wyabc hoyabc hgyabc hatyabc
                        have hMyabc := hMyab.app hoyabc hgyabc
                        rw [HES.out, HLE.out] at hMyabc
                        obtain ⟨Xyabc, cyabc, hvyabc, _, _⟩ := own_rowS hMyabc.own
                        subst hvyabc
                        clear hoyabc hgyabc hatyabc
                        refine hK.out _ _ ?yabch (fun hHeld => ?yabcr)
                        case yabch => exact HHS.out _ hMyabc.bel
                        case' yabcr => (clear hK K; simp only [Act.put, List.getElem_toArray, List.getElem_cons_succ, List.getElem_cons_zero, List.setIfInBounds_toArray, List.set_cons_zero, List.set_cons_succ])
                        refine take_at (i := 14) (d := 180) (v := ?yabcv14) rfl (by rfl) (by kernel_rfl) (by kernel_rfl) (by kernel_rfl) (fun _ _ _ h => h) (Or.inl ⟨by rfl, ?yabcy14⟩) (by assumption) ?yabcr14
                        case yabcy14 => intro w' hSw; obtain ⟨_, q1, q2⟩ := hSw; go_simp; (try with_reducible rfl)
                        case' yabcr14 => simp only [Act.put, List.setIfInBounds_toArray, List.set_cons_zero, List.set_cons_succ]
                        refine wpAnyH_ready (rs := [15]) (by kernel_rfl) (by simp) ?yabcc
                        refine AllReadyH.cons rfl (fun K hK => ?yabcb15) AllReadyH.nil
                        obtain ⟨wyabcd, hwyabcd⟩ : ∃ wyabcd, wyabcd = wyabc.alloc (.cells #[.int .i64 0, .slice none 0 0] 24) := ⟨_, rfl⟩
                        obtain ⟨pb, hpb⟩ : ∃ pb, pb = wyabc.heap.size := ⟨_, rfl⟩
                        have hByabcd : Bx0 pb wyabcd := by rw [hwyabcd, hpb]; exact Bx0.new _
                        have hpyabcd : wr.heap.size ≤ pb := by rw [hpb]; exact hMyabc.bel.size
                        have hAyabcd := hMyabc.apart
                        rw [← hpb] at hAyabcd
                        have hMyabcd := hMyabc.alloc (.cells #[.int .i64 0, .slice none 0 0] 24)
                        rw [← hwyabcd] at hMyabcd
                        go_simp
                        refine hK.out _ _ ?yabcdh (fun hHeld => ?yabcdr)
                        case yabcdh => rw [← hwyabcd]; exact HHS.out _ hMyabcd.bel
                        case' yabcdr => (clear hK K; try simp only [Act.put, List.setIfInBounds_toArray, List.set_cons_zero, List.set_cons_succ])
                        rw [← hwyabcd] at hHeld ⊢
                        rw [← hpb]
                        clear hwyabcd hpb
                        refine wpAnyH_ready (rs := [16]) (by kernel_rfl) (by simp) ?yabcdzc
                        refine AllReadyH.cons rfl (fun K hK => ?yabcdzb) AllReadyH.nil
                        have e0 := hByabcd.c0
                        have e1 := hByabcd.c1
                        have ez := hByabcd.z 0
                        have ez1 := hByabcd.z 1
                        have hGyabcd := Lib.hid (made_done (n := (n : Int)) hMyabcd hByabcd hAyabcd hpyabcd)
                        go_simp
                        refine hK.out _ _ ?yabcdzh (fun hHeld => ?yabcdzr)
                        case yabcdzh => exact HHS.out _ hGyabcd.out.bel
                        case' yabcdzr => (clear hK K; try simp only [Act.put, List.setIfInBounds_toArray, List.set_cons_zero, List.set_cons_succ])
                        refine wpAnyH_done (by kernel_rfl) ?yabcdzq _
                        clear e0 e1 ez ez1
                        go_wp2_with fail
                        go_meet
                        have h9 := hGyabcd.out
                        rw [show (⟨(n : Int), (lessG (leanG g) k).es⟩ : XG) = lessG (leanG g) k by unfold lessG leanG; rw [HN.out]] at h9
                        exact h9
                      case yabb15 =>
                        obtain ⟨wyabd, hwyabd⟩ : ∃ wyabd, wyabd = wyab.alloc (.cells #[.int .i64 0, .slice none 0 0] 24) := ⟨_, rfl⟩
                        obtain ⟨pb, hpb⟩ : ∃ pb, pb = wyab.heap.size := ⟨_, rfl⟩
                        have hByabd : Bx0 pb wyabd := by rw [hwyabd, hpb]; exact Bx0.new _
                        have hpyabd : wr.heap.size ≤ pb := by rw [hpb]; exact hMyab.bel.size
                        have hAyabd := hMyab.apart
                        rw [← hpb] at hAyabd
                        have hMyabd := hMyab.alloc (.cells #[.int .i64 0, .slice none 0 0] 24)
                        rw [← hwyabd] at hMyabd
                        go_simp
                        refine hK.out _ _ ?yabdh (fun hHeld => ?yabdr)
                        case yabdh => rw [← hwyabd]; exact HHS.out _ hMyabd.bel
                        case' yabdr => (clear hK K; try simp only [Act.put, List.setIfInBounds_toArray, List.set_cons_zero, List.set_cons_succ])
                        rw [← hwyabd] at hHeld ⊢
                        rw [← hpb]
                        clear hwyabd hpb
                        refine wpAnyH_ready (rs := [13]) (by kernel_rfl) (by simp) ?yabdc
                        refine AllReadyH.cons rfl (fun K hK => ?yabdb13) AllReadyH.nil
                        refine step_append_any _ (by rfl) _ _ 22 (by rfl) wr.heap.size 51 i0 (.agg #[.int .i64 0, .int .i64 0]) 2 16 Try.underlying22 HI.out HZ0.out.1 HZ0.out.2.1 HZ0.out.2.2 rfl (by decide) _ k (edgeCells (((leanG g).es.drop 0).take k)) (by rfl) hMyabd.own _ A2 (L - (k + 1)) (ch - (k + 1)) (edgeCells (((leanG g).es.drop (k + 1)).take (L - (k + 1)))) (by rfl) (HRB.out _ hMyabd.bel) (edgeCells_one _) (by simp only [maxLen]; omega) (by omega) hMyabd.bel.size ?_
                        intro vyabdc wyabdc hoyabdc hgyabdc hatyabdc
                        have hMyabdc := hMyabd.app hoyabdc hgyabdc
                        rw [HES.out, HLE.out] at hMyabdc
                        have hByabdc := hByabd.grown hgyabdc hAyabd
                        have hAyabdc := app_apart hByabd hAyabd hatyabdc
                        have hpyabdc := hpyabd
                        obtain ⟨Xyabdc, cyabdc, hvyabdc, _, _⟩ := own_rowS hMyabdc.own
                        subst hvyabdc
                        clear hoyabdc hgyabdc hatyabdc
                        refine hK.out _ _ ?yabdch (fun hHeld => ?yabdcr)
                        case yabdch => exact HHS.out _ hMyabdc.bel
                        case' yabdcr => (clear hK K; simp only [Act.put, List.getElem_toArray, List.getElem_cons_succ, List.getElem_cons_zero, List.setIfInBounds_toArray, List.set_cons_zero, List.set_cons_succ])
                        refine take_at (i := 14) (d := 180) (v := ?yabdcv14) rfl (by rfl) (by kernel_rfl) (by kernel_rfl) (by kernel_rfl) (fun _ _ _ h => h) (Or.inl ⟨by rfl, ?yabdcy14⟩) (by assumption) ?yabdcr14
                        case yabdcy14 => intro w' hSw; obtain ⟨_, q1, q2⟩ := hSw; go_simp; (try with_reducible rfl)
                        case' yabdcr14 => simp only [Act.put, List.setIfInBounds_toArray, List.set_cons_zero, List.set_cons_succ]
                        refine wpAnyH_ready (rs := [16]) (by kernel_rfl) (by simp) ?yabdczc
                        refine AllReadyH.cons rfl (fun K hK => ?yabdczb) AllReadyH.nil
                        have e0 := hByabdc.c0
                        have e1 := hByabdc.c1
                        have ez := hByabdc.z 0
                        have ez1 := hByabdc.z 1
                        have hGyabdc := Lib.hid (made_done (n := (n : Int)) hMyabdc hByabdc hAyabdc hpyabdc)
                        go_simp
                        refine hK.out _ _ ?yabdczh (fun hHeld => ?yabdczr)
                        case yabdczh => exact HHS.out _ hGyabdc.out.bel
                        case' yabdczr => (clear hK K; try simp only [Act.put, List.setIfInBounds_toArray, List.set_cons_zero, List.set_cons_succ])
                        refine wpAnyH_done (by kernel_rfl) ?yabdczq _
                        clear e0 e1 ez ez1
                        go_wp2_with fail
                        go_meet
                        have h9 := hGyabdc.out
                        rw [show (⟨(n : Int), (lessG (leanG g) k).es⟩ : XG) = lessG (leanG g) k by unfold lessG leanG; rw [HN.out]] at h9
                        exact h9
                    case yab15 =>
                      obtain ⟨wyad, hwyad⟩ : ∃ wyad, wyad = wya.alloc (.cells #[.int .i64 0, .slice none 0 0] 24) := ⟨_, rfl⟩
                      obtain ⟨pb, hpb⟩ : ∃ pb, pb = wya.heap.size := ⟨_, rfl⟩
                      have hByad : Bx0 pb wyad := by rw [hwyad, hpb]; exact Bx0.new _
                      have hpyad : wr.heap.size ≤ pb := by rw [hpb]; exact hMya.bel.size
                      have hAyad := hMya.apart
                      rw [← hpb] at hAyad
                      have hMyad := hMya.alloc (.cells #[.int .i64 0, .slice none 0 0] 24)
                      rw [← hwyad] at hMyad
                      go_simp
                      refine hK.out _ _ ?yadh (fun hHeld => ?yadr)
                      case yadh => rw [← hwyad]; exact HHS.out _ hMyad.bel
                      case' yadr => (clear hK K; try simp only [Act.put, List.setIfInBounds_toArray, List.set_cons_zero, List.set_cons_succ])
                      rw [← hwyad] at hHeld ⊢
                      rw [← hpb]
                      clear hwyad hpb
                      refine wpAnyH_ready (rs := [7]) (by kernel_rfl) (by simp) ?yadc
                      refine AllReadyH.cons rfl (fun K hK => ?yadb7) AllReadyH.nil
                      refine step_append_any _ (by rfl) _ _ 22 (by rfl) wr.heap.size 51 i0 (.agg #[.int .i64 0, .int .i64 0]) 2 16 Try.underlying22 HI.out HZ0.out.1 HZ0.out.2.1 HZ0.out.2.2 rfl (by decide) _ 0 ([]) (by rfl) hMyad.own _ (some ⟨b, off, none⟩) k ch (edgeCells (((leanG g).es.drop 0).take k)) (by rfl) (HRA.out _ hMyad.bel) (edgeCells_one _) (by simp only [maxLen]; omega) (by omega) hMyad.bel.size ?_
                      intro vyadb wyadb hoyadb hgyadb hatyadb
                      have hMyadb := hMyad.app hoyadb hgyadb
                      rw [Nat.zero_add, List.nil_append] at hMyadb
                      have hByadb := hByad.grown hgyadb hAyad
                      have hAyadb := app_apart hByad hAyad hatyadb
                      have hpyadb := hpyad
                      obtain ⟨Xyadb, cyadb, hvyadb, _, _⟩ := own_rowS hMyadb.own
                      subst hvyadb
                      clear hoyadb hgyadb hatyadb
                      refine hK.out _ _ ?yadbh (fun hHeld => ?yadbr)
                      case yadbh => exact HHS.out _ hMyadb.bel
                      case' yadbr => (clear hK K; simp only [Act.put, List.getElem_toArray, List.getElem_cons_succ, List.getElem_cons_zero, List.setIfInBounds_toArray, List.set_cons_zero, List.set_cons_succ])
                      refine wpAnyH_ready (rs := [13]) (by kernel_rfl) (by simp) ?yadbc
                      refine AllReadyH.cons rfl (fun K hK => ?yadbb13) AllReadyH.nil
                      refine step_append_any _ (by rfl) _ _ 22 (by rfl) wr.heap.size 51 i0 (.agg #[.int .i64 0, .int .i64 0]) 2 16 Try.underlying22 HI.out HZ0.out.1 HZ0.out.2.1 HZ0.out.2.2 rfl (by decide) _ k (edgeCells (((leanG g).es.drop 0).take k)) (by rfl) hMyadb.own _ A2 (L - (k + 1)) (ch - (k + 1)) (edgeCells (((leanG g).es.drop (k + 1)).take (L - (k + 1)))) (by rfl) (HRB.out _ hMyadb.bel) (edgeCells_one _) (by simp only [maxLen]; omega) (by omega) hMyadb.bel.size ?_
                      intro vyadbc wyadbc hoyadbc hgyadbc hatyadbc
                      have hMyadbc := hMyadb.app hoyadbc hgyadbc
                      rw [HES.out, HLE.out] at hMyadbc
                      have hByadbc := hByadb.grown hgyadbc hAyadb
                      have hAyadbc := app_apart hByadb hAyadb hatyadbc
                      have hpyadbc := hpyadb
                      obtain ⟨Xyadbc, cyadbc, hvyadbc, _, _⟩ := own_rowS hMyadbc.own
                      subst hvyadbc
                      clear hoyadbc hgyadbc hatyadbc
                      refine hK.out _ _ ?yadbch (fun hHeld => ?yadbcr)
                      case yadbch => exact HHS.out _ hMyadbc.bel
                      case' yadbcr => (clear hK K; simp only [Act.put, List.getElem_toArray, List.getElem_cons_succ, List.getElem_cons_zero, List.setIfInBounds_toArray, List.set_cons_zero, List.set_cons_succ])
                      refine take_at (i := 14) (d := 180) (v := ?yadbcv14) rfl (by rfl) (by kernel_rfl) (by kernel_rfl) (by kernel_rfl) (fun _ _ _ h => h) (Or.inl ⟨by rfl, ?yadbcy14⟩) (by assumption) ?yadbcr14
                      case yadbcy14 => intro w' hSw; obtain ⟨_, q1, q2⟩ := hSw; go_simp; (try with_reducible rfl)
                      case' yadbcr14 => simp only [Act.put, List.setIfInBounds_toArray, List.set_cons_zero, List.set_cons_succ]
                      refine wpAnyH_ready (rs := [16]) (by kernel_rfl) (by simp) ?yadbczc
                      refine AllReadyH.cons rfl (fun K hK => ?yadbczb) AllReadyH.nil
                      have e0 := hByadbc.c0
                      have e1 := hByadbc.c1
                      have ez := hByadbc.z 0
                      have ez1 := hByadbc.z 1
                      have hGyadbc := Lib.hid (made_done (n := (n : Int)) hMyadbc hByadbc hAyadbc hpyadbc)
                      go_simp
                      refine hK.out _ _ ?yadbczh (fun hHeld => ?yadbczr)
                      case yadbczh => exact HHS.out _ hGyadbc.out.bel
                      case' yadbczr => (clear hK K; try simp only [Act.put, List.setIfInBounds_toArray, List.set_cons_zero, List.set_cons_succ])
                      refine wpAnyH_done (by kernel_rfl) ?yadbczq _
                      clear e0 e1 ez ez1
                      go_wp2_with fail
                      go_meet
                      have h9 := hGyadbc.out
                      rw [show (⟨(n : Int), (lessG (leanG g) k).es⟩ : XG) = lessG (leanG g) k by unfold lessG leanG; rw [HN.out]] at h9
                      exact h9
                  case yb15 =>
                    obtain ⟨wyd, hwyd⟩ : ∃ wyd, wyd = wd.alloc (.cells #[.int .i64 0, .slice none 0 0] 24) := ⟨_, rfl⟩
                    obtain ⟨pb, hpb⟩ : ∃ pb, pb = wd.heap.size := ⟨_, rfl⟩
                    have hByd : Bx0 pb wyd := by rw [hwyd, hpb]; exact Bx0.new _
                    have hpyd : wr.heap.size ≤ pb := by rw [hpb]; exact hbd0.size
                    have hbdyd : Below wr.heap.size wr wyd := by rw [hwyd]; exact hbd0.alloc hbd0.size _
                    go_simp
                    refine hK.out _ _ ?ydh (fun hHeld => ?ydr)
                    case ydh => rw [← hwyd]; exact HHS.out _ hbdyd
                    case' ydr => (clear hK K; try simp only [Act.put, List.setIfInBounds_toArray, List.set_cons_zero, List.set_cons_succ])
                    rw [← hwyd] at hHeld ⊢
                    rw [← hpb]
                    clear hwyd hpb
                    refine wpAnyH_ready (rs := [2]) (by kernel_rfl) (by simp) ?ydc
                    refine AllReadyH.cons rfl (fun K hK => ?ydb2) AllReadyH.nil
                    obtain ⟨wyda, hwyda⟩ : ∃ wyda, wyda = wyd.alloc (.cells #[] 51) := ⟨_, rfl⟩
                    have hMyda : Made wr (.slice (some ⟨wyd.heap.size, 0, none⟩) 0 0) 0 [] wyda := by rw [hwyda]; exact Made.void hbdyd
                    have hByda : Bx0 pb wyda := by rw [hwyda]; exact hByd.alloc _
                    have hAyda := void_apart hByd
                    have hpyda := hpyd
                    go_simp
                    refine hK.out _ _ ?ydah (fun hHeld => ?ydar)
                    case ydah => rw [← hwyda]; exact HHS.out _ hMyda.bel
                    case' ydar => (clear hK K; try simp only [Act.put, List.setIfInBounds_toArray, List.set_cons_zero, List.set_cons_succ])
                    rw [← hwyda] at hHeld ⊢
                    clear hwyda
                    refine wpAnyH_ready (rs := [7]) (by kernel_rfl) (by simp) ?ydac
                    refine AllReadyH.cons rfl (fun K hK => ?ydab7) AllReadyH.nil
                    refine step_append_any _ (by rfl) _ _ 22 (by rfl) wr.heap.size 51 i0 (.agg #[.int .i64 0, .int .i64 0]) 2 16 Try.underlying22 HI.out HZ0.out.1 HZ0.out.2.1 HZ0.out.2.2 rfl (by decide) _ 0 ([]) (by rfl) hMyda.own _ (some ⟨b, off, none⟩) k ch (edgeCells (((leanG g).es.drop 0).take k)) (by rfl) (HRA.out _ hMyda.bel) (edgeCells_one _) (by simp only [maxLen]; omega) (by omega) hMyda.bel.size ?_
                    intro vydab wydab hoydab hgydab hatydab
                    have hMydab := hMyda.app hoydab hgydab
                    rw [Nat.zero_add, List.nil_append] at hMydab
                    have hBydab := hByda.grown hgydab hAyda
                    have hAydab := app_apart hByda hAyda hatydab
                    have hpydab := hpyda
                    obtain ⟨Xydab, cydab, hvydab, _, _⟩ := own_rowS hMydab.own
                    subst hvydab
                    clear hoydab hgydab hatydab
                    refine hK.out _ _ ?ydabh (fun hHeld => ?ydabr)
                    case ydabh => exact HHS.out _ hMydab.bel
                    case' ydabr => (clear hK K; simp only [Act.put, List.getElem_toArray, List.getElem_cons_succ, List.getElem_cons_zero, List.setIfInBounds_toArray, List.set_cons_zero, List.set_cons_succ])
                    refine wpAnyH_ready (rs := [13]) (by kernel_rfl) (by simp) ?ydabc
                    refine AllReadyH.cons rfl (fun K hK => ?ydabb13) AllReadyH.nil
                    refine step_append_any _ (by rfl) _ _ 22 (by rfl) wr.heap.size 51 i0 (.agg #[.int .i64 0, .int .i64 0]) 2 16 Try.underlying22 HI.out HZ0.out.1 HZ0.out.2.1 HZ0.out.2.2 rfl (by decide) _ k (edgeCells (((leanG g).es.drop 0).take k)) (by rfl) hMydab.own _ A2 (L - (k + 1)) (ch - (k + 1)) (edgeCells (((leanG g).es.drop (k + 1)).take (L - (k + 1)))) (by rfl) (HRB.out _ hMydab.bel) (edgeCells_one _) (by simp only [maxLen]; omega) (by omega) hMydab.bel.size ?_
                    intro vydabc wydabc hoydabc hgydabc hatydabc
                    have hMydabc := hMydab.app hoydabc hgydabc
                    rw [HES.out, HLE.out] at hMydabc
                    have hBydabc := hBydab.grown hgydabc hAydab
                    have hAydabc := app_apart hBydab hAydab hatydabc
                    have hpydabc := hpydab
                    obtain ⟨Xydabc, cydabc, hvydabc, _, _⟩ := own_rowS hMydabc.own
                    subst hvydabc
                    clear hoydabc hgydabc hatydabc
                    refine hK.out _ _ ?ydabch (fun hHeld => ?ydabcr)
                    case ydabch => exact HHS.out _ hMydabc.bel
                    case' ydabcr => (clear hK K; simp only [Act.put, List.getElem_toArray, List.getElem_cons_succ, List.getElem_cons_zero, List.setIfInBounds_toArray, List.set_cons_zero, List.set_cons_succ])
                    refine take_at (i := 14) (d := 180) (v := ?ydabcv14) rfl (by rfl) (by kernel_rfl) (by kernel_rfl) (by kernel_rfl) (fun _ _ _ h => h) (Or.inl ⟨by rfl, ?ydabcy14⟩) (by assumption) ?ydabcr14
                    case ydabcy14 => intro w' hSw; obtain ⟨_, q1, q2⟩ := hSw; go_simp; (try with_reducible rfl)
                    case' ydabcr14 => simp only [Act.put, List.setIfInBounds_toArray, List.set_cons_zero, List.set_cons_succ]
                    refine wpAnyH_ready (rs := [16]) (by kernel_rfl) (by simp) ?ydabczc
                    refine AllReadyH.cons rfl (fun K hK => ?ydabczb) AllReadyH.nil
                    have e0 := hBydabc.c0
                    have e1 := hBydabc.c1
                    have ez := hBydabc.z 0
                    have ez1 := hBydabc.z 1
                    have hGydabc := Lib.hid (made_done (n := (n : Int)) hMydabc hBydabc hAydabc hpydabc)
                    go_simp
                    refine hK.out _ _ ?ydabczh (fun hHeld => ?ydabczr)
                    case ydabczh => exact HHS.out _ hGydabc.out.bel
                    case' ydabczr => (clear hK K; try simp only [Act.put, List.setIfInBounds_toArray, List.set_cons_zero, List.set_cons_succ])
                    refine wpAnyH_done (by kernel_rfl) ?ydabczq _
                    clear e0 e1 ez ez1
                    go_wp2_with fail
                    go_meet
                    have h9 := hGydabc.out
                    rw [show (⟨(n : Int), (lessG (leanG g) k).es⟩ : XG) = lessG (leanG g) k by unfold lessG leanG; rw [HN.out]] at h9
                    exact h9
                  -- end t
              case rest =>
                obtain ⟨⟨pg, Xl, cl, rfl, mg0, mg1, hgm⟩, hbm⟩ := hcut
                obtain ⟨wm, rfl⟩ : ∃ wm : World, wm = wc := ⟨_, rfl⟩
                have hbW := HBR.out.trans (hbm.mono HBR.out.size)
                obtain ⟨m0, m1, hgm1, _, m4, _, hbB9⟩ := HCL.out wm hbW
                have hex := kept_cell HEX.out hbm
                have hey := kept_cell HEY.out hbm
                have hls : (lessG (leanG g) k).es.length = L - 1 := by
                  show ((leanG g).es.take k ++ (leanG g).es.drop (k + 1)).length = L - 1
                  rw [List.length_append, List.length_take, List.length_drop, ← HL.out]
                  omega
                have hval2 : (lessG (leanG g) k).val Xl cl = .agg #[.int .i64 (n : Int), .slice Xl (L - 1) cl] := by
                  unfold XG.val
                  rw [hls]
                  show Value.agg #[.int .i64 g.n, _] = _
                  rw [HN.out]
                have mg0' : wm.cell? ⟨pg, 0, none⟩ = some (.int .i64 (n : Int)) := by rw [mg0]; show some (Value.int .i64 g.n) = _; rw [HN.out]
                have heq : ∀ W, Below wm.heap.size wm W → Calls Try.prog 44 #[.agg #[.int .i64 (n : Int), .slice E m d], .int .i64 ex, .int .i64 ey] W fun e w' => e = .returned (.bool true) ∧ Below W.heap.size W w' := fun W hb => by
                  have := HED.out ex ey W (hgm1.below hb)
                  rwa [edgeB_iff.2 HEL.out] at this
                have hwq : ∀ W, Below wm.heap.size wm W → Calls Try.prog 43 #[.agg #[.int .i64 (n : Int), .slice Xl (L - 1) cl], .int .i64 ex, .int .i64 ey] W fun e w' => e = .returned (.bool false) ∧ Below W.heap.size W w' := fun W hb => by
                  have := way_c (lessG (leanG g) k) Xl cl ex ey W (hgm.below hb) (by rw [hls]; omega)
                  rwa [HWL.out, hval2] at this
                have hkc : ∀ w' w'', (Below wm.heap.size wm w' ∧ w'.cell? ⟨w.heap.size, 0, none⟩ = some (.int .i64 (n : Int)) ∧ w'.cell? ⟨w.heap.size, 1, none⟩ = some (.slice E m d) ∧ w'.cell? ⟨w4.heap.size, 1, none⟩ = some (.slice (some ⟨b, off, none⟩) L ch) ∧ w'.cell? ⟨b, off + k * 2, none⟩ = some (.int .i64 ex) ∧ w'.cell? ⟨b, off + k * 2 + 1, none⟩ = some (.int .i64 ey) ∧ w'.cell? ⟨pg, 0, none⟩ = some (.int .i64 (n : Int)) ∧ w'.cell? ⟨pg, 1, none⟩ = some (.slice Xl (L - 1) cl)) → Below w'.heap.size w' w'' →
                    (Below wm.heap.size wm w'' ∧ w''.cell? ⟨w.heap.size, 0, none⟩ = some (.int .i64 (n : Int)) ∧ w''.cell? ⟨w.heap.size, 1, none⟩ = some (.slice E m d) ∧ w''.cell? ⟨w4.heap.size, 1, none⟩ = some (.slice (some ⟨b, off, none⟩) L ch) ∧ w''.cell? ⟨b, off + k * 2, none⟩ = some (.int .i64 ex) ∧ w''.cell? ⟨b, off + k * 2 + 1, none⟩ = some (.int .i64 ey) ∧ w''.cell? ⟨pg, 0, none⟩ = some (.int .i64 (n : Int)) ∧ w''.cell? ⟨pg, 1, none⟩ = some (.slice Xl (L - 1) cl)) := fun w' w'' h hb =>
                  ⟨h.1.trans (hb.mono h.1.size), kept_cell h.2.1 hb, kept_cell h.2.2.1 hb, kept_cell h.2.2.2.1 hb, kept_cell h.2.2.2.2.1 hb, kept_cell h.2.2.2.2.2.1 hb, kept_cell h.2.2.2.2.2.2.1 hb, kept_cell h.2.2.2.2.2.2.2 hb⟩
                have HEQ := Lib.hid heq
                have HWQ := Lib.hid hwq
                have HKC := Lib.hid hkc
                have HBB9 := Lib.hid hbB9
                have mg0 := mg0'
                clear heq hwq hkc hbB9 hls hval2 mg0' hgm1 hbW hbm hgm hkw hkt
                go_upto_region 38 with (fail)
                -- begin rf
                refine wp_region_held_drew (S := (fun w' => Below wm.heap.size wm w' ∧ w'.cell? ⟨w.heap.size, 0, none⟩ = some (.int .i64 (n : Int)) ∧ w'.cell? ⟨w.heap.size, 1, none⟩ = some (.slice E m d) ∧ w'.cell? ⟨w4.heap.size, 1, none⟩ = some (.slice (some ⟨b, off, none⟩) L ch) ∧ w'.cell? ⟨b, off + k * 2, none⟩ = some (.int .i64 ex) ∧ w'.cell? ⟨b, off + k * 2 + 1, none⟩ = some (.int .i64 ey) ∧ w'.cell? ⟨pg, 0, none⟩ = some (.int .i64 (n : Int)) ∧ w'.cell? ⟨pg, 1, none⟩ = some (.slice Xl (L - 1) cl))) (by kernel_rfl) ?rfxs (fun hHeld => ?rfxr)
                case rfxs => exact ⟨(Below.refl _ _).drew, m0, m1, m4, hex, hey, mg0, mg1⟩
                refine take_at (i := 0) (d := 181) (v := ?rfxv0) rfl (by rfl) (by kernel_rfl) (by kernel_rfl) (by kernel_rfl) (fun _ _ _ h => h) (Or.inl ⟨by rfl, ?rfxy0⟩) (by assumption) ?rfxr0
                case rfxy0 => intro w' hSw; obtain ⟨_, q1, q2, q3, q4, q5, q6, q7⟩ := hSw; go_simp; (try with_reducible rfl)
                case' rfxr0 => simp only [Act.put, List.setIfInBounds_toArray, List.set_cons_zero, List.set_cons_succ]
                refine take_at (i := 1) (d := 182) (v := ?rfxv1) rfl (by rfl) (by kernel_rfl) (by kernel_rfl) (by kernel_rfl) (fun _ _ _ h => h) (Or.inl ⟨by rfl, ?rfxy1⟩) (by assumption) ?rfxr1
                case rfxy1 => intro w' hSw; obtain ⟨_, q1, q2, q3, q4, q5, q6, q7⟩ := hSw; go_simp; (try with_reducible rfl)
                case' rfxr1 => simp only [Act.put, List.setIfInBounds_toArray, List.set_cons_zero, List.set_cons_succ]
                refine take_at (i := 2) (d := 183) (v := ?rfxv2) rfl (by rfl) (by kernel_rfl) (by kernel_rfl) (by kernel_rfl) (fun _ _ _ h => h) (Or.inl ⟨by rfl, ?rfxy2⟩) (by assumption) ?rfxr2
                case rfxy2 => intro w' hSw; obtain ⟨_, q1, q2, q3, q4, q5, q6, q7⟩ := hSw; go_simp; (try with_reducible rfl)
                case' rfxr2 => simp only [Act.put, List.setIfInBounds_toArray, List.set_cons_zero, List.set_cons_succ]
                refine take_at (i := 3) (d := 184) (v := ?rfxv3) rfl (by rfl) (by kernel_rfl) (by kernel_rfl) (by kernel_rfl) (fun _ _ _ h => h) (Or.inl ⟨by rfl, ?rfxy3⟩) (by assumption) ?rfxr3
                case rfxy3 => intro w' hSw; obtain ⟨_, q1, q2, q3, q4, q5, q6, q7⟩ := hSw; go_simp; (try with_reducible rfl)
                case' rfxr3 => simp only [Act.put, List.setIfInBounds_toArray, List.set_cons_zero, List.set_cons_succ]
                refine take_at (i := 4) (d := 185) (v := ?rfxv4) rfl (by rfl) (by kernel_rfl) (by kernel_rfl) (by kernel_rfl) (fun _ _ _ h => h) (Or.inl ⟨by rfl, ?rfxy4⟩) (by assumption) ?rfxr4
                case rfxy4 => intro w' hSw; obtain ⟨_, q1, q2, q3, q4, q5, q6, q7⟩ := hSw; go_simp; (try with_reducible rfl)
                case' rfxr4 => simp only [Act.put, List.setIfInBounds_toArray, List.set_cons_zero, List.set_cons_succ]
                refine take_at (i := 5) (d := 186) (v := ?rfxv5) rfl (by rfl) (by kernel_rfl) (by kernel_rfl) (by kernel_rfl) (fun _ _ _ h => h) (Or.inl ⟨by rfl, ?rfxy5⟩) (by assumption) ?rfxr5
                case rfxy5 => intro w' hSw; obtain ⟨_, q1, q2, q3, q4, q5, q6, q7⟩ := hSw; go_simp; (try with_reducible rfl)
                case' rfxr5 => simp only [Act.put, List.setIfInBounds_toArray, List.set_cons_zero, List.set_cons_succ]
                refine take_at (i := 6) (d := 187) (v := ?rfxv6) rfl (by rfl) (by kernel_rfl) (by kernel_rfl) (by kernel_rfl) (fun _ _ _ h => h) (Or.inl ⟨by rfl, ?rfxy6⟩) (by assumption) ?rfxr6
                case rfxy6 => intro w' hSw; obtain ⟨_, q1, q2, q3, q4, q5, q6, q7⟩ := hSw; go_simp; (try with_reducible rfl)
                case' rfxr6 => simp only [Act.put, List.setIfInBounds_toArray, List.set_cons_zero, List.set_cons_succ]
                refine take_at (i := 7) (d := 188) (v := ?rfxv7) rfl (by rfl) (by kernel_rfl) (by kernel_rfl) (by kernel_rfl) (fun _ _ _ h => h) (Or.inl ⟨by rfl, ?rfxy7⟩) (by assumption) ?rfxr7
                case rfxy7 => intro w' hSw; obtain ⟨_, q1, q2, q3, q4, q5, q6, q7⟩ := hSw; go_simp; (try with_reducible rfl)
                case' rfxr7 => simp only [Act.put, List.setIfInBounds_toArray, List.set_cons_zero, List.set_cons_succ]
                refine take_at (i := 8) (d := 189) (v := ?rfxv8) rfl (by rfl) (by kernel_rfl) (by kernel_rfl) (by kernel_rfl) (fun _ _ _ h => h) (Or.inl ⟨by rfl, ?rfxy8⟩) (by assumption) ?rfxr8
                case rfxy8 => intro w' hSw; obtain ⟨_, q1, q2, q3, q4, q5, q6, q7⟩ := hSw; go_simp; (try with_reducible rfl)
                case' rfxr8 => simp only [Act.put, List.setIfInBounds_toArray, List.set_cons_zero, List.set_cons_succ]
                refine take_at (i := 9) (d := 190) (v := ?rfxv9) rfl (by rfl) (by kernel_rfl) (by kernel_rfl) (by kernel_rfl) (fun _ _ _ h => h) (Or.inl ⟨by rfl, ?rfxy9⟩) (by assumption) ?rfxr9
                case rfxy9 => intro w' hSw; obtain ⟨_, q1, q2, q3, q4, q5, q6, q7⟩ := hSw; go_simp; (try with_reducible rfl)
                case' rfxr9 => simp only [Act.put, List.setIfInBounds_toArray, List.set_cons_zero, List.set_cons_succ]
                refine take_at (i := 10) (d := 191) (v := ?rfxv10) rfl (by rfl) (by kernel_rfl) (by kernel_rfl) (by kernel_rfl) (fun _ _ _ h => h) (Or.inl ⟨by rfl, ?rfxy10⟩) (by assumption) ?rfxr10
                case rfxy10 => intro w' hSw; obtain ⟨_, q1, q2, q3, q4, q5, q6, q7⟩ := hSw; go_simp; (try with_reducible rfl)
                case' rfxr10 => simp only [Act.put, List.setIfInBounds_toArray, List.set_cons_zero, List.set_cons_succ]
                refine take_at (i := 11) (d := 192) (v := ?rfxv11) rfl (by rfl) (by kernel_rfl) (by kernel_rfl) (by kernel_rfl) (fun _ _ _ h => h) (Or.inl ⟨by rfl, ?rfxy11⟩) (by assumption) ?rfxr11
                case rfxy11 => intro w' hSw; obtain ⟨_, q1, q2, q3, q4, q5, q6, q7⟩ := hSw; go_simp; (try with_reducible rfl)
                case' rfxr11 => simp only [Act.put, List.setIfInBounds_toArray, List.set_cons_zero, List.set_cons_succ]
                refine take_at (i := 12) (d := 193) (v := ?rfxv12) rfl (by rfl) (by kernel_rfl) (by kernel_rfl) (by kernel_rfl) (fun _ _ _ h => h) (Or.inl ⟨by rfl, ?rfxy12⟩) (by assumption) ?rfxr12
                case rfxy12 => intro w' hSw; obtain ⟨_, q1, q2, q3, q4, q5, q6, q7⟩ := hSw; go_simp; (try with_reducible rfl)
                case' rfxr12 => simp only [Act.put, List.setIfInBounds_toArray, List.set_cons_zero, List.set_cons_succ]
                refine wpAnyH_ready (rs := [13]) (by kernel_rfl) (by simp) ?rfxc13
                refine AllReadyH.cons rfl (fun K hK => ?rfxb13) AllReadyH.nil
                go_simp
                go_at_call 44; refine (HEQ.out _ hHeld.1).mono ?_; rintro e w8 ⟨rfl, hb8⟩
                refine hK.out _ _ ?rfxh13 (fun hHeld => ?rfxr13)
                case rfxh13 => exact HKC.out _ _ hHeld hb8
                case' rfxr13 => (clear hK K; try simp only [Act.put, List.setIfInBounds_toArray, List.set_cons_zero, List.set_cons_succ])
                refine take_at (i := 14) (d := 195) (v := ?rfxv14) rfl (by rfl) (by kernel_rfl) (by kernel_rfl) (by kernel_rfl) (fun _ _ _ h => h) (Or.inl ⟨by rfl, ?rfxy14⟩) (by assumption) ?rfxr14
                case rfxy14 => intro w' hSw; obtain ⟨_, q1, q2, q3, q4, q5, q6, q7⟩ := hSw; go_simp; (try with_reducible rfl)
                case' rfxr14 => simp only [Act.put, List.setIfInBounds_toArray, List.set_cons_zero, List.set_cons_succ]
                refine take_at (i := 15) (d := 196) (v := ?rfxv15) rfl (by rfl) (by kernel_rfl) (by kernel_rfl) (by kernel_rfl) (fun _ _ _ h => h) (Or.inl ⟨by rfl, ?rfxy15⟩) (by assumption) ?rfxr15
                case rfxy15 => intro w' hSw; obtain ⟨_, q1, q2, q3, q4, q5, q6, q7⟩ := hSw; go_simp; (try with_reducible rfl)
                case' rfxr15 => simp only [Act.put, List.setIfInBounds_toArray, List.set_cons_zero, List.set_cons_succ]
                refine take_at (i := 16) (d := 197) (v := ?rfxv16) rfl (by rfl) (by kernel_rfl) (by kernel_rfl) (by kernel_rfl) (fun _ _ _ h => h) (Or.inl ⟨by rfl, ?rfxy16⟩) (by assumption) ?rfxr16
                case rfxy16 => intro w' hSw; obtain ⟨_, q1, q2, q3, q4, q5, q6, q7⟩ := hSw; go_simp; (try with_reducible rfl)
                case' rfxr16 => simp only [Act.put, List.setIfInBounds_toArray, List.set_cons_zero, List.set_cons_succ]
                refine take_at (i := 17) (d := 198) (v := ?rfxv17) rfl (by rfl) (by kernel_rfl) (by kernel_rfl) (by kernel_rfl) (fun _ _ _ h => h) (Or.inl ⟨by rfl, ?rfxy17⟩) (by assumption) ?rfxr17
                case rfxy17 => intro w' hSw; obtain ⟨_, q1, q2, q3, q4, q5, q6, q7⟩ := hSw; go_simp; (try with_reducible rfl)
                case' rfxr17 => simp only [Act.put, List.setIfInBounds_toArray, List.set_cons_zero, List.set_cons_succ]
                refine take_at (i := 18) (d := 199) (v := ?rfxv18) rfl (by rfl) (by kernel_rfl) (by kernel_rfl) (by kernel_rfl) (fun _ _ _ h => h) (Or.inl ⟨by rfl, ?rfxy18⟩) (by assumption) ?rfxr18
                case rfxy18 => intro w' hSw; obtain ⟨_, q1, q2, q3, q4, q5, q6, q7⟩ := hSw; go_simp; (try with_reducible rfl)
                case' rfxr18 => simp only [Act.put, List.setIfInBounds_toArray, List.set_cons_zero, List.set_cons_succ]
                refine take_at (i := 19) (d := 200) (v := ?rfxv19) rfl (by rfl) (by kernel_rfl) (by kernel_rfl) (by kernel_rfl) (fun _ _ _ h => h) (Or.inl ⟨by rfl, ?rfxy19⟩) (by assumption) ?rfxr19
                case rfxy19 => intro w' hSw; obtain ⟨_, q1, q2, q3, q4, q5, q6, q7⟩ := hSw; go_simp; (try with_reducible rfl)
                case' rfxr19 => simp only [Act.put, List.setIfInBounds_toArray, List.set_cons_zero, List.set_cons_succ]
                refine take_at (i := 20) (d := 201) (v := ?rfxv20) rfl (by rfl) (by kernel_rfl) (by kernel_rfl) (by kernel_rfl) (fun _ _ _ h => h) (Or.inl ⟨by rfl, ?rfxy20⟩) (by assumption) ?rfxr20
                case rfxy20 => intro w' hSw; obtain ⟨_, q1, q2, q3, q4, q5, q6, q7⟩ := hSw; go_simp; (try with_reducible rfl)
                case' rfxr20 => simp only [Act.put, List.setIfInBounds_toArray, List.set_cons_zero, List.set_cons_succ]
                refine take_at (i := 21) (d := 202) (v := ?rfxv21) rfl (by rfl) (by kernel_rfl) (by kernel_rfl) (by kernel_rfl) (fun _ _ _ h => h) (Or.inl ⟨by rfl, ?rfxy21⟩) (by assumption) ?rfxr21
                case rfxy21 => intro w' hSw; obtain ⟨_, q1, q2, q3, q4, q5, q6, q7⟩ := hSw; go_simp; (try with_reducible rfl)
                case' rfxr21 => simp only [Act.put, List.setIfInBounds_toArray, List.set_cons_zero, List.set_cons_succ]
                refine take_at (i := 22) (d := 203) (v := ?rfxv22) rfl (by rfl) (by kernel_rfl) (by kernel_rfl) (by kernel_rfl) (fun _ _ _ h => h) (Or.inl ⟨by rfl, ?rfxy22⟩) (by assumption) ?rfxr22
                case rfxy22 => intro w' hSw; obtain ⟨_, q1, q2, q3, q4, q5, q6, q7⟩ := hSw; go_simp; (try with_reducible rfl)
                case' rfxr22 => simp only [Act.put, List.setIfInBounds_toArray, List.set_cons_zero, List.set_cons_succ]
                refine take_at (i := 23) (d := 204) (v := ?rfxv23) rfl (by rfl) (by kernel_rfl) (by kernel_rfl) (by kernel_rfl) (fun _ _ _ h => h) (Or.inl ⟨by rfl, ?rfxy23⟩) (by assumption) ?rfxr23
                case rfxy23 => intro w' hSw; obtain ⟨_, q1, q2, q3, q4, q5, q6, q7⟩ := hSw; go_simp; (try with_reducible rfl)
                case' rfxr23 => simp only [Act.put, List.setIfInBounds_toArray, List.set_cons_zero, List.set_cons_succ]
                refine take_at (i := 24) (d := 205) (v := ?rfxv24) rfl (by rfl) (by kernel_rfl) (by kernel_rfl) (by kernel_rfl) (fun _ _ _ h => h) (Or.inl ⟨by rfl, ?rfxy24⟩) (by assumption) ?rfxr24
                case rfxy24 => intro w' hSw; obtain ⟨_, q1, q2, q3, q4, q5, q6, q7⟩ := hSw; go_simp; (try with_reducible rfl)
                case' rfxr24 => simp only [Act.put, List.setIfInBounds_toArray, List.set_cons_zero, List.set_cons_succ]
                refine take_at (i := 25) (d := 206) (v := ?rfxv25) rfl (by rfl) (by kernel_rfl) (by kernel_rfl) (by kernel_rfl) (fun _ _ _ h => h) (Or.inl ⟨by rfl, ?rfxy25⟩) (by assumption) ?rfxr25
                case rfxy25 => intro w' hSw; obtain ⟨_, q1, q2, q3, q4, q5, q6, q7⟩ := hSw; go_simp; (try with_reducible rfl)
                case' rfxr25 => simp only [Act.put, List.setIfInBounds_toArray, List.set_cons_zero, List.set_cons_succ]
                refine take_at (i := 26) (d := 207) (v := ?rfxv26) rfl (by rfl) (by kernel_rfl) (by kernel_rfl) (by kernel_rfl) (fun _ _ _ h => h) (Or.inl ⟨by rfl, ?rfxy26⟩) (by assumption) ?rfxr26
                case rfxy26 => intro w' hSw; obtain ⟨_, q1, q2, q3, q4, q5, q6, q7⟩ := hSw; go_simp; (try with_reducible rfl)
                case' rfxr26 => simp only [Act.put, List.setIfInBounds_toArray, List.set_cons_zero, List.set_cons_succ]
                refine take_at (i := 27) (d := 208) (v := ?rfxv27) rfl (by rfl) (by kernel_rfl) (by kernel_rfl) (by kernel_rfl) (fun _ _ _ h => h) (Or.inl ⟨by rfl, ?rfxy27⟩) (by assumption) ?rfxr27
                case rfxy27 => intro w' hSw; obtain ⟨_, q1, q2, q3, q4, q5, q6, q7⟩ := hSw; go_simp; (try with_reducible rfl)
                case' rfxr27 => simp only [Act.put, List.setIfInBounds_toArray, List.set_cons_zero, List.set_cons_succ]
                refine wpAnyH_ready (rs := [28]) (by kernel_rfl) (by simp) ?rfxc28
                refine AllReadyH.cons rfl (fun K hK => ?rfxb28) AllReadyH.nil
                go_simp
                go_at_call 43; refine (HWQ.out _ hHeld.1).mono ?_; rintro e w9 ⟨rfl, hb9⟩
                refine hK.out _ _ ?rfxh28 (fun hHeld => ?rfxr28)
                case rfxh28 => exact HKC.out _ _ hHeld hb9
                case' rfxr28 => (clear hK K; try simp only [Act.put, List.setIfInBounds_toArray, List.set_cons_zero, List.set_cons_succ])
                refine take_at (i := 29) (d := 210) (v := ?rfxv29) rfl (by rfl) (by kernel_rfl) (by kernel_rfl) (by kernel_rfl) (fun _ _ _ h => h) (Or.inl ⟨by rfl, ?rfxy29⟩) (by assumption) ?rfxr29
                case rfxy29 => intro w' hSw; obtain ⟨_, q1, q2, q3, q4, q5, q6, q7⟩ := hSw; go_simp; (try with_reducible rfl)
                case' rfxr29 => simp only [Act.put, List.setIfInBounds_toArray, List.set_cons_zero, List.set_cons_succ]
                refine take_at (i := 30) (d := 211) (v := ?rfxv30) rfl (by rfl) (by kernel_rfl) (by kernel_rfl) (by kernel_rfl) (fun _ _ _ h => h) (Or.inl ⟨by rfl, ?rfxy30⟩) (by assumption) ?rfxr30
                case rfxy30 => intro w' hSw; obtain ⟨_, q1, q2, q3, q4, q5, q6, q7⟩ := hSw; go_simp; (try with_reducible rfl)
                case' rfxr30 => simp only [Act.put, List.setIfInBounds_toArray, List.set_cons_zero, List.set_cons_succ]
                refine take_at (i := 31) (d := 6) (v := ?rfxv31) rfl (by rfl) (by kernel_rfl) (by kernel_rfl) (by kernel_rfl) (fun _ _ _ h => h) (Or.inl ⟨by rfl, ?rfxy31⟩) (by assumption) ?rfxr31
                case rfxy31 => intro w' hSw; obtain ⟨_, q1, q2, q3, q4, q5, q6, q7⟩ := hSw; go_simp; (try with_reducible rfl)
                case' rfxr31 => simp only [Act.put, List.setIfInBounds_toArray, List.set_cons_zero, List.set_cons_succ]
                refine wpAnyH_done (by kernel_rfl) ?rfxz _
                -- end rf
                have HE := Lib.hid (HBW.out.trans ((HBB9.out.trans (hHeld.1.mono HBB9.out.size)).mono (Nat.le_of_lt HLT.out)))
                clear hHeld
                go_wp2
                go_ret
                exact ⟨rfl, HE.out⟩
end Go.Proofs.Ytpdfcffeinbcaaa
