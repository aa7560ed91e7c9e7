/- The law GraphKahn. -/
import Derived.Test.YtpdfcffeinbcaaaH59
import Derived.Test.YtpdfcffeinbcaaaH60
import Derived.Test.YtpdfcffeinbcaaaH61
import Derived.Test.YtpdfcffeinbcaaaH32
import Derived.StillTailTactics
namespace Go.Proofs.Ytpdfcffeinbcaaa
open Go.RowKit
set_option maxHeartbeats 8000000 in
set_option maxRecDepth 100000 in
theorem kahn_c (g : XG) (E : Option Addr) (d : Nat) (w : World) (h : GAt w E g) (hl : g.es.length ≤ 8796093022208) :
    Calls Try.prog 8 #[g.val E d] w fun e w' => e = .returned (.bool true) ∧ Below w.heap.size w w' := by
  obtain ⟨m, hm⟩ : ∃ m, m = g.es.length := ⟨_, rfl⟩
  have hv : ∀ E d, g.val E d = .agg #[.int .i64 g.n, .slice E m d] := fun _ _ => by rw [hm]; rfl
  have hft := fun W h => fits_c g E d W h (by omega)
  have hro := fun W h => ground_c g E d W h (by omega)
  have hor := fun W h => gorder_c g E d W h (by omega)
  have hle := fun W h => glevels_c g E d W h (by omega)
  have htu := fun W h => gturn_c g E d W h (by omega)
  have hbx := box_at (w := w) (t := 24) g E d
  simp only [hv] at hft hro hor hle htu ⊢
  have HFT := Lib.hid hft
  have HRO := Lib.hid hro
  have HOR := Lib.hid hor
  have HLE := Lib.hid hle
  have HTU := Lib.hid htu
  have HM := Lib.hid hm
  obtain ⟨wB, hwB⟩ : ∃ wB, wB = w.alloc (.cells #[.int .i64 g.n, .slice E m d] 24) := ⟨_, rfl⟩
  rw [← hm, ← hwB] at hbx
  have hG := h.below hbx.bel
  have hcell : ∀ W, Below wB.heap.size wB W → W.cell? ⟨w.heap.size, 0, none⟩ = some (.int .i64 g.n) ∧ W.cell? ⟨w.heap.size, 1, none⟩ = some (.slice E m d) ∧ GAt W E g := fun W hb =>
    ⟨(hb.cell (p := ⟨w.heap.size, 0, none⟩) hbx.lt).trans hbx.c0, (hb.cell (p := ⟨w.heap.size, 1, none⟩) hbx.lt).trans (by rw [hbx.c1, hm]), hG.below hb⟩
  obtain ⟨c0, c1, hg0⟩ := hcell wB (Below.refl _ _)
  have HCELL := Lib.hid hcell
  have HBW := Lib.hid hbx.bel
  have HLT := Lib.hid hbx.lt
  have HG0 := Lib.hid hg0
  have HWB := Lib.hid hwB
  clear hft hro hor hle htu hm hv h hG hcell hg0 hbx hwB
  go_enter Try.func8, Try.ntmps8
  go_upto_region 1 with (fail)
  rw [← HWB.out]
  go_wp2_with fail
  go_at_call 41
  refine (works_c wB).mono ?_
  rintro e w1 ⟨rfl, hb1⟩
  obtain ⟨c0, c1, hg1⟩ := HCELL.out w1 hb1
  have HG1 := Lib.hid hg1
  have HB1 := Lib.hid hb1
  clear hg1 hb1
  go_wp2_with fail
  go_at_call 42
  refine (HFT.out w1 HG1.out).mono ?_
  rintro e w2 ⟨rfl, hb2⟩
  have hb2' := HB1.out.trans (hb2.mono HB1.out.size)
  obtain ⟨c0, c1, hg2⟩ := HCELL.out w2 hb2'
  have HG2 := Lib.hid hg2
  have HB2 := Lib.hid hb2'
  clear hg2 hb2 hb2'
  obtain ⟨fb, hfb⟩ : ∃ fb, fb = fitsB g := ⟨_, rfl⟩
  rw [← hfb]
  have HFB := Lib.hid hfb
  clear hfb
  cases fb with
  | false =>
    have HE := Lib.hid (HBW.out.trans (HB2.out.mono (Nat.le_of_lt HLT.out)))
    go_wp2
    go_ret
    exact ⟨rfl, HE.out⟩
  | true =>
    obtain ⟨hn0, hn24, hm200, hchk⟩ : 0 ≤ g.n ∧ g.n ≤ 24 ∧ g.es.length ≤ 200 ∧ chkF g = 0 := by
      have := HFB.out.symm
      unfold fitsB at this
      exact of_decide_eq_true this
    have hgood := chkF_good.1 hchk
    obtain ⟨n, hn⟩ : ∃ n : Nat, g.n = n := ⟨g.n.toNat, by omega⟩
    have hnn : g.n.toNat = n := by omega
    have hn4 : n ≤ 24 := by omega
    rw [hn] at c0
    obtain ⟨rl, hrl⟩ : ∃ rl, rl = roundL g := ⟨_, rfl⟩
    obtain ⟨ol, hol⟩ : ∃ ol, ol = ordL g := ⟨_, rfl⟩
    obtain ⟨lv, hlv⟩ : ∃ lv, lv = levL g := ⟨_, rfl⟩
    obtain ⟨ko, hko⟩ : ∃ ko, ko = ordE g := ⟨_, rfl⟩
    rw [← hrl, hchk, hn] at HRO
    rw [← hol, ← hko, hn] at HOR
    rw [← hlv, ← hko, hn] at HLE
    have hkr : ko = 0 ↔ rl = [] := by
      rw [hko, hrl, ← ord_round hgood]
      unfold ordE
      rw [if_pos hchk]
      split <;> simp_all
    have HGOOD := Lib.hid hgood
    have HN := Lib.hid hn
    have HNN := Lib.hid hnn
    have HKO := Lib.hid hko
    have HOL := Lib.hid hol
    have HLV := Lib.hid hlv
    have HKR := Lib.hid hkr
    have HRL := Lib.hid hrl
    have HCHK := Lib.hid hchk
    clear hgood hn hnn hrl hol hlv hko hkr hn0 hn24 hm200 hchk
    go_wp2_with fail
    go_at_call 37
    refine (HRO.out w2 HG2.out).mono ?_
    rintro e w3 ⟨X1, d1, rfl, _, hb3⟩
    have hb3' := HB2.out.trans (hb3.mono HB2.out.size)
    obtain ⟨c0, c1, hg3⟩ := HCELL.out w3 hb3'
    rw [HN.out] at c0
    have HG3 := Lib.hid hg3
    have HB3 := Lib.hid hb3'
    clear hg3 hb3 hb3'
    go_wp2_with fail
    go_at_call 25
    refine (HOR.out w3 HG3.out).mono ?_
    rintro e w4 ⟨X2, d2, rfl, hr4, hb4⟩
    have hb4' := HB3.out.trans (hb4.mono HB3.out.size)
    obtain ⟨c0, c1, hg4⟩ := HCELL.out w4 hb4'
    rw [HN.out] at c0
    have HR4 := Lib.hid hr4
    have HG4 := Lib.hid hg4
    have HB4 := Lib.hid hb4'
    clear hg4 hb4 hb4' hr4
    go_wp2_with fail
    go_at_call 27
    refine (HLE.out w4 HG4.out).mono ?_
    rintro e w5 ⟨X3, d3, rfl, hr5, hb5⟩
    have hb5' := HB4.out.trans (hb5.mono HB4.out.size)
    obtain ⟨c0, c1, hg5⟩ := HCELL.out w5 hb5'
    rw [HN.out] at c0
    have HR5 := Lib.hid (And.intro (HR4.out.below hb5) hr5)
    have HG5 := Lib.hid hg5
    have HB5 := Lib.hid hb5'
    clear hg5 hb5 hb5' hr5 HR4
    by_cases hk0 : ko = 0
    · have hrl : rl.length = 0 := by rw [HKR.out.1 hk0]; rfl
      obtain ⟨nl, hnl⟩ : ∃ nl, nl = rl.length := ⟨_, rfl⟩
      rw [← hnl] at hrl ⊢
      subst hrl
      obtain ⟨o, f, hka, ho, hlf⟩ := KahnOk.of (g := g) (by rw [← HKO.out]; exact hk0)
      obtain rfl : ol = o := HOL.out.trans ho
      obtain rfl : lv = (nodes n).map f := by rw [HLV.out, hlf, HNN.out]
      have hol : ol.length = n := by rw [hka.len]; exact HNN.out
      have hll : ((nodes n).map f).length = n := by rw [List.length_map, nodes_length]
      subst hk0
      have hlvl : ∀ W, Below w5.heap.size w5 W → ∀ x, x < n → ∃ b off, X3 = some ⟨b, off, none⟩ ∧ W.cell? ⟨b, off + x, none⟩ = some (.int .i64 (f x)) := fun W hb x hx => by
        obtain ⟨b, off, e, hc⟩ := (HR5.out.2.below hb).int (j := x) (by rw [hll]; exact hx)
        refine ⟨b, off, e, ?_⟩
        rw [hc]
        simp [nodes]
      have hord : ∀ W, Below w5.heap.size w5 W → ∀ i, i < n → ∃ b off, X2 = some ⟨b, off, none⟩ ∧ W.cell? ⟨b, off + i, none⟩ = some (.int .i64 (ol.getD i 0)) := fun W hb i hi => by
        obtain ⟨b, off, e, hc⟩ := (HR5.out.1.below hb).int (j := i) (by omega)
        exact ⟨b, off, e, by rw [hc]; simp [List.getD, show i < ol.length by omega]⟩
      have hbz : ∀ W, Below w5.heap.size w5 W → Below wB.heap.size wB W := fun W hb => HB5.out.trans (hb.mono HB5.out.size)
      have hcl : ∀ W, Below w5.heap.size w5 W → W.cell? ⟨w.heap.size, 0, none⟩ = some (.int .i64 (n : Int)) ∧ W.cell? ⟨w.heap.size, 1, none⟩ = some (.slice E m d) ∧ GAt W E g := fun W hb => by
        have h := HCELL.out W (hbz W hb)
        rwa [HN.out] at h
      rw [hol, hll]
      have hmk : ∀ W : World, (Instr.makeSlice 25 (.int .i64 (n : Int)) (.int .i64 (n : Int))).run Try.prog W = .ok (.slice (some ⟨W.heap.size, 0, none⟩) n n) (W.alloc (.cells (madeCells #[.int .i64 0] n) 3)) :=
        fun W => run_make_row' 25 3 (.int .i64 0) 8 Try.underlying25 info_int rfl .i64 .i64 n (by omega) (by omega) W
      have hmb : ∀ W : World, (Instr.makeSlice 49 (.int .i64 (n : Int)) (.int .i64 (n : Int))).run Try.prog W = .ok (.slice (some ⟨W.heap.size, 0, none⟩) n n) (W.alloc (.cells (madeCells #[.bool false] n) 4)) :=
        fun W => run_make_row' 49 4 (.bool false) 1 Try.underlying49 info_bool rfl .i64 .i64 n (by omega) (by omega) W
      obtain ⟨w7, hw7⟩ : ∃ w7, w7 = (w5.alloc (.cells (madeCells #[.int .i64 0] n) 3)).alloc (.cells (madeCells #[.bool false] n) 4) := ⟨_, rfl⟩
      obtain ⟨pb, hpb⟩ : ∃ pb, pb = w5.heap.size := ⟨_, rfl⟩
      obtain ⟨sb, hsb⟩ : ∃ sb, sb = w5.heap.size + 1 := ⟨_, rfl⟩
      have hp7 : NumAt w7 pb n (fun _ => 0) := by
        rw [hw7, hpb]; exact (num_made w5 n _).moves new_after (by simp)
      have hs7 : FlagAt w7 sb n (fun _ => false) := by
        have := flag_made (w5.alloc (.cells (madeCells #[.int .i64 0] n) 3)) n 4
        rw [al_size] at this
        rw [hw7, hsb]; exact this
      have hb7 : Below w5.heap.size w5 w7 := by
        have h1 : Below w5.heap.size w5 (w5.alloc (.cells (madeCells #[.int .i64 0] n) 3)) := (Below.refl _ _).alloc (Nat.le_refl _) _
        rw [hw7]; exact h1.alloc h1.size _
      have hps : pb ≠ sb := by omega
      have hp5 : w5.heap.size ≤ pb := by omega
      have hs5 : w5.heap.size ≤ sb := by omega
      have HW7 := Lib.hid hw7
      have HPB := Lib.hid hpb
      have HSB := Lib.hid hsb
      have HP7 := Lib.hid hp7
      have HS7 := Lib.hid hs7
      have HB7 := Lib.hid hb7
      have HKA := Lib.hid hka
      have HLVL := Lib.hid hlvl
      have HORD := Lib.hid hord
      have HCL := Lib.hid hcl
      have HOLN := Lib.hid hol
      clear hw7 hpb hsb hp7 hs7 hb7 hka hlvl hord hcl hol hll hnl ho hlf hbz c1 HR5 HG5 HG4 HG3 HG2 HG1 HG0
      have hlt5 : w.heap.size < w5.heap.size := Nat.lt_of_lt_of_le HLT.out HB5.out.size
      go_upto_region 16 with (fail)
      rw [← HW7.out, ← HSB.out, ← HPB.out]
      clear c0 hmk
      go_wp2
      go_loopw [11] (fun i wr => ∃ k : Nat, i = .int .i64 k ∧ k ≤ n ∧ NumAt wr pb n (fun x => plF ol k x) ∧ FlagAt wr sb n (fun x => decide ((x : Int) ∈ ol.take k)) ∧ Below w5.heap.size w5 wr) (fun i _ => n - (intOf i).toNat)
      case atStart => exact ⟨0, rfl, by omega, HP7.out, HS7.out.congr (fun i _ => by simp), HB7.out⟩
      case round =>
        obtain ⟨k, rfl, hk, hnum, hfl, hbe⟩ := hrel
        obtain ⟨c0, c1, _⟩ := HCL.out wr hbe
        by_cases hlt : k < n
        · have hk0 : (0 : Int) ≤ (k : Int) := by omega
          have hk1 : (k : Int) < (n : Int) := by omega
          obtain ⟨b2, o2, rfl, hz2⟩ := HORD.out wr hbe k hlt
          have hkl : k < ol.length := by have := HOLN.out; omega
          rw [show ol.getD k 0 = ol[k] by simp [List.getD, hkl]] at hz2
          have hzr := HKA.out.rng _ (List.getElem_mem hkl)
          have hnin : ol[k] ∉ ol.take k := fun hm => by
            obtain ⟨j, hj, e⟩ := List.mem_iff_getElem.1 hm
            rw [List.length_take] at hj
            rw [List.getElem_take] at e
            have := nd_inj HKA.out.nod _ _ e
            omega
          have hpl : plF ol (k + 1) = setI (plF ol k) ol[k] k := by
            show setI (plF ol k) (ol.getD k 0) k = _
            rw [show ol.getD k 0 = ol[k] by simp [List.getD, hkl]]
          have htk : ol.take (k + 1) = ol.take k ++ [ol[k]] := List.take_succ_eq_append_getElem hkl
          obtain ⟨z, hz⟩ : ∃ z : Nat, ol[k] = (z : Int) := ⟨ol[k].toNat, by omega⟩
          rw [hz] at hz2 hzr hnin hpl htk
          have hzn : z < n := by have := HN.out; omega
          have hz0 : (0 : Int) ≤ (z : Int) := by omega
          have hz1 : (z : Int) < (n : Int) := by omega
          have hzl : ¬ (z : Int) < 0 := by omega
          have hzg : ¬ (n : Int) ≤ (z : Int) := by omega
          have ks : wr.cell? ⟨sb, z, none⟩ = some (.bool false) := by
            have h : wr.cell? ⟨sb, z, none⟩ = some (.bool (decide ((z : Int) ∈ ol.take k))) := hfl.2.1 z hzn
            rwa [decide_eq_false hnin] at h
          have kz := hfl.2.2 z
          have kp : wr.cell? ⟨pb, z, none⟩ = some (.int .i64 (plF ol k z)) := hnum.2.1 z hzn
          have kpz := hnum.2.2 z
          have HNUM := Lib.hid hnum
          have HFL := Lib.hid hfl
          have HBE := Lib.hid hbe
          have HPL := Lib.hid hpl
          have HTK := Lib.hid htk
          have hb2z : b2 < w5.heap.size := by
            obtain ⟨b', o', e, hc⟩ := HORD.out w5 (Below.refl _ _) k hlt
            cases e
            exact World.block_lt_of_cell? w5 _ hc
          have hbp : b2 ≠ pb := by omega
          have hbs : b2 ≠ sb := by omega
          clear hnum hfl hbe hpl htk hz hnin hkl hzr
          go_upto_region 19 with (fail)
          go_quiet (fail)
          go_upto_region 21 with (fail)
          obtain ⟨wd, hwd⟩ : ∃ wd, wd = wr.drewN nq := ⟨_, rfl⟩
          have hN := HNUM.out.drewN nq
          have hF := HFL.out.drewN nq
          have hB : Below w5.heap.size w5 (wr.drewN nq) := HBE.out.trans (below_drewN (Below.refl _ _) _)
          rw [← hwd] at hN hF hB ⊢
          have ks : wd.cell? ⟨sb, z, none⟩ = some (.bool false) := by rw [hwd]; exact ks
          have kz : wd.frozen? ⟨sb, z, none⟩ = false := hF.2.2 z
          have hz2 : wd.cell? ⟨b2, o2 + k, none⟩ = some (.int .i64 (z : Int)) := by rw [hwd]; exact hz2
          have kp : wd.cell? ⟨pb, z, none⟩ = some (.int .i64 (plF ol k z)) := hN.2.1 z hzn
          have kpz : wd.frozen? ⟨pb, z, none⟩ = false := hN.2.2 z
          have hF2 := flag_set (f := fun x => decide (x ∈ ol.take k)) hF hzn (y := true)
          have hN2 := num_set (f := plF ol k) (hN.moves (Moves.set (M := [sb]) wd ⟨sb, z, none⟩ (.bool true) (by simp)) (by simpa using hps)) hzn (y := (k : Int))
          have hF3 := hF2.moves (Moves.set (M := [pb]) (wd.setCell ⟨sb, z, none⟩ (.bool true)) ⟨pb, z, none⟩ (.int .i64 (k : Int)) (by simp)) (by simpa using fun e => hps e.symm)
          have hB3 := (hB.setCell (p := ⟨sb, z, none⟩) hs5 (.bool true)).setCell (p := ⟨pb, z, none⟩) hp5 (.int .i64 (k : Int))
          have HN3 := Lib.hid hN2
          have HF3 := Lib.hid hF3
          have HB3 := Lib.hid hB3
          clear hwd hN hF hB hF2 hN2 hF3 hB3 HNUM HFL HBE c0 c1 hzl hzg
          go_wp2
          go_roundw
          case rel =>
            refine ⟨k + 1, by go_num, by omega, ?_, ?_, HB3.out⟩
            · rw [HPL.out]; exact HN3.out
            · refine HF3.out.congr fun i _ => ?_
              unfold setB
              rw [HTK.out]
              by_cases e : (i : Int) = (z : Int)
              · rw [if_pos e, e]; simp
              · rw [if_neg e]; simp [e]
          case measure => simp [intOf]; omega
        · have hge : ¬ (k : Int) < (n : Int) := by omega
          obtain rfl : k = n := by omega
          have HNUM := Lib.hid hnum
          have HBE := Lib.hid hbe
          clear hnum hfl hbe
          obtain ⟨wM, hwM⟩ : ∃ wM, wM = wr.alloc (.cells (madeCells #[.bool false] k) 4) := ⟨_, rfl⟩
          obtain ⟨qb, hqb⟩ : ∃ qb, qb = wr.heap.size := ⟨_, rfl⟩
          have hqM : FlagAt wM qb k (fun x => needB f (g.es.take 0) x) := by rw [hwM, hqb]; exact (flag_made wr k _).congr (fun i _ => by simp [needB])
          have hbM0 : Below wr.heap.size wr wM := by rw [hwM]; exact (Below.refl _ _).alloc (Nat.le_refl _) _
          have hpM := HNUM.out.moves (Moves.of_new [] hbM0) (by simp)
          have hbM := HBE.out.trans (hbM0.mono HBE.out.size)
          have hqM5 : w5.heap.size ≤ qb := by rw [hqb]; exact HBE.out.size
          have hpq : pb < qb := by rw [hqb]; exact HNUM.out.1
          have hwlt : w.heap.size < wr.heap.size := Nat.lt_of_lt_of_le hlt5 HBE.out.size
          obtain ⟨d0, d1', _⟩ := HCL.out wr HBE.out
          have HWM := Lib.hid hwM
          have HQB := Lib.hid hqb
          have HQM := Lib.hid hqM
          have HPM := Lib.hid hpM
          have HBM := Lib.hid hbM
          clear hwM hqb hqM hbM0 hpM hbM hge c0 c1 HNUM
          go_upto_region 24 with (fail)
          rw [← HWM.out, ← HQB.out]
          clear d0 d1'
          have hml : m = g.es.length := HM.out
          have HML := Lib.hid hml
          have hm200 : m ≤ 200 := by
            have h := HFB.out.symm
            unfold fitsB at h
            have := (of_decide_eq_true h).2.2.1
            omega
          clear hml
          go_wp2
          go_loopw [13] (fun i wr => ∃ j : Nat, i = .int .i64 j ∧ j ≤ m ∧ NumAt wr pb k (fun x => plF ol k x) ∧ FlagAt wr qb k (fun x => needB f (g.es.take j) x) ∧ Below w5.heap.size w5 wr) (fun i _ => m - (intOf i).toNat)
          case atStart => exact ⟨0, rfl, by omega, HPM.out, HQM.out, HBM.out⟩
          case round =>
            obtain ⟨j, rfl, hj, hnum, hfl, hbe⟩ := hrel
            obtain ⟨c0, c1, hgr⟩ := HCL.out wr hbe
            by_cases hlt : j < m
            · have hj0 : (0 : Int) ≤ (j : Int) := by omega
              have hj1 : (j : Int) < (m : Int) := by omega
              have hjl : j < g.es.length := by have := HML.out; omega
              obtain ⟨eb, eo, rfl, hel, ha, hb⟩ := hgr.edge hjl
              have hr := HGOOD.out.all _ (List.getElem_mem hjl)
              have hedge : Edg g g.es[j].1 g.es[j].2 := by show (g.es[j].1, g.es[j].2) ∈ g.es; exact List.getElem_mem hjl
              have hpl := HKA.out.place HGOOD.out hedge
              rw [HNN.out] at hpl
              have hup := HKA.out.up _ _ hedge
              have hnd := needB_succ (f := f) hjl
              obtain ⟨a, hae⟩ : ∃ a : Nat, g.es[j].1 = (a : Int) := ⟨g.es[j].1.toNat, by omega⟩
              obtain ⟨b, hbe'⟩ : ∃ b : Nat, g.es[j].2 = (b : Int) := ⟨g.es[j].2.toNat, by omega⟩
              rw [hae, hbe'] at hr hpl hup
              rw [hae] at ha
              rw [hbe'] at hb
              simp only [hae, hbe'] at hnd
              have han : a < k := by have := HN.out; omega
              have hbn : b < k := by have := HN.out; omega
              have ha0 : (0 : Int) ≤ (a : Int) := by omega
              have ha1 : (a : Int) < (k : Int) := by omega
              have hb0 : (0 : Int) ≤ (b : Int) := by omega
              have hb1 : (b : Int) < (k : Int) := by omega
              have kpa : wr.cell? ⟨pb, a, none⟩ = some (.int .i64 (plF ol k a)) := hnum.2.1 a han
              have kpb : wr.cell? ⟨pb, b, none⟩ = some (.int .i64 (plF ol k b)) := hnum.2.1 b hbn
              obtain ⟨l3, o3, rfl, kla⟩ := HLVL.out wr hbe a han
              obtain ⟨_, _, e3, klb⟩ := HLVL.out wr hbe b hbn
              cases e3
              have hbda := HKA.out.bd a
              have hbdb := HKA.out.bd b
              obtain ⟨pa, hpa⟩ : ∃ pa, pa = plF ol k a := ⟨_, rfl⟩
              obtain ⟨pz, hpz⟩ : ∃ pz, pz = plF ol k b := ⟨_, rfl⟩
              obtain ⟨fa, hfa⟩ : ∃ fa, fa = f a := ⟨_, rfl⟩
              obtain ⟨fz, hfz⟩ : ∃ fz, fz = f b := ⟨_, rfl⟩
              rw [← hpa] at kpa hpl
              rw [← hpz] at kpb hpl
              rw [← hfa] at kla hup hbda hnd
              rw [← hfz] at klb hup hbdb hnd
              have hq1 : ¬ pz ≤ pa := by omega
              have hq2 : ¬ fz ≤ fa := by omega
              have hfa1 : fa ≤ 24 := by have := HN.out; omega
              have hfa0 : 0 ≤ fa := hbda.1
              have kqb : wr.cell? ⟨qb, b, none⟩ = some (.bool (needB f (g.es.take j) b)) := hfl.2.1 b hbn
              obtain ⟨nb, hnb⟩ : ∃ nb, nb = needB f (g.es.take j) b := ⟨_, rfl⟩
              rw [← hnb] at kqb
              have HNUM2 := Lib.hid hnum
              have HFL2 := Lib.hid hfl
              have HBE2 := Lib.hid hbe
              have HND := Lib.hid hnd
              have HNB := Lib.hid hnb
              clear hnum hfl hbe hnd hpa hpz hfa hfz hae hbe' hr hpl hup hedge hbda hbdb hjl hgr hnb
              go_upto_region 27 with (fail)
              go_quiet (fail)
              go_upto_region 28 with (fail)
              obtain ⟨wd, hwd⟩ : ∃ wd, wd = wr.drewN nq := ⟨_, rfl⟩
              rw [← hwd]
              have kpa : wd.cell? ⟨pb, a, none⟩ = some (.int .i64 pa) := by rw [hwd]; exact kpa
              have kpb : wd.cell? ⟨pb, b, none⟩ = some (.int .i64 pz) := by rw [hwd]; exact kpb
              have kla : wd.cell? ⟨l3, o3 + a, none⟩ = some (.int .i64 fa) := by rw [hwd]; exact kla
              have klb : wd.cell? ⟨l3, o3 + b, none⟩ = some (.int .i64 fz) := by rw [hwd]; exact klb
              have kqb : wd.cell? ⟨qb, b, none⟩ = some (.bool nb) := by rw [hwd]; exact kqb
              have hN : NumAt wd pb k (fun x => plF ol k x) := by rw [hwd]; exact HNUM2.out.drewN _
              have hF : FlagAt wd qb k (fun x => needB f (g.es.take j) x) := by rw [hwd]; exact HFL2.out.drewN _
              have hB : Below w5.heap.size w5 wd := by rw [hwd]; exact HBE2.out.trans (below_drewN (Below.refl _ _) _)
              have HN4 := Lib.hid hN
              have HF4 := Lib.hid hF
              have HB4' := Lib.hid hB
              clear hwd hN hF hB HNUM2 HFL2 HBE2 c0 c1 ha hb
              go_quiet (fail)
              go_upto_region 30 with (fail)
              obtain ⟨we, hwe⟩ : ∃ we, we = wd.drewN nq := ⟨_, rfl⟩
              rw [← hwe]
              have kla : we.cell? ⟨l3, o3 + a, none⟩ = some (.int .i64 fa) := by rw [hwe]; exact kla
              have klb : we.cell? ⟨l3, o3 + b, none⟩ = some (.int .i64 fz) := by rw [hwe]; exact klb
              have kqb : we.cell? ⟨qb, b, none⟩ = some (.bool nb) := by rw [hwe]; exact kqb
              have hN : NumAt we pb k (fun x => plF ol k x) := by rw [hwe]; exact HN4.out.drewN _
              have hF : FlagAt we qb k (fun x => needB f (g.es.take j) x) := by rw [hwe]; exact HF4.out.drewN _
              have hB : Below w5.heap.size w5 we := by rw [hwe]; exact HB4'.out.trans (below_drewN (Below.refl _ _) _)
              obtain ⟨v, hv⟩ : ∃ v, v = (nb || decide (fa + 1 = fz)) := ⟨_, rfl⟩
              have hfset := flag_set (f := needB f (g.es.take j)) hF hbn (y := v)
              have hnset := hN.moves (Moves.set (M := [qb]) we ⟨qb, b, none⟩ (.bool v) (by simp)) (by simp; omega)
              have hbset := (hB.drew).setCell (p := ⟨qb, b, none⟩) hqM5 (.bool v)
              have hfs2 : FlagAt (we.drew.setCell ⟨qb, b, none⟩ (.bool v)) qb k (fun x => needB f (g.es.take (j + 1)) x) := by
                have h : FlagAt (we.drew.setCell ⟨qb, b, none⟩ (.bool v)) qb k (fun x => setB (needB f (g.es.take j)) b v x) := hfset
                refine h.congr fun i _ => ?_
                rw [HND.out]
                unfold setB
                by_cases e : (i : Int) = (b : Int)
                · rw [if_pos e, if_pos e, e, ← HNB.out, hv]
                · rw [if_neg e, if_neg e]
              have hns2 : NumAt (we.drew.setCell ⟨qb, b, none⟩ (.bool v)) pb k (fun x => plF ol k x) := hnset
              have kqz := hF.2.2 b
              have HFS := Lib.hid hfs2
              have HNS := Lib.hid hns2
              have HBS := Lib.hid hbset
              have HV := Lib.hid hv
              clear hwe hN hF hB hfset hnset hbset hfs2 hns2 hv HN4 HF4 HB4' HNB HND kpa kpb
              have hw1 : IntKind.i64.wrap (fa + 1) = fa + 1 := by rw [IntKind.wrap_i64]; omega
              cases nb with
              | true =>
                obtain rfl : v = true := by rw [HV.out]; rfl
                -- begin ra
                refine region_heldL (L := 19) (S := (fun w' => w'.heap = we.heap ∧ w'.cell? ⟨qb, b, none⟩ = some (.bool true))) (by kernel_rfl) ?raxs (fun hHeld => ?raxr)
                case raxs => exact ⟨rfl, kqb⟩
                refine takeL (i := 0) (d := 169) (v := ?raxv0) rfl (by rfl) (by kernel_rfl) (by kernel_rfl) (by kernel_rfl) (by kernel_rfl) (by rfl) (fun _ _ _ h => h) (Or.inl ⟨by rfl, ?raxy0⟩) (by assumption) ?raxr0
                case raxy0 => intro w' hSw; obtain ⟨_, q1⟩ := hSw; go_simp; (try with_reducible rfl)
                case' raxr0 => simp only [Act.put, List.setIfInBounds_toArray, List.set_cons_zero, List.set_cons_succ]
                refine takeL (i := 1) (d := 170) (v := ?raxv1) rfl (by rfl) (by kernel_rfl) (by kernel_rfl) (by kernel_rfl) (by kernel_rfl) (by rfl) (fun _ _ _ h => h) (Or.inl ⟨by rfl, ?raxy1⟩) (by assumption) ?raxr1
                case raxy1 => intro w' hSw; obtain ⟨_, q1⟩ := hSw; go_simp; (try with_reducible rfl)
                case' raxr1 => simp only [Act.put, List.setIfInBounds_toArray, List.set_cons_zero, List.set_cons_succ]
                refine takeL (i := 2) (d := 171) (v := ?raxv2) rfl (by rfl) (by kernel_rfl) (by kernel_rfl) (by kernel_rfl) (by kernel_rfl) (by rfl) (fun _ _ _ h => h) (Or.inl ⟨by rfl, ?raxy2⟩) (by assumption) ?raxr2
                case raxy2 => intro w' hSw; obtain ⟨_, q1⟩ := hSw; go_simp; (try with_reducible rfl)
                case' raxr2 => simp only [Act.put, List.setIfInBounds_toArray, List.set_cons_zero, List.set_cons_succ]
                refine takeL (i := 3) (d := 172) (v := ?raxv3) rfl (by rfl) (by kernel_rfl) (by kernel_rfl) (by kernel_rfl) (by kernel_rfl) (by rfl) (fun _ _ _ h => h) (Or.inl ⟨by rfl, ?raxy3⟩) (by assumption) ?raxr3
                case raxy3 => intro w' hSw; obtain ⟨_, q1⟩ := hSw; go_simp; (try with_reducible rfl)
                case' raxr3 => simp only [Act.put, List.setIfInBounds_toArray, List.set_cons_zero, List.set_cons_succ]
                refine takeL (i := 4) (d := 173) (v := ?raxv4) rfl (by rfl) (by kernel_rfl) (by kernel_rfl) (by kernel_rfl) (by kernel_rfl) (by rfl) (fun _ _ _ h => h) (Or.inl ⟨by rfl, ?raxy4⟩) (by assumption) ?raxr4
                case raxy4 => intro w' hSw; obtain ⟨_, q1⟩ := hSw; go_simp; (try with_reducible rfl)
                case' raxr4 => simp only [Act.put, List.setIfInBounds_toArray, List.set_cons_zero, List.set_cons_succ]
                refine takeL (i := 5) (d := 174) (v := ?raxv5) rfl (by rfl) (by kernel_rfl) (by kernel_rfl) (by kernel_rfl) (by kernel_rfl) (by rfl) (fun _ _ _ h => h) (Or.inl ⟨by rfl, ?raxy5⟩) (by assumption) ?raxr5
                case raxy5 => intro w' hSw; obtain ⟨_, q1⟩ := hSw; go_simp; (try with_reducible rfl)
                case' raxr5 => simp only [Act.put, List.setIfInBounds_toArray, List.set_cons_zero, List.set_cons_succ]
                refine takeL (i := 6) (d := 175) (v := ?raxv6) rfl (by rfl) (by kernel_rfl) (by kernel_rfl) (by kernel_rfl) (by kernel_rfl) (by rfl) (fun _ _ _ h => h) (Or.inl ⟨by rfl, ?raxy6⟩) (by assumption) ?raxr6
                case raxy6 => intro w' hSw; obtain ⟨_, q1⟩ := hSw; go_simp; (try with_reducible rfl)
                case' raxr6 => simp only [Act.put, List.setIfInBounds_toArray, List.set_cons_zero, List.set_cons_succ]
                refine passL (i := 7) (d := 176) rfl (by rfl) (by kernel_rfl) (by kernel_rfl) (by kernel_rfl) (by kernel_rfl) (by rfl) (fun _ _ _ h => h) (by rfl) (by assumption) ?raxr7
                case' raxr7 => simp only [Act.put, List.setIfInBounds_toArray, List.set_cons_zero, List.set_cons_succ]
                refine passL (i := 8) (d := 177) rfl (by rfl) (by kernel_rfl) (by kernel_rfl) (by kernel_rfl) (by kernel_rfl) (by rfl) (fun _ _ _ h => h) (by rfl) (by assumption) ?raxr8
                case' raxr8 => simp only [Act.put, List.setIfInBounds_toArray, List.set_cons_zero, List.set_cons_succ]
                refine passL (i := 9) (d := 178) rfl (by rfl) (by kernel_rfl) (by kernel_rfl) (by kernel_rfl) (by kernel_rfl) (by rfl) (fun _ _ _ h => h) (by rfl) (by assumption) ?raxr9
                case' raxr9 => simp only [Act.put, List.setIfInBounds_toArray, List.set_cons_zero, List.set_cons_succ]
                refine passL (i := 10) (d := 179) rfl (by rfl) (by kernel_rfl) (by kernel_rfl) (by kernel_rfl) (by kernel_rfl) (by rfl) (fun _ _ _ h => h) (by rfl) (by assumption) ?raxr10
                case' raxr10 => simp only [Act.put, List.setIfInBounds_toArray, List.set_cons_zero, List.set_cons_succ]
                refine passL (i := 11) (d := 180) rfl (by rfl) (by kernel_rfl) (by kernel_rfl) (by kernel_rfl) (by kernel_rfl) (by rfl) (fun _ _ _ h => h) (by rfl) (by assumption) ?raxr11
                case' raxr11 => simp only [Act.put, List.setIfInBounds_toArray, List.set_cons_zero, List.set_cons_succ]
                refine passL (i := 12) (d := 181) rfl (by rfl) (by kernel_rfl) (by kernel_rfl) (by kernel_rfl) (by kernel_rfl) (by rfl) (fun _ _ _ h => h) (by rfl) (by assumption) ?raxr12
                case' raxr12 => simp only [Act.put, List.setIfInBounds_toArray, List.set_cons_zero, List.set_cons_succ]
                refine passL (i := 13) (d := 182) rfl (by rfl) (by kernel_rfl) (by kernel_rfl) (by kernel_rfl) (by kernel_rfl) (by rfl) (fun _ _ _ h => h) (by rfl) (by assumption) ?raxr13
                case' raxr13 => simp only [Act.put, List.setIfInBounds_toArray, List.set_cons_zero, List.set_cons_succ]
                refine passL (i := 14) (d := 183) rfl (by rfl) (by kernel_rfl) (by kernel_rfl) (by kernel_rfl) (by kernel_rfl) (by rfl) (fun _ _ _ h => h) (by rfl) (by assumption) ?raxr14
                case' raxr14 => simp only [Act.put, List.setIfInBounds_toArray, List.set_cons_zero, List.set_cons_succ]
                refine passL (i := 15) (d := 184) rfl (by rfl) (by kernel_rfl) (by kernel_rfl) (by kernel_rfl) (by kernel_rfl) (by rfl) (fun _ _ _ h => h) (by rfl) (by assumption) ?raxr15
                case' raxr15 => simp only [Act.put, List.setIfInBounds_toArray, List.set_cons_zero, List.set_cons_succ]
                refine passL (i := 16) (d := 185) rfl (by rfl) (by kernel_rfl) (by kernel_rfl) (by kernel_rfl) (by kernel_rfl) (by rfl) (fun _ _ _ h => h) (by rfl) (by assumption) ?raxr16
                case' raxr16 => simp only [Act.put, List.setIfInBounds_toArray, List.set_cons_zero, List.set_cons_succ]
                refine takeL (i := 17) (d := 186) (v := ?raxv17) rfl (by rfl) (by kernel_rfl) (by kernel_rfl) (by kernel_rfl) (by kernel_rfl) (by rfl) (fun _ _ _ h => h) (Or.inl ⟨by rfl, ?raxy17⟩) (by assumption) ?raxr17
                case raxy17 => intro w' hSw; obtain ⟨_, q1⟩ := hSw; go_simp; (try with_reducible rfl)
                case' raxr17 => simp only [Act.put, List.setIfInBounds_toArray, List.set_cons_zero, List.set_cons_succ]
                refine takeL (i := 18) (d := 187) (v := ?raxv18) rfl (by rfl) (by kernel_rfl) (by kernel_rfl) (by kernel_rfl) (by kernel_rfl) (by rfl) (fun _ _ _ h => h) (Or.inl ⟨by rfl, ?raxy18⟩) (by assumption) ?raxr18
                case raxy18 => intro w' hSw; obtain ⟨_, q1⟩ := hSw; go_simp; (try with_reducible rfl)
                case' raxr18 => simp only [Act.put, List.setIfInBounds_toArray, List.set_cons_zero, List.set_cons_succ]
                refine lastL (by kernel_rfl) rfl (by kernel_rfl) (fun K hK => ?raxb19)
                go_simp
                refine hK.out _ _ ?raxz
                -- end ra
                clear hHeld
                obtain ⟨wf, hwf⟩ : ∃ wf, wf = we.drew.setCell ⟨qb, b, none⟩ (.bool true) := ⟨_, rfl⟩
                rw [← hwf] at HFS HNS HBS
                obtain ⟨wg, hwg⟩ : ∃ wg, wg = (we.setCell ⟨qb, b, none⟩ (.bool true)).drew := ⟨_, rfl⟩
                have hfg : wf = wg := by rw [hwf, hwg]; rfl
                rw [hfg] at HFS HNS HBS
                rw [← hwg]
                clear hwf hwg hfg kla klb kqb kqz
                go_wp2
                go_roundw
                case rel => exact ⟨j + 1, by go_num, by omega, HNS.out, HFS.out, HBS.out⟩
                case measure => simp [intOf]; omega
              | false =>
                obtain rfl : v = decide (fa + 1 = fz) := by rw [HV.out]; simp
                by_cases hef : fa + 1 = fz
                · have hq : (fa + 1 == fz) = true := by simpa using hef
                  rw [decide_eq_true hef] at HFS HNS HBS
                  clear hef
                  -- begin rb
                  refine region_heldL (L := 19) (S := (fun w' => w'.heap = we.heap ∧ w'.cell? ⟨qb, b, none⟩ = some (.bool false) ∧ w'.cell? ⟨l3, o3 + a, none⟩ = some (.int .i64 fa) ∧ w'.cell? ⟨l3, o3 + b, none⟩ = some (.int .i64 fz))) (by kernel_rfl) ?rbxs (fun hHeld => ?rbxr)
                  case rbxs => exact ⟨rfl, kqb, kla, klb⟩
                  refine takeL (i := 0) (d := 169) (v := ?rbxv0) rfl (by rfl) (by kernel_rfl) (by kernel_rfl) (by kernel_rfl) (by kernel_rfl) (by rfl) (fun _ _ _ h => h) (Or.inl ⟨by rfl, ?rbxy0⟩) (by assumption) ?rbxr0
                  case rbxy0 => intro w' hSw; obtain ⟨_, q1, q2, q3⟩ := hSw; go_simp; (try with_reducible rfl)
                  case' rbxr0 => simp only [Act.put, List.setIfInBounds_toArray, List.set_cons_zero, List.set_cons_succ]
                  refine takeL (i := 1) (d := 170) (v := ?rbxv1) rfl (by rfl) (by kernel_rfl) (by kernel_rfl) (by kernel_rfl) (by kernel_rfl) (by rfl) (fun _ _ _ h => h) (Or.inl ⟨by rfl, ?rbxy1⟩) (by assumption) ?rbxr1
                  case rbxy1 => intro w' hSw; obtain ⟨_, q1, q2, q3⟩ := hSw; go_simp; (try with_reducible rfl)
                  case' rbxr1 => simp only [Act.put, List.setIfInBounds_toArray, List.set_cons_zero, List.set_cons_succ]
                  refine takeL (i := 2) (d := 171) (v := ?rbxv2) rfl (by rfl) (by kernel_rfl) (by kernel_rfl) (by kernel_rfl) (by kernel_rfl) (by rfl) (fun _ _ _ h => h) (Or.inl ⟨by rfl, ?rbxy2⟩) (by assumption) ?rbxr2
                  case rbxy2 => intro w' hSw; obtain ⟨_, q1, q2, q3⟩ := hSw; go_simp; (try with_reducible rfl)
                  case' rbxr2 => simp only [Act.put, List.setIfInBounds_toArray, List.set_cons_zero, List.set_cons_succ]
                  refine takeL (i := 3) (d := 172) (v := ?rbxv3) rfl (by rfl) (by kernel_rfl) (by kernel_rfl) (by kernel_rfl) (by kernel_rfl) (by rfl) (fun _ _ _ h => h) (Or.inl ⟨by rfl, ?rbxy3⟩) (by assumption) ?rbxr3
                  case rbxy3 => intro w' hSw; obtain ⟨_, q1, q2, q3⟩ := hSw; go_simp; (try with_reducible rfl)
                  case' rbxr3 => simp only [Act.put, List.setIfInBounds_toArray, List.set_cons_zero, List.set_cons_succ]
                  refine takeL (i := 4) (d := 173) (v := ?rbxv4) rfl (by rfl) (by kernel_rfl) (by kernel_rfl) (by kernel_rfl) (by kernel_rfl) (by rfl) (fun _ _ _ h => h) (Or.inl ⟨by rfl, ?rbxy4⟩) (by assumption) ?rbxr4
                  case rbxy4 => intro w' hSw; obtain ⟨_, q1, q2, q3⟩ := hSw; go_simp; (try with_reducible rfl)
                  case' rbxr4 => simp only [Act.put, List.setIfInBounds_toArray, List.set_cons_zero, List.set_cons_succ]
                  refine takeL (i := 5) (d := 174) (v := ?rbxv5) rfl (by rfl) (by kernel_rfl) (by kernel_rfl) (by kernel_rfl) (by kernel_rfl) (by rfl) (fun _ _ _ h => h) (Or.inl ⟨by rfl, ?rbxy5⟩) (by assumption) ?rbxr5
                  case rbxy5 => intro w' hSw; obtain ⟨_, q1, q2, q3⟩ := hSw; go_simp; (try with_reducible rfl)
                  case' rbxr5 => simp only [Act.put, List.setIfInBounds_toArray, List.set_cons_zero, List.set_cons_succ]
                  refine takeL (i := 6) (d := 175) (v := ?rbxv6) rfl (by rfl) (by kernel_rfl) (by kernel_rfl) (by kernel_rfl) (by kernel_rfl) (by rfl) (fun _ _ _ h => h) (Or.inl ⟨by rfl, ?rbxy6⟩) (by assumption) ?rbxr6
                  case rbxy6 => intro w' hSw; obtain ⟨_, q1, q2, q3⟩ := hSw; go_simp; (try with_reducible rfl)
                  case' rbxr6 => simp only [Act.put, List.setIfInBounds_toArray, List.set_cons_zero, List.set_cons_succ]
                  refine takeL (i := 7) (d := 176) (v := ?rbxv7) rfl (by rfl) (by kernel_rfl) (by kernel_rfl) (by kernel_rfl) (by kernel_rfl) (by rfl) (fun _ _ _ h => h) (Or.inl ⟨by rfl, ?rbxy7⟩) (by assumption) ?rbxr7
                  case rbxy7 => intro w' hSw; obtain ⟨_, q1, q2, q3⟩ := hSw; go_simp; (try with_reducible rfl)
                  case' rbxr7 => simp only [Act.put, List.setIfInBounds_toArray, List.set_cons_zero, List.set_cons_succ]
                  refine takeL (i := 8) (d := 177) (v := ?rbxv8) rfl (by rfl) (by kernel_rfl) (by kernel_rfl) (by kernel_rfl) (by kernel_rfl) (by rfl) (fun _ _ _ h => h) (Or.inl ⟨by rfl, ?rbxy8⟩) (by assumption) ?rbxr8
                  case rbxy8 => intro w' hSw; obtain ⟨_, q1, q2, q3⟩ := hSw; go_simp; (try with_reducible rfl)
                  case' rbxr8 => simp only [Act.put, List.setIfInBounds_toArray, List.set_cons_zero, List.set_cons_succ]
                  refine takeL (i := 9) (d := 178) (v := ?rbxv9) rfl (by rfl) (by kernel_rfl) (by kernel_rfl) (by kernel_rfl) (by kernel_rfl) (by rfl) (fun _ _ _ h => h) (Or.inl ⟨by rfl, ?rbxy9⟩) (by assumption) ?rbxr9
                  case rbxy9 => intro w' hSw; obtain ⟨_, q1, q2, q3⟩ := hSw; go_simp; (try with_reducible rfl)
                  case' rbxr9 => simp only [Act.put, List.setIfInBounds_toArray, List.set_cons_zero, List.set_cons_succ]
                  refine takeL (i := 10) (d := 179) (v := ?rbxv10) rfl (by rfl) (by kernel_rfl) (by kernel_rfl) (by kernel_rfl) (by kernel_rfl) (by rfl) (fun _ _ _ h => h) (Or.inl ⟨by rfl, ?rbxy10⟩) (by assumption) ?rbxr10
                  case rbxy10 => intro w' hSw; obtain ⟨_, q1, q2, q3⟩ := hSw; go_simp; (try with_reducible rfl)
                  case' rbxr10 => simp only [Act.put, List.setIfInBounds_toArray, List.set_cons_zero, List.set_cons_succ]
                  refine takeL (i := 11) (d := 180) (v := ?rbxv11) rfl (by rfl) (by kernel_rfl) (by kernel_rfl) (by kernel_rfl) (by kernel_rfl) (by rfl) (fun _ _ _ h => h) (Or.inl ⟨by rfl, ?rbxy11⟩) (by assumption) ?rbxr11
                  case rbxy11 => intro w' hSw; obtain ⟨_, q1, q2, q3⟩ := hSw; go_simp; (try with_reducible rfl)
                  case' rbxr11 => simp only [Act.put, List.setIfInBounds_toArray, List.set_cons_zero, List.set_cons_succ]
                  refine takeL (i := 12) (d := 181) (v := ?rbxv12) rfl (by rfl) (by kernel_rfl) (by kernel_rfl) (by kernel_rfl) (by kernel_rfl) (by rfl) (fun _ _ _ h => h) (Or.inl ⟨by rfl, ?rbxy12⟩) (by assumption) ?rbxr12
                  case rbxy12 => intro w' hSw; obtain ⟨_, q1, q2, q3⟩ := hSw; go_simp; (try with_reducible rfl)
                  case' rbxr12 => simp only [Act.put, List.setIfInBounds_toArray, List.set_cons_zero, List.set_cons_succ]
                  refine takeL (i := 13) (d := 182) (v := ?rbxv13) rfl (by rfl) (by kernel_rfl) (by kernel_rfl) (by kernel_rfl) (by kernel_rfl) (by rfl) (fun _ _ _ h => h) (Or.inl ⟨by rfl, ?rbxy13⟩) (by assumption) ?rbxr13
                  case rbxy13 => intro w' hSw; obtain ⟨_, q1, q2, q3⟩ := hSw; go_simp; (try with_reducible rfl)
                  case' rbxr13 => simp only [Act.put, List.setIfInBounds_toArray, List.set_cons_zero, List.set_cons_succ]
                  refine takeL (i := 14) (d := 183) (v := ?rbxv14) rfl (by rfl) (by kernel_rfl) (by kernel_rfl) (by kernel_rfl) (by kernel_rfl) (by rfl) (fun _ _ _ h => h) (Or.inl ⟨by rfl, ?rbxy14⟩) (by assumption) ?rbxr14
                  case rbxy14 => intro w' hSw; obtain ⟨_, q1, q2, q3⟩ := hSw; go_simp; (try with_reducible rfl)
                  case' rbxr14 => simp only [Act.put, List.setIfInBounds_toArray, List.set_cons_zero, List.set_cons_succ]
                  refine takeL (i := 15) (d := 184) (v := ?rbxv15) rfl (by rfl) (by kernel_rfl) (by kernel_rfl) (by kernel_rfl) (by kernel_rfl) (by rfl) (fun _ _ _ h => h) (Or.inl ⟨by rfl, ?rbxy15⟩) (by assumption) ?rbxr15
                  case rbxy15 => intro w' hSw; obtain ⟨_, q1, q2, q3⟩ := hSw; go_simp; (try with_reducible rfl)
                  case' rbxr15 => simp only [Act.put, List.setIfInBounds_toArray, List.set_cons_zero, List.set_cons_succ]
                  refine takeL (i := 16) (d := 185) (v := ?rbxv16) rfl (by rfl) (by kernel_rfl) (by kernel_rfl) (by kernel_rfl) (by kernel_rfl) (by rfl) (fun _ _ _ h => h) (Or.inl ⟨by rfl, ?rbxy16⟩) (by assumption) ?rbxr16
                  case rbxy16 => intro w' hSw; obtain ⟨_, q1, q2, q3⟩ := hSw; go_simp; (try with_reducible rfl)
                  case' rbxr16 => simp only [Act.put, List.setIfInBounds_toArray, List.set_cons_zero, List.set_cons_succ]
                  refine takeL (i := 17) (d := 186) (v := ?rbxv17) rfl (by rfl) (by kernel_rfl) (by kernel_rfl) (by kernel_rfl) (by kernel_rfl) (by rfl) (fun _ _ _ h => h) (Or.inl ⟨by rfl, ?rbxy17⟩) (by assumption) ?rbxr17
                  case rbxy17 => intro w' hSw; obtain ⟨_, q1, q2, q3⟩ := hSw; go_simp; (try with_reducible rfl)
                  case' rbxr17 => simp only [Act.put, List.setIfInBounds_toArray, List.set_cons_zero, List.set_cons_succ]
                  refine takeL (i := 18) (d := 187) (v := ?rbxv18) rfl (by rfl) (by kernel_rfl) (by kernel_rfl) (by kernel_rfl) (by kernel_rfl) (by rfl) (fun _ _ _ h => h) (Or.inl ⟨by rfl, ?rbxy18⟩) (by assumption) ?rbxr18
                  case rbxy18 => intro w' hSw; obtain ⟨_, q1, q2, q3⟩ := hSw; go_simp; (try with_reducible rfl)
                  case' rbxr18 => simp only [Act.put, List.setIfInBounds_toArray, List.set_cons_zero, List.set_cons_succ]
                  refine lastL (by kernel_rfl) rfl (by kernel_rfl) (fun K hK => ?rbxb19)
                  go_simp
                  refine hK.out _ _ ?rbxz
                  -- end rb
                  clear hHeld
                  obtain ⟨wf, hwf⟩ : ∃ wf, wf = we.drew.setCell ⟨qb, b, none⟩ (.bool true) := ⟨_, rfl⟩
                  rw [← hwf] at HFS HNS HBS
                  obtain ⟨wg, hwg⟩ : ∃ wg, wg = (we.setCell ⟨qb, b, none⟩ (.bool true)).drew := ⟨_, rfl⟩
                  have hfg : wf = wg := by rw [hwf, hwg]; rfl
                  rw [hfg] at HFS HNS HBS
                  rw [← hwg]
                  clear hwf hwg hfg kla klb kqb kqz
                  go_wp2
                  go_roundw
                  case rel => exact ⟨j + 1, by go_num, by omega, HNS.out, HFS.out, HBS.out⟩
                  case measure => simp [intOf]; omega
                · have hq : (fa + 1 == fz) = false := by simpa using hef
                  rw [decide_eq_false hef] at HFS HNS HBS
                  clear hef
                  -- begin rc
                  refine region_heldL (L := 19) (S := (fun w' => w'.heap = we.heap ∧ w'.cell? ⟨qb, b, none⟩ = some (.bool false) ∧ w'.cell? ⟨l3, o3 + a, none⟩ = some (.int .i64 fa) ∧ w'.cell? ⟨l3, o3 + b, none⟩ = some (.int .i64 fz))) (by kernel_rfl) ?rcxs (fun hHeld => ?rcxr)
                  case rcxs => exact ⟨rfl, kqb, kla, klb⟩
                  refine takeL (i := 0) (d := 169) (v := ?rcxv0) rfl (by rfl) (by kernel_rfl) (by kernel_rfl) (by kernel_rfl) (by kernel_rfl) (by rfl) (fun _ _ _ h => h) (Or.inl ⟨by rfl, ?rcxy0⟩) (by assumption) ?rcxr0
                  case rcxy0 => intro w' hSw; obtain ⟨_, q1, q2, q3⟩ := hSw; go_simp; (try with_reducible rfl)
                  case' rcxr0 => simp only [Act.put, List.setIfInBounds_toArray, List.set_cons_zero, List.set_cons_succ]
                  refine takeL (i := 1) (d := 170) (v := ?rcxv1) rfl (by rfl) (by kernel_rfl) (by kernel_rfl) (by kernel_rfl) (by kernel_rfl) (by rfl) (fun _ _ _ h => h) (Or.inl ⟨by rfl, ?rcxy1⟩) (by assumption) ?rcxr1
                  case rcxy1 => intro w' hSw; obtain ⟨_, q1, q2, q3⟩ := hSw; go_simp; (try with_reducible rfl)
                  case' rcxr1 => simp only [Act.put, List.setIfInBounds_toArray, List.set_cons_zero, List.set_cons_succ]
                  refine takeL (i := 2) (d := 171) (v := ?rcxv2) rfl (by rfl) (by kernel_rfl) (by kernel_rfl) (by kernel_rfl) (by kernel_rfl) (by rfl) (fun _ _ _ h => h) (Or.inl ⟨by rfl, ?rcxy2⟩) (by assumption) ?rcxr2
                  case rcxy2 => intro w' hSw; obtain ⟨_, q1, q2, q3⟩ := hSw; go_simp; (try with_reducible rfl)
                  case' rcxr2 => simp only [Act.put, List.setIfInBounds_toArray, List.set_cons_zero, List.set_cons_succ]
                  refine takeL (i := 3) (d := 172) (v := ?rcxv3) rfl (by rfl) (by kernel_rfl) (by kernel_rfl) (by kernel_rfl) (by kernel_rfl) (by rfl) (fun _ _ _ h => h) (Or.inl ⟨by rfl, ?rcxy3⟩) (by assumption) ?rcxr3
                  case rcxy3 => intro w' hSw; obtain ⟨_, q1, q2, q3⟩ := hSw; go_simp; (try with_reducible rfl)
                  case' rcxr3 => simp only [Act.put, List.setIfInBounds_toArray, List.set_cons_zero, List.set_cons_succ]
                  refine takeL (i := 4) (d := 173) (v := ?rcxv4) rfl (by rfl) (by kernel_rfl) (by kernel_rfl) (by kernel_rfl) (by kernel_rfl) (by rfl) (fun _ _ _ h => h) (Or.inl ⟨by rfl, ?rcxy4⟩) (by assumption) ?rcxr4
                  case rcxy4 => intro w' hSw; obtain ⟨_, q1, q2, q3⟩ := hSw; go_simp; (try with_reducible rfl)
                  case' rcxr4 => simp only [Act.put, List.setIfInBounds_toArray, List.set_cons_zero, List.set_cons_succ]
                  refine takeL (i := 5) (d := 174) (v := ?rcxv5) rfl (by rfl) (by kernel_rfl) (by kernel_rfl) (by kernel_rfl) (by kernel_rfl) (by rfl) (fun _ _ _ h => h) (Or.inl ⟨by rfl, ?rcxy5⟩) (by assumption) ?rcxr5
                  case rcxy5 => intro w' hSw; obtain ⟨_, q1, q2, q3⟩ := hSw; go_simp; (try with_reducible rfl)
                  case' rcxr5 => simp only [Act.put, List.setIfInBounds_toArray, List.set_cons_zero, List.set_cons_succ]
                  refine takeL (i := 6) (d := 175) (v := ?rcxv6) rfl (by rfl) (by kernel_rfl) (by kernel_rfl) (by kernel_rfl) (by kernel_rfl) (by rfl) (fun _ _ _ h => h) (Or.inl ⟨by rfl, ?rcxy6⟩) (by assumption) ?rcxr6
                  case rcxy6 => intro w' hSw; obtain ⟨_, q1, q2, q3⟩ := hSw; go_simp; (try with_reducible rfl)
                  case' rcxr6 => simp only [Act.put, List.setIfInBounds_toArray, List.set_cons_zero, List.set_cons_succ]
                  refine takeL (i := 7) (d := 176) (v := ?rcxv7) rfl (by rfl) (by kernel_rfl) (by kernel_rfl) (by kernel_rfl) (by kernel_rfl) (by rfl) (fun _ _ _ h => h) (Or.inl ⟨by rfl, ?rcxy7⟩) (by assumption) ?rcxr7
                  case rcxy7 => intro w' hSw; obtain ⟨_, q1, q2, q3⟩ := hSw; go_simp; (try with_reducible rfl)
                  case' rcxr7 => simp only [Act.put, List.setIfInBounds_toArray, List.set_cons_zero, List.set_cons_succ]
                  refine takeL (i := 8) (d := 177) (v := ?rcxv8) rfl (by rfl) (by kernel_rfl) (by kernel_rfl) (by kernel_rfl) (by kernel_rfl) (by rfl) (fun _ _ _ h => h) (Or.inl ⟨by rfl, ?rcxy8⟩) (by assumption) ?rcxr8
                  case rcxy8 => intro w' hSw; obtain ⟨_, q1, q2, q3⟩ := hSw; go_simp; (try with_reducible rfl)
                  case' rcxr8 => simp only [Act.put, List.setIfInBounds_toArray, List.set_cons_zero, List.set_cons_succ]
                  refine takeL (i := 9) (d := 178) (v := ?rcxv9) rfl (by rfl) (by kernel_rfl) (by kernel_rfl) (by kernel_rfl) (by kernel_rfl) (by rfl) (fun _ _ _ h => h) (Or.inl ⟨by rfl, ?rcxy9⟩) (by assumption) ?rcxr9
                  case rcxy9 => intro w' hSw; obtain ⟨_, q1, q2, q3⟩ := hSw; go_simp; (try with_reducible rfl)
                  case' rcxr9 => simp only [Act.put, List.setIfInBounds_toArray, List.set_cons_zero, List.set_cons_succ]
                  refine takeL (i := 10) (d := 179) (v := ?rcxv10) rfl (by rfl) (by kernel_rfl) (by kernel_rfl) (by kernel_rfl) (by kernel_rfl) (by rfl) (fun _ _ _ h => h) (Or.inl ⟨by rfl, ?rcxy10⟩) (by assumption) ?rcxr10
                  case rcxy10 => intro w' hSw; obtain ⟨_, q1, q2, q3⟩ := hSw; go_simp; (try with_reducible rfl)
                  case' rcxr10 => simp only [Act.put, List.setIfInBounds_toArray, List.set_cons_zero, List.set_cons_succ]
                  refine takeL (i := 11) (d := 180) (v := ?rcxv11) rfl (by rfl) (by kernel_rfl) (by kernel_rfl) (by kernel_rfl) (by kernel_rfl) (by rfl) (fun _ _ _ h => h) (Or.inl ⟨by rfl, ?rcxy11⟩) (by assumption) ?rcxr11
                  case rcxy11 => intro w' hSw; obtain ⟨_, q1, q2, q3⟩ := hSw; go_simp; (try with_reducible rfl)
                  case' rcxr11 => simp only [Act.put, List.setIfInBounds_toArray, List.set_cons_zero, List.set_cons_succ]
                  refine takeL (i := 12) (d := 181) (v := ?rcxv12) rfl (by rfl) (by kernel_rfl) (by kernel_rfl) (by kernel_rfl) (by kernel_rfl) (by rfl) (fun _ _ _ h => h) (Or.inl ⟨by rfl, ?rcxy12⟩) (by assumption) ?rcxr12
                  case rcxy12 => intro w' hSw; obtain ⟨_, q1, q2, q3⟩ := hSw; go_simp; (try with_reducible rfl)
                  case' rcxr12 => simp only [Act.put, List.setIfInBounds_toArray, List.set_cons_zero, List.set_cons_succ]
                  refine takeL (i := 13) (d := 182) (v := ?rcxv13) rfl (by rfl) (by kernel_rfl) (by kernel_rfl) (by kernel_rfl) (by kernel_rfl) (by rfl) (fun _ _ _ h => h) (Or.inl ⟨by rfl, ?rcxy13⟩) (by assumption) ?rcxr13
                  case rcxy13 => intro w' hSw; obtain ⟨_, q1, q2, q3⟩ := hSw; go_simp; (try with_reducible rfl)
                  case' rcxr13 => simp only [Act.put, List.setIfInBounds_toArray, List.set_cons_zero, List.set_cons_succ]
                  refine takeL (i := 14) (d := 183) (v := ?rcxv14) rfl (by rfl) (by kernel_rfl) (by kernel_rfl) (by kernel_rfl) (by kernel_rfl) (by rfl) (fun _ _ _ h => h) (Or.inl ⟨by rfl, ?rcxy14⟩) (by assumption) ?rcxr14
                  case rcxy14 => intro w' hSw; obtain ⟨_, q1, q2, q3⟩ := hSw; go_simp; (try with_reducible rfl)
                  case' rcxr14 => simp only [Act.put, List.setIfInBounds_toArray, List.set_cons_zero, List.set_cons_succ]
                  refine takeL (i := 15) (d := 184) (v := ?rcxv15) rfl (by rfl) (by kernel_rfl) (by kernel_rfl) (by kernel_rfl) (by kernel_rfl) (by rfl) (fun _ _ _ h => h) (Or.inl ⟨by rfl, ?rcxy15⟩) (by assumption) ?rcxr15
                  case rcxy15 => intro w' hSw; obtain ⟨_, q1, q2, q3⟩ := hSw; go_simp; (try with_reducible rfl)
                  case' rcxr15 => simp only [Act.put, List.setIfInBounds_toArray, List.set_cons_zero, List.set_cons_succ]
                  refine takeL (i := 16) (d := 185) (v := ?rcxv16) rfl (by rfl) (by kernel_rfl) (by kernel_rfl) (by kernel_rfl) (by kernel_rfl) (by rfl) (fun _ _ _ h => h) (Or.inl ⟨by rfl, ?rcxy16⟩) (by assumption) ?rcxr16
                  case rcxy16 => intro w' hSw; obtain ⟨_, q1, q2, q3⟩ := hSw; go_simp; (try with_reducible rfl)
                  case' rcxr16 => simp only [Act.put, List.setIfInBounds_toArray, List.set_cons_zero, List.set_cons_succ]
                  refine takeL (i := 17) (d := 186) (v := ?rcxv17) rfl (by rfl) (by kernel_rfl) (by kernel_rfl) (by kernel_rfl) (by kernel_rfl) (by rfl) (fun _ _ _ h => h) (Or.inl ⟨by rfl, ?rcxy17⟩) (by assumption) ?rcxr17
                  case rcxy17 => intro w' hSw; obtain ⟨_, q1, q2, q3⟩ := hSw; go_simp; (try with_reducible rfl)
                  case' rcxr17 => simp only [Act.put, List.setIfInBounds_toArray, List.set_cons_zero, List.set_cons_succ]
                  refine takeL (i := 18) (d := 187) (v := ?rcxv18) rfl (by rfl) (by kernel_rfl) (by kernel_rfl) (by kernel_rfl) (by kernel_rfl) (by rfl) (fun _ _ _ h => h) (Or.inl ⟨by rfl, ?rcxy18⟩) (by assumption) ?rcxr18
                  case rcxy18 => intro w' hSw; obtain ⟨_, q1, q2, q3⟩ := hSw; go_simp; (try with_reducible rfl)
                  case' rcxr18 => simp only [Act.put, List.setIfInBounds_toArray, List.set_cons_zero, List.set_cons_succ]
                  refine lastL (by kernel_rfl) rfl (by kernel_rfl) (fun K hK => ?rcxb19)
                  go_simp
                  refine hK.out _ _ ?rcxz
                  -- end rc
                  clear hHeld
                  obtain ⟨wf, hwf⟩ : ∃ wf, wf = we.drew.setCell ⟨qb, b, none⟩ (.bool false) := ⟨_, rfl⟩
                  rw [← hwf] at HFS HNS HBS
                  obtain ⟨wg, hwg⟩ : ∃ wg, wg = (we.setCell ⟨qb, b, none⟩ (.bool false)).drew := ⟨_, rfl⟩
                  have hfg : wf = wg := by rw [hwf, hwg]; rfl
                  rw [hfg] at HFS HNS HBS
                  rw [← hwg]
                  clear hwf hwg hfg kla klb kqb kqz
                  go_wp2
                  go_roundw
                  case rel => exact ⟨j + 1, by go_num, by omega, HNS.out, HFS.out, HBS.out⟩
                  case measure => simp [intOf]; omega
            · have hge : ¬ (j : Int) < (m : Int) := by omega
              rw [show g.es.take j = g.es from List.take_of_length_le (by have := HML.out; omega)] at hfl
              have HFLG := Lib.hid hfl
              have HBEL := Lib.hid hbe
              clear hnum hfl hbe hge hgr
              go_wp2
              obtain ⟨wl, hwl⟩ : ∃ wl : World, wl = wr := ⟨_, rfl⟩
              rw [← hwl] at HFLG HBEL c0 c1 ⊢
              clear hwl c0 c1
              go_loopw [16] (fun i wr => ∃ i' : Nat, i = .int .i64 i' ∧ i' ≤ k ∧ Below wl.heap.size wl wr) (fun i _ => k - (intOf i).toNat)
              case atStart => exact ⟨0, rfl, by omega, Below.refl _ _⟩
              case round =>
                obtain ⟨i, rfl, hi, hbe⟩ := hrel
                have hbe5 := HBEL.out.trans (hbe.mono HBEL.out.size)
                obtain ⟨c0, c1, hgr⟩ := HCL.out wr hbe5
                by_cases hlt : i < k
                · have hi0 : (0 : Int) ≤ (i : Int) := by omega
                  have hi1 : (i : Int) < (k : Int) := by omega
                  obtain ⟨l3, o3, rfl, kl⟩ := HLVL.out wr hbe5 i hlt
                  have kq : wr.cell? ⟨qb, i, none⟩ = some (.bool (needB f g.es i)) := (HFLG.out.moves (Moves.of_new [] hbe) (by simp)).2.1 i hlt
                  rw [HKA.out.needs] at kq
                  have hfb0 := (HKA.out.bd i).1
                  obtain ⟨fi, hfi⟩ : ∃ fi, fi = f i := ⟨_, rfl⟩
                  rw [← hfi] at kl kq hfb0
                  have hneg : ¬ fi < 0 := by omega
                  have HBE2 := Lib.hid hbe
                  clear hfi hbe hbe5 hgr
                  by_cases hpos : 0 < fi
                  · rw [decide_eq_true hpos] at kq
                    go_upto_region 34 with (fail)
                    go_quiet (fail)
                    go_wp2
                    go_roundw
                    case rel => exact ⟨i + 1, by go_num, by omega, HBE2.out.trans (below_drewN (Below.refl _ _) _)⟩
                    case measure => simp [intOf]; omega
                  · rw [decide_eq_false hpos] at kq
                    go_upto_region 34 with (fail)
                    go_quiet (fail)
                    go_wp2
                    go_roundw
                    case rel => exact ⟨i + 1, by go_num, by omega, HBE2.out.trans (below_drewN (Below.refl _ _) _)⟩
                    case measure => simp [intOf]; omega
                · have hge : ¬ (i : Int) < (k : Int) := by omega
                  have htu := HTU.out wr hgr
                  rw [HCHK.out, HN.out] at htu
                  have hko2 := ordE_turn (g := g) (by rw [← HKO.out])
                  have hbB := HB5.out.trans (hbe5.mono HB5.out.size)
                  have HTU2 := Lib.hid htu
                  have HKO2 := Lib.hid hko2
                  have HBB := Lib.hid hbB
                  clear htu hko2 hbB hbe hbe5 hgr
                  go_wp2_with fail
                  go_at_call 21
                  refine HTU2.out.mono ?_
                  rintro e w9 ⟨F, c, rfl, hgF, hb9, _⟩
                  obtain ⟨tn, htn⟩ : ∃ tn, tn = (turnG g).n := ⟨_, rfl⟩
                  obtain ⟨tm, htm⟩ : ∃ tm, tm = (turnG g).es.length := ⟨_, rfl⟩
                  have hv2 : (turnG g).val F c = .agg #[.int .i64 tn, .slice F tm c] := by rw [htn, htm]; rfl
                  rw [hv2]
                  obtain ⟨wz, hwz⟩ : ∃ wz, wz = w9.alloc (.cells #[.int .i64 tn, .slice F tm c] 24) := ⟨_, rfl⟩
                  obtain ⟨tb, htb⟩ : ∃ tb, tb = w9.heap.size := ⟨_, rfl⟩
                  have t0 : wz.cell? ⟨tb, 0, none⟩ = some (.int .i64 tn) := by rw [hwz, htb, cell_new]; rfl
                  have t1 : wz.cell? ⟨tb, 1, none⟩ = some (.slice F tm c) := by rw [hwz, htb, cell_new]; rfl
                  have hbz : Below w9.heap.size w9 wz := by rw [hwz]; exact (Below.refl _ _).alloc (Nat.le_refl _) _
                  have hor2 := gorder_c (turnG g) F c wz (hgF.below hbz) (by unfold turnG; split <;> simp; omega)
                  rw [hv2, HKO2.out] at hor2
                  have hb9z := HBB.out.trans ((hb9.trans (hbz.mono hb9.size)).mono HBB.out.size)
                  have HOR2 := Lib.hid hor2
                  have HWZ := Lib.hid hwz
                  have HTB := Lib.hid htb
                  have HB9 := Lib.hid hb9z
                  clear hor2 hwz htb hb9z hb9 hbz hgF hv2 htn htm c0 c1
                  go_upto_region 37 with (fail)
                  rw [← HWZ.out, ← HTB.out]
                  go_wp2_with fail
                  go_at_call 25
                  refine HOR2.out.mono ?_
                  rintro e w10 ⟨P, dp, rfl, _, hb10⟩
                  have HE := Lib.hid (HBW.out.trans ((HB9.out.trans (hb10.mono HB9.out.size)).mono (Nat.le_of_lt HLT.out)))
                  clear hb10 t0 t1
                  go_wp2
                  go_ret
                  exact ⟨rfl, HE.out⟩
    · have hk150 : ko = 150 := by
        have h := HKO.out
        unfold ordE at h
        rw [if_pos HCHK.out] at h
        split at h <;> omega
      have hrne : rl.length ≠ 0 := fun e => hk0 (HKR.out.2 (List.eq_nil_of_length_eq_zero e))
      have ho0 : ol = [] := by rw [HOL.out]; unfold ordL; rw [if_neg (by rw [← HKO.out]; exact hk0)]
      have hl0 : lv = [] := by rw [HLV.out]; unfold levL; rw [if_neg (by rw [← HKO.out]; exact hk0)]
      subst hk150
      obtain ⟨nl, hnl⟩ : ∃ nl, nl = rl.length := ⟨_, rfl⟩
      rw [← hnl] at hrne ⊢
      have hq : ((nl : Int) == 0) = false := by rw [beq_eq_false_iff_ne]; omega
      have e1 : ol.length = 0 := by rw [ho0]; rfl
      have e2 : lv.length = 0 := by rw [hl0]; rfl
      have HE := Lib.hid (HBW.out.trans (HB5.out.mono (Nat.le_of_lt HLT.out)))
      rw [e1, e2]
      clear hnl hrne ho0 hl0 e1 e2
      go_wp2
      go_ret
      exact ⟨rfl, HE.out⟩
end Go.Proofs.Ytpdfcffeinbcaaa
