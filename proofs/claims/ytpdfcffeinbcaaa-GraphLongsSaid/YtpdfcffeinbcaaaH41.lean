/- Longest: the document's. -/
import Derived.Test.YtpdfcffeinbcaaaH40
import Derived.Test.YtpdfcffeinbcaaaH32
import Derived.Test.YtpdfcffeinbcaaaH39
namespace Go.Proofs.Ytpdfcffeinbcaaa
open Go.RowKit
theorem num_below {w w1 : World} {b n : Nat} {f : Nat → Int} (h : NumAt w b n f) (hb : Below w.heap.size w w1) : NumAt w1 b n f :=
  ⟨Nat.lt_of_lt_of_le h.1 hb.size, fun i hi => (hb.cell (p := ⟨b, i, none⟩) h.1).trans (h.2.1 i hi), fun j => (hb.frozen (p := ⟨b, j, none⟩) h.1).trans (h.2.2 j)⟩
set_option maxHeartbeats 8000000 in
set_option maxRecDepth 100000 in
theorem rlong_c (g : XG) (E : Option Addr) (d : Nat) (wts : List Int) (X : Option Addr) (c : Nat) (w : World) (h : GAt w E g) (hl : g.es.length ≤ 4611686018427387904) (hr : RowAt w X (I wts)) (hwl : wts.length ≤ 4611686018427387904) :
    Calls Try.prog 30 #[g.val E d, .slice X wts.length c] w (LonPost g wts w) := by
  have hck := fun W h => rcheck_c g E d W h hl
  have hor := fun W h => rorder_c g E d W h hl
  have hbx := box_at (w := w) (t := 24) g E d
  have hv : g.val E d = .agg #[.int .i64 g.n, .slice E g.es.length d] := rfl
  rw [hv] at hck hor ⊢
  have HCK := Lib.hid hck
  have HOR := Lib.hid hor
  have HG := Lib.hid h
  have HR := Lib.hid hr
  obtain ⟨kk, hkk⟩ : ∃ kk, kk = chkF g := ⟨_, rfl⟩
  have HKK := Lib.hid hkk
  clear hck hor hv h hr hkk
  go_enter Try.func30, Try.ntmps30
  go_wp2_with fail
  go_at_call 15
  refine (HCK.out _ (HG.out.below hbx.bel)).mono ?_
  rintro e w1 ⟨rfl, hb1⟩
  rw [← HKK.out]
  have hbx1 := hbx.below hb1
  have c0 := hbx1.c0
  by_cases hk : kk = 0
  · subst hk
    have hgood := chkF_good.1 HKK.out.symm
    obtain ⟨n, hn⟩ : ∃ n : Nat, g.n = n := ⟨g.n.toNat, by have := hgood.n0; omega⟩
    have hnn : g.n.toNat = n := by omega
    have hn4 : n ≤ 4096 := by have := hgood.n1; omega
    rw [hn] at c0
    by_cases hlen : wts.length = n
    · have hlb : ((wts.length : Int) != (n : Int)) = false := by simp [hlen]
      have hbw : w.heap.size < w1.heap.size := hbx1.lt
      have HBX := Lib.hid hbx1
      have HN := Lib.hid hn
      have HNN := Lib.hid hnn
      have HGD := Lib.hid hgood
      have HR1 := Lib.hid (HR.out.below hbx1.bel)
      rw [hn]
      clear hbx hb1 hbx1 hn hnn hgood
      go_wp2_with fail
      go_loop [8] (fun i => ∃ m : Nat, i = .int .i64 m ∧ m ≤ wts.length ∧ (wts.take m).any badB = false) (fun i => wts.length - (intOf i).toNat)
      case atStart => exact ⟨0, rfl, by omega, by simp⟩
      case round =>
        obtain ⟨m, rfl, hm, hb⟩ := hrel
        by_cases hlm : m < wts.length
        · have hm0 : (0 : Int) ≤ (m : Int) := by omega
          have hm1 : (m : Int) < (wts.length : Int) := by omega
          obtain ⟨xb, xo, rfl, hcm⟩ := HR1.out.int hlm
          obtain ⟨x, hx⟩ : ∃ x, x = wts[m] := ⟨_, rfl⟩
          have hsn : (wts.take (m + 1)).any badB = badB x := by rw [List.take_succ_eq_append_getElem hlm, List.any_append, hb, ← hx]; simp
          have hbx' : badB x = true → wts.any badB = true := fun h => List.any_eq_true.2 ⟨x, by rw [hx]; exact List.getElem_mem hlm, h⟩
          rw [← hx] at hcm
          have HP : Hid (badB x = true → LonPost g wts w (.returned (.tuple #[.int .i64 0, .slice none 0 0, .int .i64 1])) w1) := Lib.hid fun hbad => by
            have hE : lonE g wts = 1 := by unfold lonE; rw [if_neg (by rw [← HKK.out]; simp), if_pos (.inr (hbx' hbad))]
            refine lonPost_no (fun h => ?_) HBX.out.bel hE
            have := h.1
            omega
          have HSN := Lib.hid hsn
          clear hbx' hsn hb hx
          by_cases hx0 : x < 0
          · go_wp2
            refine bodyPost_ret (v := .tuple #[.int .i64 0, .slice none 0 0, .int .i64 1]) (by simp [results, Try.results30, go_sem]) rfl ?_
            exact HP.out (by unfold badB; simp [hx0])
          · have hx0' : 0 ≤ x := by omega
            by_cases hx1 : 1099511627776 < x
            · go_wp2
              refine bodyPost_ret (v := .tuple #[.int .i64 0, .slice none 0 0, .int .i64 1]) (by simp [results, Try.results30, go_sem]) rfl ?_
              exact HP.out (by unfold badB; simp [hx1])
            · have hx1' : x ≤ 1099511627776 := by omega
              go_wp2
              go_round
              case rel => exact ⟨m + 1, by go_num, by omega, by rw [HSN.out]; unfold badB; simp; omega⟩
              case measure => simp [intOf]; omega
        · have hge : ¬ (m : Int) < (wts.length : Int) := by omega
          rw [List.take_of_length_le (by omega)] at hb
          have hE : lonE g wts = ordE g := by unfold lonE; rw [if_neg (by rw [← HKK.out]; simp), if_neg (by rw [HNN.out]; rintro (h | h); exact h hlen; rw [hb] at h; cases h)]
          obtain ⟨ke, hke⟩ : ∃ ke, ke = ordE g := ⟨_, rfl⟩
          rw [← hke] at hE
          have hor1 := HOR.out _ (HG.out.below HBX.out.bel)
          rw [HN.out, ← hke] at hor1
          have HOR1 := Lib.hid hor1
          have HE := Lib.hid hE
          have HKE := Lib.hid hke
          have c1 := HBX.out.c1
          clear hor1 hE hke hb
          go_wp2_with fail
          go_at_call 26
          refine HOR1.out.mono ?_
          rintro e w2 ⟨Xo, co, rfl, hro, hb2⟩
          have hbx2 := HBX.out.below hb2
          by_cases hke0 : ke = 0
          · subst hke0
            obtain ⟨_, hfull, hno⟩ := ordE_zero HKE.out.symm
            have hL : ordL g = ordF (nxt g) n := by unfold ordL; rw [if_pos HKE.out.symm, HNN.out]
            rw [hL] at hro ⊢
            rw [HNN.out] at hfull
            have hbeg := ord_begun (nxt g) n
            have hbk := back_order HGD.out (by rw [HNN.out]; exact hfull)
            rw [HNN.out] at hbk
            have hfine : wts.any badB = false := by
              unfold lonE at HE
              apply Classical.byContradiction
              intro hc
              have h1 : wts.any badB = true := by simpa using hc
              have := HE.out
              rw [if_neg (by rw [← HKK.out]; simp), if_pos (.inr h1)] at this
              cases this
            obtain ⟨o, ho⟩ : ∃ o, o = ordF (nxt g) n := ⟨_, rfl⟩
            rw [← ho] at hro hfull hbeg hbk ⊢
            have hmi : ∀ W : World, (Instr.makeSlice 25 (.int .i64 (n : Int)) (.int .i64 (n : Int))).run Try.prog W = .ok (.slice (some ⟨W.heap.size, 0, none⟩) n n) (W.alloc (.cells (madeCells #[.int .i64 0] n) 3)) :=
              fun W => run_make_row' 25 3 (.int .i64 0) 8 Try.underlying25 info_int rfl .i64 .i64 n (by omega) (by omega) W
            have d0 := hbx2.c0
            rw [HN.out] at d0
            have hb2w : w.heap.size < w2.heap.size := hbx2.lt
            have HBX2 := Lib.hid hbx2
            have HG2 := Lib.hid (HG.out.below hbx2.bel)
            have HR2 := Lib.hid (HR.out.below hbx2.bel)
            have HRO := Lib.hid hro
            have HOL := Lib.hid hfull
            have HNO := Lib.hid hno
            have HO := Lib.hid ho
            have HBEG := Lib.hid hbeg
            have HBK := Lib.hid hbk
            have HFINE := Lib.hid hfine
            clear hro hfull hno ho hbeg hbk hfine hbx2 hb2 hL c0 c1
            go_upto_region 15 with (fail)
            obtain ⟨wa, hwa⟩ : ∃ wa, wa = w2.alloc (.cells (madeCells #[.int .i64 0] n) 3) := ⟨_, rfl⟩
            obtain ⟨gb, hgb⟩ : ∃ gb, gb = w2.heap.size := ⟨_, rfl⟩
            have hna : NumAt wa gb n (fun _ => 0) := by rw [hwa, hgb]; exact num_made w2 n _
            have hba : Below w2.heap.size w2 wa := by rw [hwa]; exact (Below.refl _ _).alloc (Nat.le_refl _) _
            have e0 := (hba.cell (p := ⟨w.heap.size, 0, none⟩) hb2w).trans d0
            have hgbw : w2.heap.size ≤ gb := by omega
            rw [← hwa, ← hgb]
            clear hwa d0 hgb
            go_upto_region 16 with (fail)
            obtain ⟨wb, hwb⟩ : ∃ wb, wb = wa.alloc (.cells (madeCells #[.int .i64 0] n) 3) := ⟨_, rfl⟩
            obtain ⟨nb, hnb⟩ : ∃ nb, nb = wa.heap.size := ⟨_, rfl⟩
            have hnn0 : NumAt wb nb n (fun _ => 0) := by rw [hwb, hnb]; exact num_made wa n _
            have hbb : Below wa.heap.size wa wb := by rw [hwb]; exact (Below.refl _ _).alloc (Nat.le_refl _) _
            have f0 := (hbb.cell (p := ⟨w.heap.size, 0, none⟩) (by have := hba.size; show w.heap.size < _; omega)).trans e0
            have hgnb : gb ≠ nb := by have := hna.1; omega
            have hnbw : w2.heap.size ≤ nb := by have := hba.size; omega
            have hng : NumAt wb gb n (fun _ => 0) := num_below hna hbb
            have hb2b : Below w2.heap.size w2 wb := hba.trans (hbb.mono hba.size)
            rw [← hwb, ← hnb]
            have HNG := Lib.hid hng
            have HNB := Lib.hid hnn0
            have HB2B := Lib.hid hb2b
            clear hwb e0 hnb hna hnn0 hng hb2b hbb hba hmi
            go_wp2
            go_loopw [12] (fun i wr => ∃ m : Nat, i = .int .i64 ((m : Int) - 1) ∧ m ≤ n ∧ NumAt wr gb n (fun i => (lonFG (wtF wts) (tgt g.es) (o.reverse.take (n - m))).1 i) ∧ NumAt wr nb n (fun i => (lonFG (wtF wts) (tgt g.es) (o.reverse.take (n - m))).2 i) ∧ Below w2.heap.size w2 wr) (fun i _ => (intOf i + 1).toNat)
            case atStart => exact ⟨n, rfl, Nat.le_refl _, by rw [Nat.sub_self]; exact HNG.out, by rw [Nat.sub_self]; exact HNB.out, HB2B.out⟩
            case round =>
              obtain ⟨k1, rfl, hk1, hf, hx, hbel⟩ := hrel
              rcases k1 with _ | k
              · have hm1 : ((0 : Nat) : Int) - 1 = -1 := rfl
                rw [hm1]
                rw [Nat.sub_zero, show o.reverse.take n = o.reverse from List.take_of_length_le (by rw [List.length_reverse, HOL.out]; exact Nat.le_refl _)] at hf hx
                obtain ⟨S, hS⟩ : ∃ S, S = lonT g wts := ⟨_, rfl⟩
                obtain ⟨N, hN⟩ : ∃ N, N = lonX g wts := ⟨_, rfl⟩
                have hboth : ∀ i : Nat, i < n → S i = (lonFG (wtF wts) (tgt g.es) o.reverse).1 i ∧ N i = (lonFG (wtF wts) (tgt g.es) o.reverse).2 i := fun i hi => by
                  have hok : lonOk g wts := ⟨HE.out, by rw [HN.out]; omega⟩
                  have := (lonOk_is hok).both (i := i) (by rw [HN.out]; omega)
                  rw [HNN.out, ← HO.out, ← hS, ← hN] at this
                  exact ⟨this.1.symm, this.2.symm⟩
                have HF := Lib.hid (hf.congr (g := fun i => S i) (fun i hi => (hboth i hi).1))
                have HX := Lib.hid (hx.congr (g := fun i => N i) (fun i hi => (hboth i hi).2))
                have HBE := Lib.hid hbel
                have HS := Lib.hid hS
                have HN2 := Lib.hid hN
                clear hf hx hbel hboth hS hN f0
                have hd0 : w2.cell? ⟨w.heap.size, 0, none⟩ = some (.int .i64 (n : Int)) := by have := HBX2.out.c0; rw [HN.out] at this; exact this
                have hz0 : (0 : Int) ≤ (n : Int) := by omega
                go_wp2
                go_loopw [18, 19] (fun vz vi wq => ∃ k : Nat, vz = .int .i64 (fstF S k) ∧ vi = .int .i64 k ∧ k ≤ n ∧ NumAt wq gb n (fun i => S i) ∧ NumAt wq nb n (fun i => N i) ∧ Below w2.heap.size w2 wq) (fun _ i _ => n - (intOf i).toNat)
                case atStart => exact ⟨0, rfl, rfl, by omega, HF.out, HX.out, HBE.out⟩
                case round =>
                  clear HF HX HBE
                  obtain ⟨k, rfl, rfl, hk, hf, hx, hbel⟩ := hrel
                  have g0 := (hbel.cell (p := ⟨w.heap.size, 0, none⟩) hb2w).trans hd0
                  have hfl := fstF_lt S k
                  obtain ⟨z, hz⟩ : ∃ z, z = fstF S k := ⟨_, rfl⟩
                  rw [← hz] at hfl ⊢
                  have hzl : z < (k : Int) := hfl.1
                  have hzm : -1 ≤ z := hfl.2
                  by_cases hlk : k < n
                  · have hk0 : (0 : Int) ≤ (k : Int) := by omega
                    have hk1 : (k : Int) < (n : Int) := by omega
                    have hsk : wr.cell? ⟨gb, k, none⟩ = some (.int .i64 (S k)) := hf.2.1 k hlk
                    obtain ⟨q, hq⟩ : ∃ q, q = S k := ⟨_, rfl⟩
                    rw [← hq] at hsk
                    have hsucc : fstF S (k + 1) = if z < 0 ∨ S z < q then (k : Int) else z := by rw [fstF_succ, ← hz, ← hq]
                    by_cases hzn : z < 0
                    · have HS1 : Hid (fstF S (k + 1) = (k : Int)) := Lib.hid (by rw [hsucc, if_pos (.inl hzn)])
                      have HF := Lib.hid hf
                      have HX := Lib.hid hx
                      have HBE := Lib.hid hbel
                      clear hsucc hz hfl hf hx hbel hq
                      go_wp2_with fail
                      go_quiet (fail)
                      go_wp2
                      go_roundw
                      case rel => exact ⟨k + 1, congrArg (Value.int .i64) HS1.out.symm, by go_num, by omega, HF.out.drewN _, HX.out.drewN _, HBE.out.trans (below_drewN (Below.refl _ _) _)⟩
                      case measure => simp [intOf]; omega
                    · obtain ⟨zz, hzz⟩ : ∃ zz : Nat, z = (zz : Int) := ⟨z.toNat, by omega⟩
                      subst hzz
                      have hzn0 : zz < n := by omega
                      have hz1 : (0 : Int) ≤ (zz : Int) := by omega
                      have hz2 : (zz : Int) < (n : Int) := by omega
                      have hsz : wr.cell? ⟨gb, zz, none⟩ = some (.int .i64 (S zz)) := hf.2.1 zz hzn0
                      obtain ⟨r, hr⟩ : ∃ r, r = S zz := ⟨_, rfl⟩
                      rw [← hr] at hsz hsucc
                      have HSC := Lib.hid hsucc
                      have HF := Lib.hid hf
                      have HX := Lib.hid hx
                      have HBE := Lib.hid hbel
                      clear hsucc hz hfl hf hx hbel hq hr hzn
                      by_cases hrq : r < q
                      · go_wp2_with fail
                        go_quiet (fail)
                        go_wp2
                        go_roundw
                        case rel => exact ⟨k + 1, congrArg (Value.int .i64) (by rw [HSC.out, if_pos (.inr hrq)]), by go_num, by omega, HF.out.drewN _, HX.out.drewN _, HBE.out.trans (below_drewN (Below.refl _ _) _)⟩
                        case measure => simp [intOf]; omega
                      · have hrq' : q ≤ r := by omega
                        go_wp2_with fail
                        go_quiet (fail)
                        go_wp2
                        go_roundw
                        case rel => exact ⟨k + 1, congrArg (Value.int .i64) (by rw [HSC.out, if_neg (by omega)]), by go_num, by omega, HF.out.drewN _, HX.out.drewN _, HBE.out.trans (below_drewN (Below.refl _ _) _)⟩
                        case measure => simp [intOf]; omega
                  · have hge : ¬ (k : Int) < (n : Int) := by omega
                    have hkn : k = n := by omega
                    rw [hkn] at hz
                    have hbw2 : Below w.heap.size w wr := HBX2.out.bel.trans (hbel.mono (by omega))
                    by_cases hn0 : n = 0
                    · have hzv : z = -1 := by rw [hz, hn0]; rfl
                      have HP : Hid (LonPost g wts w (.returned (.tuple #[.int .i64 0, .slice none 0 0, .int .i64 0])) wr) := Lib.hid (lonPost_no (fun h => by have := h.2; rw [HN.out] at this; omega) hbw2 HE.out)
                      rw [hzv]
                      clear hzl hzm hfl hz hf hx hbel hbw2 hzv
                      go_wp2
                      refine bodyPost_ret (v := .tuple #[.int .i64 0, .slice none 0 0, .int .i64 0]) (by simp [results, Try.results30, go_sem]) rfl ?_
                      exact HP.out
                    · obtain ⟨wl, rfl⟩ : ∃ wl : World, wl = wr := ⟨_, rfl⟩
                      obtain ⟨hz3, _, _⟩ := fstF_is S n (by omega)
                      rw [← hz] at hz3
                      obtain ⟨zz, hzz⟩ : ∃ zz : Nat, z = (zz : Int) := ⟨z.toNat, by omega⟩
                      have hok : lonOk g wts := ⟨HE.out, by rw [HN.out]; omega⟩
                      have hLO := lonOk_is hok
                      have hst := hLO.start hok
                      rw [HNN.out, ← HS.out, ← hz, hzz] at hst
                      have hsum : lonSum g wts = S zz := by unfold lonSum; rw [if_pos hok, HNN.out, ← HS.out, ← hz, hzz]
                      subst hzz
                      have hzn0 : zz < n := by omega
                      have hz1 : (0 : Int) ≤ (zz : Int) := by omega
                      have hz2 : (zz : Int) < (n : Int) := by omega
                      obtain ⟨W1, hW1⟩ : ∃ W1, W1 = wl.alloc (.cells #[] 3) := ⟨_, rfl⟩
                      have how := own_void wl 3 1
                      rw [← hW1] at how
                      have hb1W : Below wl.heap.size wl W1 := by rw [hW1]; exact (Below.refl _ _).alloc (Nat.le_refl _) _
                      have HOW := Lib.hid how
                      have HB1W := Lib.hid hb1W
                      have HW1 := Lib.hid hW1
                      have HF := Lib.hid hf
                      have HX := Lib.hid hx
                      have HLO := Lib.hid hLO
                      have HST := Lib.hid hst
                      have HSUM := Lib.hid hsum
                      have HBW2 := Lib.hid hbw2
                      clear how hb1W hW1 hf hx hLO hst hsum hok hz hz3 hzl hzm hfl hbel hbw2 hd0
                      go_wp2
                      rw [← HW1.out]
                      have hzW : wl.heap.size ≤ W1.heap.size := HB1W.out.size
                      go_loopw [20, 21] (fun vs vy wq => ∃ (t : List Int) (y : Int), vy = .int .i64 y ∧ wq.ownsRow wl.heap.size 3 1 vs t.length (I t) ∧ ((0 ≤ y ∧ ∃ k, OnWay g wts t y k) ∨ (y < 0 ∧ t = lonWay g wts)) ∧ t.length ≤ n ∧ Below wl.heap.size wl wq) (fun vs _ _ => n + 1 - lenOfV vs)
                      case atStart => exact ⟨[], zz, rfl, HOW.out, .inl ⟨hz1, n, HST.out⟩, by simp, HB1W.out⟩
                      case round =>
                        obtain ⟨t, y, rfl, hown, hcase, htn, hbe⟩ := hrel
                        obtain ⟨Xt, ct, rfl, hrt, _⟩ := own_rowS hown
                        rcases hcase with ⟨hy, k', hway⟩ | ⟨hy, ht⟩
                        · have hyr := hway.at_
                          rw [HN.out] at hyr
                          have hsh := hway.short HLO.out
                          rw [HNN.out] at hsh
                          obtain ⟨yy, hyy⟩ : ∃ yy : Nat, y = (yy : Int) := ⟨y.toNat, by omega⟩
                          subst hyy
                          have hyn : yy < n := by omega
                          have hy0 : (0 : Int) ≤ (yy : Int) := by omega
                          have hy1 : (yy : Int) < (n : Int) := by omega
                          have hlenI : (I t).length = t.length := by simp
                          have hown3 : wr.ownsRow wl.heap.size 3 1 (.slice Xt t.length ct) (I t).length (I t) := by rw [hlenI]; exact hown
                          have hcn : wl.cell? ⟨nb, yy, none⟩ = some (.int .i64 (N yy)) := HX.out.2.1 yy hyn
                          obtain ⟨ny, hny⟩ : ∃ ny, ny = N yy := ⟨_, rfl⟩
                          rw [← hny] at hcn
                          have hnx : (0 ≤ ny ∧ ∃ k, OnWay g wts (t ++ [(yy : Int)]) ny k) ∨ (ny < 0 ∧ t ++ [(yy : Int)] = lonWay g wts) := by
                            rw [hny, HN2.out]
                            by_cases hc : lonX g wts yy < 0
                            · exact .inr ⟨hc, hway.done HLO.out (fun hp => (HLO.out.goes).1 hp hc)⟩
                            · obtain ⟨k2, _, hw2⟩ := hway.step HLO.out (HLO.out.goes.2 hc)
                              exact .inl ⟨by omega, k2, hw2⟩
                          have hszr : wl.heap.size ≤ wr.heap.size := hbe.size
                          have HOWN := Lib.hid hown3
                          have HLI := Lib.hid hlenI
                          have HBE := Lib.hid hbe
                          have HNX := Lib.hid hnx
                          have HCN := Lib.hid hcn
                          clear hown3 hlenI hbe hnx hcn hny hway hyr hrt hown hy
                          go_wp2_with (at_builtin; go_loud (refine app_new wl.heap.size (by rfl) _ _ 25 3 (.int .i64 0) 8 (by rfl) Try.underlying25 info_int rfl _ (I t) (.int .i64 (yy : Int)) (by rfl) _ (by rfl) rfl rfl HOWN.out hszr (by have := HLI.out; omega) (by have := HLI.out; omega) ?_; intro v5 w5 ho5 hg5 hb5 hs5; have hbe5 : Below wl.heap.size wl w5 := HBE.out.grown hg5 hszr (fun k hk => (HOWN.out.lt k hk).1); have hcn5 := (hbe5.cell (p := ⟨nb, yy, none⟩) HX.out.1).trans HCN.out; have HO5 := Lib.hid ho5; have HBE5 := Lib.hid hbe5; clear ho5 hg5 hb5 hs5 hbe5))
                          go_roundw
                          case rel => exact ⟨t ++ [(yy : Int)], ny, rfl, by simpa [List.map_append] using HO5.out, HNX.out, hsh, HBE5.out⟩
                          case measure =>
                            obtain ⟨X5, c5, rfl, _⟩ := own_rowS HO5.out
                            show n + 1 - ((I t).length + 1) < n + 1 - t.length
                            rw [HLI.out]
                            omega
                        · have hcz : wr.cell? ⟨gb, zz, none⟩ = some (.int .i64 (S zz)) := (hbe.cell (p := ⟨gb, zz, none⟩) HF.out.1).trans (HF.out.2.1 zz hzn0)
                          obtain ⟨sv, hsv⟩ : ∃ sv, sv = S zz := ⟨_, rfl⟩
                          rw [← hsv] at hcz
                          have HP : Hid (LonPost g wts w (.returned (.tuple #[.int .i64 sv, .slice Xt t.length ct, .int .i64 0])) wr) := Lib.hid ⟨Xt, ct, by rw [HSUM.out, ← hsv, HE.out, ht], by rw [← ht]; exact hrt, HBW2.out.trans (hbe.mono HBW2.out.size)⟩
                          clear hbe hown hrt ht hsv
                          go_wp2
                          refine bodyPost_ret (v := .tuple #[.int .i64 sv, .slice Xt t.length ct, .int .i64 0]) (by simp [results, Try.results30, go_sem]) rfl ?_
                          exact HP.out
              · have hm1 : ((k + 1 : Nat) : Int) - 1 = (k : Int) := by omega
                rw [hm1]
                obtain ⟨p, hp⟩ : ∃ p, p = o.reverse.take (n - (k + 1)) := ⟨_, rfl⟩
                have hol := HOL.out
                have hkn : k < o.length := by omega
                have hnext : o.reverse.take (n - k) = p ++ [o[k]] := by
                  rw [hp, show n - k = (n - (k + 1)) + 1 by omega, List.take_succ_eq_append_getElem (by rw [List.length_reverse]; omega), List.getElem_reverse]
                  congr 3
                  omega
                have hvr := HBEG.out.rng _ (List.getElem_mem hkn)
                obtain ⟨bo, oo, rfl, hck0⟩ := HRO.out.int hkn
                have hbo : bo < w2.heap.size := World.block_lt_of_cell? _ _ hck0
                have hck := (hbel.cell (p := ⟨bo, oo + k, none⟩) hbo).trans hck0
                obtain ⟨v, hv⟩ : ∃ v : Nat, o[k] = (v : Int) := ⟨o[k].toNat, by omega⟩
                rw [hv] at hck hvr hnext
                have hvn : v < n := by omega
                have hv0 : (0 : Int) ≤ (v : Int) := by omega
                have hv1 : (v : Int) < (n : Int) := by omega
                have hk0 : (0 : Int) ≤ (k : Int) := by omega
                have hk2 : (k : Int) < (o.length : Int) := by omega
                obtain ⟨f, hfe⟩ : ∃ f, f = (lonFG (wtF wts) (tgt g.es) p).1 := ⟨_, rfl⟩
                obtain ⟨g2, hge2⟩ : ∃ g2, g2 = (lonFG (wtF wts) (tgt g.es) p).2 := ⟨_, rfl⟩
                rw [← hp, ← hfe] at hf
                rw [← hp, ← hge2] at hx
                have hwb := wtF_bound HFINE.out
                have hfb : ∀ i, 0 ≤ f i ∧ f i ≤ 9007199254740992 := fun i => by
                  have h1 := lonF_bound (wt := wtF wts) (adj := tgt g.es) (f0 := fun _ => 0) (by omega) hwb (fun _ => by omega) p i
                  have h2 : p.length ≤ 4096 := by rw [hp, List.length_take, List.length_reverse]; omega
                  rw [← lonFG_fst, ← hfe] at h1
                  have h3 : ((p.length : Int) + 1) * 1099511627776 ≤ 4503599627370496 * 2 := by omega
                  omega
                have hfin1 : ∀ i : Int, (lonFG (wtF wts) (tgt g.es) (o.reverse.take (n - k))).1 i = if i = (v : Int) then wtF wts v + (nxS f (tgt g.es v)).1 else f i := fun i => by
                  rw [hnext, lonFG_snoc, (nxS_is (f := f) (ws := tgt g.es v) (fun z hz => (HGD.out.all _ (mem_tgt.1 hz)).2.1)).1, hfe]
                  rfl
                have hfin2 : ∀ i : Int, (lonFG (wtF wts) (tgt g.es) (o.reverse.take (n - k))).2 i = if i = (v : Int) then (nxS f (tgt g.es v)).2 else g2 i := fun i => by
                  rw [hnext, lonFG_snoc, hfe, hge2]
                  rfl
                have hnxb : 0 ≤ (nxS f (tgt g.es v)).1 ∧ (nxS f (tgt g.es v)).1 ≤ 9007199254740992 := by
                  rw [(nxS_is (f := f) (ws := tgt g.es v) (fun z hz => (HGD.out.all _ (mem_tgt.1 hz)).2.1)).1]
                  rcases maxs_is f (tgt g.es v) 0 with h | ⟨z, _, h⟩
                  · rw [h]; omega
                  · rw [h]; exact hfb z
                have c1 := (hbel.cell (p := ⟨w.heap.size, 1, none⟩) hb2w).trans HBX2.out.c1
                have HFIN1 := Lib.hid hfin1
                have HFIN2 := Lib.hid hfin2
                have HNXB := Lib.hid hnxb
                have HF := Lib.hid hf
                have HX := Lib.hid hx
                have HBE := Lib.hid hbel
                have HWB := Lib.hid hwb
                clear hfin1 hfin2 hnxb hf hx hfe hge2 hfb hnext hv hvr hck0 hp hwb f0 hm1
                go_wp2
                go_loop [14, 15, 16] (fun vb vw vi => ∃ (j : Nat), vi = .int .i64 j ∧ j ≤ g.es.length ∧ vb = .int .i64 (nxS f (tgt (g.es.take j) v)).1 ∧ vw = .int .i64 (nxS f (tgt (g.es.take j) v)).2) (fun _ _ i => g.es.length - (intOf i).toNat)
                case atStart => exact ⟨0, rfl, by omega, rfl, rfl⟩
                case round =>
                  obtain ⟨j, rfl, hj, rfl, rfl⟩ := hrel
                  obtain ⟨bv, hbv⟩ : ∃ bv, bv = (nxS f (tgt (g.es.take j) v)).1 := ⟨_, rfl⟩
                  obtain ⟨who, hwho⟩ : ∃ who, who = (nxS f (tgt (g.es.take j) v)).2 := ⟨_, rfl⟩
                  rw [← hbv, ← hwho]
                  by_cases hlj : j < g.es.length
                  · have hj0 : (0 : Int) ≤ (j : Int) := by omega
                    have hj1 : (j : Int) < (g.es.length : Int) := by omega
                    obtain ⟨b, off, rfl, hbl, ha0, hb0⟩ := HG2.out.edge hlj
                    have ha := (HBE.out.cell (p := ⟨b, off + j * 2, none⟩) hbl).trans ha0
                    have hb := (HBE.out.cell (p := ⟨b, off + j * 2 + 1, none⟩) hbl).trans hb0
                    have hall := (HGD.out.all _ (List.getElem_mem hlj)).2
                    have htn := tgt_next g.es j hlj (v : Int)
                    obtain ⟨a, ha'⟩ : ∃ a, a = g.es[j].1 := ⟨_, rfl⟩
                    obtain ⟨x, hx⟩ : ∃ x : Nat, g.es[j].2 = (x : Int) := ⟨g.es[j].2.toNat, by omega⟩
                    rw [← ha'] at ha htn
                    rw [hx] at hb hall htn
                    have hxn : x < n := by have := HN.out; omega
                    have hx0 : (0 : Int) ≤ (x : Int) := by omega
                    have hx1 : (x : Int) < (n : Int) := by omega
                    obtain ⟨q, hq⟩ : ∃ q, q = f x := ⟨_, rfl⟩
                    have hcx : wr.cell? ⟨gb, x, none⟩ = some (.int .i64 q) := by rw [hq]; exact HF.out.2.1 x hxn
                    by_cases hav : a = (v : Int)
                    · subst hav
                      rw [if_pos rfl] at htn
                      have hst : nxS f (tgt (g.es.take (j + 1)) v) = if bv < q ∨ (q = bv ∧ 0 ≤ who ∧ (x : Int) < who) then (q, (x : Int)) else (bv, who) := by
                        rw [htn, nxS_snoc, hbv, hwho, hq]
                        rfl
                      have HST := Lib.hid hst
                      clear hst htn hbv hwho hq hx hall ha0 hb0 ha'
                      by_cases hgt : bv < q
                      · go_wp2
                        go_round
                        case rel => exact ⟨j + 1, by go_num, by omega, by rw [HST.out, if_pos (.inl hgt)], by rw [HST.out, if_pos (.inl hgt)]⟩
                        case measure => simp [intOf]; omega
                      · have hgt' : q ≤ bv := by omega
                        by_cases heq : q = bv
                        · have heqb : (q == bv) = true := by simpa using heq
                          by_cases hw0 : 0 ≤ who
                          · by_cases hxw : (x : Int) < who
                            · go_wp2
                              go_round
                              case rel => exact ⟨j + 1, by go_num, by omega, by rw [HST.out, if_pos (.inr ⟨heq, hw0, hxw⟩)]; first | rfl | exact congrArg (Value.int .i64) heq.symm, by rw [HST.out, if_pos (.inr ⟨heq, hw0, hxw⟩)]⟩
                              case measure => simp [intOf]; omega
                            · have hxw' : who ≤ (x : Int) := by omega
                              go_wp2
                              go_round
                              case rel => exact ⟨j + 1, by go_num, by omega, by rw [HST.out, if_neg (by omega)], by rw [HST.out, if_neg (by omega)]⟩
                              case measure => simp [intOf]; omega
                          · have hw0' : who < 0 := by omega
                            go_wp2
                            go_round
                            case rel => exact ⟨j + 1, by go_num, by omega, by rw [HST.out, if_neg (by omega)], by rw [HST.out, if_neg (by omega)]⟩
                            case measure => simp [intOf]; omega
                        · have heqb : (q == bv) = false := by simpa using heq
                          go_wp2
                          go_round
                          case rel => exact ⟨j + 1, by go_num, by omega, by rw [HST.out, if_neg (by omega)], by rw [HST.out, if_neg (by omega)]⟩
                          case measure => simp [intOf]; omega
                    · have hne : (a == (v : Int)) = false := by simpa using hav
                      rw [if_neg hav] at htn
                      have HB1 : Hid (bv = (nxS f (tgt (g.es.take (j + 1)) v)).1) := Lib.hid (by rw [htn]; exact hbv)
                      have HB2 : Hid (who = (nxS f (tgt (g.es.take (j + 1)) v)).2) := Lib.hid (by rw [htn]; exact hwho)
                      clear htn hbv hwho hq hx hall ha0 hb0 ha' hav
                      go_wp2
                      go_round
                      case rel => exact ⟨j + 1, by go_num, by omega, congrArg (Value.int .i64) HB1.out, congrArg (Value.int .i64) HB2.out⟩
                      case measure => simp [intOf]; omega
                  · have hge : ¬ (j : Int) < (g.es.length : Int) := by omega
                    rw [show g.es.take j = g.es from List.take_of_length_le (by omega)] at hbv hwho
                    have hbb := HNXB.out
                    rw [← hbv] at hbb
                    obtain ⟨xb, xo, rfl, hcw0⟩ := HR2.out.int (show v < wts.length by omega)
                    obtain ⟨wv, hwv⟩ : ∃ wv, wv = wtF wts v := ⟨_, rfl⟩
                    have hcw : wr.cell? ⟨xb, xo + v, none⟩ = some (.int .i64 wv) := by
                      rw [hwv, wtF_get (show v < wts.length by omega)]
                      exact (HBE.out.cell (p := ⟨xb, xo + v, none⟩) (World.block_lt_of_cell? w2 _ hcw0)).trans hcw0
                    have hw := HWB.out v
                    rw [← hwv] at hw
                    have hw0 : 0 ≤ wv := hw.1
                    have hw1 : wv ≤ 1099511627776 := hw.2
                    have hb0 : 0 ≤ bv := hbb.1
                    have hb1 : bv ≤ 9007199254740992 := hbb.2
                    have hv2 : (v : Int) < (wts.length : Int) := by omega
                    have hcg := HF.out.2.1 v hvn
                    have hfg := HF.out.2.2 v
                    have hcn := HX.out.2.1 v hvn
                    have hfn := HX.out.2.2 v
                    have hnbg : nb ≠ gb := fun e => hgnb e.symm
                    have hf2 : NumAt ((wr.setCell ⟨gb, v, none⟩ (.int .i64 (wv + bv))).setCell ⟨nb, v, none⟩ (.int .i64 who)) gb n (fun i => (lonFG (wtF wts) (tgt g.es) (o.reverse.take (n - k))).1 i) :=
                      (HF.out.put hvn (fun i _ => by
                        rw [HFIN1.out, ← hbv, ← hwv]
                        by_cases e : i = v
                        · subst e; simp
                        · rw [if_neg (by omega), if_neg e])).moves (M := [nb]) (Moves.set _ ⟨nb, v, none⟩ _ (by simp)) (by simpa using hgnb)
                    have hx2 : NumAt ((wr.setCell ⟨gb, v, none⟩ (.int .i64 (wv + bv))).setCell ⟨nb, v, none⟩ (.int .i64 who)) nb n (fun i => (lonFG (wtF wts) (tgt g.es) (o.reverse.take (n - k))).2 i) :=
                      (HX.out.moves (M := [gb]) (Moves.set _ ⟨gb, v, none⟩ _ (by simp)) (by simpa using hnbg)).put hvn (fun i _ => by
                        rw [HFIN2.out, ← hwho]
                        by_cases e : i = v
                        · subst e; simp
                        · rw [if_neg (by omega), if_neg e])
                    have HF2 := Lib.hid hf2
                    have HX2 := Lib.hid hx2
                    have HB2 := Lib.hid ((HBE.out.setCell (p := ⟨gb, v, none⟩) hgbw (.int .i64 (wv + bv))).setCell (p := ⟨nb, v, none⟩) hnbw (.int .i64 who))
                    clear hf2 hx2 hbv hwho hwv hw hbb hcw0
                    go_wp2
                    go_roundw
                    case rel => exact ⟨k, by go_num, by omega, HF2.out, HX2.out, HB2.out⟩
                    case measure => simp [intOf]
          · have hkb : (ke != 0) = true := by simpa using hke0
            have HP : Hid (LonPost g wts w (.returned (.tuple #[.int .i64 0, .slice none 0 0, .int .i64 ke])) w2) := Lib.hid (lonPost_no (fun h => hke0 (HE.out.symm.trans h.1)) hbx2.bel HE.out)
            clear hbx2 hb2 hro
            go_wp2
            refine bodyPost_ret (v := .tuple #[.int .i64 0, .slice none 0 0, .int .i64 ke]) (by simp [results, Try.results30, go_sem]) rfl ?_
            exact HP.out
    · have hlb : ((wts.length : Int) != (n : Int)) = true := by
        rw [bne_iff_ne]; omega
      have hE : lonE g wts = 1 := by unfold lonE; rw [if_neg (by rw [← HKK.out]; simp), if_pos (.inl (by rw [hnn]; exact hlen))]
      have HP : Hid (LonPost g wts w (.returned (.tuple #[.int .i64 0, .slice none 0 0, .int .i64 1])) w1) := Lib.hid (lonPost_no (fun h => by have := h.1; omega) hbx1.bel hE)
      clear hE hgood hnn hn hlen hbx1 hb1 hbx
      go_wp2
      refine bodyPost_ret (v := .tuple #[.int .i64 0, .slice none 0 0, .int .i64 1]) (by simp [results, Try.results30, go_sem]) rfl ?_
      exact HP.out
  · have hkb : (kk != 0) = true := by simpa using hk
    have hE : lonE g wts = kk := by unfold lonE; rw [if_pos (by rw [← HKK.out]; exact hk)]; exact HKK.out.symm
    have HP : Hid (LonPost g wts w (.returned (.tuple #[.int .i64 0, .slice none 0 0, .int .i64 kk])) w1) := Lib.hid (lonPost_no (fun h => hk (hE.symm.trans h.1)) hbx1.bel hE)
    clear hE hbx1 hb1 hbx hk
    go_wp2
    refine bodyPost_ret (v := .tuple #[.int .i64 0, .slice none 0 0, .int .i64 kk]) (by simp [results, Try.results30, go_sem]) rfl ?_
    exact HP.out
end Go.Proofs.Ytpdfcffeinbcaaa
