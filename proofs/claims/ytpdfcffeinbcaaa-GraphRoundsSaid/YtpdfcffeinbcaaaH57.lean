/- The law GraphRounds. -/
import Derived.Test.YtpdfcffeinbcaaaH49
import Derived.Test.YtpdfcffeinbcaaaH55
import Derived.Test.YtpdfcffeinbcaaaH56
import Derived.Test.YtpdfcffeinbcaaaH28
import Derived.Test.YtpdfcffeinbcaaaH20
namespace Go.Proofs.Ytpdfcffeinbcaaa
open Go.RowKit
/-- The components, or none. -/
noncomputable def compsL (g : XG) : List (List Int) := if chkF g = 0 then compsF g else []
set_option maxHeartbeats 4000000 in
set_option maxRecDepth 100000 in
theorem rcomps_no (g : XG) (E : Option Addr) (d : Nat) (w : World) (h : GAt w E g) (hl : g.es.length ≤ 4611686018427387904) (hk0 : chkF g ≠ 0) :
    Calls Try.prog 36 #[g.val E d] w fun e w' => e = .returned (.tuple #[.slice none 0 0, .int .i64 (chkF g)]) ∧ Below w.heap.size w w' := by
  have htn := fun W h => rTurn_c g E d W h hl
  have hbx := box_at (w := w) (t := 24) g E d
  have hv : g.val E d = .agg #[.int .i64 g.n, .slice E g.es.length d] := rfl
  rw [hv] at htn ⊢
  have HTN := Lib.hid htn
  have HG := Lib.hid h
  obtain ⟨kk, hkk⟩ : ∃ kk, kk = chkF g := ⟨_, rfl⟩
  have HKK := Lib.hid hkk
  have hk : kk ≠ 0 := by rw [hkk]; exact hk0
  rw [← hkk]
  clear htn hv h hkk hk0
  go_enter Try.func36, Try.ntmps36
  go_wp2_with fail
  go_at_call 22
  refine (HTN.out _ (HG.out.below hbx.bel)).mono ?_
  rintro e w1 ⟨E2, d2, rfl, hg2, hb1⟩
  rw [← HKK.out]
  have hbx1 := hbx.below hb1
  have hv2 : (turnG g).val E2 d2 = .agg #[.int .i64 (turnG g).n, .slice E2 (turnG g).es.length d2] := rfl
  have hkb : (kk != 0) = true := by simpa using hk
  rw [hv2]
  have HB := Lib.hid hbx1.bel
  have hz := hbx1.lt
  clear hbx1 hbx hb1 hg2 hv2
  go_wp2
  go_ret2
  exact ⟨rfl, HB.out.alloc (by omega) _⟩
def CompsAll (g : XG) (w : World) (e : Ending) (w' : World) : Prop := ∃ v, e = .returned (.tuple #[v, .int .i64 (chkF g)]) ∧ Below w.heap.size w w' ∧ RowsAt w' w.heap.size v (compsL g).length (fun i => (compsL g).getD i [])
theorem rows_none {w : World} {lo : Nat} {ls : Nat → List Int} : RowsAt w lo (.slice none 0 0) 0 ls := ⟨none, 0, rfl, fun i h => absurd h (by omega)⟩
theorem rcomps2_c (g : XG) (E : Option Addr) (d : Nat) (w : World) (h : GAt w E g) (hl : g.es.length ≤ 4611686018427387904) : Calls Try.prog 36 #[g.val E d] w (CompsAll g w) := by
  by_cases hk : chkF g = 0
  · refine (rcomps_c g E d w h hl).mono ?_
    rintro e w' ⟨v, rfl, hb, hn⟩
    exact ⟨v, rfl, hb, by unfold compsL; rw [if_pos hk]; exact (hn hk).rows⟩
  · refine (rcomps_no g E d w h hl hk).mono ?_
    rintro e w' ⟨rfl, hb⟩
    exact ⟨_, rfl, hb, by unfold compsL; rw [if_neg hk]; exact rows_none⟩
theorem gcomps2_c (g : XG) (E : Option Addr) (d : Nat) (w : World) (h : GAt w E g) (hl : g.es.length ≤ 4611686018427387904) : Calls Try.prog 35 #[g.val E d] w (CompsAll g w) := by
  refine (gcomps_c g E d w h hl).mono ?_
  rintro e w' ⟨v, rfl, hb, hn, hz⟩
  by_cases hk : chkF g = 0
  · exact ⟨v, rfl, hb, by unfold compsL; rw [if_pos hk]; exact hn hk⟩
  · exact ⟨v, rfl, hb, by rw [hz hk]; unfold compsL; rw [if_neg hk]; exact rows_none⟩
theorem roundL_length (g : XG) : (roundL g).length ≤ 4096 := by
  unfold roundL
  split
  · rename_i h
    have hg := chkF_good.1 h
    refine Nat.le_trans (toldL_len _ _) ?_
    have := hg.n0
    have := hg.n1
    omega
  · simp
theorem cirL_length (g : XG) (x : Int) : (cirL g x).length ≤ 5000 := by
  unfold cirL
  split
  · rename_i h
    rw [List.length_cons, cirGo_length]
    unfold cirE at h
    split at h
    · rename_i hk
      split at h
      · rename_i hn
        have hg := chkF_good.1 hk
        have hf := farG_ok hg (nodeB_iff.1 hn)
        rcases best_spec (farG g x) (nxt g x) with ⟨h1, _⟩ | ⟨_, ⟨u, _, h2⟩, _⟩
        · rw [h1]; decide
        · have := (hf.bd u).2
          have := hg.n1
          omega
      · omega
    · omega
  · simp
theorem compsL_length (g : XG) : (compsL g).length ≤ 4096 ∧ ∀ c ∈ compsL g, c.length ≤ 4096 := by
  unfold compsL
  split
  · rename_i h
    have hg := chkF_good.1 h
    have := hg.n0
    have := hg.n1
    refine ⟨Nat.le_trans (compsTo_length g _) (by omega), fun c hc => ?_⟩
    obtain ⟨i, _, _, rfl⟩ := mem_comps.1 hc
    refine Nat.le_trans (nodup_len g.n.toNat _ (rising_nodup (compRow_rising g i)) (fun y hy => (mem_compRow.1 hy).1)) (by omega)
  · simp
theorem sameInts_q (xs : List Int) (X Y : Option Addr) (c d : Nat) (w : World) (hx : RowAt w X (I xs)) (hy : RowAt w Y (I xs)) (hl : xs.length ≤ 140737488355328) :
    Calls Try.prog 18 #[.slice X xs.length c, .slice Y xs.length d] w fun e w' => e = .returned (.bool true) ∧ ∃ q, w' = w.drewN q := by
  go_enter Try.func18, Try.ntmps18
  go_wp2
  go_loopw [5] (fun i wr => ∃ k n : Nat, k ≤ xs.length ∧ i = .int .i64 k ∧ wr = w.drewN n) (fun i _ => xs.length - (intOf i).toNat)
  case atStart => exact ⟨0, 0, by omega, rfl, rfl⟩
  case round =>
    obtain ⟨k, n, hk, rfl, rfl⟩ := hrel
    by_cases hlt : k < xs.length
    · obtain ⟨b, off, rfl, h1⟩ := hx.int hlt
      obtain ⟨b', off', rfl, h2⟩ := hy.int hlt
      have hi0 : (0 : Int) ≤ (k : Int) := Int.natCast_nonneg _
      have hi1 : (k : Int) < (xs.length : Int) := by omega
      have hb : ((xs[k] : Int) != (xs[k] : Int)) = false := by simp
      go_wp2_with fail
      go_quiet (fail)
      go_wp2
      go_roundw
      case rel => exact ⟨k + 1, _, by omega, by go_num, rfl⟩
      case measure => simp [intOf]; omega
    · go_wp2
      go_ret
      exact ⟨rfl, _, rfl⟩
set_option maxHeartbeats 4000000 in
set_option maxRecDepth 100000 in
theorem rounds_c (g : XG) (E : Option Addr) (d : Nat) (x : Int) (w : World) (h : GAt w E g) (hl : g.es.length ≤ 8796093022208) :
    Calls Try.prog 7 #[g.val E d, .int .i64 x] w fun e w' => e = .returned (.bool true) ∧ Below w.heap.size w w' := by
  obtain ⟨m, hm⟩ : ∃ m, m = g.es.length := ⟨_, rfl⟩
  have hv : ∀ E d, g.val E d = .agg #[.int .i64 g.n, .slice E m d] := fun _ _ => by rw [hm]; rfl
  have hcp := fun W h => copied_c g E d W h hl
  have hgc := fun E d W h => gcomps2_c g E d W h (by omega)
  have hrc := fun E d W h => rcomps2_c g E d W h (by omega)
  have hor := fun E d W h => ground_c g E d W h (by omega)
  have hro := fun E d W h => rround_c g E d W h (by omega)
  have hle := fun E d W h => gcircle_c g E d x W h (by omega)
  have hrl := fun E d W h => rcircle_c g E d x W h (by omega)
  have hsm := fun E F d c W h h2 => same_c g E F d c W h h2 (by omega)
  have hb := box_at (w := w) (t := 24) g E d
  simp only [hv] at hcp hgc hrc hor hro hle hrl hsm ⊢
  obtain ⟨kk, hkk⟩ : ∃ kk, kk = chkF g := ⟨_, rfl⟩
  obtain ⟨kc, hkc⟩ : ∃ kc, kc = cirE g x := ⟨_, rfl⟩
  obtain ⟨lo, hlo⟩ : ∃ lo, lo = roundL g := ⟨_, rfl⟩
  obtain ⟨ll, hll⟩ : ∃ ll, ll = cirL g x := ⟨_, rfl⟩
  obtain ⟨cs, hcs⟩ : ∃ cs, cs = compsL g := ⟨_, rfl⟩
  have hlol : lo.length ≤ 140737488355328 := by have := roundL_length g; rw [hlo]; omega
  have hlll : ll.length ≤ 140737488355328 := by have := cirL_length g x; rw [hll]; omega
  have hcsl := compsL_length g
  rw [← hcs] at hcsl
  unfold CompsAll at hgc hrc
  rw [← hkk, ← hcs] at hgc hrc
  rw [← hkk, ← hlo] at hor hro
  rw [← hkc, ← hll] at hle hrl
  have HGC := Lib.hid hgc
  have HRC := Lib.hid hrc
  have HCSL := Lib.hid hcsl
  have HCP := Lib.hid hcp
  have HOR := Lib.hid hor
  have HRO := Lib.hid hro
  have HLE := Lib.hid hle
  have HRL := Lib.hid hrl
  have HSM := Lib.hid hsm
  have HM := Lib.hid hm
  have HG := Lib.hid h
  rw [hm.symm] at hb
  clear hcp hgc hrc hor hro hle hrl hsm hv hkk hkc hcs hcsl hlo hll h hm
  go_enter Try.func7, Try.ntmps7
  have hb1 := hb.bel
  have b0 := hb.c0
  have b1 := hb.c1
  have hbl := hb.lt
  rw [← HM.out] at b1
  have HB1 := Lib.hid hb1
  have HBS := Lib.hid b0
  have HBT := Lib.hid b1
  have HBL := Lib.hid hbl
  clear hb hb1 b0 b1 hbl
  go_wp2_with fail
  go_at_call 12
  refine (HCP.out _ (HG.out.below HB1.out)).mono ?_
  rintro e w1 ⟨F, c, rfl, hgf, hb2⟩
  have hrs : RS w (w1.alloc (.cells #[.int .i64 g.n, .slice F m c] 24)) w1.heap.size g m E d F c none none [] := by
    have hba : ∀ o, Below w1.heap.size w1 (w1.alloc o) := fun o => (Below.refl _ _).alloc (Nat.le_refl _) o
    have hbw : Below w.heap.size w w1 := HB1.out.trans (hb2.mono HB1.out.size)
    exact ⟨HM.out, kept_cell (kept_cell HBS.out hb2) (hba _), kept_cell (kept_cell HBT.out hb2) (hba _), by rw [cell_new]; rfl, by rw [cell_new]; rfl, (HG.out.below hbw).below (hba _), hgf.below (hba _), .inl rfl, .inl rfl, hbw.trans ((hba _).mono hbw.size)⟩
  have RA0 := Lib.hid hrs
  clear hgf hb2 hrs
  obtain ⟨t, ht⟩ : ∃ t, t = w1.heap.size := ⟨_, rfl⟩
  obtain ⟨wA, hwA⟩ : ∃ wA, wA = w1.alloc (.cells #[.int .i64 g.n, .slice F m c] 24) := ⟨_, rfl⟩
  rw [← ht, ← hwA] at RA0
  go_upto_region 2 with (fail)
  rw [← ht, ← hwA]
  have RA := RA0
  clear RA0 ht hwA
  have c0 := RA.out.c0
  have c1 := RA.out.c1
  have d0 := RA.out.d0
  have d1 := RA.out.d1
  go_wp2_with fail
  go_at_call 35
  refine (HGC.out _ _ _ RA.out.gf).mono ?_
  rintro e w2 ⟨v1, rfl, hb, hr1⟩
  have RB := Lib.hid (RA.out.below hb)
  clear c0 c1 d0 d1
  have c0 := RB.out.c0
  have c1 := RB.out.c1
  have d0 := RB.out.d0
  have d1 := RB.out.d1
  have HR1 := Lib.hid hr1
  clear hb hr1
  go_wp2_with fail
  go_at_call 36
  refine (HRC.out _ _ _ RB.out.ge).mono ?_
  rintro e w3 ⟨v2, rfl, hb, hr2⟩
  have RC := Lib.hid (RB.out.below hb)
  clear c0 c1 d0 d1
  have c0 := RC.out.c0
  have c1 := RC.out.c1
  have d0 := RC.out.d0
  have d1 := RC.out.d1
  have hr1 := HR1.out.below hb
  obtain ⟨X1, z1, rfl, hx1⟩ := hr1
  obtain ⟨X2, z2, rfl, hx2⟩ := hr2
  have HX1 := Lib.hid hx1
  have HX2 := Lib.hid hx2
  clear hb hx1 hx2 HR1
  have hnn : (kk != kk) = false := by simp
  obtain ⟨nc, hnc⟩ : ∃ nc, nc = cs.length := ⟨_, rfl⟩
  rw [← hnc]
  have hnc1 : ((nc : Int) != (nc : Int)) = false := by simp
  have hnc4 : nc ≤ 4096 := by have := HCSL.out.1; omega
  have HNC := Lib.hid hnc
  clear hnc
  go_wp2
  go_loopw [10] (fun i wr => ∃ k : Nat, i = .int .i64 k ∧ k ≤ nc ∧ Below w3.heap.size w3 wr) (fun i _ => nc - (intOf i).toNat)
  case atStart => exact ⟨0, rfl, by omega, Below.refl _ _⟩
  case round =>
    obtain ⟨k, rfl, hk, hbe⟩ := hrel
    by_cases hlt : k < nc
    · have hk0 : (0 : Int) ≤ (k : Int) := by omega
      have hk1 : (k : Int) < (nc : Int) := by omega
      have hkc : k < cs.length := by have := HNC.out; omega
      obtain ⟨b1, Y1, y1, rfl, _, hl1, hc1, hr1, _⟩ := HX1.out k hkc
      obtain ⟨b2, Y2, y2, rfl, _, hl2, hc2, hr2, _⟩ := HX2.out k hkc
      obtain ⟨c, hc⟩ : ∃ c, c = cs.getD k [] := ⟨_, rfl⟩
      have hcl : c.length ≤ 140737488355328 := by
        have : c ∈ cs := by rw [hc, List.getD_eq_getElem?_getD, List.getElem?_eq_getElem hkc]; exact List.getElem_mem _
        have := HCSL.out.2 c this
        omega
      simp only [← hc] at hc1 hr1 hc2 hr2
      have e1 := (hbe.cell (p := ⟨b1, k, none⟩) hl1).trans hc1
      have e2 := (hbe.cell (p := ⟨b2, k, none⟩) hl2).trans hc2
      have hq : ∀ q, Calls Try.prog 18 #[.slice Y1 c.length y1, .slice Y2 c.length y2] (wr.drewN q) fun e w'' => e = .returned (.bool true) ∧ ∃ m, w'' = wr.drewN m := fun q => by
        refine (sameInts_q c Y1 Y2 y1 y2 (wr.drewN q) ((hr1.below hbe).below (below_drewN (Below.refl _ _) _)) ((hr2.below hbe).below (below_drewN (Below.refl _ _) _)) hcl).mono ?_
        rintro e w'' ⟨rfl, m, rfl⟩
        exact ⟨rfl, q + m, by simp [World.drewN, Nat.add_assoc]⟩
      have HQ := Lib.hid hq
      have HBE := Lib.hid hbe
      clear hq hbe hc hr1 hr2 hc1 hc2 hl1 hl2 hkc hcl
      go_upto_region 9 with (fail)
      go_quiet ((first | (go_at_call 18; exact HQ.out _)))
      go_wp2
      go_roundw
      case rel => exact ⟨k + 1, by go_num, by omega, HBE.out.trans (below_drewN (Below.refl _ _) _)⟩
      case measure => simp [intOf]; omega
    · have hge : ¬ (k : Int) < (nc : Int) := by omega
      have RD := Lib.hid (RC.out.below hbe)
      clear c0 c1 d0 d1 hbe
      have c0 := RD.out.c0
      have c1 := RD.out.c1
      have d0 := RD.out.d0
      have d1 := RD.out.d1
      go_wp2_with fail
      go_at_call 37
      refine (HOR.out _ _ _ RD.out.gf).mono ?_
      rintro e w4 ⟨P1, e1, rfl, hp1, hb⟩
      have RE := Lib.hid (RD.out.below hb)
      clear c0 c1 d0 d1
      have c0 := RE.out.c0
      have c1 := RE.out.c1
      have d0 := RE.out.d0
      have d1 := RE.out.d1
      have HP1 := Lib.hid hp1
      clear hb hp1
      go_wp2_with fail
      go_at_call 38
      refine (HRO.out _ _ _ RE.out.ge).mono ?_
      rintro e w5 ⟨P2, e2, rfl, hp2, hb⟩
      have RF := Lib.hid (RE.out.below hb)
      clear c0 c1 d0 d1
      have c0 := RF.out.c0
      have c1 := RF.out.c1
      have d0 := RF.out.d0
      have d1 := RF.out.d1
      have HP2 := Lib.hid (And.intro (HP1.out.below hb) hp2)
      clear hb hp2 HP1
      go_wp2_with fail
      go_at_call 18
      refine (sameInts_c lo P1 P2 e1 e2 _ HP2.out.1 HP2.out.2 hlol).mono ?_
      rintro e w6 ⟨rfl, hb⟩
      have RG := Lib.hid (RF.out.below hb)
      clear c0 c1 d0 d1
      have c0 := RG.out.c0
      have c1 := RG.out.c1
      have d0 := RG.out.d0
      have d1 := RG.out.d1
      clear hb HP2
      go_wp2_with fail
      go_at_call 39
      refine (HLE.out _ _ _ RG.out.gf).mono ?_
      rintro e w7 ⟨P3, e3, rfl, hp1, hb⟩
      have RH := Lib.hid (RG.out.below hb)
      clear c0 c1 d0 d1
      have c0 := RH.out.c0
      have c1 := RH.out.c1
      have d0 := RH.out.d0
      have d1 := RH.out.d1
      have HP1 := Lib.hid hp1
      clear hb hp1
      go_wp2_with fail
      go_at_call 40
      refine (HRL.out _ _ _ RH.out.ge).mono ?_
      rintro e w8 ⟨P4, e4, rfl, hp2, hb⟩
      have RI := Lib.hid (RH.out.below hb)
      clear c0 c1 d0 d1
      have c0 := RI.out.c0
      have c1 := RI.out.c1
      have d0 := RI.out.d0
      have d1 := RI.out.d1
      have HP2 := Lib.hid (And.intro (HP1.out.below hb) hp2)
      clear hb hp2 HP1
      go_wp2_with fail
      go_at_call 18
      refine (sameInts_c ll P3 P4 e3 e4 _ HP2.out.1 HP2.out.2 hlll).mono ?_
      rintro e w9 ⟨rfl, hb⟩
      have RJ := Lib.hid (RI.out.below hb)
      clear c0 c1 d0 d1
      have c0 := RJ.out.c0
      have c1 := RJ.out.c1
      have d0 := RJ.out.d0
      have d1 := RJ.out.d1
      clear hb HP2
      go_wp2_with fail
      go_at_call 23
      refine (HSM.out _ _ _ _ _ RJ.out.gf RJ.out.ge).mono ?_
      rintro e w14 ⟨rfl, hb⟩
      have HBF := Lib.hid ((RJ.out.below hb).bel)
      clear hb c0 c1 d0 d1
      go_wp2
      go_ret
      exact ⟨rfl, HBF.out⟩
end Go.Proofs.Ytpdfcffeinbcaaa
