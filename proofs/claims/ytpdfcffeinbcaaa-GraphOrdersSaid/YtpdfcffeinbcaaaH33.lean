/- The law GraphOrders. -/
import Derived.Test.YtpdfcffeinbcaaaH20
import Derived.Test.YtpdfcffeinbcaaaH32
namespace Go.Proofs.Ytpdfcffeinbcaaa
open Go.RowKit
theorem ordL_length (g : XG) : (ordL g).length ≤ 4096 := by
  unfold ordL
  split
  · rename_i h
    obtain ⟨hg, hl, _⟩ := ordE_zero h
    have := hg.n1; have := hg.n0
    omega
  · simp
theorem levL_length (g : XG) : (levL g).length ≤ 4096 := by
  unfold levL
  split
  · rename_i h
    obtain ⟨hg, hl, _⟩ := ordE_zero h
    have := hg.n1; have := hg.n0
    rw [List.length_map, nodes_length]
    omega
  · simp
set_option maxHeartbeats 4000000 in
set_option maxRecDepth 100000 in
theorem orders_c (g : XG) (E : Option Addr) (d : Nat) (w : World) (h : GAt w E g) (hl : g.es.length ≤ 8796093022208) :
    Calls Try.prog 4 #[g.val E d] w fun e w' => e = .returned (.bool true) ∧ Below w.heap.size w w' := by
  obtain ⟨m, hm⟩ : ∃ m, m = g.es.length := ⟨_, rfl⟩
  have hv : ∀ E d, g.val E d = .agg #[.int .i64 g.n, .slice E m d] := fun _ _ => by rw [hm]; rfl
  have hcp := fun W h => copied_c g E d W h hl
  have hor := fun E d W h => gorder_c g E d W h (by omega)
  have hro := fun E d W h => rorder_c g E d W h (by omega)
  have hle := fun E d W h => glevels_c g E d W h (by omega)
  have hrl := fun E d W h => rlevels_c g E d W h (by omega)
  have hsm := fun E F d c W h h2 => same_c g E F d c W h h2 (by omega)
  have hb := box_at (w := w) (t := 24) g E d
  simp only [hv] at hcp hor hro hle hrl hsm ⊢
  obtain ⟨kk, hkk⟩ : ∃ kk, kk = ordE g := ⟨_, rfl⟩
  obtain ⟨lo, hlo⟩ : ∃ lo, lo = ordL g := ⟨_, rfl⟩
  obtain ⟨ll, hll⟩ : ∃ ll, ll = levL g := ⟨_, rfl⟩
  have hlol : lo.length ≤ 140737488355328 := by have := ordL_length g; rw [hlo]; omega
  have hlll : ll.length ≤ 140737488355328 := by have := levL_length g; rw [hll]; omega
  rw [← hkk, ← hlo] at hor hro
  rw [← hkk, ← hll] at hle hrl
  have HCP := Lib.hid hcp
  have HOR := Lib.hid hor
  have HRO := Lib.hid hro
  have HLE := Lib.hid hle
  have HRL := Lib.hid hrl
  have HSM := Lib.hid hsm
  have HM := Lib.hid hm
  have HG := Lib.hid h
  rw [hm.symm] at hb
  clear hcp hor hro hle hrl hsm hv hkk hlo hll h hm
  go_enter Try.func4, Try.ntmps4
  have hb1 := hb.bel
  have b0 := hb.c0
  have b1 := hb.c1
  have hbl := hb.lt
  rw [← HM.out] at b1
  have HB1 := Lib.hid hb1
  have HBS := Lib.hid b0
  have HBT := Lib.hid b1
  have HBL := Lib.hid hbl
  clear hb hb1 b0 b1 hbl
  go_wp2_with fail
  go_at_call 12
  refine (HCP.out _ (HG.out.below HB1.out)).mono ?_
  rintro e w1 ⟨F, c, rfl, hgf, hb2⟩
  have hrs : RS w (w1.alloc (.cells #[.int .i64 g.n, .slice F m c] 24)) w1.heap.size g m E d F c none none [] := by
    have hba : ∀ o, Below w1.heap.size w1 (w1.alloc o) := fun o => (Below.refl _ _).alloc (Nat.le_refl _) o
    have hbw : Below w.heap.size w w1 := HB1.out.trans (hb2.mono HB1.out.size)
    exact ⟨HM.out, kept_cell (kept_cell HBS.out hb2) (hba _), kept_cell (kept_cell HBT.out hb2) (hba _), by rw [cell_new]; rfl, by rw [cell_new]; rfl, (HG.out.below hbw).below (hba _), hgf.below (hba _), .inl rfl, .inl rfl, hbw.trans ((hba _).mono hbw.size)⟩
  have RA0 := Lib.hid hrs
  clear hgf hb2 hrs
  obtain ⟨t, ht⟩ : ∃ t, t = w1.heap.size := ⟨_, rfl⟩
  obtain ⟨wA, hwA⟩ : ∃ wA, wA = w1.alloc (.cells #[.int .i64 g.n, .slice F m c] 24) := ⟨_, rfl⟩
  rw [← ht, ← hwA] at RA0
  go_upto_region 2 with (fail)
  rw [← ht, ← hwA]
  have RA := RA0
  clear RA0 ht hwA
  have c0 := RA.out.c0
  have c1 := RA.out.c1
  have d0 := RA.out.d0
  have d1 := RA.out.d1
  go_wp2_with fail
  go_at_call 25
  refine (HOR.out _ _ _ RA.out.gf).mono ?_
  rintro e w4 ⟨P1, e1, rfl, hp1, hb⟩
  have RB := Lib.hid (RA.out.below hb)
  clear c0 c1 d0 d1
  have c0 := RB.out.c0
  have c1 := RB.out.c1
  have d0 := RB.out.d0
  have d1 := RB.out.d1
  have HP1 := Lib.hid hp1
  clear hb hp1
  go_wp2_with fail
  go_at_call 26
  refine (HRO.out _ _ _ RB.out.ge).mono ?_
  rintro e w5 ⟨P2, e2, rfl, hp2, hb⟩
  have RC := Lib.hid (RB.out.below hb)
  clear c0 c1 d0 d1
  have c0 := RC.out.c0
  have c1 := RC.out.c1
  have d0 := RC.out.d0
  have d1 := RC.out.d1
  have HP2 := Lib.hid (And.intro (HP1.out.below hb) hp2)
  clear hb hp2 HP1
  go_wp2_with fail
  go_at_call 18
  refine (sameInts_c lo P1 P2 e1 e2 _ HP2.out.1 HP2.out.2 hlol).mono ?_
  rintro e w6 ⟨rfl, hb⟩
  have RD := Lib.hid (RC.out.below hb)
  clear c0 c1 d0 d1
  have c0 := RD.out.c0
  have c1 := RD.out.c1
  have d0 := RD.out.d0
  have d1 := RD.out.d1
  clear hb HP2
  go_wp2_with fail
  go_at_call 27
  refine (HLE.out _ _ _ RD.out.gf).mono ?_
  rintro e w7 ⟨P3, e3, rfl, hp1, hb⟩
  have RE := Lib.hid (RD.out.below hb)
  clear c0 c1 d0 d1
  have c0 := RE.out.c0
  have c1 := RE.out.c1
  have d0 := RE.out.d0
  have d1 := RE.out.d1
  have HP1 := Lib.hid hp1
  clear hb hp1
  go_wp2_with fail
  go_at_call 28
  refine (HRL.out _ _ _ RE.out.ge).mono ?_
  rintro e w8 ⟨P4, e4, rfl, hp2, hb⟩
  have RF := Lib.hid (RE.out.below hb)
  clear c0 c1 d0 d1
  have c0 := RF.out.c0
  have c1 := RF.out.c1
  have d0 := RF.out.d0
  have d1 := RF.out.d1
  have HP2 := Lib.hid (And.intro (HP1.out.below hb) hp2)
  clear hb hp2 HP1
  go_wp2_with fail
  go_at_call 18
  refine (sameInts_c ll P3 P4 e3 e4 _ HP2.out.1 HP2.out.2 hlll).mono ?_
  rintro e w9 ⟨rfl, hb⟩
  have RG := Lib.hid (RF.out.below hb)
  clear c0 c1 d0 d1
  have c0 := RG.out.c0
  have c1 := RG.out.c1
  have d0 := RG.out.d0
  have d1 := RG.out.d1
  clear hb HP2
  go_wp2_with fail
  go_at_call 23
  refine (HSM.out _ _ _ _ _ RG.out.gf RG.out.ge).mono ?_
  rintro e w14 ⟨rfl, hb⟩
  have HBF := Lib.hid ((RG.out.below hb).bel)
  clear hb c0 c1 d0 d1
  go_wp2
  go_ret
  exact ⟨rfl, HBF.out⟩
end Go.Proofs.Ytpdfcffeinbcaaa
