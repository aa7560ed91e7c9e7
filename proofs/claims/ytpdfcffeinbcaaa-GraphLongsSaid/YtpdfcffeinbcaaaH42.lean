/- The law GraphLongs. -/
import Derived.Test.YtpdfcffeinbcaaaH20
import Derived.Test.YtpdfcffeinbcaaaH41
namespace Go.Proofs.Ytpdfcffeinbcaaa
open Go.RowKit
theorem pathGo_length (nx : Int → Int) : ∀ k a, (pathGo nx k a).length ≤ k + 1
  | 0, _ => by simp [pathGo]
  | k + 1, a => by
    rw [pathGo]
    split
    · simp
    · have := pathGo_length nx k (nx a)
      simp; omega
theorem lonWay_length (g : XG) (wts : List Int) : (lonWay g wts).length ≤ 4097 := by
  unfold lonWay
  split
  · rename_i h
    have h1 := (lonOk_is h).good.n1
    have := pathGo_length (lonX g wts) g.n.toNat (fstF (lonT g wts) g.n.toNat)
    omega
  · simp
theorem glong_c (g : XG) (E : Option Addr) (d : Nat) (wts : List Int) (X : Option Addr) (c : Nat) (w : World) (h : GAt w E g) (hl : g.es.length ≤ 4611686018427387904) (hr : RowAt w X (I wts)) (hwl : wts.length ≤ 4611686018427387904) :
    Calls Try.prog 29 #[g.val E d, .slice X wts.length c] w (LonPost g wts w) := by
  by_cases hok : lonOk g wts
  · exact glong_yes g E d wts X c w h hl hr hok
  · exact glong_no g E d wts X c w h hl hr hwl hok
set_option maxHeartbeats 4000000 in
set_option maxRecDepth 100000 in
theorem longs_c (g : XG) (E : Option Addr) (d : Nat) (src : List Int) (X : Option Addr) (dx : Nat) (w : World) (h : GAt w E g) (hl : g.es.length ≤ 8796093022208) (hr : RowAt w X (I src)) (hrl : src.length ≤ 17592186044416) :
    Calls Try.prog 5 #[g.val E d, .slice X src.length dx] w fun e w' => e = .returned (.bool true) ∧ Below w.heap.size w w' := by
  obtain ⟨m, hm⟩ : ∃ m, m = g.es.length := ⟨_, rfl⟩
  have hv : ∀ E d, g.val E d = .agg #[.int .i64 g.n, .slice E m d] := fun _ _ => by rw [hm]; rfl
  have hcp := fun W h => copied_c g E d W h hl
  have hor := fun E d X dx W h hr => glong_c g E d src X dx W h (by omega) hr (by omega)
  have hro := fun E d X dx W h hr => rlong_c g E d src X dx W h (by omega) hr (by omega)
  have hsm := fun E F d c W h h2 => same_c g E F d c W h h2 (by omega)
  have hb := box_at (w := w) (t := 24) g E d
  unfold LonPost at hor hro
  simp only [hv] at hcp hor hro hsm ⊢
  obtain ⟨sm, hsmm⟩ : ∃ sm, sm = lonSum g src := ⟨_, rfl⟩
  obtain ⟨kk, hkk⟩ : ∃ kk, kk = lonE g src := ⟨_, rfl⟩
  obtain ⟨lo, hlo⟩ : ∃ lo, lo = lonWay g src := ⟨_, rfl⟩
  have hlol : lo.length ≤ 140737488355328 := by have := lonWay_length g src; rw [hlo]; omega
  rw [← hkk, ← hlo, ← hsmm] at hor hro
  have HCP := Lib.hid hcp
  have HOR := Lib.hid hor
  have HRO := Lib.hid hro
  have HSM := Lib.hid hsm
  have HM := Lib.hid hm
  have HG := Lib.hid h
  have HR := Lib.hid hr
  rw [hm.symm] at hb
  clear hcp hor hro hsm hv hkk hlo hsmm h hr hm
  go_enter Try.func5, Try.ntmps5
  have hb1 := hb.bel
  have b0 := hb.c0
  have b1 := hb.c1
  have hbl := hb.lt
  rw [← HM.out] at b1
  have HB1 := Lib.hid hb1
  have HBS := Lib.hid b0
  have HBT := Lib.hid b1
  have HBL := Lib.hid hbl
  clear hb hb1 b0 b1 hbl
  go_wp2_with fail
  go_at_call 12
  refine (HCP.out _ (HG.out.below HB1.out)).mono ?_
  rintro e w1 ⟨F, c, rfl, hgf, hb2⟩
  have a0 := kept_cell HBS.out hb2
  have a1 := kept_cell HBT.out hb2
  have hbw1 : Below w.heap.size w w1 := HB1.out.trans (hb2.mono HB1.out.size)
  have hwl : w.heap.size < w1.heap.size := Nat.lt_of_lt_of_le HBL.out hb2.size
  have HGF := Lib.hid hgf
  have HBW1 := Lib.hid hbw1
  have HWL := Lib.hid hwl
  clear hgf hb2 hbw1 hwl
  go_wp2_with fail
  go_at_call 13
  refine (copyInts_c src X dx _ (HR.out.below HBW1.out) hrl).mono ?_
  rintro e w2 ⟨Y, dy, rfl, hry, hb3⟩
  have hrs : RS w (w2.alloc (.cells #[.int .i64 g.n, .slice F m c] 24)) w2.heap.size g m E d F c X Y src := by
    have hba : ∀ o, Below w2.heap.size w2 (w2.alloc o) := fun o => (Below.refl _ _).alloc (Nat.le_refl _) o
    have hbw := HBW1.out.trans (hb3.mono HBW1.out.size)
    exact ⟨HM.out, kept_cell (kept_cell a0 hb3) (hba _), kept_cell (kept_cell a1 hb3) (hba _), by rw [cell_new]; rfl, by rw [cell_new]; rfl, (HG.out.below hbw).below (hba _), (HGF.out.below hb3).below (hba _), (HR.out.below hbw).below (hba _), hry.below (hba _), hbw.trans ((hba _).mono hbw.size)⟩
  have RA0 := Lib.hid hrs
  clear a0 a1 hry hb3 hrs
  obtain ⟨t, ht⟩ : ∃ t, t = w2.heap.size := ⟨_, rfl⟩
  obtain ⟨wA, hwA⟩ : ∃ wA, wA = w2.alloc (.cells #[.int .i64 g.n, .slice F m c] 24) := ⟨_, rfl⟩
  rw [← ht, ← hwA] at RA0
  go_upto_region 2 with (fail)
  rw [← ht, ← hwA]
  have RA := RA0
  clear RA0 ht hwA
  have c0 := RA.out.c0
  have c1 := RA.out.c1
  have d0 := RA.out.d0
  have d1 := RA.out.d1
  go_wp2_with fail
  go_at_call 29
  refine (HOR.out _ _ _ _ _ RA.out.gf RA.out.ry).mono ?_
  rintro e w4 ⟨P1, e1, rfl, hp1, hb⟩
  have RB := Lib.hid (RA.out.below hb)
  clear c0 c1 d0 d1
  have c0 := RB.out.c0
  have c1 := RB.out.c1
  have d0 := RB.out.d0
  have d1 := RB.out.d1
  have HP1 := Lib.hid hp1
  clear hb hp1
  go_wp2_with fail
  go_at_call 30
  refine (HRO.out _ _ _ _ _ RB.out.ge RB.out.rx).mono ?_
  rintro e w5 ⟨P2, e2, rfl, hp2, hb⟩
  have RC := Lib.hid (RB.out.below hb)
  clear c0 c1 d0 d1
  have c0 := RC.out.c0
  have c1 := RC.out.c1
  have d0 := RC.out.d0
  have d1 := RC.out.d1
  have HP2 := Lib.hid (And.intro (HP1.out.below hb) hp2)
  clear hb hp2 HP1
  go_wp2_with fail
  go_at_call 18
  refine (sameInts_c lo P1 P2 e1 e2 _ HP2.out.1 HP2.out.2 hlol).mono ?_
  rintro e w6 ⟨rfl, hb⟩
  have RD := Lib.hid (RC.out.below hb)
  clear c0 c1 d0 d1
  have c0 := RD.out.c0
  have c1 := RD.out.c1
  have d0 := RD.out.d0
  have d1 := RD.out.d1
  clear hb HP2
  go_wp2_with fail
  go_at_call 23
  refine (HSM.out _ _ _ _ _ RD.out.gf RD.out.ge).mono ?_
  rintro e w14 ⟨rfl, hb⟩
  have RJ := Lib.hid (RD.out.below hb)
  clear hb c0 c1 d0 d1
  go_wp2_with fail
  go_at_call 18
  refine (sameInts_c src _ _ _ _ _ RJ.out.ry RJ.out.rx (by omega)).mono ?_
  rintro e w15 ⟨rfl, hb⟩
  have HBF := Lib.hid ((RJ.out.below hb).bel)
  clear hb
  go_wp2
  go_ret
  exact ⟨rfl, HBF.out⟩
end Go.Proofs.Ytpdfcffeinbcaaa
