/- The law GraphReaches. -/
import Derived.Test.YtpdfcffeinbcaaaH19
import Derived.Test.YtpdfcffeinbcaaaH17
import Derived.Test.YtpdfcffeinbcaaaH14
import Derived.Test.YtpdfcffeinbcaaaH11
namespace Go.Proofs.Ytpdfcffeinbcaaa
open Go.RowKit
/-- A boxed graph, a boxed copy, rows alike. -/
structure RS (w W : World) (t : Nat) (g : XG) (m : Nat) (E : Option Addr) (d : Nat) (F : Option Addr) (c : Nat) (X Y : Option Addr) (src : List Int) : Prop where
  hm : m = g.es.length
  c0 : W.cell? ⟨w.heap.size, 0, none⟩ = some (.int .i64 g.n)
  c1 : W.cell? ⟨w.heap.size, 1, none⟩ = some (.slice E m d)
  d0 : W.cell? ⟨t, 0, none⟩ = some (.int .i64 g.n)
  d1 : W.cell? ⟨t, 1, none⟩ = some (.slice F m c)
  ge : GAt W E g
  gf : GAt W F g
  rx : RowAt W X (I src)
  ry : RowAt W Y (I src)
  bel : Below w.heap.size w W
theorem RS.below {w W W' : World} {t m : Nat} {g : XG} {E F X Y : Option Addr} {d c : Nat} {src : List Int} (h : RS w W t g m E d F c X Y src) (hb : Below W.heap.size W W') : RS w W' t g m E d F c X Y src :=
  ⟨h.hm, kept_cell h.c0 hb, kept_cell h.c1 hb, kept_cell h.d0 hb, kept_cell h.d1 hb, h.ge.below hb, h.gf.below hb, h.rx.below hb, h.ry.below hb, h.bel.trans (hb.mono h.bel.size)⟩
theorem Spoil.below {w w' : World} {B d : Nat} {E : Option Addr} (h : Spoil w B E d) (hb : Below w.heap.size w w') : Spoil w' B E d := by
  rcases h with h | ⟨b, e, h1, h2, ls, h3⟩
  · exact .inl h
  · exact .inr ⟨b, e, h1, h2, ls, h3.below hb⟩
theorem nextL_length (g : XG) (x : Int) : (nextL g x).length ≤ g.es.length := by
  unfold nextL
  split
  · unfold nxt
    have h1 := Lib.compact_length_le (sortI (tgt g.es x))
    have h2 := tgt_length g.es x
    rw [sortI_length] at h1
    omega
  · simp
theorem reachL_length (g : XG) (src : List Int) : (reachL g src).length ≤ 4096 := by
  unfold reachL
  split
  · rename_i h
    unfold reachE at h
    split at h
    · rename_i hk
      split at h
      · omega
      · split at h
        · rename_i hall
          have hg := chkF_good.1 hk
          have hb := bfs_nxt hg (src := src) (fun x hx => nodeB_iff.1 (List.all_eq_true.1 hall x hx))
          have := nodup_len _ _ hb.1 hb.2.1
          have := hg.n0
          have := hg.n1
          rw [sortI_length]
          omega
        · omega
    · rename_i hk; exact absurd h hk
  · simp
set_option maxHeartbeats 4000000 in
set_option maxRecDepth 100000 in
theorem reaches_c (g : XG) (E : Option Addr) (d : Nat) (x : Int) (src : List Int) (X : Option Addr) (dx : Nat) (w : World) (h : GAt w E g) (hl : g.es.length ≤ 8796093022208) (hr : RowAt w X (I src)) (hrl : src.length ≤ 17592186044416) :
    Calls Try.prog 3 #[g.val E d, .int .i64 x, .slice X src.length dx] w fun e w' => e = .returned (.bool true) ∧ Below w.heap.size w w' := by
  obtain ⟨m, hm⟩ : ∃ m, m = g.es.length := ⟨_, rfl⟩
  have hv : ∀ E d, g.val E d = .agg #[.int .i64 g.n, .slice E m d] := fun _ _ => by rw [hm]; rfl
  have hcp := fun W h => copied_c g E d W h hl
  have hck := fun E d W h => check_c g E d W h (by omega)
  have hrk := fun E d W h => rcheck_c g E d W h (by omega)
  have hnx := fun E d W h => gnext_c g E d x W h (by omega)
  have hrn := fun E d W h => rNext_c g E d x W h (by omega)
  have hre := fun E d X dx W h hr => greach_c g E d src X dx W h (by omega) hr (by omega)
  have hrr := fun E d X dx W h hr => rReach_c g E d src X dx W h (by omega) hr (by omega)
  have htu := fun E d W h => gturn_c g E d W h (by omega)
  have hrt := fun E d W h => rTurn_c g E d W h (by omega)
  have hsm := fun E F d c W h h2 => same_c g E F d c W h h2 (by omega)
  have hb := box_at (w := w) (t := 24) g E d
  simp only [hv] at hcp hck hrk hnx hrn hre hrr htu hrt hsm ⊢
  obtain ⟨kk, hkk⟩ : ∃ kk, kk = chkF g := ⟨_, rfl⟩
  obtain ⟨kn, hkn⟩ : ∃ kn, kn = nextE g x := ⟨_, rfl⟩
  obtain ⟨kr, hkr⟩ : ∃ kr, kr = reachE g src := ⟨_, rfl⟩
  obtain ⟨ln, hln⟩ : ∃ ln, ln = nextL g x := ⟨_, rfl⟩
  obtain ⟨lr, hlr⟩ : ∃ lr, lr = reachL g src := ⟨_, rfl⟩
  obtain ⟨tg, htg⟩ : ∃ tg, tg = turnG g := ⟨_, rfl⟩
  have hll : ln.length ≤ 140737488355328 := by have := nextL_length g x; rw [hln]; omega
  have hrl2 : lr.length ≤ 140737488355328 := by have := reachL_length g src; rw [hlr]; omega
  have htl : tg.es.length ≤ 140737488355328 := by
    rw [htg]; unfold turnG
    split
    · simp; omega
    · simp
  rw [← hkk] at hck hrk
  rw [← hln, ← hkn] at hnx hrn
  rw [← hlr, ← hkr] at hre hrr
  unfold TurnPost at hrt
  rw [← htg, ← hkk] at htu hrt
  have hst := fun E F d c W h h2 => same_c tg E F d c W h h2 htl
  simp only [show ∀ E d, tg.val E d = .agg #[.int .i64 tg.n, .slice E tg.es.length d] from fun _ _ => rfl] at htu hrt hst
  have HCP := Lib.hid hcp
  have HCK := Lib.hid hck
  have HRK := Lib.hid hrk
  have HNX := Lib.hid hnx
  have HRN := Lib.hid hrn
  have HRE := Lib.hid hre
  have HRR := Lib.hid hrr
  have HTU := Lib.hid htu
  have HRT := Lib.hid hrt
  have HSM := Lib.hid hsm
  have HST := Lib.hid hst
  have HM := Lib.hid hm
  have HG := Lib.hid h
  have HR := Lib.hid hr
  rw [hm.symm] at hb
  clear hcp hck hrk hnx hrn hre hrr htu hrt hsm hst hv hkk hkn hkr hln hlr htg h hr hm
  go_enter Try.func3, Try.ntmps3
  have hb1 := hb.bel
  have b0 := hb.c0
  have b1 := hb.c1
  have hbl := hb.lt
  rw [← HM.out] at b1
  have HB1 := Lib.hid hb1
  have HBS := Lib.hid b0
  have HBT := Lib.hid b1
  have HBL := Lib.hid hbl
  clear hb hb1 b0 b1 hbl
  go_wp2_with fail
  go_at_call 12
  refine (HCP.out _ (HG.out.below HB1.out)).mono ?_
  rintro e w1 ⟨F, c, rfl, hgf, hb2⟩
  have a0 := kept_cell HBS.out hb2
  have a1 := kept_cell HBT.out hb2
  have hbw1 : Below w.heap.size w w1 := HB1.out.trans (hb2.mono HB1.out.size)
  have hwl : w.heap.size < w1.heap.size := Nat.lt_of_lt_of_le HBL.out hb2.size
  have HGF := Lib.hid hgf
  have HBW1 := Lib.hid hbw1
  have HWL := Lib.hid hwl
  clear hgf hb2 hbw1 hwl
  go_wp2_with fail
  go_at_call 13
  refine (copyInts_c src X dx _ (HR.out.below HBW1.out) hrl).mono ?_
  rintro e w2 ⟨Y, dy, rfl, hry, hb3⟩
  have hrs : RS w (w2.alloc (.cells #[.int .i64 g.n, .slice F m c] 24)) w2.heap.size g m E d F c X Y src := by
    have hba : ∀ o, Below w2.heap.size w2 (w2.alloc o) := fun o => (Below.refl _ _).alloc (Nat.le_refl _) o
    have hbw := HBW1.out.trans (hb3.mono HBW1.out.size)
    exact ⟨HM.out, kept_cell (kept_cell a0 hb3) (hba _), kept_cell (kept_cell a1 hb3) (hba _), by rw [cell_new]; rfl, by rw [cell_new]; rfl, (HG.out.below hbw).below (hba _), (HGF.out.below hb3).below (hba _), (HR.out.below hbw).below (hba _), hry.below (hba _), hbw.trans ((hba _).mono hbw.size)⟩
  have HRS0 := Lib.hid hrs
  clear a0 a1 hry hb3 hrs
  go_wp2_with fail
  obtain ⟨t, ht⟩ : ∃ t, t = w2.heap.size := ⟨_, rfl⟩
  have HRS := HRS0
  rw [← ht] at HRS ⊢
  generalize hW : World.alloc _ _ = W at HRS ⊢
  clear HRS0 ht hW
  refine wp_region_held_drew (S := (fun w' => (Below W.heap.size W w' ∧ W.heap.size ≤ w'.heap.size) ∧ w'.cell? ⟨w.heap.size, 0, none⟩ = some (.int .i64 g.n) ∧ w'.cell? ⟨w.heap.size, 1, none⟩ = some (.slice E m d) ∧ w'.cell? ⟨t, 0, none⟩ = some (.int .i64 g.n) ∧ w'.cell? ⟨t, 1, none⟩ = some (.slice F m c))) (by kernel_rfl) ?xs (fun hHeld => ?xr)
  case xs => exact ⟨⟨(Below.refl _ _).drew, Nat.le_refl _⟩, HRS.out.c0, HRS.out.c1, HRS.out.d0, HRS.out.d1⟩
  refine take_at (i := 0) (d := 19) (v := ?xv0) rfl (by rfl) (by kernel_rfl) (by kernel_rfl) (by kernel_rfl) (fun _ _ _ h => h) (Or.inl ⟨by rfl, ?xy0⟩) (by assumption) ?xr0
  case xy0 => intro w' hSw; obtain ⟨_, q1, q2, q3, q4⟩ := hSw; go_simp; (try with_reducible rfl)
  case' xr0 => simp only [Act.put, List.setIfInBounds_toArray, List.set_cons_zero, List.set_cons_succ]
  refine take_at (i := 2) (d := 21) (v := ?xv2) rfl (by rfl) (by kernel_rfl) (by kernel_rfl) (by kernel_rfl) (fun _ _ _ h => h) (Or.inl ⟨by rfl, ?xy2⟩) (by assumption) ?xr2
  case xy2 => intro w' hSw; obtain ⟨_, q1, q2, q3, q4⟩ := hSw; go_simp; (try with_reducible rfl)
  case' xr2 => simp only [Act.put, List.setIfInBounds_toArray, List.set_cons_zero, List.set_cons_succ]
  refine wpAnyH_ready (rs := [1]) (by kernel_rfl) (by simp) ?xc1
  refine AllReadyH.cons rfl (fun K hK => ?xb1) AllReadyH.nil
  go_simp
  go_at_call 14; refine (HCK.out _ _ _ (HRS.out.gf.below hHeld.1.1)).mono ?_; rintro e w2 ⟨rfl, hb2⟩
  refine hK.out _ _ ?xh1 (fun hHeld => ?xr1)
  case xh1 => exact hk4 hHeld hb2
  case' xr1 => (clear hK K; try simp only [Act.put, List.setIfInBounds_toArray, List.set_cons_zero, List.set_cons_succ])
  refine wpAnyH_ready (rs := [3]) (by kernel_rfl) (by simp) ?xc3
  refine AllReadyH.cons rfl (fun K hK => ?xb3) AllReadyH.nil
  go_simp
  go_at_call 15; refine (HRK.out _ _ _ (HRS.out.ge.below hHeld.1.1)).mono ?_; rintro e w3 ⟨rfl, hb3⟩
  refine hK.out _ _ ?xh3 (fun hHeld => ?xr3)
  case xh3 => exact hk4 hHeld hb3
  case' xr3 => (clear hK K; try simp only [Act.put, List.setIfInBounds_toArray, List.set_cons_zero, List.set_cons_succ])
  refine take_at (i := 4) (d := 23) (v := ?xv4) rfl (by rfl) (by kernel_rfl) (by kernel_rfl) (by kernel_rfl) (fun _ _ _ h => h) (Or.inl ⟨by rfl, ?xy4⟩) (by assumption) ?xr4
  case xy4 => intro w' hSw; obtain ⟨_, q1, q2, q3, q4⟩ := hSw; go_simp; (try with_reducible rfl)
  case' xr4 => simp only [Act.put, List.setIfInBounds_toArray, List.set_cons_zero, List.set_cons_succ]
  refine wpAnyH_done (by kernel_rfl) ?xz _
  obtain ⟨⟨hb, _⟩, c0, c1, d0, d1⟩ := ‹_ ∧ _ ∧ _ ∧ _ ∧ _›
  have RA := Lib.hid (HRS.out.below hb)
  clear c0 c1 d0 d1 hb
  have c0 := RA.out.c0
  have c1 := RA.out.c1
  have d0 := RA.out.d0
  have d1 := RA.out.d1
  go_wp2_with fail
  go_at_call 16
  refine (HNX.out _ _ _ RA.out.gf).mono ?_
  rintro e w4 ⟨P1, e1, rfl, hp1, hb⟩
  have RB := Lib.hid (RA.out.below hb)
  clear c0 c1 d0 d1
  have c0 := RB.out.c0
  have c1 := RB.out.c1
  have d0 := RB.out.d0
  have d1 := RB.out.d1
  have HP1 := Lib.hid hp1
  clear hb hp1
  go_wp2_with fail
  go_at_call 17
  refine (HRN.out _ _ _ RB.out.ge).mono ?_
  rintro e w5 ⟨P2, e2, rfl, hp2, hb⟩
  have RC := Lib.hid (RB.out.below hb)
  clear c0 c1 d0 d1
  have c0 := RC.out.c0
  have c1 := RC.out.c1
  have d0 := RC.out.d0
  have d1 := RC.out.d1
  have HP2 := Lib.hid (And.intro (HP1.out.below hb) hp2)
  clear hb hp2 HP1
  go_wp2_with fail
  go_at_call 18
  refine (sameInts_c ln P1 P2 e1 e2 _ HP2.out.1 HP2.out.2 hll).mono ?_
  rintro e w6 ⟨rfl, hb⟩
  have RD := Lib.hid (RC.out.below hb)
  clear c0 c1 d0 d1
  have c0 := RD.out.c0
  have c1 := RD.out.c1
  have d0 := RD.out.d0
  have d1 := RD.out.d1
  clear hb HP2
  go_wp2_with fail
  go_at_call 19
  refine (HRE.out _ _ _ _ _ RD.out.gf RD.out.ry).mono ?_
  rintro e w7 ⟨P3, e3, rfl, hp1, hb⟩
  have RE := Lib.hid (RD.out.below hb)
  clear c0 c1 d0 d1
  have c0 := RE.out.c0
  have c1 := RE.out.c1
  have d0 := RE.out.d0
  have d1 := RE.out.d1
  have HP1 := Lib.hid hp1
  clear hb hp1
  go_wp2_with fail
  go_at_call 20
  refine (HRR.out _ _ _ _ _ RE.out.ge RE.out.rx).mono ?_
  rintro e w8 ⟨P4, e4, rfl, hp2, hb⟩
  have RF := Lib.hid (RE.out.below hb)
  clear c0 c1 d0 d1
  have c0 := RF.out.c0
  have c1 := RF.out.c1
  have d0 := RF.out.d0
  have d1 := RF.out.d1
  have HP2 := Lib.hid (And.intro (HP1.out.below hb) hp2)
  clear hb hp2 HP1
  go_wp2_with fail
  go_at_call 18
  refine (sameInts_c lr P3 P4 e3 e4 _ HP2.out.1 HP2.out.2 hrl2).mono ?_
  rintro e w9 ⟨rfl, hb⟩
  have RG := Lib.hid (RF.out.below hb)
  clear c0 c1 d0 d1
  have c0 := RG.out.c0
  have c1 := RG.out.c1
  have d0 := RG.out.d0
  have d1 := RG.out.d1
  clear hb HP2
  go_wp2_with fail
  go_at_call 21
  refine (HTU.out _ _ _ RG.out.gf).mono ?_
  rintro e w10 ⟨T1, f1, rfl, ht1, hb, hsp⟩
  have hal : Below w10.heap.size w10 (w10.alloc (.cells #[.int .i64 tg.n, .slice T1 tg.es.length f1] 24)) := (Below.refl _ _).alloc (Nat.le_refl _) _
  have hba : Below w9.heap.size w9 (w10.alloc (.cells #[.int .i64 tg.n, .slice T1 tg.es.length f1] 24)) := hb.trans (hal.mono hb.size)
  have hnil : T1 = none → tg.es.length = 0 := fun e => by
    rcases ht1 with h | ⟨b, off, e2, _⟩
    · have := edgeCells_length tg.es; rw [h, List.length_nil] at this; omega
    · rw [e] at e2; cases e2
  have HNIL := Lib.hid hnil
  have HSP := Lib.hid (hsp.below hal)
  have HT1 := Lib.hid (ht1.below hal)
  have HBA := Lib.hid hba
  have r0 : (w10.alloc (.cells #[.int .i64 tg.n, .slice T1 tg.es.length f1] 24)).cell? ⟨w10.heap.size, 0, none⟩ = some (.int .i64 tg.n) := by rw [cell_new]; rfl
  have r1 : (w10.alloc (.cells #[.int .i64 tg.n, .slice T1 tg.es.length f1] 24)).cell? ⟨w10.heap.size, 1, none⟩ = some (.slice T1 tg.es.length f1) := by rw [cell_new]; rfl
  have HR0 := Lib.hid (And.intro r0 r1)
  clear ht1 hb hsp hal hnil r0 r1
  have RH := Lib.hid (RG.out.below hba)
  clear c0 c1 d0 d1
  have c0 := RH.out.c0
  have c1 := RH.out.c1
  have d0 := RH.out.d0
  have d1 := RH.out.d1
  clear hba
  go_wp2_with fail
  go_at_call 22
  refine (HRT.out _ _ _ RH.out.ge).mono ?_
  rintro e w11 ⟨T2, f2, rfl, ht2, hb⟩
  have hal : Below w11.heap.size w11 (w11.alloc (.cells #[.int .i64 tg.n, .slice T2 tg.es.length f2] 24)) := (Below.refl _ _).alloc (Nat.le_refl _) _
  have HSP2 := Lib.hid ((HSP.out.below hb).below hal)
  have HT2 := Lib.hid (And.intro ((HT1.out.below hb).below hal) (ht2.below hal))
  have HBA2 := Lib.hid (HBA.out.trans ((hb.trans (hal.mono hb.size)).mono HBA.out.size))
  have r0 := kept_cell (kept_cell HR0.out.1 hb) hal
  have r1 := kept_cell (kept_cell HR0.out.2 hb) hal
  have s0 : (w11.alloc (.cells #[.int .i64 tg.n, .slice T2 tg.es.length f2] 24)).cell? ⟨w11.heap.size, 0, none⟩ = some (.int .i64 tg.n) := by rw [cell_new]; rfl
  have s1 : (w11.alloc (.cells #[.int .i64 tg.n, .slice T2 tg.es.length f2] 24)).cell? ⟨w11.heap.size, 1, none⟩ = some (.slice T2 tg.es.length f2) := by rw [cell_new]; rfl
  have c0' := RG.out.c0
  clear ht2 hb hal HSP HT1 HBA HR0 c0 c1 d0 d1 c0'
  go_wp2_with fail
  go_at_call 23
  refine (HST.out _ _ _ _ _ HT2.out.1 HT2.out.2).mono ?_
  rintro e w12 ⟨rfl, hb⟩
  have HSP3 := Lib.hid (HSP2.out.below hb)
  have HBA3 := Lib.hid (HBA2.out.trans (hb.mono HBA2.out.size))
  have r0' := kept_cell r0 hb
  have r1' := kept_cell r1 hb
  clear r0 r1 s0 s1 hb HT2
  go_wp2_with fail
  go_at_call 24
  refine (spoil_c _ _ _ _ w9.heap.size _ HBA3.out.size HSP3.out HNIL.out).mono ?_
  rintro e w13 ⟨rfl, hb⟩
  have RI := Lib.hid (RG.out.below (HBA3.out.trans hb))
  have c0 := RI.out.c0
  have c1 := RI.out.c1
  have d0 := RI.out.d0
  have d1 := RI.out.d1
  clear hb r0' r1'
  go_wp2_with fail
  go_at_call 23
  refine (HSM.out _ _ _ _ _ RI.out.gf RI.out.ge).mono ?_
  rintro e w14 ⟨rfl, hb⟩
  have RJ := Lib.hid (RI.out.below hb)
  clear hb c0 c1 d0 d1
  go_wp2_with fail
  go_at_call 18
  refine (sameInts_c src _ _ _ _ _ RJ.out.ry RJ.out.rx (by omega)).mono ?_
  rintro e w15 ⟨rfl, hb⟩
  have HBF := Lib.hid ((RJ.out.below hb).bel)
  clear hb
  go_wp2
  go_ret
  exact ⟨rfl, HBF.out⟩
end Go.Proofs.Ytpdfcffeinbcaaa
