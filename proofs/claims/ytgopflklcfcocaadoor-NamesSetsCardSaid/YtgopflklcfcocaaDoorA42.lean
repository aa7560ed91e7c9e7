/- What is wrong with a set: the reference's. -/
import Derived.Test.YtgopflklcfcocaaDoorA41
namespace Go.Proofs.YtgopflklcfcocaaDoor
open Go.RowKit

theorem fault_one {a : Int × Int} {w w' : World} (h : Below w.heap.size w w') {i c : Int} (ha : a = (i, c)) : FaultPost a w (.returned (.agg #[.int .i64 i, .int .i64 c])) w' := by
  subst ha; exact ⟨rfl, h⟩
theorem setF_long {ps : List XProv} (h : 256 < ps.length) : setF ps = (0, 3) := by unfold setF; rw [if_pos h]
theorem setF_bad {ps : List XProv} {i : Nat} {c : Int} (h : ¬ 256 < ps.length) (hb : badAt ps 0 = some (i, c)) : setF ps = ((i : Int), c) := by unfold setF; rw [if_neg h, hb]
theorem setF_twice {ps : List XProv} {i : Nat} (h : ¬ 256 < ps.length) (hb : badAt ps 0 = none) (ht : twiceAt (ps.map XProv.name) [] 0 = some i) : setF ps = ((i : Int), 6) := by unfold setF; rw [if_neg h, hb, ht]
theorem setF_good {ps : List XProv} (h : ¬ 256 < ps.length) (hb : badAt ps 0 = none) (ht : twiceAt (ps.map XProv.name) [] 0 = none) : setF ps = (0, 0) := by unfold setF; rw [if_neg h, hb, ht]
/-- A fault written into its cells. -/
theorem two_set {w : World} {b : Nat} {x y u v : Value} (h0 : w.cell? ⟨b, 0, none⟩ = some u) (h1 : w.cell? ⟨b, 1, none⟩ = some v) :
    ((w.setCell ⟨b, 0, none⟩ x).setCell ⟨b, 1, none⟩ y).cell? ⟨b, 0, none⟩ = some x ∧ ((w.setCell ⟨b, 0, none⟩ x).setCell ⟨b, 1, none⟩ y).cell? ⟨b, 1, none⟩ = some y := by
  refine ⟨?_, ?_⟩
  · rw [World.cell?_setCell_other _ _ _ _ (by simp)]
    exact World.cell?_setCell_same _ _ _ h0
  · refine World.cell?_setCell_same _ _ _ (u := v) ?_
    rw [World.cell?_setCell_other _ _ _ _ (by simp)]
    exact h1
/-- The fault's cells stand, and only new things came. -/
structure Kept (w : World) (w' : World) : Prop where
  bel : Below w.heap.size w w'
  lt : w.heap.size < w'.heap.size
  q0 : w'.cell? ⟨w.heap.size, 0, none⟩ = some (.int .i64 0)
  q1 : w'.cell? ⟨w.heap.size, 1, none⟩ = some (.int .i64 0)
  z0 : w'.frozen? ⟨w.heap.size, 0, none⟩ = false
  z1 : w'.frozen? ⟨w.heap.size, 1, none⟩ = false
theorem Kept.below {w W W' : World} (h : Kept w W) (hb : Below W.heap.size W W') : Kept w W' :=
  ⟨h.bel.trans (hb.mono (Nat.le_of_lt h.lt)), Nat.lt_of_lt_of_le h.lt hb.size, (hb.cell (p := ⟨w.heap.size, 0, none⟩) h.lt).trans h.q0, (hb.cell (p := ⟨w.heap.size, 1, none⟩) h.lt).trans h.q1, (hb.frozen (p := ⟨w.heap.size, 0, none⟩) h.lt).trans h.z0, (hb.frozen (p := ⟨w.heap.size, 1, none⟩) h.lt).trans h.z1⟩
theorem Kept.drewN {w W : World} (h : Kept w W) (n : Nat) : Kept w (W.drewN n) := ⟨below_drewN h.bel n, h.lt, h.q0, h.q1, h.z0, h.z1⟩
theorem Kept.set2 {w W : World} (h : Kept w W) (x y : Value) : Below w.heap.size w ((W.setCell ⟨w.heap.size, 0, none⟩ x).setCell ⟨w.heap.size, 1, none⟩ y) :=
  (h.bel.setCell (p := ⟨w.heap.size, 0, none⟩) (Nat.le_refl _) x).setCell (p := ⟨w.heap.size, 1, none⟩) (Nat.le_refl _) y
theorem Kept.start (w : World) (t : TypeId) : Kept w (w.alloc (.cells #[.int .i64 0, .int .i64 0] t)) := ⟨(Below.refl _ _).alloc (Nat.le_refl _) _, by simp, by simp, by simp, by simp, by simp⟩
set_option maxHeartbeats 4000000 in
set_option maxRecDepth 100000 in
theorem checkSetR_c (rs : List PRow) (V : Option Addr) (c : Nat) (w : World) (hx : ProvsAt w V rs) (hl : rs.length * 104 ≤ 140737488355328) (hcap : rs.length ≤ c) :
    Calls Tryd.prog 35 #[.slice V rs.length c] w (FaultPost (setF (provsL rs)) w) := by
  by_cases hlong : 256 < rs.length
  · have hF := setF_long (ps := provsL rs) (by rw [provsL_length]; exact hlong)
    have hli : (256 : Int) < (rs.length : Int) := by omega
    have HF := Lib.hid hF
    have hks := Kept.start w 58
    clear hF
    go_enter Tryd.func35, Tryd.ntmps35
    go_wp2
    refine bodyPost_ret (v := .agg #[.int .i64 0, .int .i64 3]) (by simp [results, Tryd.results35, go_sem]; try rfl) rfl ?_
    exact fault_one ((Below.refl _ _).alloc (Nat.le_refl _) _) HF.out
  · have hli : (rs.length : Int) ≤ 256 := by omega
    have hks := Kept.start w 58
    have HKS := Lib.hid hks
    clear hks
    go_enter Tryd.func35, Tryd.ntmps35
    go_wp2
    go_loopw [3] (fun i wr => ∃ k : Nat, k ≤ rs.length ∧ i = .int .i64 k ∧ Hid (badAt ((provsL rs).drop k) k = badAt (provsL rs) 0) ∧ Kept w wr) (fun i _ => rs.length - (intOf i).toNat)
    case atStart => exact ⟨0, by omega, rfl, rfl, HKS.out⟩
    case round =>
      obtain ⟨k, hk, rfl, hbad, hkp⟩ := hrel
      by_cases hlt : k < rs.length
      · rcases (hx.below hkp.bel).lies with h | ⟨b, off, rfl, hb, hc⟩
        · rw [h] at hlt; simp at hlt
        obtain ⟨g0, g1, g2, g3, g4, g5, g6, g7, g8⟩ := hc k hlt
        have hpk := (hx.below hkp.bel).each rs[k] (List.getElem_mem hlt)
        have hst := badAt_drop (provsL rs) k (by rw [provsL_length]; exact hlt)
        rw [provsL_get rs k hlt] at hst
        have HST := Lib.hid hst
        have HPK := Lib.hid hpk
        clear hc hst hpk
        by_cases h0 : provF rs[k].p = 0
        · have b0 : (provF rs[k].p != 0) = false := by simpa using h0
          have H0 := Lib.hid h0
          clear h0
          go_wp2_with (go_at_call 16; refine (checkProvR_c rs[k].p rs[k].A rs[k].c _ HPK.out).mono ?_; rintro e w1 ⟨rfl, hb1⟩)
          go_roundw
          case rel => exact ⟨k + 1, by omega, by go_num, by rw [← hbad.out, HST.out, if_neg (by simpa using H0.out)]; rfl, hkp.below hb1⟩
          case measure => simp [intOf]; omega
        · have b0 : (provF rs[k].p != 0) = true := by simpa using h0
          have hF := setF_bad (i := k) (c := provF rs[k].p) (by rw [provsL_length]; exact hlong) (by rw [← hbad.out, HST.out, if_pos h0])
          have HF := Lib.hid hF
          clear h0 hF
          go_wp2_with (go_at_call 16; refine (checkProvR_c rs[k].p rs[k].A rs[k].c _ HPK.out).mono ?_; rintro e w1 ⟨rfl, hb1⟩; have hk1 := hkp.below hb1; obtain ⟨_, _, q0, q1, z0, z1⟩ := hk1)
          obtain ⟨c0, c1⟩ := two_set (x := .int .i64 (k : Int)) (y := .int .i64 (provF rs[k].p)) q0 q1
          refine bodyPost_ret (v := .agg #[.int .i64 (k : Int), .int .i64 (provF rs[k].p)]) (by simp [results, Tryd.results35, go_sem, c0, c1]; try rfl) rfl ?_
          exact fault_one ((hkp.below hb1).set2 _ _) HF.out
      · have hend : badAt (provsL rs) 0 = none := by rw [← hbad.out, List.drop_of_length_le (by rw [provsL_length]; omega)]; rfl
        have HEND := Lib.hid hend
        clear hend hbad
        go_wp2
        go_loopw [5] (fun i wr => ∃ k : Nat, k ≤ rs.length ∧ i = .int .i64 k ∧ Hid (twiceAt ((namesL rs).drop k) ((namesL rs).take k) k = twiceAt (namesL rs) [] 0) ∧ Kept w wr) (fun i _ => rs.length - (intOf i).toNat)
        case atStart => exact ⟨0, by omega, rfl, rfl, hkp⟩
        case round =>
          obtain ⟨k, hk, rfl, htw, hkp⟩ := hrel
          by_cases hlt : k < rs.length
          · rcases (hx.below hkp.bel).lies with h | ⟨b, off, rfl, hb, hc⟩
            · rw [h] at hlt; simp at hlt
            obtain ⟨g0, _⟩ := hc k hlt
            have hpt := (hx.below hkp.bel).take k
            have hst := twiceAt_drop (namesL rs) k (by rw [namesL_length]; exact hlt)
            rw [namesL_get rs k hlt] at hst
            have hnt : namesL (rs.take k) = (namesL rs).take k := by unfold namesL; rw [List.map_take]
            have hltk : (rs.take k).length = k := by rw [List.length_take]; omega
            have hnc := fun (n : Nat) => number_c (rs.take k) rs[k].p.name (some ⟨b, off, none⟩) c (wr.drewN n) (hpt.drewN n) (by omega)
            rw [hnt, hltk] at hnc
            have hdm := idx_mem ((namesL rs).take k) rs[k].p.name
            have HST := Lib.hid hst
            have HNC := Lib.hid hnc
            have HDM := Lib.hid hdm
            clear hc hst hnc hdm hnt hltk hpt
            have hc1 : (k : Int) ≤ (c : Int) := by omega
            have hc2 : k ≤ c := by omega
            have hi0 : (0 : Int) ≤ (k : Int) := Int.natCast_nonneg _
            have hi1 : (k : Int) < (rs.length : Int) := by omega
            cases hM : memB rs[k].p.name ((namesL rs).take k)
            · have hge : ¬ (0 ≤ idxFrom ((namesL rs).take k) rs[k].p.name 0) := by
                have := HDM.out
                rw [hM] at this
                exact of_decide_eq_false this
              have HM := Lib.hid hM
              generalize idxFrom ((namesL rs).take k) rs[k].p.name 0 = ix at *
              have hge' : ix < 0 := by omega
              clear hM hge
              go_wp2_with fail
              go_quiet ((first | (go_at_call 66; exact Calls.quiet_of_same ((HNC.out _).mono (fun e w' h => ⟨h.1, h.2.symm⟩)))))
              go_wp2
              go_roundw
              case rel => exact ⟨k + 1, by omega, by go_num, by rw [← htw.out, HST.out, HM.out]; rfl, hkp.drewN _⟩
              case measure => simp [intOf]; omega
            · have hge : 0 ≤ idxFrom ((namesL rs).take k) rs[k].p.name 0 := by
                have := HDM.out
                rw [hM] at this
                exact of_decide_eq_true this
              have hF := setF_twice (i := k) (by rw [provsL_length]; exact hlong) HEND.out (by rw [provsL_names, ← htw.out, HST.out, if_pos hM])
              have HF := Lib.hid hF
              generalize idxFrom ((namesL rs).take k) rs[k].p.name 0 = ix at *
              have HKP := Lib.hid hkp
              obtain ⟨_, _, q0, q1, z0, z1⟩ := hkp
              clear hM hF
              go_wp2_with fail
              go_quiet ((first | (go_at_call 66; exact Calls.quiet_of_same ((HNC.out _).mono (fun e w' h => ⟨h.1, h.2.symm⟩)))))
              go_wp2
              obtain ⟨c0, c1⟩ := two_set (w := wr.drewN nq) (x := .int .i64 (k : Int)) (y := .int .i64 6) q0 q1
              refine bodyPost_ret (v := .agg #[.int .i64 (k : Int), .int .i64 6]) (by simp [results, Tryd.results35, go_sem, c0, c1]; try rfl) rfl ?_
              exact fault_one ((HKP.out.drewN nq).set2 _ _) HF.out
          · have hend : twiceAt (namesL rs) [] 0 = none := by rw [← htw.out, List.drop_of_length_le (by rw [namesL_length]; omega)]; rfl
            have hF := setF_good (by rw [provsL_length]; exact hlong) HEND.out (by rw [provsL_names]; exact hend)
            have HF := Lib.hid hF
            obtain ⟨_, _, q0, q1, z0, z1⟩ := hkp
            clear hF hend
            go_wp2
            obtain ⟨c0, c1⟩ := two_set (x := .int .i64 0) (y := .int .i64 0) q0 q1
            refine bodyPost_ret (v := .agg #[.int .i64 0, .int .i64 0]) (by simp [results, Tryd.results35, go_sem, c0, c1]; try rfl) rfl ?_
            exact fault_one (Kept.set2 ⟨‹_›, ‹_›, q0, q1, z0, z1⟩ _ _) HF.out
end Go.Proofs.YtgopflklcfcocaaDoor
