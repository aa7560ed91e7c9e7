/- Tables of texts, map[string]int; what is wrong with a set: names.CheckSet. -/
import Derived.Test.YtgopflklcfcocaaDoorA42
import Derived.Test.YtgopflklcfcocaaDoorA35
import Derived.Maps.OwnOps
namespace Go.Proofs.YtgopflklcfcocaaDoor
open Go.RowKit Go.Maps Go.ChangeMaps Go.WideShapes

theorem zeroI (w : World) : (zeroValue 3).run Tryd.prog w = .ok (.int .i64 0) w := by kernel_rfl
/-- Block b is a table of at most n entries, that gives what F says. -/
def TabIs (w : World) (b n : Nat) (F : ByteArray → Option Int) : Prop := ∃ D : DataW Unit, w.ownsMap Tryd.prog 9 (plainElem Tryd.prog 3) b n D ∧ ∀ s, Maps.has D (kl s) = (F s).isSome ∧ D.atKey (kl s) (.lit (.int .i64 0)) = .lit (.int .i64 ((F s).getD 0))
theorem TabIs.new (w : World) : TabIs (w.alloc (.map #[] 0)) w.heap.size 0 (fun _ => none) := ⟨_, World.ownsMap_made w _ _ _, fun _ => ⟨rfl, rfl⟩⟩
theorem TabIs.lt {w : World} {b n : Nat} {F : ByteArray → Option Int} (h : TabIs w b n F) : b < w.heap.size := by
  obtain ⟨D, ⟨es, clock, hb, _⟩, _⟩ := h
  exact (Array.getElem?_eq_some_iff.1 hb).1
theorem TabIs.kept {w w' : World} {b n : Nat} {F : ByteArray → Option Int} (h : TabIs w b n F) (hk : w'.heap[b]? = w.heap[b]?) : TabIs w' b n F := by
  obtain ⟨D, ⟨es, clock, hb, r⟩, h2⟩ := h
  exact ⟨D, ⟨es, clock, hk.trans hb, r⟩, h2⟩
theorem TabIs.below {w w' : World} {b n : Nat} {F : ByteArray → Option Int} (h : TabIs w b n F) (hb : Below w.heap.size w w') : TabIs w' b n F := h.kept (hb.block b h.lt)
/-- m[s] = v -/
theorem TabIs.put {w w' : World} {b n : Nat} {F : ByteArray → Option Int} {D : DataW Unit} (hD : w.ownsMap Tryd.prog 9 (plainElem Tryd.prog 3) b n D) (h2 : ∀ s, Maps.has D (kl s) = (F s).isSome ∧ D.atKey (kl s) (.lit (.int .i64 0)) = .lit (.int .i64 ((F s).getD 0))) {s : ByteArray} (hs : s.size ≤ 140737488355328) {v : Int} (h3 : w'.ownsMap Tryd.prog 9 (plainElem Tryd.prog 3) b (n + 1) (D.put (kl s) (.lit (.int .i64 v)))) : TabIs w' b (n + 1) (fun x => if x = s then some v else F x) :=
  ⟨_, h3, fun x => by
    rw [has_put D hD.isMap s x hs, (h2 x).1]
    by_cases h : x = s
    · subst h
      refine ⟨by simp, ?_⟩
      rw [atKey_put_same hD.isMap (kl_key x hs)]
      simp
    · refine ⟨by simp [h], ?_⟩
      rw [atKey_put_other (fun e => h (kl_inj e)), (h2 x).2]
      simp [h]⟩
theorem int_wf {v : Int} (h0 : 0 ≤ v) (h1 : v ≤ 1000) : (Lit.int .i64 v).wf = true := by
  have e0 : IntKind.min .i64 = -9223372036854775808 := by decide
  have e1 : IntKind.max .i64 = 9223372036854775807 := by decide
  simp only [Lit.wf, e0, e1, Bool.and_eq_true, decide_eq_true_eq]
  omega
theorem kept_grown {w W W' : World} {row : Option Nat} (h : Kept w W) (hg : W.grownBy W' row) (hr : ∀ g, row = some g → w.heap.size < g) : Kept w W' := by
  have hne : w.heap.size < W.heap.size ∧ some w.heap.size ≠ row := ⟨h.lt, fun e => by have := hr _ e.symm; omega⟩
  have hk : W'.heap[w.heap.size]? = W.heap[w.heap.size]? := hg.block w.heap.size h.lt (fun e => hne.2 e)
  have hc : ∀ o, W'.cell? ⟨w.heap.size, o, none⟩ = W.cell? ⟨w.heap.size, o, none⟩ := fun o => World.cell?_of_block (a := ⟨w.heap.size, o, none⟩) hk
  have hf : ∀ o, W'.frozen? ⟨w.heap.size, o, none⟩ = W.frozen? ⟨w.heap.size, o, none⟩ := fun o => by unfold World.frozen?; rw [hk]
  exact ⟨h.bel.grown hg (Nat.le_of_lt h.lt) (fun g e => Nat.le_of_lt (hr g e)), Nat.lt_of_lt_of_le h.lt hg.size, (hc 0).trans h.q0, (hc 1).trans h.q1, (hf 0).trans h.z0, (hf 1).trans h.z1⟩
set_option maxHeartbeats 4000000 in
set_option maxRecDepth 100000 in
theorem checkSet_c (rs : List PRow) (V : Option Addr) (c : Nat) (w : World) (hx : ProvsAt w V rs) (hl : rs.length * 104 ≤ 140737488355328) (hkeys : KeysIn w) :
    Calls Tryd.prog 34 #[.slice V rs.length c] w (FaultPost (setF (provsL rs)) w) := by
  by_cases hlong : 256 < rs.length
  · have hF := setF_long (ps := provsL rs) (by rw [provsL_length]; exact hlong)
    have hli : (256 : Int) < (rs.length : Int) := by omega
    have HF := Lib.hid hF
    clear hF
    go_enter Tryd.func34, Tryd.ntmps34
    go_wp2
    refine bodyPost_ret (v := .agg #[.int .i64 0, .int .i64 3]) (by simp [results, Tryd.results34, go_sem]; try rfl) rfl ?_
    exact fault_one ((Below.refl _ _).alloc (Nat.le_refl _) _) HF.out
  · have hli : (rs.length : Int) ≤ 256 := by omega
    have hks := Kept.start w 58
    have hmm := @run_makeMap Tryd.prog
    have HKS := Lib.hid hks
    clear hks
    go_enter Tryd.func34, Tryd.ntmps34
    go_wp2
    go_loopw [15] (fun i wr => ∃ k : Nat, k ≤ rs.length ∧ i = .int .i64 k ∧ Hid (badAt ((provsL rs).drop k) k = badAt (provsL rs) 0) ∧ Kept w wr) (fun i _ => rs.length - (intOf i).toNat)
    case atStart => exact ⟨0, by omega, rfl, rfl, HKS.out⟩
    case round =>
      obtain ⟨k, hk, rfl, hbad, hkp⟩ := hrel
      by_cases hlt : k < rs.length
      · rcases (hx.below hkp.bel).lies with h | ⟨b, off, rfl, hb, hc⟩
        · rw [h] at hlt; simp at hlt
        obtain ⟨g0, g1, g2, g3, g4, g5, g6, g7, g8⟩ := hc k hlt
        have hpk := (hx.below hkp.bel).each rs[k] (List.getElem_mem hlt)
        have hst := badAt_drop (provsL rs) k (by rw [provsL_length]; exact hlt)
        rw [provsL_get rs k hlt] at hst
        have hal : ∀ o : Obj, Below wr.heap.size wr (wr.alloc o) := fun o => (Below.refl _ _).alloc (Nat.le_refl _) o
        have HAL := Lib.hid hal
        have HST := Lib.hid hst
        have HPK := Lib.hid hpk
        have HKK := Lib.hid (hkeys.below hkp.bel)
        clear hc hst hpk hal
        by_cases h0 : provF rs[k].p = 0
        · have b0 : (provF rs[k].p != 0) = false := by simpa using h0
          have H0 := Lib.hid h0
          clear h0
          go_wp2_with (go_at_call 15; refine (checkProv_c rs[k].p rs[k].A rs[k].c _ (HPK.out.below (HAL.out _)) (HKK.out.below (HAL.out _))).mono ?_; rintro e w1 ⟨rfl, hb1⟩; have hkp1 := (hkp.below (HAL.out _)).below hb1)
          go_roundw
          case rel => exact ⟨k + 1, by omega, by go_num, by rw [← hbad.out, HST.out, if_neg (by simpa using H0.out)]; rfl, hkp1⟩
          case measure => simp [intOf]; omega
        · have b0 : (provF rs[k].p != 0) = true := by simpa using h0
          have hF := setF_bad (i := k) (c := provF rs[k].p) (by rw [provsL_length]; exact hlong) (by rw [← hbad.out, HST.out, if_pos h0])
          have HF := Lib.hid hF
          clear h0 hF
          go_wp2_with (go_at_call 15; refine (checkProv_c rs[k].p rs[k].A rs[k].c _ (HPK.out.below (HAL.out _)) (HKK.out.below (HAL.out _))).mono ?_; rintro e w1 ⟨rfl, hb1⟩; have hkp1 := (hkp.below (HAL.out _)).below hb1; have HK1 := Lib.hid hkp1; obtain ⟨_, _, q0, q1, z0, z1⟩ := hkp1)
          obtain ⟨c0, c1⟩ := two_set (x := .int .i64 (k : Int)) (y := .int .i64 (provF rs[k].p)) q0 q1
          refine bodyPost_ret (v := .agg #[.int .i64 (k : Int), .int .i64 (provF rs[k].p)]) (by simp [results, Tryd.results34, go_sem, c0, c1]; try rfl) rfl ?_
          exact fault_one (HK1.out.set2 _ _) HF.out
      · have hend : badAt (provsL rs) 0 = none := by rw [← hbad.out, List.drop_of_length_le (by rw [provsL_length]; omega)]; rfl
        have HEND := Lib.hid hend
        have hkp0 := hkp
        clear hend hbad hkp
        go_wp2
        try go_frame
        have htab0 : TabIs (wr.alloc (.map #[] 0)) wr.heap.size 0 (fun _ => none) := TabIs.new wr
        have hk0 : Kept w (wr.alloc (.map #[] 0)) := hkp0.below ((Below.refl _ _).alloc (Nat.le_refl _) _)
        have hmlt := hkp0.lt
        obtain ⟨wo, hwo⟩ : ∃ wo : World, wo = wr := ⟨_, rfl⟩
        subst hwo
        go_loopw [31] (fun i wr => ∃ (k n : Nat) (F : ByteArray → Option Int), k ≤ rs.length ∧ n ≤ k ∧ i = .int .i64 k ∧ Hid (twiceAt ((namesL rs).drop k) ((namesL rs).take k) k = twiceAt (namesL rs) [] 0) ∧ Kept w wr ∧ TabIs wr wo.heap.size n F ∧ Hid (∀ s, (F s).isSome = memB s ((namesL rs).take k)) ∧ Hid (∀ s v, F s = some v → 0 < v)) (fun i _ => rs.length - (intOf i).toNat)
        case atStart => exact ⟨0, 0, _, by omega, by omega, rfl, rfl, hk0, htab0, fun s => rfl, fun s v h => by cases h⟩
        case round =>
          obtain ⟨k, n, F, hk, hnk, rfl, htw, hkp, htab, hF1, hF2⟩ := hrel
          by_cases hlt : k < rs.length
          · rcases (hx.below hkp.bel).lies with h | ⟨b, off, rfl, hb, hc⟩
            · rw [h] at hlt; simp at hlt
            obtain ⟨g0, g1, g2, g3, g4, g5, g6, g7, g8⟩ := hc k hlt
            have hns := ((hx.below hkp.bel).each rs[k] (List.getElem_mem hlt)).name
            have hst := twiceAt_drop (namesL rs) k (by rw [namesL_length]; exact hlt)
            have hmt := fun x => memB_take x (namesL rs) k (by rw [namesL_length]; exact hlt)
            rw [namesL_get rs k hlt] at hst
            simp only [namesL_get rs k hlt] at hmt
            have hkl := kl_of rs[k].p.name hns
            have hmlr := htab.lt
            obtain ⟨D, hD, hDs⟩ := htab
            have hD0 := fun o : Obj => hD.alloc o
            have hal : ∀ o : Obj, Kept w (wr.alloc o) := fun o => hkp.below ((Below.refl _ _).alloc (Nat.le_refl _) o)
            have HST := Lib.hid hst
            have HMT := Lib.hid hmt
            have HKL := Lib.hid hkl
            have HDS := Lib.hid hDs
            have HD0 := Lib.hid hD0
            have HAL := Lib.hid hal
            clear hc hst hmt hkl hDs hD0 hal
            cases hM : memB rs[k].p.name ((namesL rs).take k)
            · have hcc : ∀ cc : Int, D.atKey (kl rs[k].p.name) (.lit (.int .i64 0)) = .lit (.int .i64 cc) → cc ≤ 0 := fun cc h => by
                have h1 := (HDS.out rs[k].p.name).2
                have h3 := hF1.out rs[k].p.name
                rw [hM] at h3
                rw [h1] at h
                injection h with h
                injection h with _ h
                cases hq : F rs[k].p.name with
                | none => rw [hq] at h; simp at h; omega
                | some v => rw [hq] at h3; simp at h3
              have HC := Lib.hid hcc
              have HM := Lib.hid hM
              clear hM hcc
              go_wp2_with (first | (at_lookup; refine wpList_lookup_own_int _ (by rfl) _ _ 84 (by rfl) 9 3 .i64 keyed Tryd.underlying84 Tryd.underlying3 (zeroI _) wo.heap.size n D (by rfl) (HD0.out _) (.string rs[k].p.name) (kl rs[k].p.name) (by rfl) HKL.out ?_; intro cc hat _; have hcz := HC.out cc hat; have HAT := Lib.hid hat; clear hat) | (at_mapUpdate; refine wpList_mapUpdate_own _ (by rfl) _ _ _ 84 (by rfl) 9 3 keyed Tryd.underlying84 (plainElem Tryd.prog 3) wo.heap.size n D (by rfl) (HD0.out _) (by simp only [maxLen]; omega) (.string rs[k].p.name) (.int .i64 ((k : Int) + 1)) (kl rs[k].p.name) (by rfl) (by rfl) HKL.out (.lit (.int .i64 ((k : Int) + 1))) [] (plainElem_int Tryd.underlying3 (int_wf (by omega) (by omega))) ?_; intro w2 hD2 hg2; go_frame))
              go_roundw
              case rel =>
                refine ⟨k + 1, n + 1, _, by omega, by omega, by go_num, by rw [← htw.out, HST.out, HM.out]; rfl, kept_grown (HAL.out _) hg2 (fun g e => by cases e; exact hmlt), TabIs.put hD HDS.out hns hD2, fun x => ?_, fun x v h => ?_⟩
                · rw [HMT.out, ← hF1.out]
                  by_cases hxs : x = rs[k].p.name <;> simp [hxs]
                · split at h
                  · cases h; omega
                  · exact hF2.out x v h
              case measure => simp [intOf]; omega
            · have hcc : ∀ cc : Int, D.atKey (kl rs[k].p.name) (.lit (.int .i64 0)) = .lit (.int .i64 cc) → 0 < cc := fun cc h => by
                have h1 := (HDS.out rs[k].p.name).2
                have h3 := hF1.out rs[k].p.name
                rw [hM] at h3
                rw [h1] at h
                injection h with h
                injection h with _ h
                cases hq : F rs[k].p.name with
                | none => rw [hq] at h3; simp at h3
                | some v => rw [hq] at h; have := hF2.out _ v hq; simp at h; omega
              have hF := setF_twice (i := k) (by rw [provsL_length]; exact hlong) HEND.out (by rw [provsL_names, ← htw.out, HST.out, if_pos hM])
              have HF := Lib.hid hF
              have HC := Lib.hid hcc
              have q0 := fun o : Obj => (HAL.out o).q0
              have q1 := fun o : Obj => (HAL.out o).q1
              have z0 := fun o : Obj => (HAL.out o).z0
              have z1 := fun o : Obj => (HAL.out o).z1
              clear hM hcc hF
              go_wp2_with (at_lookup; refine wpList_lookup_own_int _ (by rfl) _ _ 84 (by rfl) 9 3 .i64 keyed Tryd.underlying84 Tryd.underlying3 (zeroI _) wo.heap.size n D (by rfl) (HD0.out _) (.string rs[k].p.name) (kl rs[k].p.name) (by rfl) HKL.out ?_; intro cc hat _; have hcz := HC.out cc hat; have HAT := Lib.hid hat; clear hat)
              have c0 := fun (o : Obj) (x y : Value) => (two_set (x := x) (y := y) (q0 o) (q1 o)).1
              have c1 := fun (o : Obj) (x y : Value) => (two_set (x := x) (y := y) (q0 o) (q1 o)).2
              refine bodyPost_ret (v := .agg #[.int .i64 (k : Int), .int .i64 6]) (by simp [results, Tryd.results34, go_sem, c0, c1]; try rfl) rfl ?_
              exact fault_one ((HAL.out _).set2 _ _) HF.out
          · have hend : twiceAt (namesL rs) [] 0 = none := by rw [← htw.out, List.drop_of_length_le (by rw [namesL_length]; omega)]; rfl
            have hF := setF_good (by rw [provsL_length]; exact hlong) HEND.out (by rw [provsL_names]; exact hend)
            have HF := Lib.hid hF
            have HK1 := Lib.hid hkp
            obtain ⟨_, _, q0, q1, z0, z1⟩ := hkp
            clear hF hend
            go_wp2
            obtain ⟨c0, c1⟩ := two_set (x := .int .i64 0) (y := .int .i64 0) q0 q1
            refine bodyPost_ret (v := .agg #[.int .i64 0, .int .i64 0]) (by simp [results, Tryd.results34, go_sem, c0, c1]; try rfl) rfl ?_
            exact fault_one (HK1.out.set2 _ _) HF.out
end Go.Proofs.YtgopflklcfcocaaDoor
