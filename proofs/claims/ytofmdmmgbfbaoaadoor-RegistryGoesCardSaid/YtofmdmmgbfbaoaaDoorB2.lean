/- Sets of providers for another seat, cut out of A42 .. A46. -/
import Derived.Test.YtofmdmmgbfbaoaaDoorB1
namespace Go.Proofs.YtofmdmmgbfbaoaaDoor
open Go.ChangeMaps Go.Maps Go.RowKit Go.WideShapes


theorem fault_one {a : Int × Int} {w w' : World} (h : Below w.heap.size w w') {i c : Int} (ha : a = (i, c)) : FaultPost a w (.returned (.agg #[.int .i64 i, .int .i64 c])) w' := by
  subst ha; exact ⟨rfl, h⟩
theorem setF_long {ps : List XProv} (h : 256 < ps.length) : setF ps = (0, 3) := by unfold setF; rw [if_pos h]
theorem setF_bad {ps : List XProv} {i : Nat} {c : Int} (h : ¬ 256 < ps.length) (hb : badAt ps 0 = some (i, c)) : setF ps = ((i : Int), c) := by unfold setF; rw [if_neg h, hb]
theorem setF_twice {ps : List XProv} {i : Nat} (h : ¬ 256 < ps.length) (hb : badAt ps 0 = none) (ht : twiceAt (ps.map XProv.name) [] 0 = some i) : setF ps = ((i : Int), 6) := by unfold setF; rw [if_neg h, hb, ht]
theorem setF_good {ps : List XProv} (h : ¬ 256 < ps.length) (hb : badAt ps 0 = none) (ht : twiceAt (ps.map XProv.name) [] 0 = none) : setF ps = (0, 0) := by unfold setF; rw [if_neg h, hb, ht]
/-- A fault written into its cells. -/
theorem two_set {w : World} {b : Nat} {x y u v : Value} (h0 : w.cell? ⟨b, 0, none⟩ = some u) (h1 : w.cell? ⟨b, 1, none⟩ = some v) :
    ((w.setCell ⟨b, 0, none⟩ x).setCell ⟨b, 1, none⟩ y).cell? ⟨b, 0, none⟩ = some x ∧ ((w.setCell ⟨b, 0, none⟩ x).setCell ⟨b, 1, none⟩ y).cell? ⟨b, 1, none⟩ = some y := by
  refine ⟨?_, ?_⟩
  · rw [World.cell?_setCell_other _ _ _ _ (by simp)]
    exact World.cell?_setCell_same _ _ _ h0
  · refine World.cell?_setCell_same _ _ _ (u := v) ?_
    rw [World.cell?_setCell_other _ _ _ _ (by simp)]
    exact h1
/-- The fault's cells stand, and only new things came. -/
structure Kept (w : World) (w' : World) : Prop where
  bel : Below w.heap.size w w'
  lt : w.heap.size < w'.heap.size
  q0 : w'.cell? ⟨w.heap.size, 0, none⟩ = some (.int .i64 0)
  q1 : w'.cell? ⟨w.heap.size, 1, none⟩ = some (.int .i64 0)
  z0 : w'.frozen? ⟨w.heap.size, 0, none⟩ = false
  z1 : w'.frozen? ⟨w.heap.size, 1, none⟩ = false
theorem Kept.below {w W W' : World} (h : Kept w W) (hb : Below W.heap.size W W') : Kept w W' :=
  ⟨h.bel.trans (hb.mono (Nat.le_of_lt h.lt)), Nat.lt_of_lt_of_le h.lt hb.size, (hb.cell (p := ⟨w.heap.size, 0, none⟩) h.lt).trans h.q0, (hb.cell (p := ⟨w.heap.size, 1, none⟩) h.lt).trans h.q1, (hb.frozen (p := ⟨w.heap.size, 0, none⟩) h.lt).trans h.z0, (hb.frozen (p := ⟨w.heap.size, 1, none⟩) h.lt).trans h.z1⟩
theorem Kept.drewN {w W : World} (h : Kept w W) (n : Nat) : Kept w (W.drewN n) := ⟨below_drewN h.bel n, h.lt, h.q0, h.q1, h.z0, h.z1⟩
theorem Kept.set2 {w W : World} (h : Kept w W) (x y : Value) : Below w.heap.size w ((W.setCell ⟨w.heap.size, 0, none⟩ x).setCell ⟨w.heap.size, 1, none⟩ y) :=
  (h.bel.setCell (p := ⟨w.heap.size, 0, none⟩) (Nat.le_refl _) x).setCell (p := ⟨w.heap.size, 1, none⟩) (Nat.le_refl _) y
theorem Kept.start (w : World) (t : TypeId) : Kept w (w.alloc (.cells #[.int .i64 0, .int .i64 0] t)) := ⟨(Below.refl _ _).alloc (Nat.le_refl _) _, by simp, by simp, by simp, by simp, by simp⟩

theorem zeroI (w : World) : (zeroValue 3).run Tryd.prog w = .ok (.int .i64 0) w := by kernel_rfl
/-- Block b is a table of at most n entries, that gives what F says. -/
def TabIs (w : World) (b n : Nat) (F : ByteArray → Option Int) : Prop := ∃ D : DataW Unit, w.ownsMap Tryd.prog 9 (plainElem Tryd.prog 3) b n D ∧ ∀ s, Maps.has D (kl s) = (F s).isSome ∧ D.atKey (kl s) (.lit (.int .i64 0)) = .lit (.int .i64 ((F s).getD 0))
theorem TabIs.new (w : World) : TabIs (w.alloc (.map #[] 0)) w.heap.size 0 (fun _ => none) := ⟨_, World.ownsMap_made w _ _ _, fun _ => ⟨rfl, rfl⟩⟩
theorem TabIs.lt {w : World} {b n : Nat} {F : ByteArray → Option Int} (h : TabIs w b n F) : b < w.heap.size := by
  obtain ⟨D, ⟨es, clock, hb, _⟩, _⟩ := h
  exact (Array.getElem?_eq_some_iff.1 hb).1
theorem TabIs.kept {w w' : World} {b n : Nat} {F : ByteArray → Option Int} (h : TabIs w b n F) (hk : w'.heap[b]? = w.heap[b]?) : TabIs w' b n F := by
  obtain ⟨D, ⟨es, clock, hb, r⟩, h2⟩ := h
  exact ⟨D, ⟨es, clock, hk.trans hb, r⟩, h2⟩
theorem TabIs.below {w w' : World} {b n : Nat} {F : ByteArray → Option Int} (h : TabIs w b n F) (hb : Below w.heap.size w w') : TabIs w' b n F := h.kept (hb.block b h.lt)
/-- m[s] = v -/
theorem TabIs.put {w w' : World} {b n : Nat} {F : ByteArray → Option Int} {D : DataW Unit} (hD : w.ownsMap Tryd.prog 9 (plainElem Tryd.prog 3) b n D) (h2 : ∀ s, Maps.has D (kl s) = (F s).isSome ∧ D.atKey (kl s) (.lit (.int .i64 0)) = .lit (.int .i64 ((F s).getD 0))) {s : ByteArray} (hs : s.size ≤ 140737488355328) {v : Int} (h3 : w'.ownsMap Tryd.prog 9 (plainElem Tryd.prog 3) b (n + 1) (D.put (kl s) (.lit (.int .i64 v)))) : TabIs w' b (n + 1) (fun x => if x = s then some v else F x) :=
  ⟨_, h3, fun x => by
    rw [has_put D hD.isMap s x hs, (h2 x).1]
    by_cases h : x = s
    · subst h
      refine ⟨by simp, ?_⟩
      rw [atKey_put_same hD.isMap (kl_key x hs)]
      simp
    · refine ⟨by simp [h], ?_⟩
      rw [atKey_put_other (fun e => h (kl_inj e)), (h2 x).2]
      simp [h]⟩
theorem int_wf {v : Int} (h0 : 0 ≤ v) (h1 : v ≤ 1000) : (Lit.int .i64 v).wf = true := by
  have e0 : IntKind.min .i64 = -9223372036854775808 := by decide
  have e1 : IntKind.max .i64 = 9223372036854775807 := by decide
  simp only [Lit.wf, e0, e1, Bool.and_eq_true, decide_eq_true_eq]
  omega
theorem kept_grown {w W W' : World} {row : Option Nat} (h : Kept w W) (hg : W.grownBy W' row) (hr : ∀ g, row = some g → w.heap.size < g) : Kept w W' := by
  have hne : w.heap.size < W.heap.size ∧ some w.heap.size ≠ row := ⟨h.lt, fun e => by have := hr _ e.symm; omega⟩
  have hk : W'.heap[w.heap.size]? = W.heap[w.heap.size]? := hg.block w.heap.size h.lt (fun e => hne.2 e)
  have hc : ∀ o, W'.cell? ⟨w.heap.size, o, none⟩ = W.cell? ⟨w.heap.size, o, none⟩ := fun o => World.cell?_of_block (a := ⟨w.heap.size, o, none⟩) hk
  have hf : ∀ o, W'.frozen? ⟨w.heap.size, o, none⟩ = W.frozen? ⟨w.heap.size, o, none⟩ := fun o => by unfold World.frozen?; rw [hk]
  exact ⟨h.bel.grown hg (Nat.le_of_lt h.lt) (fun g e => Nat.le_of_lt (hr g e)), Nat.lt_of_lt_of_le h.lt hg.size, (hc 0).trans h.q0, (hc 1).trans h.q1, (hf 0).trans h.z0, (hf 1).trans h.z1⟩
set_option maxHeartbeats 4000000 in
set_option maxRecDepth 100000 in
theorem checkSet_c (rs : List PRow) (V : Option Addr) (c : Nat) (w : World) (hx : ProvsAt w V rs) (hl : rs.length * 104 ≤ 140737488355328) (hkeys : KeysIn w) :
    Calls Tryd.prog 46 #[.slice V rs.length c] w (FaultPost (setF (provsL rs)) w) := by
  by_cases hlong : 256 < rs.length
  · have hF := setF_long (ps := provsL rs) (by rw [provsL_length]; exact hlong)
    have hli : (256 : Int) < (rs.length : Int) := by omega
    have HF := Lib.hid hF
    clear hF
    go_enter Tryd.func46, Tryd.ntmps46
    go_wp2
    refine bodyPost_ret (v := .agg #[.int .i64 0, .int .i64 3]) (by simp [results, Tryd.results46, go_sem]; try rfl) rfl ?_
    exact fault_one ((Below.refl _ _).alloc (Nat.le_refl _) _) HF.out
  · have hli : (rs.length : Int) ≤ 256 := by omega
    have hks := Kept.start w 79
    have hmm := @run_makeMap Tryd.prog
    have HKS := Lib.hid hks
    clear hks
    go_enter Tryd.func46, Tryd.ntmps46
    go_wp2
    go_loopw [15] (fun i wr => ∃ k : Nat, k ≤ rs.length ∧ i = .int .i64 k ∧ Hid (badAt ((provsL rs).drop k) k = badAt (provsL rs) 0) ∧ Kept w wr) (fun i _ => rs.length - (intOf i).toNat)
    case atStart => exact ⟨0, by omega, rfl, rfl, HKS.out⟩
    case round =>
      obtain ⟨k, hk, rfl, hbad, hkp⟩ := hrel
      by_cases hlt : k < rs.length
      · rcases (hx.below hkp.bel).lies with h | ⟨b, off, rfl, hb, hc⟩
        · rw [h] at hlt; simp at hlt
        obtain ⟨g0, g1, g2, g3, g4, g5, g6, g7, g8⟩ := hc k hlt
        have hpk := (hx.below hkp.bel).each rs[k] (List.getElem_mem hlt)
        have hst := badAt_drop (provsL rs) k (by rw [provsL_length]; exact hlt)
        rw [provsL_get rs k hlt] at hst
        have hal : ∀ o : Obj, Below wr.heap.size wr (wr.alloc o) := fun o => (Below.refl _ _).alloc (Nat.le_refl _) o
        have HAL := Lib.hid hal
        have HST := Lib.hid hst
        have HPK := Lib.hid hpk
        have HKK := Lib.hid (hkeys.below hkp.bel)
        clear hc hst hpk hal
        by_cases h0 : provF rs[k].p = 0
        · have b0 : (provF rs[k].p != 0) = false := by simpa using h0
          have H0 := Lib.hid h0
          clear h0
          go_wp2_with (go_at_call 21; refine (checkProv_c rs[k].p rs[k].A rs[k].c _ (HPK.out.below (HAL.out _)) (HKK.out.below (HAL.out _))).mono ?_; rintro e w1 ⟨rfl, hb1⟩; have hkp1 := (hkp.below (HAL.out _)).below hb1)
          go_roundw
          case rel => exact ⟨k + 1, by omega, by go_num, by rw [← hbad.out, HST.out, if_neg (by simpa using H0.out)]; rfl, hkp1⟩
          case measure => simp [intOf]; omega
        · have b0 : (provF rs[k].p != 0) = true := by simpa using h0
          have hF := setF_bad (i := k) (c := provF rs[k].p) (by rw [provsL_length]; exact hlong) (by rw [← hbad.out, HST.out, if_pos h0])
          have HF := Lib.hid hF
          clear h0 hF
          go_wp2_with (go_at_call 21; refine (checkProv_c rs[k].p rs[k].A rs[k].c _ (HPK.out.below (HAL.out _)) (HKK.out.below (HAL.out _))).mono ?_; rintro e w1 ⟨rfl, hb1⟩; have hkp1 := (hkp.below (HAL.out _)).below hb1; have HK1 := Lib.hid hkp1; obtain ⟨_, _, q0, q1, z0, z1⟩ := hkp1)
          obtain ⟨c0, c1⟩ := two_set (x := .int .i64 (k : Int)) (y := .int .i64 (provF rs[k].p)) q0 q1
          refine bodyPost_ret (v := .agg #[.int .i64 (k : Int), .int .i64 (provF rs[k].p)]) (by simp [results, Tryd.results46, go_sem, c0, c1]; try rfl) rfl ?_
          exact fault_one (HK1.out.set2 _ _) HF.out
      · have hend : badAt (provsL rs) 0 = none := by rw [← hbad.out, List.drop_of_length_le (by rw [provsL_length]; omega)]; rfl
        have HEND := Lib.hid hend
        have hkp0 := hkp
        clear hend hbad hkp
        go_wp2
        try go_frame
        have htab0 : TabIs (wr.alloc (.map #[] 0)) wr.heap.size 0 (fun _ => none) := TabIs.new wr
        have hk0 : Kept w (wr.alloc (.map #[] 0)) := hkp0.below ((Below.refl _ _).alloc (Nat.le_refl _) _)
        have hmlt := hkp0.lt
        obtain ⟨wo, hwo⟩ : ∃ wo : World, wo = wr := ⟨_, rfl⟩
        subst hwo
        go_loopw [31] (fun i wr => ∃ (k n : Nat) (F : ByteArray → Option Int), k ≤ rs.length ∧ n ≤ k ∧ i = .int .i64 k ∧ Hid (twiceAt ((namesL rs).drop k) ((namesL rs).take k) k = twiceAt (namesL rs) [] 0) ∧ Kept w wr ∧ TabIs wr wo.heap.size n F ∧ Hid (∀ s, (F s).isSome = memB s ((namesL rs).take k)) ∧ Hid (∀ s v, F s = some v → 0 < v)) (fun i _ => rs.length - (intOf i).toNat)
        case atStart => exact ⟨0, 0, _, by omega, by omega, rfl, rfl, hk0, htab0, fun s => rfl, fun s v h => by cases h⟩
        case round =>
          obtain ⟨k, n, F, hk, hnk, rfl, htw, hkp, htab, hF1, hF2⟩ := hrel
          by_cases hlt : k < rs.length
          · rcases (hx.below hkp.bel).lies with h | ⟨b, off, rfl, hb, hc⟩
            · rw [h] at hlt; simp at hlt
            obtain ⟨g0, g1, g2, g3, g4, g5, g6, g7, g8⟩ := hc k hlt
            have hns := ((hx.below hkp.bel).each rs[k] (List.getElem_mem hlt)).name
            have hst := twiceAt_drop (namesL rs) k (by rw [namesL_length]; exact hlt)
            have hmt := fun x => memB_take x (namesL rs) k (by rw [namesL_length]; exact hlt)
            rw [namesL_get rs k hlt] at hst
            simp only [namesL_get rs k hlt] at hmt
            have hkl := kl_of rs[k].p.name hns
            have hmlr := htab.lt
            obtain ⟨D, hD, hDs⟩ := htab
            have hD0 := fun o : Obj => hD.alloc o
            have hal : ∀ o : Obj, Kept w (wr.alloc o) := fun o => hkp.below ((Below.refl _ _).alloc (Nat.le_refl _) o)
            have HST := Lib.hid hst
            have HMT := Lib.hid hmt
            have HKL := Lib.hid hkl
            have HDS := Lib.hid hDs
            have HD0 := Lib.hid hD0
            have HAL := Lib.hid hal
            clear hc hst hmt hkl hDs hD0 hal
            cases hM : memB rs[k].p.name ((namesL rs).take k)
            · have hcc : ∀ cc : Int, D.atKey (kl rs[k].p.name) (.lit (.int .i64 0)) = .lit (.int .i64 cc) → cc ≤ 0 := fun cc h => by
                have h1 := (HDS.out rs[k].p.name).2
                have h3 := hF1.out rs[k].p.name
                rw [hM] at h3
                rw [h1] at h
                injection h with h
                injection h with _ h
                cases hq : F rs[k].p.name with
                | none => rw [hq] at h; simp at h; omega
                | some v => rw [hq] at h3; simp at h3
              have HC := Lib.hid hcc
              have HM := Lib.hid hM
              clear hM hcc
              go_wp2_with (first | (at_lookup; refine wpList_lookup_own_int _ (by rfl) _ _ 61 (by rfl) 9 3 .i64 keyed Tryd.underlying61 Tryd.underlying3 (zeroI _) wo.heap.size n D (by rfl) (HD0.out _) (.string rs[k].p.name) (kl rs[k].p.name) (by rfl) HKL.out ?_; intro cc hat _; have hcz := HC.out cc hat; have HAT := Lib.hid hat; clear hat) | (at_mapUpdate; refine wpList_mapUpdate_own _ (by rfl) _ _ _ 61 (by rfl) 9 3 keyed Tryd.underlying61 (plainElem Tryd.prog 3) wo.heap.size n D (by rfl) (HD0.out _) (by simp only [maxLen]; omega) (.string rs[k].p.name) (.int .i64 ((k : Int) + 1)) (kl rs[k].p.name) (by rfl) (by rfl) HKL.out (.lit (.int .i64 ((k : Int) + 1))) [] (plainElem_int Tryd.underlying3 (int_wf (by omega) (by omega))) ?_; intro w2 hD2 hg2; go_frame))
              go_roundw
              case rel =>
                refine ⟨k + 1, n + 1, _, by omega, by omega, by go_num, by rw [← htw.out, HST.out, HM.out]; rfl, kept_grown (HAL.out _) hg2 (fun g e => by cases e; exact hmlt), TabIs.put hD HDS.out hns hD2, fun x => ?_, fun x v h => ?_⟩
                · rw [HMT.out, ← hF1.out]
                  by_cases hxs : x = rs[k].p.name <;> simp [hxs]
                · split at h
                  · cases h; omega
                  · exact hF2.out x v h
              case measure => simp [intOf]; omega
            · have hcc : ∀ cc : Int, D.atKey (kl rs[k].p.name) (.lit (.int .i64 0)) = .lit (.int .i64 cc) → 0 < cc := fun cc h => by
                have h1 := (HDS.out rs[k].p.name).2
                have h3 := hF1.out rs[k].p.name
                rw [hM] at h3
                rw [h1] at h
                injection h with h
                injection h with _ h
                cases hq : F rs[k].p.name with
                | none => rw [hq] at h3; simp at h3
                | some v => rw [hq] at h; have := hF2.out _ v hq; simp at h; omega
              have hF := setF_twice (i := k) (by rw [provsL_length]; exact hlong) HEND.out (by rw [provsL_names, ← htw.out, HST.out, if_pos hM])
              have HF := Lib.hid hF
              have HC := Lib.hid hcc
              have q0 := fun o : Obj => (HAL.out o).q0
              have q1 := fun o : Obj => (HAL.out o).q1
              have z0 := fun o : Obj => (HAL.out o).z0
              have z1 := fun o : Obj => (HAL.out o).z1
              clear hM hcc hF
              go_wp2_with (at_lookup; refine wpList_lookup_own_int _ (by rfl) _ _ 61 (by rfl) 9 3 .i64 keyed Tryd.underlying61 Tryd.underlying3 (zeroI _) wo.heap.size n D (by rfl) (HD0.out _) (.string rs[k].p.name) (kl rs[k].p.name) (by rfl) HKL.out ?_; intro cc hat _; have hcz := HC.out cc hat; have HAT := Lib.hid hat; clear hat)
              have c0 := fun (o : Obj) (x y : Value) => (two_set (x := x) (y := y) (q0 o) (q1 o)).1
              have c1 := fun (o : Obj) (x y : Value) => (two_set (x := x) (y := y) (q0 o) (q1 o)).2
              refine bodyPost_ret (v := .agg #[.int .i64 (k : Int), .int .i64 6]) (by simp [results, Tryd.results46, go_sem, c0, c1]; try rfl) rfl ?_
              exact fault_one ((HAL.out _).set2 _ _) HF.out
          · have hend : twiceAt (namesL rs) [] 0 = none := by rw [← htw.out, List.drop_of_length_le (by rw [namesL_length]; omega)]; rfl
            have hF := setF_good (by rw [provsL_length]; exact hlong) HEND.out (by rw [provsL_names]; exact hend)
            have HF := Lib.hid hF
            have HK1 := Lib.hid hkp
            obtain ⟨_, _, q0, q1, z0, z1⟩ := hkp
            clear hF hend
            go_wp2
            obtain ⟨c0, c1⟩ := two_set (x := .int .i64 0) (y := .int .i64 0) q0 q1
            refine bodyPost_ret (v := .agg #[.int .i64 0, .int .i64 0]) (by simp [results, Tryd.results46, go_sem, c0, c1]; try rfl) rfl ?_
            exact fault_one (HK1.out.set2 _ _) HF.out

/-- What names.places leaves. -/
def PlacesPost (rs : List PRow) (w : World) (e : Ending) (w' : World) : Prop := ∃ (b n : Nat) (F : ByteArray → Option Int), e = .returned (.map (some b)) ∧ TabIs w' b n F ∧ w.heap.size ≤ b ∧ (∀ s, (F s).isSome = memB s (namesL rs)) ∧ (∀ s v, F s = some v → ∃ (k : Nat) (h : k < rs.length), v = (k : Int) ∧ rs[k].p.name = s) ∧ Below w.heap.size w w'
set_option maxHeartbeats 4000000 in
set_option maxRecDepth 100000 in
theorem places_c (rs : List PRow) (V : Option Addr) (c : Nat) (w : World) (hx : ProvsAt w V rs) (hl : rs.length ≤ 256) :
    Calls Tryd.prog 47 #[.slice V rs.length c] w (PlacesPost rs w) := by
  have hmm := @run_makeMap Tryd.prog
  have htab0 : TabIs (w.alloc (.map #[] 0)) w.heap.size 0 (fun _ => none) := TabIs.new w
  have hb0 : Below w.heap.size w (w.alloc (.map #[] 0)) := (Below.refl _ _).alloc (Nat.le_refl _) _
  go_enter Tryd.func47, Tryd.ntmps47
  go_wp2
  try go_frame
  go_loopw [9] (fun i wr => ∃ (k n : Nat) (F : ByteArray → Option Int), k ≤ rs.length ∧ n ≤ k ∧ i = .int .i64 k ∧ TabIs wr w.heap.size n F ∧ Hid (∀ s, (F s).isSome = memB s ((namesL rs).take k)) ∧ Hid (∀ s v, F s = some v → ∃ (k : Nat) (h : k < rs.length), v = (k : Int) ∧ rs[k].p.name = s) ∧ Below w.heap.size w wr) (fun i _ => rs.length - (intOf i).toNat)
  case atStart => exact ⟨0, 0, _, by omega, by omega, rfl, htab0, fun s => rfl, fun s v h => (by cases h), hb0⟩
  case round =>
    obtain ⟨k, n, F, hk, hnk, rfl, htab, hF1, hF2, hbel⟩ := hrel
    by_cases hlt : k < rs.length
    · rcases (hx.below hbel).lies with h | ⟨b, off, rfl, hb, hc⟩
      · rw [h] at hlt; simp at hlt
      obtain ⟨g0, g1, g2, g3, g4, g5, g6, g7, g8⟩ := hc k hlt
      have hns := ((hx.below hbel).each rs[k] (List.getElem_mem hlt)).name
      have hmt := fun x => memB_take x (namesL rs) k (by rw [namesL_length]; exact hlt)
      simp only [namesL_get rs k hlt] at hmt
      have hkl := kl_of rs[k].p.name hns
      have hmlr := htab.lt
      have hbs := hbel.size
      obtain ⟨D, hD, hDs⟩ := htab
      have hD0 := fun o : Obj => hD.alloc o
      have HMT := Lib.hid hmt
      have HKL := Lib.hid hkl
      have HDS := Lib.hid hDs
      have HD0 := Lib.hid hD0
      clear hc hmt hkl hDs hD0
      go_wp2_with (at_mapUpdate; refine wpList_mapUpdate_own _ (by rfl) _ _ _ 61 (by rfl) 9 3 keyed Tryd.underlying61 (plainElem Tryd.prog 3) w.heap.size n D (by rfl) (HD0.out _) (by simp only [maxLen]; omega) (.string rs[k].p.name) (.int .i64 (k : Int)) (kl rs[k].p.name) (by rfl) (by rfl) HKL.out (.lit (.int .i64 (k : Int))) [] (plainElem_int Tryd.underlying3 (int_wf (by omega) (by omega))) ?_; intro w2 hD2 hg2; go_frame)
      go_roundw
      case rel =>
        refine ⟨k + 1, n + 1, _, by omega, by omega, by go_num, TabIs.put hD HDS.out hns hD2, fun x => ?_, fun x v h => ?_, (hbel.alloc hbs _).grown hg2 (by simp; omega) (fun g e => (by cases e; exact Nat.le_refl _))⟩
        · rw [HMT.out, ← hF1.out]
          by_cases hxs : x = rs[k].p.name <;> simp [hxs]
        · split at h
          · next hxs => cases h; exact ⟨k, hlt, rfl, hxs.symm⟩
          · exact hF2.out x v h
      case measure => simp [intOf]; omega
    · have hend : (namesL rs).take k = namesL rs := List.take_of_length_le (by rw [namesL_length]; omega)
      have HEND := Lib.hid hend
      clear hend
      go_wp2
      go_ret
      exact ⟨w.heap.size, n, F, rfl, htab, Nat.le_refl _, fun s => by rw [hF1.out, HEND.out], hF2.out, hbel⟩

/-- The names of one expression that a set lacks, put behind what is there. -/
def missStep (N : List ByteArray) : List ByteArray → List ByteArray → List ByteArray
  | [], out => out
  | s :: l, out => missStep N l (if memB s N = false ∧ memB s out = false then out ++ [s] else out)
def missFrom (N : List ByteArray) : List XProv → List ByteArray → List ByteArray
  | [], out => out
  | p :: ps, out => missFrom N ps (missStep N (textsF p.expr 3) out)
/-- The names that a set lacks. -/
def missL (ps : List XProv) : List ByteArray := missFrom (ps.map XProv.name) ps []
theorem missStep_drop (N l : List ByteArray) (k : Nat) (h : k < l.length) (out : List ByteArray) : missStep N (l.drop k) out = missStep N (l.drop (k + 1)) (if memB l[k] N = false ∧ memB l[k] out = false then out ++ [l[k]] else out) := by
  rw [List.drop_eq_getElem_cons h, missStep]
theorem missFrom_drop (N : List ByteArray) (ps : List XProv) (k : Nat) (h : k < ps.length) (out : List ByteArray) : missFrom N (ps.drop k) out = missFrom N (ps.drop (k + 1)) (missStep N (textsF ps[k].expr 3) out) := by
  rw [List.drop_eq_getElem_cons h, missFrom]
def missAns (ps : List XProv) : List ByteArray × (Int × Int) := if (setF ps).2 ≠ 0 then ([], setF ps) else (missL ps, (0, 0))
/-- What a call that answers with texts and a fault leaves. -/
def TextsFault (a : List ByteArray × (Int × Int)) (w : World) (e : Ending) (w' : World) : Prop := ∃ v, e = .returned (.tuple #[v, .agg #[.int .i64 a.2.1, .int .i64 a.2.2]]) ∧ w'.ownsRow w.heap.size 9 1 v a.1.length (a.1.map Value.string) ∧ Below w.heap.size w w'
theorem bad_none {ps : List XProv} {i : Nat} (h : badAt ps i = none) : ∀ p ∈ ps, provF p = 0 := by
  induction ps generalizing i with
  | nil => simp
  | cons q ps ih =>
    rw [badAt] at h
    split at h
    · cases h
    · next h0 =>
      intro p hp
      rw [List.mem_cons] at hp
      rcases hp with rfl | hp
      · simpa using h0
      · exact ih h p hp
theorem badAt_ne {ps : List XProv} {j i : Nat} {c : Int} (h : badAt ps j = some (i, c)) : c ≠ 0 := by
  induction ps generalizing j with
  | nil => cases h
  | cons q ps ih =>
    rw [badAt] at h
    split at h
    · next h0 => cases h; exact h0
    · exact ih h
theorem set_zero {ps : List XProv} (h : (setF ps).2 = 0) : ps.length ≤ 256 ∧ (∀ p ∈ ps, provF p = 0) ∧ twiceAt (ps.map XProv.name) [] 0 = none := by
  unfold setF at h
  split at h
  · cases h
  · next hl =>
    split at h
    · next i c hb => exact absurd h (badAt_ne hb)
    · next hb =>
      split at h
      · cases h
      · next ht => exact ⟨by omega, bad_none hb, ht⟩
theorem prov_zero {p : XProv} (h : provF p = 0) : checkF p.expr = 0 := by
  unfold provF at h
  split at h
  · cases h
  · split at h
    · exact h
    · next h2 => simpa using h2
theorem prov_len {p : XProv} (h : provF p = 0) : p.expr.length ≤ 256 := (check_zero (prov_zero h)).1

theorem own_low {w : World} {base : Nat} {e : TypeId} {size n : Nat} {v : Value} {xs : List Value} (h : w.ownsRow base e size v n xs) (p : Addr) (u : Value) (hp : p.block < base) : (w.setCell p u).ownsRow base e size v n xs :=
  h.kept (row := some p.block) ⟨rfl, rfl, rfl, by simp [World.setCell], fun k _ hk => Below.heap_setCell w p u k (fun e => hk (by rw [e]))⟩ (.inr (fun e => by have := (h.lt _ e).1; omega))
theorem miss_no {ps : List XProv} (h : (setF ps).2 ≠ 0) : missAns ps = ([], setF ps) := by unfold missAns; rw [if_pos h]
theorem miss_yes {ps : List XProv} (h : (setF ps).2 = 0) : missAns ps = (missL ps, (0, 0)) := by unfold missAns; rw [if_neg (by simpa using h)]
theorem fault_nil {a : List ByteArray × (Int × Int)} {w w' : World} (h : Below w.heap.size w w') {i c : Int} {f : Int × Int} (ha : a = ([], f)) (hi : f.1 = i) (hc : f.2 = c) : TextsFault a w (.returned (.tuple #[.slice none 0 0, .agg #[.int .i64 i, .int .i64 c]])) w' := by
  subst ha hi hc; exact ⟨_, rfl, World.ownsRow_nil _ _ _ _, h⟩
theorem fault_row {a : List ByteArray × (Int × Int)} {w w' : World} {base : Nat} {v : Value} {l : List ByteArray} (hb : Below w.heap.size w w') (hbase : w.heap.size ≤ base) (ho : w'.ownsRow base 9 1 v (l.map Value.string).length (l.map Value.string)) (ha : a = (l, (0, 0))) : TextsFault a w (.returned (.tuple #[v, .agg #[.int .i64 0, .int .i64 0]])) w' := by
  subst ha
  have h2 := ho.mono hbase
  rw [List.length_map] at h2
  exact ⟨_, rfl, h2, hb⟩
theorem missF_end (N : List ByteArray) (ps : List XProv) (k : Nat) (h : ps.length ≤ k) (out : List ByteArray) : missFrom N (ps.drop k) out = out := by
  rw [List.drop_of_length_le h, missFrom]
theorem missS_end (N l : List ByteArray) (k : Nat) (h : l.length ≤ k) (out : List ByteArray) : missStep N (l.drop k) out = out := by
  rw [List.drop_of_length_le h, missStep]


set_option maxHeartbeats 4000000 in
set_option maxRecDepth 100000 in
theorem missN_c (rs : List PRow) (V : Option Addr) (c : Nat) (w : World) (hx : ProvsAt w V rs) (hl : rs.length * 104 ≤ 140737488355328) (hkeys : KeysIn w) :
    Calls Tryd.prog 34 #[.slice V rs.length c] w (TextsFault (missAns (provsL rs)) w) := by
  have hks := Kept.start w 79
  by_cases h0 : (setF (provsL rs)).2 = 0
  · have hM := miss_yes h0
    obtain ⟨hlen, hall, _⟩ := set_zero h0
    rw [provsL_length] at hlen
    have hel : ∀ k (h : k < rs.length), rs[k].p.expr.length ≤ 256 := fun k h => prov_len (hall _ (List.mem_map.2 ⟨rs[k], List.getElem_mem h, rfl⟩))
    have hcs := fun (W : World) h1 h2 => (checkSet_c rs V c W h1 hl h2).mono (fun e w' (hp : FaultPost _ W e w') => (show e = .returned (.agg #[.int .i64 (setF (provsL rs)).1, .int .i64 0]) ∧ Below W.heap.size W w' from ⟨by rw [hp.1, h0], hp.2⟩))
    generalize (setF (provsL rs)).1 = fa at *
    have HM := Lib.hid hM
    have HEL := Lib.hid hel
    have HCS := Lib.hid hcs
    have HKS := Lib.hid hks
    clear hM hel hcs hks h0 hall
    go_enter Tryd.func34, Tryd.ntmps34
    go_wp2_with (first | (go_at_call 46; refine (HCS.out _ (hx.below ((Below.refl _ _).alloc (Nat.le_refl _) _)) (hkeys.below ((Below.refl _ _).alloc (Nat.le_refl _) _))).mono ?_; rintro e w0 ⟨rfl, hb0⟩; have hk0 := HKS.out.below hb0; have hx0 := hx.below hk0.bel) | (go_at_call 47; refine (places_c rs V c _ (hx0.below ((Below.refl _ _).alloc (Nat.le_refl _) _)) hlen).mono ?_; rintro e w1 ⟨mb, mn, F, rfl, htab, hmb, hF1, hF2, hb1⟩; have hk1 := (hk0.below ((Below.refl _ _).alloc (Nat.le_refl _) _)).below hb1; have HF1 := Lib.hid hF1; clear hF1 hF2))
    have hx1 := hx.below hk1.bel
    have hw1 := hk1.lt
    clear hx hx0 hk0
    go_loopw [6, 23] (fun v i wr => ∃ (k : Nat) (out : List ByteArray), k ≤ rs.length ∧ i = .int .i64 k ∧ wr.ownsRow w1.heap.size 9 1 v (out.map Value.string).length (out.map Value.string) ∧ Hid (missFrom (namesL rs) ((provsL rs).drop k) out = missL (provsL rs)) ∧ out.length ≤ 256 * k ∧ Below w1.heap.size w1 wr) (fun _ i _ => rs.length - (intOf i).toNat)
    case atStart => exact ⟨0, [], by omega, rfl, World.ownsRow_nil _ _ _ _, by show missFrom _ _ _ = missL _; unfold missL; rw [provsL_names]; rfl, by simp, Below.refl _ _⟩
    case round =>
      obtain ⟨k, out, hk, rfl, hown, hmf, hlo, hbel⟩ := hrel
      by_cases hlt : k < rs.length
      · rcases (hx1.below hbel).lies with h | ⟨b, off, rfl, hb, hc⟩
        · rw [h] at hlt; simp at hlt
        have hkr := hk1.below hbel
        have hxr := hx1.below hbel
        obtain ⟨g0, g1, g2, g3, g4, g5, g6, g7, g8⟩ := hc k hlt
        have hpk := hxr.each rs[k] (List.getElem_mem hlt)
        have hst := missFrom_drop (namesL rs) (provsL rs) k (by rw [provsL_length]; exact hlt) out
        rw [provsL_get rs k hlt] at hst
        have htl := texts_length (kind := 3) rs[k].p.expr []
        have hek := HEL.out k hlt
        have hbs := hbel.size
        have HST := Lib.hid hst
        have hops := hpk.ops
        have HTX := Lib.hid hpk.text
        have hpl := hpk.len
        clear hc hst hpk
        have hal : ∀ o : Obj, Below wr.heap.size wr (wr.alloc o) := fun o => (Below.refl _ _).alloc (Nat.le_refl _) o
        have HAL := Lib.hid hal
        have hts : ∀ x ∈ textsF rs[k].p.expr 3, x.size ≤ 140737488355328 := fun x h => by
          rcases textsFrom_mem h with h | ⟨o, ho, rfl⟩
          · simp at h
          · exact HTX.out o ho
        have HTS := Lib.hid hts
        clear hal hts
        go_wp2_with (go_at_call 48; refine (texts_c rs[k].p.expr 3 rs[k].A rs[k].c _ (hops.below (HAL.out _)) hpl).mono ?_; rintro e w2 ⟨v2, rfl, hownl, hb2'⟩; have hb2 : Below wr.heap.size wr w2 := (HAL.out _).trans (hb2'.mono (HAL.out _).size); obtain ⟨L, cl, rfl, hls, hq⟩ := own_strs hownl; clear hq; have hLf := (own_fresh hownl).more (HAL.out _).size (Nat.le_refl _); clear hb2')
        have hTl : (textsF rs[k].p.expr 3).length ≤ 256 := by have := htl; simp at this; unfold textsF; omega
        have hLne : ∀ g o, L = some ⟨g, o, none⟩ → Value.ownBlock _ ≠ some g := fun g o h e => by have a1 := (hLf g o h).1; have a2 := (hown.lt g e).2; omega
        have hown2 := own_below hown hb2
        have hbel2 : Below w1.heap.size w1 w2 := hbel.trans (hb2.mono hbs)
        generalize textsF rs[k].p.expr 3 = T at *
        clear htl hLf hown hownl hkr hxr hops hpl HTX HAL g0 g1 g2 g3 g4 g5 g6 g7 g8
        obtain ⟨wo, hwo⟩ : ∃ wo : World, wo = wr := ⟨_, rfl⟩
        subst hwo
        go_loopw [6, 31] (fun v i wr => ∃ (j : Nat) (out' : List ByteArray), j ≤ T.length ∧ i = .int .i64 j ∧ wr.ownsRow w1.heap.size 9 1 v (out'.map Value.string).length (out'.map Value.string) ∧ Hid (missStep (namesL rs) (T.drop j) out' = missStep (namesL rs) T out) ∧ out'.length ≤ out.length + j ∧ Below w1.heap.size w1 wr ∧ StrsAt wr L T ∧ (∀ g o, L = some ⟨g, o, none⟩ → v.ownBlock ≠ some g)) (fun _ i _ => T.length - (intOf i).toNat)
        case atStart => exact ⟨0, out, by omega, rfl, hown2, rfl, by omega, hbel2, hls, hLne⟩
        case round =>
          obtain ⟨j, out', hj, rfl, hown4, hms, hlo4, hbel4, hls4, hne4⟩ := hrel
          by_cases hlj : j < T.length
          · rcases hls4 with h | ⟨bl, ol, rfl, hbl, hcl⟩
            · rw [h] at hlj; simp at hlj
            have hclj := hcl j hlj
            have hls4 : StrsAt wr (some ⟨bl, ol, none⟩) T := .inr ⟨bl, ol, rfl, hbl, hcl⟩
            obtain ⟨A1, c1, hA1, hs6, hl1⟩ := own_strs hown4
            subst hA1
            have hst2 := missStep_drop (namesL rs) T j hlj out'
            have hb4s := hbel4.size
            have hkl := kl_of T[j] (HTS.out _ (List.getElem_mem hlj))
            obtain ⟨D, hD, hDs⟩ := htab.below hbel4
            have hhas := (hDs T[j]).1
            rw [HF1.out] at hhas
            have HS2 := Lib.hid hst2
            have HKL := Lib.hid hkl
            clear hl1 hcl hst2 hkl hDs
            have hi0 : (0 : Int) ≤ (j : Int) := Int.natCast_nonneg _
            have hi1 : (j : Int) < (T.length : Int) := by omega
            cases hM : memB T[j] (namesL rs)
            · rw [hM] at hhas
              have HH := Lib.hid hhas
              cases hM2 : memB T[j] out'
              · have HM2 := Lib.hid hM2
                have HM1 := Lib.hid hM
                clear hM hM2 hhas
                go_wp2_with (first | (at_lookup; refine wpList_lookup_own_ok_int _ (by rfl) _ _ 61 (by rfl) 9 3 .i64 keyed Tryd.underlying61 Tryd.underlying3 (zeroI _) mb mn D (by rfl) hD (.string T[j]) (kl T[j]) (by rfl) HKL.out ?_; intro cc hat _; clear hat; rw [HH.out]) | (go_at_call 49; refine (contains_str out' T[j] A1 c1 _ hs6 (by omega)).mono ?_; rintro e w' ⟨rfl, rfl⟩; rw [HM2.out]) | (at_builtin; refine app_two (w0 := w1) w1.heap.size (by rfl) _ _ 38 9 (.string ⟨#[]⟩) 16 (by rfl) Tryd.underlying38 info_str rfl (.slice A1 out'.length c1) (out'.map Value.string) (.string T[j]) (by rfl) _ (by rfl) rfl rfl hown4 hbel4 hb4s (by simp; omega) (by simp; omega) ?_; intro v5 w5 hown5 hbel5 hg5 _ hne5))
                go_roundw
                case rel => exact ⟨j + 1, out' ++ [T[j]], by omega, by go_num, by simpa using hown5, by rw [← hms.out, HS2.out, if_pos ⟨HM1.out, HM2.out⟩]; rfl, by simp; omega, hbel5, hls4.grown hg5 (fun g o h => hne4 g o h), fun g o h => hne5 g (by cases h; exact hbl) (hne4 g o h)⟩
                case measure => simp [intOf]; omega
              · have HM2 := Lib.hid hM2
                clear hM hM2 hhas
                go_wp2_with (first | (at_lookup; refine wpList_lookup_own_ok_int _ (by rfl) _ _ 61 (by rfl) 9 3 .i64 keyed Tryd.underlying61 Tryd.underlying3 (zeroI _) mb mn D (by rfl) hD (.string T[j]) (kl T[j]) (by rfl) HKL.out ?_; intro cc hat _; clear hat; rw [HH.out]) | (go_at_call 49; refine (contains_str out' T[j] A1 c1 _ hs6 (by omega)).mono ?_; rintro e w' ⟨rfl, rfl⟩; rw [HM2.out]))
                go_roundw
                case rel => exact ⟨j + 1, out', by omega, by go_num, hown4, by rw [← hms.out, HS2.out, if_neg (fun h => by rw [HM2.out] at h; exact absurd h.2 (by simp))]; rfl, by omega, hbel4, hls4, hne4⟩
                case measure => simp [intOf]; omega
            · rw [hM] at hhas
              have HH := Lib.hid hhas
              have HM := Lib.hid hM
              clear hM hhas
              go_wp2_with (at_lookup; refine wpList_lookup_own_ok_int _ (by rfl) _ _ 61 (by rfl) 9 3 .i64 keyed Tryd.underlying61 Tryd.underlying3 (zeroI _) mb mn D (by rfl) hD (.string T[j]) (kl T[j]) (by rfl) HKL.out ?_; intro cc hat _; clear hat; rw [HH.out])
              go_roundw
              case rel => exact ⟨j + 1, out', by omega, by go_num, hown4, by rw [← hms.out, HS2.out, if_neg (fun h => by rw [HM.out] at h; exact absurd h.1 (by simp))]; rfl, by omega, hbel4, hls4, hne4⟩
              case measure => simp [intOf]; omega
          · have hms2 : out' = missStep (namesL rs) T out := by rw [← hms.out, missS_end _ _ _ (by omega)]
            have HMS := Lib.hid hms2
            clear hms2
            go_wp2
            go_roundw
            case rel => exact ⟨k + 1, out', by omega, by go_num, hown4, by show missFrom _ _ out' = _; rw [HMS.out, ← hmf.out, HST.out], by omega, hbel4⟩
            case measure => simp [intOf]; omega
      · have hz : out = missL (provsL rs) := by rw [← hmf.out, missF_end _ _ _ (by rw [provsL_length]; omega)]
        have hkr := hk1.below hbel
        have HK := Lib.hid hkr
        have HZ := Lib.hid hz
        obtain ⟨_, _, q0, q1, z0, z1⟩ := hkr
        clear hz
        go_wp2
        obtain ⟨c0, c1⟩ := two_set (x := .int .i64 0) (y := .int .i64 0) q0 q1
        refine bodyPost_ret (v := .tuple #[_, .agg #[.int .i64 0, .int .i64 0]]) (by simp [results, Tryd.results34, go_sem, c0, c1]; try rfl) rfl ?_
        exact fault_row (HK.out.set2 _ _) (Nat.le_of_lt hw1) (own_low (own_low hown ⟨w.heap.size, 0, none⟩ _ hw1) ⟨w.heap.size, 1, none⟩ _ hw1) (by rw [HM.out, HZ.out])
  · have hM := miss_no h0
    have b0 : ((setF (provsL rs)).2 != 0) = true := by simpa using h0
    have HM := Lib.hid hM
    have HKS := Lib.hid hks
    clear hM hks h0
    go_enter Tryd.func34, Tryd.ntmps34
    go_wp2_with (go_at_call 46; refine (checkSet_c rs V c _ (hx.below ((Below.refl _ _).alloc (Nat.le_refl _) _)) hl (hkeys.below ((Below.refl _ _).alloc (Nat.le_refl _) _))).mono ?_; rintro e w1 ⟨rfl, hb1⟩; have hk1 := HKS.out.below hb1)
    have q0 := fun o : Obj => (hk1.below ((Below.refl _ _).alloc (Nat.le_refl _) o)).q0
    have q1 := fun o : Obj => (hk1.below ((Below.refl _ _).alloc (Nat.le_refl _) o)).q1
    have z0 := fun o : Obj => (hk1.below ((Below.refl _ _).alloc (Nat.le_refl _) o)).z0
    have z1 := fun o : Obj => (hk1.below ((Below.refl _ _).alloc (Nat.le_refl _) o)).z1
    have c0 := fun (o : Obj) (x y : Value) => (two_set (x := x) (y := y) (q0 o) (q1 o)).1
    have c1 := fun (o : Obj) (x y : Value) => (two_set (x := x) (y := y) (q0 o) (q1 o)).2
    go_region
    go_wp2
    refine bodyPost_ret (v := .tuple #[.slice none 0 0, .agg #[.int .i64 (setF (provsL rs)).1, .int .i64 (setF (provsL rs)).2]]) (by simp [results, Tryd.results34, go_sem, c0, c1]; try rfl) rfl ?_
    exact fault_nil (Below.drew ((hk1.below ((Below.refl _ _).alloc (Nat.le_refl _) _)).set2 _ _)) HM.out rfl rfl
end Go.Proofs.YtofmdmmgbfbaoaaDoor
