/- The reference's side of sets, cut out of A41 .. A45. -/
import Derived.Test.YtofmdmmgbfbaoaaDoorB2
namespace Go.Proofs.YtofmdmmgbfbaoaaDoor
open Go.RowKit

set_option maxHeartbeats 2000000 in
theorem number_c (rs : List PRow) (s : ByteArray) (V : Option Addr) (c : Nat) (w : World) (hx : ProvsAt w V rs) (hl : rs.length ≤ 140737488355328) :
    Calls Tryd.prog 77 #[.slice V rs.length c, .string s] w fun e w' => e = .returned (.int .i64 (idxFrom (namesL rs) s 0)) ∧ w = w' := by
  go_enter Tryd.func77, Tryd.ntmps77
  go_wp2
  go_loop [5] (fun v => ∃ k : Nat, k ≤ rs.length ∧ v = .int .i64 k ∧ Hid (idxFrom (namesL rs) s k = idxFrom (namesL rs) s 0)) (fun v => rs.length - (intOf v).toNat)
  case atStart => exact ⟨0, by omega, rfl, rfl⟩
  case round =>
    obtain ⟨k, hk, rfl, hr⟩ := hrel
    by_cases hlt : k < rs.length
    · rcases hx.lies with h | ⟨b, off, rfl, _, hc⟩
      · rw [h] at hlt; simp at hlt
      obtain ⟨g0, _⟩ := hc k hlt
      clear hc
      have hst := idx_step (namesL rs) s k (by rw [namesL_length]; exact hlt)
      rw [namesL_get rs k hlt] at hst
      have HST := Lib.hid hst
      clear hst
      by_cases he : rs[k].p.name = s
      · have h2 : (rs[k].p.name.toList == s.toList) = true := by rw [bytes_beq]; simpa using he
        have HE := Lib.hid he
        clear he
        go_wp2
        go_ret
        refine ⟨ret_int ?_, rfl⟩
        rw [← hr.out, HST.out, if_pos HE.out.symm]
      · have h2 : (rs[k].p.name.toList == s.toList) = false := by rw [bytes_beq]; simpa using he
        have HE := Lib.hid he
        clear he
        go_wp2
        go_round
        case rel => exact ⟨k + 1, by omega, by go_num, by rw [← hr.out, HST.out, if_neg (fun e => HE.out e.symm)]; rfl⟩
        case measure => simp [intOf]; omega
    · go_wp2
      go_ret
      refine ⟨ret_int ?_, rfl⟩
      rw [← hr.out, idx_end _ _ _ (by rw [namesL_length]; omega)]
set_option maxHeartbeats 4000000 in
set_option maxRecDepth 100000 in
theorem checkSetR_c (rs : List PRow) (V : Option Addr) (c : Nat) (w : World) (hx : ProvsAt w V rs) (hl : rs.length * 104 ≤ 140737488355328) (hcap : rs.length ≤ c) :
    Calls Tryd.prog 75 #[.slice V rs.length c] w (FaultPost (setF (provsL rs)) w) := by
  by_cases hlong : 256 < rs.length
  · have hF := setF_long (ps := provsL rs) (by rw [provsL_length]; exact hlong)
    have hli : (256 : Int) < (rs.length : Int) := by omega
    have HF := Lib.hid hF
    have hks := Kept.start w 79
    clear hF
    go_enter Tryd.func75, Tryd.ntmps75
    go_wp2
    refine bodyPost_ret (v := .agg #[.int .i64 0, .int .i64 3]) (by simp [results, Tryd.results75, go_sem]; try rfl) rfl ?_
    exact fault_one ((Below.refl _ _).alloc (Nat.le_refl _) _) HF.out
  · have hli : (rs.length : Int) ≤ 256 := by omega
    have hks := Kept.start w 79
    have HKS := Lib.hid hks
    clear hks
    go_enter Tryd.func75, Tryd.ntmps75
    go_wp2
    go_loopw [3] (fun i wr => ∃ k : Nat, k ≤ rs.length ∧ i = .int .i64 k ∧ Hid (badAt ((provsL rs).drop k) k = badAt (provsL rs) 0) ∧ Kept w wr) (fun i _ => rs.length - (intOf i).toNat)
    case atStart => exact ⟨0, by omega, rfl, rfl, HKS.out⟩
    case round =>
      obtain ⟨k, hk, rfl, hbad, hkp⟩ := hrel
      by_cases hlt : k < rs.length
      · rcases (hx.below hkp.bel).lies with h | ⟨b, off, rfl, hb, hc⟩
        · rw [h] at hlt; simp at hlt
        obtain ⟨g0, g1, g2, g3, g4, g5, g6, g7, g8⟩ := hc k hlt
        have hpk := (hx.below hkp.bel).each rs[k] (List.getElem_mem hlt)
        have hst := badAt_drop (provsL rs) k (by rw [provsL_length]; exact hlt)
        rw [provsL_get rs k hlt] at hst
        have HST := Lib.hid hst
        have HPK := Lib.hid hpk
        clear hc hst hpk
        by_cases h0 : provF rs[k].p = 0
        · have b0 : (provF rs[k].p != 0) = false := by simpa using h0
          have H0 := Lib.hid h0
          clear h0
          go_wp2_with (go_at_call 38; refine (checkProvR_c rs[k].p rs[k].A rs[k].c _ HPK.out).mono ?_; rintro e w1 ⟨rfl, hb1⟩)
          go_roundw
          case rel => exact ⟨k + 1, by omega, by go_num, by rw [← hbad.out, HST.out, if_neg (by simpa using H0.out)]; rfl, hkp.below hb1⟩
          case measure => simp [intOf]; omega
        · have b0 : (provF rs[k].p != 0) = true := by simpa using h0
          have hF := setF_bad (i := k) (c := provF rs[k].p) (by rw [provsL_length]; exact hlong) (by rw [← hbad.out, HST.out, if_pos h0])
          have HF := Lib.hid hF
          clear h0 hF
          go_wp2_with (go_at_call 38; refine (checkProvR_c rs[k].p rs[k].A rs[k].c _ HPK.out).mono ?_; rintro e w1 ⟨rfl, hb1⟩; have hk1 := hkp.below hb1; obtain ⟨_, _, q0, q1, z0, z1⟩ := hk1)
          obtain ⟨c0, c1⟩ := two_set (x := .int .i64 (k : Int)) (y := .int .i64 (provF rs[k].p)) q0 q1
          refine bodyPost_ret (v := .agg #[.int .i64 (k : Int), .int .i64 (provF rs[k].p)]) (by simp [results, Tryd.results75, go_sem, c0, c1]; try rfl) rfl ?_
          exact fault_one ((hkp.below hb1).set2 _ _) HF.out
      · have hend : badAt (provsL rs) 0 = none := by rw [← hbad.out, List.drop_of_length_le (by rw [provsL_length]; omega)]; rfl
        have HEND := Lib.hid hend
        clear hend hbad
        go_wp2
        go_loopw [5] (fun i wr => ∃ k : Nat, k ≤ rs.length ∧ i = .int .i64 k ∧ Hid (twiceAt ((namesL rs).drop k) ((namesL rs).take k) k = twiceAt (namesL rs) [] 0) ∧ Kept w wr) (fun i _ => rs.length - (intOf i).toNat)
        case atStart => exact ⟨0, by omega, rfl, rfl, hkp⟩
        case round =>
          obtain ⟨k, hk, rfl, htw, hkp⟩ := hrel
          by_cases hlt : k < rs.length
          · rcases (hx.below hkp.bel).lies with h | ⟨b, off, rfl, hb, hc⟩
            · rw [h] at hlt; simp at hlt
            obtain ⟨g0, _⟩ := hc k hlt
            have hpt := (hx.below hkp.bel).take k
            have hst := twiceAt_drop (namesL rs) k (by rw [namesL_length]; exact hlt)
            rw [namesL_get rs k hlt] at hst
            have hnt : namesL (rs.take k) = (namesL rs).take k := by unfold namesL; rw [List.map_take]
            have hltk : (rs.take k).length = k := by rw [List.length_take]; omega
            have hnc := fun (n : Nat) => number_c (rs.take k) rs[k].p.name (some ⟨b, off, none⟩) c (wr.drewN n) (hpt.drewN n) (by omega)
            rw [hnt, hltk] at hnc
            have hdm := idx_mem ((namesL rs).take k) rs[k].p.name
            have HST := Lib.hid hst
            have HNC := Lib.hid hnc
            have HDM := Lib.hid hdm
            clear hc hst hnc hdm hnt hltk hpt
            have hc1 : (k : Int) ≤ (c : Int) := by omega
            have hc2 : k ≤ c := by omega
            have hi0 : (0 : Int) ≤ (k : Int) := Int.natCast_nonneg _
            have hi1 : (k : Int) < (rs.length : Int) := by omega
            cases hM : memB rs[k].p.name ((namesL rs).take k)
            · have hge : ¬ (0 ≤ idxFrom ((namesL rs).take k) rs[k].p.name 0) := by
                have := HDM.out
                rw [hM] at this
                exact of_decide_eq_false this
              have HM := Lib.hid hM
              generalize idxFrom ((namesL rs).take k) rs[k].p.name 0 = ix at *
              have hge' : ix < 0 := by omega
              clear hM hge
              go_wp2_with fail
              go_quiet ((first | (go_at_call 77; exact Calls.quiet_of_same ((HNC.out _).mono (fun e w' h => ⟨h.1, h.2.symm⟩)))))
              go_wp2
              go_roundw
              case rel => exact ⟨k + 1, by omega, by go_num, by rw [← htw.out, HST.out, HM.out]; rfl, hkp.drewN _⟩
              case measure => simp [intOf]; omega
            · have hge : 0 ≤ idxFrom ((namesL rs).take k) rs[k].p.name 0 := by
                have := HDM.out
                rw [hM] at this
                exact of_decide_eq_true this
              have hF := setF_twice (i := k) (by rw [provsL_length]; exact hlong) HEND.out (by rw [provsL_names, ← htw.out, HST.out, if_pos hM])
              have HF := Lib.hid hF
              generalize idxFrom ((namesL rs).take k) rs[k].p.name 0 = ix at *
              have HKP := Lib.hid hkp
              obtain ⟨_, _, q0, q1, z0, z1⟩ := hkp
              clear hM hF
              go_wp2_with fail
              go_quiet ((first | (go_at_call 77; exact Calls.quiet_of_same ((HNC.out _).mono (fun e w' h => ⟨h.1, h.2.symm⟩)))))
              go_wp2
              obtain ⟨c0, c1⟩ := two_set (w := wr.drewN nq) (x := .int .i64 (k : Int)) (y := .int .i64 6) q0 q1
              refine bodyPost_ret (v := .agg #[.int .i64 (k : Int), .int .i64 6]) (by simp [results, Tryd.results75, go_sem, c0, c1]; try rfl) rfl ?_
              exact fault_one ((HKP.out.drewN nq).set2 _ _) HF.out
          · have hend : twiceAt (namesL rs) [] 0 = none := by rw [← htw.out, List.drop_of_length_le (by rw [namesL_length]; omega)]; rfl
            have hF := setF_good (by rw [provsL_length]; exact hlong) HEND.out (by rw [provsL_names]; exact hend)
            have HF := Lib.hid hF
            obtain ⟨_, _, q0, q1, z0, z1⟩ := hkp
            clear hF hend
            go_wp2
            obtain ⟨c0, c1⟩ := two_set (x := .int .i64 0) (y := .int .i64 0) q0 q1
            refine bodyPost_ret (v := .agg #[.int .i64 0, .int .i64 0]) (by simp [results, Tryd.results75, go_sem, c0, c1]; try rfl) rfl ?_
            exact fault_one (Kept.set2 ⟨‹_›, ‹_›, q0, q1, z0, z1⟩ _ _) HF.out
set_option maxHeartbeats 4000000 in
set_option maxRecDepth 100000 in
theorem missR_c (rs : List PRow) (V : Option Addr) (c : Nat) (w : World) (hx : ProvsAt w V rs) (hl : rs.length * 104 ≤ 140737488355328) (hcap : rs.length ≤ c) :
    Calls Tryd.prog 61 #[.slice V rs.length c] w (TextsFault (missAns (provsL rs)) w) := by
  have hks := Kept.start w 79
  by_cases h0 : (setF (provsL rs)).2 = 0
  · have hM := miss_yes h0
    obtain ⟨hlen, hall, _⟩ := set_zero h0
    rw [provsL_length] at hlen
    have hel : ∀ k (h : k < rs.length), rs[k].p.expr.length ≤ 256 := fun k h => prov_len (hall _ (List.mem_map.2 ⟨rs[k], List.getElem_mem h, rfl⟩))
    have hcs := fun (W : World) h1 => (checkSetR_c rs V c W h1 hl hcap).mono (fun e w' (hp : FaultPost _ W e w') => (show e = .returned (.agg #[.int .i64 (setF (provsL rs)).1, .int .i64 0]) ∧ Below W.heap.size W w' from ⟨by rw [hp.1, h0], hp.2⟩))
    generalize (setF (provsL rs)).1 = fa at *
    have HM := Lib.hid hM
    have HEL := Lib.hid hel
    have HCS := Lib.hid hcs
    have HKS := Lib.hid hks
    clear hM hel hcs hks h0 hall
    go_enter Tryd.func61, Tryd.ntmps61
    go_wp2_with (go_at_call 75; refine (HCS.out _ (hx.below ((Below.refl _ _).alloc (Nat.le_refl _) _))).mono ?_; rintro e w1 ⟨rfl, hb1⟩; have hk1 := HKS.out.below hb1)
    have hx1 := hx.below hk1.bel
    have hw1 := hk1.lt
    clear hx
    go_loopw [5, 6] (fun v i wr => ∃ (k : Nat) (out : List ByteArray), k ≤ rs.length ∧ i = .int .i64 k ∧ wr.ownsRow w1.heap.size 9 1 v (out.map Value.string).length (out.map Value.string) ∧ Hid (missFrom (namesL rs) ((provsL rs).drop k) out = missL (provsL rs)) ∧ out.length ≤ 256 * k ∧ Below w1.heap.size w1 wr) (fun _ i _ => rs.length - (intOf i).toNat)
    case atStart => exact ⟨0, [], by omega, rfl, (by have h := World.ownsRow_made (base := w1.heap.size) (e := 9) (size := 1) (w1.alloc (.cells #[.int .i64 fa, .int .i64 0] 79)) #[] 0 (by simp) (by simp [maxLen]) (by simp); rw [al_size] at h; exact h), by show missFrom _ _ _ = missL _; unfold missL; rw [provsL_names]; rfl, by simp, ((Below.refl _ _).alloc (Nat.le_refl _) _).alloc (by simp) _⟩
    case round =>
      obtain ⟨k, out, hk, rfl, hown, hmf, hlo, hbel⟩ := hrel
      by_cases hlt : k < rs.length
      · rcases (hx1.below hbel).lies with h | ⟨b, off, rfl, hb, hc⟩
        · rw [h] at hlt; simp at hlt
        have hkr := hk1.below hbel
        have hxr := hx1.below hbel
        obtain ⟨g0, g1, g2, g3, g4, g5, g6, g7, g8⟩ := hc k hlt
        have hpk := hxr.each rs[k] (List.getElem_mem hlt)
        have hst := missFrom_drop (namesL rs) (provsL rs) k (by rw [provsL_length]; exact hlt) out
        rw [provsL_get rs k hlt] at hst
        have htl := texts_length (kind := 3) rs[k].p.expr []
        have hek := HEL.out k hlt
        have hbs := hbel.size
        have HST := Lib.hid hst
        have hops := hpk.ops
        have hpl := hpk.len
        clear hc hst hpk
        go_wp2_with (go_at_call 76; refine (textsR_c rs[k].p.expr 3 rs[k].A rs[k].c _ hops hpl).mono ?_; rintro e w2 ⟨v2, rfl, hownl, hb2⟩; obtain ⟨L, cl, rfl, hls, hq⟩ := own_strs hownl; clear hq; have hLf := own_fresh hownl)
        have hTl : (textsF rs[k].p.expr 3).length ≤ 256 := by have := htl; simp at this; unfold textsF; omega
        have hLne : ∀ g o, L = some ⟨g, o, none⟩ → Value.ownBlock _ ≠ some g := fun g o h e => by have a1 := (hLf g o h).1; have a2 := (hown.lt g e).2; omega
        have hown2 := own_below hown hb2
        have hbel2 : Below w1.heap.size w1 w2 := hbel.trans (hb2.mono hbs)
        generalize textsF rs[k].p.expr 3 = T at *
        clear htl hLf hown hownl hkr hxr hops hpl g0 g1 g2 g3 g4 g5 g6 g7 g8
        obtain ⟨wo, hwo⟩ : ∃ wo : World, wo = wr := ⟨_, rfl⟩
        subst hwo
        go_loopw [5, 8] (fun v i wr => ∃ (j : Nat) (out' : List ByteArray), j ≤ T.length ∧ i = .int .i64 j ∧ wr.ownsRow w1.heap.size 9 1 v (out'.map Value.string).length (out'.map Value.string) ∧ Hid (missStep (namesL rs) (T.drop j) out' = missStep (namesL rs) T out) ∧ out'.length ≤ out.length + j ∧ Below w1.heap.size w1 wr ∧ StrsAt wr L T ∧ (∀ g o, L = some ⟨g, o, none⟩ → v.ownBlock ≠ some g)) (fun _ i _ => T.length - (intOf i).toNat)
        case atStart => exact ⟨0, out, by omega, rfl, hown2, rfl, by omega, hbel2, hls, hLne⟩
        case round =>
          obtain ⟨j, out', hj, rfl, hown4, hms, hlo4, hbel4, hls4, hne4⟩ := hrel
          by_cases hlj : j < T.length
          · rcases hls4 with h | ⟨bl, ol, rfl, hbl, hcl⟩
            · rw [h] at hlj; simp at hlj
            have hclj := hcl j hlj
            have hls4 : StrsAt wr (some ⟨bl, ol, none⟩) T := .inr ⟨bl, ol, rfl, hbl, hcl⟩
            obtain ⟨A1, c1, hA1, hs6, hl1⟩ := own_strs hown4
            subst hA1
            have hnc := number_c rs T[j] (some ⟨b, off, none⟩) c wr (hx1.below hbel4) (by omega)
            have hdm := idx_mem (namesL rs) T[j]
            have hst2 := missStep_drop (namesL rs) T j hlj out'
            have hb4s := hbel4.size
            have HNC := Lib.hid hnc
            have HS2 := Lib.hid hst2
            clear hl1 hcl hnc hst2
            have hi0 : (0 : Int) ≤ (j : Int) := Int.natCast_nonneg _
            have hi1 : (j : Int) < (T.length : Int) := by omega
            cases hM : memB T[j] (namesL rs)
            · have hge : idxFrom (namesL rs) T[j] 0 < 0 := by
                rw [hM] at hdm
                have := of_decide_eq_false hdm
                omega
              generalize idxFrom (namesL rs) T[j] 0 = ix at *
              cases hM2 : memB T[j] out'
              · have HM2 := Lib.hid hM2
                have HM1 := Lib.hid hM
                clear hM hM2 hdm
                go_wp2_with (first | (go_at_call 77; refine (HNC.out).mono ?_; rintro e w' ⟨rfl, rfl⟩) | (go_at_call 63; refine (in_c out' T[j] A1 c1 _ hs6 (by omega)).mono ?_; rintro e w' ⟨rfl, rfl⟩; rw [HM2.out]) | (at_builtin; refine app_two (w0 := w1) w1.heap.size (by rfl) _ _ 38 9 (.string ⟨#[]⟩) 16 (by rfl) Tryd.underlying38 info_str rfl (.slice A1 out'.length c1) (out'.map Value.string) (.string T[j]) (by rfl) _ (by rfl) rfl rfl hown4 hbel4 hb4s (by simp; omega) (by simp; omega) ?_; intro v5 w5 hown5 hbel5 hg5 _ hne5))
                go_roundw
                case rel => exact ⟨j + 1, out' ++ [T[j]], by omega, by go_num, by simpa using hown5, by rw [← hms.out, HS2.out, if_pos ⟨HM1.out, HM2.out⟩]; rfl, by simp; omega, hbel5, hls4.grown hg5 (fun g o h => hne4 g o h), fun g o h => hne5 g (by cases h; exact hbl) (hne4 g o h)⟩
                case measure => simp [intOf]; omega
              · have HM2 := Lib.hid hM2
                clear hM hM2 hdm
                go_wp2_with (first | (go_at_call 77; refine (HNC.out).mono ?_; rintro e w' ⟨rfl, rfl⟩) | (go_at_call 63; refine (in_c out' T[j] A1 c1 _ hs6 (by omega)).mono ?_; rintro e w' ⟨rfl, rfl⟩; rw [HM2.out]))
                go_roundw
                case rel => exact ⟨j + 1, out', by omega, by go_num, hown4, by rw [← hms.out, HS2.out, if_neg (fun h => by rw [HM2.out] at h; exact absurd h.2 (by simp))]; rfl, by omega, hbel4, hls4, hne4⟩
                case measure => simp [intOf]; omega
            · have hge : 0 ≤ idxFrom (namesL rs) T[j] 0 := by
                rw [hM] at hdm
                exact of_decide_eq_true hdm
              have HM := Lib.hid hM
              generalize idxFrom (namesL rs) T[j] 0 = ix at *
              clear hM hdm
              go_wp2_with (go_at_call 77; refine (HNC.out).mono ?_; rintro e w' ⟨rfl, rfl⟩)
              go_roundw
              case rel => exact ⟨j + 1, out', by omega, by go_num, hown4, by rw [← hms.out, HS2.out, if_neg (fun h => by rw [HM.out] at h; exact absurd h.1 (by simp))]; rfl, by omega, hbel4, hls4, hne4⟩
              case measure => simp [intOf]; omega
          · have hms2 : out' = missStep (namesL rs) T out := by rw [← hms.out, missS_end _ _ _ (by omega)]
            have HMS := Lib.hid hms2
            clear hms2
            go_wp2
            go_roundw
            case rel => exact ⟨k + 1, out', by omega, by go_num, hown4, by show missFrom _ _ out' = _; rw [HMS.out, ← hmf.out, HST.out], by omega, hbel4⟩
            case measure => simp [intOf]; omega
      · have hz : out = missL (provsL rs) := by rw [← hmf.out, missF_end _ _ _ (by rw [provsL_length]; omega)]
        have hkr := hk1.below hbel
        have HK := Lib.hid hkr
        have HZ := Lib.hid hz
        obtain ⟨_, _, q0, q1, z0, z1⟩ := hkr
        clear hz
        go_wp2
        obtain ⟨c0, c1⟩ := two_set (x := .int .i64 0) (y := .int .i64 0) q0 q1
        refine bodyPost_ret (v := .tuple #[_, .agg #[.int .i64 0, .int .i64 0]]) (by simp [results, Tryd.results61, go_sem, c0, c1]; try rfl) rfl ?_
        exact fault_row (HK.out.set2 _ _) (Nat.le_of_lt hw1) (own_low (own_low hown ⟨w.heap.size, 0, none⟩ _ hw1) ⟨w.heap.size, 1, none⟩ _ hw1) (by rw [HM.out, HZ.out])
  · have hM := miss_no h0
    have b0 : ((setF (provsL rs)).2 != 0) = true := by simpa using h0
    have HM := Lib.hid hM
    have HKS := Lib.hid hks
    clear hM hks h0
    go_enter Tryd.func61, Tryd.ntmps61
    go_wp2_with (go_at_call 75; refine (checkSetR_c rs V c _ (hx.below ((Below.refl _ _).alloc (Nat.le_refl _) _)) hl hcap).mono ?_; rintro e w1 ⟨rfl, hb1⟩; have hk1 := HKS.out.below hb1)
    have q0 := fun o : Obj => (hk1.below ((Below.refl _ _).alloc (Nat.le_refl _) o)).q0
    have q1 := fun o : Obj => (hk1.below ((Below.refl _ _).alloc (Nat.le_refl _) o)).q1
    have z0 := fun o : Obj => (hk1.below ((Below.refl _ _).alloc (Nat.le_refl _) o)).z0
    have z1 := fun o : Obj => (hk1.below ((Below.refl _ _).alloc (Nat.le_refl _) o)).z1
    have c0 := fun (o : Obj) (x y : Value) => (two_set (x := x) (y := y) (q0 o) (q1 o)).1
    have c1 := fun (o : Obj) (x y : Value) => (two_set (x := x) (y := y) (q0 o) (q1 o)).2
    go_region
    go_wp2
    refine bodyPost_ret (v := .tuple #[.slice none 0 0, .agg #[.int .i64 (setF (provsL rs)).1, .int .i64 (setF (provsL rs)).2]]) (by simp [results, Tryd.results61, go_sem, c0, c1]; try rfl) rfl ?_
    exact fault_nil (Below.drew ((hk1.below ((Below.refl _ _).alloc (Nat.le_refl _) _)).set2 _ _)) HM.out rfl rfl
end Go.Proofs.YtofmdmmgbfbaoaaDoor
