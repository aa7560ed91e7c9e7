/- What names a set lacks: names.Missing. -/
import Derived.Test.YtgopflklcfcocaaDoorA45
namespace Go.Proofs.YtgopflklcfcocaaDoor
open Go.RowKit Go.Maps Go.ChangeMaps Go.WideShapes

set_option maxHeartbeats 4000000 in
set_option maxRecDepth 100000 in
theorem missN_c (rs : List PRow) (V : Option Addr) (c : Nat) (w : World) (hx : ProvsAt w V rs) (hl : rs.length * 104 ≤ 140737488355328) (hkeys : KeysIn w) :
    Calls Tryd.prog 36 #[.slice V rs.length c] w (TextsFault (missAns (provsL rs)) w) := by
  have hks := Kept.start w 58
  by_cases h0 : (setF (provsL rs)).2 = 0
  · have hM := miss_yes h0
    obtain ⟨hlen, hall, _⟩ := set_zero h0
    rw [provsL_length] at hlen
    have hel : ∀ k (h : k < rs.length), rs[k].p.expr.length ≤ 256 := fun k h => prov_len (hall _ (List.mem_map.2 ⟨rs[k], List.getElem_mem h, rfl⟩))
    have hcs := fun (W : World) h1 h2 => (checkSet_c rs V c W h1 hl h2).mono (fun e w' (hp : FaultPost _ W e w') => (show e = .returned (.agg #[.int .i64 (setF (provsL rs)).1, .int .i64 0]) ∧ Below W.heap.size W w' from ⟨by rw [hp.1, h0], hp.2⟩))
    generalize (setF (provsL rs)).1 = fa at *
    have HM := Lib.hid hM
    have HEL := Lib.hid hel
    have HCS := Lib.hid hcs
    have HKS := Lib.hid hks
    clear hM hel hcs hks h0 hall
    go_enter Tryd.func36, Tryd.ntmps36
    go_wp2_with (first | (go_at_call 34; refine (HCS.out _ (hx.below ((Below.refl _ _).alloc (Nat.le_refl _) _)) (hkeys.below ((Below.refl _ _).alloc (Nat.le_refl _) _))).mono ?_; rintro e w0 ⟨rfl, hb0⟩; have hk0 := HKS.out.below hb0; have hx0 := hx.below hk0.bel) | (go_at_call 67; refine (places_c rs V c _ (hx0.below ((Below.refl _ _).alloc (Nat.le_refl _) _)) hlen).mono ?_; rintro e w1 ⟨mb, mn, F, rfl, htab, hmb, hF1, hF2, hb1⟩; have hk1 := (hk0.below ((Below.refl _ _).alloc (Nat.le_refl _) _)).below hb1; have HF1 := Lib.hid hF1; clear hF1 hF2))
    have hx1 := hx.below hk1.bel
    have hw1 := hk1.lt
    clear hx hx0 hk0
    go_loopw [6, 23] (fun v i wr => ∃ (k : Nat) (out : List ByteArray), k ≤ rs.length ∧ i = .int .i64 k ∧ wr.ownsRow w1.heap.size 9 1 v (out.map Value.string).length (out.map Value.string) ∧ Hid (missFrom (namesL rs) ((provsL rs).drop k) out = missL (provsL rs)) ∧ out.length ≤ 256 * k ∧ Below w1.heap.size w1 wr) (fun _ i _ => rs.length - (intOf i).toNat)
    case atStart => exact ⟨0, [], by omega, rfl, World.ownsRow_nil _ _ _ _, by show missFrom _ _ _ = missL _; unfold missL; rw [provsL_names]; rfl, by simp, Below.refl _ _⟩
    case round =>
      obtain ⟨k, out, hk, rfl, hown, hmf, hlo, hbel⟩ := hrel
      by_cases hlt : k < rs.length
      · rcases (hx1.below hbel).lies with h | ⟨b, off, rfl, hb, hc⟩
        · rw [h] at hlt; simp at hlt
        have hkr := hk1.below hbel
        have hxr := hx1.below hbel
        obtain ⟨g0, g1, g2, g3, g4, g5, g6, g7, g8⟩ := hc k hlt
        have hpk := hxr.each rs[k] (List.getElem_mem hlt)
        have hst := missFrom_drop (namesL rs) (provsL rs) k (by rw [provsL_length]; exact hlt) out
        rw [provsL_get rs k hlt] at hst
        have htl := texts_length (kind := 3) rs[k].p.expr []
        have hek := HEL.out k hlt
        have hbs := hbel.size
        have HST := Lib.hid hst
        have hops := hpk.ops
        have HTX := Lib.hid hpk.text
        have hpl := hpk.len
        clear hc hst hpk
        have hal : ∀ o : Obj, Below wr.heap.size wr (wr.alloc o) := fun o => (Below.refl _ _).alloc (Nat.le_refl _) o
        have HAL := Lib.hid hal
        have hts : ∀ x ∈ textsF rs[k].p.expr 3, x.size ≤ 140737488355328 := fun x h => by
          rcases textsFrom_mem h with h | ⟨o, ho, rfl⟩
          · simp at h
          · exact HTX.out o ho
        have HTS := Lib.hid hts
        clear hal hts
        go_wp2_with (go_at_call 62; refine (texts_c rs[k].p.expr 3 rs[k].A rs[k].c _ (hops.below (HAL.out _)) hpl).mono ?_; rintro e w2 ⟨v2, rfl, hownl, hb2'⟩; have hb2 : Below wr.heap.size wr w2 := (HAL.out _).trans (hb2'.mono (HAL.out _).size); obtain ⟨L, cl, rfl, hls, hq⟩ := own_strs hownl; clear hq; have hLf := (own_fresh hownl).more (HAL.out _).size (Nat.le_refl _); clear hb2')
        have hTl : (textsF rs[k].p.expr 3).length ≤ 256 := by have := htl; simp at this; unfold textsF; omega
        have hLne : ∀ g o, L = some ⟨g, o, none⟩ → Value.ownBlock _ ≠ some g := fun g o h e => by have a1 := (hLf g o h).1; have a2 := (hown.lt g e).2; omega
        have hown2 := own_below hown hb2
        have hbel2 : Below w1.heap.size w1 w2 := hbel.trans (hb2.mono hbs)
        generalize textsF rs[k].p.expr 3 = T at *
        clear htl hLf hown hownl hkr hxr hops hpl HTX HAL g0 g1 g2 g3 g4 g5 g6 g7 g8
        obtain ⟨wo, hwo⟩ : ∃ wo : World, wo = wr := ⟨_, rfl⟩
        subst hwo
        go_loopw [6, 31] (fun v i wr => ∃ (j : Nat) (out' : List ByteArray), j ≤ T.length ∧ i = .int .i64 j ∧ wr.ownsRow w1.heap.size 9 1 v (out'.map Value.string).length (out'.map Value.string) ∧ Hid (missStep (namesL rs) (T.drop j) out' = missStep (namesL rs) T out) ∧ out'.length ≤ out.length + j ∧ Below w1.heap.size w1 wr ∧ StrsAt wr L T ∧ (∀ g o, L = some ⟨g, o, none⟩ → v.ownBlock ≠ some g)) (fun _ i _ => T.length - (intOf i).toNat)
        case atStart => exact ⟨0, out, by omega, rfl, hown2, rfl, by omega, hbel2, hls, hLne⟩
        case round =>
          obtain ⟨j, out', hj, rfl, hown4, hms, hlo4, hbel4, hls4, hne4⟩ := hrel
          by_cases hlj : j < T.length
          · rcases hls4 with h | ⟨bl, ol, rfl, hbl, hcl⟩
            · rw [h] at hlj; simp at hlj
            have hclj := hcl j hlj
            have hls4 : StrsAt wr (some ⟨bl, ol, none⟩) T := .inr ⟨bl, ol, rfl, hbl, hcl⟩
            obtain ⟨A1, c1, hA1, hs6, hl1⟩ := own_strs hown4
            subst hA1
            have hst2 := missStep_drop (namesL rs) T j hlj out'
            have hb4s := hbel4.size
            have hkl := kl_of T[j] (HTS.out _ (List.getElem_mem hlj))
            obtain ⟨D, hD, hDs⟩ := htab.below hbel4
            have hhas := (hDs T[j]).1
            rw [HF1.out] at hhas
            have HS2 := Lib.hid hst2
            have HKL := Lib.hid hkl
            clear hl1 hcl hst2 hkl hDs
            have hi0 : (0 : Int) ≤ (j : Int) := Int.natCast_nonneg _
            have hi1 : (j : Int) < (T.length : Int) := by omega
            cases hM : memB T[j] (namesL rs)
            · rw [hM] at hhas
              have HH := Lib.hid hhas
              cases hM2 : memB T[j] out'
              · have HM2 := Lib.hid hM2
                have HM1 := Lib.hid hM
                clear hM hM2 hhas
                go_wp2_with (first | (at_lookup; refine wpList_lookup_own_ok_int _ (by rfl) _ _ 84 (by rfl) 9 3 .i64 keyed Tryd.underlying84 Tryd.underlying3 (zeroI _) mb mn D (by rfl) hD (.string T[j]) (kl T[j]) (by rfl) HKL.out ?_; intro cc hat _; clear hat; rw [HH.out]) | (go_at_call 49; refine (contains_str out' T[j] A1 c1 _ hs6 (by omega)).mono ?_; rintro e w' ⟨rfl, rfl⟩; rw [HM2.out]) | (at_builtin; refine app_two (w0 := w1) w1.heap.size (by rfl) _ _ 47 9 (.string ⟨#[]⟩) 16 (by rfl) Tryd.underlying47 info_str rfl (.slice A1 out'.length c1) (out'.map Value.string) (.string T[j]) (by rfl) _ (by rfl) rfl rfl hown4 hbel4 hb4s (by simp; omega) (by simp; omega) ?_; intro v5 w5 hown5 hbel5 hg5 _ hne5))
                go_roundw
                case rel => exact ⟨j + 1, out' ++ [T[j]], by omega, by go_num, by simpa using hown5, by rw [← hms.out, HS2.out, if_pos ⟨HM1.out, HM2.out⟩]; rfl, by simp; omega, hbel5, hls4.grown hg5 (fun g o h => hne4 g o h), fun g o h => hne5 g (by cases h; exact hbl) (hne4 g o h)⟩
                case measure => simp [intOf]; omega
              · have HM2 := Lib.hid hM2
                clear hM hM2 hhas
                go_wp2_with (first | (at_lookup; refine wpList_lookup_own_ok_int _ (by rfl) _ _ 84 (by rfl) 9 3 .i64 keyed Tryd.underlying84 Tryd.underlying3 (zeroI _) mb mn D (by rfl) hD (.string T[j]) (kl T[j]) (by rfl) HKL.out ?_; intro cc hat _; clear hat; rw [HH.out]) | (go_at_call 49; refine (contains_str out' T[j] A1 c1 _ hs6 (by omega)).mono ?_; rintro e w' ⟨rfl, rfl⟩; rw [HM2.out]))
                go_roundw
                case rel => exact ⟨j + 1, out', by omega, by go_num, hown4, by rw [← hms.out, HS2.out, if_neg (fun h => by rw [HM2.out] at h; exact absurd h.2 (by simp))]; rfl, by omega, hbel4, hls4, hne4⟩
                case measure => simp [intOf]; omega
            · rw [hM] at hhas
              have HH := Lib.hid hhas
              have HM := Lib.hid hM
              clear hM hhas
              go_wp2_with (at_lookup; refine wpList_lookup_own_ok_int _ (by rfl) _ _ 84 (by rfl) 9 3 .i64 keyed Tryd.underlying84 Tryd.underlying3 (zeroI _) mb mn D (by rfl) hD (.string T[j]) (kl T[j]) (by rfl) HKL.out ?_; intro cc hat _; clear hat; rw [HH.out])
              go_roundw
              case rel => exact ⟨j + 1, out', by omega, by go_num, hown4, by rw [← hms.out, HS2.out, if_neg (fun h => by rw [HM.out] at h; exact absurd h.1 (by simp))]; rfl, by omega, hbel4, hls4, hne4⟩
              case measure => simp [intOf]; omega
          · have hms2 : out' = missStep (namesL rs) T out := by rw [← hms.out, missS_end _ _ _ (by omega)]
            have HMS := Lib.hid hms2
            clear hms2
            go_wp2
            go_roundw
            case rel => exact ⟨k + 1, out', by omega, by go_num, hown4, by show missFrom _ _ out' = _; rw [HMS.out, ← hmf.out, HST.out], by omega, hbel4⟩
            case measure => simp [intOf]; omega
      · have hz : out = missL (provsL rs) := by rw [← hmf.out, missF_end _ _ _ (by rw [provsL_length]; omega)]
        have hkr := hk1.below hbel
        have HK := Lib.hid hkr
        have HZ := Lib.hid hz
        obtain ⟨_, _, q0, q1, z0, z1⟩ := hkr
        clear hz
        go_wp2
        obtain ⟨c0, c1⟩ := two_set (x := .int .i64 0) (y := .int .i64 0) q0 q1
        refine bodyPost_ret (v := .tuple #[_, .agg #[.int .i64 0, .int .i64 0]]) (by simp [results, Tryd.results36, go_sem, c0, c1]; try rfl) rfl ?_
        exact fault_row (HK.out.set2 _ _) (Nat.le_of_lt hw1) (own_low (own_low hown ⟨w.heap.size, 0, none⟩ _ hw1) ⟨w.heap.size, 1, none⟩ _ hw1) (by rw [HM.out, HZ.out])
  · have hM := miss_no h0
    have b0 : ((setF (provsL rs)).2 != 0) = true := by simpa using h0
    have HM := Lib.hid hM
    have HKS := Lib.hid hks
    clear hM hks h0
    go_enter Tryd.func36, Tryd.ntmps36
    go_wp2_with (go_at_call 34; refine (checkSet_c rs V c _ (hx.below ((Below.refl _ _).alloc (Nat.le_refl _) _)) hl (hkeys.below ((Below.refl _ _).alloc (Nat.le_refl _) _))).mono ?_; rintro e w1 ⟨rfl, hb1⟩; have hk1 := HKS.out.below hb1)
    have q0 := fun o : Obj => (hk1.below ((Below.refl _ _).alloc (Nat.le_refl _) o)).q0
    have q1 := fun o : Obj => (hk1.below ((Below.refl _ _).alloc (Nat.le_refl _) o)).q1
    have z0 := fun o : Obj => (hk1.below ((Below.refl _ _).alloc (Nat.le_refl _) o)).z0
    have z1 := fun o : Obj => (hk1.below ((Below.refl _ _).alloc (Nat.le_refl _) o)).z1
    have c0 := fun (o : Obj) (x y : Value) => (two_set (x := x) (y := y) (q0 o) (q1 o)).1
    have c1 := fun (o : Obj) (x y : Value) => (two_set (x := x) (y := y) (q0 o) (q1 o)).2
    go_region
    go_wp2
    refine bodyPost_ret (v := .tuple #[.slice none 0 0, .agg #[.int .i64 (setF (provsL rs)).1, .int .i64 (setF (provsL rs)).2]]) (by simp [results, Tryd.results36, go_sem, c0, c1]; try rfl) rfl ?_
    exact fault_nil (Below.drew ((hk1.below ((Below.refl _ _).alloc (Nat.le_refl _) _)).set2 _ _)) HM.out rfl rfl
end Go.Proofs.YtgopflklcfcocaaDoor
