/- Rows that rise, by insertion: the walk. -/
import Derived.Test.YtpdfcffeinbcaaaH8
namespace Go.Proofs.Ytpdfcffeinbcaaa
open Go.RowKit
theorem mid_set (o : List Int) (p : Nat) (z x : Int) (hp : p ≤ o.length) : (o.take p ++ z :: o.drop p).set p x = o.take p ++ x :: o.drop p := by
  rw [List.set_append_right _ _ (by rw [List.length_take]; omega), List.length_take, Nat.min_eq_left hp, Nat.sub_self]
  rfl
theorem mid_shift (o : List Int) (k : Nat) (z : Int) (hk : k + 1 ≤ o.length) : (o.take (k + 1) ++ z :: o.drop (k + 1)).set (k + 1) (o[k]'(by omega)) = o.take k ++ o[k]'(by omega) :: o.drop k := by
  rw [mid_set o (k + 1) z _ hk, ← List.drop_eq_getElem_cons (by omega : k < o.length), List.take_succ_eq_append_getElem (by omega), List.append_assoc]
  rfl
theorem mid_get (o : List Int) (k : Nat) (z : Int) (i : Nat) (hi : i < k) (hk : k ≤ o.length) : (o.take k ++ z :: o.drop k)[i]? = some (o[i]'(by omega)) := by
  rw [List.getElem?_append_left (by rw [List.length_take]; omega), List.getElem?_take_of_lt hi, List.getElem?_eq_getElem]
theorem own_froz {w : World} {B g cap n sz : Nat} {e : TypeId} {xs : List Value} (h : w.ownsRow B e sz (.slice (some ⟨g, 0, none⟩) n cap) n xs) (k : Nat) : w.frozen? ⟨g, k, none⟩ = false := by
  rcases h.2 with ⟨h0, _⟩ | ⟨g', cap', cur, hv, _, hh, _⟩
  · cases h0
  · cases hv
    unfold World.frozen?
    rw [hh]
    simp
theorem I_set (l : List Int) (k : Nat) (x : Int) : (I l).set k (.int .i64 x) = I (l.set k x) := List.map_set.symm
set_option maxHeartbeats 4000000 in
set_option maxRecDepth 100000 in
theorem rising_c {w : World} {X : Option Addr} (d : Nat) {l : List Int} (hr : RowAt w X (I l)) (hl : l.length ≤ 1099511627776) :
    Calls Try.prog 72 #[.slice X l.length d] w fun e w' => ∃ Y dY, e = .returned (.slice Y (risF l).length dY) ∧ w'.ownsRow w.heap.size 3 1 (.slice Y (risF l).length dY) (risF l).length (I (risF l)) ∧ Below w.heap.size w w' := by
  have HR := Lib.hid hr
  clear hr
  go_enter Try.func72, Try.ntmps72
  go_wp2
  have h0 : (w.alloc (.cells #[] 3)).ownsRow w.heap.size 3 1 (.slice (some ⟨w.heap.size, 0, none⟩) 0 0) 0 [] := World.ownsRow_made w #[] 0 (Nat.le_refl _) (by simp [maxLen]) (by simp)
  have hb0 : Below w.heap.size w (w.alloc (.cells #[] 3)) := (Below.refl _ _).alloc (Nat.le_refl _) _
  generalize w.alloc (.cells #[] 3) = w0 at *
  have H0 := Lib.hid h0
  have HB0 := Lib.hid hb0
  clear h0 hb0
  go_loopw [3, 4] (fun v i wr => ∃ (j : Nat) (o : List Int), i = .int .i64 j ∧ j ≤ l.length ∧ o.length ≤ j ∧ o.Pairwise (· < ·) ∧ (∀ x, x ∈ o ↔ x ∈ l.take j) ∧ wr.ownsRow w.heap.size 3 1 v o.length (I o) ∧ Below w.heap.size w wr) (fun _ i _ => l.length - (intOf i).toNat)
  case atStart => exact ⟨0, [], rfl, by omega, by simp, by simp, by simp, H0.out, HB0.out⟩
  case round =>
    obtain ⟨j, o, rfl, hj, hol, hrs, hmem, hown, hbel⟩ := hrel
    obtain ⟨Y, dY, hvY, hrY, hdY, hdY2⟩ := own_rowS hown
    subst hvY
    by_cases hlt : j < l.length
    · have hj0 : (0 : Int) ≤ (j : Int) := by omega
      have hj1 : (j : Int) < (l.length : Int) := by omega
      obtain ⟨b, off, rfl, hbw, hcw⟩ := HR.out.get (j := j) (by simpa using hlt)
      simp only [List.getElem_map] at hcw
      have hcj := (hbel.cell (p := ⟨b, off + j, none⟩) hbw).trans hcw
      obtain ⟨x, hx⟩ : ∃ x, x = l[j] := ⟨_, rfl⟩
      rw [← hx] at hcj hcw
      have htk : ∀ y, y ∈ l.take (j + 1) ↔ y ∈ l.take j ∨ y = x := fun y => by rw [List.take_succ_eq_append_getElem hlt, List.mem_append, List.mem_singleton, hx]
      have hhas := has_c dY x hrY (by omega)
      have HHAS := Lib.hid hhas
      have HTK := Lib.hid htk
      have HOWN := Lib.hid hown
      have HBEL := Lib.hid hbel
      have HRS := Lib.hid hrs
      have HMEM := Lib.hid hmem
      have HCW := Lib.hid hcw
      have HBW := Lib.hid hbw
      clear hx htk hhas hown hbel hrs hmem hcw hbw
      by_cases hin : x ∈ o
      · have hd : decide (x ∈ o) = true := by simpa using hin
        rw [hd] at HHAS
        have HIN := Lib.hid hin
        clear hin hd
        go_wp2_with (go_at_call 70; refine HHAS.out.mono ?_; rintro e w1 ⟨rfl, rfl⟩)
        go_roundw
        case rel =>
          refine ⟨j + 1, o, by go_num, by omega, by omega, HRS.out, fun y => ?_, HOWN.out, HBEL.out⟩
          rw [HTK.out, HMEM.out]
          exact ⟨.inl, fun h => h.elim id (fun e => by rw [e]; exact (HMEM.out x).1 HIN.out)⟩
        case measure => simp [intOf]; omega
      · have hd : decide (x ∈ o) = false := by simpa using hin
        rw [hd] at HHAS
        have HIN := Lib.hid hin
        clear hin hd
        go_wp2_with (go_at_call 70; refine HHAS.out.mono ?_; rintro e w1 ⟨rfl, rfl⟩)
        go_loopw [5] (fun a wr => ∃ p : Nat, a = .int .i64 p ∧ p ≤ o.length ∧ (∀ i (h : i < o.length), p ≤ i → x < o[i]) ∧ wr.ownsRow w.heap.size 3 1 (.slice Y o.length dY) o.length (I o) ∧ Below w.heap.size w wr) (fun a _ => (intOf a).toNat)
        case atStart => exact ⟨o.length, rfl, Nat.le_refl _, fun i h hi => by omega, HOWN.out, HBEL.out⟩
        case round =>
          obtain ⟨p, rfl, hp, hgt, hown, hbel⟩ := hrel
          have hcj2 : wr.cell? ⟨b, off + j, none⟩ = some (.int .i64 x) := (hbel.cell (p := ⟨b, off + j, none⟩) HBW.out).trans HCW.out
          have HGT := Lib.hid hgt
          have HOWN2 := Lib.hid hown
          have HBEL2 := Lib.hid hbel
          clear hgt hbel hcj
          by_cases hp0 : ∃ q, p = q + 1 ∧ ∃ h : q < o.length, x < o[q]
          · obtain ⟨q, rfl, hq, hxq⟩ := hp0
            obtain ⟨Y2, dY2, hv2, hr2⟩ := own_row1 hown
            obtain rfl := (Value.slice.inj hv2).1
            obtain ⟨bY, oY, rfl, hcq⟩ := hr2.int hq
            obtain ⟨y, hy⟩ : ∃ y, y = o[q] := ⟨_, rfl⟩
            rw [← hy] at hcq hxq
            have hq0 : (0 : Int) ≤ (q : Int) := by omega
            have hq1 : (q : Int) < (o.length : Int) := by omega
            have hqp : (0 : Int) < (q : Int) + 1 := by omega
            have hgd : decide ((0 : Int) < (q : Int) + 1) = true := by simp
            have hcast : ((q + 1 : Nat) : Int) = (q : Int) + 1 := by push_cast; rfl
            rw [hcast]
            clear hcast
            have HY := Lib.hid hy
            clear hown hv2 hr2 hy
            go_wp2
            go_quiet (fail)
            go_wp2
            go_roundw
            case rel =>
              refine ⟨q, by go_num, by omega, fun i h hi => ?_, HOWN2.out, below_drewN HBEL2.out _⟩
              rcases Nat.lt_or_ge q i with c | c
              · exact HGT.out i h c
              · have : i = q := by omega
                subst this
                rw [← HY.out]; exact hxq
            case measure => simp [intOf]
          · have hpe : (p = 0 ∧ Hid True) ∨ ∃ q, p = q + 1 ∧ ∃ h : q < o.length, o[q] ≤ x := by
              rcases Nat.eq_zero_or_pos p with h | h
              · exact .inl ⟨h, trivial⟩
              · right
                refine ⟨p - 1, by omega, by omega, ?_⟩
                rcases Int.lt_or_le x (o[p - 1]'(by omega)) with c | c
                · exact absurd ⟨p - 1, by omega, by omega, c⟩ hp0
                · exact c
            have hle : ∀ i (h : i < o.length), i + 1 = p → o[i] ≤ x := fun i h hi => by
              rcases hpe with ⟨h0, _⟩ | ⟨q, hq, hq2, hq3⟩
              · omega
              · have : i = q := by omega
                subst this; exact hq3
            have hins := insert_rising HRS.out HIN.out hp HGT.out hle
            have hil : (I o).length = o.length := List.length_map _
            have hown3 : wr.ownsRow w.heap.size 3 1 (.slice Y o.length dY) (I o).length (I o) := by rw [hil]; exact hown
            have HINS := Lib.hid hins
            have HIL := Lib.hid hil
            have HOWN3 := Lib.hid hown3
            have HLE := Lib.hid hle
            clear hins hil hown3 hle hp0
            have hown2 := hown
            clear hown
            rcases hpe with ⟨hpz, _⟩ | ⟨q, hpq, hq, hqx⟩
            case' inl =>
              have hgd : decide ((0 : Int) < (p : Int)) = false := by rw [decide_eq_false_iff_not]; omega
              have hgd2 : decide (0 < p) = false := by rw [decide_eq_false_iff_not]; omega
              have hgd3 : ¬ 0 < p := by omega
              have HPZ := Lib.hid hpz
              clear hpz hown2
              go_wp2
              go_quiet (fail)
              clear hgd2 hgd3
            case' inr =>
              obtain ⟨Y2, dY2, hv2, hr2⟩ := own_row1 hown2
              obtain rfl := (Value.slice.inj hv2).1
              obtain ⟨bY, oY, rfl, hcq⟩ := hr2.int hq
              obtain ⟨y, hy⟩ : ∃ y, y = o[q] := ⟨_, rfl⟩
              rw [← hy] at hcq hqx
              have hgd : decide (0 < p) = true := by rw [decide_eq_true_eq]; omega
              have hix0 : (0 : Int) ≤ (p : Int) - 1 := by omega
              have hix1 : (p : Int) - 1 < (o.length : Int) := by omega
              have hixn : ((p : Int) - 1).toNat = q := by omega
              have hno : ¬ x < y := by omega
              have HPQ := Lib.hid hpq
              clear hown2 hv2 hr2 hy hpq
              go_wp2
              go_quiet (fail)
            all_goals
              obtain ⟨wz, hwz⟩ : ∃ wz, wz = wr.drewN nq := ⟨_, rfl⟩
              have hoz := (show (wr.drewN nq).ownsRow w.heap.size 3 1 _ (I o).length (I o) from HOWN3.out)
              have hbz : Below w.heap.size w wz := by rw [hwz]; exact below_drewN HBEL2.out _
              rw [← hwz] at hoz ⊢
              have HOZ := Lib.hid hoz
              have HBZ := Lib.hid hbz
              clear hwz hoz hbz hgd
              have hsz : w.heap.size ≤ wz.heap.size := HBZ.out.size
              go_wp2_with (at_builtin; refine app_new w.heap.size (by rfl) _ _ 25 3 (.int .i64 0) 8 (by rfl) Try.underlying25 info_int rfl _ (I o) (.int .i64 0) (by rfl) _ (by rfl) rfl rfl HOZ.out hsz (by have := HIL.out; omega) (by have := HIL.out; omega) ?_; intro v5 w5 ho5 hg5 hb5 hs5; rw [HIL.out] at ho5; obtain ⟨g5, cap5, hv5, _, _⟩ := ho5.form (Nat.succ_pos _); subst hv5)
              have hcj5 : w5.cell? ⟨b, off + j, none⟩ = some (.int .i64 x) := by
                have hb5' : Below w.heap.size w w5 := HBZ.out.grown hg5 HBZ.out.size (fun k e => (HOZ.out.lt k e).1)
                exact (hb5'.cell (p := ⟨b, off + j, none⟩) HBW.out).trans HCW.out
              have hbel5 : Below w.heap.size w w5 := HBZ.out.grown hg5 HBZ.out.size (fun k e => (HOZ.out.lt k e).1)
              have hrow0 : w5.ownsRow w.heap.size 3 1 (.slice (some ⟨g5, 0, none⟩) (o.length + 1) cap5) (o.length + 1) (I (o.take o.length ++ 0 :: o.drop o.length)) := by
                rw [List.take_length, List.drop_length]
                have e : I (o ++ [0]) = I o ++ [.int .i64 0] := List.map_append
                rw [e]; exact ho5
              have HROW0 := Lib.hid hrow0
              have HBEL5 := Lib.hid hbel5
              clear hcj5 hbel5 hrow0 ho5 hg5 hb5
              go_loopw [6] (fun a wr => ∃ (k : Nat) (z : Int), a = .int .i64 k ∧ p ≤ k ∧ k ≤ o.length ∧ wr.ownsRow w.heap.size 3 1 (.slice (some ⟨g5, 0, none⟩) (o.length + 1) cap5) (o.length + 1) (I (o.take k ++ z :: o.drop k)) ∧ Below w.heap.size w wr) (fun a _ => (intOf a).toNat)
              case atStart => exact ⟨o.length, 0, by go_num, hp, Nat.le_refl _, HROW0.out, HBEL5.out⟩
              case round =>
                obtain ⟨k, z, rfl, hpk, hkl, hown, hbel⟩ := hrel
                have hll : (o.take k ++ z :: o.drop k).length = o.length + 1 := by simp; omega
                have hf := fun i => own_froz hown i
                obtain ⟨u, hu⟩ := own_cell_any hown k (by omega)
                have hfk := hf k
                by_cases hlt2 : p < k
                · have hm : k - 1 < o.length := by omega
                  have hcm : wr.cell? ⟨g5, k - 1, none⟩ = some (.int .i64 o[k - 1]) := by
                    have h3 := hown.cells (g := g5) rfl (k - 1) (.int .i64 o[k - 1]) (by rw [List.getElem?_map, mid_get o k z (k - 1) (by omega) hkl]; rfl)
                    rwa [add_zero] at h3
                  obtain ⟨y', hy'⟩ : ∃ y', y' = o[k - 1] := ⟨_, rfl⟩
                  rw [← hy'] at hcm
                  have hst := (hown.stored k (.int .i64 y')).1
                  rw [I_set] at hst
                  obtain ⟨m, hmk⟩ : ∃ m, k = m + 1 := ⟨k - 1, by omega⟩
                  have hsh : (o.take k ++ z :: o.drop k).set k y' = o.take m ++ y' :: o.drop m := by subst hmk; rw [hy']; exact mid_shift o m z (by omega)
                  rw [hsh] at hst
                  have hk0 : (0 : Int) ≤ (k : Int) - 1 := by omega
                  have hk1 : (k : Int) - 1 < (o.length : Int) + 1 := by omega
                  have hkn : ((k : Int) - 1).toNat = k - 1 := by omega
                  have hk2 : (0 : Int) ≤ (k : Int) := by omega
                  have hk3 : (k : Int) < (o.length : Int) + 1 := by omega
                  have hki : (p : Int) < (k : Int) := by omega
                  have HST := Lib.hid hst
                  have HB := Lib.hid hbel
                  have HMK := Lib.hid hmk
                  have hg0 := (hown.lt g5 rfl).1
                  clear hown hbel hll hf hst hsh hy' hmk
                  go_wp2
                  go_roundw
                  case rel => exact ⟨m, _, by have := HMK.out; subst this; go_num, by have := HMK.out; omega, by have := HMK.out; omega, HST.out, HB.out.setCell hg0 _⟩
                  case measure => simp [intOf]; have := HMK.out; omega
                · have hkp : k = p := by omega
                  subst hkp
                  have hst := (hown.stored k (.int .i64 x)).1
                  rw [I_set, mid_set o k z x hkl] at hst
                  have hcjr : wr.cell? ⟨b, off + j, none⟩ = some (.int .i64 x) := (hbel.cell (p := ⟨b, off + j, none⟩) HBW.out).trans HCW.out
                  have hll2 : (o.take k ++ x :: o.drop k).length = o.length + 1 := by simp; omega
                  rw [← hll2] at hst
                  have hk2 : (0 : Int) ≤ (k : Int) := by omega
                  have hk3 : (k : Int) < (o.length : Int) + 1 := by omega
                  have HST := Lib.hid hst
                  have HB := Lib.hid hbel
                  have HLL2 := Lib.hid hll2
                  have hg0 := (hown.lt g5 rfl).1
                  clear hown hbel hll hf hst hll2
                  go_wp2
                  go_roundw
                  case rel =>
                    refine ⟨j + 1, _, by go_num, by omega, by rw [HLL2.out]; omega, HINS.out.1, fun y => ?_, by have := HST.out; rwa [HLL2.out] at this ⊢, HB.out.setCell hg0 _⟩
                    rw [HINS.out.2, HTK.out, HMEM.out]
                  case measure => simp [intOf]; omega
    · have hge : ¬ (j : Int) < (l.length : Int) := by omega
      rw [show l.take j = l from List.take_of_length_le (by omega)] at hmem
      have he : o = risF l := rising_ext hrs (risF_spec l).1 (fun x => (hmem x).trans ((risF_spec l).2 x).symm)
      have HE := Lib.hid he
      have HOWN := Lib.hid hown
      have HBEL := Lib.hid hbel
      clear hrs hmem he hown hbel hrY
      go_wp2
      go_ret
      exact ⟨Y, dY, by rw [← HE.out]; rfl, by rw [← HE.out]; exact HOWN.out, HBEL.out⟩
end Go.Proofs.Ytpdfcffeinbcaaa
