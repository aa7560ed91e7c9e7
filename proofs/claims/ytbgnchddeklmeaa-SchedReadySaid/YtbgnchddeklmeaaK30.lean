/- The law SchedReady: what is picked is ready, in whatever order the ready come. -/
import Derived.Test.YtbgnchddeklmeaaK29
namespace Go.Proofs.Ytbgnchddeklmeaa
open Go.RowKit
set_option maxHeartbeats 4000000 in
set_option maxRecDepth 100000 in
theorem law_ready (x : XRule) (X : Option Addr) (d : Nat) (bs : List Nat) (Xb : Option Addr) (db : Nat) (w : World) (hr : RowAt w X (I x.list)) (hl : x.list.length ≤ 17592186044416) (hb : RowAt w Xb (U bs)) (hbl : bs.length ≤ 140737488355328) (hbu : ∀ v ∈ bs, v < 18446744073709551616) :
    Calls Try.prog 5 #[x.val X d, .slice Xb bs.length db] w fun e w' => e = .returned (.bool true) ∧ Below w.heap.size w w' := by
  have HMK : ∀ w1, Below w.heap.size w w1 → Calls Try.prog 15 #[x.val X d] w1 (Made x.k x.p w1) := fun w1 h => made15_c x X d w1 (hr.below h) hl
  obtain ⟨kk, hkk⟩ : ∃ kk, kk = x.k := ⟨_, rfl⟩
  obtain ⟨pp, hpp⟩ : ∃ pp, pp = x.p := ⟨_, rfl⟩
  rw [← hkk, ← hpp] at HMK
  clear hkk hpp hr
  obtain ⟨pol, steps, depth, list, seed⟩ := x
  unfold XRule.val at HMK ⊢
  simp only at HMK ⊢ hl
  have HM := Lib.hid HMK
  have HB := Lib.hid hb
  have HBU := Lib.hid hbu
  have hal : ∀ o, Below w.heap.size w (w.alloc o) := fun o => (Below.refl _ _).alloc (Nat.le_refl _) o
  have HAL := Lib.hid hal
  clear HMK hb hbu hal
  go_enter Try.func5, Try.ntmps5
  go_wp2_with fail
  go_at_call 7
  refine (works_c _).mono ?_
  rintro e w1 ⟨rfl, hb1⟩
  have hb1' : Below w.heap.size w w1 := (HAL.out _).trans (hb1.mono (HAL.out _).size)
  obtain ⟨hc1, hf1⟩ := bcell hb1
  have c0 := hc1 w.heap.size 0 (by simp)
  have c1 := hc1 w.heap.size 1 (by simp)
  have c2 := hc1 w.heap.size 2 (by simp)
  have c3 := hc1 w.heap.size 3 (by simp)
  have c4 := hc1 w.heap.size 4 (by simp)
  simp at c0 c1 c2 c3 c4
  have HB1 := Lib.hid hb1'
  have hz1 : w.heap.size < w1.heap.size := by have := hb1.size; rw [al_size] at this; omega
  clear hc1 hf1 hb1 hb1'
  go_wp2_with fail
  go_at_call 15
  refine (HM.out _ HB1.out).mono ?_
  rintro e w2 hM2
  have hb2 : Below w1.heap.size w1 w2 := by rcases made_cases hM2 with ⟨_, s, _, hf⟩ | ⟨_, _, hb⟩; exact hf.2; exact hb
  have hb2' : Below w.heap.size w w2 := HB1.out.trans (hb2.mono HB1.out.size)
  obtain ⟨hc2, _⟩ := bcell hb2
  have d0 := (hc2 w.heap.size 0 hz1).trans c0
  have d1 := (hc2 w.heap.size 1 hz1).trans c1
  have d2 := (hc2 w.heap.size 2 hz1).trans c2
  have d3 := (hc2 w.heap.size 3 hz1).trans c3
  have d4 := (hc2 w.heap.size 4 hz1).trans c4
  have HB2 := Lib.hid hb2'
  have hM3 := HM.out w2 hb2'
  have HM3 := Lib.hid hM3
  clear hc2 hb2 hb2' hM3
  rcases made_cases hM2 with ⟨hk, s, rfl, hf⟩ | ⟨hk, rfl, hbb⟩
  · have HK := Lib.hid hk
    have HF := Lib.hid hf
    subst hk
    clear hf hM2
    go_wp2_with fail
    go_at_call 15
    refine (HM3.out).mono ?_
    rintro e w3 hM4
    rcases made_cases hM4 with ⟨_, t, rfl, hf4⟩ | ⟨hk, _⟩
    · have HT := Lib.hid (two_start HB1.out HF.out hf4)
      have HB3 := Lib.hid (HB2.out.trans (hf4.2.mono HB2.out.size))
      clear hM4 hf4 c0 c1 c2 c3 c4 d0 d1 d2 d3 d4
      go_wp2
      go_loopw [55] (fun i wr => ∃ j : Nat, i = .int .i64 j ∧ j ≤ bs.length ∧ TwoAt w.heap.size w3.heap.size wr s t j ∧ w3.heap.size ≤ wr.heap.size ∧ Below w.heap.size w wr) (fun i _ => bs.length - (intOf i).toNat)
      case atStart => exact ⟨0, rfl, by omega, HT.out, Nat.le_refl _, HB3.out⟩
      case round =>
        obtain ⟨j, rfl, hj, htw, hsz3, hbel⟩ := hrel
        by_cases hlt : j < bs.length
        · have hlt2 : (j : Int) < (bs.length : Int) := by omega
          have hj0 : (0 : Int) ≤ (j : Int) := by omega
          obtain ⟨b, off, rfl, _, hcj⟩ := (HB.out.below hbel).u64 hlt
          have hvj := HBU.out _ (List.getElem_mem hlt)
          obtain ⟨v, hv⟩ : ∃ v, v = bs[j] := ⟨_, rfl⟩
          rw [← hv] at hcj hvj
          have HTW := Lib.hid htw
          have HBEL := Lib.hid hbel
          clear hv htw hbel
          go_wp2_with fail
          go_at_call 11
          refine (some_c v 40 _ hvj (by omega)).mono ?_
          rintro e w5 ⟨Y, d5, rfl, hr5, hb5⟩
          have htw5 := HTW.out.below hb5
          have hs5 : w3.heap.size ≤ w5.heap.size := Nat.le_trans hsz3 hb5.size
          have hbel5 := HBEL.out.trans (hb5.mono HBEL.out.size)
          have hll := someL_length v 40
          obtain ⟨l, hl⟩ : ∃ l, l = someL v 40 := ⟨_, rfl⟩
          rw [← hl] at hr5 hll ⊢
          have HR5 := Lib.hid hr5
          have HTW5 := Lib.hid htw5
          have HBEL5 := Lib.hid hbel5
          have HL := Lib.hid hl
          have HVJ := Lib.hid hvj
          clear hr5 htw5 hb5 hbel5 hl hcj hvj
          go_wp2
          go_loopw [12, 65] (fun v i wr => ∃ k : Nat, k ≤ l.length ∧ i = .int .i64 k ∧ wr.ownsRow w5.heap.size 3 1 v (I (l.reverse.take k)).length (I (l.reverse.take k)) ∧ Below w5.heap.size w5 wr) (fun _ i _ => l.length - (intOf i).toNat)
          case atStart => exact ⟨0, by omega, rfl, World.ownsRow_made w5 #[] 0 (Nat.le_refl _) (by simp [maxLen]) (by simp), (Below.refl _ _).alloc (Nat.le_refl _) _⟩
          case round =>
            obtain ⟨k, hk, rfl, hown, hbel⟩ := hrel
            have hol : (I (l.reverse.take k)).length = k := by simp; omega
            have hbs := hbel.size
            by_cases hlk : k < l.length
            · have hk0 : (0 : Int) ≤ (k : Int) := by omega
              have hk1 : (k : Int) < (l.length : Int) := by omega
              obtain ⟨b5, o5, rfl, hck⟩ := (HR5.out.below hbel).int (show l.length - 1 - k < l.length by omega)
              obtain ⟨m, hm⟩ : ∃ m, m = l[l.length - 1 - k]'(by omega) := ⟨_, rfl⟩
              have hap := rev_next l k hlk
              rw [← hm] at hck hap
              have hix : (l.length : Int) - 1 - (k : Int) = ((l.length - 1 - k : Nat) : Int) := by omega
              have hixn : ((l.length : Int) - 1 - (k : Int)).toNat = l.length - 1 - k := by omega
              have hix0 : (0 : Int) ≤ (l.length : Int) - 1 - (k : Int) := by omega
              have hix1 : (l.length : Int) - 1 - (k : Int) < (l.length : Int) := by omega
              have HOL := Lib.hid hol
              have HAP := Lib.hid hap
              clear hol hap hm hix
              go_wp2_with (at_builtin; refine app_one (w0 := w5) w5.heap.size (by rfl) _ _ 30 3 (.int .i64 0) 8 (by rfl) Try.underlying30 info_int rfl _ (I (l.reverse.take k)) (.int .i64 m) (by rfl) _ (by rfl) rfl rfl hown hbel hbs (by have := HOL.out; omega) (by have := HOL.out; omega) ?_; intro v6 w6 hown6 hb6 _ _)
              go_roundw
              case rel => exact ⟨k + 1, by omega, by go_num, by rw [HAP.out] at hown6; exact hown6, hb6⟩
              case measure => simp [intOf]; omega
            · have hge : ¬ (k : Int) < (l.length : Int) := by omega
              have hkl : k = l.length := by omega
              subst hkl
              rw [show l.reverse.take l.length = l.reverse from List.take_of_length_le (by simp)] at hown
              obtain ⟨Z, dz, hv, _⟩ := own_row1 hown
              rw [List.length_map, List.length_reverse] at hv
              subst hv
              have htw6 := HTW5.out.below hbel
              have hrow5 := HR5.out.below hbel
              have hbel6 := HBEL5.out.trans (hbel.mono HBEL5.out.size)
              have HOWN := Lib.hid hown
              have HROW5 := Lib.hid hrow5
              have HTW6 := Lib.hid htw6
              have HBEL6 := Lib.hid hbel6
              have hs6 : w3.heap.size ≤ wr.heap.size := Nat.le_trans hs5 hbs
              clear hown hol hbel hbs hrow5 htw6 hbel6
              by_cases hl0 : 0 < l.length
              · have hready : Ready l l := by rw [HL.out] at hl0 ⊢; exact ready_some (by omega) hl0
                have HRD := Lib.hid hready
                clear hready
                go_wp2_with fail
                go_at_call 10
                refine (HTW6.out.next d5 HROW5.out HRD.out (by omega)).mono ?_
                rintro e w7 ⟨m, hm, rfl, hnx, M, hMm, hMk⟩
                have hown7 := own_moves2 HOWN.out hMm (fun k hk => by have := hMk k hk; omega)
                have hbel7 : Below w.heap.size w w7 := HBEL6.out.trans (hMm.below HBEL6.out.size (fun k hk => (hMk k hk).1))
                have hrow7 : RowAt w7 Z (I l.reverse) := by
                  obtain ⟨Z2, d2, hv2, hr2⟩ := own_row1 hown7
                  obtain ⟨rfl, _, _⟩ := Value.slice.inj hv2
                  exact hr2
                have hx := hnx Z l.reverse dz w7 (Below.refl _ _) hrow7 (List.reverse_perm l)
                rw [List.length_reverse] at hx
                have hs7 : w3.heap.size ≤ w7.heap.size := Nat.le_trans hs6 hMm.2.2.2.1
                have hml := mem_someL.1 (by rw [← HL.out]; exact hm)
                have HX := Lib.hid hx
                have HBEL7 := Lib.hid hbel7
                clear hx hnx hMm hMk hown7 hrow7 hbel7 hm
                go_wp2_with fail
                go_at_call 10
                refine HX.out.mono ?_
                rintro e w8 ⟨rfl, htw8, hb8⟩
                have hbel8 : Below w.heap.size w w8 := HBEL7.out.trans (hb8.mono (Nat.le_refl _))
                have hs8 : w3.heap.size ≤ w8.heap.size := Nat.le_trans hs7 hb8.size
                obtain ⟨c, hc0, hc1, hcs, hct⟩ := count_two htw8
                obtain ⟨mm, rfl⟩ : ∃ mm : Nat, m = mm := ⟨m.toNat, by omega⟩
                have hbit := bit_eq v mm HVJ.out
                rw [Int.toNat_natCast] at hml
                rw [if_pos hml.2.2] at hbit
                have HCS := Lib.hid hcs
                have HTW8 := Lib.hid htw8
                have HBEL8 := Lib.hid hbel8
                have HBIT := Lib.hid hbit
                obtain ⟨hm0, hm1, _⟩ := hml
                have hcj2 : ¬ (j : Int) + 1 < c := by push_cast at hc1; omega
                have hl00 : ((l.length : Int) == 0) = false := by rw [beq_eq_false_iff_ne]; omega
                clear hcs hct htw8 hb8 hbel8
                go_wp2_with (go_at_call 16; refine (HCS.out _ rfl).mono ?_; rintro e w9 ⟨rfl, rfl⟩)
                go_roundw
                case rel => exact ⟨j + 1, by go_num, by omega, HTW8.out.more (by omega), hs8, HBEL8.out⟩
                case measure => simp [intOf]; omega
              · have hl1 : l.length = 0 := by omega
                obtain rfl : l = [] := List.eq_nil_of_length_eq_zero hl1
                clear hl0 hl1 HL
                simp only [List.length_nil] at *
                go_wp2_with fail
                go_at_call 10
                refine (next_none d5).mono ?_
                rintro e w7 ⟨rfl, hb7⟩
                have HB7 := Lib.hid hb7
                clear hb7
                go_wp2_with fail
                go_at_call 10
                refine (next_none dz).mono ?_
                rintro e w8 ⟨rfl, hb8⟩
                have htw8 := (HTW6.out.below HB7.out).below hb8
                have hs8 : w3.heap.size ≤ w8.heap.size := by have := HB7.out.size; have := hb8.size; omega
                have hbel8 : Below w.heap.size w w8 := (HBEL6.out.trans (HB7.out.mono HBEL6.out.size)).trans (hb8.mono (by have := HBEL6.out.size; have := HB7.out.size; omega))
                obtain ⟨c, hc0, hc1, hcs, hct⟩ := count_two htw8
                have HCS := Lib.hid hcs
                have HTW8 := Lib.hid htw8
                have HBEL8 := Lib.hid hbel8
                have hcj2 : ¬ (j : Int) + 1 < c := by omega
                clear hcs hct htw8 hb8 hbel8
                go_wp2_with (go_at_call 16; refine (HCS.out _ rfl).mono ?_; rintro e w9 ⟨rfl, rfl⟩)
                go_roundw
                case rel => exact ⟨j + 1, by go_num, by omega, HTW8.out.more (by omega), hs8, HBEL8.out⟩
                case measure => simp [intOf]; omega
        · have hge : ¬ (j : Int) < (bs.length : Int) := by omega
          obtain ⟨c, hc0, hc1, hcs, hct⟩ := count_two htw
          have HBEL := Lib.hid hbel
          have HCS := Lib.hid (hcs _ rfl)
          have HCT := Lib.hid (hct _ rfl)
          clear htw hbel hcs hct
          go_wp2_with (go_at_call 16; first | (with_reducible (refine HCS.out.mono ?_); rintro e w6 ⟨rfl, rfl⟩) | (with_reducible (refine HCT.out.mono ?_); rintro e w6 ⟨rfl, rfl⟩))
          go_ret
          exact ⟨by simp, HBEL.out⟩
    · exact absurd rfl hk
  · have HK := Lib.hid hk
    clear hM2
    go_wp2_with fail
    go_at_call 15
    refine (HM3.out).mono ?_
    rintro e w3 hM4
    rcases made_cases hM4 with ⟨hk2, _⟩ | ⟨_, rfl, hb4⟩
    · exact absurd hk2 HK.out
    · have hkb : (kk != 0) = true := by simpa using HK.out
      have HB4 := Lib.hid (HB2.out.trans (hb4.mono HB2.out.size))
      clear hM4 hb4 hk hbb c0 c1 c2 c3 c4 d0 d1 d2 d3 d4
      go_wp2
      go_ret
      exact ⟨by simp, HB4.out⟩
end Go.Proofs.Ytbgnchddeklmeaa
