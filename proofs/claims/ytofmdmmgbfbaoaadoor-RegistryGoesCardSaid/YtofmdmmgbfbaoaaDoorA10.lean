/- names.Check. -/
import Derived.Test.YtofmdmmgbfbaoaaDoorA9
namespace Go.Proofs.YtofmdmmgbfbaoaaDoor
open Go.RowKit

def longB (es : List XOp) : Bool := es.any fun o => decide (4096 < o.text.size)
/-- Check's answer. -/
def checkF (es : List XOp) : Int :=
  if 256 < es.length then 3
  else match beginsF es with
    | some (fr, [_]) => if walkF es fr es.length (es.length - 1) [] = true then (if longB es = true then 3 else if 32 < deepF es then 3 else 0) else 5
    | _ => 5
theorem long_true {es : List XOp} {k : Nat} (h : k < es.length) (hs : 4096 < es[k].text.size) : longB es = true := by
  unfold longB; rw [List.any_eq_true]; exact ⟨es[k], List.getElem_mem h, by simpa using hs⟩
theorem long_false {es : List XOp} (h : ∀ j (hj : j < es.length), es[j].text.size ≤ 4096) : longB es = false := by
  unfold longB; rw [List.any_eq_false]
  intro o ho
  obtain ⟨j, hj, rfl⟩ := List.mem_iff_getElem.1 ho
  have := h j hj
  simp; omega

theorem begins_none {es : List XOp} {A : Option Addr} {c : Nat} {w : World} (h : beginsF es = none) (hx : OpsAt w A es) (hl : es.length * 40 ≤ 140737488355328) (hkeys : KeysIn w) (ht : ∀ o ∈ es, o.text.size ≤ 140737488355328) :
    Calls Tryd.prog 52 #[.slice A es.length c] w fun e w' => e = .returned (.tuple #[.slice none 0 0, .bool false]) ∧ Below w.heap.size w w' := by
  refine (begins_c es A c w hx hl hkeys ht).mono ?_
  rintro e w1 ⟨hb1, h1⟩
  rcases h1 with ⟨_, rfl⟩ | ⟨fr, st, v, h1, _⟩
  · exact ⟨rfl, hb1⟩
  · rw [h] at h1; cases h1
theorem begins_some {es : List XOp} {A : Option Addr} {c : Nat} {w : World} {fr st : List Nat} (h : beginsF es = some (fr, st)) (hx : OpsAt w A es) (hl : es.length * 40 ≤ 140737488355328) (hkeys : KeysIn w) (ht : ∀ o ∈ es, o.text.size ≤ 140737488355328) :
    Calls Tryd.prog 52 #[.slice A es.length c] w fun e w' => ∃ B d, e = .returned (.tuple #[.slice B fr.length d, .bool ((st.length : Int) == 1)]) ∧ NatsAt w' B fr ∧ Below w.heap.size w w' := by
  refine (begins_c es A c w hx hl hkeys ht).mono ?_
  rintro e w1 ⟨hb1, h1⟩
  rcases h1 with ⟨h1, rfl⟩ | ⟨fr', st', v, h1, rfl, hown⟩
  · rw [h] at h1; cases h1
  · rw [h] at h1
    cases h1
    obtain ⟨B, d, rfl, hn, _⟩ := own_nats hown
    exact ⟨B, d, rfl, hn, hb1⟩

theorem walk_root {es : List XOp} {fr : List Nat} {A B : Option Addr} {c d bx : Nat} {w : World} (W : Whole es fr) (h1 : 1 ≤ es.length) (ht : ∀ o ∈ es, o.text.size ≤ 140737488355328) (hx : OpsAt w A es) (hf : NatsAt w B fr) (hc : w.cell? ⟨bx, 0, none⟩ = some (.slice A es.length c)) (hb : bx < w.heap.size) :
    Calls Tryd.prog 53 #[.slice A es.length c, .slice B fr.length d, .int .i64 ((es.length - 1 : Nat) : Int), .slice none 0 0, .func (.func 54) #[] #[.pointer (some ⟨bx, 0, none⟩)]] w
      fun e w' => e = .returned (.bool (walkF es fr es.length (es.length - 1) [])) ∧ Below w.heap.size w w' :=
  walk_c es fr A B c d bx W es.length (es.length - 1) es.length [] none 0 w (by omega) (by omega) (by omega) (by have := W.len; simp; omega) hx hf (.inl rfl) hc hb ht

set_option maxHeartbeats 2000000 in
set_option maxRecDepth 100000 in
theorem check_c (es : List XOp) (A : Option Addr) (c : Nat) (w : World) (hx : OpsAt w A es) (hl : es.length * 40 ≤ 140737488355328) (hkeys : KeysIn w) (ht : ∀ o ∈ es, o.text.size ≤ 140737488355328) :
    Calls Tryd.prog 36 #[.slice A es.length c] w fun e w' => e = .returned (.int .i64 (checkF es)) ∧ Below w.heap.size w w' := by
  by_cases hlen : es.length ≤ 256
  · have hb0 : Below w.heap.size w (w.alloc (.cells #[.slice A es.length c] 30)) := (Below.refl _ _).alloc (Nat.le_refl _) _
    have hsz0 : (w.alloc (.cells #[.slice A es.length c] 30)).heap.size = w.heap.size + 1 := by simp
    have hx0 := hx.below hb0
    have hk0 := hkeys.below hb0
    have hbx0 : (w.alloc (.cells #[.slice A es.length c] 30)).cell? ⟨w.heap.size, 0, none⟩ = some (.slice A es.length c) := cell_one_new _ _ _ 0 _ rfl
    have H0 := Lib.hid hsz0
    have HB0 := Lib.hid hb0
    have HX0 := Lib.hid hx0
    have HBX := Lib.hid hbx0
    clear hsz0 hb0 hx0 hbx0
    cases hbg : beginsF es with
    | none =>
      have hcf : checkF es = 5 := by unfold checkF; rw [if_neg (by omega), hbg]
      have HC := Lib.hid hcf
      have HBG := Lib.hid hbg
      clear hcf hbg
      go_enter Tryd.func36, Tryd.ntmps36
      go_wp2_with (go_at_call 52; refine (begins_none HBG.out HX0.out hl hk0 ht).mono ?_; rintro e w1 ⟨rfl, hb1⟩)
      go_ret
      exact ⟨ret_int HC.out.symm, HB0.out.trans (hb1.mono (by rw [H0.out]; omega))⟩
    | some fs =>
      obtain ⟨fr, st⟩ := fs
      by_cases h1 : st.length = 1
      · obtain ⟨b, rfl⟩ := List.length_eq_one_iff.1 h1
        have hgd := begins_good hbg
        obtain ⟨hfl, hroot, hpos, hg⟩ := hgd
        have hW := whole_of hlen hfl hg
        have hcf : checkF es = if walkF es fr es.length (es.length - 1) [] = true then (if longB es = true then 3 else if 32 < deepF es then 3 else 0) else 5 := by unfold checkF; rw [if_neg (by omega), hbg]
        have HC := Lib.hid hcf
        have HBG := Lib.hid hbg
        have HW := Lib.hid hW
        clear hcf hbg hroot hg h1 hW hfl
        have hkk : (es.length : Int) - 1 = ((es.length - 1 : Nat) : Int) := by omega
        cases hwk : walkF es fr es.length (es.length - 1) []
        · have HK := Lib.hid hwk
          clear hwk
          go_enter Tryd.func36, Tryd.ntmps36
          go_wp2_with (first | (go_at_call 52; refine (begins_some HBG.out HX0.out hl hk0 ht).mono ?_; rintro e w1 ⟨B, d, rfl, hn1, hb1⟩; have hx1 := HX0.out.below hb1; have hcx := (hb1.cell (p := ⟨w.heap.size, 0, none⟩) (Nat.lt_of_lt_of_eq (Nat.lt_succ_self _) H0.out.symm)).trans HBX.out; have hs1 : w.heap.size < w1.heap.size := Nat.lt_of_lt_of_le (Nat.lt_of_lt_of_eq (Nat.lt_succ_self _) H0.out.symm) hb1.size) | (go_at_call 53; go_loud (refine (walk_root HW.out hpos ht hx1 hn1 hcx hs1).mono ?_); rw [HK.out]; rintro e w2 ⟨rfl, hb2⟩))
          go_ret
          refine ⟨ret_int (by rw [HC.out, HK.out]; rfl), HB0.out.trans ((hb1.trans (hb2.mono hb1.size)).mono (by rw [H0.out]; omega))⟩
        · have hcf := HC.out
          rw [hwk, if_pos rfl] at hcf
          clear HC
          have HC := Lib.hid hcf
          clear hcf
          have HK := Lib.hid hwk
          clear hwk
          have hex : ∃ fr b, beginsF es = some (fr, [b]) := ⟨fr, b, HBG.out⟩
          have HE := Lib.hid hex
          clear hex
          go_enter Tryd.func36, Tryd.ntmps36
          go_wp2_with (first | (go_at_call 52; refine (begins_some HBG.out HX0.out hl hk0 ht).mono ?_; rintro e w1 ⟨B, d, rfl, hn1, hb1⟩; have hx1 := HX0.out.below hb1; have hcx := (hb1.cell (p := ⟨w.heap.size, 0, none⟩) (Nat.lt_of_lt_of_eq (Nat.lt_succ_self _) H0.out.symm)).trans HBX.out; have hs1 : w.heap.size < w1.heap.size := Nat.lt_of_lt_of_le (Nat.lt_of_lt_of_eq (Nat.lt_succ_self _) H0.out.symm) hb1.size) | (go_at_call 53; go_loud (refine (walk_root HW.out hpos ht hx1 hn1 hcx hs1).mono ?_); rw [HK.out]; rintro e w2 ⟨rfl, hb2⟩; have hx2 := hx1.below hb2; have hcx2 := (hb2.cell (p := ⟨w.heap.size, 0, none⟩) hs1).trans hcx; have hs2 := Nat.lt_of_lt_of_le hs1 hb2.size; have hbw : Below w.heap.size w w2 := HB0.out.trans ((hb1.trans (hb2.mono hb1.size)).mono (by rw [H0.out]; omega)); clear hb1 hb2 hcx hx1 hn1))
          go_loopw [29] (fun i wr => ∃ k : Nat, k ≤ es.length ∧ i = .int .i64 k ∧ Hid (∀ j (hj : j < es.length), j < k → es[j].text.size ≤ 4096) ∧ Below w2.heap.size w2 wr) (fun i _ => es.length - (intOf i).toNat)
          case atStart => exact ⟨0, by omega, rfl, fun j _ h => by omega, Below.refl _ _⟩
          case round =>
            obtain ⟨k, hk, rfl, hr, hbel⟩ := hrel
            have hbs2 := hbel.size
            have hcx3 := (hbel.cell (p := ⟨w.heap.size, 0, none⟩) hs2).trans hcx2
            have hx3 := hx2.below hbel
            by_cases hlt : k < es.length
            · rcases hx3 with hx0 | ⟨b', off, hAe, hb', hcr⟩
              · rw [hx0] at hpos; simp at hpos
              obtain ⟨h0, h1, h2, h3⟩ := hcr k hlt
              have htk := ht es[k] (List.getElem_mem hlt)
              subst hAe
              clear hcr hx2
              by_cases hsz : es[k].text.size ≤ 4096
              · go_wp2
                go_roundw
                case rel =>
                  go_light
                  refine ⟨k + 1, by omega, by go_num, fun j hj hjk => ?_, hbel.alloc hbs2 _⟩
                  rcases Nat.lt_or_ge j k with h | h
                  · exact hr.out j hj h
                  · obtain rfl : j = k := by omega
                    exact hsz
                case measure => simp [intOf]; omega
              · have hlg := long_true hlt (by omega)
                have HLG := Lib.hid hlg
                clear hlg
                go_wp2
                go_ret
                exact ⟨ret_int (by rw [HC.out, if_pos HLG.out]), hbw.trans ((hbel.alloc hbs2 _).mono (by omega))⟩
            · have hlg := long_false (fun j hj => hr.out j hj (by omega))
              have HLG := Lib.hid hlg
              clear hlg
              go_wp2_with (go_at_call 55; refine (deep_c es A c _ hx3 hlen HE.out).mono ?_; rintro e w4 ⟨rfl, hb4⟩)
              all_goals go_ret
              all_goals refine ⟨ret_int (by rw [HC.out, HLG.out]; simp; omega), hbw.trans ((hbel.trans (hb4.mono hbs2)).mono (by omega))⟩
      · have hcf : checkF es = 5 := by
          unfold checkF; rw [if_neg (by omega), hbg]
          split
          · next h => cases h; simp at h1
          · rfl
        have HC := Lib.hid hcf
        have HBG := Lib.hid hbg
        clear hcf hbg
        have hq : ((st.length : Int) == 1) = false := by simp; omega
        go_enter Tryd.func36, Tryd.ntmps36
        go_wp2_with (go_at_call 52; refine (begins_some HBG.out HX0.out hl hk0 ht).mono ?_; rintro e w1 ⟨B, d, rfl, hn1, hb1⟩)
        go_ret
        exact ⟨ret_int HC.out.symm, HB0.out.trans (hb1.mono (by rw [H0.out]; omega))⟩
  · have hcf : checkF es = 3 := by unfold checkF; rw [if_pos (by omega)]
    have HC := Lib.hid hcf
    clear hcf
    go_enter Tryd.func36, Tryd.ntmps36
    go_wp2
    go_ret
    exact ⟨ret_int HC.out.symm, (Below.refl _ _).alloc (Nat.le_refl _) _⟩
end Go.Proofs.YtofmdmmgbfbaoaaDoor
