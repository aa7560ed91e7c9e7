/- The reference's deepest and Check. -/
import Derived.Test.YtofmdmmgbfbaoaaDoorA14
namespace Go.Proofs.YtofmdmmgbfbaoaaDoor
open Go.RowKit

theorem maxL_cons (x : Nat) (l : List Nat) : maxL (x :: l) = max (maxL l) x := by
  unfold maxL
  have : ∀ (l : List Nat) (a b : Nat), l.foldl max (max a b) = max (l.foldl max a) b := by
    intro l
    induction l with
    | nil => intro a b; rfl
    | cons y l ih => intro a b; rw [List.foldl_cons, List.foldl_cons, ← ih]; congr 1; omega
  rw [List.foldl_cons, this]
theorem maxL_drop (l : List Nat) (k : Nat) (h : k < l.length) : maxL (l.drop k) = max (maxL (l.drop (k + 1))) l[k] := by
  rw [List.drop_eq_getElem_cons h, maxL_cons]

set_option maxHeartbeats 2000000 in
set_option maxRecDepth 100000 in
theorem deepest_c (es : List XOp) (A : Option Addr) (c : Nat) (w : World) (hx : OpsAt w A es) (hl : es.length ≤ 256) (hbg : ∃ fr b, beginsF es = some (fr, [b])) :
    Calls Tryd.prog 74 #[.slice A es.length c] w fun e w' => e = .returned (.int .i64 (deepF es)) ∧ Below w.heap.size w w' := by
  obtain ⟨i0, hi0, hz0, hz1, hz2⟩ := info_parts info_int
  obtain ⟨frz, bz, hbg⟩ := hbg
  have HB := Lib.hid hbg
  clear hbg
  go_enter Tryd.func74, Tryd.ntmps74
  go_wp2
  go_loopw [3, 4] (fun v i wr => ∃ (k : Nat) (st fr' st' : List Nat) (g cap : Nat), k ≤ es.length ∧ i = .int .i64 k ∧ Hid (deepFrom (es.drop k) st = deepFrom es []) ∧ Hid (beginsFrom (es.drop k) k fr' st' = some (frz, [bz])) ∧ st'.length = st.length ∧ (∀ x ∈ st, x ≤ k) ∧ st.length ≤ k ∧ v = .slice (some ⟨g, 0, none⟩) st.length cap ∧
      wr.ownsRow w.heap.size 3 1 (.slice (some ⟨g, 0, none⟩) st.length cap) st.length (ints st) ∧ Below w.heap.size w wr) (fun _ i _ => es.length - (intOf i).toNat)
  case atStart =>
    refine ⟨0, [], [], [], w.heap.size, 0, by omega, rfl, rfl, HB.out, rfl, by simp, by simp, rfl, ?_, (Below.refl _ _).alloc (Nat.le_refl _) _⟩
    have := World.ownsRow_made (size := 1) (e := 3) (base := w.heap.size) w #[] 0 (by simp) (by simp [maxLen]) (by simp)
    simpa [ints] using this
  case round =>
    obtain ⟨k, st, fr', st', g, cap, hk, rfl, hr, hbk, hle, hmx, hst, rfl, hown, hbel⟩ := hrel
    by_cases hlt : k < es.length
    · rcases hx with rfl | ⟨b, off, rfl, hb, hc⟩
      · simp at hlt
      · obtain ⟨h0, h1, h2, h3⟩ := hc k hlt
        obtain ⟨hcc, hff⟩ := bcell hbel
        have g1 := (hcc b (off + k * 4 + 1) hb).trans h1
        have hbr : b < wr.heap.size := Nat.lt_of_lt_of_le hb hbel.size
        clear hc h0 h1 h2 h3 hcc hff
        have hu := deepFrom_drop es k hlt st
        have HU := Lib.hid hu
        clear hu
        obtain ⟨hw, hnl, hn0, fr2, st2, hb2, hl2⟩ := begins_step hlt hbk.out
        have HB2 := Lib.hid hb2
        have HW := Lib.hid hw
        clear hb2 hw
        obtain ⟨m, hm⟩ := Int.eq_ofNat_of_zero_le hn0
        rw [hm] at g1 hnl hl2
        rw [Int.toNat_natCast] at hnl hl2
        have HM := Lib.hid hm
        clear hm hn0
        have hcap := own_cap hown
        have hgw := own_blk hown
        have hs0 := hbel.size
        go_wp2
        go_loop [3, 5, 6] (fun v d i => ∃ j : Nat, j ≤ m ∧ i = .int .i64 j ∧ d = .int .i64 (maxL (st.drop (st.length - j)) : Nat) ∧ v = .slice (some ⟨g, 0, none⟩) (st.length - j) cap) (fun _ _ i => m - (intOf i).toNat)
        case atStart => exact ⟨0, by omega, rfl, by rw [Nat.sub_zero, List.drop_of_length_le (Nat.le_refl _)]; rfl, rfl⟩
        case round =>
          obtain ⟨j, hj, rfl, rfl, rfl⟩ := hrel
          by_cases hjm : j < m
          · have hix : st.length - (j + 1) < st.length := by omega
            have hcj := own_cell hown (st.length - (j + 1)) hix
            have hc1 : ((st.length - j : Nat) : Int) - 1 = ((st.length - (j + 1) : Nat) : Int) := by omega
            have hi0' : (0 : Int) ≤ ((st.length - (j + 1) : Nat) : Int) := Int.natCast_nonneg _
            have hi1 : ((st.length - (j + 1) : Nat) : Int) < ((st.length - j : Nat) : Int) := by omega
            have hi2 : ((st.length - (j + 1) : Nat) : Int) ≤ (cap : Int) := by omega
            have hi3 : st.length - (j + 1) ≤ cap := by omega
            have hi4 : st.length - (j + 1) < st.length - j := by omega
            have hnx := maxL_drop st (st.length - (j + 1)) hix
            rw [show st.length - (j + 1) + 1 = st.length - j by omega] at hnx
            have HN := Lib.hid hnx
            clear hnx
            go_wp2
            go_round
            case rel => exact ⟨j + 1, by omega, by go_num, by rw [HN.out]; go_light; simp [max_if], rfl⟩
            case measure => simp [intOf]; omega
          · obtain rfl : j = m := by omega
            have hmb0 := maxL_le (st.drop (st.length - j)) k (fun x hx => hmx x (List.mem_of_mem_drop hx))
            have hmb : (maxL (st.drop (st.length - j)) : Int) ≤ 256 := by omega
            have ot := own_take hown (k := st.length - j) (by omega)
            rw [ints_take, Nat.mul_one] at ot
            go_wp2_with (at_builtin; go_must (refine app_row w.heap.size (by rfl) _ _ 96 3 (.int .i64 0) 8 (by rfl) Tryd.underlying96 info_int rfl (.slice (some ⟨g, 0, none⟩) (st.length - j) cap) (st.length - j) _ (.int .i64 ((maxL (st.drop (st.length - j)) : Int) + 1)) (by rfl) wr.heap.size (by rfl) (by simp) rfl ot (by omega) (by omega) (by omega) ?_); intro g3 cap3 w3 o3 hgrow hs3)
            go_roundw
            case rel =>
              go_light
              have hv : (Value.int .i64 ((maxL (st.drop (st.length - j)) : Int) + 1)) = .int .i64 ((maxL (st.drop (st.length - j)) + 1 : Nat) : Int) := by go_num
              rw [hv] at o3
              have hln : (st.take (st.length - j) ++ [maxL (st.drop (st.length - j)) + 1]).length = st.length - j + 1 := by rw [List.length_append, List.length_take, List.length_singleton]; omega
              refine ⟨k + 1, st.take (st.length - j) ++ [maxL (st.drop (st.length - j)) + 1], fr2, st2, g3, cap3, by omega, by go_num, ?_, HB2.out, by rw [hln]; omega, ?_, by rw [hln]; omega, by rw [hln], by rw [hln, ints_append]; exact o3, ?_⟩
              · have : deepFrom (es.drop (k + 1)) (st.take (st.length - j) ++ [maxL (st.drop (st.length - j)) + 1]) = deepFrom es [] := by
                  rw [← hr.out, HU.out, HM.out, Int.toNat_natCast]
                exact this
              · intro x hx
                rw [List.mem_append, List.mem_singleton] at hx
                rcases hx with hx | rfl
                · have := hmx x (List.mem_of_mem_take hx); omega
                · omega
              · exact hbel.grown hgrow hs0 (fun q hq => by simp [Value.ownBlock] at hq; omega)
            case measure => simp [intOf]; omega
    · have hke : k = es.length := by omega
      have HK := Lib.hid hke
      clear hke
      have hfin := hbk.out
      rw [List.drop_of_length_le (by omega), beginsFrom] at hfin
      have hst1 : st'.length = 1 := by
        have h2 := Option.some.inj hfin
        rw [Prod.mk.injEq] at h2
        rw [h2.2]; rfl
      have hst2 : 0 < st.length := by omega
      have hc0 := own_cell hown 0 hst2
      have hz : st[0] = deepF es := by
        unfold deepF
        rw [← hr.out, List.drop_of_length_le (by omega), deepFrom, List.getD_eq_getElem?_getD, List.getElem?_eq_getElem hst2]
        rfl
      have HZ := Lib.hid hz
      clear hz hfin hst1 hle
      go_wp2
      go_ret
      exact ⟨ret_nat HZ.out, hbel⟩
theorem boundW_c {es : List XOp} {fr : List Nat} {b : Nat} {A : Option Addr} {c : Nat} {w : World} (hx : OpsAt w A es) (hl : es.length ≤ 256) (ht : ∀ o ∈ es, o.text.size ≤ 140737488355328) (hbg : beginsF es = some (fr, [b])) :
    Calls Tryd.prog 73 #[.slice A es.length c] w fun e w' => e = .returned (.bool (walkF es fr es.length (es.length - 1) [])) ∧ Below w.heap.size w w' := by
  obtain ⟨hfl, hroot, hpos, hg⟩ := begins_good hbg
  have hwb := walk_bound hg es.length (es.length - 1) [] (by omega) (by omega)
  rw [getD_of hroot 0] at hwb
  refine (boundR_c es fr b A c w hx hl ht hbg).mono ?_
  rintro e w2 ⟨r, rfl, hr, hb2⟩
  refine ⟨ret_bool ?_, hb2⟩
  rw [Bool.eq_iff_iff, hr, hwb]
set_option maxHeartbeats 4000000 in
set_option maxRecDepth 100000 in
theorem checkR_c (es : List XOp) (A : Option Addr) (c : Nat) (w : World) (hx : OpsAt w A es) (hl : es.length * 40 ≤ 140737488355328) (ht : ∀ o ∈ es, o.text.size ≤ 140737488355328) :
    Calls Tryd.prog 57 #[.slice A es.length c] w fun e w' => e = .returned (.int .i64 (checkF es)) ∧ Below w.heap.size w w' := by
  by_cases hlen : es.length ≤ 256
  · cases hbg : beginsF es with
    | none =>
      have hcf : checkF es = 5 := by unfold checkF; rw [if_neg (by omega), hbg]
      have HC := Lib.hid hcf
      have HBG := Lib.hid hbg
      clear hcf hbg
      go_enter Tryd.func57, Tryd.ntmps57
      go_wp2_with (go_at_call 72; refine (beginsR_c es A c _ hx hl ht).mono ?_; intro e w1 hp; obtain ⟨rfl, hb1⟩ := post_none HBG.out hp; clear hp)
      go_ret
      exact ⟨ret_int HC.out.symm, hb1⟩
    | some fs =>
      obtain ⟨fr, st⟩ := fs
      by_cases h1 : st.length = 1
      · obtain ⟨b, rfl⟩ := List.length_eq_one_iff.1 h1
        have hgd := begins_good hbg
        obtain ⟨hfl, hroot, hpos, hg⟩ := hgd
        have hcf : checkF es = if walkF es fr es.length (es.length - 1) [] = true then (if longB es = true then 3 else if 32 < deepF es then 3 else 0) else 5 := by unfold checkF; rw [if_neg (by omega), hbg]
        have HC := Lib.hid hcf
        have HBG := Lib.hid hbg
        have hex : ∃ fr b, beginsF es = some (fr, [b]) := ⟨fr, b, hbg⟩
        have HE := Lib.hid hex
        clear hex
        clear hcf hbg hroot hg h1 hfl
        cases hwk : walkF es fr es.length (es.length - 1) []
        · have HK := Lib.hid hwk
          clear hwk
          go_enter Tryd.func57, Tryd.ntmps57
          go_wp2_with (first | (go_at_call 72; refine (beginsR_c es A c _ hx hl ht).mono ?_; intro e w1 hp; obtain ⟨B, d, rfl, hn1, hb1⟩ := post_some HBG.out hp; have hx1 := hx.below hb1; clear hp) | (go_at_call 73; refine (boundW_c hx1 hlen ht HBG.out).mono ?_; rw [HK.out]; rintro e w2 ⟨rfl, hb2⟩))
          go_ret
          exact ⟨ret_int (by rw [HC.out, HK.out]; rfl), hb1.trans (hb2.mono hb1.size)⟩
        · have hcf := HC.out
          rw [hwk, if_pos rfl] at hcf
          clear HC
          have HC := Lib.hid hcf
          clear hcf
          have HK := Lib.hid hwk
          clear hwk
          go_enter Tryd.func57, Tryd.ntmps57
          go_wp2_with (first | (go_at_call 72; refine (beginsR_c es A c _ hx hl ht).mono ?_; intro e w1 hp; obtain ⟨B, d, rfl, hn1, hb1⟩ := post_some HBG.out hp; have hx1 := hx.below hb1; clear hp) | (go_at_call 73; refine (boundW_c hx1 hlen ht HBG.out).mono ?_; rw [HK.out]; rintro e w2 ⟨rfl, hb2⟩))
          have hx2 := hx1.below hb2
          have hbw := hb1.trans (hb2.mono hb1.size)
          clear hn1 hx1
          go_loop [5] (fun i => ∃ k : Nat, k ≤ es.length ∧ i = .int .i64 k ∧ Hid (∀ j (hj : j < es.length), j < k → es[j].text.size ≤ 4096)) (fun i => es.length - (intOf i).toNat)
          case atStart => exact ⟨0, by omega, rfl, fun j _ h => by omega⟩
          case round =>
            obtain ⟨k, hk, rfl, hr⟩ := hrel
            by_cases hlt : k < es.length
            · rcases hx2 with hx0 | ⟨b', off, rfl, hb', hcr⟩
              · rw [hx0] at hpos; simp at hpos
              obtain ⟨h0, h1, h2, h3⟩ := hcr k hlt
              have htk := ht es[k] (List.getElem_mem hlt)
              clear hcr
              by_cases hsz : es[k].text.size ≤ 4096
              · go_wp2
                go_round
                case rel =>
                  go_light
                  refine ⟨k + 1, by omega, by go_num, fun j hj hjk => ?_⟩
                  rcases Nat.lt_or_ge j k with h | h
                  · exact hr.out j hj h
                  · obtain rfl : j = k := by omega
                    exact hsz
                case measure => simp [intOf]; omega
              · have hlg := long_true hlt (by omega)
                have HLG := Lib.hid hlg
                clear hlg
                go_wp2
                go_ret
                exact ⟨ret_int (by rw [HC.out, if_pos HLG.out]), hbw⟩
            · have hlg := long_false (fun j hj => hr.out j hj (by omega))
              have HLG := Lib.hid hlg
              clear hlg
              go_wp2_with (go_at_call 74; refine (deepest_c es A c _ hx2 hlen HE.out).mono ?_; rintro e w4 ⟨rfl, hb4⟩)
              all_goals go_ret
              all_goals refine ⟨ret_int (by rw [HC.out, HLG.out]; simp; omega), hbw.trans (hb4.mono hbw.size)⟩
      · have hcf : checkF es = 5 := by
          unfold checkF; rw [if_neg (by omega), hbg]
          split
          · next h => cases h; simp at h1
          · rfl
        have HC := Lib.hid hcf
        have HBG := Lib.hid hbg
        clear hcf hbg
        have hq : ((st.length : Int) == 1) = false := by simp; omega
        go_enter Tryd.func57, Tryd.ntmps57
        go_wp2_with (go_at_call 72; refine (beginsR_c es A c _ hx hl ht).mono ?_; intro e w1 hp; obtain ⟨B, d, rfl, hn1, hb1⟩ := post_some HBG.out hp; clear hp)
        go_ret
        exact ⟨ret_int HC.out.symm, hb1⟩
  · have hcf : checkF es = 3 := by unfold checkF; rw [if_pos (by omega)]
    have HC := Lib.hid hcf
    clear hcf
    go_enter Tryd.func57, Tryd.ntmps57
    go_wp2
    go_ret
    exact ⟨ret_int HC.out.symm, Below.refl _ _⟩
end Go.Proofs.YtofmdmmgbfbaoaaDoor
