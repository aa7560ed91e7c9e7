/- The law NamesRenames. -/
import Derived.Test.YtgopflklcfcocaaDoorA37
namespace Go.Proofs.YtgopflklcfcocaaDoor
open Go.RowKit

/-- What a call that answers with an expression and a word leaves. -/
def ExprPost (al : List XOp) (ac : Int) (w : World) (e : Ending) (w' : World) : Prop := ∃ X d, e = .returned (.tuple #[.slice X al.length d, .int .i64 ac]) ∧ OpsAt w' X al ∧ Below w.heap.size w w'
theorem RenPost.row {es : List XOp} {f t : ByteArray} {w w' : World} {e : Ending} {ac : Int} {al : List XOp} (h : RenPost es f t w e w') (ha : renAns es f t = (ac, al)) : ExprPost al ac w e w' := by
  unfold RenPost at h
  rw [ha] at h
  obtain ⟨v, rfl, hown, hb⟩ := h
  obtain ⟨X, d, rfl, hn, _⟩ := own_ops hown
  exact ⟨X, d, rfl, hn, hb⟩
theorem ops_drewN {w : World} {A : Option Addr} {es : List XOp} (h : OpsAt w A es) (n : Nat) : OpsAt (w.drewN n) A es := h
theorem ask_no {es : List XOp} (h : checkF es ≠ 0) (kind : Int) : askAns es kind = (checkF es, []) := by unfold askAns; rw [if_pos h]
theorem sure_no {es : List XOp} (h : checkF es ≠ 0) : sureAns es = (checkF es, []) := by unfold sureAns; rw [if_pos h]
theorem ask_yes {es : List XOp} (h : checkF es = 0) (kind : Int) : askAns es kind = (0, textsF es kind) := by unfold askAns; rw [if_neg (by simpa using h)]
theorem sure_yes {es : List XOp} (h : checkF es = 0) : sureAns es = (0, sureL es) := by unfold sureAns; rw [if_neg (by simpa using h)]
theorem ren_no {es : List XOp} {f t : ByteArray} (h : checkF es = 0) (hn : isName f = false ∨ isName t = false) : renAns es f t = (2, []) := by unfold renAns; rw [if_neg (by simpa using h), if_pos hn]

set_option maxHeartbeats 4000000 in
set_option maxRecDepth 100000 in
theorem namesRenames_c (es : List XOp) (f t : ByteArray) (A : Option Addr) (c : Nat) (w : World) (hx : OpsAt w A es) (hl : es.length * 40 ≤ 140737488355328) (ht : ∀ o ∈ es, o.text.size ≤ 140737488355328) (hf : f.size ≤ 140737488355328) (htt : t.size ≤ 140737488355328) (hkeys : KeysIn w) :
    Calls Tryd.prog 6 #[.slice A es.length c, .string f, .string t] w fun e w' => e = .returned (.bool true) ∧ Below w.heap.size w w' := by
  by_cases h0 : checkF es = 0
  · have hAN := fun (W : World) (B : Option Addr) (d : Nat) h1 h2 => (askedN_c es B d W h1 hl h2 ht).mono (fun e w' hp => AskPost.row hp (ask_yes h0 3))
    have hSN := fun (W : World) (B : Option Addr) (d : Nat) h1 h2 => (sureN_c es B d W h1 hl h2 ht).mono (fun e w' hp => SurePost.row hp (sure_yes h0))
    have hal := ask_len es 3
    rw [ask_yes h0] at hal
    have hsl := sure_len es
    rw [sure_yes h0] at hsl
    simp only at hal hsl
    have hin := fun (k : Nat) (hk : k < (sureL es).length) => sure_in (List.getElem_mem hk)
    obtain ⟨hlen, _⟩ := check_zero h0
    have HAN := Lib.hid hAN
    have HSN := Lib.hid hSN
    have HIN := Lib.hid hin
    have H0 := Lib.hid h0
    clear hAN hSN hin h0
    have hmT : ∀ (y : Bool), memB t (textsF es 3) = y → y = memB t (textsF es 3) := fun y h => h.symm
    generalize hta : textsF es 3 = al at *
    generalize hsu : sureL es = sl at *
    have HTA := Lib.hid hta
    clear hta hsu hmT
    go_enter Tryd.func6, Tryd.ntmps6
    go_wp2_with (first | (go_at_call 31; refine (works_c _ hkeys).mono ?_; rintro e w1 ⟨rfl, hb1⟩; have hx1 := hx.below hb1; have hk1 := hkeys.below hb1) | (go_at_call 24; refine (HAN.out _ A c hx1 hk1).mono ?_; rintro e w2 ⟨B2, d2, rfl, hn2, hb2⟩; have hbw2 := hb1.trans (hb2.mono hb1.size)) | (go_at_call 27; refine (HSN.out _ A c (hx.below hbw2) (hkeys.below hbw2)).mono ?_; rintro e w3 ⟨B3, d3, rfl, hn3, hb3⟩; have hbw3 := hbw2.trans (hb3.mono hbw2.size)))
    have hn23 := hn2.below hb3
    go_loopw [11] (fun i wr => ∃ k : Nat, k ≤ sl.length ∧ i = .int .i64 k ∧ wr = w3) (fun i _ => sl.length - (intOf i).toNat)
    case atStart => exact ⟨0, by omega, rfl, by trivial⟩
    case round =>
      obtain ⟨k, hk, rfl, rfl⟩ := hrel
      by_cases hlt : k < sl.length
      · rcases hn3 with h | ⟨bx, ox, rfl, hbx, hcx⟩
        · rw [h] at hlt; simp at hlt
        have hck := hcx k hlt
        have hin := HIN.out k hlt
        have HI := Lib.hid hin
        clear hin hcx
        go_wp2_with (go_at_call 32; refine (in_c al sl[k] B2 d2 _ hn23 (by omega)).mono ?_; rintro e w' ⟨rfl, rfl⟩; rw [HI.out])
        go_roundw
        case rel => exact ⟨k + 1, by omega, by go_num, by trivial⟩
        case measure => simp [intOf]; omega
      · cases hm : memB t al
        · have HM := Lib.hid hm
          clear hm hn3
          by_cases hnn : isName f = true ∧ isName t = true
          · obtain ⟨hr1, hr2, hr3⟩ := ren_law H0.out hnn.1 hnn.2 (by rw [HTA.out]; exact HM.out)
            rw [HTA.out] at hr2
            have hts2 : t.size ≤ 24 := by have := hnn.2; unfold isName at this; simp at this; omega
            have hRN := fun (W : World) (B : Option Addr) (d : Nat) h1 h2 => (renameN_c es f t B d W h1 hl h2 ht hf htt).mono (fun e w' hp => RenPost.row hp hr1)
            have htx : ∀ o ∈ es.map (renOp f t), o.text.size ≤ 140737488355328 := fun o ho => by
              obtain ⟨q, hq, rfl⟩ := List.mem_map.1 ho
              unfold renOp
              split
              · exact htt
              · exact ht q hq
            have hxl : (es.map (renOp f t)).length = es.length := by simp
            generalize hxs : es.map (renOp f t) = xs at *
            have hlx : xs.length * 40 ≤ 140737488355328 := by omega
            have hAX := fun (W : World) (B : Option Addr) (d : Nat) h1 h2 => (askedN_c xs B d W h1 hlx h2 htx).mono (fun e w' hp => AskPost.row hp hr2)
            have hRX := fun (W : World) (B : Option Addr) (d : Nat) h1 h2 => (renameN_c xs t f B d W h1 hlx h2 htx htt hf).mono (fun e w' hp => RenPost.row hp hr3)
            have hbl : (al.map (renS f t)).length = al.length := by simp
            have hbg : ∀ j (h : j < (al.map (renS f t)).length) (h2 : j < al.length), (al.map (renS f t))[j] = renS f t al[j] := fun j h h2 => by simp
            generalize hbs : al.map (renS f t) = bl at *
            have hbl0 : ((bl.length : Int) != (al.length : Int)) = false := by rw [hbl]; simp
            have HXL := Lib.hid hxl
            have HBL := Lib.hid hbl
            have HRN := Lib.hid hRN
            have HAX := Lib.hid hAX
            have HRX := Lib.hid hRX
            have HBG := Lib.hid hbg
            clear hRN hAX hRX hbg hr1 hr2 hr3 hnn hxs hbs htx hxl hbl
            go_wp2_with (first | (go_at_call 32; refine (in_c al t B2 d2 _ hn23 (by omega)).mono ?_; rintro e w' ⟨rfl, rfl⟩; rw [HM.out]) | (go_at_call_of 22 (Value.string f); refine (HRN.out _ A c (hx.below hbw3) (hkeys.below hbw3)).mono ?_; rintro e w4 ⟨X4, d4, rfl, hx4, hb4⟩; have hbw4 := hbw3.trans (hb4.mono hbw3.size)) | (go_at_call 24; refine (HAX.out _ X4 d4 hx4 (hkeys.below hbw4)).mono ?_; rintro e w5 ⟨B5, d5, rfl, hn5, hb5⟩; have hbw5 := hbw4.trans (hb5.mono hbw4.size)))

            have hn2r := (hn23.below hb4).below hb5
            have hx4r := hx4.below hb5
            have hk5 := hkeys.below hbw5
            have hx5 := hx.below hbw5
            clear hn23 hx4
            go_loopw [14] (fun i wr => ∃ k n : Nat, k ≤ al.length ∧ i = .int .i64 k ∧ wr = w5.drewN n) (fun i _ => al.length - (intOf i).toNat)
            case atStart => exact ⟨0, 0, by omega, rfl, rfl⟩
            case round =>
              obtain ⟨k, n, hk, rfl, rfl⟩ := hrel
              by_cases hlt : k < al.length
              · rcases hn2r with h | ⟨ba, oa, rfl, hba, hca⟩
                · rw [h] at hlt; simp at hlt
                rcases hn5 with h | ⟨bb, ob, rfl, hbb, hcb⟩
                · have := HBL.out; rw [h] at this; simp at this; omega
                have hka := hca k hlt
                have hkb := hcb k (by rw [HBL.out]; exact hlt)
                rw [HBG.out k _ hlt] at hkb
                have hi0 : (0 : Int) ≤ (k : Int) := Int.natCast_nonneg _
                have hi1 : (k : Int) < (al.length : Int) := by omega
                have hi2 : (k : Int) < (bl.length : Int) := by rw [HBL.out]; omega
                have hi3 : k < bl.length := by rw [HBL.out]; exact hlt
                clear hca hcb
                by_cases he : al[k] = f
                · have e1 : (al[k].toList != f.toList) = false := by rw [he]; simp
                  have e2 : (al[k].toList == f.toList) = true := by rw [he]; simp
                  have e3 : renS f t al[k] = t := by unfold renS; rw [if_pos he]
                  have e4 : (t.toList != t.toList) = false := by simp
                  rw [e3] at hkb
                  clear he e3
                  go_wp2_with fail
                  go_quiet (fail)
                  go_wp2
                  go_roundw
                  case rel => exact ⟨k + 1, _, by omega, by go_num, rfl⟩
                  case measure => simp [intOf]; omega
                · have e1 : (al[k].toList != f.toList) = true := by
                    have := bytes_beq al[k] f
                    rw [decide_eq_false he] at this
                    simp [bne, this]
                  have e2 : (al[k].toList == f.toList) = false := by rw [bytes_beq]; simpa using he
                  have e3 : renS f t al[k] = al[k] := by unfold renS; rw [if_neg he]
                  have e4 : (al[k].toList != al[k].toList) = false := by simp
                  rw [e3] at hkb
                  clear he e3
                  go_wp2_with fail
                  go_quiet (fail)
                  go_wp2
                  go_roundw
                  case rel => exact ⟨k + 1, _, by omega, by go_num, rfl⟩
                  case measure => simp [intOf]; omega
              · have hq : Below w.heap.size w (w5.drewN n) := below_drewN hbw5 n
                go_wp2_with (first | (go_at_call 22; refine (HRX.out _ X4 d4 (ops_drewN hx4r n) (hkeys.below hq)).mono ?_; rintro e w6 ⟨X6, d6, rfl, hx6, hb6⟩; have hbw6 := hq.trans (hb6.mono hq.size)) | (go_at_call 17; refine (sameExpr_b es X6 A d6 c _ hx6 (hx.below hbw6) hl).mono ?_; rintro e w7 ⟨rfl, hb7⟩))
                go_ret
                exact ⟨rfl, hbw6.trans (hb7.mono hbw6.size)⟩
          · have hnn' : isName f = false ∨ isName t = false := by
              cases h1 : isName f
              · exact .inl rfl
              · cases h2 : isName t
                · exact .inr rfl
                · exact absurd ⟨h1, h2⟩ hnn
            have hRN := fun (W : World) (B : Option Addr) (d : Nat) h1 h2 => (renameN_c es f t B d W h1 hl h2 ht hf htt).mono (fun e w' hp => RenPost.row hp (ren_no H0.out hnn'))
            have HRN := Lib.hid hRN
            clear hRN hnn hnn'
            go_wp2_with (first | (go_at_call 32; refine (in_c al t B2 d2 _ hn23 (by omega)).mono ?_; rintro e w' ⟨rfl, rfl⟩; rw [HM.out]) | (go_at_call_of 22 (Value.string f); refine (HRN.out _ A c (hx.below hbw3) (hkeys.below hbw3)).mono ?_; rintro e w4 ⟨X4, d4, rfl, hx4, hb4⟩; have hbw4 := hbw3.trans (hb4.mono hbw3.size)))
            go_ret
            exact ⟨rfl, hbw4⟩
        · have HM := Lib.hid hm
          clear hm
          go_wp2_with (go_at_call 32; refine (in_c al t B2 d2 _ hn23 (by omega)).mono ?_; rintro e w' ⟨rfl, rfl⟩; rw [HM.out])
          go_ret
          exact ⟨rfl, hbw3⟩
  · have hAN := fun (W : World) (B : Option Addr) (d : Nat) h1 h2 => (askedN_c es B d W h1 hl h2 ht).mono (fun e w' hp => AskPost.row hp (ask_no h0 3))
    have hSN := fun (W : World) (B : Option Addr) (d : Nat) h1 h2 => (sureN_c es B d W h1 hl h2 ht).mono (fun e w' hp => SurePost.row hp (sure_no h0))
    have hb0 : (checkF es != 0) = true := by simpa using h0
    have HAN := Lib.hid hAN
    have HSN := Lib.hid hSN
    clear hAN hSN h0
    go_enter Tryd.func6, Tryd.ntmps6
    go_wp2_with (first | (go_at_call 31; refine (works_c _ hkeys).mono ?_; rintro e w1 ⟨rfl, hb1⟩; have hx1 := hx.below hb1; have hk1 := hkeys.below hb1) | (go_at_call 24; refine (HAN.out _ A c hx1 hk1).mono ?_; rintro e w2 ⟨B2, d2, rfl, hn2, hb2⟩; have hbw2 := hb1.trans (hb2.mono hb1.size)) | (go_at_call 27; refine (HSN.out _ A c (hx.below hbw2) (hkeys.below hbw2)).mono ?_; rintro e w3 ⟨B3, d3, rfl, hn3, hb3⟩; have hbw3 := hbw2.trans (hb3.mono hbw2.size)))
    go_ret
    exact ⟨by simp, hbw3⟩
end Go.Proofs.YtgopflklcfcocaaDoor
