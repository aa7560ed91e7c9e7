/- The reference's Sure. -/
import Derived.Test.YtgopflklcfcocaaDoorA33
namespace Go.Proofs.YtgopflklcfcocaaDoor
open Go.RowKit

set_option maxHeartbeats 4000000 in
set_option maxRecDepth 100000 in
theorem sureRS_c (es : List XOp) (A : Option Addr) (c : Nat) (w : World) (hx : OpsAt w A es) (hl : es.length * 40 ≤ 140737488355328) (ht : ∀ o ∈ es, o.text.size ≤ 140737488355328) :
    Calls Tryd.prog 28 #[.slice A es.length c] w (SurePost es w) := by
  by_cases h0 : checkF es = 0
  · have hb0 : (checkF es != 0) = false := by simpa using h0
    obtain ⟨hlen, fr, b0, hbg⟩ := check_zero h0
    obtain ⟨hfl, _, hpos, hg⟩ := begins_good hbg
    have hsl := sureL_of hbg
    have htl := texts_length (kind := 3) es []
    have hsc := fun (A : Option Addr) (c : Nat) (W : World) => sureR_c es fr b0 hbg hlen ht es.length (es.length - 1) es.length A c W (by omega) (by omega) (by omega)
    have hkk : (es.length : Int) - 1 = ((es.length - 1 : Nat) : Int) := by omega
    have hspan : spanN fr (es.length - 1) ≤ 257 := by unfold spanN; omega
    generalize hT : textsF es 3 = T at *
    generalize hF : sureF es fr es.length (es.length - 1) = F at *
    have hTl : T.length ≤ 256 := by rw [← hT]; unfold textsF; simp at htl; omega
    have HT := Lib.hid hT
    have HSL := Lib.hid hsl
    have HSC := Lib.hid hsc
    have H0 := Lib.hid h0
    clear hT hF hsl hbg hsc h0 hfl hg htl
    go_enter Tryd.func28, Tryd.ntmps28
    go_wp2_with (first | (go_at_call 14; refine (checkR_c es A c _ hx hl ht).mono ?_; rintro e w1 ⟨rfl, hb1⟩) | (go_at_call 65; refine (HSC.out A c _ (hx.below hb1)).mono ?_; rintro e w3 ⟨v3, l, rfl, hown3, hm3, hll3, hb3⟩; obtain ⟨L, cl, rfl, hls, hq1⟩ := own_strs hown3; clear hq1; have hbw3 := hb1.trans (hb3.mono hb1.size); have HM3 := Lib.hid hm3; clear hm3 hown3) | (go_at_call 63; refine (textsR_c es 3 A c _ (hx.below hbw3) hl).mono ?_; rintro e w4 ⟨v, rfl, hown, hb4⟩; rw [HT.out] at hown; obtain ⟨X, cx, rfl, hxs, hq2⟩ := own_strs hown; clear hq2; have hbw4 := hbw3.trans (hb4.mono hbw3.size)))
    have hls4 := hls.below hb4
    have hs4 := hbw4.size
    have hl257 : l.length ≤ 257 := by omega
    clear hls hb1 hb3 hb4 hown
    go_loopw [7, 8] (fun v i wr => ∃ (k : Nat) (out : List ByteArray), k ≤ T.length ∧ i = .int .i64 k ∧ out.length ≤ k ∧ Hid (out = (T.take k).filter F) ∧ wr.ownsRow w4.heap.size 9 1 v (out.map Value.string).length (out.map Value.string) ∧ Below w4.heap.size w4 wr) (fun _ i _ => T.length - (intOf i).toNat)
    case atStart => exact ⟨0, [], by omega, rfl, by simp, by simp [Hid], World.ownsRow_made w4 #[] 0 (Nat.le_refl _) (by simp [maxLen]) (by simp), (Below.refl _ _).alloc (Nat.le_refl _) _⟩
    case round =>
      obtain ⟨k, out, hk, rfl, ho, hr, hown, hbel⟩ := hrel
      have hbs := hbel.size
      by_cases hlt : k < T.length
      · rcases hxs.below hbel with h | ⟨bx, ox, rfl, hbx, hcx⟩
        · rw [h] at hlt; simp at hlt
        have hck := hcx k hlt
        have hlr := hls4.below hbel
        obtain ⟨A1, c1, rfl, hs, hl1⟩ := own_strs hown
        have hnx : (T.take (k + 1)).filter F = (T.take k).filter F ++ (if F T[k] then [T[k]] else []) := by
          rw [List.take_succ_eq_append_getElem hlt, List.filter_append]
          congr 1
          by_cases h : F T[k] <;> simp [h]
        have HNX := Lib.hid hnx
        clear hcx hl1 hnx
        cases hF : F T[k]
        · have hh : memB T[k] l = false := by rw [HM3.out]; exact hF
          have HF := Lib.hid hF
          have HH := Lib.hid hh
          clear hF hh
          go_wp2_with (go_at_call 32; refine (in_c l T[k] L cl _ hlr (by omega)).mono ?_; rintro e w' ⟨rfl, rfl⟩; rw [HH.out])
          go_roundw
          case rel => exact ⟨k + 1, out, by omega, by go_num, by omega, by have := hr.out; show out = _; rw [HNX.out, HF.out, this]; simp, hown, hbel⟩
          case measure => simp [intOf]; omega
        · have hh : memB T[k] l = true := by rw [HM3.out]; exact hF
          have HF := Lib.hid hF
          have HH := Lib.hid hh
          clear hF hh
          go_wp2_with (first | (go_at_call 32; refine (in_c l T[k] L cl _ hlr (by omega)).mono ?_; rintro e w' ⟨rfl, rfl⟩; rw [HH.out]) | (at_builtin; refine app_one (w0 := w4) w4.heap.size (by rfl) _ _ 47 9 (.string ⟨#[]⟩) 16 (by rfl) Tryd.underlying47 info_str rfl (.slice A1 out.length c1) (out.map Value.string) (.string T[k]) (by rfl) wr.heap.size (by rfl) rfl rfl hown hbel hbs (by simp; omega) (by simp; omega) ?_; intro v1 w5 hown1 hbel1 _ _))
          go_roundw
          case rel => exact ⟨k + 1, out ++ [T[k]], by omega, by go_num, by simp; omega, by have := hr.out; show out ++ [T[k]] = _; rw [HNX.out, HF.out, this]; simp, by simpa using hown1, hbel1⟩
          case measure => simp [intOf]; omega
      · have hz : out = sureL es := by rw [hr.out, HSL.out, List.take_of_length_le (by omega)]
        have HZ := Lib.hid hz
        clear hz
        go_wp2
        go_ret2
        refine sure_ok H0.out ?_ (hbw4.trans (hbel.mono hs4))
        rw [← HZ.out]
        have := hown.mono hs4
        simpa using this
  · have hb0 : (checkF es != 0) = true := by simpa using h0
    have H0 := Lib.hid h0
    clear h0
    go_enter Tryd.func28, Tryd.ntmps28
    go_wp2_with (go_at_call 14; refine (checkR_c es A c _ hx hl ht).mono ?_; rintro e w1 ⟨rfl, hb1⟩)
    go_ret2
    exact sure_nil H0.out hb1
end Go.Proofs.YtgopflklcfcocaaDoor
