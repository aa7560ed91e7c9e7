/- names.Sure. -/
import Derived.Test.YtgopflklcfcocaaDoorA30
namespace Go.Proofs.YtgopflklcfcocaaDoor
open Go.RowKit Go.Maps Go.ChangeMaps Go.WideShapes

/-- The names that are surely asked. -/
def sureL (es : List XOp) : List ByteArray := match beginsF es with | some (fr, _) => (textsF es 3).filter (sureF es fr es.length (es.length - 1)) | none => []
theorem sureL_of {es : List XOp} {fr st : List Nat} (h : beginsF es = some (fr, st)) : sureL es = (textsF es 3).filter (sureF es fr es.length (es.length - 1)) := by unfold sureL; rw [h]
def sureAns (es : List XOp) : Int × List ByteArray := if checkF es ≠ 0 then (checkF es, []) else (0, sureL es)
def SurePost (es : List XOp) (w : World) (e : Ending) (w' : World) : Prop := ∃ v, e = .returned (.tuple #[v, .int .i64 (sureAns es).1]) ∧ w'.ownsRow w.heap.size 9 1 v (sureAns es).2.length ((sureAns es).2.map Value.string) ∧ Below w.heap.size w w'
theorem sure_nil {es : List XOp} {w w' : World} (h : checkF es ≠ 0) (hb : Below w.heap.size w w') : SurePost es w (.returned (.tuple #[.slice none 0 0, .int .i64 (checkF es)])) w' := by
  have : sureAns es = (checkF es, []) := by unfold sureAns; rw [if_pos h]
  unfold SurePost
  rw [this]
  exact ⟨_, rfl, World.ownsRow_nil _ _ _ _, hb⟩
theorem sure_ok {es : List XOp} {v : Value} {w w' : World} (h : checkF es = 0) (ho : w'.ownsRow w.heap.size 9 1 v (sureL es).length ((sureL es).map Value.string)) (hb : Below w.heap.size w w') : SurePost es w (.returned (.tuple #[v, .int .i64 0])) w' := by
  have : sureAns es = (0, sureL es) := by unfold sureAns; rw [if_neg (by simpa using h)]
  unfold SurePost
  rw [this]
  exact ⟨v, rfl, ho, hb⟩
theorem textsFrom_mem {kind : Int} : ∀ {es : List XOp} {out : List ByteArray} {x : ByteArray}, x ∈ textsFrom kind es out → x ∈ out ∨ ∃ o ∈ es, x = o.text
  | [], out, x, h => .inl h
  | o :: es, out, x, h => by
    rw [textsFrom] at h
    rcases textsFrom_mem h with h | ⟨o', ho', e⟩
    · split at h
      · rw [List.mem_append, List.mem_singleton] at h
        rcases h with h | h
        · exact .inl h
        · exact .inr ⟨o, by simp, h⟩
      · exact .inl h
    · exact .inr ⟨o', by simp [ho'], e⟩
theorem texts_length {kind : Int} : ∀ (es : List XOp) (out : List ByteArray), (textsFrom kind es out).length ≤ out.length + es.length
  | [], out => by simp [textsFrom]
  | o :: es, out => by
    rw [textsFrom]
    refine Nat.le_trans (texts_length es _) ?_
    split
    · rw [List.length_append, List.length_singleton, List.length_cons]; omega
    · rw [List.length_cons]; omega

set_option maxHeartbeats 4000000 in
set_option maxRecDepth 100000 in
theorem sureN_c (es : List XOp) (A : Option Addr) (c : Nat) (w : World) (hx : OpsAt w A es) (hl : es.length * 40 ≤ 140737488355328) (hkeys : KeysIn w) (ht : ∀ o ∈ es, o.text.size ≤ 140737488355328) :
    Calls Tryd.prog 27 #[.slice A es.length c] w (SurePost es w) := by
  by_cases h0 : checkF es = 0
  · have hb0 : (checkF es != 0) = false := by simpa using h0
    obtain ⟨hlen, fr, b0, hbg⟩ := check_zero h0
    obtain ⟨hfl, _, hpos, hg⟩ := begins_good hbg
    have hW := whole_of hlen hfl hg
    have hsl := sureL_of hbg
    have htl := texts_length (kind := 3) es []
    have htm := fun x (h : x ∈ textsF es 3) => textsFrom_mem h
    have hsc := fun (A B : Option Addr) (c d : Nat) (W : World) => sure_c es fr hW hg ht es.length (es.length - 1) es.length A B c d W (by omega) (by omega) (by omega)
    have hkk : (es.length : Int) - 1 = ((es.length - 1 : Nat) : Int) := by omega
    generalize hT : textsF es 3 = T at *
    generalize hF : sureF es fr es.length (es.length - 1) = F at *
    have hTl : T.length ≤ 256 := by rw [← hT]; unfold textsF; simp at htl; omega
    have hTs : ∀ x ∈ T, x.size ≤ 140737488355328 := fun x h => by
      rcases htm x h with h | ⟨o, ho, rfl⟩
      · simp at h
      · exact ht o ho
    have HT := Lib.hid hT
    have HSL := Lib.hid hsl
    have HBG := Lib.hid hbg
    have HSC := Lib.hid hsc
    have H0 := Lib.hid h0
    clear hT hF hsl hbg hsc h0 hfl hg hW htm htl
    go_enter Tryd.func27, Tryd.ntmps27
    go_wp2_with (first | (go_at_call 13; refine (check_c es A c _ hx hl hkeys ht).mono ?_; rintro e w1 ⟨rfl, hb1⟩) | (go_at_call 46; refine (begins_some HBG.out (hx.below hb1) hl (hkeys.below hb1) ht).mono ?_; rintro e w2 ⟨B, d, rfl, hn2, hb2⟩; have hbw2 := hb1.trans (hb2.mono hb1.size)) | (go_at_call 64; refine (HSC.out A B c d _ (hx.below hbw2) hn2).mono ?_; rintro e w3 ⟨b, rfl, hbge, hset, hb3⟩; have hbw3 := hbw2.trans (hb3.mono hbw2.size)) | (go_at_call 62; refine (texts_c es 3 A c _ (hx.below hbw3) hl).mono ?_; rintro e w4 ⟨v, rfl, hown, hb4⟩; rw [HT.out] at hown; obtain ⟨X, cx, rfl, hxs, _⟩ := own_strs hown; have hbw4 := hbw3.trans (hb4.mono hbw3.size)))
    have hset4 := hset.below hb4
    have hs4 := hbw4.size
    clear hset hb1 hb2 hb3 hb4 hn2 hown
    go_loopw [8, 32] (fun v i wr => ∃ (k : Nat) (out : List ByteArray), k ≤ T.length ∧ i = .int .i64 k ∧ out.length ≤ k ∧ Hid (out = (T.take k).filter F) ∧ wr.ownsRow w4.heap.size 9 1 v (out.map Value.string).length (out.map Value.string) ∧ Below w4.heap.size w4 wr) (fun _ i _ => T.length - (intOf i).toNat)
    case atStart => exact ⟨0, [], by omega, rfl, by simp, by simp [Hid], World.ownsRow_nil _ _ _ _, Below.refl _ _⟩
    case round =>
      obtain ⟨k, out, hk, rfl, ho, hr, hown, hbel⟩ := hrel
      have hbs := hbel.size
      by_cases hlt : k < T.length
      · rcases hxs.below hbel with h | ⟨bx, ox, rfl, hbx, hcx⟩
        · rw [h] at hlt; simp at hlt
        have hck := hcx k hlt
        have htk := hTs T[k] (List.getElem_mem hlt)
        have hkx := kl_of T[k] htk
        obtain ⟨D, hD, hDs⟩ := hset4.below hbel
        obtain ⟨A1, c1, rfl, hs, hl1⟩ := own_strs hown
        have HKX := Lib.hid hkx
        have hnx : (T.take (k + 1)).filter F = (T.take k).filter F ++ (if F T[k] then [T[k]] else []) := by
          rw [List.take_succ_eq_append_getElem hlt, List.filter_append]
          congr 1
          by_cases h : F T[k] <;> simp [h]
        have HNX := Lib.hid hnx
        clear hkx hcx hl1 hnx
        cases hF : F T[k]
        · have hh : Maps.has D (kl T[k]) = false := by rw [hDs]; exact hF
          have HF := Lib.hid hF
          clear hF hDs
          go_wp2_with (at_lookup; refine wpList_lookup_own_unit _ (by rfl) _ _ 80 (by rfl) 9 82 keyed Tryd.underlying80 (zeroU _) b _ D (by rfl) hD (.string T[k]) (kl T[k]) (by rfl) HKX.out ?_; rw [hh])
          go_roundw
          case rel => exact ⟨k + 1, out, by omega, by go_num, by omega, by have := hr.out; show out = _; rw [HNX.out, HF.out, this]; simp, hown.alloc _, hbel.alloc hbs _⟩
          case measure => simp [intOf]; omega
        · have hh : Maps.has D (kl T[k]) = true := by rw [hDs]; exact hF
          have HF := Lib.hid hF
          clear hF hDs
          go_wp2_with (first | (at_lookup; refine wpList_lookup_own_unit _ (by rfl) _ _ 80 (by rfl) 9 82 keyed Tryd.underlying80 (zeroU _) b _ D (by rfl) hD (.string T[k]) (kl T[k]) (by rfl) HKX.out ?_; rw [hh]) | (at_builtin; refine app_one (w0 := w4) w4.heap.size (by rfl) _ _ 47 9 (.string ⟨#[]⟩) 16 (by rfl) Tryd.underlying47 info_str rfl (.slice A1 out.length c1) (out.map Value.string) (.string T[k]) (by rfl) (wr.heap.size + 1) (by rfl) (by simp) rfl (hown.alloc _) (hbel.alloc hbs _) (by simp; omega) (by simp; omega) (by simp; omega) ?_; intro v1 w5 hown1 hbel1 _ _))
          go_roundw
          case rel => exact ⟨k + 1, out ++ [T[k]], by omega, by go_num, by simp; omega, by have := hr.out; show out ++ [T[k]] = _; rw [HNX.out, HF.out, this]; simp, by simpa using hown1, hbel1⟩
          case measure => simp [intOf]; omega
      · have hz : out = sureL es := by rw [hr.out, HSL.out, List.take_of_length_le (by omega)]
        have HZ := Lib.hid hz
        clear hz
        go_wp2
        go_ret2
        refine sure_ok H0.out ?_ (hbw4.trans (hbel.mono hs4))
        rw [← HZ.out]
        have := hown.mono hs4
        simpa using this
  · have hb0 : (checkF es != 0) = true := by simpa using h0
    have H0 := Lib.hid h0
    clear h0
    go_enter Tryd.func27, Tryd.ntmps27
    go_wp2_with (go_at_call 13; refine (check_c es A c _ hx hl hkeys ht).mono ?_; rintro e w1 ⟨rfl, hb1⟩)
    go_ret2
    exact sure_nil H0.out hb1
end Go.Proofs.YtgopflklcfcocaaDoor
