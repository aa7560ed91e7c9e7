/- The law NamesAsks. -/
import Derived.Test.YtgopflklcfcocaaDoorA34
import Derived.Test.YtgopflklcfcocaaDoorA25
namespace Go.Proofs.YtgopflklcfcocaaDoor
open Go.RowKit

theorem ask_len (es : List XOp) (kind : Int) : (askAns es kind).2.length ≤ es.length := by
  unfold askAns
  split
  · simp
  · have := texts_length (kind := kind) es []
    simpa [textsF] using this
theorem sure_len (es : List XOp) : (sureAns es).2.length ≤ es.length := by
  unfold sureAns
  split
  · simp
  · unfold sureL
    have := texts_length (kind := 3) es []
    split
    · refine Nat.le_trans (List.length_filter_le _ _) ?_
      simpa [textsF] using this
    · simp
/-- What a call that answers with a row of texts and a word leaves. -/
def RowPost (al : List ByteArray) (ac : Int) (w : World) (e : Ending) (w' : World) : Prop := ∃ X d, e = .returned (.tuple #[.slice X al.length d, .int .i64 ac]) ∧ StrsAt w' X al ∧ Below w.heap.size w w'
theorem AskPost.row {es : List XOp} {kind : Int} {w w' : World} {e : Ending} {ac : Int} {al : List ByteArray} (h : AskPost es kind w e w') (ha : askAns es kind = (ac, al)) : RowPost al ac w e w' := by
  unfold AskPost at h
  rw [ha] at h
  obtain ⟨v, rfl, hown, hb⟩ := h
  obtain ⟨X, d, rfl, hn, _⟩ := own_strs hown
  exact ⟨X, d, rfl, hn, hb⟩
theorem SurePost.row {es : List XOp} {w w' : World} {e : Ending} {ac : Int} {al : List ByteArray} (h : SurePost es w e w') (ha : sureAns es = (ac, al)) : RowPost al ac w e w' := by
  unfold SurePost at h
  rw [ha] at h
  obtain ⟨v, rfl, hown, hb⟩ := h
  obtain ⟨X, d, rfl, hn, _⟩ := own_strs hown
  exact ⟨X, d, rfl, hn, hb⟩

set_option maxHeartbeats 4000000 in
set_option maxRecDepth 100000 in
theorem namesAsks_c (es : List XOp) (A : Option Addr) (c : Nat) (w : World) (hx : OpsAt w A es) (hl : es.length * 40 ≤ 140737488355328) (ht : ∀ o ∈ es, o.text.size ≤ 140737488355328) (hkeys : KeysIn w) :
    Calls Tryd.prog 5 #[.slice A es.length c] w fun e w' => e = .returned (.bool true) ∧ Below w.heap.size w w' := by
  have hal := ask_len es 3
  have hgl := ask_len es 18
  have hsl := sure_len es
  generalize haa : askAns es 3 = aa at *
  generalize hga : askAns es 18 = ga at *
  generalize hsa : sureAns es = sa at *
  obtain ⟨ac, al⟩ := aa
  obtain ⟨gc, gl⟩ := ga
  obtain ⟨sc, sl⟩ := sa
  simp only at hal hgl hsl
  have hAN := fun (W : World) (B : Option Addr) (d : Nat) h1 h2 => (askedN_c es B d W h1 hl h2 ht).mono (fun e w' hp => AskPost.row hp haa)
  have hAR := fun (W : World) (B : Option Addr) (d : Nat) h1 => (askedR_c es B d W h1 hl ht).mono (fun e w' hp => AskPost.row hp haa)
  have hGN := fun (W : World) (B : Option Addr) (d : Nat) h1 h2 => (gatesN_c es B d W h1 hl h2 ht).mono (fun e w' hp => AskPost.row hp hga)
  have hGR := fun (W : World) (B : Option Addr) (d : Nat) h1 => (gatesR_c es B d W h1 hl ht).mono (fun e w' hp => AskPost.row hp hga)
  have hSN := fun (W : World) (B : Option Addr) (d : Nat) h1 h2 => (sureN_c es B d W h1 hl h2 ht).mono (fun e w' hp => SurePost.row hp hsa)
  have hSR := fun (W : World) (B : Option Addr) (d : Nat) h1 => (sureRS_c es B d W h1 hl ht).mono (fun e w' hp => SurePost.row hp hsa)
  have HAN := Lib.hid hAN
  have HAR := Lib.hid hAR
  have HGN := Lib.hid hGN
  have HGR := Lib.hid hGR
  have HSN := Lib.hid hSN
  have HSR := Lib.hid hSR
  clear hAN hAR hGN hGR hSN hSR haa hga hsa
  go_enter Tryd.func5, Tryd.ntmps5
  go_wp2_with (first | (go_at_call 11; refine (copyExpr_f es A c _ hx hl).mono ?_; rintro e w1 ⟨A1, c1, rfl, hs1, _, hb1⟩; have hx1 := hx.below hb1; have hk1 := hkeys.below hb1) | (go_at_call 24; refine (HAN.out _ A1 c1 hs1 hk1).mono ?_; rintro e w2 ⟨B2, d2, rfl, hn2, hb2⟩; have hbw2 := hb1.trans (hb2.mono hb1.size)) | (go_at_call 25; refine (HAR.out _ A c (hx.below hbw2)).mono ?_; rintro e w3 ⟨B3, d3, rfl, hn3, hb3⟩; have hbw3 := hbw2.trans (hb3.mono hbw2.size)) | (go_at_call_of 26 (Value.slice B2 al.length d2); refine (sameTexts_c al B2 B3 d2 d3 _ (hn2.below hb3) hn3 (by omega)).mono ?_; rintro e w4 ⟨rfl, hb4⟩; have hbw4 := hbw3.trans (hb4.mono hbw3.size); have hs4 := ((hs1.below hb2).below hb3).below hb4) | (go_at_call 27; refine (HSN.out _ A1 c1 hs4 (hkeys.below hbw4)).mono ?_; rintro e w5 ⟨B5, d5, rfl, hn5, hb5⟩; have hbw5 := hbw4.trans (hb5.mono hbw4.size)) | (go_at_call 28; refine (HSR.out _ A c (hx.below hbw5)).mono ?_; rintro e w6 ⟨B6, d6, rfl, hn6, hb6⟩; have hbw6 := hbw5.trans (hb6.mono hbw5.size)) | (go_at_call_of 26 (Value.slice B5 sl.length d5); refine (sameTexts_c sl B5 B6 d5 d6 _ (hn5.below hb6) hn6 (by omega)).mono ?_; rintro e w7 ⟨rfl, hb7⟩; have hbw7 := hbw6.trans (hb7.mono hbw6.size); have hs7 := ((hs4.below hb5).below hb6).below hb7) | (go_at_call 29; refine (HGN.out _ A1 c1 hs7 (hkeys.below hbw7)).mono ?_; rintro e w8 ⟨B8, d8, rfl, hn8, hb8⟩; have hbw8 := hbw7.trans (hb8.mono hbw7.size)) | (go_at_call 30; refine (HGR.out _ A c (hx.below hbw8)).mono ?_; rintro e w9 ⟨B9, d9, rfl, hn9, hb9⟩; have hbw9 := hbw8.trans (hb9.mono hbw8.size)) | (go_at_call_of 26 (Value.slice B8 gl.length d8); refine (sameTexts_c gl B8 B9 d8 d9 _ (hn8.below hb9) hn9 (by omega)).mono ?_; rintro e w10 ⟨rfl, hb10⟩; have hbw10 := hbw9.trans (hb10.mono hbw9.size); have hs10 := ((hs7.below hb8).below hb9).below hb10) | (go_at_call 17; refine (sameExpr_b es A1 A c1 c _ hs10 (hx.below hbw10) hl).mono ?_; rintro e w11 ⟨rfl, hb11⟩))
  go_ret
  exact ⟨rfl, hbw10.trans (hb11.mono hbw10.size)⟩
end Go.Proofs.YtgopflklcfcocaaDoor
