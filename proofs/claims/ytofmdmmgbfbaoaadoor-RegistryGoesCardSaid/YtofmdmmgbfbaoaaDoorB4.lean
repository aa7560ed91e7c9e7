/- The reference's Asked, cut out of A26, A35, A36. -/
import Derived.Test.YtofmdmmgbfbaoaaDoorB3
namespace Go.Proofs.YtofmdmmgbfbaoaaDoor
open Go.RowKit

/-- The answer of Asked, of Gates. -/
def askAns (es : List XOp) (kind : Int) : Int × List ByteArray := if checkF es ≠ 0 then (checkF es, []) else (0, textsF es kind)
def AskPost (es : List XOp) (kind : Int) (w : World) (e : Ending) (w' : World) : Prop := ∃ v, e = .returned (.tuple #[v, .int .i64 (askAns es kind).1]) ∧ w'.ownsRow w.heap.size 9 1 v (askAns es kind).2.length ((askAns es kind).2.map Value.string) ∧ Below w.heap.size w w'
theorem ask_nil {es : List XOp} {kind : Int} {w w' : World} (h : checkF es ≠ 0) (hb : Below w.heap.size w w') : AskPost es kind w (.returned (.tuple #[.slice none 0 0, .int .i64 (checkF es)])) w' := by
  have : askAns es kind = (checkF es, []) := by unfold askAns; rw [if_pos h]
  unfold AskPost
  rw [this]
  exact ⟨_, rfl, World.ownsRow_nil _ _ _ _, hb⟩
theorem ask_ok {es : List XOp} {kind : Int} {v : Value} {w w' : World} (h : checkF es = 0) (ho : w'.ownsRow w.heap.size 9 1 v (textsF es kind).length ((textsF es kind).map Value.string)) (hb : Below w.heap.size w w') : AskPost es kind w (.returned (.tuple #[v, .int .i64 0])) w' := by
  have : askAns es kind = (0, textsF es kind) := by unfold askAns; rw [if_neg (by simpa using h)]
  unfold AskPost
  rw [this]
  exact ⟨v, rfl, ho, hb⟩
set_option maxHeartbeats 1000000 in
theorem askedR_c (es : List XOp) (A : Option Addr) (c : Nat) (w : World) (hx : OpsAt w A es) (hl : es.length * 40 ≤ 140737488355328) (ht : ∀ o ∈ es, o.text.size ≤ 140737488355328) :
    Calls Tryd.prog 62 #[.slice A es.length c] w (AskPost es 3 w) := by
  by_cases h0 : checkF es = 0
  · have hb0 : (checkF es != 0) = false := by simpa using h0
    have H0 := Lib.hid h0
    clear h0
    go_enter Tryd.func62, Tryd.ntmps62
    go_wp2_with (first | (go_at_call 57; refine (checkR_c es A c _ hx hl ht).mono ?_; rintro e w1 ⟨rfl, hb1⟩) | (go_at_call 76; refine (textsR_c es 3 A c _ (hx.below hb1) hl).mono ?_; rintro e w2 ⟨v, rfl, hown, hb2⟩))
    go_ret2
    have hz := ask_ok H0.out (hown.mono hb1.size) (hb1.trans (hb2.mono hb1.size))
    exact hz
  · have hb0 : (checkF es != 0) = true := by simpa using h0
    have H0 := Lib.hid h0
    clear h0
    go_enter Tryd.func62, Tryd.ntmps62
    go_wp2_with (go_at_call 57; refine (checkR_c es A c _ hx hl ht).mono ?_; rintro e w1 ⟨rfl, hb1⟩)
    go_ret2
    exact ask_nil H0.out hb1
/-- What a call that answers with a row of texts and a word leaves. -/
def RowPost (al : List ByteArray) (ac : Int) (w : World) (e : Ending) (w' : World) : Prop := ∃ X d, e = .returned (.tuple #[.slice X al.length d, .int .i64 ac]) ∧ StrsAt w' X al ∧ Below w.heap.size w w'
theorem AskPost.row {es : List XOp} {kind : Int} {w w' : World} {e : Ending} {ac : Int} {al : List ByteArray} (h : AskPost es kind w e w') (ha : askAns es kind = (ac, al)) : RowPost al ac w e w' := by
  unfold AskPost at h
  rw [ha] at h
  obtain ⟨v, rfl, hown, hb⟩ := h
  obtain ⟨X, d, rfl, hn, _⟩ := own_strs hown
  exact ⟨X, d, rfl, hn, hb⟩
theorem texts_keep {kind : Int} : ∀ (es : List XOp) (out : List ByteArray) (x : ByteArray), x ∈ out → x ∈ textsFrom kind es out
  | [], _, _, h => h
  | o :: es, out, x, h => by
    rw [textsFrom]
    apply texts_keep es
    split
    · simp [h]
    · exact h
theorem texts_has {kind : Int} : ∀ (es : List XOp) (out : List ByteArray) (o : XOp), o ∈ es → o.kind = kind → o.text ∈ textsFrom kind es out
  | [], _, _, h, _ => by simp at h
  | o' :: es, out, o, h, hk => by
    rw [textsFrom]
    rw [List.mem_cons] at h
    rcases h with rfl | h
    · apply texts_keep
      split
      · simp
      · next hne =>
        have : ¬ memB o.text out = false := fun e => hne ⟨hk, e⟩
        rw [memB_not] at this
        exact Classical.not_not.1 this
    · exact texts_has es _ o h hk
end Go.Proofs.YtofmdmmgbfbaoaaDoor
