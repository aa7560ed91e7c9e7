/- SameTexts; the reference's texts; Asked, Gates. -/
import Derived.Test.YtgopflklcfcocaaDoorA24
namespace Go.Proofs.YtgopflklcfcocaaDoor
open Go.RowKit

theorem sameTexts_c (l : List ByteArray) (A B : Option Addr) (c d : Nat) (w : World) (hx : StrsAt w A l) (hy : StrsAt w B l) (hl : l.length ≤ 140737488355328) :
    Calls Tryd.prog 26 #[.slice A l.length c, .slice B l.length d] w fun e w' => e = .returned (.bool true) ∧ Below w.heap.size w w' := by
  go_enter Tryd.func26, Tryd.ntmps26
  go_wp2
  go_loopw [5] (fun i wr => ∃ k n : Nat, k ≤ l.length ∧ i = .int .i64 k ∧ wr = w.drewN n) (fun i _ => l.length - (intOf i).toNat)
  case atStart => exact ⟨0, 0, by omega, rfl, rfl⟩
  case round =>
    obtain ⟨k, n, hk, rfl, rfl⟩ := hrel
    by_cases hlt : k < l.length
    · rcases hx with rfl | ⟨b, off, rfl, _, hc⟩
      · simp at hlt
      rcases hy with rfl | ⟨b', off', rfl, _, hc'⟩
      · simp at hlt
      have h1 := hc k hlt
      have h2 := hc' k hlt
      clear hc hc'
      have hi0 : (0 : Int) ≤ (k : Int) := Int.natCast_nonneg _
      have hi1 : (k : Int) < (l.length : Int) := by omega
      have hb : (l[k].toList != l[k].toList) = false := by simp
      have hb2 : (l[k].toList == l[k].toList) = true := by simp
      go_wp2_with fail
      go_quiet (fail)
      go_wp2
      go_roundw
      case rel => exact ⟨k + 1, _, by omega, by go_num, rfl⟩
      case measure => simp [intOf]; omega
    · go_wp2
      go_ret
      exact ⟨rfl, below_drewN (Below.refl _ _) _⟩

set_option maxHeartbeats 2000000 in
theorem textsR_c (es : List XOp) (kind : Int) (A : Option Addr) (c : Nat) (w : World) (hx : OpsAt w A es) (hl : es.length * 40 ≤ 140737488355328) :
    Calls Tryd.prog 63 #[.slice A es.length c, .int .i64 kind] w fun e w' => ∃ v, e = .returned v ∧ w'.ownsRow w.heap.size 9 1 v (textsF es kind).length ((textsF es kind).map Value.string) ∧ Below w.heap.size w w' := by
  go_enter Tryd.func63, Tryd.ntmps63
  go_wp2
  go_loopw [5, 6] (fun v i wr => ∃ (k : Nat) (out : List ByteArray), k ≤ es.length ∧ i = .int .i64 k ∧ out.length ≤ k ∧ textsFrom kind (es.drop k) out = textsF es kind ∧ wr.ownsRow w.heap.size 9 1 v (out.map Value.string).length (out.map Value.string) ∧ Below w.heap.size w wr) (fun _ i _ => es.length - (intOf i).toNat)
  case atStart => exact ⟨0, [], by omega, rfl, by simp, rfl, World.ownsRow_made w #[] 0 (Nat.le_refl _) (by simp [maxLen]) (by simp), (Below.refl _ _).alloc (Nat.le_refl _) _⟩
  case round =>
    obtain ⟨k, out, hk, rfl, ho, hr, hown, hbel⟩ := hrel
    have HR := Lib.hid hr
    clear hr
    by_cases hlt : k < es.length
    · rcases hx with rfl | ⟨b, off, rfl, hb, hc⟩
      · simp at hlt
      · obtain ⟨h0, h1, h2, h3⟩ := hc k hlt
        obtain ⟨hcc, hff⟩ := bcell hbel
        have g0 := (hcc b (off + k * 4) hb).trans h0
        have g3 := (hcc b (off + k * 4 + 3) hb).trans h3
        have hbr : b < wr.heap.size := Nat.lt_of_lt_of_le hb hbel.size
        clear hc h0 h1 h2 h3 hcc hff
        obtain ⟨A1, c1, rfl, hs, hl1⟩ := own_strs hown
        clear hl1
        have hu : textsFrom kind (es.drop k) out = _ := textsFrom_drop kind es k hlt out
        have HU := Lib.hid hu
        clear hu
        have hbs := hbel.size
        go_wp2_with (first | (go_at_call 32; refine (in_c out _ _ _ _ hs (by omega)).mono ?_; rintro e w' ⟨rfl, rfl⟩) | (at_builtin; refine app_one (w0 := w) w.heap.size (by rfl) _ _ 47 9 (.string ⟨#[]⟩) 16 (by rfl) Tryd.underlying47 info_str rfl (.slice A1 out.length c1) (out.map Value.string) (.string es[k].text) (by rfl) wr.heap.size (by rfl) rfl rfl hown hbel hbs (by simp; omega) (by simp; omega) ?_; intro v1 w1 hown1 hbel1 _ _))
        · go_roundw
          case rel => exact ⟨k + 1, out ++ [es[k].text], by omega, by go_num, by simp; omega, by rw [← HR.out, HU.out, if_pos]; simp_all, by simpa using hown1, hbel1⟩
          case measure => simp [intOf]; omega
        · go_roundw
          case rel => exact ⟨k + 1, out, by omega, by go_num, by omega, by rw [← HR.out, HU.out, if_neg]; simp_all, hown, hbel⟩
          case measure => simp [intOf]; omega
        · go_roundw
          case rel => exact ⟨k + 1, out, by omega, by go_num, by omega, by rw [← HR.out, HU.out, if_neg]; simp_all, hown, hbel⟩
          case measure => simp [intOf]; omega
    · have hz : out = textsF es kind := by rw [← HR.out, List.drop_of_length_le (by omega), textsFrom]
      have HZ := Lib.hid hz
      clear hz
      go_wp2
      go_ret
      refine ⟨_, rfl, ?_, hbel⟩
      rw [← HZ.out]; simpa using hown
/-- The answer of Asked, of Gates. -/
def askAns (es : List XOp) (kind : Int) : Int × List ByteArray := if checkF es ≠ 0 then (checkF es, []) else (0, textsF es kind)
def AskPost (es : List XOp) (kind : Int) (w : World) (e : Ending) (w' : World) : Prop := ∃ v, e = .returned (.tuple #[v, .int .i64 (askAns es kind).1]) ∧ w'.ownsRow w.heap.size 9 1 v (askAns es kind).2.length ((askAns es kind).2.map Value.string) ∧ Below w.heap.size w w'
theorem ask_nil {es : List XOp} {kind : Int} {w w' : World} (h : checkF es ≠ 0) (hb : Below w.heap.size w w') : AskPost es kind w (.returned (.tuple #[.slice none 0 0, .int .i64 (checkF es)])) w' := by
  have : askAns es kind = (checkF es, []) := by unfold askAns; rw [if_pos h]
  unfold AskPost
  rw [this]
  exact ⟨_, rfl, World.ownsRow_nil _ _ _ _, hb⟩
theorem ask_ok {es : List XOp} {kind : Int} {v : Value} {w w' : World} (h : checkF es = 0) (ho : w'.ownsRow w.heap.size 9 1 v (textsF es kind).length ((textsF es kind).map Value.string)) (hb : Below w.heap.size w w') : AskPost es kind w (.returned (.tuple #[v, .int .i64 0])) w' := by
  have : askAns es kind = (0, textsF es kind) := by unfold askAns; rw [if_neg (by simpa using h)]
  unfold AskPost
  rw [this]
  exact ⟨v, rfl, ho, hb⟩
set_option maxHeartbeats 1000000 in
theorem askedN_c (es : List XOp) (A : Option Addr) (c : Nat) (w : World) (hx : OpsAt w A es) (hl : es.length * 40 ≤ 140737488355328) (hkeys : KeysIn w) (ht : ∀ o ∈ es, o.text.size ≤ 140737488355328) :
    Calls Tryd.prog 24 #[.slice A es.length c] w (AskPost es 3 w) := by
  by_cases h0 : checkF es = 0
  · have hb0 : (checkF es != 0) = false := by simpa using h0
    have H0 := Lib.hid h0
    clear h0
    go_enter Tryd.func24, Tryd.ntmps24
    go_wp2_with (first | (go_at_call 13; refine (check_c es A c _ hx hl hkeys ht).mono ?_; rintro e w1 ⟨rfl, hb1⟩) | (go_at_call 62; refine (texts_c es 3 A c _ (hx.below hb1) hl).mono ?_; rintro e w2 ⟨v, rfl, hown, hb2⟩))
    go_ret2
    have hz := ask_ok H0.out (hown.mono hb1.size) (hb1.trans (hb2.mono hb1.size))
    exact hz
  · have hb0 : (checkF es != 0) = true := by simpa using h0
    have H0 := Lib.hid h0
    clear h0
    go_enter Tryd.func24, Tryd.ntmps24
    go_wp2_with (go_at_call 13; refine (check_c es A c _ hx hl hkeys ht).mono ?_; rintro e w1 ⟨rfl, hb1⟩)
    go_ret2
    exact ask_nil H0.out hb1
set_option maxHeartbeats 1000000 in
theorem gatesN_c (es : List XOp) (A : Option Addr) (c : Nat) (w : World) (hx : OpsAt w A es) (hl : es.length * 40 ≤ 140737488355328) (hkeys : KeysIn w) (ht : ∀ o ∈ es, o.text.size ≤ 140737488355328) :
    Calls Tryd.prog 29 #[.slice A es.length c] w (AskPost es 18 w) := by
  by_cases h0 : checkF es = 0
  · have hb0 : (checkF es != 0) = false := by simpa using h0
    have H0 := Lib.hid h0
    clear h0
    go_enter Tryd.func29, Tryd.ntmps29
    go_wp2_with (first | (go_at_call 13; refine (check_c es A c _ hx hl hkeys ht).mono ?_; rintro e w1 ⟨rfl, hb1⟩) | (go_at_call 62; refine (texts_c es 18 A c _ (hx.below hb1) hl).mono ?_; rintro e w2 ⟨v, rfl, hown, hb2⟩))
    go_ret2
    have hz := ask_ok H0.out (hown.mono hb1.size) (hb1.trans (hb2.mono hb1.size))
    exact hz
  · have hb0 : (checkF es != 0) = true := by simpa using h0
    have H0 := Lib.hid h0
    clear h0
    go_enter Tryd.func29, Tryd.ntmps29
    go_wp2_with (go_at_call 13; refine (check_c es A c _ hx hl hkeys ht).mono ?_; rintro e w1 ⟨rfl, hb1⟩)
    go_ret2
    exact ask_nil H0.out hb1
set_option maxHeartbeats 1000000 in
theorem askedR_c (es : List XOp) (A : Option Addr) (c : Nat) (w : World) (hx : OpsAt w A es) (hl : es.length * 40 ≤ 140737488355328) (ht : ∀ o ∈ es, o.text.size ≤ 140737488355328) :
    Calls Tryd.prog 25 #[.slice A es.length c] w (AskPost es 3 w) := by
  by_cases h0 : checkF es = 0
  · have hb0 : (checkF es != 0) = false := by simpa using h0
    have H0 := Lib.hid h0
    clear h0
    go_enter Tryd.func25, Tryd.ntmps25
    go_wp2_with (first | (go_at_call 14; refine (checkR_c es A c _ hx hl ht).mono ?_; rintro e w1 ⟨rfl, hb1⟩) | (go_at_call 63; refine (textsR_c es 3 A c _ (hx.below hb1) hl).mono ?_; rintro e w2 ⟨v, rfl, hown, hb2⟩))
    go_ret2
    have hz := ask_ok H0.out (hown.mono hb1.size) (hb1.trans (hb2.mono hb1.size))
    exact hz
  · have hb0 : (checkF es != 0) = true := by simpa using h0
    have H0 := Lib.hid h0
    clear h0
    go_enter Tryd.func25, Tryd.ntmps25
    go_wp2_with (go_at_call 14; refine (checkR_c es A c _ hx hl ht).mono ?_; rintro e w1 ⟨rfl, hb1⟩)
    go_ret2
    exact ask_nil H0.out hb1
set_option maxHeartbeats 1000000 in
theorem gatesR_c (es : List XOp) (A : Option Addr) (c : Nat) (w : World) (hx : OpsAt w A es) (hl : es.length * 40 ≤ 140737488355328) (ht : ∀ o ∈ es, o.text.size ≤ 140737488355328) :
    Calls Tryd.prog 30 #[.slice A es.length c] w (AskPost es 18 w) := by
  by_cases h0 : checkF es = 0
  · have hb0 : (checkF es != 0) = false := by simpa using h0
    have H0 := Lib.hid h0
    clear h0
    go_enter Tryd.func30, Tryd.ntmps30
    go_wp2_with (first | (go_at_call 14; refine (checkR_c es A c _ hx hl ht).mono ?_; rintro e w1 ⟨rfl, hb1⟩) | (go_at_call 63; refine (textsR_c es 18 A c _ (hx.below hb1) hl).mono ?_; rintro e w2 ⟨v, rfl, hown, hb2⟩))
    go_ret2
    have hz := ask_ok H0.out (hown.mono hb1.size) (hb1.trans (hb2.mono hb1.size))
    exact hz
  · have hb0 : (checkF es != 0) = true := by simpa using h0
    have H0 := Lib.hid h0
    clear h0
    go_enter Tryd.func30, Tryd.ntmps30
    go_wp2_with (go_at_call 14; refine (checkR_c es A c _ hx hl ht).mono ?_; rintro e w1 ⟨rfl, hb1⟩)
    go_ret2
    exact ask_nil H0.out hb1
end Go.Proofs.YtgopflklcfcocaaDoor
