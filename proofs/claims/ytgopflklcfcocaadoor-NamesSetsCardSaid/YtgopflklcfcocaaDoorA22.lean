/- SameInts; both Parts. -/
import Derived.Test.YtgopflklcfcocaaDoorA21
import Derived.Deep.Onto
namespace Go.Proofs.YtgopflklcfcocaaDoor
open Go.RowKit

theorem sameInts_c (l : List Nat) (A B : Option Addr) (c d : Nat) (w : World) (hx : NatsAt w A l) (hy : NatsAt w B l) (hl : l.length ≤ 140737488355328) :
    Calls Tryd.prog 21 #[.slice A l.length c, .slice B l.length d] w fun e w' => e = .returned (.bool true) ∧ Below w.heap.size w w' := by
  go_enter Tryd.func21, Tryd.ntmps21
  go_wp2
  go_loopw [5] (fun i wr => ∃ k n : Nat, k ≤ l.length ∧ i = .int .i64 k ∧ wr = w.drewN n) (fun i _ => l.length - (intOf i).toNat)
  case atStart => exact ⟨0, 0, by omega, rfl, rfl⟩
  case round =>
    obtain ⟨k, n, hk, rfl, rfl⟩ := hrel
    by_cases hlt : k < l.length
    · rcases hx with rfl | ⟨b, off, rfl, _, hc⟩
      · simp at hlt
      rcases hy with rfl | ⟨b', off', rfl, _, hc'⟩
      · simp at hlt
      have h1 := hc k hlt
      have h2 := hc' k hlt
      clear hc hc'
      have hi0 : (0 : Int) ≤ (k : Int) := Int.natCast_nonneg _
      have hi1 : (k : Int) < (l.length : Int) := by omega
      have hb : ((l[k] : Int) != (l[k] : Int)) = false := by simp
      go_wp2_with fail
      go_quiet (fail)
      go_wp2
      go_roundw
      case rel => exact ⟨k + 1, _, by omega, by go_num, rfl⟩
      case measure => simp [intOf]; omega
    · go_wp2
      go_ret
      exact ⟨rfl, below_drewN (Below.refl _ _) _⟩
theorem check_zero {es : List XOp} (h : checkF es = 0) : es.length ≤ 256 ∧ ∃ fr b, beginsF es = some (fr, [b]) := by
  unfold checkF at h
  split at h
  · omega
  · refine ⟨by omega, ?_⟩
    split at h
    · next fr b hb => exact ⟨fr, b, hb⟩
    · omega
/-- Parts' answer. -/
def partsAns (es : List XOp) (pos : Int) : Int × List Nat :=
  if checkF es ≠ 0 then (checkF es, [])
  else if pos < 0 ∨ (es.length : Int) ≤ pos then (1, [])
  else match beginsF es, es[pos.toNat]? with
    | some (fr, _), some o => (0, partsGo fr o.n.toNat pos.toNat)
    | _, _ => (0, [])
def PartsPost (es : List XOp) (pos : Int) (w : World) (e : Ending) (w' : World) : Prop := ∃ v, e = .returned (.tuple #[v, .int .i64 (partsAns es pos).1]) ∧ w'.ownsRow w.heap.size 3 1 v (partsAns es pos).2.length (ints (partsAns es pos).2) ∧ Below w.heap.size w w'
theorem parts_err {es : List XOp} {pos : Int} (h : checkF es ≠ 0) : partsAns es pos = (checkF es, []) := by unfold partsAns; rw [if_pos h]
theorem parts_out {es : List XOp} {pos : Int} (h : checkF es = 0) (h2 : pos < 0 ∨ (es.length : Int) ≤ pos) : partsAns es pos = (1, []) := by unfold partsAns; rw [if_neg (by simpa using h), if_pos h2]
theorem parts_ok {es : List XOp} {pos : Nat} {fr : List Nat} {b m : Nat} (h : checkF es = 0) (hb : beginsF es = some (fr, [b])) (hp : pos < es.length) (hm : es[pos].n = (m : Int)) : partsAns es (pos : Int) = (0, partsGo fr m pos) := by
  unfold partsAns
  rw [if_neg (by simpa using h), if_neg (by omega), hb, Int.toNat_natCast, List.getElem?_eq_getElem hp]
  simp [hm]
theorem post_nil {es : List XOp} {pos k : Int} {w w' : World} (h : partsAns es pos = (k, [])) (hb : Below w.heap.size w w') : PartsPost es pos w (.returned (.tuple #[.slice none 0 0, .int .i64 k])) w' := by
  unfold PartsPost
  rw [h]
  exact ⟨_, rfl, World.ownsRow_nil _ _ _ _, hb⟩

set_option maxHeartbeats 2000000 in
set_option maxRecDepth 100000 in
theorem partsN_c (es : List XOp) (pos : Int) (A : Option Addr) (c : Nat) (w : World) (hx : OpsAt w A es) (hl : es.length * 40 ≤ 140737488355328) (hkeys : KeysIn w) (ht : ∀ o ∈ es, o.text.size ≤ 140737488355328) :
    Calls Tryd.prog 19 #[.slice A es.length c, .int .i64 pos] w (PartsPost es pos w) := by
  by_cases h0 : checkF es = 0
  · have hb0 : (checkF es != 0) = false := by simpa using h0
    by_cases h1 : pos < 0
    · have hp := parts_out h0 (.inl h1)
      have HP := Lib.hid hp
      have d1 : decide (pos < 0) = true := by simpa using h1
      clear hp h0
      go_enter Tryd.func19, Tryd.ntmps19
      go_wp2_with (go_at_call 13; refine (check_c es A c _ hx hl hkeys ht).mono ?_; rintro e w1 ⟨rfl, hb1⟩)
      go_ret2
      exact post_nil HP.out hb1
    · have d1 : decide (pos < 0) = false := by simpa using h1
      by_cases h2 : (es.length : Int) ≤ pos
      · have hp := parts_out h0 (.inr h2)
        have HP := Lib.hid hp
        clear hp h0
        go_enter Tryd.func19, Tryd.ntmps19
        go_wp2_with (go_at_call 13; refine (check_c es A c _ hx hl hkeys ht).mono ?_; rintro e w1 ⟨rfl, hb1⟩)
        go_ret2
        exact post_nil HP.out hb1
      · obtain ⟨p, rfl⟩ := Int.eq_ofNat_of_zero_le (Int.not_lt.1 h1)
        have hpl : p < es.length := by omega
        obtain ⟨hlen, fr, b, hbg⟩ := check_zero h0
        obtain ⟨hfl, _, _, hg⟩ := begins_good hbg
        have hW := whole_of hlen hfl hg
        obtain ⟨m, hm, hm2, hch, _⟩ := hW.parts p hpl
        have hfle := hW.fle
        have hp := parts_ok h0 hbg hpl hm
        have HP := Lib.hid hp
        have HBG := Lib.hid hbg
        have HM := Lib.hid hm
        have HC := Lib.hid hch
        have HF := Lib.hid hfl
        have hpl' := partsGo_length fr m p
        have HPL := Lib.hid hpl'
        clear hp hbg hm hch hfl hg hW h0 hpl'
        go_enter Tryd.func19, Tryd.ntmps19
        go_wp2_with (first | (go_at_call 13; refine (check_c es A c _ hx hl hkeys ht).mono ?_; rintro e w1 ⟨rfl, hb1⟩) | (go_at_call 46; refine (begins_some HBG.out (hx.below hb1) hl (hkeys.below hb1) ht).mono ?_; rintro e w2 ⟨B, d, rfl, hn2, hb2⟩) | (go_at_call 59; refine (parts_c es fr A B c d p m _ ((hx.below hb1).below hb2) hn2 hlen (by rw [HF.out]; exact hlen) hpl HM.out hm2 HC.out hfle).mono ?_; rintro e w3 ⟨v, rfl, hown, hb3⟩))
        go_ret2
        unfold PartsPost
        rw [HP.out]
        simp only [HPL.out]
        have hs : w.heap.size ≤ w2.heap.size := Nat.le_trans hb1.size hb2.size
        refine ⟨v, rfl, hown.mono hs, (hb1.trans (hb2.mono hb1.size)).trans (hb3.mono hs)⟩
  · have hb0 : (checkF es != 0) = true := by simpa using h0
    have hp := parts_err (pos := pos) h0
    have HP := Lib.hid hp
    clear hp h0
    go_enter Tryd.func19, Tryd.ntmps19
    go_wp2_with (go_at_call 13; refine (check_c es A c _ hx hl hkeys ht).mono ?_; rintro e w1 ⟨rfl, hb1⟩)
    go_ret2
    exact post_nil HP.out hb1
end Go.Proofs.YtgopflklcfcocaaDoor
