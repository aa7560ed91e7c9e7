/- The reference's Parts; slices.Clone at operations; rows of operations that are written. -/
import Derived.Test.YtgopflklcfcocaaDoorA22
import Derived.Test.YtgopflklcfcocaaDoorA17
namespace Go.Proofs.YtgopflklcfcocaaDoor
open Go.RowKit

set_option maxHeartbeats 2000000 in
set_option maxRecDepth 100000 in
theorem partsR_c (es : List XOp) (pos : Int) (A : Option Addr) (c : Nat) (w : World) (hx : OpsAt w A es) (hl : es.length * 40 ≤ 140737488355328) (ht : ∀ o ∈ es, o.text.size ≤ 140737488355328) :
    Calls Tryd.prog 20 #[.slice A es.length c, .int .i64 pos] w (PartsPost es pos w) := by
  by_cases h0 : checkF es = 0
  · have hb0 : (checkF es != 0) = false := by simpa using h0
    by_cases h1 : pos < 0
    · have hp := parts_out h0 (.inl h1)
      have HP := Lib.hid hp
      have d1 : decide (pos < 0) = true := by simpa using h1
      clear hp h0
      go_enter Tryd.func20, Tryd.ntmps20
      go_wp2_with (go_at_call 14; refine (checkR_c es A c _ hx hl ht).mono ?_; rintro e w1 ⟨rfl, hb1⟩)
      go_ret2
      exact post_nil HP.out hb1
    · have d1 : decide (pos < 0) = false := by simpa using h1
      by_cases h2 : (es.length : Int) ≤ pos
      · have hp := parts_out h0 (.inr h2)
        have HP := Lib.hid hp
        clear hp h0
        go_enter Tryd.func20, Tryd.ntmps20
        go_wp2_with (go_at_call 14; refine (checkR_c es A c _ hx hl ht).mono ?_; rintro e w1 ⟨rfl, hb1⟩)
        go_ret2
        exact post_nil HP.out hb1
      · obtain ⟨p, rfl⟩ := Int.eq_ofNat_of_zero_le (Int.not_lt.1 h1)
        have hpl : p < es.length := by omega
        obtain ⟨hlen, fr, b, hbg⟩ := check_zero h0
        obtain ⟨hfl, _, _, hg⟩ := begins_good hbg
        have hW := whole_of hlen hfl hg
        obtain ⟨m, hm, _, _, _⟩ := hW.parts p hpl
        have hp := parts_ok h0 hbg hpl hm
        have HP := Lib.hid hp
        have HBG := Lib.hid hbg
        have HM := Lib.hid hm
        have hpl' := partsGo_length fr m p
        have HPL := Lib.hid hpl'
        clear hp hbg hm hfl hg hW h0 hpl'
        go_enter Tryd.func20, Tryd.ntmps20
        go_wp2_with (first | (go_at_call 14; refine (checkR_c es A c _ hx hl ht).mono ?_; rintro e w1 ⟨rfl, hb1⟩) | (go_at_call 60; refine (partsOf_c es fr b A c p m _ (hx.below hb1) hlen ht HBG.out hpl HM.out).mono ?_; rintro e w3 ⟨v, rfl, hown, hb3⟩))
        go_ret2
        unfold PartsPost
        rw [HP.out]
        simp only [HPL.out]
        exact ⟨v, rfl, hown.mono hb1.size, hb1.trans (hb3.mono hb1.size)⟩
  · have hb0 : (checkF es != 0) = true := by simpa using h0
    have hp := parts_err (pos := pos) h0
    have HP := Lib.hid hp
    clear hp h0
    go_enter Tryd.func20, Tryd.ntmps20
    go_wp2_with (go_at_call 14; refine (checkR_c es A c _ hx hl ht).mono ?_; rintro e w1 ⟨rfl, hb1⟩)
    go_ret2
    exact post_nil HP.out hb1

/-- slices.Clone at operations, of a slice that is not nil. -/
theorem cloneOp_c (es : List XOp) (ad : Addr) (c : Nat) (w : World) (hx : OpsAt w (some ad) es) (hl : es.length * 40 ≤ 140737488355328) :
    Calls Tryd.prog 61 #[.slice (some ad) es.length c] w fun e w' => ∃ v, e = .returned v ∧ w'.ownsRow w.heap.size 45 4 v es.length (opCells es) ∧ Below w.heap.size w w' := by
  obtain ⟨i0, hi0, hz0, hz1, hz2⟩ := info_parts info_op
  have hr := hx.reads
  have h1 := opCells_one es
  have hq := fun W : World => Lib.run_eql_slice_nil (P := Tryd.prog) W 23 45 (some ad) es.length c 0 0 Tryd.underlying23
  go_enter Tryd.func61, Tryd.ntmps61
  go_wp2_with (at_builtin; refine wpList_append_any _ (by rfl) _ _ _ (by rfl) w.heap.size 45 i0 _ 4 40 Tryd.underlying23 hi0 hz0 hz1 hz2 rfl (by omega) (.slice (some ⟨w.heap.size, 0, none⟩) 0 0) 0 [] (by rfl) (World.ownsRow_made w #[] 0 (Nat.le_refl _) (by simp [maxLen]) (by simp)) w.heap.size (some ad) es.length c _ (by rfl) (hr.alloc (Nat.le_refl _) _) h1 (by simp only [maxLen]; omega) (by omega) (by simp) ?_; intro v1 w1 hown1 hg1 hat1)
  go_ret
  refine ⟨v1, rfl, by simpa using hown1, ((Below.refl _ _).alloc (Nat.le_refl _) _).grown hg1 (by simp) (fun k hk => ?_)⟩
  have : w.heap.size = k := by simpa [Value.ownBlock] using hk
  omega
end Go.Proofs.YtgopflklcfcocaaDoor
