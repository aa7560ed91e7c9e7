/- The reference's arity and well. -/
import Derived.Test.YtofmdmmgbfbaoaaDoorA11
namespace Go.Proofs.YtofmdmmgbfbaoaaDoor
open Go.RowKit

def arityR (o : XOp) : Int :=
  if o.kind = 1 ∨ o.kind = 2 ∨ o.kind = 3 ∨ o.kind = 4 then 0
  else if o.kind = 11 ∨ o.kind = 16 ∨ o.kind = 17 ∨ o.kind = 18 then 1
  else if o.kind = 14 then 3
  else if o.kind = 5 then o.n
  else 2
set_option maxHeartbeats 1000000 in
theorem arityR_c (k n i : Int) (t : ByteArray) (w : World) :
    Calls Tryd.prog 80 #[.agg #[.int .i64 k, .int .i64 n, .int .i64 i, .string t]] w fun e w' => e = .returned (.int .i64 (arityR ⟨k, n, i, t⟩)) ∧ Below w.heap.size w w' := by
  go_enter Tryd.func80, Tryd.ntmps80
  go_wp2
  all_goals go_ret
  all_goals (refine ⟨?_, (Below.refl _ _).alloc (Nat.le_refl _) _⟩)
  all_goals (refine ret_int ?_; simp_all [arityR])
theorem arity_same {o : XOp} (h1 : 1 ≤ o.kind) (h2 : o.kind ≤ 19) : arityR o = arityF o := by
  unfold arityR arityF
  repeat (first | rfl | omega | split)
theorem well_out {o : XOp} (h : o.kind < 1 ∨ 19 < o.kind) : wellF o = false := by
  have ha : arityF o = -1 := by
    unfold arityF
    repeat (first | rfl | omega | split)
  unfold wellF
  rw [ha, if_pos (by omega)]
theorem well_neg {o : XOp} (h : o.n < 0) : wellF o = false := by
  cases h2 : wellF o
  · rfl
  · have := well_n h2; omega
theorem well_ar {o : XOp} (h : ¬ o.n = arityR o) : wellF o = false := by
  cases h2 : wellF o
  · rfl
  · by_cases h3 : o.kind < 1 ∨ 19 < o.kind
    · rw [well_out h3] at h2; cases h2
    · rw [arity_same (by omega) (by omega)] at h
      unfold wellF at h2
      rw [if_pos (by omega)] at h2
      cases h2
theorem well_in {o : XOp} (h : ¬ (o.kind < 1 ∨ 19 < o.kind)) (h1 : 0 ≤ o.n) (h2 : o.n = arityR o) : wellF o = if o.kind = 1 then decide (-9007199254740992 ≤ o.int) && (decide (o.int ≤ 9007199254740992) && o.text.toList.isEmpty)
  else if o.kind = 2 then o.int == 0
  else if o.kind = 3 ∨ o.kind = 4 ∨ o.kind = 18 ∨ o.kind = 19 then o.int == 0 && isName o.text
  else o.int == 0 && o.text.toList.isEmpty := by
  rw [arity_same (by omega) (by omega)] at h2
  rw [wellF, if_neg (by omega)]
set_option maxHeartbeats 2000000 in
set_option maxRecDepth 100000 in
theorem wellR_c (k n i : Int) (t : ByteArray) (w : World) (ht : t.size ≤ 140737488355328) :
    Calls Tryd.prog 79 #[.agg #[.int .i64 k, .int .i64 n, .int .i64 i, .string t]] w fun e w' => e = .returned (.bool (wellF ⟨k, n, i, t⟩)) ∧ Below w.heap.size w w' := by
  have hB : ∀ q, Below w.heap.size w ((w.alloc (.cells #[.int .i64 k, .int .i64 n, .int .i64 i, .string t] 58)).drewN q) := fun q => below_drewN ((Below.refl _ _).alloc (Nat.le_refl _) _) q
  by_cases h1 : k < 1
  · have hz := well_out (o := ⟨k, n, i, t⟩) (.inl h1)
    have HZ := Lib.hid hz
    have HB := Lib.hid hB
    have d1 : decide (k < 1) = true := by simpa using h1
    clear hz h1 hB
    go_enter Tryd.func79, Tryd.ntmps79
    go_wp2_with fail
    go_quiet (fail)
    go_wp2
    go_ret
    exact ⟨ret_bool HZ.out.symm, HB.out _⟩
  have d1 : decide (k < 1) = false := by simpa using h1
  by_cases h2 : 19 < k
  · have hz := well_out (o := ⟨k, n, i, t⟩) (.inr h2)
    have HZ := Lib.hid hz
    have HB := Lib.hid hB
    have d2 : decide (19 < k) = true := by simpa using h2
    clear hz h1 h2 hB
    go_enter Tryd.func79, Tryd.ntmps79
    go_wp2_with fail
    go_quiet (fail)
    go_wp2
    go_ret
    exact ⟨ret_bool HZ.out.symm, HB.out _⟩
  have d2 : decide (19 < k) = false := by simpa using h2
  by_cases h3 : n < 0
  · have hz := well_neg (o := ⟨k, n, i, t⟩) h3
    have HZ := Lib.hid hz
    have HB := Lib.hid hB
    have d3 : decide (n < 0) = true := by simpa using h3
    clear hz h1 h2 h3 hB
    go_enter Tryd.func79, Tryd.ntmps79
    go_wp2_with fail
    go_quiet (fail)
    go_wp2
    go_ret
    exact ⟨ret_bool HZ.out.symm, HB.out _⟩
  have d3 : decide (n < 0) = false := by simpa using h3
  by_cases h4 : n = arityR ⟨k, n, i, t⟩
  · have hz := well_in (o := ⟨k, n, i, t⟩) (by simp only; omega) (by simp only; omega) h4
    have d4 : (n != arityR ⟨k, n, i, t⟩) = false := by simpa using h4
    have HZ := Lib.hid hz
    have HB := Lib.hid hB
    clear hz h4 hB
    go_enter Tryd.func79, Tryd.ntmps79
    go_wp2_with fail
    go_region_held3 (fun w' => Below w.heap.size w w' ∧ w.heap.size < w'.heap.size ∧ w'.cell? ⟨w.heap.size, 0, none⟩ = some (.int .i64 k) ∧ w'.cell? ⟨w.heap.size, 1, none⟩ = some (.int .i64 n) ∧ w'.cell? ⟨w.heap.size, 2, none⟩ = some (.int .i64 i) ∧ w'.cell? ⟨w.heap.size, 3, none⟩ = some (.string t))
      (first
        | (refine ⟨((Below.refl _ _).alloc (Nat.le_refl _) _).drew, by simp, ?_, ?_, ?_, ?_⟩ <;> go_keep)
        | (obtain ⟨q0, q1, q2, q3, q4, q5⟩ := ‹_ ∧ _ ∧ _ ∧ _ ∧ _ ∧ _›; exact ⟨q0.trans (hb.mono (Nat.le_of_lt q1)), Nat.lt_of_lt_of_le q1 hb.size, (hb.cell (p := ⟨w.heap.size, 0, none⟩) q1).trans q2, (hb.cell (p := ⟨w.heap.size, 1, none⟩) q1).trans q3, (hb.cell (p := ⟨w.heap.size, 2, none⟩) q1).trans q4, (hb.cell (p := ⟨w.heap.size, 3, none⟩) q1).trans q5⟩)
        | go_keep)
      ((go_at_call 80; refine (arityR_c _ _ _ _ _).mono ?_; rintro e w1 ⟨rfl, hb⟩))
    obtain ⟨q0, q1, q2, q3, q4, q5⟩ := ‹_ ∧ _ ∧ _ ∧ _ ∧ _ ∧ _›
    go_wp2_with (go_at_call 56; refine (name_c _ _ ht).mono ?_; rintro e w2 ⟨rfl, hb2⟩)
    all_goals go_ret
    all_goals refine ⟨ret_bool ?_, by first | exact q0 | exact q0.trans (hb2.mono (Nat.le_of_lt q1))⟩
    all_goals (rw [HZ.out]; clear HZ HB d4; first | (simp_all; done) | (simp_all; omega))
  · have hz := well_ar (o := ⟨k, n, i, t⟩) h4
    have d4 : (n != arityR ⟨k, n, i, t⟩) = true := by simpa using h4
    have HZ := Lib.hid hz
    have HB := Lib.hid hB
    clear hz h4 hB
    go_enter Tryd.func79, Tryd.ntmps79
    go_wp2_with fail
    go_region_held3 (fun w' => Below w.heap.size w w' ∧ w.heap.size < w'.heap.size ∧ w'.cell? ⟨w.heap.size, 0, none⟩ = some (.int .i64 k) ∧ w'.cell? ⟨w.heap.size, 1, none⟩ = some (.int .i64 n) ∧ w'.cell? ⟨w.heap.size, 2, none⟩ = some (.int .i64 i) ∧ w'.cell? ⟨w.heap.size, 3, none⟩ = some (.string t))
      (first
        | (refine ⟨((Below.refl _ _).alloc (Nat.le_refl _) _).drew, by simp, ?_, ?_, ?_, ?_⟩ <;> go_keep)
        | (obtain ⟨q0, q1, q2, q3, q4, q5⟩ := ‹_ ∧ _ ∧ _ ∧ _ ∧ _ ∧ _›; exact ⟨q0.trans (hb.mono (Nat.le_of_lt q1)), Nat.lt_of_lt_of_le q1 hb.size, (hb.cell (p := ⟨w.heap.size, 0, none⟩) q1).trans q2, (hb.cell (p := ⟨w.heap.size, 1, none⟩) q1).trans q3, (hb.cell (p := ⟨w.heap.size, 2, none⟩) q1).trans q4, (hb.cell (p := ⟨w.heap.size, 3, none⟩) q1).trans q5⟩)
        | go_keep)
      ((go_at_call 80; refine (arityR_c _ _ _ _ _).mono ?_; rintro e w1 ⟨rfl, hb⟩))
    obtain ⟨q0, q1, q2, q3, q4, q5⟩ := ‹_ ∧ _ ∧ _ ∧ _ ∧ _ ∧ _›
    go_wp2
    go_ret
    exact ⟨ret_bool HZ.out.symm, q0⟩
end Go.Proofs.YtofmdmmgbfbaoaaDoor
