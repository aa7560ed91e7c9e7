/- The law SchedThrows. -/
import Derived.Test.YtbgnchddeklmeaaK8
namespace Go.Proofs.Ytbgnchddeklmeaa
open Go.RowKit
theorem rowWord_cases {xs : List Value} {k : Int} {w : World} {e : Ending} {w' : World} (h : RowWord xs k w e w') : ∃ X d, e = .returned (.tuple #[.slice X xs.length d, .int .i64 k]) ∧ RowAt w' X xs ∧ Below w.heap.size w w' := h
theorem thL_ints (x : Int) : ∀ n j (h : j < (thL x n).length), ∃ v, (thL x n)[j] = .int .u64 v
  | 0, j, h => by simp [thL] at h
  | n + 1, j, h => by
    have hl := thL_length x n
    simp only [thL]
    by_cases hj : j < (thL x n).length
    · rw [List.getElem_append_left hj]; exact thL_ints x n j hj
    · rw [List.getElem_append_right (by omega)]
      have : j - (thL x n).length = 0 := by have := thL_length x (n + 1); simp only [thL, List.length_append, List.length_cons, List.length_nil] at this h; omega
      simp only [this]
      exact ⟨_, rfl⟩
set_option maxHeartbeats 1000000 in
theorem law_throws (x n : Int) (w : World) : Calls Try.prog 4 #[.int .u64 x, .int .i64 n] w fun e w' => e = .returned (.bool true) ∧ Below w.heap.size w w' := by
  obtain ⟨xs, k, hxs, h1, h2⟩ : ∃ (xs : List Value) (k : Int), (∀ j (h : j < xs.length), ∃ v, xs[j] = .int .u64 v) ∧ xs.length ≤ 4096 ∧ (∀ w : World, Calls Try.prog 13 #[.int .u64 x, .int .i64 n] w (RowWord xs k w)) ∧ (∀ w : World, Calls Try.prog 14 #[.int .u64 x, .int .i64 n] w (RowWord xs k w)) := by
    by_cases hn : n < 0 ∨ 4096 < n
    · exact ⟨[], 1, fun j h => by simp at h, by simp, fun w => by have := throws_c x n w; rwa [if_pos hn] at this, fun w => by have := rthrows_c x n w; rwa [if_pos hn] at this⟩
    · exact ⟨thL (begS x) n.toNat, 0, thL_ints _ _, by rw [thL_length]; omega, fun w => by have := throws_c x n w; rwa [if_neg hn] at this, fun w => by have := rthrows_c x n w; rwa [if_neg hn] at this⟩
  obtain ⟨h2, h3⟩ := h2
  have HX := Lib.hid hxs
  have H2 := Lib.hid h2
  have H3 := Lib.hid h3
  clear hxs h2 h3
  go_enter Try.func4, Try.ntmps4
  go_wp2_with fail
  go_at_call 13
  refine (H2.out _).mono ?_
  rintro e w1 ⟨X, d, rfl, hr1, hb1⟩
  go_wp2_with fail
  go_at_call 14
  refine (H3.out _).mono ?_
  rintro e w2 ⟨Y, c, rfl, hr2, hb2⟩
  have hr3 := hr1.below hb2
  have hb : Below w.heap.size w w2 := hb1.trans (hb2.mono hb1.size)
  have HR2 := Lib.hid hr2
  have HR3 := Lib.hid hr3
  clear hr1 hr2 hr3 hb1 hb2 H2 H3
  go_wp2_with fail
  go_loopw [34] (fun i wr => Below w2.heap.size w2 wr ∧ ∃ j : Nat, i = .int .i64 j ∧ j ≤ xs.length) (fun i _ => xs.length - (intOf i).toNat)
  case atStart => exact ⟨Below.refl _ _, 0, rfl, by omega⟩
  case round =>
    obtain ⟨hbel, j, rfl, hj⟩ := hrel
    by_cases hlt : j < xs.length
    · have hlt2 : (j : Int) < (xs.length : Int) := by omega
      have hj0 : (0 : Int) ≤ (j : Int) := by omega
      obtain ⟨v, hv⟩ := HX.out j hlt
      have hR2 := HR2.out.below hbel
      have hR3 := HR3.out.below hbel
      obtain ⟨yb, yo, rfl, _, hcy⟩ : ∃ b off, Y = some ⟨b, off, none⟩ ∧ b < wr.heap.size ∧ ∀ j (h : j < xs.length), wr.cell? ⟨b, off + j, none⟩ = some xs[j] := hR2.resolve_left (fun h => by rw [h] at hlt; simp at hlt)
      obtain ⟨xb, xo, rfl, _, hcx⟩ : ∃ b off, X = some ⟨b, off, none⟩ ∧ b < wr.heap.size ∧ ∀ j (h : j < xs.length), wr.cell? ⟨b, off + j, none⟩ = some xs[j] := hR3.resolve_left (fun h => by rw [h] at hlt; simp at hlt)
      have hy := hcy j hlt
      have hx := hcx j hlt
      rw [hv] at hy hx
      have HB := Lib.hid hbel
      clear hcy hcx hR2 hR3 hbel hv
      go_wp2_with fail
      go_quiet (fail)
      go_wp2
      go_roundw
      case rel => exact ⟨HB.out.trans ⟨rfl, rfl, rfl, Nat.le_refl _, fun _ _ => rfl⟩, j + 1, by go_num, by omega⟩
      case measure => simp [intOf]; omega
    · have hge : ¬ (j : Int) < (xs.length : Int) := by omega
      have HB := Lib.hid (hb.trans (hbel.mono hb.size))
      clear hbel
      go_wp2_with (go_at_call 7; refine (works_c _).mono ?_; rintro e w5 ⟨rfl, hb5⟩)
      go_ret
      exact ⟨rfl, HB.out.trans (hb5.mono HB.out.size)⟩
end Go.Proofs.Ytbgnchddeklmeaa
