/- Next when nobody is ready; a number below another. -/
import Derived.Test.YtbgnchddeklmeaaK10
namespace Go.Proofs.Ytbgnchddeklmeaa
open Go.RowKit
theorem next_none {w : World} {s : Nat} {X : Option Addr} (d : Nat) :
    Calls Try.prog 10 #[.pointer (some ⟨s, 0, none⟩), .slice X 0 d] w fun e w' => e = .returned (.tuple #[.int .i64 0, .int .i64 4]) ∧ Below w.heap.size w w' := by
  have hr : RowAt w X (I []) := .inl rfl
  go_enter Try.func10, Try.ntmps10
  go_wp2_with fail
  go_at_call 24
  refine (clone_c (xs := []) d hr (by simp)).mono ?_
  rintro e w1 ⟨v, rfl, ho1, hB1⟩
  obtain ⟨Y, d2, rfl⟩ : ∃ Y d2, v = .slice Y 0 d2 := by
    rcases own_ints_cases ho1 with ⟨rfl, _, _⟩ | ⟨g, cap, cur, rfl, _⟩
    · exact ⟨_, _, rfl⟩
    · exact ⟨_, _, rfl⟩
  have HB := Lib.hid hB1
  clear hB1 ho1 hr
  go_wp2_with (go_at_call 25; refine (Try.slices_Sort_int_none _ _ _).mono ?_; rintro e w2 ⟨rfl, rfl⟩)
  go_ret2
  exact ⟨rfl, HB.out⟩
theorem among_c (x n : Int) (w : World) (hn : 0 < n ∧ n ≤ 4096) :
    Calls Try.prog 12 #[.int .i64 x, .int .i64 n] w fun e w' => e = .returned (.int .i64 (x % n)) ∧ w' = w := by
  have h0 : (n == 0) = false := by simp; omega
  have h1 : n ≠ 0 := by omega
  have h2 : n ≠ -1 := by omega
  have h3 := Int.tmod_lt_of_pos x hn.1
  have h4 : -n < x.tmod n := by
    have := Int.tmod_lt_of_pos (-x) hn.1
    rw [Int.neg_tmod] at this
    omega
  have h5 : (x.tmod n + n).tmod n = x % n := by
    rw [Int.tmod_eq_emod_of_nonneg (by omega)]
    have := Int.mul_tdiv_add_tmod x n
    conv => rhs; rw [← this]
    rw [Int.add_emod_right, Int.add_comm, Int.add_mul_emod_self_left]
  go_enter Try.func12, Try.ntmps12
  go_wp2
  go_ret
  exact ⟨by rw [← h5]; rfl, rfl⟩
end Go.Proofs.Ytbgnchddeklmeaa
