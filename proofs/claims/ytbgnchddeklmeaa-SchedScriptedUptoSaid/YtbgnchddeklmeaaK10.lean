/- Numbers by bits; Next when nobody is ready. -/
import Derived.Laws.Bits64b
import Derived.Test.YtbgnchddeklmeaaK8
namespace Go.Proofs.Ytbgnchddeklmeaa
open Go.RowKit
/-- The numbers below n that X's bits tell. -/
def someN (X : Nat) (n : Nat) : List Nat := (List.range n).filter fun i => X.testBit i
def someL (X : Nat) (n : Nat) : List Int := (someN X n).map Int.ofNat
theorem someN_succ (X n : Nat) : someN X (n + 1) = someN X n ++ if X.testBit n then [n] else [] := by
  unfold someN
  rw [List.range_succ, List.filter_append]
  congr 1
  by_cases h : X.testBit n <;> simp [h]
theorem someL_succ_in {X n : Nat} (h : X.testBit n = true) : someL X (n + 1) = someL X n ++ [(n : Int)] := by
  unfold someL
  rw [someN_succ, if_pos h, List.map_append]
  rfl
theorem someL_succ_out {X n : Nat} (h : X.testBit n = false) : someL X (n + 1) = someL X n := by
  unfold someL
  rw [someN_succ, if_neg (by simp [h]), List.append_nil]
theorem someN_length (X n : Nat) : (someN X n).length ≤ n := Nat.le_trans (List.length_filter_le _ _) (by simp)
theorem someL_length (X n : Nat) : (someL X n).length ≤ n := by unfold someL; rw [List.length_map]; exact someN_length X n
theorem mem_someL {X n : Nat} {x : Int} : x ∈ someL X n ↔ 0 ≤ x ∧ x < n ∧ X.testBit x.toNat = true := by
  unfold someL someN
  rw [List.mem_map]
  constructor
  · rintro ⟨i, hi, rfl⟩
    rw [List.mem_filter, List.mem_range] at hi
    exact ⟨Int.natCast_nonneg i, Int.ofNat_lt.2 hi.1, hi.2⟩
  · rintro ⟨h0, h1, h2⟩
    exact ⟨x.toNat, by rw [List.mem_filter, List.mem_range]; exact ⟨by omega, h2⟩, Int.toNat_of_nonneg h0⟩
theorem someL_lt (X n : Nat) : (someL X n).Pairwise (· < ·) := by
  unfold someL someN
  rw [List.pairwise_map]
  exact (List.pairwise_lt_range.filter _).imp (fun h => Int.ofNat_lt.2 h)
theorem ready_some {X n : Nat} (hn : n ≤ 128) (h : 0 < (someL X n).length) : Ready (someL X n) (someL X n) :=
  ⟨List.Perm.refl _, someL_lt X n, fun x hx => by have := mem_someL.1 hx; omega, h, Nat.le_trans (someL_length X n) hn⟩
theorem bit_eq (X i : Nat) (hX : X < 18446744073709551616) : bits BinOp.and IntKind.u64 ((X : Int) / 2 ^ i) 1 = if X.testBit i then 1 else 0 := by
  have h1 : ((X : Int) / 2 ^ i) = ((X / 2 ^ i : Nat) : Int) := by push_cast; rfl
  have h2 : (X / 2 ^ i) < 18446744073709551616 := Nat.lt_of_le_of_lt (Nat.div_le_self _ _) hX
  rw [h1, show bits BinOp.and IntKind.u64 ((X / 2 ^ i : Nat) : Int) 1 = ((X / 2 ^ i &&& 1 : Nat) : Int) from bits_and_u64_nat _ 1 h2 (by omega), Nat.and_one_is_mod, Nat.testBit_eq_decide_div_mod_eq]
  by_cases h : X / 2 ^ i % 2 = 1
  · rw [if_pos (by simpa using h), h]; rfl
  · rw [if_neg (by simpa using h)]
    omega
set_option maxHeartbeats 1000000 in
theorem some_own (X n : Nat) (w : World) (hX : X < 18446744073709551616) (hn : n ≤ 64) :
    Calls Try.prog 11 #[.int .u64 X, .int .i64 n] w fun e w' => ∃ Y d, e = .returned (.slice Y (someL X n).length d) ∧ w'.ownsRow w.heap.size 3 1 (.slice Y (someL X n).length d) (someL X n).length (I (someL X n)) ∧ Below w.heap.size w w' := by
  go_enter Try.func11, Try.ntmps11
  go_wp2
  obtain ⟨w0, hw0⟩ : ∃ w0, w0 = w.alloc (.cells #[] 3) := ⟨_, rfl⟩
  have hb0 : Below w.heap.size w w0 := by rw [hw0]; exact (Below.refl _ _).alloc (Nat.le_refl _) _
  have ho0 : w0.ownsRow w.heap.size 3 1 (.slice (some ⟨w.heap.size, 0, none⟩) 0 0) (I (someL X 0)).length (I (someL X 0)) :=
    ⟨rfl, .inr ⟨w.heap.size, 0, #[], rfl, Nat.le_refl _, by rw [hw0]; exact heap_alloc_new _ _, by simp [someL, someN], by simp, by simp, by simp [someL, someN]⟩⟩
  rw [← hw0]
  have HB0 := Lib.hid hb0
  have HO0 := Lib.hid ho0
  clear hw0 hb0 ho0
  go_loopw [5, 6] (fun v i wr => ∃ j : Nat, j ≤ n ∧ i = .int .i64 j ∧ wr.ownsRow w.heap.size 3 1 v (I (someL X j)).length (I (someL X j)) ∧ Below w.heap.size w wr) (fun _ i _ => n - (intOf i).toNat)
  case atStart => exact ⟨0, by omega, rfl, HO0.out, HB0.out⟩
  case round =>
    obtain ⟨j, hj, rfl, hown, hbel⟩ := hrel
    have hol : (I (someL X j)).length ≤ j := by rw [List.length_map]; exact someL_length X j
    have hbs := hbel.size
    have HOL := Lib.hid hol
    clear hol
    have hj0 : (0 : Int) ≤ (j : Int) := Int.natCast_nonneg _
    have hj64 : (j : Int) ≤ 64 := by omega
    by_cases hlt : j < n
    · have hj1 : (j : Int) < (n : Int) := by omega
      have hbit := bit_eq X j hX
      by_cases hx : X.testBit j = true
      · rw [if_pos hx] at hbit
        have HAP := Lib.hid (show I (someL X j) ++ [.int .i64 (j : Int)] = I (someL X (j + 1)) by rw [someL_succ_in hx]; unfold I; rw [List.map_append]; rfl)
        clear hx
        go_wp2_with (at_builtin; refine app_one (w0 := w) w.heap.size (by rfl) _ _ 30 3 (.int .i64 0) 8 (by rfl) Try.underlying30 info_int rfl _ (I (someL X j)) (.int .i64 (j : Int)) (by rfl) _ (by rfl) rfl rfl hown hbel hbs (by have := HOL.out; omega) (by have := HOL.out; omega) ?_; intro v5 w5 hown5 hb5 _ _)
        go_roundw
        case rel => exact ⟨j + 1, by omega, by go_num, by rw [HAP.out] at hown5; exact hown5, hb5⟩
        case measure => simp [intOf]; omega
      · have hx2 : X.testBit j = false := by simpa using hx
        rw [if_neg hx] at hbit
        have HAP := Lib.hid (someL_succ_out hx2)
        clear hx hx2
        go_wp2
        go_roundw
        case rel => exact ⟨j + 1, by omega, by go_num, by rw [HAP.out]; exact hown, hbel⟩
        case measure => simp [intOf]; omega
    · have hjn : j = n := by omega
      subst hjn
      obtain ⟨Y, d, rfl, hr⟩ := own_row1 hown
      rw [List.length_map] at hown
      have HR := Lib.hid hown
      have HH := Lib.hid hbel
      clear hown hbel hr
      go_wp2
      go_ret
      exact ⟨Y, d, by simp, HR.out, HH.out⟩
theorem some_c (X n : Nat) (w : World) (hX : X < 18446744073709551616) (hn : n ≤ 64) :
    Calls Try.prog 11 #[.int .u64 X, .int .i64 n] w fun e w' => ∃ Y d, e = .returned (.slice Y (someL X n).length d) ∧ RowAt w' Y (I (someL X n)) ∧ Below w.heap.size w w' :=
  (some_own X n w hX hn).mono fun _ _ ⟨Y, d, he, ho, hb⟩ => ⟨Y, d, he, by obtain ⟨Y2, d2, hv, hr⟩ := own_row1 ho; obtain ⟨rfl, _, _⟩ := Value.slice.inj hv; exact hr, hb⟩
end Go.Proofs.Ytbgnchddeklmeaa
