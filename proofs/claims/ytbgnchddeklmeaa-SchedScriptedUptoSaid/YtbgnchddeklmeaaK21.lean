/- Picks: the least, the greatest, by a list, by chance. -/
import Derived.Test.YtbgnchddeklmeaaK20
namespace Go.Proofs.Ytbgnchddeklmeaa
open Go.RowKit
theorem first1_c (x v : Value) (w : World) : Calls Try.prog 42 #[x, v] w fun e w' => e = .returned (.int .i64 (0 : Nat)) ∧ w' = w := by
  go_enter Try.func42, Try.ntmps42
  go_wp2
  go_ret
  exact ⟨rfl, rfl⟩
theorem last1_c (x : Value) (X : Option Addr) (n d : Nat) (w : World) (hn : 0 < n ∧ n ≤ 4096) : Calls Try.prog 43 #[x, .slice X n d] w fun e w' => e = .returned (.int .i64 ((n - 1 : Nat) : Int)) ∧ w' = w := by
  obtain ⟨m, rfl⟩ : ∃ m, n = m + 1 := ⟨n - 1, by omega⟩
  go_enter Try.func43, Try.ntmps43
  go_wp2
  go_ret
  exact ⟨by simp, rfl⟩
theorem pick_first {w : World} (x v : Value) :
    Calls Try.prog 81 #[.func (Fn.func 42) #[] #[], x, v] w fun e w' => e = .returned (.int .i64 (0 : Nat)) ∧ w' = w := by
  go_enter Try.func81, Try.ntmps81
  go_wp2_with (go_at_call 42; refine (first1_c _ _ _).mono ?_; rintro e w' ⟨rfl, rfl⟩)
  go_ret
  exact ⟨rfl, rfl⟩
theorem pick_last {w : World} (x : Value) (X : Option Addr) (n d : Nat) (hn : 0 < n ∧ n ≤ 4096) :
    Calls Try.prog 81 #[.func (Fn.func 43) #[] #[], x, .slice X n d] w fun e w' => e = .returned (.int .i64 ((n - 1 : Nat) : Int)) ∧ w' = w := by
  go_enter Try.func81, Try.ntmps81
  go_wp2_with (go_at_call 43; refine (last1_c _ _ _ _ _ hn).mono ?_; rintro e w' ⟨rfl, rfl⟩)
  go_ret
  exact ⟨rfl, rfl⟩
theorem RowIn.at {w : World} {lo n : Nat} {bad : List Nat} {X : Option Addr} {xs : List Int} (h : RowIn w lo n bad X xs) {j : Nat} (hj : j < xs.length) : ∃ b off, X = some ⟨b, off, none⟩ ∧ w.cell? ⟨b, off + j, none⟩ = some (.int .i64 (xs.getD j 0)) := by
  rcases h with rfl | ⟨b, off, e, _, _, _, _, hc⟩
  · simp at hj
  · exact ⟨b, off, e, hc j hj⟩
theorem pick_list {w : World} {lo n s : Nat} {bad : List Nat} {p : Value} {last count : Int} {often : Nat → Int} {X Y : Option Addr} {d d2 : Nat} {ps l : List Int} (hS : SchAt w s p last count often) (hr : RowIn w lo n bad X ps) (hp0 : ∀ x ∈ ps, 0 ≤ x) (hl0 : 0 < l.length) (hl : l.length ≤ 128) (hc : 0 ≤ count) :
    Calls Try.prog 83 #[.slice X ps.length d, .pointer (some ⟨s, 0, none⟩), .slice Y l.length d2] w fun e w' => e = .returned (.int .i64 (listK ps count l : Nat)) ∧ w' = w := by
  obtain ⟨k, rfl⟩ : ∃ k : Nat, count = k := ⟨count.toNat, by omega⟩
  have hcc := hS.2.2.2.1
  clear hS
  unfold listK
  by_cases hlt : k < ps.length
  · have hlt2 : (k : Int) < (ps.length : Int) := by omega
    obtain ⟨b, off, rfl, hcj⟩ := hr.at hlt
    obtain ⟨v, hv⟩ : ∃ v, v = ps.getD k 0 := ⟨_, rfl⟩
    have hv0 : 0 ≤ v := by rw [hv, List.getD_eq_getElem?_getD, List.getElem?_eq_getElem hlt]; exact hp0 _ (List.getElem_mem hlt)
    rw [if_pos hlt2, Int.toNat_natCast]
    rw [← hv] at hcj ⊢
    have h1 : ((l.length : Int) == 0) = false := by rw [beq_eq_false_iff_ne]; omega
    have h2 : (l.length : Int) ≠ -1 := by have : (0 : Int) ≤ (l.length : Int) := Int.natCast_nonneg _; omega
    have hem : v % l.length = ((v % l.length).toNat : Int) := (Int.toNat_of_nonneg (Int.emod_nonneg v (show (l.length : Int) ≠ 0 by omega))).symm
    have HEM := Lib.hid hem
    clear hr hp0 hv hem
    go_enter Try.func83, Try.ntmps83
    go_wp2
    go_ret
    exact ⟨by rw [← HEM.out]; rfl, rfl⟩
  · have hge : ¬ (k : Int) < (ps.length : Int) := by omega
    rw [if_neg hge]
    clear hr hp0
    go_enter Try.func83, Try.ntmps83
    go_wp2
    go_ret
    exact ⟨rfl, rfl⟩
theorem outS_range (c : Int) : 0 ≤ outS c ∧ outS c < 18446744073709551616 := by
  unfold outS
  rw [IntKind.wrap_u64]
  omega
theorem below_c (x n : Int) (cb : Nat) (w : World) (hc : w.cell? ⟨cb, 0, none⟩ = some (.int .u64 x)) (hz : w.frozen? ⟨cb, 0, none⟩ = false) (hn : 0 < n ∧ n ≤ 9223372036854775807) :
    Calls Try.prog 45 #[.pointer (some ⟨cb, 0, none⟩), .int .i64 n] w fun e w' => e = .returned (.int .i64 (belowK x n : Nat)) ∧ w' = w.setCell ⟨cb, 0, none⟩ (.int .u64 (nxS x)) := by
  have ho := outS_range x
  have h1 : IntKind.u64.wrap n = n := by rw [IntKind.wrap_u64]; omega
  have h2 : n ≠ 0 := by omega
  have h3 : (outS x / 8589934592).tmod n = ((outS x / 8589934592 % n).toNat : Int) := by
    rw [Int.tmod_eq_emod_of_nonneg (by omega)]
    exact (Int.toNat_of_nonneg (Int.emod_nonneg (outS x / 8589934592) h2)).symm
  have h4 := Int.emod_lt_of_pos (outS x / 8589934592) hn.1
  have h5 := Int.emod_nonneg (outS x / 8589934592) h2
  have h6 : wrap64 ((outS x / 8589934592).tmod n) = (outS x / 8589934592 % n).toNat := by rw [h3]; unfold wrap64; omega
  have H6 := Lib.hid h6
  have H3 := Lib.hid h3
  clear h6 h3 h4 h5 ho
  go_enter Try.func45, Try.ntmps45
  go_wp2_with (go_at_call 28; refine (throw_c x cb w hc hz).mono ?_; rintro e w' ⟨rfl, rfl⟩)
  go_ret
  exact ⟨by unfold belowK; rw [← H6.out]; rfl, rfl⟩
theorem pick_lot {w : World} (x : Int) (cb : Nat) (z : Value) (Y : Option Addr) (n d : Nat) (hc : w.cell? ⟨cb, 0, none⟩ = some (.int .u64 x)) (hz : w.frozen? ⟨cb, 0, none⟩ = false) (hn : 0 < n ∧ n ≤ 4096) :
    Calls Try.prog 90 #[.pointer (some ⟨cb, 0, none⟩), z, .slice Y n d] w fun e w' => e = .returned (.int .i64 (belowK x n : Nat)) ∧ w' = w.setCell ⟨cb, 0, none⟩ (.int .u64 (nxS x)) := by
  go_enter Try.func90, Try.ntmps90
  go_wp2_with (go_at_call 45; refine (below_c x n cb w hc hz (by omega)).mono ?_; rintro e w' ⟨rfl, rfl⟩)
  go_ret
  exact ⟨rfl, rfl⟩
end Go.Proofs.Ytbgnchddeklmeaa
