/- The chapter's helpers: among, firings, timers (at rows that are the same). -/
import Derived.Test.YtjlapnnmdfdjdaaC18
namespace Go.Proofs.Ytjlapnnmdfdjdaa
open Go.RowKit
theorem among_c (x n : Int) (w : World) (hn : 0 < n ∧ n ≤ 1048576) :
    Calls Try.prog 10 #[.int .i64 x, .int .i64 n] w fun e w' => e = .returned (.int .i64 (x % n)) ∧ w' = w := by
  have h0 : (n == 0) = false := by simp; omega
  have h1 : n ≠ 0 := by omega
  have h2 : n ≠ -1 := by omega
  have h3 := Int.tmod_lt_of_pos x hn.1
  have h4 : -n < x.tmod n := by
    have := Int.tmod_lt_of_pos (-x) hn.1
    rw [Int.neg_tmod] at this
    omega
  have h5 : (x.tmod n + n).tmod n = x % n := by
    rw [Int.tmod_eq_emod_of_nonneg (by omega)]
    have := Int.mul_tdiv_add_tmod x n
    conv => rhs; rw [← this]
    rw [Int.add_emod_right, Int.add_comm, Int.add_mul_emod_self_left]
  go_enter Try.func10, Try.ntmps10
  go_wp2
  go_ret
  exact ⟨by rw [← h5]; rfl, rfl⟩
/-- A row of n that begins a block, its cells known. -/
def CellsAt (w : World) (v : Value) (n : Nat) (xs : List Value) : Prop := ∃ A c, v = .slice A n c ∧ (0 < n → ∃ g, A = some ⟨g, 0, none⟩ ∧ ∀ j u, xs[j]? = some u → w.cell? ⟨g, j, none⟩ = some u)
theorem CellsAt.of_own {w : World} {B e sz n : Nat} {v : Value} {xs : List Value} (h : w.ownsRow B e sz v n xs) : CellsAt w v n xs := by
  obtain ⟨X, c, rfl, _⟩ := own_rowS h
  refine ⟨X, c, rfl, fun hn => ?_⟩
  obtain ⟨g, cap, hv, _, _⟩ := h.form hn
  cases hv
  refine ⟨g, rfl, fun j u hu => ?_⟩
  have := h.cells (g := g) rfl j u hu
  rwa [add_zero] at this
theorem frC_get {l : List (Int × Int)} {i : Nat} (h : i < l.length) : (frC l)[i * 2]? = some (.int .i64 l[i].1) ∧ (frC l)[i * 2 + 1]? = some (.int .i64 l[i].2) := by
  have h0 := flat_get (k := 2) (fun x : Int × Int => [.int .i64 x.1, .int .i64 x.2]) l i 0 h (by omega) (fun _ _ => rfl)
  have h1 := flat_get (k := 2) (fun x : Int × Int => [.int .i64 x.1, .int .i64 x.2]) l i 1 h (by omega) (fun _ _ => rfl)
  rw [getElem!_pos l i h] at h0 h1
  exact ⟨h0, h1⟩
theorem firings_same {w : World} {u v : Value} {l : List (Int × Int)} (hu : CellsAt w u l.length (frC l)) (hv : CellsAt w v l.length (frC l)) (hl : l.length ≤ 1099511627776) :
    Calls Try.prog 13 #[u, v] w fun e w' => e = .returned (.bool true) ∧ ∃ q, w' = w.drewN q := by
  obtain ⟨A, c, rfl, hA⟩ := hu
  obtain ⟨A', c', rfl, hA'⟩ := hv
  have hm2 : ((l.length : Int) != (l.length : Int)) = false := by simp
  have HA := Lib.hid hA
  have HA' := Lib.hid hA'
  clear hA hA'
  go_enter Try.func13, Try.ntmps13
  go_wp2
  go_loopw [13] (fun i wr => ∃ k n : Nat, k ≤ l.length ∧ i = .int .i64 k ∧ wr = w.drewN n) (fun i _ => l.length - (intOf i).toNat)
  case atStart => exact ⟨0, 0, by omega, rfl, rfl⟩
  case round =>
    obtain ⟨k, n, hk, rfl, rfl⟩ := hrel
    by_cases hlt : k < l.length
    · obtain ⟨g, rfl, h1⟩ := HA.out (by omega)
      obtain ⟨g', rfl, h2⟩ := HA'.out (by omega)
      obtain ⟨q1, q2⟩ := frC_get hlt
      have c1 := h1 _ _ q1
      have c2 := h1 _ _ q2
      have c3 := h2 _ _ q1
      have c4 := h2 _ _ q2
      clear h1 h2 q1 q2
      obtain ⟨x, hx⟩ : ∃ x, x = l[k] := ⟨_, rfl⟩
      rw [← hx] at c1 c2 c3 c4
      obtain ⟨xn, xa⟩ := x
      simp only at c1 c2 c3 c4
      clear hx
      have hi0 : (0 : Int) ≤ (k : Int) := Int.natCast_nonneg _
      have hi1 : (k : Int) < (l.length : Int) := by omega
      have hne : ∀ W, (binOp .neq 41 (.agg #[.int .i64 xn, .int .i64 xa]) (.agg #[.int .i64 xn, .int .i64 xa])).run Try.prog W = .ok (.bool false) W := fun W => by simp [go_sem]
      go_wp2_with fail
      go_quiet (fail)
      go_wp2
      go_roundw
      case rel => exact ⟨k + 1, _, by omega, by go_num, rfl⟩
      case measure => simp [intOf]; omega
    · go_wp2
      go_ret
      exact ⟨rfl, _, rfl⟩
theorem timers_same {w : World} {u v : Value} {l : List Tm} (hu : CellsAt w u l.length (tmCells l)) (hv : CellsAt w v l.length (tmCells l)) (hl : l.length ≤ 1099511627776) :
    Calls Try.prog 15 #[u, v] w fun e w' => e = .returned (.bool true) ∧ ∃ q, w' = w.drewN q := by
  obtain ⟨A, c, rfl, hA⟩ := hu
  obtain ⟨A', c', rfl, hA'⟩ := hv
  have hm2 : ((l.length : Int) != (l.length : Int)) = false := by simp
  have HA := Lib.hid hA
  have HA' := Lib.hid hA'
  clear hA hA'
  go_enter Try.func15, Try.ntmps15
  go_wp2
  go_loopw [13] (fun i wr => ∃ k n : Nat, k ≤ l.length ∧ i = .int .i64 k ∧ wr = w.drewN n) (fun i _ => l.length - (intOf i).toNat)
  case atStart => exact ⟨0, 0, by omega, rfl, rfl⟩
  case round =>
    obtain ⟨k, n, hk, rfl, rfl⟩ := hrel
    by_cases hlt : k < l.length
    · obtain ⟨g, rfl, h1⟩ := HA.out (by omega)
      obtain ⟨g', rfl, h2⟩ := HA'.out (by omega)
      obtain ⟨q1, q2, q3⟩ := tmCells_get hlt
      have c1 := h1 _ _ q1
      have c2 := h1 _ _ q2
      have c3 := h1 _ _ q3
      have c4 := h2 _ _ q1
      have c5 := h2 _ _ q2
      have c6 := h2 _ _ q3
      clear h1 h2 q1 q2 q3
      obtain ⟨x, hx⟩ : ∃ x, x = l[k]! := ⟨_, rfl⟩
      rw [← hx] at c1 c2 c3 c4 c5 c6
      obtain ⟨xn, xa, xe⟩ := x
      simp only at c1 c2 c3 c4 c5 c6
      clear hx
      have hi0 : (0 : Int) ≤ (k : Int) := Int.natCast_nonneg _
      have hi1 : (k : Int) < (l.length : Int) := by omega
      have hne : ∀ W, (binOp .neq 39 (.agg #[.int .i64 xn, .int .i64 xa, .int .i64 xe]) (.agg #[.int .i64 xn, .int .i64 xa, .int .i64 xe])).run Try.prog W = .ok (.bool false) W := fun W => by simp [go_sem]
      go_wp2_with fail
      go_quiet (fail)
      go_wp2
      go_roundw
      case rel => exact ⟨k + 1, _, by omega, by go_num, rfl⟩
      case measure => simp [intOf]; omega
    · go_wp2
      go_ret
      exact ⟨rfl, _, rfl⟩
end Go.Proofs.Ytjlapnnmdfdjdaa
