/- A clock in memory: where a number's timer stands; Stop, Move. -/
import Derived.Test.YtjlapnnmdfdjdaaC11
namespace Go.Proofs.Ytjlapnnmdfdjdaa
open Go.RowKit
theorem place1_c {x : Tm} {nb : Nat} {k : Int} {w : World} (h : w.cell? ⟨nb, 0, none⟩ = some (.int .i64 k)) :
    Calls Try.prog 49 #[x.val, .pointer (some ⟨nb, 0, none⟩)] w fun e w' => e = .returned (.bool (x.n == k)) ∧ Below w.heap.size w w' := by
  obtain ⟨xn, xa, xe⟩ := x
  unfold Tm.val
  simp only
  have hb : Below w.heap.size w (w.alloc (.cells #[.int .i64 xn, .int .i64 xa, .int .i64 xe] 39)) := (Below.refl _ _).alloc (Nat.le_refl _) _
  have hc := (World.cell?_alloc_lt w (.cells #[.int .i64 xn, .int .i64 xa, .int .i64 xe] 39) _ (World.block_lt_of_cell? w _ h)).trans h
  have HB := Lib.hid hb
  clear hb
  go_enter Try.func49, Try.ntmps49
  go_wp2
  go_ret
  exact ⟨rfl, HB.out⟩
/-- Where a number's timer stands. -/
def PlacePost (H : List Tm) (k : Int) (w : World) (e : Ending) (w' : World) : Prop :=
  ∃ i : Int, e = .returned (.int .i64 i) ∧ Below w.heap.size w w' ∧ ((i = -1 ∧ ∀ t ∈ H, t.n ≠ k) ∨ ∃ j : Nat, i = j ∧ j < H.length ∧ H[j]!.n = k)
set_option maxRecDepth 100000 in
theorem index_c {B nb : Nat} {w : World} {v : Value} {H : List Tm} {k : Int} (ho : w.ownsRow B 39 3 v H.length (tmCells H)) (h : w.cell? ⟨nb, 0, none⟩ = some (.int .i64 k)) (hl : H.length ≤ 1024) :
    Calls Try.prog 48 #[v, .func (.func 49) #[] #[.pointer (some ⟨nb, 0, none⟩)]] w (PlacePost H k w) := by
  obtain ⟨X, cap, rfl, _⟩ := own_rowS ho
  have hcall : ∀ (x : Value) (w : World), (callFunc 49 #[x, .pointer (some ⟨nb, 0, none⟩)]).run Try.prog w = .ok (.enter 49 #[x, .pointer (some ⟨nb, 0, none⟩)]) w := fun x w => by kernel_rfl
  have hnb := World.block_lt_of_cell? w _ h
  have HO := Lib.hid ho
  have HK := Lib.hid h
  clear ho h
  go_enter Try.func48, Try.ntmps48
  go_wp2
  go_loopw [8] (fun i wr => ∃ j : Nat, i = .int .i64 j ∧ j ≤ H.length ∧ Below w.heap.size w wr ∧ ∀ q, q < j → H[q]!.n ≠ k) (fun i _ => H.length - (intOf i).toNat)
  case atStart => exact ⟨0, rfl, Nat.zero_le _, Below.refl _ _, fun q hq => absurd hq (Nat.not_lt_zero q)⟩
  case round =>
    obtain ⟨j, rfl, hj, hb, hno⟩ := hrel
    have HB := Lib.hid hb
    have HN := Lib.hid hno
    clear hb hno
    by_cases hlt : j < H.length
    · obtain ⟨g, cap', hv, _, _⟩ := HO.out.form (by omega : 0 < H.length)
      cases hv
      obtain ⟨c1, c2, c3⟩ := own_tm HO.out hlt
      have hg : g < w.heap.size := World.block_lt_of_cell? w _ c1
      rw [← HB.out.cell hg] at c1 c2 c3
      have hk : wr.cell? ⟨nb, 0, none⟩ = some (.int .i64 k) := (HB.out.cell hnb).trans HK.out
      obtain ⟨x, hx⟩ : ∃ x, x = H[j]! := ⟨_, rfl⟩
      rw [← hx] at c1 c2 c3
      have hpl := place1_c (x := x) hk
      obtain ⟨xn, xa, xe⟩ := x
      simp only at c1 c2 c3
      have hj0 : (0 : Int) ≤ (j : Int) := by omega
      have hj1 : (j : Int) < (H.length : Int) := by omega
      have FIN : Hid (∀ w1, Below wr.heap.size wr w1 → Below w.heap.size w w1) := Lib.hid fun w1 h => HB.out.trans (h.mono HB.out.size)
      obtain ⟨b, hbe⟩ : ∃ b, b = (xn == k) := ⟨_, rfl⟩
      unfold Tm.val at hpl
      simp only at hpl
      rw [← hbe] at hpl
      have hbx : b = (H[j]!.n == k) := by rw [← hx]; exact hbe
      have HBE := Lib.hid hbx
      have HPL := Lib.hid hpl
      clear hbe hbx hpl hx
      cases b with
      | true =>
        go_wp2_with fail
        refine Calls.mono HPL.out ?_
        rintro e w1 ⟨rfl, hb1⟩
        go_wp2
        go_ret
        exact ⟨_, rfl, FIN.out _ hb1, .inr ⟨j, rfl, hlt, by simpa using HBE.out.symm⟩⟩
      | false =>
        go_wp2_with fail
        refine Calls.mono HPL.out ?_
        rintro e w1 ⟨rfl, hb1⟩
        go_wp2
        go_roundw
        case rel =>
          refine ⟨j + 1, by go_num, by omega, FIN.out _ hb1, fun q hq => ?_⟩
          rcases Nat.lt_succ_iff_lt_or_eq.1 hq with h | rfl
          · exact HN.out q h
          · simpa using HBE.out.symm
        case measure => simp [intOf]; omega
    · have hge : ¬ (j : Int) < (H.length : Int) := by omega
      go_wp2
      go_ret
      refine ⟨-1, rfl, HB.out, .inl ⟨rfl, fun t ht => ?_⟩⟩
      obtain ⟨q, hq, rfl⟩ := List.mem_iff_getElem.1 ht
      have := HN.out q (by omega)
      rwa [getElem!_pos H q hq] at this
end Go.Proofs.Ytjlapnnmdfdjdaa
