/- A clock in memory: New, Now, may, set, At, After, Every. -/
import Derived.Test.YtjlapnnmdfdjdaaV21
import Derived.Test.YtjlapnnmdfdjdaaC8
namespace Go.Proofs.Ytjlapnnmdfdjdaa
open Go.RowKit
/-- A clock in block s, its timers' row in a block of B or behind it. -/
structure CAt (B s : Nat) (w : World) (c : Clk) : Prop where
  now : w.cell? ⟨s, 0, none⟩ = some (.int .i64 c.now)
  last : w.cell? ⟨s, 1, none⟩ = some (.int .i64 c.last)
  q : ∃ H, QR B s w H ∧ HeapOf H c.L
abbrev cV (s : Nat) : Value := .pointer (some ⟨s, 0, none⟩)
/-- A clock that may be used on. -/
structure Clk.Fine (c : Clk) : Prop where
  ok : c.Ok
  top : c.last < 4611686018427387904
theorem now_c {B s : Nat} {w : World} {c : Clk} (h : CAt B s w c) : Calls Try.prog 14 #[cV s] w fun e w' => e = .returned (.int .i64 c.now) ∧ w' = w := by
  have c0 := h.now
  have H := Lib.hid h
  clear h
  go_enter Try.func14, Try.ntmps14
  go_wp2
  go_ret
  exact ⟨rfl, rfl⟩
theorem may_c {B s : Nat} {w : World} {c : Clk} (h : CAt B s w c) (a : Int) : Calls Try.prog 35 #[cV s, .int .i64 a] w fun e w' => e = .returned (.bool (decide (¬ (a < c.now ∨ 1099511627776 < a)))) ∧ w' = w := by
  have c0 := h.now
  obtain ⟨n, hn⟩ : ∃ n, n = c.now := ⟨_, rfl⟩
  rw [← hn] at c0 ⊢
  clear h hn
  by_cases h1 : n ≤ a
  · by_cases h2 : a ≤ 1099511627776
    · have e : decide (¬ (a < n ∨ 1099511627776 < a)) = true := by simp; omega
      rw [e]
      clear e
      go_enter Try.func35, Try.ntmps35
      go_wp2
      go_ret
      exact ⟨rfl, rfl⟩
    · have e : decide (¬ (a < n ∨ 1099511627776 < a)) = false := by simp; omega
      rw [e]
      clear e
      go_enter Try.func35, Try.ntmps35
      go_wp2
      go_ret
      exact ⟨rfl, rfl⟩
  · have e : decide (¬ (a < n ∨ 1099511627776 < a)) = false := by simp; omega
    rw [e]
    clear e
    go_enter Try.func35, Try.ntmps35
    go_wp2
    go_ret
    exact ⟨rfl, rfl⟩
theorem new_c (w : World) : Calls Try.prog 20 #[] w fun e w' => e = .returned (cV w.heap.size) ∧ CAt w.heap.size w.heap.size w' clk0 ∧ Below w.heap.size w w' ∧ w'.heap.size = w.heap.size + 1 := by
  obtain ⟨o, ho⟩ : ∃ o : Obj, o = .cells #[.int .i64 0, .int .i64 0, .slice none 0 0] 60 := ⟨_, rfl⟩
  have hq : QAt w.heap.size w.heap.size (w.alloc o) [] := by
    rw [ho]
    exact ⟨.slice none 0 0, cell_new _ _ _ _, fun j => frozen_new _ _ _ j, own_none _ _ _ _, by simp [Value.ownBlock], Nat.le_refl _⟩
  have fin : CAt w.heap.size w.heap.size (w.alloc o) clk0 ∧ Below w.heap.size w (w.alloc o) ∧ (w.alloc o).heap.size = w.heap.size + 1 :=
    ⟨⟨by rw [ho]; exact cell_new _ _ _ _, by rw [ho]; exact cell_new _ _ _ _, [], ⟨hq, by simp⟩, ⟨List.Perm.refl _, fun i h0 hi => by simp at hi⟩⟩, (Below.refl _ _).alloc (Nat.le_refl _) _, al_size _ _⟩
  rw [ho] at fin
  have FIN := Lib.hid fin
  clear fin hq ho
  go_enter Try.func20, Try.ntmps20
  go_wp2
  go_ret
  exact ⟨rfl, FIN.out⟩
theorem HRow.beside {s o sz n B : Nat} {e : TypeId} {w : World} {xs : List Value} (h : HRow s o sz e B w n xs) {k : Nat} (hk : k ≠ o) (u : Value) : HRow s o sz e B (w.setCell ⟨s, k, none⟩ u) n xs ∧ HMoves s o w (w.setCell ⟨s, k, none⟩ u) := by
  obtain ⟨v, h1, h2, h3, h4, h5⟩ := h
  have hm : Moves [s] w (w.setCell ⟨s, k, none⟩ u) := Moves.set _ _ _ (by simp)
  have hc : (w.setCell ⟨s, k, none⟩ u).cell? ⟨s, o, none⟩ = some v := (set_far _ _ _ _ _ (fun c => hk c)).trans h1
  refine ⟨⟨v, hc, fun j => by rw [World.frozen?_setCell]; exact h2 j, own_mv h3 hm (fun g hg => by simp; rintro rfl; exact h4 hg), h4, h5⟩, hm.mono (fun k hk => .inl (by simp at hk; simp [hk])), fun g hg => ?_⟩
  rw [blkAt_some hc] at hg
  rw [blkAt_some h1]
  exact .inl hg
theorem Clk.Fine.fine {c : Clk} (h : c.Fine) : ∀ t ∈ c.L, Proofs.Ytjlapnnmdfdjdaa.Fine t := fun t ht => by
  have h1 := h.ok.fit.rng t ht
  have h2 := h.ok.num t ht
  have h3 := h.top
  have h4 := h.ok.now0
  unfold Proofs.Ytjlapnnmdfdjdaa.Fine
  omega
set_option maxRecDepth 100000 in
theorem set_c {B s : Nat} {w : World} {c : Clk} (h : CAt B s w c) (hf : c.Fine) {a e : Int} (ha : c.now ≤ a ∧ a ≤ 1099511627776) (he : 0 ≤ e ∧ e ≤ 1099511627776) :
    Calls Try.prog 32 #[cV s, .int .i64 a, .int .i64 e] w fun r w' => r = .returned (.tuple #[.int .i64 (c.set a e).2.1, .int .i64 (c.set a e).2.2]) ∧ CAt B s w' (c.set a e).1 ∧ HMoves s 2 w w' := by
  obtain ⟨c0, c1, H, ⟨hq, hfi⟩, hh⟩ := h
  have hl : H.length = c.L.length := hh.length
  obtain ⟨v, c2, hz, ho, hne, hB⟩ := id hq
  obtain ⟨X, cap, rfl, _⟩ := own_rowS ho
  have hz1 := hz 1
  have hlen : H.length ≤ 1024 := by rw [hl]; exact hf.ok.len
  by_cases hc : 1024 ≤ c.L.length
  · have e1 : c.set a e = (c, 0, 3) := by unfold Clk.set; rw [if_pos hc]
    rw [e1]
    have FIN := Lib.hid (show CAt B s w c from ⟨c0, c1, H, ⟨hq, hfi⟩, hh⟩)
    have h4 : (1024 : Int) ≤ (H.length : Int) := by omega
    clear hq hfi hh ho hz hne hl hlen hc e1 hf
    go_enter Try.func32, Try.ntmps32
    go_wp2
    go_ret2
    exact ⟨rfl, FIN.out, HMoves.refl _ _ _⟩
  · have e1 : c.set a e = (⟨c.now, c.last + 1, laid ⟨c.last + 1, a, e⟩ c.L⟩, c.last + 1, 0) := by unfold Clk.set; rw [if_neg hc]
    rw [e1]
    simp only
    have h4 : ¬ (1024 : Int) ≤ (H.length : Int) := by omega
    have hnow := hf.ok.now0
    have hl0 := hf.ok.last0
    have hl1 := hf.top
    obtain ⟨now, last, L⟩ := c
    simp only at c0 c1 hl0 hl1 hnow ha hh ⊢
    obtain ⟨W, hW⟩ : ∃ W, W = w.setCell ⟨s, 1, none⟩ (.int .i64 (last + 1)) := ⟨_, rfl⟩
    have hw1 : QAt B s W H ∧ HMoves s 2 w W := by rw [hW]; exact HRow.beside hq (by omega) _
    have k0 : W.cell? ⟨s, 0, none⟩ = some (.int .i64 now) := by rw [hW]; exact (set_far _ _ _ _ _ (by omega)).trans c0
    have k1 : W.cell? ⟨s, 1, none⟩ = some (.int .i64 (last + 1)) := by rw [hW]; exact set_here _ _ _ _ _ c1
    have hpush := fun q => push_c (q_ops B s) (q_ends B s) tm_ord (⟨last + 1, a, e⟩ : Tm) (w := W.drewN q) (by unfold Fine; simp only; omega) ⟨hw1.1.drewN q, hfi⟩ hh.heap (by omega)
    have hfin : ∀ w', PushPost Tm.lt (QR B s) (QMoves s) H (⟨last + 1, a, e⟩ : Tm) W.drew (.returned (.tuple #[])) w' → CAt B s w' ⟨now, last + 1, laid ⟨last + 1, a, e⟩ L⟩ ∧ HMoves s 2 w w' := fun w' h1 => by
      obtain ⟨_, H', hR', hp', hh', hm'⟩ := h1
      exact ⟨⟨(hm'.2 0 (by omega)).trans k0, (hm'.2 1 (by omega)).trans k1, H', hR', hh.pushed hp' hh'⟩, hw1.2.trans hm'.1⟩
    unfold encT Tm.val at hpush
    simp only at hpush
    have HP := Lib.hid hpush
    have FIN := Lib.hid hfin
    have HW := Lib.hid hW
    clear hq hfi hh ho hz hne hl hc hlen e1 hf hw1 hpush hfin hW
    go_enter Try.func32, Try.ntmps32
    go_wp2_with fail
    rw [← HW.out]
    -- begin set
    refine wp_region_held_drew (S := (fun w' => w'.cell? ⟨s, 1, none⟩ = some (.int .i64 (last + 1)))) (by kernel_rfl) ?sxs (fun hHeld => ?sxr)
    case sxs => exact k1
    refine take_at (i := 0) (d := 21) (v := ?sxv0) rfl (by rfl) (by kernel_rfl) (by kernel_rfl) (by kernel_rfl) (fun _ _ _ h => h) (Or.inl ⟨by rfl, ?sxy0⟩) (by assumption) ?sxr0
    case sxy0 => intro w' hSw; have q1 := hSw; go_simp; (try with_reducible rfl)
    case' sxr0 => simp only [Act.put, List.setIfInBounds_toArray, List.set_cons_zero, List.set_cons_succ]
    refine take_at (i := 1) (d := 22) (v := ?sxv1) rfl (by rfl) (by kernel_rfl) (by kernel_rfl) (by kernel_rfl) (fun _ _ _ h => h) (Or.inl ⟨by rfl, ?sxy1⟩) (by assumption) ?sxr1
    case sxy1 => intro w' hSw; have q1 := hSw; go_simp; (try with_reducible rfl)
    case' sxr1 => simp only [Act.put, List.setIfInBounds_toArray, List.set_cons_zero, List.set_cons_succ]
    refine take_at (i := 2) (d := 23) (v := ?sxv2) rfl (by rfl) (by kernel_rfl) (by kernel_rfl) (by kernel_rfl) (fun _ _ _ h => h) (Or.inl ⟨by rfl, ?sxy2⟩) (by assumption) ?sxr2
    case sxy2 => intro w' hSw; have q1 := hSw; go_simp; (try with_reducible rfl)
    case' sxr2 => simp only [Act.put, List.setIfInBounds_toArray, List.set_cons_zero, List.set_cons_succ]
    refine take_at (i := 3) (d := 24) (v := ?sxv3) rfl (by rfl) (by kernel_rfl) (by kernel_rfl) (by kernel_rfl) (fun _ _ _ h => h) (Or.inl ⟨by rfl, ?sxy3⟩) (by assumption) ?sxr3
    case sxy3 => intro w' hSw; have q1 := hSw; go_simp; (try with_reducible rfl)
    case' sxr3 => simp only [Act.put, List.setIfInBounds_toArray, List.set_cons_zero, List.set_cons_succ]
    refine take_at (i := 4) (d := 25) (v := ?sxv4) rfl (by rfl) (by kernel_rfl) (by kernel_rfl) (by kernel_rfl) (fun _ _ _ h => h) (Or.inl ⟨by rfl, ?sxy4⟩) (by assumption) ?sxr4
    case sxy4 => intro w' hSw; have q1 := hSw; go_simp; (try with_reducible rfl)
    case' sxr4 => simp only [Act.put, List.setIfInBounds_toArray, List.set_cons_zero, List.set_cons_succ]
    refine take_at (i := 5) (d := 26) (v := ?sxv5) rfl (by rfl) (by kernel_rfl) (by kernel_rfl) (by kernel_rfl) (fun _ _ _ h => h) (Or.inl ⟨by rfl, ?sxy5⟩) (by assumption) ?sxr5
    case sxy5 => intro w' hSw; have q1 := hSw; go_simp; (try with_reducible rfl)
    case' sxr5 => simp only [Act.put, List.setIfInBounds_toArray, List.set_cons_zero, List.set_cons_succ]
    refine take_at (i := 6) (d := 27) (v := ?sxv6) rfl (by rfl) (by kernel_rfl) (by kernel_rfl) (by kernel_rfl) (fun _ _ _ h => h) (Or.inl ⟨by rfl, ?sxy6⟩) (by assumption) ?sxr6
    case sxy6 => intro w' hSw; have q1 := hSw; go_simp; (try with_reducible rfl)
    case' sxr6 => simp only [Act.put, List.setIfInBounds_toArray, List.set_cons_zero, List.set_cons_succ]
    refine take_at (i := 7) (d := 28) (v := ?sxv7) rfl (by rfl) (by kernel_rfl) (by kernel_rfl) (by kernel_rfl) (fun _ _ _ h => h) (Or.inl ⟨by rfl, ?sxy7⟩) (by assumption) ?sxr7
    case sxy7 => intro w' hSw; have q1 := hSw; go_simp; (try with_reducible rfl)
    case' sxr7 => simp only [Act.put, List.setIfInBounds_toArray, List.set_cons_zero, List.set_cons_succ]
    refine take_at (i := 8) (d := 29) (v := ?sxv8) rfl (by rfl) (by kernel_rfl) (by kernel_rfl) (by kernel_rfl) (fun _ _ _ h => h) (Or.inl ⟨by rfl, ?sxy8⟩) (by assumption) ?sxr8
    case sxy8 => intro w' hSw; have q1 := hSw; go_simp; (try with_reducible rfl)
    case' sxr8 => simp only [Act.put, List.setIfInBounds_toArray, List.set_cons_zero, List.set_cons_succ]
    refine take_at (i := 9) (d := 30) (v := ?sxv9) rfl (by rfl) (by kernel_rfl) (by kernel_rfl) (by kernel_rfl) (fun _ _ _ h => h) (Or.inl ⟨by rfl, ?sxy9⟩) (by assumption) ?sxr9
    case sxy9 => intro w' hSw; have q1 := hSw; go_simp; (try with_reducible rfl)
    case' sxr9 => simp only [Act.put, List.setIfInBounds_toArray, List.set_cons_zero, List.set_cons_succ]
    refine take_at (i := 10) (d := 31) (v := ?sxv10) rfl (by rfl) (by kernel_rfl) (by kernel_rfl) (by kernel_rfl) (fun _ _ _ h => h) (Or.inl ⟨by rfl, ?sxy10⟩) (by assumption) ?sxr10
    case sxy10 => intro w' hSw; have q1 := hSw; go_simp; (try with_reducible rfl)
    case' sxr10 => simp only [Act.put, List.setIfInBounds_toArray, List.set_cons_zero, List.set_cons_succ]
    refine take_at (i := 11) (d := 32) (v := ?sxv11) rfl (by rfl) (by kernel_rfl) (by kernel_rfl) (by kernel_rfl) (fun _ _ _ h => h) (Or.inl ⟨by rfl, ?sxy11⟩) (by assumption) ?sxr11
    case sxy11 => intro w' hSw; have q1 := hSw; go_simp; (try with_reducible rfl)
    case' sxr11 => simp only [Act.put, List.setIfInBounds_toArray, List.set_cons_zero, List.set_cons_succ]
    refine wpAnyH_ready (rs := [12]) (by kernel_rfl) (by simp) ?sxc12
    refine AllReadyH.cons rfl (fun K hK => ?sxb12) AllReadyH.nil
    go_simp
    go_at_call 47; refine (HP.out 1).mono ?_; rintro _ w8 ⟨rfl, hp8⟩
    refine hK.out _ _ ?sxh12 (fun hHeld => ?sxr12)
    case sxh12 => exact (FIN.out w8 ⟨rfl, hp8⟩).1.last
    case' sxr12 => (clear hK K; try simp only [Act.put, List.setIfInBounds_toArray, List.set_cons_zero, List.set_cons_succ])
    refine wpAnyH_done (by kernel_rfl) ?sxz _
    -- end set
    have c8 := hHeld
    clear hHeld
    go_wp2
    go_ret2
    exact ⟨rfl, FIN.out w8 ⟨rfl, hp8⟩⟩
end Go.Proofs.Ytjlapnnmdfdjdaa
