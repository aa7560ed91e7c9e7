/- A clock in memory: Next, Clone, Pending. -/
import Derived.Test.YtjlapnnmdfdjdaaC14
namespace Go.Proofs.Ytjlapnnmdfdjdaa
open Go.RowKit
/-- When the next one fires. -/
def Clk.nextA (c : Clk) : Int := match c.L with
  | [] => 0
  | x :: _ => x.a
theorem next_c {B s : Nat} {w : World} {c : Clk} (h : CAt B s w c) (hf : c.Fine) :
    Calls Try.prog 23 #[cV s] w fun e w' => e = .returned (.tuple #[.int .i64 c.nextA, .bool (!c.L.isEmpty)]) ∧ w' = w := by
  obtain ⟨c0, c1, H, ⟨hq, hfi⟩, hh⟩ := h
  obtain ⟨v, c2, hz, ho, hne, hB⟩ := hq
  have hl := hh.length
  unfold Clk.nextA
  cases hL : c.L with
  | nil =>
    rw [hL] at hl
    obtain rfl : H = [] := List.eq_nil_of_length_eq_zero hl
    obtain ⟨X, cap, rfl, _⟩ := own_rowS ho
    simp only [List.length_nil] at c2
    clear hz ho hne hfi hh hl hL hf c0 c1
    simp only [List.isEmpty_nil, Bool.not_true]
    go_enter Try.func23, Try.ntmps23
    go_wp2
    go_ret2
    exact ⟨rfl, rfl⟩
  | cons x l =>
    rw [hL] at hl hh
    have hl0 : 0 < H.length := by rw [hl]; simp
    have hfst := hh.first (by rw [← hL]; exact hf.ok.fit.sor)
    obtain ⟨g, cap, rfl, _, _⟩ := ho.form hl0
    obtain ⟨_, d2, _⟩ := own_tm ho hl0
    rw [hfst, Nat.zero_mul, Nat.zero_add] at d2
    have hl1 : (0 : Int) < (H.length : Int) := by omega
    have hl2 : ¬ (H.length : Int) = 0 := by omega
    have hl3 : ((H.length : Int) == 0) = false := by simpa using hl2
    obtain ⟨xa, hxa⟩ : ∃ q, q = x.a := ⟨_, rfl⟩
    rw [← hxa] at d2
    simp only [← hxa, List.isEmpty_cons, Bool.not_false]
    clear hz ho hne hfi hh hl hL hf c0 c1 hfst hxa hl2 hl0
    go_enter Try.func23, Try.ntmps23
    go_wp2
    go_ret2
    exact ⟨rfl, rfl⟩
set_option maxRecDepth 100000 in
theorem cclone_c {B s : Nat} {w : World} {c : Clk} (h : CAt B s w c) (hf : c.Fine) :
    Calls Try.prog 11 #[cV s] w fun e w' => ∃ s', e = .returned (cV s') ∧ CAt w.heap.size s' w' c ∧ Below w.heap.size w w' ∧ w.heap.size ≤ s' := by
  obtain ⟨c0, c1, H, ⟨hq, hfi⟩, hh⟩ := h
  obtain ⟨v, c2, hz, ho, hne, hB⟩ := hq
  have hlt := World.block_lt_of_cell? w _ c2
  have hl : H.length ≤ 1024 := by rw [hh.length]; exact hf.ok.len
  have hcl : ∀ q, Calls Try.prog 26 #[v] (w.drewN q) fun e w' => ∃ v', e = .returned v' ∧ w'.ownsRow w.heap.size 39 3 v' H.length (tmCells H) ∧ Below w.heap.size w w' := fun q => by
    refine (tclone_c (w := w.drewN q) (B := B) ho hl).mono ?_
    rintro e w' ⟨v', h1, h2, h3⟩
    exact ⟨v', h1, h2, h3.os, h3.tape, h3.output, h3.size, h3.block⟩
  have fin : ∀ v5 w5, w5.ownsRow w.heap.size 39 3 v5 H.length (tmCells H) → Below w.heap.size w w5 → CAt w.heap.size w5.heap.size (w5.alloc (.cells #[.int .i64 c.now, .int .i64 c.last, v5] 60)) c ∧ Below w.heap.size w (w5.alloc (.cells #[.int .i64 c.now, .int .i64 c.last, v5] 60)) ∧ w.heap.size ≤ w5.heap.size := fun v5 w5 h1 h2 =>
    ⟨⟨cell_new _ _ _ _, cell_new _ _ _ _, H, ⟨⟨v5, cell_new _ _ _ _, fun j => frozen_new _ _ _ j, h1.alloc _, fun e => by have := (h1.lt _ e).2; omega, h2.size⟩, hfi⟩, hh⟩, h2.alloc h2.size _, h2.size⟩
  have HCL := Lib.hid hcl
  have FIN := Lib.hid fin
  obtain ⟨now, last, L⟩ := c
  simp only at c0 c1 FIN
  clear hcl fin hfi hh ho hz hne hl hf
  go_enter Try.func11, Try.ntmps11
  go_wp2_with fail
  -- begin clone
  refine wp_region_held_drew (S := (fun w' => Below w.heap.size w w' ∧ w'.cell? ⟨s, 0, none⟩ = some (.int .i64 now) ∧ w'.cell? ⟨s, 1, none⟩ = some (.int .i64 last) ∧ w'.cell? ⟨s, 2, none⟩ = some v)) (by kernel_rfl) ?bxs (fun hHeld => ?bxr)
  case bxs => exact ⟨(Below.refl _ _).drew, c0, c1, c2⟩
  refine take_at (i := 0) (d := 3) (v := ?bxv0) rfl (by rfl) (by kernel_rfl) (by kernel_rfl) (by kernel_rfl) (fun _ _ _ h => h) (Or.inl ⟨by rfl, ?bxy0⟩) (by assumption) ?bxr0
  case bxy0 => intro w' hSw; obtain ⟨_, q1, q2, q3⟩ := hSw; go_simp; (try with_reducible rfl)
  case' bxr0 => simp only [Act.put, List.setIfInBounds_toArray, List.set_cons_zero, List.set_cons_succ]
  refine take_at (i := 1) (d := 4) (v := ?bxv1) rfl (by rfl) (by kernel_rfl) (by kernel_rfl) (by kernel_rfl) (fun _ _ _ h => h) (Or.inl ⟨by rfl, ?bxy1⟩) (by assumption) ?bxr1
  case bxy1 => intro w' hSw; obtain ⟨_, q1, q2, q3⟩ := hSw; go_simp; (try with_reducible rfl)
  case' bxr1 => simp only [Act.put, List.setIfInBounds_toArray, List.set_cons_zero, List.set_cons_succ]
  refine take_at (i := 2) (d := 5) (v := ?bxv2) rfl (by rfl) (by kernel_rfl) (by kernel_rfl) (by kernel_rfl) (fun _ _ _ h => h) (Or.inl ⟨by rfl, ?bxy2⟩) (by assumption) ?bxr2
  case bxy2 => intro w' hSw; obtain ⟨_, q1, q2, q3⟩ := hSw; go_simp; (try with_reducible rfl)
  case' bxr2 => simp only [Act.put, List.setIfInBounds_toArray, List.set_cons_zero, List.set_cons_succ]
  refine take_at (i := 3) (d := 6) (v := ?bxv3) rfl (by rfl) (by kernel_rfl) (by kernel_rfl) (by kernel_rfl) (fun _ _ _ h => h) (Or.inl ⟨by rfl, ?bxy3⟩) (by assumption) ?bxr3
  case bxy3 => intro w' hSw; obtain ⟨_, q1, q2, q3⟩ := hSw; go_simp; (try with_reducible rfl)
  case' bxr3 => simp only [Act.put, List.setIfInBounds_toArray, List.set_cons_zero, List.set_cons_succ]
  refine take_at (i := 4) (d := 7) (v := ?bxv4) rfl (by rfl) (by kernel_rfl) (by kernel_rfl) (by kernel_rfl) (fun _ _ _ h => h) (Or.inl ⟨by rfl, ?bxy4⟩) (by assumption) ?bxr4
  case bxy4 => intro w' hSw; obtain ⟨_, q1, q2, q3⟩ := hSw; go_simp; (try with_reducible rfl)
  case' bxr4 => simp only [Act.put, List.setIfInBounds_toArray, List.set_cons_zero, List.set_cons_succ]
  refine take_at (i := 5) (d := 8) (v := ?bxv5) rfl (by rfl) (by kernel_rfl) (by kernel_rfl) (by kernel_rfl) (fun _ _ _ h => h) (Or.inl ⟨by rfl, ?bxy5⟩) (by assumption) ?bxr5
  case bxy5 => intro w' hSw; obtain ⟨_, q1, q2, q3⟩ := hSw; go_simp; (try with_reducible rfl)
  case' bxr5 => simp only [Act.put, List.setIfInBounds_toArray, List.set_cons_zero, List.set_cons_succ]
  refine take_at (i := 6) (d := 9) (v := ?bxv6) rfl (by rfl) (by kernel_rfl) (by kernel_rfl) (by kernel_rfl) (fun _ _ _ h => h) (Or.inl ⟨by rfl, ?bxy6⟩) (by assumption) ?bxr6
  case bxy6 => intro w' hSw; obtain ⟨_, q1, q2, q3⟩ := hSw; go_simp; (try with_reducible rfl)
  case' bxr6 => simp only [Act.put, List.setIfInBounds_toArray, List.set_cons_zero, List.set_cons_succ]
  refine take_at (i := 7) (d := 10) (v := ?bxv7) rfl (by rfl) (by kernel_rfl) (by kernel_rfl) (by kernel_rfl) (fun _ _ _ h => h) (Or.inl ⟨by rfl, ?bxy7⟩) (by assumption) ?bxr7
  case bxy7 => intro w' hSw; obtain ⟨_, q1, q2, q3⟩ := hSw; go_simp; (try with_reducible rfl)
  case' bxr7 => simp only [Act.put, List.setIfInBounds_toArray, List.set_cons_zero, List.set_cons_succ]
  refine take_at (i := 8) (d := 11) (v := ?bxv8) rfl (by rfl) (by kernel_rfl) (by kernel_rfl) (by kernel_rfl) (fun _ _ _ h => h) (Or.inl ⟨by rfl, ?bxy8⟩) (by assumption) ?bxr8
  case bxy8 => intro w' hSw; obtain ⟨_, q1, q2, q3⟩ := hSw; go_simp; (try with_reducible rfl)
  case' bxr8 => simp only [Act.put, List.setIfInBounds_toArray, List.set_cons_zero, List.set_cons_succ]
  refine take_at (i := 9) (d := 12) (v := ?bxv9) rfl (by rfl) (by kernel_rfl) (by kernel_rfl) (by kernel_rfl) (fun _ _ _ h => h) (Or.inl ⟨by rfl, ?bxy9⟩) (by assumption) ?bxr9
  case bxy9 => intro w' hSw; obtain ⟨_, q1, q2, q3⟩ := hSw; go_simp; (try with_reducible rfl)
  case' bxr9 => simp only [Act.put, List.setIfInBounds_toArray, List.set_cons_zero, List.set_cons_succ]
  refine take_at (i := 10) (d := 13) (v := ?bxv10) rfl (by rfl) (by kernel_rfl) (by kernel_rfl) (by kernel_rfl) (fun _ _ _ h => h) (Or.inl ⟨by rfl, ?bxy10⟩) (by assumption) ?bxr10
  case bxy10 => intro w' hSw; obtain ⟨_, q1, q2, q3⟩ := hSw; go_simp; (try with_reducible rfl)
  case' bxr10 => simp only [Act.put, List.setIfInBounds_toArray, List.set_cons_zero, List.set_cons_succ]
  refine take_at (i := 11) (d := 14) (v := ?bxv11) rfl (by rfl) (by kernel_rfl) (by kernel_rfl) (by kernel_rfl) (fun _ _ _ h => h) (Or.inl ⟨by rfl, ?bxy11⟩) (by assumption) ?bxr11
  case bxy11 => intro w' hSw; obtain ⟨_, q1, q2, q3⟩ := hSw; go_simp; (try with_reducible rfl)
  case' bxr11 => simp only [Act.put, List.setIfInBounds_toArray, List.set_cons_zero, List.set_cons_succ]
  refine wpAnyH_ready (rs := [12]) (by kernel_rfl) (by simp) ?bxc12
  refine AllReadyH.cons rfl (fun K hK => ?bxb12) AllReadyH.nil
  go_simp
  go_at_call 26; refine (HCL.out 1).mono ?_; rintro e w5 ⟨v5, rfl, ho5, hb5⟩; obtain ⟨X5, d5, rfl, _⟩ := own_rowS ho5
  refine hK.out _ _ ?bxh12 (fun hHeld => ?bxr12)
  case bxh12 => exact ⟨hb5, (hb5.cell hlt).trans c0, (hb5.cell hlt).trans c1, (hb5.cell hlt).trans c2⟩
  case' bxr12 => (clear hK K; try simp only [Act.put, List.setIfInBounds_toArray, List.set_cons_zero, List.set_cons_succ])
  refine take_at (i := 13) (d := 16) (v := ?bxv13) rfl (by rfl) (by kernel_rfl) (by kernel_rfl) (by kernel_rfl) (fun _ _ _ h => h) (Or.inl ⟨by rfl, ?bxy13⟩) (by assumption) ?bxr13
  case bxy13 => intro w' hSw; obtain ⟨_, q1, q2, q3⟩ := hSw; go_simp; (try with_reducible rfl)
  case' bxr13 => simp only [Act.put, List.setIfInBounds_toArray, List.set_cons_zero, List.set_cons_succ]
  refine wpAnyH_ready (rs := [14]) (by kernel_rfl) (by simp) ?bxc14
  refine AllReadyH.cons rfl (fun K hK => ?bxb14) AllReadyH.nil
  go_simp
  
  refine hK.out _ _ ?bxh14 (fun hHeld => ?bxr14)
  case bxh14 => exact ⟨hHeld.1.alloc hHeld.1.size _, (World.cell?_alloc_lt _ _ _ (World.block_lt_of_cell? _ _ hHeld.2.1)).trans hHeld.2.1, (World.cell?_alloc_lt _ _ _ (World.block_lt_of_cell? _ _ hHeld.2.2.1)).trans hHeld.2.2.1, (World.cell?_alloc_lt _ _ _ (World.block_lt_of_cell? _ _ hHeld.2.2.2)).trans hHeld.2.2.2⟩
  case' bxr14 => (clear hK K; try simp only [Act.put, List.setIfInBounds_toArray, List.set_cons_zero, List.set_cons_succ])
  refine take_at (i := 15) (d := 2) (v := ?bxv15) rfl (by rfl) (by kernel_rfl) (by kernel_rfl) (by kernel_rfl) (fun _ _ _ h => h) (Or.inl ⟨by rfl, ?bxy15⟩) (by assumption) ?bxr15
  case bxy15 => intro w' hSw; obtain ⟨_, q1, q2, q3⟩ := hSw; go_simp; (try with_reducible rfl)
  case' bxr15 => simp only [Act.put, List.setIfInBounds_toArray, List.set_cons_zero, List.set_cons_succ]
  refine wpAnyH_done (by kernel_rfl) ?bxz _
  -- end clone
  clear hHeld
  go_wp2
  go_ret
  exact ⟨_, rfl, FIN.out _ _ ho5 hb5⟩
theorem pending_c {B s : Nat} {w : World} {c : Clk} (h : CAt B s w c) (hf : c.Fine) :
    Calls Try.prog 16 #[cV s] w fun e w' => ∃ v', e = .returned v' ∧ w'.ownsRow w.heap.size 39 3 v' c.L.length (tmCells c.L) ∧ Below w.heap.size w w' := by
  obtain ⟨c0, c1, H, ⟨hq, hfi⟩, hh⟩ := h
  obtain ⟨v, c2, hz, ho, hne, hB⟩ := hq
  have hl : H.length ≤ 1024 := by rw [hh.length]; exact hf.ok.len
  have HCL := Lib.hid (tclone_c ho hl)
  have HS : Hid (∀ v5 w5, w5.ownsRow w.heap.size 39 3 v5 H.length (tmCells H) → Below w.heap.size w w5 → Calls Try.prog 30 #[v5, .func (.func 31) #[] #[]] w5 fun e w' => e = .returned (.tuple #[]) ∧ w'.ownsRow w.heap.size 39 3 v5 c.L.length (tmCells c.L) ∧ Below w.heap.size w w') := Lib.hid fun v5 w5 h1 h2 => by
    refine (tsort_c h1 hfi hh.perm hf.ok.fit.sor hf.ok.fit.nod (by omega)).mono ?_
    rintro e w' ⟨rfl, h3, h4⟩
    exact ⟨rfl, h3, h2.grown h4 h2.size (fun k hk => (h1.lt k hk).1)⟩
  clear ho hfi hh hl hf hz hne c0 c1
  go_enter Try.func16, Try.ntmps16
  go_wp2_with fail
  go_at_call 26
  refine HCL.out.mono ?_
  rintro e w5 ⟨v5, rfl, ho5, hb5⟩
  have HS5 := Lib.hid (HS.out v5 w5 ho5 hb5)
  clear ho5 hb5
  go_wp2_with (go_at_call 30; refine HS5.out.mono ?_; rintro e w6 ⟨rfl, hr⟩)
  go_ret
  exact ⟨_, rfl, hr⟩
end Go.Proofs.Ytjlapnnmdfdjdaa
