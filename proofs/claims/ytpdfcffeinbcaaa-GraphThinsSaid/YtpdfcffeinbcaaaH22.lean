/- The least of nodes: the five methods of its heap. -/
import Derived.Test.YtpdfcffeinbcaaaM1
import Derived.Test.YtpdfcffeinbcaaaH2
namespace Go.Proofs.Ytpdfcffeinbcaaa
open Go.RowKit
/-- Nodes on a heap, in a variable of their own. -/
def LstAt (B s : Nat) (w : World) (L : List Int) : Prop := HRow s 0 1 3 B w L.length (I L)
def ltI (a b : Int) : Bool := decide (a < b)
theorem ordI : Ord ltI := ⟨fun a b h => by unfold ltI at *; simp at *; omega, fun a b c h1 h2 => by unfold ltI at *; simp at *; omega⟩
abbrev lstV (s : Nat) : Value := .pointer (some ⟨s, 0, none⟩)
theorem meth_len {w : World} {s : Nat} {v : Value} (h : w.cell? ⟨s, 0, none⟩ = some v) : (method 249 104 (lstV s) "Len").run Try.prog w = .ok (96, v) w := by
  have h1 : (method 249 104 (lstV s) "Len").run Try.prog w = (do let r ← receiverAt 104 (.val (lstV s)) false (some (("Len".splitOn ".").getLastD "Len")); pure (96, r) : Sem (FuncId × Value)).run Try.prog w := by kernel_rfl
  rw [h1, Sem.run_bind, recv_val Try.underlying104 (by kernel_rfl) h]; rfl
theorem meth_less {w : World} {s : Nat} {v : Value} (h : w.cell? ⟨s, 0, none⟩ = some v) : (method 249 104 (lstV s) "Less").run Try.prog w = .ok (137, v) w := by
  have h1 : (method 249 104 (lstV s) "Less").run Try.prog w = (do let r ← receiverAt 104 (.val (lstV s)) false (some (("Less".splitOn ".").getLastD "Less")); pure (137, r) : Sem (FuncId × Value)).run Try.prog w := by kernel_rfl
  rw [h1, Sem.run_bind, recv_val Try.underlying104 (by kernel_rfl) h]; rfl
theorem meth_swap {w : World} {s : Nat} {v : Value} (h : w.cell? ⟨s, 0, none⟩ = some v) : (method 249 104 (lstV s) "Swap").run Try.prog w = .ok (140, v) w := by
  have h1 : (method 249 104 (lstV s) "Swap").run Try.prog w = (do let r ← receiverAt 104 (.val (lstV s)) false (some (("Swap".splitOn ".").getLastD "Swap")); pure (140, r) : Sem (FuncId × Value)).run Try.prog w := by kernel_rfl
  rw [h1, Sem.run_bind, recv_val Try.underlying104 (by kernel_rfl) h]; rfl
theorem meth_push (s : Nat) (w : World) : (method 249 104 (lstV s) "Push").run Try.prog w = .ok (139, lstV s) w := by kernel_rfl
theorem meth_pop (s : Nat) (w : World) : (method 249 104 (lstV s) "Pop").run Try.prog w = .ok (138, lstV s) w := by kernel_rfl
theorem len_c {B s : Nat} {w : World} {L : List Int} (h : LstAt B s w L) : Meth 104 (lstV s) "Len" [] w fun e w' => e = .returned (.int .i64 (L.length : Int)) ∧ LstAt B s w' L ∧ HMoves s 0 w w' := by
  obtain ⟨v, hc, hz, ho, hne, hB⟩ := h
  refine ⟨_, v, meth_len hc, by kernel_rfl, ?_⟩
  obtain ⟨X, d, rfl, hr, _⟩ := own_rowS ho
  have H : Hid (LstAt B s w L) := Lib.hid ⟨_, hc, hz, ho, hne, hB⟩
  clear hc hz ho hr hne
  go_enter Try.func96, Try.ntmps96
  go_wp2
  go_ret
  exact ⟨rfl, H.out, HMoves.refl _ _ _⟩
theorem own_int {w : World} {B n g cap : Nat} {L : List Int} (h : w.ownsRow B 3 1 (.slice (some ⟨g, 0, none⟩) n cap) n (I L)) {i : Nat} (hi : i < L.length) : w.cell? ⟨g, i, none⟩ = some (.int .i64 L[i]!) := by
  have := h.cells (g := g) rfl i (.int .i64 L[i]!) (by simp [hi])
  rwa [add_zero] at this
theorem less_c {B s : Nat} {w : World} {L : List Int} {i j : Nat} (h : LstAt B s w L) (hi : i < L.length) (hj : j < L.length) : Meth 104 (lstV s) "Less" [.int .i64 i, .int .i64 j] w fun e w' => e = .returned (.bool (ltI L[i]! L[j]!)) ∧ LstAt B s w' L ∧ HMoves s 0 w w' := by
  have h' := h
  obtain ⟨v, hc, hz, ho, hne, hB⟩ := h
  refine ⟨_, v, meth_less hc, by kernel_rfl, ?_⟩
  rcases own_ints_cases ho with ⟨_, h0, _⟩ | ⟨g, cap, cur, rfl, _, _, _, _, h1, h2, _, _⟩
  · omega
  have c1 := own_int ho hi
  have c2 := own_int ho hj
  have H := Lib.hid h'
  clear hc hz ho h' hne
  obtain ⟨x, hx⟩ : ∃ x, x = L[i]! := ⟨_, rfl⟩
  obtain ⟨y, hy⟩ : ∃ y, y = L[j]! := ⟨_, rfl⟩
  rw [← hx] at c1 ⊢
  rw [← hy] at c2 ⊢
  have hi0 : (0 : Int) ≤ (i : Int) := by omega
  have hi1 : (i : Int) < (L.length : Int) := by omega
  have hj0 : (0 : Int) ≤ (j : Int) := by omega
  have hj1 : (j : Int) < (L.length : Int) := by omega
  clear hx hy hi hj
  go_enter Try.func137, Try.ntmps137
  go_wp2_with fail
  go_quiet (fail)
  go_wp2
  go_ret
  exact ⟨by unfold ltI; rfl, H.out, HMoves.refl _ _ _⟩
set_option maxRecDepth 100000 in
theorem swap_c {B s : Nat} {w : World} {L : List Int} {i j : Nat} (h : LstAt B s w L) (hi : i < L.length) (hj : j < L.length) : Meth 104 (lstV s) "Swap" [.int .i64 i, .int .i64 j] w fun e w' => e = .returned (.tuple #[]) ∧ LstAt B s w' (swpL L i j) ∧ HMoves s 0 w w' := by
  have h' := h
  obtain ⟨v, hc, hz, ho, hne, hB⟩ := h
  refine ⟨_, v, meth_swap hc, by kernel_rfl, ?_⟩
  rcases own_ints_cases ho with ⟨_, h0, _⟩ | ⟨g, cap, cur, rfl, _, _, _, hh, h1, h2, _, _⟩
  · omega
  have c1 := own_int ho hi
  have c2 := own_int ho hj
  obtain ⟨x, hx⟩ : ∃ x, x = L[i]! := ⟨_, rfl⟩
  obtain ⟨y, hy⟩ : ∃ y, y = L[j]! := ⟨_, rfl⟩
  rw [← hx] at c1
  rw [← hy] at c2
  have hi0 : (0 : Int) ≤ (i : Int) := by omega
  have hi1 : (i : Int) < (L.length : Int) := by omega
  have hj0 : (0 : Int) ≤ (j : Int) := by omega
  have hj1 : (j : Int) < (L.length : Int) := by omega
  have hf : ∀ k, w.frozen? ⟨g, k, none⟩ = false := own_frozen ho
  have hd3 : ∃ z, (w.setCell ⟨g, i, none⟩ (.int .i64 y)).cell? ⟨g, j, none⟩ = some z := by
    by_cases e : j = i
    · subst e; exact ⟨_, set_here _ _ _ _ _ c1⟩
    · exact ⟨_, (set_far _ _ _ _ _ (fun c => e c.symm)).trans c2⟩
  obtain ⟨z, d3⟩ := hd3
  have fin : LstAt B s ((w.setCell ⟨g, i, none⟩ (.int .i64 y)).setCell ⟨g, j, none⟩ (.int .i64 x)) (swpL L i j) ∧ HMoves s 0 w ((w.setCell ⟨g, i, none⟩ (.int .i64 y)).setCell ⟨g, j, none⟩ (.int .i64 x)) := by
    have e : I (swpL L i j) = ((I L).set i (.int .i64 y)).set j (.int .i64 x) := by unfold swpL I; rw [hx, hy, List.map_set, List.map_set]
    unfold LstAt
    rw [swpL_length, e]
    exact HRow.wrote hc hz hne hB ((Moves.set _ _ _ (by simp)).trans (Moves.set _ _ _ (by simp))) (own_set (own_set ho _) _)
  have FIN := Lib.hid fin
  clear hx hy hi hj hc hz ho h' fin hne
  go_enter Try.func140, Try.ntmps140
  go_wp2_with fail
  refine region_heldL (L := 13) (S := (fun w' => w'.heap = w.heap ∧ w'.cell? ⟨g, i, none⟩ = some (.int .i64 x) ∧ w'.cell? ⟨g, j, none⟩ = some (.int .i64 y))) (by kernel_rfl) ?xs (fun hHeld => ?xr)
  case xs => exact ⟨rfl, c1, c2⟩
  refine takeP (i := 0) (d := 6) (v := ?xv0) rfl (by rfl) (by kernel_rfl) (by kernel_rfl) (by kernel_rfl) (by rfl) (fun _ _ _ h => h) (Or.inl ⟨by rfl, ?xy0⟩) (by assumption) ?xr0
  case xy0 => intro w' _; go_simp; (try with_reducible rfl)
  case' xr0 => simp only [Act.put, List.setIfInBounds_toArray, List.set_cons_zero, List.set_cons_succ]
  refine takeP (i := 1) (d := 7) (v := ?xv1) rfl (by rfl) (by kernel_rfl) (by kernel_rfl) (by kernel_rfl) (by rfl) (fun _ _ _ h => h) (Or.inl ⟨by rfl, ?xy1⟩) (by assumption) ?xr1
  case xy1 => intro w' _; go_simp; (try with_reducible rfl)
  case' xr1 => simp only [Act.put, List.setIfInBounds_toArray, List.set_cons_zero, List.set_cons_succ]
  refine takeP (i := 2) (d := 8) (v := ?xv2) rfl (by rfl) (by kernel_rfl) (by kernel_rfl) (by kernel_rfl) (by rfl) (fun _ _ _ h => h) (Or.inl ⟨by rfl, ?xy2⟩) (by assumption) ?xr2
  case xy2 => intro w' _; go_simp; (try with_reducible rfl)
  case' xr2 => simp only [Act.put, List.setIfInBounds_toArray, List.set_cons_zero, List.set_cons_succ]
  refine takeP (i := 3) (d := 9) (v := ?xv3) rfl (by rfl) (by kernel_rfl) (by kernel_rfl) (by kernel_rfl) (by rfl) (fun _ _ _ h => h) (Or.inl ⟨by rfl, ?xy3⟩) (by assumption) ?xr3
  case xy3 => intro w' _; go_simp; (try with_reducible rfl)
  case' xr3 => simp only [Act.put, List.setIfInBounds_toArray, List.set_cons_zero, List.set_cons_succ]
  refine takeP (i := 4) (d := 10) (v := ?xv4) rfl (by rfl) (by kernel_rfl) (by kernel_rfl) (by kernel_rfl) (by rfl) (fun _ _ _ h => h) (Or.inl ⟨by rfl, ?xy4⟩) (by assumption) ?xr4
  case xy4 => intro w' _; go_simp; (try with_reducible rfl)
  case' xr4 => simp only [Act.put, List.setIfInBounds_toArray, List.set_cons_zero, List.set_cons_succ]
  refine takeP (i := 5) (d := 11) (v := ?xv5) rfl (by rfl) (by kernel_rfl) (by kernel_rfl) (by kernel_rfl) (by rfl) (fun _ _ _ h => h) (Or.inl ⟨by rfl, ?xy5⟩) (by assumption) ?xr5
  case xy5 => intro w' _; go_simp; (try with_reducible rfl)
  case' xr5 => simp only [Act.put, List.setIfInBounds_toArray, List.set_cons_zero, List.set_cons_succ]
  refine takeP (i := 6) (d := 12) (v := ?xv6) rfl (by rfl) (by kernel_rfl) (by kernel_rfl) (by kernel_rfl) (by rfl) (fun _ _ _ h => h) (Or.inl ⟨by rfl, ?xy6⟩) (by assumption) ?xr6
  case xy6 => intro w' _; go_simp; (try with_reducible rfl)
  case' xr6 => simp only [Act.put, List.setIfInBounds_toArray, List.set_cons_zero, List.set_cons_succ]
  refine takeL (i := 7) (d := 13) (v := ?xv7) rfl (by rfl) (by kernel_rfl) (by kernel_rfl) (by kernel_rfl) (by kernel_rfl) (by rfl) (fun _ _ _ h => h) (Or.inl ⟨by rfl, ?xy7⟩) (by assumption) ?xr7
  case xy7 => intro w' hSw; obtain ⟨_, q1, q2⟩ := hSw; go_simp; (try with_reducible rfl)
  case' xr7 => simp only [Act.put, List.setIfInBounds_toArray, List.set_cons_zero, List.set_cons_succ]
  refine takeP (i := 8) (d := 14) (v := ?xv8) rfl (by rfl) (by kernel_rfl) (by kernel_rfl) (by kernel_rfl) (by rfl) (fun _ _ _ h => h) (Or.inl ⟨by rfl, ?xy8⟩) (by assumption) ?xr8
  case xy8 => intro w' _; go_simp; (try with_reducible rfl)
  case' xr8 => simp only [Act.put, List.setIfInBounds_toArray, List.set_cons_zero, List.set_cons_succ]
  refine takeP (i := 9) (d := 15) (v := ?xv9) rfl (by rfl) (by kernel_rfl) (by kernel_rfl) (by kernel_rfl) (by rfl) (fun _ _ _ h => h) (Or.inl ⟨by rfl, ?xy9⟩) (by assumption) ?xr9
  case xy9 => intro w' _; go_simp; (try with_reducible rfl)
  case' xr9 => simp only [Act.put, List.setIfInBounds_toArray, List.set_cons_zero, List.set_cons_succ]
  refine takeP (i := 10) (d := 16) (v := ?xv10) rfl (by rfl) (by kernel_rfl) (by kernel_rfl) (by kernel_rfl) (by rfl) (fun _ _ _ h => h) (Or.inl ⟨by rfl, ?xy10⟩) (by assumption) ?xr10
  case xy10 => intro w' _; go_simp; (try with_reducible rfl)
  case' xr10 => simp only [Act.put, List.setIfInBounds_toArray, List.set_cons_zero, List.set_cons_succ]
  refine takeL (i := 11) (d := 17) (v := ?xv11) rfl (by rfl) (by kernel_rfl) (by kernel_rfl) (by kernel_rfl) (by kernel_rfl) (by rfl) (fun _ _ _ h => h) (Or.inl ⟨by rfl, ?xy11⟩) (by assumption) ?xr11
  case xy11 => intro w' hSw; obtain ⟨_, q1, q2⟩ := hSw; go_simp; (try with_reducible rfl)
  case' xr11 => simp only [Act.put, List.setIfInBounds_toArray, List.set_cons_zero, List.set_cons_succ]
  refine takeP (i := 12) (d := 18) (v := ?xv12) rfl (by rfl) (by kernel_rfl) (by kernel_rfl) (by kernel_rfl) (by rfl) (fun _ _ _ h => h) (Or.inl ⟨by rfl, ?xy12⟩) (by assumption) ?xr12
  case xy12 => intro w' _; go_simp; (try with_reducible rfl)
  case' xr12 => simp only [Act.put, List.setIfInBounds_toArray, List.set_cons_zero, List.set_cons_succ]
  refine stepM (i := 13) (by kernel_rfl) rfl (by kernel_rfl) (fun K hK => ?xb13)
  go_simp
  refine hK.out _ _ ?xr13
  case' xr13 => (clear hK K; try simp only [Act.put, List.setIfInBounds_toArray, List.set_cons_zero, List.set_cons_succ])
  refine stepM (i := 14) (by kernel_rfl) rfl (by kernel_rfl) (fun K hK => ?xb14)
  go_simp
  refine hK.out _ _ ?xr14
  case' xr14 => (clear hK K; try simp only [Act.put, List.setIfInBounds_toArray, List.set_cons_zero, List.set_cons_succ])
  refine stepM (i := 15) (by kernel_rfl) rfl (by kernel_rfl) (fun K hK => ?xb15)
  go_simp
  refine hK.out _ _ ?xr15
  case' xr15 => (clear hK K; try simp only [Act.put, List.setIfInBounds_toArray, List.set_cons_zero, List.set_cons_succ])
  refine doneM (by kernel_rfl) ?xz
  go_end0
  exact ⟨rfl, FIN.out.1, FIN.out.2⟩
theorem pop_lst {B s : Nat} {w : World} {L : List Int} {x : Int} (h : LstAt B s w (L ++ [x])) : Meth 104 (lstV s) "Pop" [] w fun e w' => e = .returned (.iface 3 (.int .i64 x)) ∧ LstAt B s w' L ∧ HMoves s 0 w w' := by
  obtain ⟨v, hc, hz, ho, hne, hB⟩ := h
  refine ⟨_, _, meth_pop s w, by kernel_rfl, ?_⟩
  rcases own_ints_cases ho with ⟨_, h0, _⟩ | ⟨g, cap, cur, rfl, _, _, _, hh, h1, h2, _, _⟩
  · simp at h0
  have hlen : (L ++ [x]).length = L.length + 1 := by simp
  rw [hlen] at ho hc h1
  have c1 : w.cell? ⟨g, L.length, none⟩ = some (.int .i64 x) := by
    have := ho.cells (g := g) rfl L.length (.int .i64 x) (by simp)
    rwa [add_zero] at this
  have hz0 := hz 0
  have hle : L.length + 1 ≤ 9223372036854775807 := by unfold maxLen at h2; omega
  have hcap : L.length ≤ cap := by omega
  have he : ((L.length + 1 : Nat) : Int) - 1 = (L.length : Int) := by omega
  have hl1 : (L.length : Int) < ((L.length + 1 : Nat) : Int) := by omega
  have hl0 : (0 : Int) ≤ (L.length : Int) := by omega
  have hl3 : (L.length : Int) ≤ (cap : Int) := by omega
  have fin : LstAt B s (w.setCell ⟨s, 0, none⟩ (.slice (some ⟨g, 0, none⟩) L.length cap)) L ∧ HMoves s 0 w (w.setCell ⟨s, 0, none⟩ (.slice (some ⟨g, 0, none⟩) L.length cap)) := by
    have ho2 := own_less ho (m := L.length) (by omega)
    have e : (I (L ++ [x])).take (L.length * 1) = I L := by simp [I]
    rw [e] at ho2
    exact HRow.put hc hz hne hB ho2 (World.grownBy.refl _ _) (fun k e => .inl e)
  have FIN := Lib.hid fin
  clear hz ho fin hh hlen hne
  go_enter Try.func138, Try.ntmps138
  go_wp2
  go_ret
  exact ⟨rfl, FIN.out.1, FIN.out.2⟩
theorem push_lst {B s : Nat} {w : World} {L : List Int} {x : Int} (h : LstAt B s w L) (hl : L.length < 1099511627776) : Meth 104 (lstV s) "Push" [.iface 3 (.int .i64 x)] w fun e w' => e = .returned (.tuple #[]) ∧ LstAt B s w' (L ++ [x]) ∧ HMoves s 0 w w' := by
  obtain ⟨v, hc, hz, ho, hne, hB⟩ := h
  refine ⟨_, _, meth_push s w, by kernel_rfl, ?_⟩
  obtain ⟨i0, hi, hzz⟩ := Option.map_eq_some_iff.1 info_int
  simp only [Prod.mk.injEq] at hzz
  have hlt : s < w.heap.size := World.block_lt_of_cell? w _ hc
  have hoa : ∀ o, (w.alloc o).drew.ownsRow B 3 1 v L.length (I L) := fun o => own_drew (ho.alloc _)
  have hrd : Reads (w.alloc (.cells #[.int .i64 x] 3)).drew (w.heap.size + 1) 1 (some ⟨w.heap.size, 0, none⟩) 1 [.int .i64 x] := by
    have := (reads_new w [.int .i64 x] 3 1 rfl).drew
    rwa [al_size] at this
  have hc5 : ∀ w5, (w.alloc (.cells #[.int .i64 x] 3)).drew.grownBy w5 v.ownBlock → w5.cell? ⟨s, 0, none⟩ = some v ∧ w5.frozen? ⟨s, 0, none⟩ = false := fun w5 hg => by
    have hbl : w5.heap[s]? = w.heap[s]? := by
      rw [hg.block s (by show s < (World.alloc _ _).heap.size; rw [al_size]; omega) (fun e => hne e.symm)]
      exact heap_alloc_old _ _ hlt
    exact ⟨(World.cell?_of_block (a := ⟨s, 0, none⟩) hbl).trans hc, by rw [frozen_block (a := ⟨s, 0, none⟩) hbl]; exact hz 0⟩
  have fin : ∀ v5 w5, w5.ownsRow B 3 1 v5 (L.length + 1) (I L ++ [.int .i64 x]) → (w.alloc (.cells #[.int .i64 x] 3)).drew.grownBy w5 v.ownBlock → (v5.ownBlock = v.ownBlock ∨ v5.ownBlock = some ((w.alloc (.cells #[.int .i64 x] 3)).drew.heap.size)) → LstAt B s (w5.setCell ⟨s, 0, none⟩ v5) (L ++ [x]) ∧ HMoves s 0 w (w5.setCell ⟨s, 0, none⟩ v5) := fun v5 w5 h1 h2 h3 => by
    have hg : w.grownBy w5 v.ownBlock := World.grownBy.trans (World.grownBy_alloc w (.cells #[.int .i64 x] 3) v.ownBlock) ⟨h2.os, h2.tape, h2.output, h2.size, h2.block⟩
    unfold LstAt
    rw [show I (L ++ [x]) = I L ++ [.int .i64 x] from List.map_append, show (L ++ [x]).length = L.length + 1 by simp]
    exact HRow.put hc hz hne hB h1 hg (fun g e => h3.imp (fun h => h.symm.trans e) (fun h => by
      rw [h] at e
      cases e
      show w.heap.size ≤ (w.alloc _).heap.size
      rw [al_size]; omega))
  have hta : ∀ xT w', (Instr.typeAssert (.iface 3 (.int .i64 x)) xT 3 false).run Try.prog w' = .ok (.int .i64 x) w' := fun xT w' => by kernel_rfl
  have HI := Lib.hid hi
  have HZ := Lib.hid hzz
  have HOA := Lib.hid hoa
  have HRD := Lib.hid hrd
  have HC5 := Lib.hid hc5
  have FIN := Lib.hid fin
  clear hz ho hi hzz hoa hrd hc5 fin hne
  go_enter Try.func139, Try.ntmps139
  go_wp2_with fail
  refine region_heldL (L := 9) (S := (fun w' => w'.cell? ⟨s, 0, none⟩ = some v)) (by kernel_rfl) ?xs (fun hHeld => ?xr)
  case xs => exact hc
  refine takeL (i := 0) (d := 4) (v := ?xv0) rfl (by rfl) (by kernel_rfl) (by kernel_rfl) (by kernel_rfl) (by kernel_rfl) (by rfl) (fun _ _ _ h => h) (Or.inl ⟨by rfl, ?xy0⟩) (by assumption) ?xr0
  case xy0 => intro w' hSw; have q1 := hSw; go_simp; (try with_reducible rfl)
  case' xr0 => simp only [Act.put, List.setIfInBounds_toArray, List.set_cons_zero, List.set_cons_succ]
  refine takeL (i := 1) (d := 5) (v := ?xv1) rfl (by rfl) (by kernel_rfl) (by kernel_rfl) (by kernel_rfl) (by kernel_rfl) (by rfl) (fun _ _ _ h => h) (Or.inl ⟨by rfl, ?xy1⟩) (by assumption) ?xr1
  case xy1 => intro w' hSw; have q1 := hSw; go_simp; (try with_reducible rfl)
  case' xr1 => simp only [Act.put, List.setIfInBounds_toArray, List.set_cons_zero, List.set_cons_succ]
  refine takeL (i := 2) (d := 6) (v := ?xv2) rfl (by rfl) (by kernel_rfl) (by kernel_rfl) (by kernel_rfl) (by kernel_rfl) (by rfl) (fun _ _ _ h => h) (Or.inl ⟨by rfl, ?xy2⟩) (by assumption) ?xr2
  case xy2 => intro w' hSw; have q1 := hSw; go_simp; (try with_reducible rfl)
  case' xr2 => simp only [Act.put, List.setIfInBounds_toArray, List.set_cons_zero, List.set_cons_succ]
  refine takeL (i := 3) (d := 7) (v := ?xv3) rfl (by rfl) (by kernel_rfl) (by kernel_rfl) (by kernel_rfl) (by kernel_rfl) (by rfl) (fun _ _ _ h => h) (Or.inl ⟨by rfl, ?xy3⟩) (by assumption) ?xr3
  case xy3 => intro w' hSw; have q1 := hSw; go_simp; (try with_reducible rfl)
  case' xr3 => simp only [Act.put, List.setIfInBounds_toArray, List.set_cons_zero, List.set_cons_succ]
  refine takeL (i := 4) (d := 8) (v := ?xv4) rfl (by rfl) (by kernel_rfl) (by kernel_rfl) (by kernel_rfl) (by kernel_rfl) (by rfl) (fun _ _ _ h => h) (Or.inl ⟨by rfl, ?xy4⟩) (by assumption) ?xr4
  case xy4 => intro w' hSw; have q1 := hSw; go_simp; (try with_reducible rfl)
  case' xr4 => simp only [Act.put, List.setIfInBounds_toArray, List.set_cons_zero, List.set_cons_succ]
  refine takeL (i := 5) (d := 9) (v := ?xv5) rfl (by rfl) (by kernel_rfl) (by kernel_rfl) (by kernel_rfl) (by kernel_rfl) (by rfl) (fun _ _ _ h => h) (Or.inl ⟨by rfl, ?xy5⟩) (by assumption) ?xr5
  case xy5 => intro w' hSw; have q1 := hSw; go_simp; (try with_reducible rfl)
  case' xr5 => simp only [Act.put, List.setIfInBounds_toArray, List.set_cons_zero, List.set_cons_succ]
  refine stepL (i := 6) (by kernel_rfl) rfl (fun K hK => ?xb6)
  go_simp
  refine hK.out _ _ ?xh6 (fun hHeld => ?xr6)
  case xh6 => exact (World.cell?_alloc_lt _ _ _ (World.block_lt_of_cell? _ _ hHeld)).trans hHeld
  case' xr6 => (clear hK K; try simp only [Act.put, List.setIfInBounds_toArray, List.set_cons_zero, List.set_cons_succ])
  refine stepL (i := 7) (by kernel_rfl) rfl (fun K hK => ?xb7)
  refine step_append_any _ (by rfl) _ _ 105 (by rfl) B 3 i0 (.int .i64 0) 1 8 Try.underlying105 HI.out HZ.out.1 HZ.out.2.1 HZ.out.2.2 rfl (by decide) v _ _ (by rfl) (HOA.out _) _ (some ⟨w.heap.size, 0, none⟩) 1 1 [.int .i64 x] (by rfl) HRD.out (by simp [Value.oneCell']) (by simp only [maxLen]; omega) (by omega) (by simp; omega) ?_
  intro v5 w5 hown5 hg5 hat5
  obtain ⟨g5, cap5, hv5, hg50, hg51⟩ := hown5.form (Nat.succ_pos _)
  subst hv5
  obtain ⟨c5, z5⟩ := HC5.out w5 hg5
  refine hK.out _ _ ?xh7 (fun hHeld => ?xr7)
  case xh7 => exact c5
  case' xr7 => (clear hK K; try simp only [Act.put, List.setIfInBounds_toArray, List.set_cons_zero, List.set_cons_succ])
  refine takeL (i := 8) (d := 12) (v := ?xv8) rfl (by rfl) (by kernel_rfl) (by kernel_rfl) (by kernel_rfl) (by kernel_rfl) (by rfl) (fun _ _ _ h => h) (Or.inl ⟨by rfl, ?xy8⟩) (by assumption) ?xr8
  case xy8 => intro w' hSw; have q1 := hSw; go_simp; (try with_reducible rfl)
  case' xr8 => simp only [Act.put, List.setIfInBounds_toArray, List.set_cons_zero, List.set_cons_succ]
  refine lastL (by kernel_rfl) rfl (by kernel_rfl) (fun K hK => ?xb9)
  go_simp
  refine hK.out _ _ ?xz

  all_goals
    go_wp2
    go_end0
    exact ⟨rfl, FIN.out _ _ hown5 hg5 hat5⟩
theorem lst_ops (B s : Nat) : HeapOps 104 (lstV s) ltI (LstAt B s) (HMoves s 0) where
  refl := HMoves.refl s 0
  trans _ _ _ h g := h.trans g
  len _ _ h := len_c h
  less _ _ _ _ h hi hj := less_c h hi hj
  swap _ _ _ _ h hi hj := swap_c h hi hj
def encI (x : Int) : Value := .iface 3 (.int .i64 x)
theorem lst_ends (B s : Nat) : HeapEnds 104 (lstV s) encI (LstAt B s) (HMoves s 0) where
  push _ _ _ h hl := push_lst h hl
  pop _ _ _ h := pop_lst h
end Go.Proofs.Ytpdfcffeinbcaaa
