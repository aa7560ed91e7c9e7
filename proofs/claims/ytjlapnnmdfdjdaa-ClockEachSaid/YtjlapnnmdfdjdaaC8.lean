/- The timers of a clock on their heap: Swap, Push, Pop; what the heap's walks want. -/
import Derived.Test.YtjlapnnmdfdjdaaV10
import Derived.Test.YtjlapnnmdfdjdaaV12
import Derived.Test.YtjlapnnmdfdjdaaC7
namespace Go.Proofs.Ytjlapnnmdfdjdaa
open Go.RowKit
/-- What the queue's calls leave of what is not the queue. -/
def QMoves (s : Nat) (w w' : World) : Prop := HMoves s 2 w w' ∧ ∀ k, k ≠ 2 → w'.cell? ⟨s, k, none⟩ = w.cell? ⟨s, k, none⟩
theorem QMoves.refl (s : Nat) (w : World) : QMoves s w w := ⟨HMoves.refl _ _ _, fun _ _ => rfl⟩
theorem QMoves.trans {s : Nat} {w w1 w2 : World} (h : QMoves s w w1) (g : QMoves s w1 w2) : QMoves s w w2 := ⟨h.1.trans g.1, fun k hk => (g.2 k hk).trans (h.2 k hk)⟩
def QR (B s : Nat) (w : World) (L : List Tm) : Prop := QAt B s w L ∧ ∀ t ∈ L, Fine t
theorem QAt.below {B s : Nat} {w w' : World} {L : List Tm} (h : QAt B s w L) (hb : Below w.heap.size w w') : QAt B s w' L ∧ QMoves s w w' := by
  have hlt := h.lt
  have hm : Moves [] w w' := Moves.of_new [] hb
  obtain ⟨h1, h2⟩ := HRow.moves h hm (by simp) (by simp)
  refine ⟨h1, ⟨hm.mono (by simp), fun k hk => .inl (by rw [h2] at hk; exact hk)⟩, fun k _ => hm.cell hlt (by simp) k⟩
set_option maxRecDepth 100000 in
set_option maxHeartbeats 1000000 in
theorem qswap_c {B s : Nat} {w : World} {L : List Tm} {i j : Nat} (h : QAt B s w L) (hi : i < L.length) (hj : j < L.length) : Meth 64 (qV s) "Swap" [.int .i64 i, .int .i64 j] w fun e w' => e = .returned (.tuple #[]) ∧ QAt B s w' (swpL L i j) ∧ QMoves s w w' := by
  obtain ⟨v, hc, hz, ho, hne, hB⟩ := h
  refine ⟨_, v, qmeth_swap hc, by kernel_rfl, ?_⟩
  obtain ⟨g, cap, rfl, _, _⟩ := ho.form (by omega : 0 < L.length)
  obtain ⟨c1, c2, c3⟩ := own_tm ho hi
  obtain ⟨c4, c5, c6⟩ := own_tm ho hj
  have hgs : g ≠ s := fun e => hne (by rw [e]; rfl)
  obtain ⟨xn, hxn⟩ : ∃ x, x = L[i]!.n := ⟨_, rfl⟩
  obtain ⟨xa, hxa⟩ : ∃ x, x = L[i]!.a := ⟨_, rfl⟩
  obtain ⟨xe, hxe⟩ : ∃ x, x = L[i]!.e := ⟨_, rfl⟩
  obtain ⟨yn, hyn⟩ : ∃ x, x = L[j]!.n := ⟨_, rfl⟩
  obtain ⟨ya, hya⟩ : ∃ x, x = L[j]!.a := ⟨_, rfl⟩
  obtain ⟨ye, hye⟩ : ∃ x, x = L[j]!.e := ⟨_, rfl⟩
  simp only [← hxn, ← hxa, ← hxe, ← hyn, ← hya, ← hye] at c1 c2 c3 c4 c5 c6
  have hi0 : (0 : Int) ≤ (i : Int) := by omega
  have hi1 : (i : Int) < (L.length : Int) := by omega
  have hj0 : (0 : Int) ≤ (j : Int) := by omega
  have hj1 : (j : Int) < (L.length : Int) := by omega
  have hf : ∀ k, w.frozen? ⟨g, k, none⟩ = false := own_frozen ho
  obtain ⟨W, hW⟩ : ∃ W : World → World, W = fun w => (((((w.setCell ⟨g, i * 3, none⟩ (.int .i64 yn)).setCell ⟨g, i * 3 + 1, none⟩ (.int .i64 ya)).setCell ⟨g, i * 3 + 2, none⟩ (.int .i64 ye)).setCell ⟨g, j * 3, none⟩ (.int .i64 xn)).setCell ⟨g, j * 3 + 1, none⟩ (.int .i64 xa)).setCell ⟨g, j * 3 + 2, none⟩ (.int .i64 xe) := ⟨_, rfl⟩
  have fin : QAt B s (W w) (swpL L i j) ∧ QMoves s w (W w) := by
    have e : tmCells (swpL L i j) = ((((((tmCells L).set (i * 3) (.int .i64 yn)).set (i * 3 + 1) (.int .i64 ya)).set (i * 3 + 2) (.int .i64 ye)).set (j * 3) (.int .i64 xn)).set (j * 3 + 1) (.int .i64 xa)).set (j * 3 + 2) (.int .i64 xe) := by
      unfold swpL
      rw [hxn, hxa, hxe, hyn, hya, hye, tmCells_set L i _ hi, tmCells_set _ j _ (by simpa using hj)]
    have hm : Moves [g] w (W w) := by
      rw [hW]
      exact (((((Moves.set _ _ _ (by simp)).trans (Moves.set _ _ _ (by simp))).trans (Moves.set _ _ _ (by simp))).trans (Moves.set _ _ _ (by simp))).trans (Moves.set _ _ _ (by simp))).trans (Moves.set _ _ _ (by simp))
    have ho2 : (W w).ownsRow B 39 3 (.slice (some ⟨g, 0, none⟩) L.length cap) (swpL L i j).length (tmCells (swpL L i j)) := by
      rw [e, swpL_length, hW]
      exact own_set (own_set (own_set (own_set (own_set (own_set ho _) _) _) _) _) _
    rw [swpL_length] at ho2
    have hr := HRow.wrote hc hz hne hB hm ho2
    unfold QAt
    rw [swpL_length]
    exact ⟨hr.1, hr.2, fun k _ => hm.cell (World.block_lt_of_cell? w _ hc) (by simpa using fun e => hgs e.symm) k⟩
  have hd : ∀ k x, w.cell? ⟨g, k, none⟩ = some x → ∃ z, (((w.setCell ⟨g, i * 3, none⟩ (.int .i64 yn)).setCell ⟨g, i * 3 + 1, none⟩ (.int .i64 ya)).setCell ⟨g, i * 3 + 2, none⟩ (.int .i64 ye)).cell? ⟨g, k, none⟩ = some z := fun k x hx => by
    have one : ∀ (w : World) (x : Value) (q : Nat) (u : Value), w.cell? ⟨g, k, none⟩ = some x → ∃ z, (w.setCell ⟨g, q, none⟩ u).cell? ⟨g, k, none⟩ = some z := fun w x q u hx => by
      by_cases e : k = q
      · subst e; exact ⟨_, set_here _ _ _ _ _ hx⟩
      · exact ⟨_, (set_far _ _ _ _ _ (fun c => e c.symm)).trans hx⟩
    obtain ⟨_, h1⟩ := one w x _ _ hx
    obtain ⟨_, h2⟩ := one _ _ _ _ h1
    exact one _ _ _ _ h2
  obtain ⟨z4, d4⟩ := hd _ _ c4
  obtain ⟨z5, d5⟩ := hd _ _ c5
  obtain ⟨z6, d6⟩ := hd _ _ c6
  have fin2 : QAt B s (W w).drew (swpL L i j) ∧ QMoves s w (W w).drew := fin
  have FIN := Lib.hid fin2
  clear hd fin2
  subst hW
  clear hxn hxa hxe hyn hya hye hi hj hc hz ho fin hne
  go_enter Try.func89, Try.ntmps89
  go_wp2_with fail
  -- begin swap
  refine region_heldL (L := 13) (S := (fun w' => w'.heap = w.heap ∧ w'.cell? ⟨g, i * 3, none⟩ = some (.int .i64 xn) ∧ w'.cell? ⟨g, i * 3 + 1, none⟩ = some (.int .i64 xa) ∧ w'.cell? ⟨g, i * 3 + 2, none⟩ = some (.int .i64 xe) ∧ w'.cell? ⟨g, j * 3, none⟩ = some (.int .i64 yn) ∧ w'.cell? ⟨g, j * 3 + 1, none⟩ = some (.int .i64 ya) ∧ w'.cell? ⟨g, j * 3 + 2, none⟩ = some (.int .i64 ye))) (by kernel_rfl) ?sxs (fun hHeld => ?sxr)
  case sxs => exact ⟨rfl, c1, c2, c3, c4, c5, c6⟩
  refine takeP (i := 0) (d := 6) (v := ?sxv0) rfl (by rfl) (by kernel_rfl) (by kernel_rfl) (by kernel_rfl) (by rfl) (fun _ _ _ h => h) (Or.inl ⟨by rfl, ?sxy0⟩) (by assumption) ?sxr0
  case sxy0 => intro w' _; go_simp; (try with_reducible rfl)
  case' sxr0 => simp only [Act.put, List.setIfInBounds_toArray, List.set_cons_zero, List.set_cons_succ]
  refine takeP (i := 1) (d := 7) (v := ?sxv1) rfl (by rfl) (by kernel_rfl) (by kernel_rfl) (by kernel_rfl) (by rfl) (fun _ _ _ h => h) (Or.inl ⟨by rfl, ?sxy1⟩) (by assumption) ?sxr1
  case sxy1 => intro w' _; go_simp; (try with_reducible rfl)
  case' sxr1 => simp only [Act.put, List.setIfInBounds_toArray, List.set_cons_zero, List.set_cons_succ]
  refine takeP (i := 2) (d := 8) (v := ?sxv2) rfl (by rfl) (by kernel_rfl) (by kernel_rfl) (by kernel_rfl) (by rfl) (fun _ _ _ h => h) (Or.inl ⟨by rfl, ?sxy2⟩) (by assumption) ?sxr2
  case sxy2 => intro w' _; go_simp; (try with_reducible rfl)
  case' sxr2 => simp only [Act.put, List.setIfInBounds_toArray, List.set_cons_zero, List.set_cons_succ]
  refine takeP (i := 3) (d := 9) (v := ?sxv3) rfl (by rfl) (by kernel_rfl) (by kernel_rfl) (by kernel_rfl) (by rfl) (fun _ _ _ h => h) (Or.inl ⟨by rfl, ?sxy3⟩) (by assumption) ?sxr3
  case sxy3 => intro w' _; go_simp; (try with_reducible rfl)
  case' sxr3 => simp only [Act.put, List.setIfInBounds_toArray, List.set_cons_zero, List.set_cons_succ]
  refine takeP (i := 4) (d := 10) (v := ?sxv4) rfl (by rfl) (by kernel_rfl) (by kernel_rfl) (by kernel_rfl) (by rfl) (fun _ _ _ h => h) (Or.inl ⟨by rfl, ?sxy4⟩) (by assumption) ?sxr4
  case sxy4 => intro w' _; go_simp; (try with_reducible rfl)
  case' sxr4 => simp only [Act.put, List.setIfInBounds_toArray, List.set_cons_zero, List.set_cons_succ]
  refine takeP (i := 5) (d := 11) (v := ?sxv5) rfl (by rfl) (by kernel_rfl) (by kernel_rfl) (by kernel_rfl) (by rfl) (fun _ _ _ h => h) (Or.inl ⟨by rfl, ?sxy5⟩) (by assumption) ?sxr5
  case sxy5 => intro w' _; go_simp; (try with_reducible rfl)
  case' sxr5 => simp only [Act.put, List.setIfInBounds_toArray, List.set_cons_zero, List.set_cons_succ]
  refine takeP (i := 6) (d := 12) (v := ?sxv6) rfl (by rfl) (by kernel_rfl) (by kernel_rfl) (by kernel_rfl) (by rfl) (fun _ _ _ h => h) (Or.inl ⟨by rfl, ?sxy6⟩) (by assumption) ?sxr6
  case sxy6 => intro w' _; go_simp; (try with_reducible rfl)
  case' sxr6 => simp only [Act.put, List.setIfInBounds_toArray, List.set_cons_zero, List.set_cons_succ]
  refine takeL (i := 7) (d := 13) (v := ?sxv7) rfl (by rfl) (by kernel_rfl) (by kernel_rfl) (by kernel_rfl) (by kernel_rfl) (by rfl) (fun _ _ _ h => h) (Or.inl ⟨by rfl, ?sxy7⟩) (by assumption) ?sxr7
  case sxy7 => intro w' hSw; obtain ⟨_, q1, q2, q3, q4, q5, q6⟩ := hSw; go_simp; (try with_reducible rfl)
  case' sxr7 => simp only [Act.put, List.setIfInBounds_toArray, List.set_cons_zero, List.set_cons_succ]
  refine takeP (i := 8) (d := 14) (v := ?sxv8) rfl (by rfl) (by kernel_rfl) (by kernel_rfl) (by kernel_rfl) (by rfl) (fun _ _ _ h => h) (Or.inl ⟨by rfl, ?sxy8⟩) (by assumption) ?sxr8
  case sxy8 => intro w' _; go_simp; (try with_reducible rfl)
  case' sxr8 => simp only [Act.put, List.setIfInBounds_toArray, List.set_cons_zero, List.set_cons_succ]
  refine takeP (i := 9) (d := 15) (v := ?sxv9) rfl (by rfl) (by kernel_rfl) (by kernel_rfl) (by kernel_rfl) (by rfl) (fun _ _ _ h => h) (Or.inl ⟨by rfl, ?sxy9⟩) (by assumption) ?sxr9
  case sxy9 => intro w' _; go_simp; (try with_reducible rfl)
  case' sxr9 => simp only [Act.put, List.setIfInBounds_toArray, List.set_cons_zero, List.set_cons_succ]
  refine takeP (i := 10) (d := 16) (v := ?sxv10) rfl (by rfl) (by kernel_rfl) (by kernel_rfl) (by kernel_rfl) (by rfl) (fun _ _ _ h => h) (Or.inl ⟨by rfl, ?sxy10⟩) (by assumption) ?sxr10
  case sxy10 => intro w' _; go_simp; (try with_reducible rfl)
  case' sxr10 => simp only [Act.put, List.setIfInBounds_toArray, List.set_cons_zero, List.set_cons_succ]
  refine takeL (i := 11) (d := 17) (v := ?sxv11) rfl (by rfl) (by kernel_rfl) (by kernel_rfl) (by kernel_rfl) (by kernel_rfl) (by rfl) (fun _ _ _ h => h) (Or.inl ⟨by rfl, ?sxy11⟩) (by assumption) ?sxr11
  case sxy11 => intro w' hSw; obtain ⟨_, q1, q2, q3, q4, q5, q6⟩ := hSw; go_simp; (try with_reducible rfl)
  case' sxr11 => simp only [Act.put, List.setIfInBounds_toArray, List.set_cons_zero, List.set_cons_succ]
  refine takeP (i := 12) (d := 18) (v := ?sxv12) rfl (by rfl) (by kernel_rfl) (by kernel_rfl) (by kernel_rfl) (by rfl) (fun _ _ _ h => h) (Or.inl ⟨by rfl, ?sxy12⟩) (by assumption) ?sxr12
  case sxy12 => intro w' _; go_simp; (try with_reducible rfl)
  case' sxr12 => simp only [Act.put, List.setIfInBounds_toArray, List.set_cons_zero, List.set_cons_succ]
  refine stepM (i := 13) (by kernel_rfl) rfl (by kernel_rfl) (fun K hK => ?sxb13)
  go_simp
  refine hK.out _ _ ?sxr13
  case' sxr13 => (clear hK K; try simp only [Act.put, List.setIfInBounds_toArray, List.set_cons_zero, List.set_cons_succ])
  refine stepM (i := 14) (by kernel_rfl) rfl (by kernel_rfl) (fun K hK => ?sxb14)
  go_simp
  refine hK.out _ _ ?sxr14
  case' sxr14 => (clear hK K; try simp only [Act.put, List.setIfInBounds_toArray, List.set_cons_zero, List.set_cons_succ])
  refine stepM (i := 15) (by kernel_rfl) rfl (by kernel_rfl) (fun K hK => ?sxb15)
  go_simp
  refine hK.out _ _ ?sxr15
  case' sxr15 => (clear hK K; try simp only [Act.put, List.setIfInBounds_toArray, List.set_cons_zero, List.set_cons_succ])
  refine doneM (by kernel_rfl) ?sxz
  -- end swap
  go_end0
  exact ⟨rfl, FIN.out.1, FIN.out.2⟩
theorem info_tm : (Try.prog.info? 39).map (fun i => (i.zero, i.size, i.bytes)) = some (some (.agg #[.int .i64 0, .int .i64 0, .int .i64 0]), 3, 24) := by kernel_rfl
def encT (t : Tm) : Value := .iface 39 t.val
theorem tmCells_one (t : Tm) : tmCells [t] = [.int .i64 t.n, .int .i64 t.a, .int .i64 t.e] := rfl
theorem tmCells_app (A B : List Tm) : tmCells (A ++ B) = tmCells A ++ tmCells B := by unfold tmCells; rw [List.flatMap_append]
set_option maxRecDepth 100000 in
theorem qpop_c {B s : Nat} {w : World} {L : List Tm} {x : Tm} (h : QAt B s w (L ++ [x])) : Meth 64 (qV s) "Pop" [] w fun e w' => e = .returned (encT x) ∧ QAt B s w' L ∧ QMoves s w w' := by
  obtain ⟨v, hc, hz, ho, hne, hB⟩ := h
  refine ⟨_, _, qmeth_pop s w, by kernel_rfl, ?_⟩
  have hlen : (L ++ [x]).length = L.length + 1 := by simp
  obtain ⟨g, cap, rfl, _, _⟩ := ho.form (by omega : 0 < (L ++ [x]).length)
  have hgs : g ≠ s := fun e => hne (by rw [e]; rfl)
  obtain ⟨c1, c2, c3⟩ := own_tm ho (i := L.length) (by omega)
  have hx : (L ++ [x])[L.length]! = x := by simp
  rw [hx] at c1 c2 c3
  have hcp : (L ++ [x]).length ≤ cap ∧ cap ≤ maxLen := by
    rcases ho with ⟨_, ⟨h0, _⟩ | ⟨g', cap', cur, hv, _, _, h1, h2, _, _⟩⟩
    · cases h0
    · cases hv; exact ⟨h1, h2⟩
  obtain ⟨h1, h2⟩ := hcp
  rw [hlen] at ho hc h1 hne
  have hz0 := hz 2
  have hle : L.length + 1 ≤ 9223372036854775807 := by unfold maxLen at h2; omega
  have hcap : L.length ≤ cap := by omega
  have he : ((L.length + 1 : Nat) : Int) - 1 = (L.length : Int) := by omega
  have hl1 : (L.length : Int) < ((L.length + 1 : Nat) : Int) := by omega
  have hl0 : (0 : Int) ≤ (L.length : Int) := by omega
  have hl3 : (L.length : Int) ≤ (cap : Int) := by omega
  have hsl : s < w.heap.size := World.block_lt_of_cell? w _ hc
  obtain ⟨o, hO⟩ : ∃ o : Obj, o = .cells #[.int .i64 x.n, .int .i64 x.a, .int .i64 x.e] 39 := ⟨_, rfl⟩
  have fin : QAt B s ((w.setCell ⟨s, 2, none⟩ (.slice (some ⟨g, 0, none⟩) L.length cap)).alloc o) L ∧ QMoves s w ((w.setCell ⟨s, 2, none⟩ (.slice (some ⟨g, 0, none⟩) L.length cap)).alloc o) := by
    have ho2 := own_less ho (m := L.length) (by omega)
    have e : (tmCells (L ++ [x])).take (L.length * 3) = tmCells L := by rw [tmCells_app, ← tmCells_length, List.take_left']; rfl
    rw [e] at ho2
    have hr := HRow.put hc hz hne hB ho2 (World.grownBy.refl _ _) (fun k e => .inl e)
    have hq := QAt.below (L := L) hr.1 ((Below.refl _ _).alloc (Nat.le_refl _) o)
    exact ⟨hq.1, QMoves.trans ⟨hr.2, fun k hk => set_far _ _ _ _ _ (fun c => hk c.symm)⟩ hq.2⟩
  have FIN := Lib.hid fin
  rw [hO] at FIN
  have c4 : (w.alloc (.cells #[.int .i64 x.n, .int .i64 x.a, .int .i64 x.e] 39)).cell? ⟨s, 2, none⟩ = some (.slice (some ⟨g, 0, none⟩) (L.length + 1) cap) := (World.cell?_alloc_lt w _ _ hsl).trans hc
  unfold encT Tm.val
  clear hz ho fin hlen hne hO hx
  obtain ⟨xn, xa, xe⟩ := x
  simp only at c1 c2 c3 c4 FIN ⊢
  go_enter Try.func90, Try.ntmps90
  go_wp2
  go_ret
  exact ⟨rfl, FIN.out.1, FIN.out.2⟩
set_option maxRecDepth 100000 in
theorem qpush_c {B s : Nat} {w : World} {L : List Tm} {x : Tm} (h : QAt B s w L) (hl : L.length < 1099511627776) : Meth 64 (qV s) "Push" [encT x] w fun e w' => e = .returned (.tuple #[]) ∧ QAt B s w' (L ++ [x]) ∧ QMoves s w w' := by
  obtain ⟨v, hc, hz, ho, hne, hB⟩ := h
  refine ⟨_, _, qmeth_push s w, by kernel_rfl, ?_⟩
  obtain ⟨i0, hi, hzz⟩ := Option.map_eq_some_iff.1 info_tm
  simp only [Prod.mk.injEq] at hzz
  have hlt : s < w.heap.size := World.block_lt_of_cell? w _ hc
  have hBw : B ≤ w.heap.size := by omega
  obtain ⟨xn, xa, xe⟩ := x
  obtain ⟨xs, hxs⟩ : ∃ xs : List Value, xs = [.int .i64 xn, .int .i64 xa, .int .i64 xe] := ⟨_, rfl⟩
  have hx3 : xs.length = 3 := by rw [hxs]; rfl
  have hx1 : ∀ u ∈ xs, u.oneCell' = true := by rw [hxs]; simp [Value.oneCell']
  obtain ⟨W, hW⟩ : ∃ W, W = w.alloc (.cells xs.toArray 39) := ⟨_, rfl⟩
  have hWs : W.heap.size = w.heap.size + 1 := by rw [hW, al_size]
  have hcW : W.cell? ⟨s, 2, none⟩ = some v := by rw [hW]; exact (World.cell?_alloc_lt w _ _ hlt).trans hc
  have hoa : ∀ o, (W.alloc o).drew.ownsRow B 39 3 v L.length (tmCells L) := fun o => by rw [hW]; exact own_drew ((ho.alloc _).alloc _)
  obtain ⟨V, hV⟩ : ∃ V, V = (W.alloc (.cells xs.toArray 39)).drew := ⟨_, rfl⟩
  have hVs : V.heap.size = w.heap.size + 2 := by
    rw [hV]
    show (W.alloc _).heap.size = _
    rw [al_size, hWs]
  have hbelW : Below w.heap.size w W := by rw [hW]; exact (Below.refl _ _).alloc (Nat.le_refl _) _
  have hbelV : Below w.heap.size w V := by rw [hV]; exact (hbelW.alloc (by rw [hWs]; omega) _).drew
  have hrd : Reads V (w.heap.size + 2) 3 (some ⟨w.heap.size + 1, 0, none⟩) 1 xs := by
    have := (reads_new W xs 39 3 hx3).drew
    rw [al_size, hWs] at this
    rw [hV]
    exact this
  have hc5 : ∀ w5, V.grownBy w5 v.ownBlock → w5.cell? ⟨s, 2, none⟩ = some v ∧ w5.frozen? ⟨s, 2, none⟩ = false ∧ ∀ k u, W.cell? ⟨w.heap.size, k, none⟩ = some u → w5.cell? ⟨w.heap.size, k, none⟩ = some u := fun w5 hg => by
    have hbl : w5.heap[s]? = w.heap[s]? := (hg.block s (by rw [hVs]; omega) (fun e => hne e.symm)).trans (hbelV.block s hlt)
    refine ⟨(World.cell?_of_block (a := ⟨s, 2, none⟩) hbl).trans hc, by rw [frozen_block (a := ⟨s, 2, none⟩) hbl]; exact hz 2, fun k u hu => ?_⟩
    rw [World.cell?_of_block (a := ⟨w.heap.size, k, none⟩) (hg.block w.heap.size (by rw [hVs]; omega) (fun e => by have := ho.lt _ e.symm; omega)), hV]
    exact (World.cell?_alloc_lt W _ _ (by rw [hWs]; show w.heap.size < _; omega)).trans hu
  have fin : ∀ v5 w5, w5.ownsRow B 39 3 v5 (L.length + 1) (tmCells L ++ xs) → V.grownBy w5 v.ownBlock → (v5.ownBlock = v.ownBlock ∨ v5.ownBlock = some V.heap.size) → QAt B s (w5.setCell ⟨s, 2, none⟩ v5) (L ++ [⟨xn, xa, xe⟩]) ∧ QMoves s w (w5.setCell ⟨s, 2, none⟩ v5) := fun v5 w5 h1 h2 h3 => by
    have hg : w.grownBy w5 v.ownBlock := World.grownBy.trans ⟨hbelV.os, hbelV.tape, hbelV.output, hbelV.size, fun k hk _ => hbelV.block k hk⟩ h2
    have e : tmCells (L ++ [⟨xn, xa, xe⟩]) = tmCells L ++ xs := by rw [tmCells_app, tmCells_one, hxs]
    have hr := HRow.put hc hz hne hB h1 hg (fun g e => h3.imp (fun h => h.symm.trans e) (fun h => by
      rw [h] at e
      cases e
      omega))
    refine ⟨by unfold QAt; rw [e, show (L ++ [(⟨xn, xa, xe⟩ : Tm)]).length = L.length + 1 by simp]; exact hr.1, hr.2, fun k hk => ?_⟩
    rw [set_far _ _ _ _ _ (fun c => hk c.symm)]
    exact World.cell?_of_block (a := ⟨s, k, none⟩) (hg.block s hlt (fun e => hne e.symm))
  have hta : ∀ xT w', (Instr.typeAssert (.iface 39 (.agg #[.int .i64 xn, .int .i64 xa, .int .i64 xe])) xT 39 true).run Try.prog w' = .ok (.tuple #[.agg #[.int .i64 xn, .int .i64 xa, .int .i64 xe], .bool true]) w' := fun xT w' => by kernel_rfl
  have k0 : W.cell? ⟨w.heap.size, 0, none⟩ = some (.int .i64 xn) := by rw [hW, hxs]; exact cell_new _ _ _ _
  have k1 : W.cell? ⟨w.heap.size, 1, none⟩ = some (.int .i64 xa) := by rw [hW, hxs]; exact cell_new _ _ _ _
  have k2 : W.cell? ⟨w.heap.size, 2, none⟩ = some (.int .i64 xe) := by rw [hW, hxs]; exact cell_new _ _ _ _
  rw [hxs] at hW hV hrd fin hx1
  have HI := Lib.hid hi
  have HZ := Lib.hid hzz
  have HOA := Lib.hid hoa
  have hrd2 := hrd
  rw [hV] at hrd2
  have HRD := Lib.hid hrd2
  have HC5 := Lib.hid hc5
  have FIN := Lib.hid fin
  have HW := Lib.hid hW
  have HV := Lib.hid hV
  have HWS := Lib.hid hWs
  have HVS := Lib.hid hVs
  have HX1 := Lib.hid hx1
  unfold encT Tm.val
  simp only
  clear hz ho hi hzz hoa hrd hrd2 hc5 fin hne hVs hbelW hbelV hx3 hx1 hV hW hWs
  go_enter Try.func91, Try.ntmps91
  go_wp2_with fail
  rw [← HW.out]
  clear hta
  -- begin push
  refine region_heldL (L := 8) (S := (fun w' => w'.cell? ⟨s, 2, none⟩ = some v ∧ w'.cell? ⟨w.heap.size, 0, none⟩ = some (.int .i64 xn) ∧ w'.cell? ⟨w.heap.size, 1, none⟩ = some (.int .i64 xa) ∧ w'.cell? ⟨w.heap.size, 2, none⟩ = some (.int .i64 xe))) (by kernel_rfl) ?pxs (fun hHeld => ?pxr)
  case pxs => exact ⟨hcW, k0, k1, k2⟩
  refine takeL (i := 0) (d := 11) (v := ?pxv0) rfl (by rfl) (by kernel_rfl) (by kernel_rfl) (by kernel_rfl) (by kernel_rfl) (by rfl) (fun _ _ _ h => h) (Or.inl ⟨by rfl, ?pxy0⟩) (by assumption) ?pxr0
  case pxy0 => intro w' hSw; obtain ⟨q1, q2, q3, q4⟩ := hSw; go_simp; (try with_reducible rfl)
  case' pxr0 => simp only [Act.put, List.setIfInBounds_toArray, List.set_cons_zero, List.set_cons_succ]
  refine takeL (i := 1) (d := 12) (v := ?pxv1) rfl (by rfl) (by kernel_rfl) (by kernel_rfl) (by kernel_rfl) (by kernel_rfl) (by rfl) (fun _ _ _ h => h) (Or.inl ⟨by rfl, ?pxy1⟩) (by assumption) ?pxr1
  case pxy1 => intro w' hSw; obtain ⟨q1, q2, q3, q4⟩ := hSw; go_simp; (try with_reducible rfl)
  case' pxr1 => simp only [Act.put, List.setIfInBounds_toArray, List.set_cons_zero, List.set_cons_succ]
  refine takeL (i := 2) (d := 13) (v := ?pxv2) rfl (by rfl) (by kernel_rfl) (by kernel_rfl) (by kernel_rfl) (by kernel_rfl) (by rfl) (fun _ _ _ h => h) (Or.inl ⟨by rfl, ?pxy2⟩) (by assumption) ?pxr2
  case pxy2 => intro w' hSw; obtain ⟨q1, q2, q3, q4⟩ := hSw; go_simp; (try with_reducible rfl)
  case' pxr2 => simp only [Act.put, List.setIfInBounds_toArray, List.set_cons_zero, List.set_cons_succ]
  refine takeL (i := 3) (d := 14) (v := ?pxv3) rfl (by rfl) (by kernel_rfl) (by kernel_rfl) (by kernel_rfl) (by kernel_rfl) (by rfl) (fun _ _ _ h => h) (Or.inl ⟨by rfl, ?pxy3⟩) (by assumption) ?pxr3
  case pxy3 => intro w' hSw; obtain ⟨q1, q2, q3, q4⟩ := hSw; go_simp; (try with_reducible rfl)
  case' pxr3 => simp only [Act.put, List.setIfInBounds_toArray, List.set_cons_zero, List.set_cons_succ]
  refine takeL (i := 4) (d := 15) (v := ?pxv4) rfl (by rfl) (by kernel_rfl) (by kernel_rfl) (by kernel_rfl) (by kernel_rfl) (by rfl) (fun _ _ _ h => h) (Or.inl ⟨by rfl, ?pxy4⟩) (by assumption) ?pxr4
  case pxy4 => intro w' hSw; obtain ⟨q1, q2, q3, q4⟩ := hSw; go_simp; (try with_reducible rfl)
  case' pxr4 => simp only [Act.put, List.setIfInBounds_toArray, List.set_cons_zero, List.set_cons_succ]
  refine stepL (i := 5) (by kernel_rfl) rfl (fun K hK => ?pxb5)
  go_simp
  refine hK.out _ _ ?pxh5 (fun hHeld => ?pxr5)
  case pxh5 => exact ⟨(World.cell?_alloc_lt W.drew _ _ (World.block_lt_of_cell? _ _ hHeld.1)).trans hHeld.1, (World.cell?_alloc_lt W.drew _ _ (World.block_lt_of_cell? _ _ hHeld.2.1)).trans hHeld.2.1, (World.cell?_alloc_lt W.drew _ _ (World.block_lt_of_cell? _ _ hHeld.2.2.1)).trans hHeld.2.2.1, (World.cell?_alloc_lt W.drew _ _ (World.block_lt_of_cell? _ _ hHeld.2.2.2)).trans hHeld.2.2.2⟩
  case' pxr5 => (clear hK K; try simp only [Act.put, List.setIfInBounds_toArray, List.set_cons_zero, List.set_cons_succ])
  refine stepL (i := 6) (by kernel_rfl) rfl (fun K hK => ?pxb6)
  refine step_append_any _ (by rfl) _ _ 58 (by rfl) B 39 i0 (.agg #[.int .i64 0, .int .i64 0, .int .i64 0]) 3 24 Try.underlying58 HI.out HZ.out.1 HZ.out.2.1 HZ.out.2.2 rfl (by decide) v _ _ (by rfl) (HOA.out _) _ (some ⟨w.heap.size + 1, 0, none⟩) 1 1 [.int .i64 xn, .int .i64 xa, .int .i64 xe] (by rw [HWS.out]; rfl) HRD.out HX1.out (by simp only [maxLen]; omega) (by omega) (by rw [← HV.out, HVS.out]; omega) ?_
  intro v5 w5 hown5 hg5 hat5
  rw [← HV.out] at hg5 hat5
  obtain ⟨g5, cap5, hv5, hg50, hg51⟩ := hown5.form (Nat.succ_pos _)
  subst hv5
  obtain ⟨c5, z5, k5⟩ := HC5.out w5 hg5
  refine hK.out _ _ ?pxh6 (fun hHeld => ?pxr6)
  case pxh6 => exact ⟨c5, k5 _ _ k0, k5 _ _ k1, k5 _ _ k2⟩
  case' pxr6 => (clear hK K; try simp only [Act.put, List.setIfInBounds_toArray, List.set_cons_zero, List.set_cons_succ])
  refine takeL (i := 7) (d := 18) (v := ?pxv7) rfl (by rfl) (by kernel_rfl) (by kernel_rfl) (by kernel_rfl) (by kernel_rfl) (by rfl) (fun _ _ _ h => h) (Or.inl ⟨by rfl, ?pxy7⟩) (by assumption) ?pxr7
  case pxy7 => intro w' hSw; obtain ⟨q1, q2, q3, q4⟩ := hSw; go_simp; (try with_reducible rfl)
  case' pxr7 => simp only [Act.put, List.setIfInBounds_toArray, List.set_cons_zero, List.set_cons_succ]
  refine lastL (by kernel_rfl) rfl (by kernel_rfl) (fun K hK => ?pxb8)
  go_simp
  refine hK.out _ _ ?pxz
  -- end push
  all_goals
    go_wp2
    go_end0
    exact ⟨rfl, FIN.out _ _ hown5 hg5 hat5⟩
theorem q_ops (B s : Nat) : HeapOps 64 (qV s) Tm.lt (QR B s) (QMoves s) where
  refl := QMoves.refl s
  trans _ _ _ h g := h.trans g
  len w L h := by
    obtain ⟨f, r, h1, h2, h3⟩ := qlen_c h.1
    refine ⟨f, r, h1, h2, h3.mono ?_⟩
    rintro e w' ⟨rfl, hw⟩
    exact ⟨rfl, by rw [hw]; exact h, by rw [hw]; exact QMoves.refl _ _⟩
  less w L i j h hi hj := by
    obtain ⟨f, r, h1, h2, h3⟩ := qless_c h.1 h.2 hi hj
    refine ⟨f, r, h1, h2, h3.mono ?_⟩
    rintro e w' ⟨rfl, hb⟩
    exact ⟨rfl, ⟨(h.1.below hb).1, h.2⟩, (h.1.below hb).2⟩
  swap w L i j h hi hj := by
    obtain ⟨f, r, h1, h2, h3⟩ := qswap_c h.1 hi hj
    refine ⟨f, r, h1, h2, h3.mono ?_⟩
    rintro e w' ⟨rfl, hq, hm⟩
    exact ⟨rfl, ⟨hq, fun t ht => h.2 t ((swpL_perm hi hj).mem_iff.1 ht)⟩, hm⟩
theorem q_ends (B s : Nat) : HeapEnds 64 (qV s) encT (QR B s) (QMoves s) Fine where
  push w L x h hx hl := by
    obtain ⟨f, r, h1, h2, h3⟩ := qpush_c h.1 hl (x := x)
    refine ⟨f, r, h1, h2, h3.mono ?_⟩
    rintro e w' ⟨rfl, hq, hm⟩
    refine ⟨rfl, ⟨hq, fun t ht => ?_⟩, hm⟩
    rcases List.mem_append.1 ht with ht | ht
    · exact h.2 t ht
    · rw [List.mem_singleton.1 ht]; exact hx
  pop w L x h := by
    obtain ⟨f, r, h1, h2, h3⟩ := qpop_c h.1
    refine ⟨f, r, h1, h2, h3.mono ?_⟩
    rintro e w' ⟨rfl, hq, hm⟩
    exact ⟨rfl, ⟨hq, fun t ht => h.2 t (List.mem_append_left _ ht)⟩, hm⟩
end Go.Proofs.Ytjlapnnmdfdjdaa
