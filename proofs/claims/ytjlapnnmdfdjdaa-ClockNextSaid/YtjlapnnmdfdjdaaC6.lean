/- The timers of a clock on their heap: the methods. -/
import Derived.Test.YtjlapnnmdfdjdaaV11
import Derived.Test.YtjlapnnmdfdjdaaC4
import Derived.Test.YtjlapnnmdfdjdaaV5
namespace Go.Proofs.Ytjlapnnmdfdjdaa
open Go.RowKit
def tmCells (L : List Tm) : List Value := L.flatMap fun t => [.int .i64 t.n, .int .i64 t.a, .int .i64 t.e]
theorem tmCells_length (L : List Tm) : (tmCells L).length = L.length * 3 := by
  induction L with
  | nil => rfl
  | cons e es ih => simp only [tmCells, List.flatMap_cons, List.length_append, List.length_cons, List.length_nil] at ih ⊢; omega
/-- Timers in a row, in the third cell of block s. -/
def QAt (B s : Nat) (w : World) (L : List Tm) : Prop := HRow s 2 3 39 B w L.length (tmCells L)
abbrev qV (s : Nat) : Value := .pointer (some ⟨s, 2, none⟩)
theorem qmeth_len {w : World} {s : Nat} {v : Value} (h : w.cell? ⟨s, 2, none⟩ = some v) : (method 232 64 (qV s) "Len").run Try.prog w = .ok (87, v) w := by
  have h1 : (method 232 64 (qV s) "Len").run Try.prog w = (do let r ← receiverAt 64 (.val (qV s)) false (some (("Len".splitOn ".").getLastD "Len")); pure (87, r) : Sem (FuncId × Value)).run Try.prog w := by kernel_rfl
  rw [h1, Sem.run_bind, recv_val Try.underlying64 (by kernel_rfl) h]; rfl
theorem qmeth_less {w : World} {s : Nat} {v : Value} (h : w.cell? ⟨s, 2, none⟩ = some v) : (method 232 64 (qV s) "Less").run Try.prog w = .ok (88, v) w := by
  have h1 : (method 232 64 (qV s) "Less").run Try.prog w = (do let r ← receiverAt 64 (.val (qV s)) false (some (("Less".splitOn ".").getLastD "Less")); pure (88, r) : Sem (FuncId × Value)).run Try.prog w := by kernel_rfl
  rw [h1, Sem.run_bind, recv_val Try.underlying64 (by kernel_rfl) h]; rfl
theorem qmeth_swap {w : World} {s : Nat} {v : Value} (h : w.cell? ⟨s, 2, none⟩ = some v) : (method 232 64 (qV s) "Swap").run Try.prog w = .ok (89, v) w := by
  have h1 : (method 232 64 (qV s) "Swap").run Try.prog w = (do let r ← receiverAt 64 (.val (qV s)) false (some (("Swap".splitOn ".").getLastD "Swap")); pure (89, r) : Sem (FuncId × Value)).run Try.prog w := by kernel_rfl
  rw [h1, Sem.run_bind, recv_val Try.underlying64 (by kernel_rfl) h]; rfl
theorem qmeth_push (s : Nat) (w : World) : (method 232 64 (qV s) "Push").run Try.prog w = .ok (91, qV s) w := by kernel_rfl
theorem qmeth_pop (s : Nat) (w : World) : (method 232 64 (qV s) "Pop").run Try.prog w = .ok (90, qV s) w := by kernel_rfl
theorem qlen_c {B s : Nat} {w : World} {L : List Tm} (h : QAt B s w L) : Meth 64 (qV s) "Len" [] w fun e w' => e = .returned (.int .i64 (L.length : Int)) ∧ w' = w := by
  obtain ⟨v, hc, hz, ho, hne, hB⟩ := h
  refine ⟨_, v, qmeth_len hc, by kernel_rfl, ?_⟩
  obtain ⟨X, d, rfl, hr, _⟩ := own_rowS ho
  clear hc hz ho hr hne
  go_enter Try.func87, Try.ntmps87
  go_wp2
  go_ret
  exact ⟨rfl, rfl⟩
theorem tmCells_get {L : List Tm} {i : Nat} (h : i < L.length) : (tmCells L)[i * 3]? = some (.int .i64 L[i]!.n) ∧ (tmCells L)[i * 3 + 1]? = some (.int .i64 L[i]!.a) ∧ (tmCells L)[i * 3 + 2]? = some (.int .i64 L[i]!.e) := by
  induction L generalizing i with
  | nil => simp at h
  | cons e es ih =>
    cases i with
    | zero => simp [tmCells]
    | succ k =>
      have hk : k < es.length := by simpa using h
      obtain ⟨h1, h2, h3⟩ := ih hk
      have e1 : tmCells (e :: es) = [.int .i64 e.n, .int .i64 e.a, .int .i64 e.e] ++ tmCells es := rfl
      have e2 : (e :: es)[k + 1]! = es[k]! := by simp
      rw [e1, e2, show (k + 1) * 3 = 3 + k * 3 by omega]
      have e3 : ∀ q, ([.int .i64 e.n, .int .i64 e.a, .int .i64 e.e] ++ tmCells es : List Value)[3 + q]? = (tmCells es)[q]? := fun q => by
        rw [List.getElem?_append_right (by simp)]
        simp
      rw [Nat.add_assoc, Nat.add_assoc, e3, e3, e3]
      exact ⟨h1, h2, h3⟩
theorem own_tm {w : World} {B n g cap : Nat} {L : List Tm} (h : w.ownsRow B 39 3 (.slice (some ⟨g, 0, none⟩) n cap) n (tmCells L)) {i : Nat} (hi : i < L.length) :
    w.cell? ⟨g, i * 3, none⟩ = some (.int .i64 L[i]!.n) ∧ w.cell? ⟨g, i * 3 + 1, none⟩ = some (.int .i64 L[i]!.a) ∧ w.cell? ⟨g, i * 3 + 2, none⟩ = some (.int .i64 L[i]!.e) := by
  obtain ⟨h1, h2, h3⟩ := tmCells_get hi
  have c1 := h.cells (g := g) rfl _ _ h1
  have c2 := h.cells (g := g) rfl _ _ h2
  have c3 := h.cells (g := g) rfl _ _ h3
  rw [add_zero] at c1 c2 c3
  exact ⟨c1, c2, c3⟩
def Tm.val (t : Tm) : Value := .agg #[.int .i64 t.n, .int .i64 t.a, .int .i64 t.e]
/-- Numbers that may be taken from each other. -/
def Fine (t : Tm) : Prop := (0 ≤ t.a ∧ t.a ≤ 1099511627776) ∧ 0 ≤ t.n ∧ t.n ≤ 4611686018427387904
/-- Which of two stands ahead: below 0, the first; above, the second. -/
def befF (x y : Tm) : Int := if x.a = y.a then x.n - y.n else x.a - y.a
theorem befF_lt (x y : Tm) : decide (befF x y < 0) = x.lt y := by
  unfold befF Tm.lt
  by_cases h : x.a = y.a
  · rw [if_pos h]; exact decide_eq_decide.2 (by omega)
  · rw [if_neg h]; exact decide_eq_decide.2 (by omega)
theorem before_c {x y : Tm} (hx : Fine x) (hy : Fine y) (w : World) : Calls Try.prog 31 #[x.val, y.val] w fun e w' => e = .returned (.int .i64 (befF x y)) ∧ Below w.heap.size w w' := by
  obtain ⟨⟨a0, a1⟩, n0, n1⟩ := hx
  obtain ⟨⟨b0, b1⟩, m0, m1⟩ := hy
  obtain ⟨xn, xa, xe⟩ := x
  obtain ⟨yn, ya, ye⟩ := y
  simp only at a0 a1 n0 n1 b0 b1 m0 m1
  unfold Tm.val befF
  simp only
  obtain ⟨w1, hw1⟩ : ∃ w1, w1 = w.alloc (.cells #[.int .i64 xn, .int .i64 xa, .int .i64 xe] 39) := ⟨_, rfl⟩
  obtain ⟨w2, hw2⟩ : ∃ w2, w2 = w1.alloc (.cells #[.int .i64 yn, .int .i64 ya, .int .i64 ye] 39) := ⟨_, rfl⟩
  have hB : Below w.heap.size w w2 := by rw [hw2, hw1]; exact ((Below.refl _ _).alloc (Nat.le_refl _) _).alloc (by rw [al_size]; omega) _
  have HB := Lib.hid hB
  rw [hw2, hw1] at HB
  clear hB hw2 hw1
  by_cases h : xa = ya
  · have hb : (xa != ya) = false := by simp [h]
    rw [if_pos h]
    clear h
    go_enter Try.func31, Try.ntmps31
    go_wp2
    go_ret
    exact ⟨rfl, HB.out⟩
  · have hb : (xa != ya) = true := by simpa using h
    rw [if_neg h]
    clear h
    go_enter Try.func31, Try.ntmps31
    go_wp2
    go_ret
    exact ⟨rfl, HB.out⟩
set_option maxHeartbeats 1000000 in
set_option maxRecDepth 100000 in
theorem qless_c {B s : Nat} {w : World} {L : List Tm} {i j : Nat} (h : QAt B s w L) (hf : ∀ t ∈ L, Fine t) (hi : i < L.length) (hj : j < L.length) : Meth 64 (qV s) "Less" [.int .i64 i, .int .i64 j] w fun e w' => e = .returned (.bool (L[i]!.lt L[j]!)) ∧ Below w.heap.size w w' := by
  obtain ⟨v, hc, hz, ho, hne, hB⟩ := h
  refine ⟨_, v, qmeth_less hc, by kernel_rfl, ?_⟩
  obtain ⟨g, cap, rfl, _, _⟩ := ho.form (by omega : 0 < L.length)
  obtain ⟨c1, c2, c3⟩ := own_tm ho hi
  obtain ⟨c4, c5, c6⟩ := own_tm ho hj
  have hbf := fun W => before_c (hf L[i]! (by rw [getElem!_pos L i hi]; exact List.getElem_mem hi)) (hf L[j]! (by rw [getElem!_pos L j hj]; exact List.getElem_mem hj)) W
  have hlt := befF_lt L[i]! L[j]!
  obtain ⟨bf, hbe⟩ : ∃ bf, bf = befF L[i]! L[j]! := ⟨_, rfl⟩
  rw [← hbe] at hlt
  rw [← hlt]
  simp only [← hbe] at hbf
  unfold Tm.val at hbf
  obtain ⟨xn, hxn⟩ : ∃ x, x = L[i]!.n := ⟨_, rfl⟩
  obtain ⟨xa, hxa⟩ : ∃ x, x = L[i]!.a := ⟨_, rfl⟩
  obtain ⟨xe, hxe⟩ : ∃ x, x = L[i]!.e := ⟨_, rfl⟩
  obtain ⟨yn, hyn⟩ : ∃ x, x = L[j]!.n := ⟨_, rfl⟩
  obtain ⟨ya, hya⟩ : ∃ x, x = L[j]!.a := ⟨_, rfl⟩
  obtain ⟨ye, hye⟩ : ∃ x, x = L[j]!.e := ⟨_, rfl⟩
  simp only [← hxn, ← hxa, ← hxe, ← hyn, ← hya, ← hye] at hbf c1 c2 c3 c4 c5 c6
  have HBF := Lib.hid hbf
  have hi0 : (0 : Int) ≤ (i : Int) := by omega
  have hi1 : (i : Int) < (L.length : Int) := by omega
  have hj0 : (0 : Int) ≤ (j : Int) := by omega
  have hj1 : (j : Int) < (L.length : Int) := by omega
  clear hbf hlt hbe hxn hxa hxe hyn hya hye hc hz ho hne hi hj hf
  go_enter Try.func88, Try.ntmps88
  go_wp2_with fail
  -- begin less
  refine wp_region_held_drew (S := (fun w' => Below w.heap.size w w' ∧ w'.cell? ⟨g, i * 3, none⟩ = some (.int .i64 xn) ∧ w'.cell? ⟨g, i * 3 + 1, none⟩ = some (.int .i64 xa) ∧ w'.cell? ⟨g, i * 3 + 2, none⟩ = some (.int .i64 xe) ∧ w'.cell? ⟨g, j * 3, none⟩ = some (.int .i64 yn) ∧ w'.cell? ⟨g, j * 3 + 1, none⟩ = some (.int .i64 ya) ∧ w'.cell? ⟨g, j * 3 + 2, none⟩ = some (.int .i64 ye))) (by kernel_rfl) ?lxs (fun hHeld => ?lxr)
  case lxs => exact ⟨(Below.refl _ _).drew, c1, c2, c3, c4, c5, c6⟩
  refine take_at (i := 0) (d := 7) (v := ?lxv0) rfl (by rfl) (by kernel_rfl) (by kernel_rfl) (by kernel_rfl) (fun _ _ _ h => h) (Or.inl ⟨by rfl, ?lxy0⟩) (by assumption) ?lxr0
  case lxy0 => intro w' hSw; obtain ⟨_, q1, q2, q3, q4, q5, q6⟩ := hSw; go_simp; (try with_reducible rfl)
  case' lxr0 => simp only [Act.put, List.setIfInBounds_toArray, List.set_cons_zero, List.set_cons_succ]
  refine take_at (i := 1) (d := 8) (v := ?lxv1) rfl (by rfl) (by kernel_rfl) (by kernel_rfl) (by kernel_rfl) (fun _ _ _ h => h) (Or.inl ⟨by rfl, ?lxy1⟩) (by assumption) ?lxr1
  case lxy1 => intro w' hSw; obtain ⟨_, q1, q2, q3, q4, q5, q6⟩ := hSw; go_simp; (try with_reducible rfl)
  case' lxr1 => simp only [Act.put, List.setIfInBounds_toArray, List.set_cons_zero, List.set_cons_succ]
  refine take_at (i := 2) (d := 9) (v := ?lxv2) rfl (by rfl) (by kernel_rfl) (by kernel_rfl) (by kernel_rfl) (fun _ _ _ h => h) (Or.inl ⟨by rfl, ?lxy2⟩) (by assumption) ?lxr2
  case lxy2 => intro w' hSw; obtain ⟨_, q1, q2, q3, q4, q5, q6⟩ := hSw; go_simp; (try with_reducible rfl)
  case' lxr2 => simp only [Act.put, List.setIfInBounds_toArray, List.set_cons_zero, List.set_cons_succ]
  refine take_at (i := 3) (d := 10) (v := ?lxv3) rfl (by rfl) (by kernel_rfl) (by kernel_rfl) (by kernel_rfl) (fun _ _ _ h => h) (Or.inl ⟨by rfl, ?lxy3⟩) (by assumption) ?lxr3
  case lxy3 => intro w' hSw; obtain ⟨_, q1, q2, q3, q4, q5, q6⟩ := hSw; go_simp; (try with_reducible rfl)
  case' lxr3 => simp only [Act.put, List.setIfInBounds_toArray, List.set_cons_zero, List.set_cons_succ]
  refine take_at (i := 4) (d := 11) (v := ?lxv4) rfl (by rfl) (by kernel_rfl) (by kernel_rfl) (by kernel_rfl) (fun _ _ _ h => h) (Or.inl ⟨by rfl, ?lxy4⟩) (by assumption) ?lxr4
  case lxy4 => intro w' hSw; obtain ⟨_, q1, q2, q3, q4, q5, q6⟩ := hSw; go_simp; (try with_reducible rfl)
  case' lxr4 => simp only [Act.put, List.setIfInBounds_toArray, List.set_cons_zero, List.set_cons_succ]
  refine take_at (i := 5) (d := 12) (v := ?lxv5) rfl (by rfl) (by kernel_rfl) (by kernel_rfl) (by kernel_rfl) (fun _ _ _ h => h) (Or.inl ⟨by rfl, ?lxy5⟩) (by assumption) ?lxr5
  case lxy5 => intro w' hSw; obtain ⟨_, q1, q2, q3, q4, q5, q6⟩ := hSw; go_simp; (try with_reducible rfl)
  case' lxr5 => simp only [Act.put, List.setIfInBounds_toArray, List.set_cons_zero, List.set_cons_succ]
  refine take_at (i := 6) (d := 13) (v := ?lxv6) rfl (by rfl) (by kernel_rfl) (by kernel_rfl) (by kernel_rfl) (fun _ _ _ h => h) (Or.inl ⟨by rfl, ?lxy6⟩) (by assumption) ?lxr6
  case lxy6 => intro w' hSw; obtain ⟨_, q1, q2, q3, q4, q5, q6⟩ := hSw; go_simp; (try with_reducible rfl)
  case' lxr6 => simp only [Act.put, List.setIfInBounds_toArray, List.set_cons_zero, List.set_cons_succ]
  refine take_at (i := 7) (d := 14) (v := ?lxv7) rfl (by rfl) (by kernel_rfl) (by kernel_rfl) (by kernel_rfl) (fun _ _ _ h => h) (Or.inl ⟨by rfl, ?lxy7⟩) (by assumption) ?lxr7
  case lxy7 => intro w' hSw; obtain ⟨_, q1, q2, q3, q4, q5, q6⟩ := hSw; go_simp; (try with_reducible rfl)
  case' lxr7 => simp only [Act.put, List.setIfInBounds_toArray, List.set_cons_zero, List.set_cons_succ]
  refine wpAnyH_ready (rs := [8]) (by kernel_rfl) (by simp) ?lxc8
  refine AllReadyH.cons rfl (fun K hK => ?lxb8) AllReadyH.nil
  go_simp
  go_at_call 31; refine (HBF.out _).mono ?_; rintro e w8 ⟨rfl, hb8⟩
  refine hK.out _ _ ?lxh8 (fun hHeld => ?lxr8)
  case lxh8 => exact ⟨hHeld.1.trans (hb8.mono hHeld.1.size), kept_cell hHeld.2.1 hb8, kept_cell hHeld.2.2.1 hb8, kept_cell hHeld.2.2.2.1 hb8, kept_cell hHeld.2.2.2.2.1 hb8, kept_cell hHeld.2.2.2.2.2.1 hb8, kept_cell hHeld.2.2.2.2.2.2 hb8⟩
  case' lxr8 => (clear hK K; try simp only [Act.put, List.setIfInBounds_toArray, List.set_cons_zero, List.set_cons_succ])
  refine take_at (i := 9) (d := 16) (v := ?lxv9) rfl (by rfl) (by kernel_rfl) (by kernel_rfl) (by kernel_rfl) (fun _ _ _ h => h) (Or.inl ⟨by rfl, ?lxy9⟩) (by assumption) ?lxr9
  case lxy9 => intro w' hSw; obtain ⟨_, q1, q2, q3, q4, q5, q6⟩ := hSw; go_simp; (try with_reducible rfl)
  case' lxr9 => simp only [Act.put, List.setIfInBounds_toArray, List.set_cons_zero, List.set_cons_succ]
  refine take_at (i := 10) (d := 6) (v := ?lxv10) rfl (by rfl) (by kernel_rfl) (by kernel_rfl) (by kernel_rfl) (fun _ _ _ h => h) (Or.inl ⟨by rfl, ?lxy10⟩) (by assumption) ?lxr10
  case lxy10 => intro w' hSw; obtain ⟨_, q1, q2, q3, q4, q5, q6⟩ := hSw; go_simp; (try with_reducible rfl)
  case' lxr10 => simp only [Act.put, List.setIfInBounds_toArray, List.set_cons_zero, List.set_cons_succ]
  refine wpAnyH_done (by kernel_rfl) ?lxz _
  -- end less
  have HE := Lib.hid hHeld.1
  clear hHeld
  go_wp2
  go_ret
  exact ⟨rfl, HE.out⟩
end Go.Proofs.Ytjlapnnmdfdjdaa
