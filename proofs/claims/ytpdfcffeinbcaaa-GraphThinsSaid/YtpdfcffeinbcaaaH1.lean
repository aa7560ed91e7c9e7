/- Whether a graph is right: both. -/
import Derived.Test.YtpdfcffeinbcaaaH0
import Derived.Test.YtpdfcffeinbcaaaM1
namespace Go.Proofs.Ytpdfcffeinbcaaa
open Go.RowKit
theorem node_c {g : XG} {x : Int} {b : Bool} (E : Option Addr) (d : Nat) (w : World) (hb : nodeB g.n x = b) :
    Calls Try.prog 46 #[g.val E d, .int .i64 x] w fun e w' => e = .returned (.bool b) ∧ Below w.heap.size w w' := by
  obtain ⟨n, es⟩ := g
  unfold XG.val
  have hB : Below w.heap.size w (w.alloc (.cells #[.int .i64 n, .slice E es.length d] 24)) := (Below.refl _ _).alloc (Nat.le_refl _) _
  have HB := Lib.hid hB
  subst hb
  clear hB
  simp only
  unfold nodeB
  by_cases h : 0 ≤ x
  all_goals
    go_enter Try.func46, Try.ntmps46
    go_wp2
    go_ret
    exact ⟨by first | (simp [h]; done) | (simp; omega), HB.out⟩
theorem rnode_c {g : XG} {x : Int} {b : Bool} (E : Option Addr) (d : Nat) (w : World) (hb : nodeB g.n x = b) :
    Calls Try.prog 47 #[g.val E d, .int .i64 x] w fun e w' => e = .returned (.bool b) ∧ Below w.heap.size w w' := by
  obtain ⟨n, es⟩ := g
  unfold XG.val
  have hB : Below w.heap.size w (w.alloc (.cells #[.int .i64 n, .slice E es.length d] 24)) := (Below.refl _ _).alloc (Nat.le_refl _) _
  have HB := Lib.hid hB
  subst hb
  clear hB
  simp only
  unfold nodeB
  by_cases h : 0 ≤ x
  all_goals
    go_enter Try.func47, Try.ntmps47
    go_wp2
    go_ret
    exact ⟨by first | (simp [h]; done) | (simp; omega), HB.out⟩
theorem below_drew (w : World) : Below w.heap.size w w.drew := (Below.refl _ _).drew
theorem chkF_no {g : XG} (h0 : ¬ g.n < 0) (h1 : ¬ 4096 < g.n) (h2 : ¬ 16384 < g.es.length) {j : Nat} (hj : j < g.es.length) (h : inB g.n g.es[j] = false) : chkF g = 1 := by
  unfold chkF
  rw [if_neg (by omega), if_neg h2, if_neg]
  intro hall
  have := List.all_eq_true.1 hall _ (List.getElem_mem hj)
  rw [h] at this
  cases this
theorem chkF_yes {g : XG} (h0 : ¬ g.n < 0) (h1 : ¬ 4096 < g.n) (h2 : ¬ 16384 < g.es.length) (h : ∀ j (hj : j < g.es.length), inB g.n g.es[j] = true) : chkF g = 0 := by
  unfold chkF
  rw [if_neg (by omega), if_neg h2, if_pos]
  rw [List.all_eq_true]
  intro e he
  obtain ⟨j, hj, rfl⟩ := List.mem_iff_getElem.1 he
  exact h j hj
set_option maxHeartbeats 1000000 in
theorem check_c (g : XG) (E : Option Addr) (d : Nat) (w : World) (h : GAt w E g) (hl : g.es.length ≤ 4611686018427387904) :
    Calls Try.prog 14 #[g.val E d] w fun e w' => e = .returned (.int .i64 (chkF g)) ∧ Below w.heap.size w w' := by
  obtain ⟨c, hc⟩ : ∃ c, c = chkF g := ⟨_, rfl⟩
  rw [← hc]
  have hB : ∀ o, Below w.heap.size w (w.alloc o) := fun o => (Below.refl _ _).alloc (Nat.le_refl _) o
  have hv : g.val E d = .agg #[.int .i64 g.n, .slice E g.es.length d] := rfl
  rw [hv]
  by_cases h0 : g.n < 0 ∨ 4096 < g.n
  · obtain rfl : c = 1 := by rw [hc]; unfold chkF; rw [if_pos h0]
    have HB := Lib.hid hB
    clear hc hB hv
    rcases (show g.n < 0 ∨ (¬ g.n < 0 ∧ 4096 < g.n) by omega) with h1 | ⟨h1, h2⟩
    all_goals
      clear h0
      go_enter Try.func14, Try.ntmps14
      go_wp2
      go_ret
      exact ⟨rfl, HB.out _⟩
  have h1 : ¬ g.n < 0 := by omega
  have h2 : ¬ 4096 < g.n := by omega
  by_cases h3 : 16384 < g.es.length
  · obtain rfl : c = 3 := by rw [hc]; unfold chkF; rw [if_neg h0, if_pos h3]
    have h3i : (16384 : Int) < (g.es.length : Int) := by omega
    have HB := Lib.hid hB
    clear hc hB hv h0
    go_enter Try.func14, Try.ntmps14
    go_wp2
    go_ret
    exact ⟨rfl, HB.out _⟩
  have h3i : ¬ (16384 : Int) < (g.es.length : Int) := by omega
  have HB := Lib.hid hB
  have HC := Lib.hid hc
  have HG := Lib.hid h
  have HV := Lib.hid hv
  clear hc hB hv h0 h
  go_enter Try.func14, Try.ntmps14
  go_wp2
  obtain ⟨w0, hw0⟩ : ∃ w0, w0 = w.alloc (.cells #[.int .i64 g.n, .slice E g.es.length d] 24) := ⟨_, rfl⟩
  have c0 : w0.cell? ⟨w.heap.size, 0, none⟩ = some (.int .i64 g.n) := by rw [hw0, cell_new]; rfl
  have c1 : w0.cell? ⟨w.heap.size, 1, none⟩ = some (.slice E g.es.length d) := by rw [hw0, cell_new]; rfl
  have hb0 : Below w.heap.size w w0 := by rw [hw0]; exact HB.out _
  rw [← hw0]
  have HB0 := Lib.hid hb0
  have hz0 : w.heap.size < w0.heap.size := by rw [hw0, al_size]; omega
  clear hw0 hb0
  go_loopw [20] (fun i wr => ∃ j : Nat, i = .int .i64 j ∧ j ≤ g.es.length ∧ (∀ k (hk : k < g.es.length), k < j → inB g.n g.es[k] = true) ∧ Below w0.heap.size w0 wr) (fun i _ => g.es.length - (intOf i).toNat)
  case atStart => exact ⟨0, rfl, by omega, by omega, Below.refl _ _⟩
  case round =>
    obtain ⟨j, rfl, hj, hall, hbel⟩ := hrel
    have HALL := Lib.hid hall
    clear hall
    by_cases hlt : j < g.es.length
    · have hj0 : (0 : Int) ≤ (j : Int) := by omega
      have hj1 : (j : Int) < (g.es.length : Int) := by omega
      obtain ⟨b, off, rfl, hbl, ha, hb⟩ := (HG.out.below (HB0.out.trans (hbel.mono (by omega)))).edge hlt
      obtain ⟨x, hx⟩ : ∃ x, x = g.es[j].1 := ⟨_, rfl⟩
      obtain ⟨y, hy⟩ : ∃ y, y = g.es[j].2 := ⟨_, rfl⟩
      rw [← hx] at ha
      rw [← hy] at hb
      have d0 := (hbel.cell (p := ⟨w.heap.size, 0, none⟩) hz0).trans c0
      have d1 := (hbel.cell (p := ⟨w.heap.size, 1, none⟩) hz0).trans c1
      have hin : inB g.n g.es[j] = (nodeB g.n x && nodeB g.n y) := by rw [hx, hy]; rfl
      have HIN := Lib.hid hin
      have HBE := Lib.hid (HB0.out.trans (hbel.mono (by omega : w.heap.size ≤ w0.heap.size)))
      have hzr : w.heap.size < wr.heap.size := by have := hbel.size; omega
      have HBL := Lib.hid hbel
      clear hx hy hin hbel
      have hzr1 : w.heap.size < wr.heap.size + 1 := by omega
      cases hnx : nodeB g.n x with
      | false =>
        obtain rfl : c = 1 := by rw [HC.out]; exact chkF_no (by omega) (by omega) (by omega) hlt (by rw [HIN.out, hnx]; rfl)
        have HX := Lib.hid hnx
        clear hnx
        go_wp2_with (go_at_call 46; refine (node_c _ d _ HX.out).mono ?_; rintro e w3 ⟨rfl, hb3⟩)
        go_ret
        exact ⟨rfl, HBE.out.trans (((Below.refl _ _).alloc (Nat.le_refl _) _).trans (hb3.mono (by simp)) |>.mono (by omega))⟩
      | true =>
        have HX := Lib.hid hnx
        clear hnx
        go_wp2_with fail
        go_at_call 46
        refine (node_c _ d _ HX.out).mono ?_
        rintro e w3 ⟨rfl, hb3⟩
        obtain ⟨hc3, _⟩ := bcell hb3
        have hw3 : Below wr.heap.size wr w3 := ((Below.refl _ _).alloc (Nat.le_refl _) _).trans (hb3.mono (by simp))
        have HW3 := Lib.hid hw3
        clear hb3 hw3
        cases hny : nodeB g.n y with
        | false =>
          obtain rfl : c = 1 := by rw [HC.out]; exact chkF_no (by omega) (by omega) (by omega) hlt (by rw [HIN.out, HX.out, hny]; rfl)
          have HY := Lib.hid hny
          clear hny
          go_wp2_with (go_at_call 46; refine (node_c _ d _ HY.out).mono ?_; rintro e w4 ⟨rfl, hb4⟩)
          go_ret
          exact ⟨rfl, HBE.out.trans ((HW3.out.trans (hb4.mono HW3.out.size)).mono (by omega))⟩
        | true =>
          have HY := Lib.hid hny
          clear hny
          go_wp2_with (go_at_call 46; refine (node_c _ d _ HY.out).mono ?_; rintro e w4 ⟨rfl, hb4⟩)
          have HB4 := Lib.hid hb4
          clear hb4 hc3
          go_roundw
          case rel =>
            refine ⟨j + 1, by go_num, by omega, fun k hk hkj => ?_, HBL.out.trans ((HW3.out.trans (HB4.out.mono HW3.out.size)).mono HBL.out.size)⟩
            rcases Nat.lt_or_ge k j with c | c
            · exact HALL.out k hk c
            · obtain rfl : k = j := by omega
              rw [HIN.out, HX.out, HY.out]; rfl
          case measure => simp [intOf]; omega
    · have hge : ¬ (j : Int) < (g.es.length : Int) := by omega
      obtain rfl : c = 0 := by rw [HC.out]; exact chkF_yes (by omega) (by omega) (by omega) (fun k hk => HALL.out k hk (by omega))
      have HBE := Lib.hid (HB0.out.trans (hbel.mono (by omega : w.heap.size ≤ w0.heap.size)))
      clear hbel
      go_wp2
      go_ret
      exact ⟨rfl, HBE.out⟩
set_option maxHeartbeats 1000000 in
set_option maxRecDepth 100000 in
theorem rcheck_c (g : XG) (E : Option Addr) (d : Nat) (w : World) (h : GAt w E g) (hl : g.es.length ≤ 4611686018427387904) :
    Calls Try.prog 15 #[g.val E d] w fun e w' => e = .returned (.int .i64 (chkF g)) ∧ Below w.heap.size w w' := by
  obtain ⟨c, hc⟩ : ∃ c, c = chkF g := ⟨_, rfl⟩
  rw [← hc]
  have hB : ∀ o, Below w.heap.size w (w.alloc o) := fun o => (Below.refl _ _).alloc (Nat.le_refl _) o
  have hv : g.val E d = .agg #[.int .i64 g.n, .slice E g.es.length d] := rfl
  rw [hv]
  by_cases h0 : g.n < 0 ∨ 4096 < g.n
  · obtain rfl : c = 1 := by rw [hc]; unfold chkF; rw [if_pos h0]
    have HB := Lib.hid hB
    clear hc hB hv
    rcases (show g.n < 0 ∨ (¬ g.n < 0 ∧ 4096 < g.n) by omega) with h1 | ⟨h1, h2⟩
    all_goals
      clear h0
      go_enter Try.func15, Try.ntmps15
      go_wp2
      go_ret
      exact ⟨rfl, HB.out _⟩
  have h1 : ¬ g.n < 0 := by omega
  have h2 : ¬ 4096 < g.n := by omega
  by_cases h3 : 16384 < g.es.length
  · obtain rfl : c = 3 := by rw [hc]; unfold chkF; rw [if_neg h0, if_pos h3]
    have h3i : (16384 : Int) < (g.es.length : Int) := by omega
    have HB := Lib.hid hB
    clear hc hB hv h0
    go_enter Try.func15, Try.ntmps15
    go_wp2
    go_ret
    exact ⟨rfl, HB.out _⟩
  have h3i : ¬ (16384 : Int) < (g.es.length : Int) := by omega
  have HB := Lib.hid hB
  have HC := Lib.hid hc
  have HG := Lib.hid h
  have HV := Lib.hid hv
  clear hc hB hv h0 h
  go_enter Try.func15, Try.ntmps15
  go_wp2
  obtain ⟨w0, hw0⟩ : ∃ w0, w0 = w.alloc (.cells #[.int .i64 g.n, .slice E g.es.length d] 24) := ⟨_, rfl⟩
  have c0 : w0.cell? ⟨w.heap.size, 0, none⟩ = some (.int .i64 g.n) := by rw [hw0, cell_new]; rfl
  have c1 : w0.cell? ⟨w.heap.size, 1, none⟩ = some (.slice E g.es.length d) := by rw [hw0, cell_new]; rfl
  have hb0 : Below w.heap.size w w0 := by rw [hw0]; exact HB.out _
  rw [← hw0]
  have HB0 := Lib.hid hb0
  have hz0 : w.heap.size < w0.heap.size := by rw [hw0, al_size]; omega
  clear hw0 hb0
  go_loopw [3] (fun i wr => ∃ j : Nat, i = .int .i64 j ∧ j ≤ g.es.length ∧ (∀ k (hk : k < g.es.length), k < j → inB g.n g.es[k] = true) ∧ Below w0.heap.size w0 wr) (fun i _ => g.es.length - (intOf i).toNat)
  case atStart => exact ⟨0, rfl, by omega, by omega, Below.refl _ _⟩
  case round =>
    obtain ⟨j, rfl, hj, hall, hbel⟩ := hrel
    have HALL := Lib.hid hall
    clear hall
    by_cases hlt : j < g.es.length
    · have hj0 : (0 : Int) ≤ (j : Int) := by omega
      have hj1 : (j : Int) < (g.es.length : Int) := by omega
      obtain ⟨b, off, rfl, hbl, ha, hb⟩ := (HG.out.below (HB0.out.trans (hbel.mono (by omega)))).edge hlt
      obtain ⟨x, hx⟩ : ∃ x, x = g.es[j].1 := ⟨_, rfl⟩
      obtain ⟨y, hy⟩ : ∃ y, y = g.es[j].2 := ⟨_, rfl⟩
      rw [← hx] at ha
      rw [← hy] at hb
      have d0 := (hbel.cell (p := ⟨w.heap.size, 0, none⟩) hz0).trans c0
      have d1 := (hbel.cell (p := ⟨w.heap.size, 1, none⟩) hz0).trans c1
      have hin : inB g.n g.es[j] = (nodeB g.n x && nodeB g.n y) := by rw [hx, hy]; rfl
      have HIN := Lib.hid hin
      have HBE := Lib.hid (HB0.out.trans (hbel.mono (by omega : w.heap.size ≤ w0.heap.size)))
      have hzr : w.heap.size < wr.heap.size := by have := hbel.size; omega
      have HBL := Lib.hid hbel
      clear hx hy hin hbel
      cases hnx : nodeB g.n x with
      | false =>
        obtain rfl : c = 1 := by rw [HC.out]; exact chkF_no (by omega) (by omega) (by omega) hlt (by rw [HIN.out, hnx]; rfl)
        have HX := Lib.hid hnx
        clear hnx
        go_wp2_with fail
        refine wp_region_held_drew (S := (fun w' => (Below wr.heap.size wr w' ∧ wr.heap.size ≤ w'.heap.size) ∧ w'.cell? ⟨w.heap.size, 0, none⟩ = some (.int .i64 g.n) ∧ w'.cell? ⟨w.heap.size, 1, none⟩ = some (.slice (some ⟨b, off, none⟩) g.es.length d) ∧ w'.cell? ⟨b, off + j * 2, none⟩ = some (.int .i64 x) ∧ w'.cell? ⟨b, off + j * 2 + 1, none⟩ = some (.int .i64 y))) (by kernel_rfl) ?xs (fun hHeld => ?xr)
        case xs => (refine ⟨⟨(Below.refl _ _).drew, Nat.le_refl _⟩, ?_, ?_, ?_, ?_⟩ <;> go_keep)
        refine take_at (i := 0) (d := 23) (v := ?xv0) rfl (by rfl) (by kernel_rfl) (by kernel_rfl) (by kernel_rfl) (fun _ _ _ h => h) (Or.inl ⟨by rfl, ?xy0⟩) (by assumption) ?xr0
        case xy0 => intro w' hSw; obtain ⟨_, q1, q2, q3, q4⟩ := hSw; go_simp; (try with_reducible rfl)
        case' xr0 => simp only [Act.put, List.setIfInBounds_toArray, List.set_cons_zero, List.set_cons_succ]
        refine take_at (i := 1) (d := 24) (v := ?xv1) rfl (by rfl) (by kernel_rfl) (by kernel_rfl) (by kernel_rfl) (fun _ _ _ h => h) (Or.inl ⟨by rfl, ?xy1⟩) (by assumption) ?xr1
        case xy1 => intro w' hSw; obtain ⟨_, q1, q2, q3, q4⟩ := hSw; go_simp; (try with_reducible rfl)
        case' xr1 => simp only [Act.put, List.setIfInBounds_toArray, List.set_cons_zero, List.set_cons_succ]
        refine take_at (i := 2) (d := 25) (v := ?xv2) rfl (by rfl) (by kernel_rfl) (by kernel_rfl) (by kernel_rfl) (fun _ _ _ h => h) (Or.inl ⟨by rfl, ?xy2⟩) (by assumption) ?xr2
        case xy2 => intro w' hSw; obtain ⟨_, q1, q2, q3, q4⟩ := hSw; go_simp; (try with_reducible rfl)
        case' xr2 => simp only [Act.put, List.setIfInBounds_toArray, List.set_cons_zero, List.set_cons_succ]
        refine take_at (i := 3) (d := 26) (v := ?xv3) rfl (by rfl) (by kernel_rfl) (by kernel_rfl) (by kernel_rfl) (fun _ _ _ h => h) (Or.inl ⟨by rfl, ?xy3⟩) (by assumption) ?xr3
        case xy3 => intro w' hSw; obtain ⟨_, q1, q2, q3, q4⟩ := hSw; go_simp; (try with_reducible rfl)
        case' xr3 => simp only [Act.put, List.setIfInBounds_toArray, List.set_cons_zero, List.set_cons_succ]
        refine take_at (i := 4) (d := 27) (v := ?xv4) rfl (by rfl) (by kernel_rfl) (by kernel_rfl) (by kernel_rfl) (fun _ _ _ h => h) (Or.inl ⟨by rfl, ?xy4⟩) (by assumption) ?xr4
        case xy4 => intro w' hSw; obtain ⟨_, q1, q2, q3, q4⟩ := hSw; go_simp; (try with_reducible rfl)
        case' xr4 => simp only [Act.put, List.setIfInBounds_toArray, List.set_cons_zero, List.set_cons_succ]
        refine take_at (i := 5) (d := 28) (v := ?xv5) rfl (by rfl) (by kernel_rfl) (by kernel_rfl) (by kernel_rfl) (fun _ _ _ h => h) (Or.inl ⟨by rfl, ?xy5⟩) (by assumption) ?xr5
        case xy5 => intro w' hSw; obtain ⟨_, q1, q2, q3, q4⟩ := hSw; go_simp; (try with_reducible rfl)
        case' xr5 => simp only [Act.put, List.setIfInBounds_toArray, List.set_cons_zero, List.set_cons_succ]
        refine take_at (i := 6) (d := 29) (v := ?xv6) rfl (by rfl) (by kernel_rfl) (by kernel_rfl) (by kernel_rfl) (fun _ _ _ h => h) (Or.inl ⟨by rfl, ?xy6⟩) (by assumption) ?xr6
        case xy6 => intro w' hSw; obtain ⟨_, q1, q2, q3, q4⟩ := hSw; go_simp; (try with_reducible rfl)
        case' xr6 => simp only [Act.put, List.setIfInBounds_toArray, List.set_cons_zero, List.set_cons_succ]
        refine wpAnyH_ready (rs := [7]) (by kernel_rfl) (by simp) ?xc7
        refine AllReadyH.cons rfl (fun K hK => ?xb7) AllReadyH.nil
        go_simp
        go_at_call 47; refine (rnode_c _ d _ HX.out).mono ?_; rintro e w3 ⟨rfl, hb3⟩
        refine hK.out _ _ ?xh7 (fun hHeld => ?xr7)
        case xh7 => exact hk4 hHeld hb3
        case' xr7 => (clear hK K; try simp only [Act.put, List.setIfInBounds_toArray, List.set_cons_zero, List.set_cons_succ])
        refine take_at (i := 8) (d := 31) (v := ?xv8) rfl (by rfl) (by kernel_rfl) (by kernel_rfl) (by kernel_rfl) (fun _ _ _ h => h) (Or.inl ⟨by rfl, ?xy8⟩) (by assumption) ?xr8
        case xy8 => intro w' hSw; obtain ⟨_, q1, q2, q3, q4⟩ := hSw; go_simp; (try with_reducible rfl)
        case' xr8 => simp only [Act.put, List.setIfInBounds_toArray, List.set_cons_zero, List.set_cons_succ]
        refine take_at (i := 9) (d := 32) (v := ?xv9) rfl (by rfl) (by kernel_rfl) (by kernel_rfl) (by kernel_rfl) (fun _ _ _ h => h) (Or.inl ⟨by rfl, ?xy9⟩) (by assumption) ?xr9
        case xy9 => intro w' hSw; obtain ⟨_, q1, q2, q3, q4⟩ := hSw; go_simp; (try with_reducible rfl)
        case' xr9 => simp only [Act.put, List.setIfInBounds_toArray, List.set_cons_zero, List.set_cons_succ]
        refine pass_at (i := 10) (d := 33) rfl (by rfl) (by kernel_rfl) (by kernel_rfl) (by kernel_rfl) (fun _ _ _ h => h) (by rfl) (by assumption) ?xr10
        case' xr10 => simp only [Act.put, List.setIfInBounds_toArray, List.set_cons_zero, List.set_cons_succ]
        refine pass_at (i := 11) (d := 34) rfl (by rfl) (by kernel_rfl) (by kernel_rfl) (by kernel_rfl) (fun _ _ _ h => h) (by rfl) (by assumption) ?xr11
        case' xr11 => simp only [Act.put, List.setIfInBounds_toArray, List.set_cons_zero, List.set_cons_succ]
        refine pass_at (i := 12) (d := 35) rfl (by rfl) (by kernel_rfl) (by kernel_rfl) (by kernel_rfl) (fun _ _ _ h => h) (by rfl) (by assumption) ?xr12
        case' xr12 => simp only [Act.put, List.setIfInBounds_toArray, List.set_cons_zero, List.set_cons_succ]
        refine pass_at (i := 13) (d := 36) rfl (by rfl) (by kernel_rfl) (by kernel_rfl) (by kernel_rfl) (fun _ _ _ h => h) (by rfl) (by assumption) ?xr13
        case' xr13 => simp only [Act.put, List.setIfInBounds_toArray, List.set_cons_zero, List.set_cons_succ]
        refine pass_at (i := 14) (d := 37) rfl (by rfl) (by kernel_rfl) (by kernel_rfl) (by kernel_rfl) (fun _ _ _ h => h) (by rfl) (by assumption) ?xr14
        case' xr14 => simp only [Act.put, List.setIfInBounds_toArray, List.set_cons_zero, List.set_cons_succ]
        refine pass_at (i := 15) (d := 38) rfl (by rfl) (by kernel_rfl) (by kernel_rfl) (by kernel_rfl) (fun _ _ _ h => h) (by rfl) (by assumption) ?xr15
        case' xr15 => simp only [Act.put, List.setIfInBounds_toArray, List.set_cons_zero, List.set_cons_succ]
        refine pass_at (i := 16) (d := 39) rfl (by rfl) (by kernel_rfl) (by kernel_rfl) (by kernel_rfl) (fun _ _ _ h => h) (by rfl) (by assumption) ?xr16
        case' xr16 => simp only [Act.put, List.setIfInBounds_toArray, List.set_cons_zero, List.set_cons_succ]
        refine pass_at (i := 17) (d := 40) rfl (by rfl) (by kernel_rfl) (by kernel_rfl) (by kernel_rfl) (fun _ _ _ h => h) (by rfl) (by assumption) ?xr17
        case' xr17 => simp only [Act.put, List.setIfInBounds_toArray, List.set_cons_zero, List.set_cons_succ]
        refine pass_at (i := 18) (d := 41) rfl (by rfl) (by kernel_rfl) (by kernel_rfl) (by kernel_rfl) (fun _ _ _ h => h) (by rfl) (by assumption) ?xr18
        case' xr18 => simp only [Act.put, List.setIfInBounds_toArray, List.set_cons_zero, List.set_cons_succ]
        refine take_at (i := 19) (d := 42) (v := ?xv19) rfl (by rfl) (by kernel_rfl) (by kernel_rfl) (by kernel_rfl) (fun _ _ _ h => h) (Or.inl ⟨by rfl, ?xy19⟩) (by assumption) ?xr19
        case xy19 => intro w' hSw; obtain ⟨_, q1, q2, q3, q4⟩ := hSw; go_simp; (try with_reducible rfl)
        case' xr19 => simp only [Act.put, List.setIfInBounds_toArray, List.set_cons_zero, List.set_cons_succ]
        refine wpAnyH_done (by kernel_rfl) ?xz _
        obtain ⟨⟨q0, q1⟩, _⟩ := ‹_ ∧ _ ∧ _ ∧ _ ∧ _›
        go_wp2
        go_ret
        exact ⟨rfl, HBE.out.trans (q0.mono (by omega))⟩
      | true =>
        have HX := Lib.hid hnx
        clear hnx
        cases hny : nodeB g.n y with
        | false =>
          obtain rfl : c = 1 := by rw [HC.out]; exact chkF_no (by omega) (by omega) (by omega) hlt (by rw [HIN.out, HX.out, hny]; rfl)
          have HY := Lib.hid hny
          clear hny
          go_wp2_with fail
          go_region_held3 (fun w' => (Below wr.heap.size wr w' ∧ wr.heap.size ≤ w'.heap.size) ∧ w'.cell? ⟨w.heap.size, 0, none⟩ = some (.int .i64 g.n) ∧ w'.cell? ⟨w.heap.size, 1, none⟩ = some (.slice (some ⟨b, off, none⟩) g.es.length d) ∧ w'.cell? ⟨b, off + j * 2, none⟩ = some (.int .i64 x) ∧ w'.cell? ⟨b, off + j * 2 + 1, none⟩ = some (.int .i64 y))
            (first | (refine ⟨⟨(Below.refl _ _).drew, Nat.le_refl _⟩, ?_, ?_, ?_, ?_⟩ <;> go_keep) | exact hk4 ‹_ ∧ _› hb3 | go_keep)
            (first | (go_at_call_of 47 (Value.int IntKind.i64 x); refine (rnode_c _ d _ HX.out).mono ?_; rintro e w3 ⟨rfl, hb3⟩) | (go_at_call_of 47 (Value.int IntKind.i64 y); refine (rnode_c _ d _ HY.out).mono ?_; rintro e w3 ⟨rfl, hb3⟩))
          obtain ⟨⟨q0, q1⟩, _⟩ := ‹_ ∧ _ ∧ _ ∧ _ ∧ _›
          go_wp2
          go_ret
          exact ⟨rfl, HBE.out.trans (q0.mono (by omega))⟩
        | true =>
          have HY := Lib.hid hny
          clear hny
          go_wp2_with fail
          go_region_held3 (fun w' => (Below wr.heap.size wr w' ∧ wr.heap.size ≤ w'.heap.size) ∧ w'.cell? ⟨w.heap.size, 0, none⟩ = some (.int .i64 g.n) ∧ w'.cell? ⟨w.heap.size, 1, none⟩ = some (.slice (some ⟨b, off, none⟩) g.es.length d) ∧ w'.cell? ⟨b, off + j * 2, none⟩ = some (.int .i64 x) ∧ w'.cell? ⟨b, off + j * 2 + 1, none⟩ = some (.int .i64 y))
            (first | (refine ⟨⟨(Below.refl _ _).drew, Nat.le_refl _⟩, ?_, ?_, ?_, ?_⟩ <;> go_keep) | exact hk4 ‹_ ∧ _› hb3 | go_keep)
            (first | (go_at_call_of 47 (Value.int IntKind.i64 x); refine (rnode_c _ d _ HX.out).mono ?_; rintro e w3 ⟨rfl, hb3⟩) | (go_at_call_of 47 (Value.int IntKind.i64 y); refine (rnode_c _ d _ HY.out).mono ?_; rintro e w3 ⟨rfl, hb3⟩))
          obtain ⟨⟨q0, q1⟩, _⟩ := ‹_ ∧ _ ∧ _ ∧ _ ∧ _›
          have Q0 := Lib.hid q0
          clear q0
          go_wp2
          go_roundw
          case rel =>
            refine ⟨j + 1, by go_num, by omega, fun k hk hkj => ?_, HBL.out.trans (Q0.out.mono HBL.out.size)⟩
            rcases Nat.lt_or_ge k j with c | c
            · exact HALL.out k hk c
            · obtain rfl : k = j := by omega
              rw [HIN.out, HX.out, HY.out]; rfl
          case measure => simp [intOf]; omega
    · have hge : ¬ (j : Int) < (g.es.length : Int) := by omega
      have d0 := (hbel.cell (p := ⟨w.heap.size, 0, none⟩) hz0).trans c0
      have d1 := (hbel.cell (p := ⟨w.heap.size, 1, none⟩) hz0).trans c1
      obtain rfl : c = 0 := by rw [HC.out]; exact chkF_yes (by omega) (by omega) (by omega) (fun k hk => HALL.out k hk (by omega))
      have HBE := Lib.hid (HB0.out.trans (hbel.mono (by omega : w.heap.size ≤ w0.heap.size)))
      clear hbel
      go_wp2
      go_ret
      exact ⟨rfl, HBE.out⟩
end Go.Proofs.Ytpdfcffeinbcaaa
