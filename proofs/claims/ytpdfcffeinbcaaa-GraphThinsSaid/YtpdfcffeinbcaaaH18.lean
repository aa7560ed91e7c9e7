/- Copies; likeness; spoiling. -/
import Derived.Test.YtpdfcffeinbcaaaH16
namespace Go.Proofs.Ytpdfcffeinbcaaa
open Go.RowKit
theorem own_empty (w : World) (TI : TypeId) (sz : Nat) : (w.alloc (.cells #[] TI)).ownsRow w.heap.size TI sz (.slice (some ⟨w.heap.size, 0, none⟩) 0 0) 0 [] :=
  ⟨by simp, .inr ⟨w.heap.size, 0, #[], rfl, Nat.le_refl _, heap_alloc_new _ _, Nat.le_refl _, by simp [maxLen], by simp, by simp⟩⟩
theorem copyInts_c (xs : List Int) (X : Option Addr) (d : Nat) (w : World) (h : RowAt w X (I xs)) (hl : xs.length ≤ 17592186044416) :
    Calls Try.prog 13 #[.slice X xs.length d] w fun e w' => ∃ Y c, e = .returned (.slice Y xs.length c) ∧ RowAt w' Y (I xs) ∧ Below w.heap.size w w' := by
  obtain ⟨i0, hi, hzz⟩ := Option.map_eq_some_iff.1 info_int
  simp only [Prod.mk.injEq] at hzz
  have hrd := (reads_row h).alloc (Nat.le_refl _) (.cells #[] 3)
  have hown := own_empty w 3 1
  have hb0 : Below w.heap.size w (w.alloc (.cells #[] 3)) := (Below.refl _ _).alloc (Nat.le_refl _) _
  have hil : (I xs).length = xs.length := List.length_map _
  have HIL := Lib.hid hil
  clear hil
  go_enter Try.func13, Try.ntmps13
  go_wp2_with (at_builtin; refine wpList_append_any _ (by rfl) _ _ 25 (by rfl) w.heap.size 3 i0 (.int .i64 0) 1 8 Try.underlying25 hi hzz.1 hzz.2.1 hzz.2.2 rfl (by decide) (.slice (some ⟨w.heap.size, 0, none⟩) 0 0) 0 [] (by rfl) hown _ X xs.length d (I xs) (by rfl) hrd (by simp [I, Value.oneCell']) (by simp only [maxLen]; omega) (by omega) (by rw [al_size]; omega) ?_; intro v5 w5 ho5 hg5 hat5; rw [Nat.zero_add] at ho5; obtain ⟨Y, c, rfl, hrow, _⟩ := own_rowS ho5)
  go_ret
  exact ⟨Y, c, rfl, hrow, hb0.grown hg5 (by rw [al_size]; omega) (fun k e => by cases e; exact Nat.le_refl _)⟩
theorem reads_edges {w : World} {E : Option Addr} {g : XG} (h : GAt w E g) : Reads w w.heap.size 2 E g.es.length (edgeCells g.es) := by
  have hl := edgeCells_length g.es
  refine ⟨hl, fun hp => ?_⟩
  rcases h with h | ⟨b, off, e, hb, hc⟩
  · rw [h] at hl; simp at hl; omega
  · refine ⟨_, e, hb, fun j u hu => ?_⟩
    obtain ⟨hj, rfl⟩ := List.getElem?_eq_some_iff.1 hu
    rw [add_any, hc j hj]
theorem edge_one {es : List (Int × Int)} : ∀ u ∈ edgeCells es, u.oneCell' = true := by
  intro u hu
  unfold edgeCells at hu
  obtain ⟨e, _, he⟩ := List.mem_flatMap.1 hu
  simp only [List.mem_cons, List.not_mem_nil, or_false] at he
  rcases he with rfl | rfl <;> rfl
set_option maxHeartbeats 1000000 in
set_option maxRecDepth 100000 in
theorem copied_c (g : XG) (E : Option Addr) (d : Nat) (w : World) (h : GAt w E g) (hl : g.es.length ≤ 8796093022208) :
    Calls Try.prog 12 #[g.val E d] w fun e w' => ∃ F c, e = .returned (g.val F c) ∧ GAt w' F g ∧ Below w.heap.size w w' := by
  obtain ⟨i0, hi, hzz⟩ := Option.map_eq_some_iff.1 info_edge
  simp only [Prod.mk.injEq] at hzz
  have hrb := rb_start w g E d (t := 24) (t' := 24)
  have hv : g.val E d = .agg #[.int .i64 g.n, .slice E g.es.length d] := rfl
  rw [hv]
  obtain ⟨w1, hw1⟩ : ∃ w1, w1 = (w.alloc (.cells #[.int .i64 g.n, .slice E g.es.length d] 24)).alloc (.cells #[.int .i64 0, .slice none 0 0] 24) := ⟨_, rfl⟩
  have hz1 : w1.heap.size = w.heap.size + 2 := by rw [hw1, al_size, al_size]
  have hzf : ∀ o, w1.frozen? ⟨w.heap.size, o, none⟩ = false := fun o => by
    have hb : w1.heap[w.heap.size]? = (w.alloc (.cells #[.int .i64 g.n, .slice E g.es.length d] 24)).heap[w.heap.size]? := by rw [hw1]; exact heap_alloc_old _ _ (by rw [al_size]; omega)
    rw [frozen_block (a := ⟨w.heap.size, o, none⟩) hb]
    exact frozen_new _ _ _ _
  rw [← hw1] at hrb
  have hrd : Reads (w1.alloc (.cells #[] 51)) w1.heap.size 2 E g.es.length (edgeCells g.es) := (reads_edges (h.below hrb.bel)).alloc (Nat.le_refl _) _
  have hown : (w1.alloc (.cells #[] 51)).ownsRow (w.heap.size + 2) 51 2 (.slice (some ⟨w.heap.size + 2, 0, none⟩) 0 0) 0 [] := by rw [← hz1]; exact own_empty w1 51 2
  have hck : ∀ w5, (w1.alloc (.cells #[] 51)).grownBy w5 (some (w.heap.size + 2)) → ∀ p : Addr, p.block < w.heap.size + 2 → w5.cell? p = w1.cell? p ∧ w5.frozen? p = w1.frozen? p := fun w5 hg p hp => by
    have h1 : w5.heap[p.block]? = w1.heap[p.block]? := by
      rw [hg.block p.block (by rw [al_size]; omega) (fun e => by have := Option.some.inj e; omega)]
      exact heap_alloc_old _ _ (by omega)
    exact ⟨World.cell?_of_block h1, frozen_block h1⟩
  have hb5 : ∀ w5, (w1.alloc (.cells #[] 51)).grownBy w5 (some (w.heap.size + 2)) → Below w.heap.size w w5 := fun w5 hg => (hrb.bel.alloc (by omega) _).grown hg (by rw [al_size]; omega) (fun k e => by have := Option.some.inj e; omega)
  obtain ⟨c0, c1, r0, r1, rz, hbel, hlt⟩ := hrb
  have HRD := Lib.hid hrd
  have HOWN := Lib.hid hown
  have HCK := Lib.hid hck
  have HB5 := Lib.hid hb5
  have HZF := Lib.hid hzf
  have HRZ := Lib.hid rz
  have HC := Lib.hid (And.intro (And.intro c0 c1) (And.intro r0 r1))
  have HI := Lib.hid hi
  have HZ := Lib.hid hzz
  clear hrd hown hck hb5 hzf rz r0 r1 hi hzz h hv hbel
  go_enter Try.func12, Try.ntmps12
  have HW1 := Lib.hid hw1
  clear hw1
  go_wp2_with (at_builtin; rw [← HW1.out]; refine wpList_append_any _ (by rfl) _ _ 22 (by rfl) (w.heap.size + 2) 51 i0 (.agg #[.int .i64 0, .int .i64 0]) 2 16 Try.underlying22 HI.out HZ.out.1 HZ.out.2.1 HZ.out.2.2 rfl (by decide) (.slice (some ⟨w.heap.size + 2, 0, none⟩) 0 0) 0 [] (by rfl) HOWN.out _ E g.es.length d (edgeCells g.es) (by rfl) HRD.out edge_one (by simp only [maxLen]; omega) (by omega) (by rw [al_size]; omega) ?_; intro v5 w5 ho5 hg5 hat5; rw [Nat.zero_add, List.nil_append] at ho5; obtain ⟨F, c, rfl, hrow, _⟩ := own_rowS ho5; have e0 := (HCK.out w5 hg5 ⟨w.heap.size, 0, none⟩ (by show w.heap.size < _; omega)).1.trans HC.out.1.1; have e1 := (HCK.out w5 hg5 ⟨w.heap.size, 1, none⟩ (by show w.heap.size < _; omega)).1.trans HC.out.1.2; have e2 := (HCK.out w5 hg5 ⟨w.heap.size + 1, 0, none⟩ (by show w.heap.size + 1 < _; omega)).1.trans HC.out.2.1; have e3 := (HCK.out w5 hg5 ⟨w.heap.size + 1, 1, none⟩ (by show w.heap.size + 1 < _; omega)).1.trans HC.out.2.2; have z1 := (HCK.out w5 hg5 ⟨w.heap.size, 1, none⟩ (by show w.heap.size < _; omega)).2.trans (HZF.out 1); have z2 := (HCK.out w5 hg5 ⟨w.heap.size + 1, 0, none⟩ (by show w.heap.size + 1 < _; omega)).2.trans (HRZ.out 0); have z3 := (HCK.out w5 hg5 ⟨w.heap.size + 1, 1, none⟩ (by show w.heap.size + 1 < _; omega)).2.trans (HRZ.out 1); have HO5 := Lib.hid ho5; have HB := Lib.hid (HB5.out w5 hg5); clear ho5 hg5 hat5 hrow)
  obtain ⟨f0, f1⟩ := two_at (w := w5.setCell ⟨w.heap.size, 1, none⟩ (.slice F g.es.length c)) (b := w.heap.size + 1) (x := .int .i64 g.n) (y := .slice F g.es.length c) ((World.cell?_setCell_other _ _ _ _ (by simp)).trans e2) ((World.cell?_setCell_other _ _ _ _ (by simp)).trans e3)
  refine bodyPost_ret (v := .agg #[.int .i64 g.n, .slice F g.es.length c]) (by simp [results, Try.results12, go_sem, f0, f1]; try rfl) rfl ?_
  have ho := own_low (own_low (own_low HO5.out ⟨w.heap.size, 1, none⟩ (.slice F g.es.length c) (by show w.heap.size < _; omega)) ⟨w.heap.size + 1, 0, none⟩ (.int .i64 g.n) (by show w.heap.size + 1 < _; omega)) ⟨w.heap.size + 1, 1, none⟩ (.slice F g.es.length c) (by show w.heap.size + 1 < _; omega)
  obtain ⟨F', c', hv', hrow, _⟩ := own_rowS ho
  cases hv'
  exact ⟨F, c, rfl, hrow, ((HB.out.setCell (by show w.heap.size ≤ w.heap.size; omega) _).setCell (by show w.heap.size ≤ w.heap.size + 1; omega) _).setCell (by show w.heap.size ≤ w.heap.size + 1; omega) _⟩
theorem sameInts_c (xs : List Int) (X Y : Option Addr) (c d : Nat) (w : World) (hx : RowAt w X (I xs)) (hy : RowAt w Y (I xs)) (hl : xs.length ≤ 140737488355328) :
    Calls Try.prog 18 #[.slice X xs.length c, .slice Y xs.length d] w fun e w' => e = .returned (.bool true) ∧ Below w.heap.size w w' := by
  go_enter Try.func18, Try.ntmps18
  go_wp2
  go_loopw [5] (fun i wr => ∃ k n : Nat, k ≤ xs.length ∧ i = .int .i64 k ∧ wr = w.drewN n) (fun i _ => xs.length - (intOf i).toNat)
  case atStart => exact ⟨0, 0, by omega, rfl, rfl⟩
  case round =>
    obtain ⟨k, n, hk, rfl, rfl⟩ := hrel
    by_cases hlt : k < xs.length
    · obtain ⟨b, off, rfl, h1⟩ := hx.int hlt
      obtain ⟨b', off', rfl, h2⟩ := hy.int hlt
      have hi0 : (0 : Int) ≤ (k : Int) := Int.natCast_nonneg _
      have hi1 : (k : Int) < (xs.length : Int) := by omega
      have hb : ((xs[k] : Int) != (xs[k] : Int)) = false := by simp
      go_wp2_with fail
      go_quiet (fail)
      go_wp2
      go_roundw
      case rel => exact ⟨k + 1, _, by omega, by go_num, rfl⟩
      case measure => simp [intOf]; omega
    · go_wp2
      go_ret
      exact ⟨rfl, below_drewN (Below.refl _ _) _⟩
/-- Two boxed graphs. -/
theorem two_boxes (w : World) (g : XG) (E F : Option Addr) (d c : Nat) {t t' : TypeId} : ∀ W, W = (w.alloc (.cells #[.int .i64 g.n, .slice E g.es.length d] t)).alloc (.cells #[.int .i64 g.n, .slice F g.es.length c] t') →
    W.cell? ⟨w.heap.size, 0, none⟩ = some (.int .i64 g.n) ∧ W.cell? ⟨w.heap.size, 1, none⟩ = some (.slice E g.es.length d) ∧ W.cell? ⟨w.heap.size + 1, 0, none⟩ = some (.int .i64 g.n) ∧ W.cell? ⟨w.heap.size + 1, 1, none⟩ = some (.slice F g.es.length c) ∧ Below w.heap.size w W ∧ W.heap.size = w.heap.size + 2 := by
  rintro W rfl
  obtain ⟨w1, hw1⟩ : ∃ w1, w1 = w.alloc (.cells #[.int .i64 g.n, .slice E g.es.length d] t) := ⟨_, rfl⟩
  have z1 : w1.heap.size = w.heap.size + 1 := by rw [hw1, al_size]
  have c0 : w1.cell? ⟨w.heap.size, 0, none⟩ = some (.int .i64 g.n) := by rw [hw1, cell_new]; rfl
  have c1 : w1.cell? ⟨w.heap.size, 1, none⟩ = some (.slice E g.es.length d) := by rw [hw1, cell_new]; rfl
  have b1 : Below w.heap.size w w1 := by rw [hw1]; exact (Below.refl _ _).alloc (Nat.le_refl _) _
  rw [← hw1, ← z1]
  exact ⟨(World.cell?_alloc_lt _ _ _ (by show w.heap.size < _; omega)).trans c0, (World.cell?_alloc_lt _ _ _ (by show w.heap.size < _; omega)).trans c1, by rw [cell_new]; rfl, by rw [cell_new]; rfl, b1.alloc (by omega) _, by rw [al_size]; omega⟩
set_option maxHeartbeats 1000000 in
theorem same_c (g : XG) (E F : Option Addr) (d c : Nat) (w : World) (h : GAt w E g) (h2 : GAt w F g) (hl : g.es.length ≤ 140737488355328) :
    Calls Try.prog 23 #[g.val E d, g.val F c] w fun e w' => e = .returned (.bool true) ∧ Below w.heap.size w w' := by
  have hv : ∀ E d, g.val E d = .agg #[.int .i64 g.n, .slice E g.es.length d] := fun _ _ => rfl
  rw [hv, hv]
  have htb := two_boxes w g E F d c (t := 24) (t' := 24) _ rfl
  obtain ⟨m, hm⟩ : ∃ m, m = g.es.length := ⟨_, rfl⟩
  rw [← hm] at htb hl ⊢
  have hn : (g.n != g.n) = false := by simp
  have hm2 : ((m : Int) != (m : Int)) = false := by simp
  have HTB := Lib.hid htb
  have HG := Lib.hid h
  have HG2 := Lib.hid h2
  have HM := Lib.hid hm
  clear htb hv h h2 hm
  go_enter Try.func23, Try.ntmps23
  go_wp2
  generalize hW : World.alloc _ _ = W at HTB ⊢
  have hb0 := HTB.out.2.2.2.2.1
  clear hW
  go_loopw [5] (fun i wr => ∃ k n : Nat, k ≤ m ∧ i = .int .i64 k ∧ wr = W.drewN n) (fun i _ => m - (intOf i).toNat)
  case atStart => exact ⟨0, 0, by omega, rfl, rfl⟩
  case round =>
    obtain ⟨k, n, hk, rfl, rfl⟩ := hrel
    obtain ⟨q0, q1, q2, q3, _⟩ := HTB.out
    by_cases hlt : k < m
    · obtain ⟨b, off, rfl, _, h1, h2⟩ := (HG.out.below hb0).edge (j := k) (by have := HM.out; omega)
      obtain ⟨b', off', rfl, _, h3, h4⟩ := (HG2.out.below hb0).edge (j := k) (by have := HM.out; omega)
      have hi0 : (0 : Int) ≤ (k : Int) := Int.natCast_nonneg _
      have hi1 : (k : Int) < (m : Int) := by omega
      go_wp2_with fail
      go_quiet (fail)
      go_wp2
      go_roundw
      case rel => exact ⟨k + 1, _, by omega, by go_num, rfl⟩
      case measure => simp [intOf]; omega
    · go_wp2
      go_ret
      exact ⟨rfl, below_drewN hb0 _⟩
end Go.Proofs.Ytpdfcffeinbcaaa
