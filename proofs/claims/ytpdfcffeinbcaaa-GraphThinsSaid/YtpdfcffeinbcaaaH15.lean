/- Turned round: the program's. -/
import Derived.Test.YtpdfcffeinbcaaaH6
import Derived.Test.YtpdfcffeinbcaaaM1
import Derived.Deep.OwnRows
namespace Go.Proofs.Ytpdfcffeinbcaaa
open Go.RowKit
theorem info_edge : (Try.prog.info? 51).map (fun i => (i.zero, i.size, i.bytes)) = some (some (.agg #[.int .i64 0, .int .i64 0]), 2, 16) := by kernel_rfl
def swp (e : Int × Int) : Int × Int := (e.2, e.1)
/-- Edges in a block of one's own. -/
def EAtF (w : World) (b m : Nat) (ls : Nat → Int × Int) : Prop := b < w.heap.size ∧ (∀ k, k < m → w.cell? ⟨b, k * 2, none⟩ = some (.int .i64 (ls k).1) ∧ w.cell? ⟨b, k * 2 + 1, none⟩ = some (.int .i64 (ls k).2)) ∧ ∀ o, w.frozen? ⟨b, o, none⟩ = false
theorem EAtF.below {w w' : World} {b m : Nat} {ls : Nat → Int × Int} (h : EAtF w b m ls) (hb : Below w.heap.size w w') : EAtF w' b m ls :=
  ⟨Nat.lt_of_lt_of_le h.1 hb.size, fun k hk => ⟨(hb.cell (p := ⟨b, _, none⟩) h.1).trans (h.2.1 k hk).1, (hb.cell (p := ⟨b, _, none⟩) h.1).trans (h.2.1 k hk).2⟩, fun o => (frozen_block (a := ⟨b, o, none⟩) (hb.block b h.1)).trans (h.2.2 o)⟩
theorem EAtF.set {w : World} {b m k : Nat} {ls : Nat → Int × Int} (h : EAtF w b m ls) (hk : k < m) (x y : Int) : EAtF ((w.setCell ⟨b, k * 2, none⟩ (.int .i64 x)).setCell ⟨b, k * 2 + 1, none⟩ (.int .i64 y)) b m (upd ls k (x, y)) := by
  refine ⟨by simpa [World.setCell] using h.1, fun i hi => ?_, fun o => by rw [World.frozen?_setCell, World.frozen?_setCell]; exact h.2.2 o⟩
  by_cases e : i = k
  · subst e
    rw [upd_same, set_far _ _ _ _ _ (by omega), set_here _ _ _ _ _ (h.2.1 i hi).1]
    refine ⟨rfl, set_here _ _ _ _ (.int .i64 (ls i).2) ?_⟩
    rw [set_far _ _ _ _ _ (by omega)]
    exact (h.2.1 i hi).2
  · rw [upd_far _ _ e, set_far _ _ _ _ _ (by omega), set_far _ _ _ _ _ (by omega), set_far _ _ _ _ _ (by omega), set_far _ _ _ _ _ (by omega)]
    exact h.2.1 i hi
theorem eat_made (w : World) (m : Nat) : EAtF (w.alloc (.cells (madeCells #[.int .i64 0, .int .i64 0] (m * 2)) 51)) w.heap.size m (fun _ => (0, 0)) := by
  refine ⟨by rw [al_size]; omega, fun k hk => ?_, fun o => frozen_new _ _ _ _⟩
  constructor
  · rw [cell_new]; simp [madeCells, show k * 2 < m * 2 by omega]
  · rw [cell_new]; simp [madeCells, show k * 2 + 1 < m * 2 by omega, show (k * 2 + 1) % 2 = 1 by omega]
theorem EAtF.gat {w : World} {b m : Nat} {ls : Nat → Int × Int} {g : XG} (h : EAtF w b m ls) (hm : g.es.length = m) (he : ∀ k (hk : k < g.es.length), ls k = g.es[k]) : GAt w (some ⟨b, 0, none⟩) g := by
  refine .inr ⟨b, 0, rfl, h.1, fun j hj => ?_⟩
  have hl := edgeCells_length g.es
  have hg := edgeCells_get (es := g.es) (j := j / 2) (by omega)
  have hc := h.2.1 (j / 2) (by omega)
  rw [he _ (by omega)] at hc
  rw [Nat.zero_add]
  rcases Nat.mod_two_eq_zero_or_one j with e | e
  · have e2 : j / 2 * 2 = j := by omega
    rw [e2] at hg hc
    rw [hc.1]
    have := hg.1
    rw [List.getElem?_eq_getElem hj] at this
    exact this.symm
  · have e2 : j / 2 * 2 + 1 = j := by omega
    rw [e2] at hg hc
    rw [hc.2]
    have := hg.2
    rw [List.getElem?_eq_getElem hj] at this
    exact this.symm
structure TS (w W : World) (sb tb m : Nat) (n : Int) (ls : Nat → Int × Int) : Prop where
  e : EAtF W sb m ls
  t0 : W.cell? ⟨tb, 0, none⟩ = some (.int .i64 n)
  t1 : W.cell? ⟨tb, 1, none⟩ = some (.slice (some ⟨sb, 0, none⟩) m m)
  r0 : W.cell? ⟨w.heap.size + 1, 0, none⟩ = some (.int .i64 0)
  r1 : W.cell? ⟨w.heap.size + 1, 1, none⟩ = some (.slice none 0 0)
  rz : ∀ o, W.frozen? ⟨w.heap.size + 1, o, none⟩ = false
  bel : Below w.heap.size w W
  rl : w.heap.size + 1 < W.heap.size
  hs : w.heap.size + 2 ≤ sb
  ht : w.heap.size + 2 ≤ tb
  ne : sb ≠ tb
  tl : tb < W.heap.size
theorem TS.below {w W W' : World} {sb tb m : Nat} {n : Int} {ls : Nat → Int × Int} (h : TS w W sb tb m n ls) (hb : Below W.heap.size W W') : TS w W' sb tb m n ls :=
  ⟨h.e.below hb, (hb.cell (p := ⟨tb, 0, none⟩) h.tl).trans h.t0, (hb.cell (p := ⟨tb, 1, none⟩) h.tl).trans h.t1, (hb.cell (p := ⟨w.heap.size + 1, 0, none⟩) h.rl).trans h.r0, (hb.cell (p := ⟨w.heap.size + 1, 1, none⟩) h.rl).trans h.r1,
    fun o => (frozen_block (a := ⟨w.heap.size + 1, o, none⟩) (hb.block _ h.rl)).trans (h.rz o), h.bel.trans (hb.mono h.bel.size), Nat.lt_of_lt_of_le h.rl hb.size, h.hs, h.ht, h.ne, Nat.lt_of_lt_of_le h.tl hb.size⟩
theorem TS.set {w W : World} {sb tb m k : Nat} {n : Int} {ls : Nat → Int × Int} (h : TS w W sb tb m n ls) (hk : k < m) (x y : Int) : TS w ((W.setCell ⟨sb, k * 2, none⟩ (.int .i64 x)).setCell ⟨sb, k * 2 + 1, none⟩ (.int .i64 y)) sb tb m n (upd ls k (x, y)) := by
  have hs := h.hs
  have ht := h.ht
  have hne := h.ne
  have far : ∀ (q o : Nat), q ≠ sb → ((W.setCell ⟨sb, k * 2, none⟩ (.int .i64 x)).setCell ⟨sb, k * 2 + 1, none⟩ (.int .i64 y)).cell? ⟨q, o, none⟩ = W.cell? ⟨q, o, none⟩ := fun q o hq => by
    rw [World.cell?_setCell_other _ _ _ _ (by simp), World.cell?_setCell_other _ _ _ _ (by simp)]
  refine ⟨h.e.set hk x y, (far _ _ (Ne.symm hne)).trans h.t0, (far _ _ (Ne.symm hne)).trans h.t1, (far _ _ (by omega)).trans h.r0, (far _ _ (by omega)).trans h.r1, fun o => by rw [World.frozen?_setCell, World.frozen?_setCell]; exact h.rz o, (h.bel.setCell (by show w.heap.size ≤ sb; omega) _).setCell (by show w.heap.size ≤ sb; omega) _, ?_, h.hs, h.ht, h.ne, ?_⟩
  · simpa [World.setCell] using h.rl
  · simpa [World.setCell] using h.tl
theorem EAtF.far {w : World} {b m c o : Nat} {ls : Nat → Int × Int} (h : EAtF w b m ls) (hc : c ≠ b) (v : Value) : EAtF (w.setCell ⟨c, o, none⟩ v) b m ls :=
  ⟨by simpa [World.setCell] using h.1, fun k hk => ⟨(World.cell?_setCell_other _ _ _ _ (by simp)).trans (h.2.1 k hk).1, (World.cell?_setCell_other _ _ _ _ (by simp)).trans (h.2.1 k hk).2⟩, fun o => by rw [World.frozen?_setCell]; exact h.2.2 o⟩
theorem EAtF.congr {w : World} {b m : Nat} {ls ls' : Nat → Int × Int} (h : EAtF w b m ls) (he : ∀ k, k < m → ls k = ls' k) : EAtF w b m ls' := ⟨h.1, fun k hk => by rw [← he k hk]; exact h.2.1 k hk, h.2.2⟩
theorem two_at {w : World} {b : Nat} {x y u v : Value} (h0 : w.cell? ⟨b, 0, none⟩ = some u) (h1 : w.cell? ⟨b, 1, none⟩ = some v) : ((w.setCell ⟨b, 0, none⟩ x).setCell ⟨b, 1, none⟩ y).cell? ⟨b, 0, none⟩ = some x ∧ ((w.setCell ⟨b, 0, none⟩ x).setCell ⟨b, 1, none⟩ y).cell? ⟨b, 1, none⟩ = some y := by
  constructor
  · rw [set_far _ _ _ _ _ (by omega)]; exact set_here _ _ _ _ _ h0
  · exact set_here _ _ _ _ v ((set_far _ _ _ _ _ (by omega)).trans h1)
/-- What stands when the new slice and the new graph are there, in either order. -/
structure T0 (w w0 : World) : Prop where
  z : w0.heap.size = w.heap.size + 2
  b : Below w.heap.size w w0
  r0 : w0.cell? ⟨w.heap.size + 1, 0, none⟩ = some (.int .i64 0)
  r1 : w0.cell? ⟨w.heap.size + 1, 1, none⟩ = some (.slice none 0 0)
  rz : ∀ o, w0.frozen? ⟨w.heap.size + 1, o, none⟩ = false
theorem ts_a {w w0 : World} {m : Nat} {n : Int} (h : T0 w w0) {sb tb : Nat} (hs : sb = w.heap.size + 2) (ht : tb = w.heap.size + 3) : TS w ((w0.alloc (.cells (madeCells #[.int .i64 0, .int .i64 0] (m * 2)) 51)).alloc (.cells #[.int .i64 n, .slice (some ⟨sb, 0, none⟩) m m] 24)).drew sb tb m n (fun _ => (0, 0)) := by
  have z := h.z
  have e0 := eat_made w0 m
  obtain rfl : sb = w0.heap.size := by omega
  obtain ⟨w1, hw1⟩ : ∃ w1, w1 = w0.alloc (.cells (madeCells #[.int .i64 0, .int .i64 0] (m * 2)) 51) := ⟨_, rfl⟩
  have z1 : w1.heap.size = w0.heap.size + 1 := by rw [hw1, al_size]
  have b1 : Below w0.heap.size w0 w1 := by rw [hw1]; exact (Below.refl _ _).alloc (Nat.le_refl _) _
  rw [← hw1] at e0 ⊢
  obtain rfl : tb = w1.heap.size := by omega
  have b2 : ∀ o, Below w1.heap.size w1 (w1.alloc o).drew := fun o => ((Below.refl _ _).alloc (Nat.le_refl _) _).drew
  have b12 : ∀ o, Below w0.heap.size w0 (w1.alloc o).drew := fun o => b1.trans ((b2 o).mono (by omega))
  refine ⟨e0.below (b2 _), ?_, ?_, ((b12 _).cell (p := ⟨w.heap.size + 1, 0, none⟩) (by show w.heap.size + 1 < _; omega)).trans h.r0, ((b12 _).cell (p := ⟨w.heap.size + 1, 1, none⟩) (by show w.heap.size + 1 < _; omega)).trans h.r1,
    fun o => (frozen_block (a := ⟨w.heap.size + 1, o, none⟩) ((b12 _).block (w.heap.size + 1) (by omega))).trans (h.rz o), h.b.trans ((b12 _).mono (by omega)), ?_, by omega, by omega, by omega, ?_⟩
  · exact (congrArg (fun f => f 0) (funext fun o => cell_new w1 _ _ o)).trans rfl
  · exact (congrArg (fun f => f 1) (funext fun o => cell_new w1 _ _ o)).trans rfl
  · exact Nat.lt_of_lt_of_le (by omega) (b12 _).size
  · show w1.heap.size < (w1.alloc _).heap.size; rw [al_size]; omega
theorem ts_b {w w0 : World} {m : Nat} {n : Int} (h : T0 w w0) {sb tb : Nat} (hs : sb = w.heap.size + 3) (ht : tb = w.heap.size + 2) : TS w ((w0.alloc (.cells #[.int .i64 n, .slice (some ⟨sb, 0, none⟩) m m] 24)).alloc (.cells (madeCells #[.int .i64 0, .int .i64 0] (m * 2)) 51)).drew sb tb m n (fun _ => (0, 0)) := by
  have z := h.z
  obtain rfl : tb = w0.heap.size := by omega
  obtain ⟨w1, hw1⟩ : ∃ w1, w1 = w0.alloc (.cells #[.int .i64 n, .slice (some ⟨sb, 0, none⟩) m m] 24) := ⟨_, rfl⟩
  have z1 : w1.heap.size = w0.heap.size + 1 := by rw [hw1, al_size]
  have b1 : Below w0.heap.size w0 w1 := by rw [hw1]; exact (Below.refl _ _).alloc (Nat.le_refl _) _
  have t0 : w1.cell? ⟨w0.heap.size, 0, none⟩ = some (.int .i64 n) := by rw [hw1, cell_new]; rfl
  have t1 : w1.cell? ⟨w0.heap.size, 1, none⟩ = some (.slice (some ⟨sb, 0, none⟩) m m) := by rw [hw1, cell_new]; rfl
  rw [← hw1]
  obtain rfl : sb = w1.heap.size := by omega
  have e0 := eat_made w1 m
  have b2 : ∀ o, Below w1.heap.size w1 (w1.alloc o).drew := fun o => ((Below.refl _ _).alloc (Nat.le_refl _) _).drew
  have b12 : ∀ o, Below w0.heap.size w0 (w1.alloc o).drew := fun o => b1.trans ((b2 o).mono (by omega))
  refine ⟨e0, ((b2 _).cell (p := ⟨w0.heap.size, 0, none⟩) (by show w0.heap.size < _; omega)).trans t0, ((b2 _).cell (p := ⟨w0.heap.size, 1, none⟩) (by show w0.heap.size < _; omega)).trans t1, ((b12 _).cell (p := ⟨w.heap.size + 1, 0, none⟩) (by show w.heap.size + 1 < _; omega)).trans h.r0, ((b12 _).cell (p := ⟨w.heap.size + 1, 1, none⟩) (by show w.heap.size + 1 < _; omega)).trans h.r1,
    fun o => (frozen_block (a := ⟨w.heap.size + 1, o, none⟩) ((b12 _).block (w.heap.size + 1) (by omega))).trans (h.rz o), h.b.trans ((b12 _).mono (by omega)), ?_, by omega, by omega, by omega, ?_⟩
  · exact Nat.lt_of_lt_of_le (by omega) (b12 _).size
  · show w0.heap.size < (w1.alloc _).heap.size; rw [al_size]; omega
set_option maxHeartbeats 2000000 in
set_option maxRecDepth 100000 in
theorem turned_c (g : XG) (E : Option Addr) (d : Nat) (w : World) (h : GAt w E g) (hl : g.es.length ≤ 16384) :
    Calls Try.prog 55 #[g.val E d] w fun e w' => ∃ b, e = .returned (.agg #[.int .i64 g.n, .slice (some ⟨b, 0, none⟩) g.es.length g.es.length]) ∧ w.heap.size ≤ b ∧ EAtF w' b g.es.length (fun k => swp (g.es[k]?.getD (0, 0))) ∧ Below w.heap.size w w' := by
  have hv : g.val E d = .agg #[.int .i64 g.n, .slice E g.es.length d] := rfl
  rw [hv]
  obtain ⟨i0, hi, hzz⟩ := Option.map_eq_some_iff.1 info_edge
  simp only [Prod.mk.injEq] at hzz
  obtain ⟨m, hm⟩ : ∃ m, m = g.es.length := ⟨_, rfl⟩
  have hmk : ∀ W : World, (Instr.makeSlice 22 (.int .i64 (m : Int)) (.int .i64 (m : Int))).run Try.prog W = .ok (.slice (some ⟨W.heap.size, 0, none⟩) m m) (W.alloc (.cells (madeCells #[.int .i64 0, .int .i64 0] (m * 2)) 51)) := fun W => by
    have := run_make W 22 51 i0 _ Try.underlying22 hi hzz.1 .i64 .i64 m m (by omega) (Int.le_refl _) (by rw [hzz.2.2]; omega) (by omega)
    simp only [Int.toNat_natCast, hzz.2.1] at this
    exact this
  have HG := Lib.hid h
  have HM := Lib.hid hm
  rw [← hm]
  clear hi hzz hv h hm
  go_enter Try.func55, Try.ntmps55
  go_wp2
  obtain ⟨w0, hw0⟩ : ∃ w0, w0 = (w.alloc (.cells #[.int .i64 g.n, .slice E m d] 24)).alloc (.cells #[.int .i64 0, .slice none 0 0] 24) := ⟨_, rfl⟩
  have z0 : w0.heap.size = w.heap.size + 2 := by rw [hw0, al_size, al_size]
  have c0 : w0.cell? ⟨w.heap.size, 0, none⟩ = some (.int .i64 g.n) := by rw [hw0]; exact (World.cell?_alloc_lt _ _ _ (by show w.heap.size < _; rw [al_size]; omega)).trans (by rw [cell_new]; rfl)
  have c1 : w0.cell? ⟨w.heap.size, 1, none⟩ = some (.slice E m d) := by rw [hw0]; exact (World.cell?_alloc_lt _ _ _ (by show w.heap.size < _; rw [al_size]; omega)).trans (by rw [cell_new]; rfl)
  have r01 : (w0.cell? ⟨w.heap.size + 1, 0, none⟩ = some (.int .i64 0) ∧ w0.cell? ⟨w.heap.size + 1, 1, none⟩ = some (.slice none 0 0)) ∧ ∀ o, w0.frozen? ⟨w.heap.size + 1, o, none⟩ = false := by
    have hs1 : w.heap.size + 1 = (w.alloc (.cells #[.int .i64 g.n, .slice E m d] 24)).heap.size := by rw [al_size]
    rw [hw0, hs1]
    exact ⟨⟨by rw [cell_new]; rfl, by rw [cell_new]; rfl⟩, fun o => frozen_new _ _ _ _⟩
  have hb0 : Below w.heap.size w w0 := by rw [hw0]; exact ((Below.refl _ _).alloc (Nat.le_refl _) _).alloc (by rw [al_size]; omega) _
  rw [← hw0]
  have HC0 := Lib.hid c0
  have HC1 := Lib.hid c1
  have HT0 := Lib.hid (⟨z0, hb0, r01.1.1, r01.1.2, r01.2⟩ : T0 w w0)
  clear hw0 r01 hb0
  refine wp_region_held_drew (S := (fun w' => (Below w0.heap.size w0 w' ∧ w0.heap.size ≤ w'.heap.size) ∧ w'.cell? ⟨w.heap.size, 0, none⟩ = some (.int .i64 g.n) ∧ w'.cell? ⟨w.heap.size, 1, none⟩ = some (.slice E m d))) (by kernel_rfl) ?xs (fun hHeld => ?xr)
  case xs => exact ⟨⟨(Below.refl _ _).drew, Nat.le_refl _⟩, HC0.out, HC1.out⟩
  refine take_at (i := 0) (d := 6) (v := ?xv0) rfl (by rfl) (by kernel_rfl) (by kernel_rfl) (by kernel_rfl) (fun _ _ _ h => h) (Or.inl ⟨by rfl, ?xy0⟩) (by assumption) ?xr0
  case xy0 => intro w' hSw; obtain ⟨_, q1, q2⟩ := hSw; go_simp; (try with_reducible rfl)
  case' xr0 => simp only [Act.put, List.setIfInBounds_toArray, List.set_cons_zero, List.set_cons_succ]
  refine take_at (i := 1) (d := 7) (v := ?xv1) rfl (by rfl) (by kernel_rfl) (by kernel_rfl) (by kernel_rfl) (fun _ _ _ h => h) (Or.inl ⟨by rfl, ?xy1⟩) (by assumption) ?xr1
  case xy1 => intro w' hSw; obtain ⟨_, q1, q2⟩ := hSw; go_simp; (try with_reducible rfl)
  case' xr1 => simp only [Act.put, List.setIfInBounds_toArray, List.set_cons_zero, List.set_cons_succ]
  refine take_at (i := 2) (d := 8) (v := ?xv2) rfl (by rfl) (by kernel_rfl) (by kernel_rfl) (by kernel_rfl) (fun _ _ _ h => h) (Or.inl ⟨by rfl, ?xy2⟩) (by assumption) ?xr2
  case xy2 => intro w' hSw; obtain ⟨_, q1, q2⟩ := hSw; go_simp; (try with_reducible rfl)
  case' xr2 => simp only [Act.put, List.setIfInBounds_toArray, List.set_cons_zero, List.set_cons_succ]
  refine take_at (i := 3) (d := 9) (v := ?xv3) rfl (by rfl) (by kernel_rfl) (by kernel_rfl) (by kernel_rfl) (fun _ _ _ h => h) (Or.inl ⟨by rfl, ?xy3⟩) (by assumption) ?xr3
  case xy3 => intro w' hSw; obtain ⟨_, q1, q2⟩ := hSw; go_simp; (try with_reducible rfl)
  case' xr3 => simp only [Act.put, List.setIfInBounds_toArray, List.set_cons_zero, List.set_cons_succ]
  refine take_at (i := 4) (d := 10) (v := ?xv4) rfl (by rfl) (by kernel_rfl) (by kernel_rfl) (by kernel_rfl) (fun _ _ _ h => h) (Or.inl ⟨by rfl, ?xy4⟩) (by assumption) ?xr4
  case xy4 => intro w' hSw; obtain ⟨_, q1, q2⟩ := hSw; go_simp; (try with_reducible rfl)
  case' xr4 => simp only [Act.put, List.setIfInBounds_toArray, List.set_cons_zero, List.set_cons_succ]
  refine wpAnyH_ready (rs := [5, 7]) (by kernel_rfl) (by simp) ?xc
  refine AllReadyH.cons rfl (fun K hK => ?mA) (AllReadyH.cons rfl (fun K hK => ?mB) AllReadyH.nil)
  case' mA =>
    go_simp
    skip
    refine hK.out _ _ ?hA5 (fun hHeld => ?rA5)
    case hA5 => exact hk2 hHeld ((Below.refl _ _).alloc (Nat.le_refl _) _)
    case' rA5 => (clear hK K; try simp only [Act.put, List.setIfInBounds_toArray, List.set_cons_zero, List.set_cons_succ])
    refine take_at (i := 6) (d := 12) (v := ?vA6) rfl (by rfl) (by kernel_rfl) (by kernel_rfl) (by kernel_rfl) (fun _ _ _ h => h) (Or.inl ⟨by rfl, ?yA6⟩) (by assumption) ?rA6
    case yA6 => intro w' hSw; obtain ⟨_, q1, q2⟩ := hSw; go_simp; (try with_reducible rfl)
    case' rA6 => simp only [Act.put, List.setIfInBounds_toArray, List.set_cons_zero, List.set_cons_succ]
    refine wpAnyH_ready (rs := [7]) (by kernel_rfl) (by simp) ?cA7
    refine AllReadyH.cons rfl (fun K hK => ?bA7) AllReadyH.nil
    go_simp
    skip
    refine hK.out _ _ ?hA7 (fun hHeld => ?rA7)
    case hA7 => exact hk2 hHeld ((Below.refl _ _).alloc (Nat.le_refl _) _)
    case' rA7 => (clear hK K; try simp only [Act.put, List.setIfInBounds_toArray, List.set_cons_zero, List.set_cons_succ])
    refine wpAnyH_ready (rs := [8]) (by kernel_rfl) (by simp) ?cA8
    refine AllReadyH.cons rfl (fun K hK => ?bA8) AllReadyH.nil
    go_simp
    skip
    refine hK.out _ _ ?hA8 (fun hHeld => ?rA8)
    case hA8 => exact hk2 (w := w0) ⟨⟨Below.refl _ _, Nat.le_refl _⟩, HC0.out, HC1.out⟩ ((((Below.refl _ _).alloc (Nat.le_refl _) _).alloc (by rw [al_size]; omega) _).drew)
    case' rA8 => (clear hK K; try simp only [Act.put, List.setIfInBounds_toArray, List.set_cons_zero, List.set_cons_succ])
    refine wpAnyH_done (by kernel_rfl) ?zA _
    have HTS := fun sb tb hs ht => ts_a (m := m) (n := g.n) HT0.out (sb := sb) (tb := tb) hs ht
    obtain ⟨tb, htb⟩ : ∃ tb, tb = w.heap.size + 2 + 1 := ⟨_, rfl⟩
    obtain ⟨sb, hsb⟩ : ∃ sb, sb = w.heap.size + 2 := ⟨_, rfl⟩
    rw [← htb, ← hsb]
    have hts := HTS sb tb (by omega) (by omega)
    have hc1 := ‹_ ∧ _ ∧ _›.2.2
    rw [← hsb] at hc1
    generalize hW : World.drew _ = W at hts hc1 ⊢
    clear hW HTS
  case' mB =>
    go_simp
    skip
    refine hK.out _ _ ?hB7 (fun hHeld => ?rB7)
    case hB7 => exact hk2 hHeld ((Below.refl _ _).alloc (Nat.le_refl _) _)
    case' rB7 => (clear hK K; try simp only [Act.put, List.setIfInBounds_toArray, List.set_cons_zero, List.set_cons_succ])
    refine wpAnyH_ready (rs := [5]) (by kernel_rfl) (by simp) ?cB5
    refine AllReadyH.cons rfl (fun K hK => ?bB5) AllReadyH.nil
    go_simp
    skip
    refine hK.out _ _ ?hB5 (fun hHeld => ?rB5)
    case hB5 => exact hk2 hHeld ((Below.refl _ _).alloc (Nat.le_refl _) _)
    case' rB5 => (clear hK K; try simp only [Act.put, List.setIfInBounds_toArray, List.set_cons_zero, List.set_cons_succ])
    refine take_at (i := 6) (d := 12) (v := ?vB6) rfl (by rfl) (by kernel_rfl) (by kernel_rfl) (by kernel_rfl) (fun _ _ _ h => h) (Or.inl ⟨by rfl, ?yB6⟩) (by assumption) ?rB6
    case yB6 => intro w' hSw; obtain ⟨_, q1, q2⟩ := hSw; go_simp; (try with_reducible rfl)
    case' rB6 => simp only [Act.put, List.setIfInBounds_toArray, List.set_cons_zero, List.set_cons_succ]
    refine wpAnyH_ready (rs := [8]) (by kernel_rfl) (by simp) ?cB8
    refine AllReadyH.cons rfl (fun K hK => ?bB8) AllReadyH.nil
    go_simp
    skip
    refine hK.out _ _ ?hB8 (fun hHeld => ?rB8)
    case hB8 => exact hk2 (w := w0) ⟨⟨Below.refl _ _, Nat.le_refl _⟩, HC0.out, HC1.out⟩ ((((Below.refl _ _).alloc (Nat.le_refl _) _).alloc (by rw [al_size]; omega) _).drew)
    case' rB8 => (clear hK K; try simp only [Act.put, List.setIfInBounds_toArray, List.set_cons_zero, List.set_cons_succ])
    refine wpAnyH_done (by kernel_rfl) ?zB _
    have HTS := fun sb tb hs ht => ts_b (m := m) (n := g.n) HT0.out (sb := sb) (tb := tb) hs ht
    obtain ⟨sb, hsb⟩ : ∃ sb, sb = w.heap.size + 2 + 1 := ⟨_, rfl⟩
    obtain ⟨tb, htb⟩ : ∃ tb, tb = w.heap.size + 2 := ⟨_, rfl⟩
    rw [← hsb, ← htb]
    have hts := HTS sb tb (by omega) (by omega)
    have hc1 := ‹_ ∧ _ ∧ _›.2.2
    rw [← hsb] at hc1
    generalize hW : World.drew _ = W at hts hc1 ⊢
    clear hW HTS
  all_goals
    have HTS := Lib.hid hts
    clear hts htb hsb
    go_wp2
    go_loopw [16] (fun i wr => ∃ (j : Nat) (ls : Nat → Int × Int), i = .int .i64 j ∧ j ≤ m ∧ TS w wr sb tb m g.n ls ∧ ∀ k, k < j → ls k = swp (g.es[k]?.getD (0, 0))) (fun i _ => m - (intOf i).toNat)
    case atStart => exact ⟨0, _, rfl, by omega, HTS.out, by omega⟩
    case round =>
      obtain ⟨j, ls, rfl, hj, hts, hls⟩ := hrel
      by_cases hlt : j < m
      · have hj0 : (0 : Int) ≤ (j : Int) := by omega
        have hj1 : (j : Int) < (m : Int) := by omega
        have hjl : j < g.es.length := by have := HM.out; omega
        obtain ⟨b, off, rfl, hbl, ha, hb⟩ := (HG.out.below hts.bel).edge hjl
        have hge : g.es[j]?.getD (0, 0) = g.es[j] := by rw [List.getElem?_eq_getElem hjl]; rfl
        obtain ⟨x, hx⟩ : ∃ x, x = g.es[j].1 := ⟨_, rfl⟩
        obtain ⟨y, hy⟩ : ∃ y, y = g.es[j].2 := ⟨_, rfl⟩
        have hsw : swp (g.es[j]?.getD (0, 0)) = (y, x) := by rw [hge, hx, hy]; rfl
        rw [← hx] at ha
        rw [← hy] at hb
        have t1 := hts.t1
        obtain ⟨e0, e1⟩ := hts.e.2.1 j hlt
        have z0 := hts.e.2.2 (j * 2)
        have z1 := hts.e.2.2 (j * 2 + 1)
        have sl := hts.e.1
        have tl := hts.tl
        have HTSR := Lib.hid hts
        have HLS := Lib.hid hls
        have HSW := Lib.hid hsw
        clear hts hls hsw hx hy hge
        go_wp2
        go_roundw
        case rel =>
          refine ⟨j + 1, _, by go_num, by omega, (HTSR.out.set hlt y x).below ((Below.refl _ _).alloc (Nat.le_refl _) _), fun k hk => ?_⟩
          by_cases e : k = j
          · subst e; rw [upd_same]; exact HSW.out.symm
          · rw [upd_far _ _ e]; exact HLS.out k (by omega)
        case measure => simp [intOf]; omega
      · have hge : ¬ (j : Int) < (m : Int) := by omega
        have t0 := hts.t0
        have t1 := hts.t1
        have r0 := hts.r0
        have r1 := hts.r1
        have rz := hts.rz 0
        have rz1 := hts.rz 1
        have HTSR := Lib.hid hts
        have HLS := Lib.hid hls
        clear hts hls
        go_wp2
        obtain ⟨c0, c1⟩ := two_at (x := .int .i64 g.n) (y := .slice (some ⟨sb, 0, none⟩) m m) r0 r1
        refine bodyPost_ret (v := .agg #[.int .i64 g.n, .slice (some ⟨sb, 0, none⟩) m m]) (by simp [results, Try.results55, go_sem, c0, c1]; try rfl) rfl ?_
        have hs := HTSR.out.hs
        exact ⟨sb, rfl, by omega, ((HTSR.out.e.far (by omega) _).far (by omega) _).congr (fun k hk => HLS.out k (by omega)), (HTSR.out.bel.setCell (by show w.heap.size ≤ w.heap.size + 1; omega) _).setCell (by show w.heap.size ≤ w.heap.size + 1; omega) _⟩

end Go.Proofs.Ytpdfcffeinbcaaa
