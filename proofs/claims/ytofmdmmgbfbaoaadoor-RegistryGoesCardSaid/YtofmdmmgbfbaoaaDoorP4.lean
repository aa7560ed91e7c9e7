/- The registry's Get: an expression of the caller's own; a number that is not there. -/
import Derived.Test.YtofmdmmgbfbaoaaDoorP3
namespace Go.Proofs.YtofmdmmgbfbaoaaDoor
open Go.RowKit Go.Maps Go.ChangeMaps Go.WideShapes

theorem below_setCells {B : Nat} {w w' : World} (h : Below B w w') (b : Nat) (hb : B ≤ b) (vs : List Value) : ∀ (o : Nat), Below B w (w'.setCells b o vs) := by
  induction vs generalizing w' with
  | nil => intro o; exact h
  | cons v vs ih => intro o; exact ih (h.setCell (p := ⟨b, o, none⟩) hb v) (o + 1)
theorem own_setCells {base : Nat} {e : TypeId} {size n : Nat} {v : Value} {xs : List Value} (b : Nat) (hb : b < base) (vs : List Value) : ∀ (o : Nat) {w : World}, w.ownsRow base e size v n xs → (w.setCells b o vs).ownsRow base e size v n xs := by
  induction vs with
  | nil => intro o w h; exact h
  | cons u vs ih => intro o w h; exact ih (o + 1) (own_low h ⟨b, o, none⟩ u hb)
theorem size_setCells (b : Nat) (vs : List Value) : ∀ (o : Nat) (w : World), (w.setCells b o vs).heap.size = w.heap.size := by
  induction vs with
  | nil => intro o w; rfl
  | cons u vs ih => intro o w; show ((w.setCell ⟨b, o, none⟩ u).setCells b (o + 1) vs).heap.size = _; rw [ih]; simp [World.setCell]
theorem cell_setCells0 {w : World} {b : Nat} {vs : List Value} (h : ∀ j, j < vs.length → (w.cell? ⟨b, j, none⟩).isSome = true) (j : Nat) (hj : j < vs.length) : (w.setCells b 0 vs).cell? ⟨b, j, none⟩ = some vs[j] := by
  have := World.cell?_setCells_in b vs 0 w (fun j hj => by rw [Nat.zero_add]; exact h j hj) j hj
  rw [Nat.zero_add] at this
  exact this
theorem nine_some {w : World} {b : Nat} {v0 v1 v2 v3 v4 v5 v6 v7 v8 : Value} (h0 : w.cell? ⟨b, 0, none⟩ = some v0) (h1 : w.cell? ⟨b, 1, none⟩ = some v1) (h2 : w.cell? ⟨b, 2, none⟩ = some v2) (h3 : w.cell? ⟨b, 3, none⟩ = some v3) (h4 : w.cell? ⟨b, 4, none⟩ = some v4) (h5 : w.cell? ⟨b, 5, none⟩ = some v5) (h6 : w.cell? ⟨b, 6, none⟩ = some v6) (h7 : w.cell? ⟨b, 7, none⟩ = some v7) (h8 : w.cell? ⟨b, 8, none⟩ = some v8) : ∀ j, j < 9 → (w.cell? ⟨b, j, none⟩).isSome = true := by
  intro j hj
  match j, hj with
  | 0, _ => rw [h0]; rfl
  | 1, _ => rw [h1]; rfl
  | 2, _ => rw [h2]; rfl
  | 3, _ => rw [h3]; rfl
  | 4, _ => rw [h4]; rfl
  | 5, _ => rw [h5]; rfl
  | 6, _ => rw [h6]; rfl
  | 7, _ => rw [h7]; rfl
  | 8, _ => rw [h8]; rfl
/-- What Get leaves: an expression of the caller's own. -/
def GetOwn (p : XProv) (w : World) (e : Ending) (w' : World) : Prop := ∃ A' c', e = .returned (.tuple #[p.val A' c', .int .i64 0]) ∧ w'.ownsRow w.heap.size 58 4 (.slice A' p.expr.length c') p.expr.length (opCells p.expr) ∧ Below w.heap.size w w'
set_option maxHeartbeats 4000000 in
set_option maxRecDepth 100000 in
theorem get_own (w : World) (base rb mb : Nat) (v : Value) (rs : List PRow) {fz : Bool} (h : RegF w base rb mb v rs fz) (k : Nat) (hk : k < rs.length) :
    Calls Tryd.prog 13 #[.pointer (some ⟨rb, 0, none⟩), .int .i64 (k : Int)] w (GetOwn rs[k].p w) := by
  obtain ⟨V, c, hv, hps⟩ := h.row
  subst hv
  have hal : ∀ o, Below w.heap.size w (w.alloc o) := fun o => (Below.refl _ _).alloc (Nat.le_refl _) o
  have q0 := fun o => (h.below (hal o)).c0
  rcases hps.lies with h1 | ⟨b, off, rfl, hb, hc⟩
  · rw [h1] at hk; simp at hk
  obtain ⟨g0, g1, g2, g3, g4, g5, g6, g7, g8⟩ := hc k hk
  have hpk := hps.each rs[k] (List.getElem_mem hk)
  have hi0 : (0 : Int) ≤ (k : Int) := Int.natCast_nonneg _
  have hi1 : (k : Int) < (rs.length : Int) := by omega
  generalize rs[k] = r at *
  obtain ⟨⟨n, es, ag, p1, p2, p3, p4, ck, ct⟩, A, ca⟩ := r
  have hcc := fun W h1 => copied_own ⟨n, es, ag, p1, p2, p3, p4, ck, ct⟩ A ca W h1 hpk.len
  have hops := hpk.ops
  have HAL := Lib.hid hal
  have HCC := Lib.hid hcc
  clear hal hcc hpk hc hps h
  simp only [XProv.val] at *
  go_enter Tryd.func13, Tryd.ntmps13
  go_wp2_with (go_at_call 22; refine (HCC.out _ (hops.below (HAL.out _))).mono ?_; rintro e w1 ⟨A1, c1, rfl, hown1, hb1⟩; simp only [XProv.val] at hown1 ⊢; have bw1 : Below w.heap.size w w1 := (HAL.out _).trans (hb1.mono (HAL.out _).size); have r0 : w1.cell? ⟨w.heap.size, 0, none⟩ = some (.string ⟨#[]⟩) := (hb1.cell (p := ⟨w.heap.size, 0, none⟩) (by simp)).trans (by simp); have r1 : w1.cell? ⟨w.heap.size, 1, none⟩ = some (.slice none 0 0) := (hb1.cell (p := ⟨w.heap.size, 1, none⟩) (by simp)).trans (by simp); have r2 : w1.cell? ⟨w.heap.size, 2, none⟩ = some (.bool false) := (hb1.cell (p := ⟨w.heap.size, 2, none⟩) (by simp)).trans (by simp); have r3 : w1.cell? ⟨w.heap.size, 3, none⟩ = some (.int .i64 0) := (hb1.cell (p := ⟨w.heap.size, 3, none⟩) (by simp)).trans (by simp); have r4 : w1.cell? ⟨w.heap.size, 4, none⟩ = some (.int .i64 0) := (hb1.cell (p := ⟨w.heap.size, 4, none⟩) (by simp)).trans (by simp); have r5 : w1.cell? ⟨w.heap.size, 5, none⟩ = some (.int .i64 0) := (hb1.cell (p := ⟨w.heap.size, 5, none⟩) (by simp)).trans (by simp); have r6 : w1.cell? ⟨w.heap.size, 6, none⟩ = some (.int .i64 0) := (hb1.cell (p := ⟨w.heap.size, 6, none⟩) (by simp)).trans (by simp); have r7 : w1.cell? ⟨w.heap.size, 7, none⟩ = some (.int .i64 0) := (hb1.cell (p := ⟨w.heap.size, 7, none⟩) (by simp)).trans (by simp); have r8 : w1.cell? ⟨w.heap.size, 8, none⟩ = some (.string ⟨#[]⟩) := (hb1.cell (p := ⟨w.heap.size, 8, none⟩) (by simp)).trans (by simp); have x0 : w1.frozen? ⟨w.heap.size, 0, none⟩ = false := (hb1.frozen (p := ⟨w.heap.size, 0, none⟩) (by simp)).trans (by simp); have x1 : w1.frozen? ⟨w.heap.size, 1, none⟩ = false := (hb1.frozen (p := ⟨w.heap.size, 1, none⟩) (by simp)).trans (by simp); have x2 : w1.frozen? ⟨w.heap.size, 2, none⟩ = false := (hb1.frozen (p := ⟨w.heap.size, 2, none⟩) (by simp)).trans (by simp); have x3 : w1.frozen? ⟨w.heap.size, 3, none⟩ = false := (hb1.frozen (p := ⟨w.heap.size, 3, none⟩) (by simp)).trans (by simp); have x4 : w1.frozen? ⟨w.heap.size, 4, none⟩ = false := (hb1.frozen (p := ⟨w.heap.size, 4, none⟩) (by simp)).trans (by simp); have x5 : w1.frozen? ⟨w.heap.size, 5, none⟩ = false := (hb1.frozen (p := ⟨w.heap.size, 5, none⟩) (by simp)).trans (by simp); have x6 : w1.frozen? ⟨w.heap.size, 6, none⟩ = false := (hb1.frozen (p := ⟨w.heap.size, 6, none⟩) (by simp)).trans (by simp); have x7 : w1.frozen? ⟨w.heap.size, 7, none⟩ = false := (hb1.frozen (p := ⟨w.heap.size, 7, none⟩) (by simp)).trans (by simp); have x8 : w1.frozen? ⟨w.heap.size, 8, none⟩ = false := (hb1.frozen (p := ⟨w.heap.size, 8, none⟩) (by simp)).trans (by simp); clear hb1)
  obtain ⟨wf, hwf⟩ : ∃ wf : World, wf = w1.setCells w.heap.size 0 [.string n, .slice A1 es.length c1, .bool ag, .int .i64 p1, .int .i64 p2, .int .i64 p3, .int .i64 p4, .int .i64 ck, .string ct] := ⟨_, rfl⟩
  refine (?_ : bodyPost _ _ _ _ _ (w1.setCells w.heap.size 0 [.string n, .slice A1 es.length c1, .bool ag, .int .i64 p1, .int .i64 p2, .int .i64 p3, .int .i64 p4, .int .i64 ck, .string ct]))
  rw [← hwf]
  have hin : ∀ j (hj : j < 9), wf.cell? ⟨w.heap.size, j, none⟩ = some ([.string n, .slice A1 es.length c1, .bool ag, .int .i64 p1, .int .i64 p2, .int .i64 p3, .int .i64 p4, .int .i64 ck, .string ct][j]'hj) := by
    intro j hj
    rw [hwf]
    exact cell_setCells0 (fun j hj => nine_some r0 r1 r2 r3 r4 r5 r6 r7 r8 j (by simpa using hj)) j (by simpa using hj)
  have f0 : wf.cell? ⟨w.heap.size, 0, none⟩ = some (.string n) := hin 0 (by simp)
  have f1 : wf.cell? ⟨w.heap.size, 1, none⟩ = some (.slice A1 es.length c1) := hin 1 (by simp)
  have f2 : wf.cell? ⟨w.heap.size, 2, none⟩ = some (.bool ag) := hin 2 (by simp)
  have f3 : wf.cell? ⟨w.heap.size, 3, none⟩ = some (.int .i64 p1) := hin 3 (by simp)
  have f4 : wf.cell? ⟨w.heap.size, 4, none⟩ = some (.int .i64 p2) := hin 4 (by simp)
  have f5 : wf.cell? ⟨w.heap.size, 5, none⟩ = some (.int .i64 p3) := hin 5 (by simp)
  have f6 : wf.cell? ⟨w.heap.size, 6, none⟩ = some (.int .i64 p4) := hin 6 (by simp)
  have f7 : wf.cell? ⟨w.heap.size, 7, none⟩ = some (.int .i64 ck) := hin 7 (by simp)
  have f8 : wf.cell? ⟨w.heap.size, 8, none⟩ = some (.string ct) := hin 8 (by simp)
  have hfo : wf.ownsRow w.heap.size 58 4 (.slice A1 es.length c1) es.length (opCells es) := by
    rw [hwf]
    rw [al_size] at hown1
    exact (own_setCells w.heap.size (by omega) _ 0 hown1).mono (by omega)
  have hbel : Below w.heap.size w wf := by
    rw [hwf]
    exact below_setCells bw1 _ (Nat.le_refl _) _ 0
  clear hwf
  refine bodyPost_ret (v := .tuple #[.agg #[.string n, .slice A1 es.length c1, .bool ag, .int .i64 p1, .int .i64 p2, .int .i64 p3, .int .i64 p4, .int .i64 ck, .string ct], .int .i64 0]) (by simp [results, Tryd.results13, go_sem, f0, f1, f2, f3, f4, f5, f6, f7, f8]; try rfl) rfl ?_
  exact ⟨A1, c1, rfl, hfo, hbel⟩
/-- No provider. -/
def zProv : XProv := ⟨⟨#[]⟩, [], false, 0, 0, 0, 0, 0, ⟨#[]⟩⟩
set_option maxHeartbeats 4000000 in
set_option maxRecDepth 100000 in
theorem get_out (w : World) (base rb mb : Nat) (v : Value) (rs : List PRow) {fz : Bool} (h : RegF w base rb mb v rs fz) (k : Int) (hk : k < 0 ∨ (rs.length : Int) ≤ k) :
    Calls Tryd.prog 13 #[.pointer (some ⟨rb, 0, none⟩), .int .i64 k] w fun e w' => e = .returned (.tuple #[zProv.val none 0, .int .i64 1]) ∧ Below w.heap.size w w' := by
  obtain ⟨V, c, hv, _⟩ := h.row
  subst hv
  have hal : ∀ o, Below w.heap.size w (w.alloc o) := fun o => (Below.refl _ _).alloc (Nat.le_refl _) o
  have q0 := fun o => (h.below (hal o)).c0
  have HAL := Lib.hid hal
  clear hal h
  go_enter Tryd.func13, Tryd.ntmps13
  go_wp2
  all_goals
    refine bodyPost_ret (v := .tuple #[.agg #[.string ⟨#[]⟩, .slice none 0 0, .bool false, .int .i64 0, .int .i64 0, .int .i64 0, .int .i64 0, .int .i64 0, .string ⟨#[]⟩], .int .i64 1]) (by simp [results, Tryd.results13, go_sem]; try rfl) rfl ?_
    exact ⟨rfl, HAL.out _⟩
end Go.Proofs.YtofmdmmgbfbaoaaDoor
