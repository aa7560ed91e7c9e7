/- Copies that are one's own; spoil; among. -/
import Derived.Test.YtofmdmmgbfbaoaaDoorR8
namespace Go.Proofs.YtofmdmmgbfbaoaaDoor
open Go.RowKit Go.Maps Go.ChangeMaps Go.WideShapes

/-- A copy whose expression is of the call's own. -/
def OwnPost (p : XProv) (w : World) (e : Ending) (w' : World) : Prop := ∃ A' c', e = .returned (p.val A' c') ∧ w'.ownsRow w.heap.size 58 4 (.slice A' p.expr.length c') p.expr.length (opCells p.expr) ∧ Below w.heap.size w w'
set_option maxHeartbeats 4000000 in
set_option maxRecDepth 100000 in
theorem copyProv_own (p : XProv) (A : Option Addr) (c : Nat) (w : World) (hx : OpsAt w A p.expr) (hl : p.expr.length * 40 ≤ 140737488355328) :
    Calls Tryd.prog 9 #[p.val A c] w (OwnPost p w) := by
  obtain ⟨n, es, ag, p1, p2, p3, p4, ck, ct⟩ := p
  simp only [XProv.val] at *
  go_enter Tryd.func9, Tryd.ntmps9
  go_wp2_with (go_at_call 23; go_loud (refine (copyExpr_c es A c _ (hx.below (((Below.refl _ _).alloc (Nat.le_refl _) _).alloc (by simp) _)) hl).mono ?_; rintro e w1 ⟨v, rfl, hown, hb1⟩; obtain ⟨A1, c1, rfl, hs1, _⟩ := own_ops hown; obtain ⟨hc1, hf1⟩ := bcell hb1; have hz1 := hb1.size; have q0 : w1.cell? ⟨w.heap.size, 0, none⟩ = some (.string n) := (hc1 w.heap.size 0 (by simp <;> omega)).trans (by simp); have q1 : w1.cell? ⟨w.heap.size, 1, none⟩ = some (.slice A es.length c) := (hc1 w.heap.size 1 (by simp <;> omega)).trans (by simp); have q2 : w1.cell? ⟨w.heap.size, 2, none⟩ = some (.bool ag) := (hc1 w.heap.size 2 (by simp <;> omega)).trans (by simp); have q3 : w1.cell? ⟨w.heap.size, 3, none⟩ = some (.int .i64 p1) := (hc1 w.heap.size 3 (by simp <;> omega)).trans (by simp); have q4 : w1.cell? ⟨w.heap.size, 4, none⟩ = some (.int .i64 p2) := (hc1 w.heap.size 4 (by simp <;> omega)).trans (by simp); have q5 : w1.cell? ⟨w.heap.size, 5, none⟩ = some (.int .i64 p3) := (hc1 w.heap.size 5 (by simp <;> omega)).trans (by simp); have q6 : w1.cell? ⟨w.heap.size, 6, none⟩ = some (.int .i64 p4) := (hc1 w.heap.size 6 (by simp <;> omega)).trans (by simp); have q7 : w1.cell? ⟨w.heap.size, 7, none⟩ = some (.int .i64 ck) := (hc1 w.heap.size 7 (by simp <;> omega)).trans (by simp); have q8 : w1.cell? ⟨w.heap.size, 8, none⟩ = some (.string ct) := (hc1 w.heap.size 8 (by simp <;> omega)).trans (by simp); have r0 : w1.cell? ⟨w.heap.size + 1, 0, none⟩ = some (.string ⟨#[]⟩) := (hc1 (w.heap.size + 1) 0 (by simp <;> omega)).trans (by simp); have r1 : w1.cell? ⟨w.heap.size + 1, 1, none⟩ = some (.slice none 0 0) := (hc1 (w.heap.size + 1) 1 (by simp <;> omega)).trans (by simp); have r2 : w1.cell? ⟨w.heap.size + 1, 2, none⟩ = some (.bool false) := (hc1 (w.heap.size + 1) 2 (by simp <;> omega)).trans (by simp); have r3 : w1.cell? ⟨w.heap.size + 1, 3, none⟩ = some (.int .i64 0) := (hc1 (w.heap.size + 1) 3 (by simp <;> omega)).trans (by simp); have r4 : w1.cell? ⟨w.heap.size + 1, 4, none⟩ = some (.int .i64 0) := (hc1 (w.heap.size + 1) 4 (by simp <;> omega)).trans (by simp); have r5 : w1.cell? ⟨w.heap.size + 1, 5, none⟩ = some (.int .i64 0) := (hc1 (w.heap.size + 1) 5 (by simp <;> omega)).trans (by simp); have r6 : w1.cell? ⟨w.heap.size + 1, 6, none⟩ = some (.int .i64 0) := (hc1 (w.heap.size + 1) 6 (by simp <;> omega)).trans (by simp); have r7 : w1.cell? ⟨w.heap.size + 1, 7, none⟩ = some (.int .i64 0) := (hc1 (w.heap.size + 1) 7 (by simp <;> omega)).trans (by simp); have r8 : w1.cell? ⟨w.heap.size + 1, 8, none⟩ = some (.string ⟨#[]⟩) := (hc1 (w.heap.size + 1) 8 (by simp <;> omega)).trans (by simp); have hA : ∀ b o, A1 = some ⟨b, o, none⟩ → w.heap.size + 2 ≤ b := fun b o h => (by have h2 := (hown.lt b (by subst h; rfl)).1; simp at h2; omega); have bw1 : Below w.heap.size w w1 := (((Below.refl _ _).alloc (Nat.le_refl _) _).alloc (by simp) _).trans (hb1.mono (by simp <;> omega)); clear hc1 hb1))
  obtain ⟨wf, hwf⟩ : ∃ wf : World, wf = (w1.setCell ⟨w.heap.size, 1, none⟩ (.slice A1 es.length c1)).setCells (w.heap.size + 1) 0 [.string n, .slice A1 es.length c1, .bool ag, .int .i64 p1, .int .i64 p2, .int .i64 p3, .int .i64 p4, .int .i64 ck, .string ct] := ⟨_, rfl⟩
  refine (?_ : bodyPost _ _ _ _ _ ((w1.setCell ⟨w.heap.size, 1, none⟩ (.slice A1 es.length c1)).setCells (w.heap.size + 1) 0 [.string n, .slice A1 es.length c1, .bool ag, .int .i64 p1, .int .i64 p2, .int .i64 p3, .int .i64 p4, .int .i64 ck, .string ct]))
  rw [← hwf]
  have hbase : ∀ o u, w1.cell? ⟨w.heap.size + 1, o, none⟩ = some u → ((w1.setCell ⟨w.heap.size, 1, none⟩ (.slice A1 es.length c1)).cell? ⟨w.heap.size + 1, o, none⟩).isSome = true := fun o u h => by
    rw [World.cell?_setCell_far _ _ _ _ (by simp), h]; rfl
  have hin : ∀ j (hj : j < 9), wf.cell? ⟨w.heap.size + 1, j, none⟩ = some ([.string n, .slice A1 es.length c1, .bool ag, .int .i64 p1, .int .i64 p2, .int .i64 p3, .int .i64 p4, .int .i64 ck, .string ct][j]'hj) := by
    intro j hj
    have := World.cell?_setCells_in (w.heap.size + 1) [.string n, .slice A1 es.length c1, .bool ag, .int .i64 p1, .int .i64 p2, .int .i64 p3, .int .i64 p4, .int .i64 ck, .string ct] 0 (w1.setCell ⟨w.heap.size, 1, none⟩ (.slice A1 es.length c1)) (fun j hj => ?_) j hj
    · rw [hwf]; rw [Nat.zero_add] at this; exact this
    · rw [Nat.zero_add]
      simp only [List.length_cons, List.length_nil] at hj
      match j, hj with
      | 0, _ => exact hbase _ _ r0
      | 1, _ => exact hbase _ _ r1
      | 2, _ => exact hbase _ _ r2
      | 3, _ => exact hbase _ _ r3
      | 4, _ => exact hbase _ _ r4
      | 5, _ => exact hbase _ _ r5
      | 6, _ => exact hbase _ _ r6
      | 7, _ => exact hbase _ _ r7
      | 8, _ => exact hbase _ _ r8
  have f0 : wf.cell? ⟨w.heap.size + 1, 0, none⟩ = some (.string n) := hin 0 (by simp)
  have f1 : wf.cell? ⟨w.heap.size + 1, 1, none⟩ = some (.slice A1 es.length c1) := hin 1 (by simp)
  have f2 : wf.cell? ⟨w.heap.size + 1, 2, none⟩ = some (.bool ag) := hin 2 (by simp)
  have f3 : wf.cell? ⟨w.heap.size + 1, 3, none⟩ = some (.int .i64 p1) := hin 3 (by simp)
  have f4 : wf.cell? ⟨w.heap.size + 1, 4, none⟩ = some (.int .i64 p2) := hin 4 (by simp)
  have f5 : wf.cell? ⟨w.heap.size + 1, 5, none⟩ = some (.int .i64 p3) := hin 5 (by simp)
  have f6 : wf.cell? ⟨w.heap.size + 1, 6, none⟩ = some (.int .i64 p4) := hin 6 (by simp)
  have f7 : wf.cell? ⟨w.heap.size + 1, 7, none⟩ = some (.int .i64 ck) := hin 7 (by simp)
  have f8 : wf.cell? ⟨w.heap.size + 1, 8, none⟩ = some (.string ct) := hin 8 (by simp)
  have hops : OpsAt wf A1 es := by
    rw [hwf]
    simp only [World.setCells]
    repeat (refine ops_set ?_ _ _ (fun b o h => by have := hA b o h; simp; omega))
    exact hs1
  have hbel : Below w.heap.size w wf := by
    rw [hwf]
    simp only [World.setCells]
    repeat (refine Below.setCell ?_ (by simp) _)
    exact bw1
  have hown2 : wf.ownsRow w.heap.size 58 4 (.slice A1 es.length c1) es.length (opCells es) := by
    rw [hwf]
    simp only [World.setCells]
    refine World.ownsRow.mono (base := ((w.alloc (.cells #[] 0)).alloc (.cells #[] 0)).heap.size) ?_ (by simp; omega)
    repeat (refine own_low ?_ _ _ (by simp <;> omega))
    simpa using hown
  clear hwf
  refine bodyPost_ret (v := .agg #[.string n, .slice A1 es.length c1, .bool ag, .int .i64 p1, .int .i64 p2, .int .i64 p3, .int .i64 p4, .int .i64 ck, .string ct]) (by simp [results, Tryd.results9, go_sem, f0, f1, f2, f3, f4, f5, f6, f7, f8]; try rfl) rfl ?_
  exact ⟨A1, c1, rfl, hown2, hbel⟩
set_option maxHeartbeats 4000000 in
set_option maxRecDepth 100000 in
theorem copied_own (p : XProv) (A : Option Addr) (c : Nat) (w : World) (hx : OpsAt w A p.expr) (hl : p.expr.length * 40 ≤ 140737488355328) :
    Calls Tryd.prog 22 #[p.val A c] w (OwnPost p w) := by
  obtain ⟨n, es, ag, p1, p2, p3, p4, ck, ct⟩ := p
  simp only [XProv.val] at *
  have hmk := make_ops es.length hl
  obtain ⟨W, hW⟩ : ∃ W : World, W = (((w.alloc (.cells #[.string n, .slice A es.length c, .bool ag, .int .i64 p1, .int .i64 p2, .int .i64 p3, .int .i64 p4, .int .i64 ck, .string ct] 36)).alloc (.cells #[.string ⟨#[]⟩, .slice none 0 0, .bool false, .int .i64 0, .int .i64 0, .int .i64 0, .int .i64 0, .int .i64 0, .string ⟨#[]⟩] 36)).alloc (.cells (madeCells #[.int .i64 0, .int .i64 0, .int .i64 0, .string ⟨#[]⟩] (es.length * 4)) 58)) := ⟨_, rfl⟩
  have hgg : W.heap[w.heap.size + 1 + 1]? = some (.cells (madeCells #[.int .i64 0, .int .i64 0, .int .i64 0, .string ⟨#[]⟩] (es.length * 4)) 58) := by
    rw [hW]
    have := heap_alloc_new ((w.alloc (.cells #[.string n, .slice A es.length c, .bool ag, .int .i64 p1, .int .i64 p2, .int .i64 p3, .int .i64 p4, .int .i64 ck, .string ct] 36)).alloc (.cells #[.string ⟨#[]⟩, .slice none 0 0, .bool false, .int .i64 0, .int .i64 0, .int .i64 0, .int .i64 0, .int .i64 0, .string ⟨#[]⟩] 36)) (.cells (madeCells #[.int .i64 0, .int .i64 0, .int .i64 0, .string ⟨#[]⟩] (es.length * 4)) 58)
    rw [al_size, al_size] at this
    exact this
  have hb3 : Below w.heap.size w W := by
    rw [hW]
    exact (((Below.refl _ _).alloc (Nat.le_refl _) _).alloc (by simp) _).alloc (by rw [al_size, al_size]; omega) _
  obtain ⟨w1, hw1⟩ : ∃ w1 : World, w1 = W.setRow (w.heap.size + 1 + 1) (opCells es).toArray := ⟨_, rfl⟩
  have hcp : (Builtin.copy_ #[30, 30] 3 #[.slice (some ⟨w.heap.size + 1 + 1, 0, none⟩) es.length es.length, .slice A es.length c]).run Tryd.prog (((w.alloc (.cells #[.string n, .slice A es.length c, .bool ag, .int .i64 p1, .int .i64 p2, .int .i64 p3, .int .i64 p4, .int .i64 ck, .string ct] 36)).alloc (.cells #[.string ⟨#[]⟩, .slice none 0 0, .bool false, .int .i64 0, .int .i64 0, .int .i64 0, .int .i64 0, .int .i64 0, .string ⟨#[]⟩] 36)).alloc (.cells (madeCells #[.int .i64 0, .int .i64 0, .int .i64 0, .string ⟨#[]⟩] (es.length * 4)) 58)) = .ok (.int .i64 (es.length : Int)) w1 := by
    rw [hw1, ← hW]
    exact run_copyN (P := Tryd.prog) W 30 30 3 58 (w.heap.size + 1 + 1) es.length es.length c 4 A _ 58 (opCells es) Tryd.underlying30 (by kernel_rfl) hgg (opCells_length es) (size_madeCells _ _) (ops_src (hx.below hb3)) (opCells_one es)
  have hb1 : ∀ B, B ≤ w.heap.size + 1 + 1 → Below B W w1 := fun B hB => by rw [hw1]; exact below_setRow (Below.refl _ _) hB _
  have hs1 : OpsAt w1 (some ⟨w.heap.size + 1 + 1, 0, none⟩) es := ops_block (t := 58) (by rw [hw1]; exact setRow_heap W _ _ _ _ (0, 0) hgg)
  have hown1 : w1.ownsRow (w.heap.size + 1 + 1) 58 4 (.slice (some ⟨w.heap.size + 1 + 1, 0, none⟩) es.length es.length) es.length (opCells es) := ⟨opCells_length es, .inr ⟨_, es.length, (opCells es).toArray, rfl, Nat.le_refl _, by rw [hw1]; exact setRow_heap W _ _ _ _ (0, 0) hgg, Nat.le_refl _, by simp only [maxLen]; omega, by simp [opCells_length], by rw [List.take_of_length_le (by simp [opCells_length])]⟩⟩
  have hz1 : w.heap.size + 1 + 1 < w1.heap.size := by rw [hw1, hW]; simp [World.setRow]
  have bw1 : Below w.heap.size w w1 := hb3.trans (hb1 w.heap.size (by omega))
  have q0 : w1.cell? ⟨w.heap.size, 0, none⟩ = some (.string n) := ((hb1 (w.heap.size + 1 + 1) (Nat.le_refl _)).cell (p := ⟨w.heap.size, 0, none⟩) (show w.heap.size < w.heap.size + 1 + 1 by omega)).trans (by rw [hW]; go_simp)
  have q1 : w1.cell? ⟨w.heap.size, 1, none⟩ = some (.slice A es.length c) := ((hb1 (w.heap.size + 1 + 1) (Nat.le_refl _)).cell (p := ⟨w.heap.size, 1, none⟩) (show w.heap.size < w.heap.size + 1 + 1 by omega)).trans (by rw [hW]; go_simp)
  have q2 : w1.cell? ⟨w.heap.size, 2, none⟩ = some (.bool ag) := ((hb1 (w.heap.size + 1 + 1) (Nat.le_refl _)).cell (p := ⟨w.heap.size, 2, none⟩) (show w.heap.size < w.heap.size + 1 + 1 by omega)).trans (by rw [hW]; go_simp)
  have q3 : w1.cell? ⟨w.heap.size, 3, none⟩ = some (.int .i64 p1) := ((hb1 (w.heap.size + 1 + 1) (Nat.le_refl _)).cell (p := ⟨w.heap.size, 3, none⟩) (show w.heap.size < w.heap.size + 1 + 1 by omega)).trans (by rw [hW]; go_simp)
  have q4 : w1.cell? ⟨w.heap.size, 4, none⟩ = some (.int .i64 p2) := ((hb1 (w.heap.size + 1 + 1) (Nat.le_refl _)).cell (p := ⟨w.heap.size, 4, none⟩) (show w.heap.size < w.heap.size + 1 + 1 by omega)).trans (by rw [hW]; go_simp)
  have q5 : w1.cell? ⟨w.heap.size, 5, none⟩ = some (.int .i64 p3) := ((hb1 (w.heap.size + 1 + 1) (Nat.le_refl _)).cell (p := ⟨w.heap.size, 5, none⟩) (show w.heap.size < w.heap.size + 1 + 1 by omega)).trans (by rw [hW]; go_simp)
  have q6 : w1.cell? ⟨w.heap.size, 6, none⟩ = some (.int .i64 p4) := ((hb1 (w.heap.size + 1 + 1) (Nat.le_refl _)).cell (p := ⟨w.heap.size, 6, none⟩) (show w.heap.size < w.heap.size + 1 + 1 by omega)).trans (by rw [hW]; go_simp)
  have q7 : w1.cell? ⟨w.heap.size, 7, none⟩ = some (.int .i64 ck) := ((hb1 (w.heap.size + 1 + 1) (Nat.le_refl _)).cell (p := ⟨w.heap.size, 7, none⟩) (show w.heap.size < w.heap.size + 1 + 1 by omega)).trans (by rw [hW]; go_simp)
  have q8 : w1.cell? ⟨w.heap.size, 8, none⟩ = some (.string ct) := ((hb1 (w.heap.size + 1 + 1) (Nat.le_refl _)).cell (p := ⟨w.heap.size, 8, none⟩) (show w.heap.size < w.heap.size + 1 + 1 by omega)).trans (by rw [hW]; go_simp)
  have r0 : w1.cell? ⟨w.heap.size + 1, 0, none⟩ = some (.string ⟨#[]⟩) := ((hb1 (w.heap.size + 1 + 1) (Nat.le_refl _)).cell (p := ⟨w.heap.size + 1, 0, none⟩) (show w.heap.size + 1 < w.heap.size + 1 + 1 by omega)).trans (by rw [hW]; go_simp)
  have r1 : w1.cell? ⟨w.heap.size + 1, 1, none⟩ = some (.slice none 0 0) := ((hb1 (w.heap.size + 1 + 1) (Nat.le_refl _)).cell (p := ⟨w.heap.size + 1, 1, none⟩) (show w.heap.size + 1 < w.heap.size + 1 + 1 by omega)).trans (by rw [hW]; go_simp)
  have r2 : w1.cell? ⟨w.heap.size + 1, 2, none⟩ = some (.bool false) := ((hb1 (w.heap.size + 1 + 1) (Nat.le_refl _)).cell (p := ⟨w.heap.size + 1, 2, none⟩) (show w.heap.size + 1 < w.heap.size + 1 + 1 by omega)).trans (by rw [hW]; go_simp)
  have r3 : w1.cell? ⟨w.heap.size + 1, 3, none⟩ = some (.int .i64 0) := ((hb1 (w.heap.size + 1 + 1) (Nat.le_refl _)).cell (p := ⟨w.heap.size + 1, 3, none⟩) (show w.heap.size + 1 < w.heap.size + 1 + 1 by omega)).trans (by rw [hW]; go_simp)
  have r4 : w1.cell? ⟨w.heap.size + 1, 4, none⟩ = some (.int .i64 0) := ((hb1 (w.heap.size + 1 + 1) (Nat.le_refl _)).cell (p := ⟨w.heap.size + 1, 4, none⟩) (show w.heap.size + 1 < w.heap.size + 1 + 1 by omega)).trans (by rw [hW]; go_simp)
  have r5 : w1.cell? ⟨w.heap.size + 1, 5, none⟩ = some (.int .i64 0) := ((hb1 (w.heap.size + 1 + 1) (Nat.le_refl _)).cell (p := ⟨w.heap.size + 1, 5, none⟩) (show w.heap.size + 1 < w.heap.size + 1 + 1 by omega)).trans (by rw [hW]; go_simp)
  have r6 : w1.cell? ⟨w.heap.size + 1, 6, none⟩ = some (.int .i64 0) := ((hb1 (w.heap.size + 1 + 1) (Nat.le_refl _)).cell (p := ⟨w.heap.size + 1, 6, none⟩) (show w.heap.size + 1 < w.heap.size + 1 + 1 by omega)).trans (by rw [hW]; go_simp)
  have r7 : w1.cell? ⟨w.heap.size + 1, 7, none⟩ = some (.int .i64 0) := ((hb1 (w.heap.size + 1 + 1) (Nat.le_refl _)).cell (p := ⟨w.heap.size + 1, 7, none⟩) (show w.heap.size + 1 < w.heap.size + 1 + 1 by omega)).trans (by rw [hW]; go_simp)
  have r8 : w1.cell? ⟨w.heap.size + 1, 8, none⟩ = some (.string ⟨#[]⟩) := ((hb1 (w.heap.size + 1 + 1) (Nat.le_refl _)).cell (p := ⟨w.heap.size + 1, 8, none⟩) (show w.heap.size + 1 < w.heap.size + 1 + 1 by omega)).trans (by rw [hW]; go_simp)
  have y0 : w1.frozen? ⟨w.heap.size, 1, none⟩ = false := ((hb1 (w.heap.size + 1 + 1) (Nat.le_refl _)).frozen (p := ⟨w.heap.size, 1, none⟩) (show w.heap.size < w.heap.size + 1 + 1 by omega)).trans (by rw [hW]; go_simp)
  have x0 : w1.frozen? ⟨w.heap.size + 1, 0, none⟩ = false := ((hb1 (w.heap.size + 1 + 1) (Nat.le_refl _)).frozen (p := ⟨w.heap.size + 1, 0, none⟩) (show w.heap.size + 1 < w.heap.size + 1 + 1 by omega)).trans (by rw [hW]; go_simp)
  have x1 : w1.frozen? ⟨w.heap.size + 1, 1, none⟩ = false := ((hb1 (w.heap.size + 1 + 1) (Nat.le_refl _)).frozen (p := ⟨w.heap.size + 1, 1, none⟩) (show w.heap.size + 1 < w.heap.size + 1 + 1 by omega)).trans (by rw [hW]; go_simp)
  have x2 : w1.frozen? ⟨w.heap.size + 1, 2, none⟩ = false := ((hb1 (w.heap.size + 1 + 1) (Nat.le_refl _)).frozen (p := ⟨w.heap.size + 1, 2, none⟩) (show w.heap.size + 1 < w.heap.size + 1 + 1 by omega)).trans (by rw [hW]; go_simp)
  have x3 : w1.frozen? ⟨w.heap.size + 1, 3, none⟩ = false := ((hb1 (w.heap.size + 1 + 1) (Nat.le_refl _)).frozen (p := ⟨w.heap.size + 1, 3, none⟩) (show w.heap.size + 1 < w.heap.size + 1 + 1 by omega)).trans (by rw [hW]; go_simp)
  have x4 : w1.frozen? ⟨w.heap.size + 1, 4, none⟩ = false := ((hb1 (w.heap.size + 1 + 1) (Nat.le_refl _)).frozen (p := ⟨w.heap.size + 1, 4, none⟩) (show w.heap.size + 1 < w.heap.size + 1 + 1 by omega)).trans (by rw [hW]; go_simp)
  have x5 : w1.frozen? ⟨w.heap.size + 1, 5, none⟩ = false := ((hb1 (w.heap.size + 1 + 1) (Nat.le_refl _)).frozen (p := ⟨w.heap.size + 1, 5, none⟩) (show w.heap.size + 1 < w.heap.size + 1 + 1 by omega)).trans (by rw [hW]; go_simp)
  have x6 : w1.frozen? ⟨w.heap.size + 1, 6, none⟩ = false := ((hb1 (w.heap.size + 1 + 1) (Nat.le_refl _)).frozen (p := ⟨w.heap.size + 1, 6, none⟩) (show w.heap.size + 1 < w.heap.size + 1 + 1 by omega)).trans (by rw [hW]; go_simp)
  have x7 : w1.frozen? ⟨w.heap.size + 1, 7, none⟩ = false := ((hb1 (w.heap.size + 1 + 1) (Nat.le_refl _)).frozen (p := ⟨w.heap.size + 1, 7, none⟩) (show w.heap.size + 1 < w.heap.size + 1 + 1 by omega)).trans (by rw [hW]; go_simp)
  have x8 : w1.frozen? ⟨w.heap.size + 1, 8, none⟩ = false := ((hb1 (w.heap.size + 1 + 1) (Nat.le_refl _)).frozen (p := ⟨w.heap.size + 1, 8, none⟩) (show w.heap.size + 1 < w.heap.size + 1 + 1 by omega)).trans (by rw [hW]; go_simp)
  clear hgg hb3 hb1 hw1 hW
  go_enter Tryd.func22, Tryd.ntmps22
  go_wp2
  obtain ⟨wf, hwf⟩ : ∃ wf : World, wf = (w1.setCell ⟨w.heap.size, 1, none⟩ (.slice (some ⟨w.heap.size + 1 + 1, 0, none⟩) es.length es.length)).setCells (w.heap.size + 1) 0 [.string n, .slice (some ⟨w.heap.size + 1 + 1, 0, none⟩) es.length es.length, .bool ag, .int .i64 p1, .int .i64 p2, .int .i64 p3, .int .i64 p4, .int .i64 ck, .string ct] := ⟨_, rfl⟩
  refine (?_ : bodyPost _ _ _ _ _ ((w1.setCell ⟨w.heap.size, 1, none⟩ (.slice (some ⟨w.heap.size + 1 + 1, 0, none⟩) es.length es.length)).setCells (w.heap.size + 1) 0 [.string n, .slice (some ⟨w.heap.size + 1 + 1, 0, none⟩) es.length es.length, .bool ag, .int .i64 p1, .int .i64 p2, .int .i64 p3, .int .i64 p4, .int .i64 ck, .string ct]))
  rw [← hwf]
  have hbase : ∀ o u, w1.cell? ⟨w.heap.size + 1, o, none⟩ = some u → ((w1.setCell ⟨w.heap.size, 1, none⟩ (.slice (some ⟨w.heap.size + 1 + 1, 0, none⟩) es.length es.length)).cell? ⟨w.heap.size + 1, o, none⟩).isSome = true := fun o u h => by
    rw [World.cell?_setCell_far _ _ _ _ (by simp), h]; rfl
  have hin : ∀ j (hj : j < 9), wf.cell? ⟨w.heap.size + 1, j, none⟩ = some ([.string n, .slice (some ⟨w.heap.size + 1 + 1, 0, none⟩) es.length es.length, .bool ag, .int .i64 p1, .int .i64 p2, .int .i64 p3, .int .i64 p4, .int .i64 ck, .string ct][j]'hj) := by
    intro j hj
    have := World.cell?_setCells_in (w.heap.size + 1) [.string n, .slice (some ⟨w.heap.size + 1 + 1, 0, none⟩) es.length es.length, .bool ag, .int .i64 p1, .int .i64 p2, .int .i64 p3, .int .i64 p4, .int .i64 ck, .string ct] 0 (w1.setCell ⟨w.heap.size, 1, none⟩ (.slice (some ⟨w.heap.size + 1 + 1, 0, none⟩) es.length es.length)) (fun j hj => ?_) j hj
    · rw [hwf]; rw [Nat.zero_add] at this; exact this
    · rw [Nat.zero_add]
      simp only [List.length_cons, List.length_nil] at hj
      match j, hj with
      | 0, _ => exact hbase _ _ r0
      | 1, _ => exact hbase _ _ r1
      | 2, _ => exact hbase _ _ r2
      | 3, _ => exact hbase _ _ r3
      | 4, _ => exact hbase _ _ r4
      | 5, _ => exact hbase _ _ r5
      | 6, _ => exact hbase _ _ r6
      | 7, _ => exact hbase _ _ r7
      | 8, _ => exact hbase _ _ r8
  have f0 : wf.cell? ⟨w.heap.size + 1, 0, none⟩ = some (.string n) := hin 0 (by simp)
  have f1 : wf.cell? ⟨w.heap.size + 1, 1, none⟩ = some (.slice (some ⟨w.heap.size + 1 + 1, 0, none⟩) es.length es.length) := hin 1 (by simp)
  have f2 : wf.cell? ⟨w.heap.size + 1, 2, none⟩ = some (.bool ag) := hin 2 (by simp)
  have f3 : wf.cell? ⟨w.heap.size + 1, 3, none⟩ = some (.int .i64 p1) := hin 3 (by simp)
  have f4 : wf.cell? ⟨w.heap.size + 1, 4, none⟩ = some (.int .i64 p2) := hin 4 (by simp)
  have f5 : wf.cell? ⟨w.heap.size + 1, 5, none⟩ = some (.int .i64 p3) := hin 5 (by simp)
  have f6 : wf.cell? ⟨w.heap.size + 1, 6, none⟩ = some (.int .i64 p4) := hin 6 (by simp)
  have f7 : wf.cell? ⟨w.heap.size + 1, 7, none⟩ = some (.int .i64 ck) := hin 7 (by simp)
  have f8 : wf.cell? ⟨w.heap.size + 1, 8, none⟩ = some (.string ct) := hin 8 (by simp)
  have hops : OpsAt wf (some ⟨w.heap.size + 1 + 1, 0, none⟩) es := by
    rw [hwf]
    simp only [World.setCells]
    repeat (refine ops_set ?_ _ _ (fun b o h => by cases h; simp <;> omega))
    exact hs1
  have hbel : Below w.heap.size w wf := by
    rw [hwf]
    simp only [World.setCells]
    repeat (refine Below.setCell ?_ (by simp) _)
    exact bw1
  have hown2 : wf.ownsRow w.heap.size 58 4 (.slice (some ⟨w.heap.size + 1 + 1, 0, none⟩) es.length es.length) es.length (opCells es) := by
    rw [hwf]
    simp only [World.setCells]
    refine World.ownsRow.mono (base := w.heap.size + 1 + 1) ?_ (by omega)
    repeat (refine own_low ?_ _ _ (by simp <;> omega))
    exact hown1
  clear hwf
  refine bodyPost_ret (v := .agg #[.string n, .slice (some ⟨w.heap.size + 1 + 1, 0, none⟩) es.length es.length, .bool ag, .int .i64 p1, .int .i64 p2, .int .i64 p3, .int .i64 p4, .int .i64 ck, .string ct]) (by simp [results, Tryd.results22, go_sem, f0, f1, f2, f3, f4, f5, f6, f7, f8]; try rfl) rfl ?_
  exact ⟨_, _, rfl, hown2, hbel⟩
theorem own_full {w : World} {base : Nat} {e : TypeId} {n cx : Nat} {X : Option Addr} {xs : List Value} (h : w.ownsRow base e 4 (.slice X n cx) n xs) :
    (X = none ∧ n = 0 ∧ cx = 0) ∨ ∃ g ys, X = some ⟨g, 0, none⟩ ∧ n ≤ cx ∧ cx ≤ 9223372036854775807 ∧ w.ownsRow base e 4 (.slice (some ⟨g, 0, none⟩) cx cx) cx ys := by
  obtain ⟨h1, h2⟩ := h
  rcases h2 with ⟨hv, h0⟩ | ⟨g, cap, cur, hv, hg, hh, hn, hcap, hsz, htake⟩
  · cases hv
    exact .inl ⟨rfl, rfl, rfl⟩
  · cases hv
    refine .inr ⟨g, cur.toList.take (cx * 4), rfl, hn, by simpa [maxLen] using hcap, ?_, .inr ⟨g, cx, cur, rfl, hg, hh, Nat.le_refl _, hcap, hsz, rfl⟩⟩
    rw [List.length_take, Array.length_toList, hsz]; omega
/-- What spoil leaves: one block is written. -/
def SpoilPost (base : Nat) (A : Option Addr) (w : World) (e : Ending) (w' : World) : Prop := e = .returned (.tuple #[]) ∧ Below base w w' ∧ w'.heap.size = w.heap.size ∧ ∀ i, i < w.heap.size → (∀ o, A ≠ some ⟨i, o, none⟩) → w'.heap[i]? = w.heap[i]?
set_option maxHeartbeats 4000000 in
set_option maxRecDepth 100000 in
theorem spoil_c (w : World) (base : Nat) (A : Option Addr) (n c : Nat) (xs : List Value) (h : w.ownsRow base 58 4 (.slice A n c) n xs) :
    Calls Tryd.prog 27 #[.slice A n c] w (SpoilPost base A w) := by
  rcases own_full h with ⟨rfl, rfl, rfl⟩ | ⟨g, ys, rfl, hnc, hcm, own⟩
  · go_enter Tryd.func27, Tryd.ntmps27
    go_wp2
    go_loop [2] (fun i => i = .int .i64 ((0 : Nat) : Int)) (fun _ => 0)
    case atStart => rfl
    case round =>
      obtain rfl := hrel
      go_wp2
      refine bodyPost_end (v := .tuple #[]) (by simp [results, Tryd.results27]) rfl ?_
      exact ⟨rfl, Below.refl _ _, rfl, fun i _ _ => rfl⟩
  · have hz0 : (0 : Int) ≤ (c : Int) := Int.natCast_nonneg _
    have hz1 : (c : Int) ≤ (c : Int) := Int.le_refl _
    have hgb := (own_blk own)
    go_enter Tryd.func27, Tryd.ntmps27
    go_wp2
    go_loopw [2] (fun i wr => ∃ (k : Nat) (zs : List Value), k ≤ c ∧ i = .int .i64 k ∧ wr.ownsRow base 58 4 (.slice (some ⟨g, 0, none⟩) c c) c zs ∧ Below base w wr ∧ wr.heap.size = w.heap.size ∧ Hid (∀ i, i < w.heap.size → i ≠ g → wr.heap[i]? = w.heap[i]?)) (fun i _ => c - (intOf i).toNat)
    case atStart => exact ⟨0, ys, by omega, rfl, own, Below.refl _ _, rfl, fun i _ _ => rfl⟩
    case round =>
      obtain ⟨k, zs, hk, rfl, hown, hbel, hsz, hsame⟩ := hrel
      by_cases hlt : k < c
      · have hi0 : (0 : Int) ≤ (k : Int) := Int.natCast_nonneg _
        have hi1 : (k : Int) < (c : Int) := by omega
        obtain ⟨v0, e0⟩ := own_cell_any hown (k * 4) (by omega)
        obtain ⟨v1, e1⟩ := own_cell_any hown (k * 4 + 1) (by omega)
        obtain ⟨v2, e2⟩ := own_cell_any hown (k * 4 + 2) (by omega)
        obtain ⟨v3, e3⟩ := own_cell_any hown (k * 4 + 3) (by omega)
        have z0 := hown.frozenAt (k * 4)
        have z1 := hown.frozenAt (k * 4 + 1)
        have z2 := hown.frozenAt (k * 4 + 2)
        have z3 := hown.frozenAt (k * 4 + 3)
        have hgb2 := (own_blk hown).1
        go_wp2
        go_roundw
        case rel =>
          go_light
          refine ⟨k + 1, _, by omega, by go_num, ((((hown.stored (k * 4) _).1.stored (k * 4 + 1) _).1.stored (k * 4 + 2) _).1.stored (k * 4 + 3) _).1, (((hbel.setCell (p := ⟨g, k * 4, none⟩) hgb2 _).setCell (p := ⟨g, k * 4 + 1, none⟩) hgb2 _).setCell (p := ⟨g, k * 4 + 2, none⟩) hgb2 _).setCell (p := ⟨g, k * 4 + 3, none⟩) hgb2 _, by simpa [World.setCell] using hsz, fun i hi hne => ?_⟩
          rw [Below.heap_setCell _ _ _ _ hne, Below.heap_setCell _ _ _ _ hne, Below.heap_setCell _ _ _ _ hne, Below.heap_setCell _ _ _ _ hne]
          exact hsame.out i hi hne
        case measure => simp [intOf]; omega
      · go_wp2
        refine bodyPost_end (v := .tuple #[]) (by simp [results, Tryd.results27]) rfl ?_
        exact ⟨rfl, hbel, hsz, fun i hi hne => hsame.out i hi (fun e => hne 0 (by rw [e]))⟩
theorem freeze_c (w : World) (base rb mb : Nat) (v : Value) (rs : List PRow) {fz : Bool} (h : RegF w base rb mb v rs fz) :
    Calls Tryd.prog 28 #[.pointer (some ⟨rb, 0, none⟩)] w fun e w' => e = .returned (.tuple #[]) ∧ w' = w.setCell ⟨rb, 2, none⟩ (.bool true) := by
  have q2 := h.c2
  have z2 := h.z2
  go_enter Tryd.func28, Tryd.ntmps28
  go_wp2
  refine bodyPost_end (v := .tuple #[]) (by simp [results, Tryd.results28]) rfl ?_
  exact ⟨rfl, rfl⟩
theorem RegF.freeze {w : World} {base rb mb : Nat} {v : Value} {rs : List PRow} {fz : Bool} (h : RegF w base rb mb v rs fz) : RegF (w.setCell ⟨rb, 2, none⟩ (.bool true)) base rb mb v rs true := by
  have hk : ∀ i, i ≠ rb → (w.setCell ⟨rb, 2, none⟩ (.bool true)).heap[i]? = w.heap[i]? := fun i hi => Below.heap_setCell w ⟨rb, 2, none⟩ (.bool true) i hi
  have hs : (w.setCell ⟨rb, 2, none⟩ (.bool true)).heap.size = w.heap.size := by simp [World.setCell]
  obtain ⟨n, F, hn, ht, hF⟩ := h.tab
  refine ⟨?_, ?_, World.cell?_setCell_same _ _ _ h.c2, ?_, ?_, ?_, own_same h.own (fun g hg => hk g (fun e => h.ne.2.1 (by rw [hg, e]))), fun r hr => ⟨?_, (h.each r hr).2⟩, ⟨n, F, hn, ht.kept (hk mb (fun e => h.ne.1 e.symm)), hF⟩, h.dist, h.len, h.ne, h.lo, by rw [hs]; exact h.rbl⟩
  · rw [World.cell?_setCell_other _ _ _ _ (by simp)]; exact h.c0
  · rw [World.cell?_setCell_other _ _ _ _ (by simp)]; exact h.c1
  · rw [World.frozen?_setCell]; exact h.z0
  · rw [World.frozen?_setCell]; exact h.z1
  · rw [World.frozen?_setCell]; exact h.z2
  · obtain ⟨h1, h2⟩ := h.each r hr
    refine ops_away (U := fun i => i = rb) h1 (Nat.le_of_eq hs.symm) (fun i _ hi => hk i hi) ?_
    rcases h2 with h2 | h2
    · exact .inl h2
    · exact .inr fun g o e hu => h2 g o e (.inl hu)
/-- among(n, 6). -/
theorem among_c (n : Int) (w : World) :
    Calls Tryd.prog 25 #[.int .i64 n, .int .i64 6] w fun e w' => (∃ k : Int, 0 ≤ k ∧ k < 6 ∧ e = .returned (.int .i64 k)) ∧ w = w' := by
  go_enter Tryd.func25, Tryd.ntmps25
  go_wp2
  go_ret
  have h0 : 0 ≤ IntKind.u64.wrap n := by rw [show IntKind.u64.wrap n = n % 18446744073709551616 by simp [IntKind.wrap, IntKind.bits, IntKind.signed]]; omega
  generalize IntKind.u64.wrap n = m at *
  have h1 : m.tmod 6 = m % 6 := Int.tmod_eq_emod_of_nonneg h0
  have h2 : wrap64 (m.tmod 6) = m % 6 := by rw [h1]; unfold wrap64; omega
  refine ⟨⟨m % 6, by omega, by omega, ?_⟩, rfl⟩
  rw [← h2]
  rfl
theorem frozen_c (w : World) (base rb mb : Nat) (v : Value) (rs : List PRow) {fz : Bool} (h : RegF w base rb mb v rs fz) :
    Calls Tryd.prog 41 #[.pointer (some ⟨rb, 0, none⟩)] w fun e w' => e = .returned (.bool fz) ∧ w = w' := by
  have q2 := h.c2
  go_enter Tryd.func41, Tryd.ntmps41
  go_wp2
  go_ret
  exact ⟨rfl, rfl⟩
end Go.Proofs.YtofmdmmgbfbaoaaDoor
