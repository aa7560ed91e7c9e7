/- registry.New, copied, Len, Names, Find. -/
import Derived.Test.YtofmdmmgbfbaoaaDoorR2
namespace Go.Proofs.YtofmdmmgbfbaoaaDoor
open Go.RowKit Go.Maps Go.ChangeMaps Go.WideShapes

/-- What New leaves. -/
def NewPost (w : World) (e : Ending) (w' : World) : Prop := ∃ rb mb, e = .returned (.pointer (some ⟨rb, 0, none⟩)) ∧ RegAt w' w.heap.size rb mb (.slice none 0 0) [] ∧ Below w.heap.size w w'
theorem reg_new (w : World) (t : TypeId) : RegAt ((w.alloc (.map #[] 0)).alloc (.cells #[.slice none 0 0, .map (some w.heap.size), .bool false] t)) w.heap.size (w.heap.size + 1) w.heap.size (.slice none 0 0) [] :=
  ⟨by simp, by simp, by simp, by simp, by simp, by simp, World.ownsRow_nil _ _ _ _, fun r hr => (by simp at hr), ⟨0, _, Nat.le_refl _, (TabIs.new w).below ((Below.refl _ _).alloc (Nat.le_refl _) _), fun s => rfl⟩, List.nodup_nil, by simp, ⟨by omega, by simp [Value.ownBlock], by simp [Value.ownBlock]⟩, ⟨by omega, by omega⟩, by simp⟩
theorem new_c (w : World) : Calls Tryd.prog 7 #[] w (NewPost w) := by
  have hmm := @run_makeMap Tryd.prog
  go_enter Tryd.func7, Tryd.ntmps7
  go_wp2
  go_ret
  exact ⟨_, _, rfl, reg_new w _, ((Below.refl _ _).alloc (Nat.le_refl _) _).alloc (by simp) _⟩
theorem info_op4 : (Tryd.prog.info? 58).map (fun i => (i.zero, i.size, i.bytes)) = some (some (.agg #[.int .i64 0, .int .i64 0, .int .i64 0, .string ⟨#[]⟩]), 4, 40) := by kernel_rfl
theorem make_ops (n : Nat) (hn : n * 40 ≤ 140737488355328) (W : World) : (Instr.makeSlice 30 (.int .i64 (n : Int)) (.int .i64 (n : Int))).run Tryd.prog W = .ok (.slice (some ⟨W.heap.size, 0, none⟩) n n) (W.alloc (.cells (madeCells #[.int .i64 0, .int .i64 0, .int .i64 0, .string ⟨#[]⟩] (n * 4)) 58)) := by
  obtain ⟨i, hi, hzz⟩ := Option.map_eq_some_iff.1 info_op4
  simp only [Prod.mk.injEq] at hzz
  obtain ⟨hz, hs, hb⟩ := hzz
  have := run_make (P := Tryd.prog) W 30 58 i _ Tryd.underlying30 hi hz .i64 .i64 (n : Int) (n : Int) (by omega) (by omega) (by rw [hb]; omega) (by omega)
  rw [hs] at this
  simp only [Int.toNat_natCast] at this
  exact this
set_option maxHeartbeats 4000000 in
set_option maxRecDepth 100000 in
theorem copied_c (p : XProv) (A : Option Addr) (c : Nat) (w : World) (hx : OpsAt w A p.expr) (hl : p.expr.length * 40 ≤ 140737488355328) :
    Calls Tryd.prog 22 #[p.val A c] w fun e w' => ∃ A' c', e = .returned (p.val A' c') ∧ OpsAt w' A' p.expr ∧ Fresh w.heap.size w'.heap.size A' ∧ Below w.heap.size w w' := by
  obtain ⟨n, es, ag, p1, p2, p3, p4, ck, ct⟩ := p
  simp only [XProv.val] at *
  have hmk := make_ops es.length hl
  obtain ⟨W, hW⟩ : ∃ W : World, W = (((w.alloc (.cells #[.string n, .slice A es.length c, .bool ag, .int .i64 p1, .int .i64 p2, .int .i64 p3, .int .i64 p4, .int .i64 ck, .string ct] 36)).alloc (.cells #[.string ⟨#[]⟩, .slice none 0 0, .bool false, .int .i64 0, .int .i64 0, .int .i64 0, .int .i64 0, .int .i64 0, .string ⟨#[]⟩] 36)).alloc (.cells (madeCells #[.int .i64 0, .int .i64 0, .int .i64 0, .string ⟨#[]⟩] (es.length * 4)) 58)) := ⟨_, rfl⟩
  have hgg : W.heap[w.heap.size + 1 + 1]? = some (.cells (madeCells #[.int .i64 0, .int .i64 0, .int .i64 0, .string ⟨#[]⟩] (es.length * 4)) 58) := by
    rw [hW]
    have := heap_alloc_new ((w.alloc (.cells #[.string n, .slice A es.length c, .bool ag, .int .i64 p1, .int .i64 p2, .int .i64 p3, .int .i64 p4, .int .i64 ck, .string ct] 36)).alloc (.cells #[.string ⟨#[]⟩, .slice none 0 0, .bool false, .int .i64 0, .int .i64 0, .int .i64 0, .int .i64 0, .int .i64 0, .string ⟨#[]⟩] 36)) (.cells (madeCells #[.int .i64 0, .int .i64 0, .int .i64 0, .string ⟨#[]⟩] (es.length * 4)) 58)
    rw [al_size, al_size] at this
    exact this
  have hb3 : Below w.heap.size w W := by
    rw [hW]
    exact (((Below.refl _ _).alloc (Nat.le_refl _) _).alloc (by simp) _).alloc (by rw [al_size, al_size]; omega) _
  obtain ⟨w1, hw1⟩ : ∃ w1 : World, w1 = W.setRow (w.heap.size + 1 + 1) (opCells es).toArray := ⟨_, rfl⟩
  have hcp : (Builtin.copy_ #[30, 30] 3 #[.slice (some ⟨w.heap.size + 1 + 1, 0, none⟩) es.length es.length, .slice A es.length c]).run Tryd.prog (((w.alloc (.cells #[.string n, .slice A es.length c, .bool ag, .int .i64 p1, .int .i64 p2, .int .i64 p3, .int .i64 p4, .int .i64 ck, .string ct] 36)).alloc (.cells #[.string ⟨#[]⟩, .slice none 0 0, .bool false, .int .i64 0, .int .i64 0, .int .i64 0, .int .i64 0, .int .i64 0, .string ⟨#[]⟩] 36)).alloc (.cells (madeCells #[.int .i64 0, .int .i64 0, .int .i64 0, .string ⟨#[]⟩] (es.length * 4)) 58)) = .ok (.int .i64 (es.length : Int)) w1 := by
    rw [hw1, ← hW]
    exact run_copyN (P := Tryd.prog) W 30 30 3 58 (w.heap.size + 1 + 1) es.length es.length c 4 A _ 58 (opCells es) Tryd.underlying30 (by kernel_rfl) hgg (opCells_length es) (size_madeCells _ _) (ops_src (hx.below hb3)) (opCells_one es)
  have hb1 : ∀ B, B ≤ w.heap.size + 1 + 1 → Below B W w1 := fun B hB => by rw [hw1]; exact below_setRow (Below.refl _ _) hB _
  have hs1 : OpsAt w1 (some ⟨w.heap.size + 1 + 1, 0, none⟩) es := ops_block (t := 58) (by rw [hw1]; exact setRow_heap W _ _ _ _ (0, 0) hgg)
  have hz1 : w.heap.size + 1 + 1 < w1.heap.size := by rw [hw1, hW]; simp [World.setRow]
  have bw1 : Below w.heap.size w w1 := hb3.trans (hb1 w.heap.size (by omega))
  have q0 : w1.cell? ⟨w.heap.size, 0, none⟩ = some (.string n) := ((hb1 (w.heap.size + 1 + 1) (Nat.le_refl _)).cell (p := ⟨w.heap.size, 0, none⟩) (show w.heap.size < w.heap.size + 1 + 1 by omega)).trans (by rw [hW]; go_simp)
  have q1 : w1.cell? ⟨w.heap.size, 1, none⟩ = some (.slice A es.length c) := ((hb1 (w.heap.size + 1 + 1) (Nat.le_refl _)).cell (p := ⟨w.heap.size, 1, none⟩) (show w.heap.size < w.heap.size + 1 + 1 by omega)).trans (by rw [hW]; go_simp)
  have q2 : w1.cell? ⟨w.heap.size, 2, none⟩ = some (.bool ag) := ((hb1 (w.heap.size + 1 + 1) (Nat.le_refl _)).cell (p := ⟨w.heap.size, 2, none⟩) (show w.heap.size < w.heap.size + 1 + 1 by omega)).trans (by rw [hW]; go_simp)
  have q3 : w1.cell? ⟨w.heap.size, 3, none⟩ = some (.int .i64 p1) := ((hb1 (w.heap.size + 1 + 1) (Nat.le_refl _)).cell (p := ⟨w.heap.size, 3, none⟩) (show w.heap.size < w.heap.size + 1 + 1 by omega)).trans (by rw [hW]; go_simp)
  have q4 : w1.cell? ⟨w.heap.size, 4, none⟩ = some (.int .i64 p2) := ((hb1 (w.heap.size + 1 + 1) (Nat.le_refl _)).cell (p := ⟨w.heap.size, 4, none⟩) (show w.heap.size < w.heap.size + 1 + 1 by omega)).trans (by rw [hW]; go_simp)
  have q5 : w1.cell? ⟨w.heap.size, 5, none⟩ = some (.int .i64 p3) := ((hb1 (w.heap.size + 1 + 1) (Nat.le_refl _)).cell (p := ⟨w.heap.size, 5, none⟩) (show w.heap.size < w.heap.size + 1 + 1 by omega)).trans (by rw [hW]; go_simp)
  have q6 : w1.cell? ⟨w.heap.size, 6, none⟩ = some (.int .i64 p4) := ((hb1 (w.heap.size + 1 + 1) (Nat.le_refl _)).cell (p := ⟨w.heap.size, 6, none⟩) (show w.heap.size < w.heap.size + 1 + 1 by omega)).trans (by rw [hW]; go_simp)
  have q7 : w1.cell? ⟨w.heap.size, 7, none⟩ = some (.int .i64 ck) := ((hb1 (w.heap.size + 1 + 1) (Nat.le_refl _)).cell (p := ⟨w.heap.size, 7, none⟩) (show w.heap.size < w.heap.size + 1 + 1 by omega)).trans (by rw [hW]; go_simp)
  have q8 : w1.cell? ⟨w.heap.size, 8, none⟩ = some (.string ct) := ((hb1 (w.heap.size + 1 + 1) (Nat.le_refl _)).cell (p := ⟨w.heap.size, 8, none⟩) (show w.heap.size < w.heap.size + 1 + 1 by omega)).trans (by rw [hW]; go_simp)
  have r0 : w1.cell? ⟨w.heap.size + 1, 0, none⟩ = some (.string ⟨#[]⟩) := ((hb1 (w.heap.size + 1 + 1) (Nat.le_refl _)).cell (p := ⟨w.heap.size + 1, 0, none⟩) (show w.heap.size + 1 < w.heap.size + 1 + 1 by omega)).trans (by rw [hW]; go_simp)
  have r1 : w1.cell? ⟨w.heap.size + 1, 1, none⟩ = some (.slice none 0 0) := ((hb1 (w.heap.size + 1 + 1) (Nat.le_refl _)).cell (p := ⟨w.heap.size + 1, 1, none⟩) (show w.heap.size + 1 < w.heap.size + 1 + 1 by omega)).trans (by rw [hW]; go_simp)
  have r2 : w1.cell? ⟨w.heap.size + 1, 2, none⟩ = some (.bool false) := ((hb1 (w.heap.size + 1 + 1) (Nat.le_refl _)).cell (p := ⟨w.heap.size + 1, 2, none⟩) (show w.heap.size + 1 < w.heap.size + 1 + 1 by omega)).trans (by rw [hW]; go_simp)
  have r3 : w1.cell? ⟨w.heap.size + 1, 3, none⟩ = some (.int .i64 0) := ((hb1 (w.heap.size + 1 + 1) (Nat.le_refl _)).cell (p := ⟨w.heap.size + 1, 3, none⟩) (show w.heap.size + 1 < w.heap.size + 1 + 1 by omega)).trans (by rw [hW]; go_simp)
  have r4 : w1.cell? ⟨w.heap.size + 1, 4, none⟩ = some (.int .i64 0) := ((hb1 (w.heap.size + 1 + 1) (Nat.le_refl _)).cell (p := ⟨w.heap.size + 1, 4, none⟩) (show w.heap.size + 1 < w.heap.size + 1 + 1 by omega)).trans (by rw [hW]; go_simp)
  have r5 : w1.cell? ⟨w.heap.size + 1, 5, none⟩ = some (.int .i64 0) := ((hb1 (w.heap.size + 1 + 1) (Nat.le_refl _)).cell (p := ⟨w.heap.size + 1, 5, none⟩) (show w.heap.size + 1 < w.heap.size + 1 + 1 by omega)).trans (by rw [hW]; go_simp)
  have r6 : w1.cell? ⟨w.heap.size + 1, 6, none⟩ = some (.int .i64 0) := ((hb1 (w.heap.size + 1 + 1) (Nat.le_refl _)).cell (p := ⟨w.heap.size + 1, 6, none⟩) (show w.heap.size + 1 < w.heap.size + 1 + 1 by omega)).trans (by rw [hW]; go_simp)
  have r7 : w1.cell? ⟨w.heap.size + 1, 7, none⟩ = some (.int .i64 0) := ((hb1 (w.heap.size + 1 + 1) (Nat.le_refl _)).cell (p := ⟨w.heap.size + 1, 7, none⟩) (show w.heap.size + 1 < w.heap.size + 1 + 1 by omega)).trans (by rw [hW]; go_simp)
  have r8 : w1.cell? ⟨w.heap.size + 1, 8, none⟩ = some (.string ⟨#[]⟩) := ((hb1 (w.heap.size + 1 + 1) (Nat.le_refl _)).cell (p := ⟨w.heap.size + 1, 8, none⟩) (show w.heap.size + 1 < w.heap.size + 1 + 1 by omega)).trans (by rw [hW]; go_simp)
  have y0 : w1.frozen? ⟨w.heap.size, 1, none⟩ = false := ((hb1 (w.heap.size + 1 + 1) (Nat.le_refl _)).frozen (p := ⟨w.heap.size, 1, none⟩) (show w.heap.size < w.heap.size + 1 + 1 by omega)).trans (by rw [hW]; go_simp)
  have x0 : w1.frozen? ⟨w.heap.size + 1, 0, none⟩ = false := ((hb1 (w.heap.size + 1 + 1) (Nat.le_refl _)).frozen (p := ⟨w.heap.size + 1, 0, none⟩) (show w.heap.size + 1 < w.heap.size + 1 + 1 by omega)).trans (by rw [hW]; go_simp)
  have x1 : w1.frozen? ⟨w.heap.size + 1, 1, none⟩ = false := ((hb1 (w.heap.size + 1 + 1) (Nat.le_refl _)).frozen (p := ⟨w.heap.size + 1, 1, none⟩) (show w.heap.size + 1 < w.heap.size + 1 + 1 by omega)).trans (by rw [hW]; go_simp)
  have x2 : w1.frozen? ⟨w.heap.size + 1, 2, none⟩ = false := ((hb1 (w.heap.size + 1 + 1) (Nat.le_refl _)).frozen (p := ⟨w.heap.size + 1, 2, none⟩) (show w.heap.size + 1 < w.heap.size + 1 + 1 by omega)).trans (by rw [hW]; go_simp)
  have x3 : w1.frozen? ⟨w.heap.size + 1, 3, none⟩ = false := ((hb1 (w.heap.size + 1 + 1) (Nat.le_refl _)).frozen (p := ⟨w.heap.size + 1, 3, none⟩) (show w.heap.size + 1 < w.heap.size + 1 + 1 by omega)).trans (by rw [hW]; go_simp)
  have x4 : w1.frozen? ⟨w.heap.size + 1, 4, none⟩ = false := ((hb1 (w.heap.size + 1 + 1) (Nat.le_refl _)).frozen (p := ⟨w.heap.size + 1, 4, none⟩) (show w.heap.size + 1 < w.heap.size + 1 + 1 by omega)).trans (by rw [hW]; go_simp)
  have x5 : w1.frozen? ⟨w.heap.size + 1, 5, none⟩ = false := ((hb1 (w.heap.size + 1 + 1) (Nat.le_refl _)).frozen (p := ⟨w.heap.size + 1, 5, none⟩) (show w.heap.size + 1 < w.heap.size + 1 + 1 by omega)).trans (by rw [hW]; go_simp)
  have x6 : w1.frozen? ⟨w.heap.size + 1, 6, none⟩ = false := ((hb1 (w.heap.size + 1 + 1) (Nat.le_refl _)).frozen (p := ⟨w.heap.size + 1, 6, none⟩) (show w.heap.size + 1 < w.heap.size + 1 + 1 by omega)).trans (by rw [hW]; go_simp)
  have x7 : w1.frozen? ⟨w.heap.size + 1, 7, none⟩ = false := ((hb1 (w.heap.size + 1 + 1) (Nat.le_refl _)).frozen (p := ⟨w.heap.size + 1, 7, none⟩) (show w.heap.size + 1 < w.heap.size + 1 + 1 by omega)).trans (by rw [hW]; go_simp)
  have x8 : w1.frozen? ⟨w.heap.size + 1, 8, none⟩ = false := ((hb1 (w.heap.size + 1 + 1) (Nat.le_refl _)).frozen (p := ⟨w.heap.size + 1, 8, none⟩) (show w.heap.size + 1 < w.heap.size + 1 + 1 by omega)).trans (by rw [hW]; go_simp)
  clear hgg hb3 hb1 hw1 hW
  go_enter Tryd.func22, Tryd.ntmps22
  go_wp2
  obtain ⟨wf, hwf⟩ : ∃ wf : World, wf = (w1.setCell ⟨w.heap.size, 1, none⟩ (.slice (some ⟨w.heap.size + 1 + 1, 0, none⟩) es.length es.length)).setCells (w.heap.size + 1) 0 [.string n, .slice (some ⟨w.heap.size + 1 + 1, 0, none⟩) es.length es.length, .bool ag, .int .i64 p1, .int .i64 p2, .int .i64 p3, .int .i64 p4, .int .i64 ck, .string ct] := ⟨_, rfl⟩
  refine (?_ : bodyPost _ _ _ _ _ ((w1.setCell ⟨w.heap.size, 1, none⟩ (.slice (some ⟨w.heap.size + 1 + 1, 0, none⟩) es.length es.length)).setCells (w.heap.size + 1) 0 [.string n, .slice (some ⟨w.heap.size + 1 + 1, 0, none⟩) es.length es.length, .bool ag, .int .i64 p1, .int .i64 p2, .int .i64 p3, .int .i64 p4, .int .i64 ck, .string ct]))
  rw [← hwf]
  have hbase : ∀ o u, w1.cell? ⟨w.heap.size + 1, o, none⟩ = some u → ((w1.setCell ⟨w.heap.size, 1, none⟩ (.slice (some ⟨w.heap.size + 1 + 1, 0, none⟩) es.length es.length)).cell? ⟨w.heap.size + 1, o, none⟩).isSome = true := fun o u h => by
    rw [World.cell?_setCell_far _ _ _ _ (by simp), h]; rfl
  have hin : ∀ j (hj : j < 9), wf.cell? ⟨w.heap.size + 1, j, none⟩ = some ([.string n, .slice (some ⟨w.heap.size + 1 + 1, 0, none⟩) es.length es.length, .bool ag, .int .i64 p1, .int .i64 p2, .int .i64 p3, .int .i64 p4, .int .i64 ck, .string ct][j]'hj) := by
    intro j hj
    have := World.cell?_setCells_in (w.heap.size + 1) [.string n, .slice (some ⟨w.heap.size + 1 + 1, 0, none⟩) es.length es.length, .bool ag, .int .i64 p1, .int .i64 p2, .int .i64 p3, .int .i64 p4, .int .i64 ck, .string ct] 0 (w1.setCell ⟨w.heap.size, 1, none⟩ (.slice (some ⟨w.heap.size + 1 + 1, 0, none⟩) es.length es.length)) (fun j hj => ?_) j hj
    · rw [hwf]; rw [Nat.zero_add] at this; exact this
    · rw [Nat.zero_add]
      simp only [List.length_cons, List.length_nil] at hj
      match j, hj with
      | 0, _ => exact hbase _ _ r0
      | 1, _ => exact hbase _ _ r1
      | 2, _ => exact hbase _ _ r2
      | 3, _ => exact hbase _ _ r3
      | 4, _ => exact hbase _ _ r4
      | 5, _ => exact hbase _ _ r5
      | 6, _ => exact hbase _ _ r6
      | 7, _ => exact hbase _ _ r7
      | 8, _ => exact hbase _ _ r8
  have f0 : wf.cell? ⟨w.heap.size + 1, 0, none⟩ = some (.string n) := hin 0 (by simp)
  have f1 : wf.cell? ⟨w.heap.size + 1, 1, none⟩ = some (.slice (some ⟨w.heap.size + 1 + 1, 0, none⟩) es.length es.length) := hin 1 (by simp)
  have f2 : wf.cell? ⟨w.heap.size + 1, 2, none⟩ = some (.bool ag) := hin 2 (by simp)
  have f3 : wf.cell? ⟨w.heap.size + 1, 3, none⟩ = some (.int .i64 p1) := hin 3 (by simp)
  have f4 : wf.cell? ⟨w.heap.size + 1, 4, none⟩ = some (.int .i64 p2) := hin 4 (by simp)
  have f5 : wf.cell? ⟨w.heap.size + 1, 5, none⟩ = some (.int .i64 p3) := hin 5 (by simp)
  have f6 : wf.cell? ⟨w.heap.size + 1, 6, none⟩ = some (.int .i64 p4) := hin 6 (by simp)
  have f7 : wf.cell? ⟨w.heap.size + 1, 7, none⟩ = some (.int .i64 ck) := hin 7 (by simp)
  have f8 : wf.cell? ⟨w.heap.size + 1, 8, none⟩ = some (.string ct) := hin 8 (by simp)
  have hops : OpsAt wf (some ⟨w.heap.size + 1 + 1, 0, none⟩) es := by
    rw [hwf]
    simp only [World.setCells]
    repeat (refine ops_set ?_ _ _ (fun b o h => by cases h; simp <;> omega))
    exact hs1
  have hbel : Below w.heap.size w wf := by
    rw [hwf]
    simp only [World.setCells]
    repeat (refine Below.setCell ?_ (by simp) _)
    exact bw1
  have hF2 : Fresh w.heap.size wf.heap.size (some ⟨w.heap.size + 1 + 1, 0, none⟩) := by
    rw [hwf]
    simp only [World.setCells]
    intro b o h
    cases h
    refine ⟨by omega, ?_⟩
    simp [World.setCell]
    exact hz1
  clear hwf
  refine bodyPost_ret (v := .agg #[.string n, .slice (some ⟨w.heap.size + 1 + 1, 0, none⟩) es.length es.length, .bool ag, .int .i64 p1, .int .i64 p2, .int .i64 p3, .int .i64 p4, .int .i64 ck, .string ct]) (by simp [results, Tryd.results22, go_sem, f0, f1, f2, f3, f4, f5, f6, f7, f8]; try rfl) rfl ?_
  exact ⟨_, _, rfl, hops, hF2, hbel⟩
theorem len_c (w : World) (base rb mb : Nat) (v : Value) (rs : List PRow) {fz : Bool} (h : RegF w base rb mb v rs fz) :
    Calls Tryd.prog 11 #[.pointer (some ⟨rb, 0, none⟩)] w fun e w' => e = .returned (.int .i64 (rs.length : Int)) ∧ w = w' := by
  obtain ⟨V, c, rfl, _⟩ := h.row
  have q0 := h.c0
  go_enter Tryd.func11, Tryd.ntmps11
  go_wp2
  go_ret
  exact ⟨rfl, rfl⟩
/-- The answer of Find. -/
def findAns (N : List ByteArray) (s : ByteArray) : Int × Int := if memB s N = true then (idxFrom N s 0, 0) else (0, 4)
theorem lit_eq {a b : Int} (h : (DataW.lit (.int .i64 ((some a).getD 0)) : DataW Unit) = .lit (.int .i64 b)) : b = a := by
  simp only [Option.getD_some, DataW.lit.injEq, Lit.int.injEq, true_and] at h
  exact h.symm
theorem find_c (w : World) (base rb mb : Nat) (v : Value) (rs : List PRow) (s : ByteArray) {fz : Bool} (h : RegF w base rb mb v rs fz) (hs : s.size ≤ 140737488355328) :
    Calls Tryd.prog 12 #[.pointer (some ⟨rb, 0, none⟩), .string s] w fun e w' => e = .returned (.tuple #[.int .i64 (findAns (namesL rs) s).1, .int .i64 (findAns (namesL rs) s).2]) ∧ w = w' := by
  have q1 := h.c1
  obtain ⟨n, F, hn, ⟨D, hD, hDs⟩, hF⟩ := h.tab
  have hkl := kl_of s hs
  obtain ⟨hh, ha⟩ := hDs s
  rw [hF, idxO_some] at hh
  have HKL := Lib.hid hkl
  cases hM : memB s (namesL rs)
  · have hA : findAns (namesL rs) s = (0, 4) := by unfold findAns; rw [hM]; rfl
    rw [hM] at hh
    have HH := Lib.hid hh
    have HA := Lib.hid hA
    clear hh ha hDs hF hkl hA h
    go_enter Tryd.func12, Tryd.ntmps12
    go_wp2_with (at_lookup; refine wpList_lookup_own_ok_int _ (by rfl) _ _ 61 (by rfl) 9 3 .i64 keyed Tryd.underlying61 Tryd.underlying3 (zeroI _) mb n D (by rfl) hD (.string s) (kl s) (by rfl) HKL.out ?_; intro cc hat _; clear hat; rw [HH.out])
    go_ret2
    rw [HA.out]
    exact ⟨rfl, rfl⟩
  · have hA : findAns (namesL rs) s = (idxFrom (namesL rs) s 0, 0) := by unfold findAns; rw [hM]; rfl
    have hcc : ∀ cc : Int, D.atKey (kl s) (.lit (.int .i64 0)) = .lit (.int .i64 cc) → cc = idxFrom (namesL rs) s 0 := fun cc h1 => by
      rw [ha, hF] at h1
      have h2 : idxO (namesL rs) s = some (idxFrom (namesL rs) s 0) := by unfold idxO; rw [if_pos hM]
      rw [h2] at h1
      exact lit_eq h1
    rw [hM] at hh
    have HH := Lib.hid hh
    have HA := Lib.hid hA
    have HC := Lib.hid hcc
    clear hh ha hDs hF hkl hA h hcc
    go_enter Tryd.func12, Tryd.ntmps12
    go_wp2_with (at_lookup; refine wpList_lookup_own_ok_int _ (by rfl) _ _ 61 (by rfl) 9 3 .i64 keyed Tryd.underlying61 Tryd.underlying3 (zeroI _) mb n D (by rfl) hD (.string s) (kl s) (by rfl) HKL.out ?_; intro cc hat _; have HQ := Lib.hid (HC.out cc hat); clear hat; rw [HH.out])
    go_ret2
    rw [HA.out, HQ.out]
    exact ⟨rfl, rfl⟩
set_option maxHeartbeats 2000000 in
set_option maxRecDepth 100000 in
theorem names_c (w : World) (base rb mb : Nat) (v : Value) (rs : List PRow) {fz : Bool} (h : RegF w base rb mb v rs fz) :
    Calls Tryd.prog 10 #[.pointer (some ⟨rb, 0, none⟩)] w fun e w' => ∃ v', e = .returned v' ∧ w'.ownsRow w.heap.size 9 1 v' (namesL rs).length ((namesL rs).map Value.string) ∧ Below w.heap.size w w' := by
  obtain ⟨V, c, rfl, hps⟩ := h.row
  have q0 := h.c0
  have hlen := h.len
  clear h
  go_enter Tryd.func10, Tryd.ntmps10
  go_wp2
  go_loopw [3, 11] (fun v i wr => ∃ (k : Nat) (out : List ByteArray), k ≤ rs.length ∧ i = .int .i64 k ∧ out.length ≤ k ∧ Hid (out = (namesL rs).take k) ∧ wr.ownsRow w.heap.size 9 1 v (out.map Value.string).length (out.map Value.string) ∧ Below w.heap.size w wr) (fun _ i _ => rs.length - (intOf i).toNat)
  case atStart => exact ⟨0, [], by omega, rfl, by simp, rfl, World.ownsRow_nil _ _ _ _, Below.refl _ _⟩
  case round =>
    obtain ⟨k, out, hk, rfl, ho, hr, hown, hbel⟩ := hrel
    have hbs := hbel.size
    by_cases hlt : k < rs.length
    · rcases (hps.below hbel).lies with h | ⟨b, off, rfl, hb, hc⟩
      · rw [h] at hlt; simp at hlt
      obtain ⟨g0, g1, g2, g3, g4, g5, g6, g7, g8⟩ := hc k hlt
      obtain ⟨A1, c1, hA1, hs, hl1⟩ := own_strs hown
      subst hA1
      have hnx : (namesL rs).take (k + 1) = (namesL rs).take k ++ [rs[k].p.name] := by rw [List.take_succ_eq_append_getElem (by rw [namesL_length]; exact hlt), namesL_get rs k hlt]
      have HNX := Lib.hid hnx
      clear hl1 hnx hc
      go_wp2_with (at_builtin; refine app_one (w0 := w) w.heap.size (by rfl) _ _ 38 9 (.string ⟨#[]⟩) 16 (by rfl) Tryd.underlying38 info_str rfl (.slice A1 out.length c1) (out.map Value.string) (.string rs[k].p.name) (by rfl) _ (by rfl) (by simp) rfl (hown.alloc _) (hbel.alloc hbs _) (by simp; omega) (by simp; omega) (by simp; omega) ?_; intro v1 w5 hown1 hbel1 _ _)
      go_roundw
      case rel => exact ⟨k + 1, out ++ [rs[k].p.name], by omega, by go_num, by simp; omega, by have := hr.out; show out ++ [_] = _; rw [HNX.out, this], by simpa using hown1, hbel1⟩
      case measure => simp [intOf]; omega
    · have hz : out = namesL rs := by rw [hr.out, List.take_of_length_le (by rw [namesL_length]; omega)]
      have HZ := Lib.hid hz
      clear hz
      go_wp2
      go_ret
      refine ⟨_, rfl, ?_, hbel⟩
      rw [← HZ.out]
      simpa using hown
end Go.Proofs.YtofmdmmgbfbaoaaDoor
