/- The registry's Get, Missing, Users. -/
import Derived.Test.YtofmdmmgbfbaoaaDoorR6
namespace Go.Proofs.YtofmdmmgbfbaoaaDoor
open Go.RowKit Go.Maps Go.ChangeMaps Go.WideShapes

/-- What Get leaves, of a number that is there. -/
def GetPost (p : XProv) (w : World) (e : Ending) (w' : World) : Prop := ∃ A' c', e = .returned (.tuple #[p.val A' c', .int .i64 0]) ∧ OpsAt w' A' p.expr ∧ Below w.heap.size w w'
set_option maxHeartbeats 4000000 in
set_option maxRecDepth 100000 in
theorem get_c (w : World) (base rb mb : Nat) (v : Value) (rs : List PRow) {fz : Bool} (h : RegF w base rb mb v rs fz) (k : Nat) (hk : k < rs.length) :
    Calls Tryd.prog 13 #[.pointer (some ⟨rb, 0, none⟩), .int .i64 (k : Int)] w (GetPost rs[k].p w) := by
  obtain ⟨V, c, hv, hps⟩ := h.row
  subst hv
  have hal : ∀ o, Below w.heap.size w (w.alloc o) := fun o => (Below.refl _ _).alloc (Nat.le_refl _) o
  have q0 := fun o => (h.below (hal o)).c0
  rcases hps.lies with h1 | ⟨b, off, rfl, hb, hc⟩
  · rw [h1] at hk; simp at hk
  obtain ⟨g0, g1, g2, g3, g4, g5, g6, g7, g8⟩ := hc k hk
  have hpk := hps.each rs[k] (List.getElem_mem hk)
  have hi0 : (0 : Int) ≤ (k : Int) := Int.natCast_nonneg _
  have hi1 : (k : Int) < (rs.length : Int) := by omega
  generalize rs[k] = r at *
  obtain ⟨⟨n, es, ag, p1, p2, p3, p4, ck, ct⟩, A, ca⟩ := r
  have hcc := fun W h1 => copied_c ⟨n, es, ag, p1, p2, p3, p4, ck, ct⟩ A ca W h1 hpk.len
  have hops := hpk.ops
  have HAL := Lib.hid hal
  have HCC := Lib.hid hcc
  clear hal hcc hpk hc hps h
  simp only [XProv.val] at *
  go_enter Tryd.func13, Tryd.ntmps13
  go_wp2_with (go_at_call 22; refine (HCC.out _ (hops.below (HAL.out _))).mono ?_; rintro e w1 ⟨A1, c1, rfl, hx1, hf1, hb1⟩; have bw1 : Below w.heap.size w w1 := (HAL.out _).trans (hb1.mono (HAL.out _).size); have hz1 : w.heap.size < w1.heap.size := Nat.lt_of_lt_of_le (by simp) hb1.size; have hA : ∀ b o, A1 = some ⟨b, o, none⟩ → w.heap.size + 1 ≤ b := (fun b o h => (by have h2 := (hf1 b o h).1; rw [al_size] at h2; omega)); have r0 : w1.cell? ⟨w.heap.size, 0, none⟩ = some (.string ⟨#[]⟩) := (hb1.cell (p := ⟨w.heap.size, 0, none⟩) (by simp)).trans (by simp); have r1 : w1.cell? ⟨w.heap.size, 1, none⟩ = some (.slice none 0 0) := (hb1.cell (p := ⟨w.heap.size, 1, none⟩) (by simp)).trans (by simp); have r2 : w1.cell? ⟨w.heap.size, 2, none⟩ = some (.bool false) := (hb1.cell (p := ⟨w.heap.size, 2, none⟩) (by simp)).trans (by simp); have r3 : w1.cell? ⟨w.heap.size, 3, none⟩ = some (.int .i64 0) := (hb1.cell (p := ⟨w.heap.size, 3, none⟩) (by simp)).trans (by simp); have r4 : w1.cell? ⟨w.heap.size, 4, none⟩ = some (.int .i64 0) := (hb1.cell (p := ⟨w.heap.size, 4, none⟩) (by simp)).trans (by simp); have r5 : w1.cell? ⟨w.heap.size, 5, none⟩ = some (.int .i64 0) := (hb1.cell (p := ⟨w.heap.size, 5, none⟩) (by simp)).trans (by simp); have r6 : w1.cell? ⟨w.heap.size, 6, none⟩ = some (.int .i64 0) := (hb1.cell (p := ⟨w.heap.size, 6, none⟩) (by simp)).trans (by simp); have r7 : w1.cell? ⟨w.heap.size, 7, none⟩ = some (.int .i64 0) := (hb1.cell (p := ⟨w.heap.size, 7, none⟩) (by simp)).trans (by simp); have r8 : w1.cell? ⟨w.heap.size, 8, none⟩ = some (.string ⟨#[]⟩) := (hb1.cell (p := ⟨w.heap.size, 8, none⟩) (by simp)).trans (by simp); have x0 : w1.frozen? ⟨w.heap.size, 0, none⟩ = false := (hb1.frozen (p := ⟨w.heap.size, 0, none⟩) (by simp)).trans (by simp); have x1 : w1.frozen? ⟨w.heap.size, 1, none⟩ = false := (hb1.frozen (p := ⟨w.heap.size, 1, none⟩) (by simp)).trans (by simp); have x2 : w1.frozen? ⟨w.heap.size, 2, none⟩ = false := (hb1.frozen (p := ⟨w.heap.size, 2, none⟩) (by simp)).trans (by simp); have x3 : w1.frozen? ⟨w.heap.size, 3, none⟩ = false := (hb1.frozen (p := ⟨w.heap.size, 3, none⟩) (by simp)).trans (by simp); have x4 : w1.frozen? ⟨w.heap.size, 4, none⟩ = false := (hb1.frozen (p := ⟨w.heap.size, 4, none⟩) (by simp)).trans (by simp); have x5 : w1.frozen? ⟨w.heap.size, 5, none⟩ = false := (hb1.frozen (p := ⟨w.heap.size, 5, none⟩) (by simp)).trans (by simp); have x6 : w1.frozen? ⟨w.heap.size, 6, none⟩ = false := (hb1.frozen (p := ⟨w.heap.size, 6, none⟩) (by simp)).trans (by simp); have x7 : w1.frozen? ⟨w.heap.size, 7, none⟩ = false := (hb1.frozen (p := ⟨w.heap.size, 7, none⟩) (by simp)).trans (by simp); have x8 : w1.frozen? ⟨w.heap.size, 8, none⟩ = false := (hb1.frozen (p := ⟨w.heap.size, 8, none⟩) (by simp)).trans (by simp); clear hf1 hb1)
  obtain ⟨wf, hwf⟩ : ∃ wf : World, wf = w1.setCells w.heap.size 0 [.string n, .slice A1 es.length c1, .bool ag, .int .i64 p1, .int .i64 p2, .int .i64 p3, .int .i64 p4, .int .i64 ck, .string ct] := ⟨_, rfl⟩
  refine (?_ : bodyPost _ _ _ _ _ (w1.setCells w.heap.size 0 [.string n, .slice A1 es.length c1, .bool ag, .int .i64 p1, .int .i64 p2, .int .i64 p3, .int .i64 p4, .int .i64 ck, .string ct]))
  rw [← hwf]
  have hbase : ∀ o u, w1.cell? ⟨w.heap.size, o, none⟩ = some u → (w1.cell? ⟨w.heap.size, o, none⟩).isSome = true := fun o u h => by rw [h]; rfl
  have hin : ∀ j (hj : j < 9), wf.cell? ⟨w.heap.size, j, none⟩ = some ([.string n, .slice A1 es.length c1, .bool ag, .int .i64 p1, .int .i64 p2, .int .i64 p3, .int .i64 p4, .int .i64 ck, .string ct][j]'hj) := by
    intro j hj
    have := World.cell?_setCells_in w.heap.size [.string n, .slice A1 es.length c1, .bool ag, .int .i64 p1, .int .i64 p2, .int .i64 p3, .int .i64 p4, .int .i64 ck, .string ct] 0 w1 (fun j hj => ?_) j hj
    · rw [hwf]; rw [Nat.zero_add] at this; exact this
    · rw [Nat.zero_add]
      simp only [List.length_cons, List.length_nil] at hj
      match j, hj with
      | 0, _ => exact hbase _ _ r0
      | 1, _ => exact hbase _ _ r1
      | 2, _ => exact hbase _ _ r2
      | 3, _ => exact hbase _ _ r3
      | 4, _ => exact hbase _ _ r4
      | 5, _ => exact hbase _ _ r5
      | 6, _ => exact hbase _ _ r6
      | 7, _ => exact hbase _ _ r7
      | 8, _ => exact hbase _ _ r8
  have f0 : wf.cell? ⟨w.heap.size, 0, none⟩ = some (.string n) := hin 0 (by simp)
  have f1 : wf.cell? ⟨w.heap.size, 1, none⟩ = some (.slice A1 es.length c1) := hin 1 (by simp)
  have f2 : wf.cell? ⟨w.heap.size, 2, none⟩ = some (.bool ag) := hin 2 (by simp)
  have f3 : wf.cell? ⟨w.heap.size, 3, none⟩ = some (.int .i64 p1) := hin 3 (by simp)
  have f4 : wf.cell? ⟨w.heap.size, 4, none⟩ = some (.int .i64 p2) := hin 4 (by simp)
  have f5 : wf.cell? ⟨w.heap.size, 5, none⟩ = some (.int .i64 p3) := hin 5 (by simp)
  have f6 : wf.cell? ⟨w.heap.size, 6, none⟩ = some (.int .i64 p4) := hin 6 (by simp)
  have f7 : wf.cell? ⟨w.heap.size, 7, none⟩ = some (.int .i64 ck) := hin 7 (by simp)
  have f8 : wf.cell? ⟨w.heap.size, 8, none⟩ = some (.string ct) := hin 8 (by simp)
  have hfo : OpsAt wf A1 es := by
    rw [hwf]
    simp only [World.setCells]
    repeat (refine ops_set ?_ _ _ (fun b o h => by have := hA b o h; simp; omega))
    exact hx1
  have hbel : Below w.heap.size w wf := by
    rw [hwf]
    simp only [World.setCells]
    repeat (refine Below.setCell ?_ (by simp) _)
    exact bw1
  clear hwf
  refine bodyPost_ret (v := .tuple #[.agg #[.string n, .slice A1 es.length c1, .bool ag, .int .i64 p1, .int .i64 p2, .int .i64 p3, .int .i64 p4, .int .i64 ck, .string ct], .int .i64 0]) (by simp [results, Tryd.results13, go_sem, f0, f1, f2, f3, f4, f5, f6, f7, f8]; try rfl) rfl ?_
  exact ⟨A1, c1, rfl, hfo, hbel⟩
/-- A row of texts alone. -/
def RowOnly (l : List ByteArray) (w : World) (e : Ending) (w' : World) : Prop := ∃ X d, e = .returned (.slice X l.length d) ∧ StrsAt w' X l ∧ Below w.heap.size w w'
theorem missingM_c (w : World) (base rb mb : Nat) (v : Value) (rs : List PRow) {fz : Bool} (h : RegF w base rb mb v rs fz) (hkeys : KeysIn w) :
    Calls Tryd.prog 20 #[.pointer (some ⟨rb, 0, none⟩)] w (RowOnly (missAns (provsL rs)).1 w) := by
  obtain ⟨V, c, hv, hps⟩ := h.row
  subst hv
  have q0 := h.c0
  have hlen := h.len
  have hms := missN_c rs V c w hps (by omega) hkeys
  generalize missAns (provsL rs) = ms at *
  obtain ⟨l, fa, fc⟩ := ms
  have HMS := Lib.hid hms
  clear hms h hps
  go_enter Tryd.func20, Tryd.ntmps20
  go_wp2_with (go_at_call 34; refine HMS.out.mono ?_; rintro e w1 ⟨v1, rfl, hown, hb1⟩; obtain ⟨X, d, rfl, hs1, hq⟩ := own_strs hown; clear hq)
  go_ret
  exact ⟨X, d, rfl, hs1.below ((Below.refl _ _).alloc (Nat.le_refl _) _), hb1.alloc hb1.size _⟩
/-- Is an operation a name's? -/
def hasOp (s : ByteArray) (o : XOp) : Bool := (o.kind == 3) && decide (o.text = s)
theorem users1_c (o : XOp) (s : ByteArray) (cb : Nat) (w : World) (hcb : cb < w.heap.size) (hc : w.cell? ⟨cb, 0, none⟩ = some (.string s)) :
    Calls Tryd.prog 33 #[.agg #[.int .i64 o.kind, .int .i64 o.n, .int .i64 o.int, .string o.text], .pointer (some ⟨cb, 0, none⟩)] w fun e w' => e = .returned (.bool (hasOp s o)) ∧ Below w.heap.size w w' := by
  obtain ⟨k, n, i, t⟩ := o
  simp only [hasOp]
  have hb : (t.toList == s.toList) = decide (t = s) := bytes_beq t s
  go_enter Tryd.func33, Tryd.ntmps33
  go_wp2
  all_goals go_ret
  all_goals refine ⟨ret_bool ?_, (Below.refl _ _).alloc (Nat.le_refl _) _⟩
  all_goals simp_all
end Go.Proofs.YtofmdmmgbfbaoaaDoor
