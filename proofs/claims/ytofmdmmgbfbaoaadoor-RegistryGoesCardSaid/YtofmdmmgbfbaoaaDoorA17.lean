/- names.CheckProvider; copies and comparisons of providers. -/
import Derived.Test.YtofmdmmgbfbaoaaDoorA16
import Derived.Handy
namespace Go.Proofs.YtofmdmmgbfbaoaaDoor
open Go.RowKit

set_option maxHeartbeats 4000000 in
set_option maxRecDepth 100000 in
theorem checkProv_c (p : XProv) (A : Option Addr) (c : Nat) (w : World) (hp : ProvAt w A p) (hkeys : KeysIn w) :
    Calls Tryd.prog 21 #[p.val A c] w fun e w' => e = .returned (.int .i64 (provF p)) ∧ Below w.heap.size w w' := by
  obtain ⟨n, es, ag, p1, p2, p3, p4, ck, ct⟩ := p
  obtain ⟨hx, hl, hn, hct, ht⟩ := hp
  simp only [XProv.val] at *
  have hk0 : ∀ o : Obj, KeysIn (w.alloc o) := fun o => hkeys.below ((Below.refl _ _).alloc (Nat.le_refl _) o)
  have hx0 : ∀ o : Obj, OpsAt (w.alloc o) A es := fun o => hx.below ((Below.refl _ _).alloc (Nat.le_refl _) o)
  have hcl : ∀ (h : 0 ≤ ck ∧ ck ≤ 3), cloErr ck ct = if ck < 2 ∧ ct.toList.isEmpty = false then 51 else if 4096 < ct.size then 3 else 0 := by
    intro h
    unfold cloErr
    by_cases h2 : ck < 2 ∧ ct.toList.isEmpty = false
    · rw [if_pos h2, if_pos (.inr (.inr h2))]
    · rw [if_neg h2, if_neg (by rintro (h3 | h3 | h3)
                                · omega
                                · omega
                                · exact h2 h3)]
  have hco : ∀ (h : ck < 0 ∨ 3 < ck), cloErr ck ct = 51 := by
    intro h
    unfold cloErr
    rw [if_pos (h.elim .inl (fun h => .inr (.inl h)))]
  have HCL := Lib.hid hcl
  have HCO := Lib.hid hco
  clear hcl hco
  have hle : ct.toList.isEmpty = true ∨ ct.toList.isEmpty = false := by cases ct.toList.isEmpty <;> simp
  rcases hle with he | he
  all_goals
    go_enter Tryd.func21, Tryd.ntmps21
    go_wp2_with (first | (go_at_call 35; refine (isName_c _ _ (hk0 _) hn).mono ?_; rintro e w' ⟨rfl, rfl⟩) | (go_at_call 36; refine (check_c es A c _ (hx0 _) hl (hk0 _) ht).mono ?_; rintro e w2 ⟨rfl, hb2⟩; obtain ⟨hc2, _⟩ := bcell hb2; have bw2 : Below w.heap.size w w2 := ((Below.refl _ _).alloc (Nat.le_refl _) _).trans (hb2.mono (by simp)); have hs2 : w.heap.size < w2.heap.size := Nat.lt_of_lt_of_le (by simp) hb2.size) | (go_at_call 37; refine (policy_c _ _ _ _ _).mono ?_; rintro e w3 ⟨rfl, hb3⟩; obtain ⟨hc3, _⟩ := bcell hb3; have bw3 := bw2.trans (hb3.mono bw2.size); have hs3 : w.heap.size < w3.heap.size := Nat.lt_of_lt_of_le hs2 hb3.size))
    all_goals go_ret
    all_goals refine ⟨ret_int ?_, by first | exact bw3 | exact bw2 | exact ((Below.refl _ _).alloc (Nat.le_refl _) _)⟩
    all_goals (try clear hb2 hc2 bw2)
    all_goals (try clear hb3 hc3 bw3)
    all_goals (clear hk0 hx0)
    all_goals (simp only [provF])
    all_goals (first | (simp_all; done) | (rw [HCO.out (by omega)]; simp_all; done) | (rw [HCL.out (by omega)]; simp_all; done) | (rw [HCL.out (by omega)]; simp_all; omega))
/-- Where a slice lies: in a block from lo on, ahead of hi. -/
def Fresh (lo hi : Nat) (A : Option Addr) : Prop := ∀ b o, A = some ⟨b, o, none⟩ → lo ≤ b ∧ b < hi
theorem Fresh.more {lo lo' hi hi' : Nat} {A : Option Addr} (h : Fresh lo hi A) (h1 : lo' ≤ lo) (h2 : hi ≤ hi') : Fresh lo' hi' A := fun b o e => ⟨Nat.le_trans h1 (h b o e).1, Nat.lt_of_lt_of_le (h b o e).2 h2⟩
theorem own_fresh {w : World} {base n m c : Nat} {e : TypeId} {sz : Nat} {A : Option Addr} {xs : List Value} (h : w.ownsRow base e sz (.slice A m c) n xs) : Fresh base w.heap.size A := fun b o e => h.lt b (by subst e; rfl)
theorem copyExpr_f (es : List XOp) (A : Option Addr) (c : Nat) (w : World) (hx : OpsAt w A es) (hl : es.length * 40 ≤ 140737488355328) :
    Calls Tryd.prog 23 #[.slice A es.length c] w fun e w' => ∃ A' c', e = .returned (.slice A' es.length c') ∧ OpsAt w' A' es ∧ Fresh w.heap.size w'.heap.size A' ∧ Below w.heap.size w w' := by
  refine (copyExpr_c es A c w hx hl).mono ?_
  rintro e w1 ⟨v, rfl, hown, hb⟩
  obtain ⟨A1, c1, rfl, hs1, _⟩ := own_ops hown
  exact ⟨A1, c1, rfl, hs1, own_fresh hown, hb⟩
theorem ops_set {w : World} {A : Option Addr} {es : List XOp} (h : OpsAt w A es) (p : Addr) (v : Value) (hA : ∀ b o, A = some ⟨b, o, none⟩ → p.block ≠ b) : OpsAt (w.setCell p v) A es := by
  rcases h with h | ⟨b, off, e, hl, hc⟩
  · exact .inl h
  · have hne := hA b off e
    have hk : ∀ o, (w.setCell p v).cell? ⟨b, o, none⟩ = w.cell? ⟨b, o, none⟩ := fun o => World.cell?_setCell_other w p ⟨b, o, none⟩ v (fun h => hne (by cases h; rfl))
    exact .inr ⟨b, off, e, by simpa [World.setCell] using hl, fun i hi => by simp only [hk]; exact hc i hi⟩
set_option maxHeartbeats 4000000 in
set_option maxRecDepth 100000 in
theorem copyProv_c (p : XProv) (A : Option Addr) (c : Nat) (w : World) (hx : OpsAt w A p.expr) (hl : p.expr.length * 40 ≤ 140737488355328) :
    Calls Tryd.prog 9 #[p.val A c] w fun e w' => ∃ A' c', e = .returned (p.val A' c') ∧ OpsAt w' A' p.expr ∧ Fresh w.heap.size w'.heap.size A' ∧ Below w.heap.size w w' := by
  obtain ⟨n, es, ag, p1, p2, p3, p4, ck, ct⟩ := p
  simp only [XProv.val] at *
  go_enter Tryd.func9, Tryd.ntmps9
  go_wp2_with (go_at_call 23; go_loud (refine (copyExpr_c es A c _ (hx.below (((Below.refl _ _).alloc (Nat.le_refl _) _).alloc (by simp) _)) hl).mono ?_; rintro e w1 ⟨v, rfl, hown, hb1⟩; obtain ⟨A1, c1, rfl, hs1, _⟩ := own_ops hown; obtain ⟨hc1, hf1⟩ := bcell hb1; have hz1 := hb1.size; have q0 : w1.cell? ⟨w.heap.size, 0, none⟩ = some (.string n) := (hc1 w.heap.size 0 (by simp <;> omega)).trans (by simp); have q1 : w1.cell? ⟨w.heap.size, 1, none⟩ = some (.slice A es.length c) := (hc1 w.heap.size 1 (by simp <;> omega)).trans (by simp); have q2 : w1.cell? ⟨w.heap.size, 2, none⟩ = some (.bool ag) := (hc1 w.heap.size 2 (by simp <;> omega)).trans (by simp); have q3 : w1.cell? ⟨w.heap.size, 3, none⟩ = some (.int .i64 p1) := (hc1 w.heap.size 3 (by simp <;> omega)).trans (by simp); have q4 : w1.cell? ⟨w.heap.size, 4, none⟩ = some (.int .i64 p2) := (hc1 w.heap.size 4 (by simp <;> omega)).trans (by simp); have q5 : w1.cell? ⟨w.heap.size, 5, none⟩ = some (.int .i64 p3) := (hc1 w.heap.size 5 (by simp <;> omega)).trans (by simp); have q6 : w1.cell? ⟨w.heap.size, 6, none⟩ = some (.int .i64 p4) := (hc1 w.heap.size 6 (by simp <;> omega)).trans (by simp); have q7 : w1.cell? ⟨w.heap.size, 7, none⟩ = some (.int .i64 ck) := (hc1 w.heap.size 7 (by simp <;> omega)).trans (by simp); have q8 : w1.cell? ⟨w.heap.size, 8, none⟩ = some (.string ct) := (hc1 w.heap.size 8 (by simp <;> omega)).trans (by simp); have r0 : w1.cell? ⟨w.heap.size + 1, 0, none⟩ = some (.string ⟨#[]⟩) := (hc1 (w.heap.size + 1) 0 (by simp <;> omega)).trans (by simp); have r1 : w1.cell? ⟨w.heap.size + 1, 1, none⟩ = some (.slice none 0 0) := (hc1 (w.heap.size + 1) 1 (by simp <;> omega)).trans (by simp); have r2 : w1.cell? ⟨w.heap.size + 1, 2, none⟩ = some (.bool false) := (hc1 (w.heap.size + 1) 2 (by simp <;> omega)).trans (by simp); have r3 : w1.cell? ⟨w.heap.size + 1, 3, none⟩ = some (.int .i64 0) := (hc1 (w.heap.size + 1) 3 (by simp <;> omega)).trans (by simp); have r4 : w1.cell? ⟨w.heap.size + 1, 4, none⟩ = some (.int .i64 0) := (hc1 (w.heap.size + 1) 4 (by simp <;> omega)).trans (by simp); have r5 : w1.cell? ⟨w.heap.size + 1, 5, none⟩ = some (.int .i64 0) := (hc1 (w.heap.size + 1) 5 (by simp <;> omega)).trans (by simp); have r6 : w1.cell? ⟨w.heap.size + 1, 6, none⟩ = some (.int .i64 0) := (hc1 (w.heap.size + 1) 6 (by simp <;> omega)).trans (by simp); have r7 : w1.cell? ⟨w.heap.size + 1, 7, none⟩ = some (.int .i64 0) := (hc1 (w.heap.size + 1) 7 (by simp <;> omega)).trans (by simp); have r8 : w1.cell? ⟨w.heap.size + 1, 8, none⟩ = some (.string ⟨#[]⟩) := (hc1 (w.heap.size + 1) 8 (by simp <;> omega)).trans (by simp); have hA : ∀ b o, A1 = some ⟨b, o, none⟩ → w.heap.size + 2 ≤ b := fun b o h => (by have h2 := (hown.lt b (by subst h; rfl)).1; simp at h2; omega); have bw1 : Below w.heap.size w w1 := (((Below.refl _ _).alloc (Nat.le_refl _) _).alloc (by simp) _).trans (hb1.mono (by simp <;> omega)); have hF := own_fresh hown; clear hown hc1 hb1))
  obtain ⟨wf, hwf⟩ : ∃ wf : World, wf = (w1.setCell ⟨w.heap.size, 1, none⟩ (.slice A1 es.length c1)).setCells (w.heap.size + 1) 0 [.string n, .slice A1 es.length c1, .bool ag, .int .i64 p1, .int .i64 p2, .int .i64 p3, .int .i64 p4, .int .i64 ck, .string ct] := ⟨_, rfl⟩
  refine (?_ : bodyPost _ _ _ _ _ ((w1.setCell ⟨w.heap.size, 1, none⟩ (.slice A1 es.length c1)).setCells (w.heap.size + 1) 0 [.string n, .slice A1 es.length c1, .bool ag, .int .i64 p1, .int .i64 p2, .int .i64 p3, .int .i64 p4, .int .i64 ck, .string ct]))
  rw [← hwf]
  have hbase : ∀ o u, w1.cell? ⟨w.heap.size + 1, o, none⟩ = some u → ((w1.setCell ⟨w.heap.size, 1, none⟩ (.slice A1 es.length c1)).cell? ⟨w.heap.size + 1, o, none⟩).isSome = true := fun o u h => by
    rw [World.cell?_setCell_far _ _ _ _ (by simp), h]; rfl
  have hin : ∀ j (hj : j < 9), wf.cell? ⟨w.heap.size + 1, j, none⟩ = some ([.string n, .slice A1 es.length c1, .bool ag, .int .i64 p1, .int .i64 p2, .int .i64 p3, .int .i64 p4, .int .i64 ck, .string ct][j]'hj) := by
    intro j hj
    have := World.cell?_setCells_in (w.heap.size + 1) [.string n, .slice A1 es.length c1, .bool ag, .int .i64 p1, .int .i64 p2, .int .i64 p3, .int .i64 p4, .int .i64 ck, .string ct] 0 (w1.setCell ⟨w.heap.size, 1, none⟩ (.slice A1 es.length c1)) (fun j hj => ?_) j hj
    · rw [hwf]; rw [Nat.zero_add] at this; exact this
    · rw [Nat.zero_add]
      simp only [List.length_cons, List.length_nil] at hj
      match j, hj with
      | 0, _ => exact hbase _ _ r0
      | 1, _ => exact hbase _ _ r1
      | 2, _ => exact hbase _ _ r2
      | 3, _ => exact hbase _ _ r3
      | 4, _ => exact hbase _ _ r4
      | 5, _ => exact hbase _ _ r5
      | 6, _ => exact hbase _ _ r6
      | 7, _ => exact hbase _ _ r7
      | 8, _ => exact hbase _ _ r8
  have f0 : wf.cell? ⟨w.heap.size + 1, 0, none⟩ = some (.string n) := hin 0 (by simp)
  have f1 : wf.cell? ⟨w.heap.size + 1, 1, none⟩ = some (.slice A1 es.length c1) := hin 1 (by simp)
  have f2 : wf.cell? ⟨w.heap.size + 1, 2, none⟩ = some (.bool ag) := hin 2 (by simp)
  have f3 : wf.cell? ⟨w.heap.size + 1, 3, none⟩ = some (.int .i64 p1) := hin 3 (by simp)
  have f4 : wf.cell? ⟨w.heap.size + 1, 4, none⟩ = some (.int .i64 p2) := hin 4 (by simp)
  have f5 : wf.cell? ⟨w.heap.size + 1, 5, none⟩ = some (.int .i64 p3) := hin 5 (by simp)
  have f6 : wf.cell? ⟨w.heap.size + 1, 6, none⟩ = some (.int .i64 p4) := hin 6 (by simp)
  have f7 : wf.cell? ⟨w.heap.size + 1, 7, none⟩ = some (.int .i64 ck) := hin 7 (by simp)
  have f8 : wf.cell? ⟨w.heap.size + 1, 8, none⟩ = some (.string ct) := hin 8 (by simp)
  have hops : OpsAt wf A1 es := by
    rw [hwf]
    simp only [World.setCells]
    repeat (refine ops_set ?_ _ _ (fun b o h => by have := hA b o h; simp; omega))
    exact hs1
  have hbel : Below w.heap.size w wf := by
    rw [hwf]
    simp only [World.setCells]
    repeat (refine Below.setCell ?_ (by simp) _)
    exact bw1
  have hF2 : Fresh w.heap.size wf.heap.size A1 := by
    rw [hwf]
    simp only [World.setCells]
    exact hF.more (by simp; omega) (by simp [World.setCell])
  clear hwf
  refine bodyPost_ret (v := .agg #[.string n, .slice A1 es.length c1, .bool ag, .int .i64 p1, .int .i64 p2, .int .i64 p3, .int .i64 p4, .int .i64 ck, .string ct]) (by simp [results, Tryd.results9, go_sem, f0, f1, f2, f3, f4, f5, f6, f7, f8]; try rfl) rfl ?_
  exact ⟨A1, c1, rfl, hops, hF2, hbel⟩
end Go.Proofs.YtofmdmmgbfbaoaaDoor
