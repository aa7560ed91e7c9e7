/- A provider is as its copy. -/
import Derived.Test.YtofmdmmgbfbaoaaDoorA17
namespace Go.Proofs.YtofmdmmgbfbaoaaDoor
open Go.RowKit

theorem sameExpr_self (es : List XOp) (A B : Option Addr) (c d : Nat) (w : World) (hx : OpsAt w A es) (hy : OpsAt w B es) (hl : es.length * 40 ≤ 140737488355328) :
    Calls Tryd.prog 24 #[.slice A es.length c, .slice B es.length d] w fun e w' => e = .returned (.bool true) ∧ ∃ n, w' = w.drewN n := by
  refine (sameExpr_c es es A B c d w hx hy hl).mono ?_
  rintro e w' ⟨⟨b, rfl, h⟩, hd⟩
  exact ⟨ret_bool (h.2 rfl), hd⟩
set_option maxHeartbeats 4000000 in
set_option maxRecDepth 100000 in
theorem sameProv_c (p : XProv) (A B : Option Addr) (c d : Nat) (w : World) (hx : OpsAt w A p.expr) (hy : OpsAt w B p.expr) (hl : p.expr.length * 40 ≤ 140737488355328) :
    Calls Tryd.prog 14 #[p.val A c, p.val B d] w fun e w' => e = .returned (.bool true) ∧ Below w.heap.size w w' := by
  obtain ⟨n, es, ag, p1, p2, p3, p4, ck, ct⟩ := p
  simp only [XProv.val] at *
  have hq : ∀ W : World, (binOp .eql 32 (.agg #[.int .i64 p1, .int .i64 p2, .int .i64 p3, .int .i64 p4]) (.agg #[.int .i64 p1, .int .i64 p2, .int .i64 p3, .int .i64 p4])).run Tryd.prog W = .ok (.bool true) W := fun W => by rw [eq_pol_run]; simp
  have hq2 : ∀ W : World, (binOp .eql 34 (.agg #[.int .i64 ck, .string ct]) (.agg #[.int .i64 ck, .string ct])).run Tryd.prog W = .ok (.bool true) W := fun W => by rw [eq_clo_run]; simp
  have hx0 : ∀ o o' : Obj, OpsAt ((w.alloc o).alloc o') A es := fun o o' => hx.below (((Below.refl _ _).alloc (Nat.le_refl _) o).alloc (by simp) o')
  have hy0 : ∀ o o' : Obj, OpsAt ((w.alloc o).alloc o') B es := fun o o' => hy.below (((Below.refl _ _).alloc (Nat.le_refl _) o).alloc (by simp) o')
  go_enter Tryd.func14, Tryd.ntmps14
  go_wp2_with (go_at_call 24; refine (sameExpr_self es A B c d _ (hx0 _ _) (hy0 _ _) hl).mono ?_; rintro e w' ⟨rfl, nn, rfl⟩)
  go_ret
  exact ⟨rfl, below_drewN (((Below.refl _ _).alloc (Nat.le_refl _) _).alloc (by simp) _) _⟩
end Go.Proofs.YtofmdmmgbfbaoaaDoor
