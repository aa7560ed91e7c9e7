/- The chapter's example of a registry works. -/
import Derived.Test.YtofmdmmgbfbaoaaDoorR8
namespace Go.Proofs.YtofmdmmgbfbaoaaDoor
open Go.RowKit Go.Maps Go.ChangeMaps Go.WideShapes

def exA : XProv := ⟨⟨#[97]⟩, [⟨3, 0, 0, ⟨#[98]⟩⟩], false, 0, 0, 0, 0, 0, ⟨#[]⟩⟩
def exB : XProv := ⟨⟨#[98]⟩, [⟨1, 0, 1, ⟨#[]⟩⟩], false, 0, 0, 0, 0, 0, ⟨#[]⟩⟩
def exC : XProv := ⟨⟨#[97]⟩, [⟨1, 0, 2, ⟨#[]⟩⟩], false, 0, 0, 0, 0, 0, ⟨#[]⟩⟩
theorem exA_ok : provF exA = 0 := by kernel_rfl
theorem exB_ok : provF exB = 0 := by kernel_rfl
theorem exC_no : addAns [⟨#[97]⟩, ⟨#[98]⟩] exC = (0, 6) := by kernel_rfl
theorem ex_miss : missAns [exA, exB] = ([], (0, 0)) := by kernel_rfl
theorem ex_users (A A' : Option Addr) (c c' : Nat) : usersL ⟨#[98]⟩ [⟨exA, A, c⟩, ⟨exB, A', c'⟩] = [⟨#[97]⟩] := rfl
theorem ops_new (w : World) (es : List XOp) (t : TypeId) : OpsAt (w.alloc (.cells (opCells es).toArray t)) (some ⟨w.heap.size, 0, none⟩) es := ops_block (heap_alloc_new w _)
theorem ex_prov {w : World} {A : Option Addr} {p : XProv} (h : OpsAt w A p.expr) (h1 : p.expr.length * 40 ≤ 140737488355328) (h2 : p.name.size ≤ 140737488355328) (h3 : p.ct.size ≤ 140737488355328) (h4 : ∀ o ∈ p.expr, o.text.size ≤ 140737488355328) : ProvAt w A p := ⟨h, h1, h2, h3, h4⟩
theorem strs_at (w : World) (xs : List ByteArray) (t : TypeId) : StrsAt (w.alloc (.cells (xs.map Value.string).toArray t)) (some ⟨w.heap.size, 0, none⟩) xs := by
  refine .inr ⟨w.heap.size, 0, rfl, by simp, fun i hi => ?_⟩
  rw [cell_new]
  simp [hi]
theorem add_exC (w : World) (base rb mb : Nat) (v : Value) (A A' : Option Addr) (c c' : Nat) (h : RegAt w base rb mb v [⟨exA, A, c⟩, ⟨exB, A', c'⟩]) (B : Option Addr) (d : Nat) (hp : ProvAt w B exC) (hkeys : KeysIn w) :
    Calls Tryd.prog 8 #[.pointer (some ⟨rb, 0, none⟩), exC.val B d] w fun e w' => e = .returned (.tuple #[.int .i64 0, .int .i64 6]) ∧ Below w.heap.size w w' := by
  have hN : addAns (namesL [⟨exA, A, c⟩, ⟨exB, A', c'⟩]) exC = (0, 6) := exC_no
  refine (add_no w base rb mb v _ exC B d h hp hkeys (by rw [hN]; decide)).mono ?_
  rintro e w' ⟨he, hb⟩
  rw [hN] at he
  exact ⟨he, hb⟩
theorem users_ex (w : World) (base rb mb : Nat) (v : Value) (A A' : Option Addr) (c c' : Nat) (h : RegAt w base rb mb v [⟨exA, A, c⟩, ⟨exB, A', c'⟩]) :
    Calls Tryd.prog 19 #[.pointer (some ⟨rb, 0, none⟩), .string ⟨#[98]⟩] w (RowOnly [⟨#[97]⟩] w) := by
  have := users_c w base rb mb v _ ⟨#[98]⟩ h
  rw [ex_users] at this
  exact this
theorem missing_ex (w : World) (base rb mb : Nat) (v : Value) (A A' : Option Addr) (c c' : Nat) (h : RegAt w base rb mb v [⟨exA, A, c⟩, ⟨exB, A', c'⟩]) (hkeys : KeysIn w) :
    Calls Tryd.prog 20 #[.pointer (some ⟨rb, 0, none⟩)] w (RowOnly [] w) := by
  have := missingM_c w base rb mb v _ h hkeys
  rw [show provsL [⟨exA, A, c⟩, ⟨exB, A', c'⟩] = [exA, exB] from rfl, ex_miss] at this
  exact this
set_option maxHeartbeats 800000 in
set_option maxRecDepth 100000 in
theorem works_c (w : World) (hkeys : KeysIn w) :
    Calls Tryd.prog 6 #[] w fun e w' => e = .returned (.bool true) ∧ Below w.heap.size w w' := by
  have hal : ∀ (W : World) o, Below W.heap.size W (W.alloc o) := fun W o => (Below.refl _ _).alloc (Nat.le_refl _) o
  have HAL := Lib.hid hal
  clear hal
  go_enter Tryd.func6, Tryd.ntmps6
  go_wp2_with (first | (go_at_call 7; refine (new_c _).mono ?_; rintro e w1 ⟨rb, mb, rfl, hr1, hb1⟩) | (go_at_call 8; refine (add_exC _ w.heap.size rb mb v3 A2 A3 c2 c3 (hr3.below (HAL.out _ _)) (some ⟨w3.heap.size, 0, none⟩) 1 (ex_prov (ops_new w3 exC.expr 58) (by decide) (by decide) (by decide) (by decide)) (hkeys.below (hbw3.alloc hbw3.size _))).mono ?_; rintro e w4 ⟨rfl, hb4'⟩; have hb4 : Below w3.heap.size w3 w4 := (HAL.out _ _).trans (hb4'.mono (HAL.out _ _).size); have hbw4 := hbw3.trans (hb4.mono hbw3.size); have hr4 := hr3.below hb4) | (go_at_call 8; refine (add_yes _ w.heap.size rb mb v2 [⟨exA, A2, c2⟩] exB (some ⟨w2.heap.size, 0, none⟩) 1 (hr2.below (HAL.out _ _)) (ex_prov (ops_new w2 exB.expr 58) (by decide) (by decide) (by decide) (by decide)) (hkeys.below (hbw2.alloc hbw2.size _)) exB_ok rfl (by simp)).mono ?_; rintro e w3 ⟨rfl, v3, A3, c3, hr3', _, _, hb3, _⟩; have hbw3 := (hbw2.alloc hbw2.size _).trans hb3; have hr3 : RegAt w3 w.heap.size rb mb v3 [⟨exA, A2, c2⟩, ⟨exB, A3, c3⟩] := hr3') | (go_at_call 8; refine (add_yes _ w.heap.size rb mb _ [] exA (some ⟨w1.heap.size, 0, none⟩) 1 (hr1.below (HAL.out _ _)) (ex_prov (ops_new w1 exA.expr 58) (by decide) (by decide) (by decide) (by decide)) (hkeys.below (hb1.alloc hb1.size _)) exA_ok rfl (by decide)).mono ?_; rintro e w2 ⟨rfl, v2, A2, c2, hr2', _, _, hb2, _⟩; have hbw2 := (hb1.alloc hb1.size _).trans hb2; have hr2 : RegAt w2 w.heap.size rb mb v2 [⟨exA, A2, c2⟩] := hr2') | (go_at_call 19; refine (users_ex _ w.heap.size rb mb v3 A2 A3 c2 c3 hr4).mono ?_; rintro e w5 ⟨X5, d5, rfl, hs5, hb5⟩; have hbw5 := hbw4.trans (hb5.mono hbw4.size); have hr5 := hr4.below hb5) | (go_at_call 18; refine (sameTexts_c [⟨#[97]⟩] X5 (some ⟨w5.heap.size, 0, none⟩) d5 1 _ (hs5.below (HAL.out _ _)) (strs_at w5 [⟨#[97]⟩] 9) (by decide)).mono ?_; rintro e w6 ⟨rfl, hb6'⟩; have hb6 : Below w5.heap.size w5 w6 := (HAL.out _ _).trans (hb6'.mono (HAL.out _ _).size); have hbw6 := hbw5.trans (hb6.mono hbw5.size); have hr6 := hr5.below hb6) | (go_at_call 20; refine (missing_ex _ w.heap.size rb mb v3 A2 A3 c2 c3 hr6 (hkeys.below hbw6)).mono ?_; rintro e w7 ⟨X7, d7, rfl, _, hb7⟩; have hbw7 := hbw6.trans (hb7.mono hbw6.size)))
  go_ret
  exact ⟨rfl, hbw7⟩
end Go.Proofs.YtofmdmmgbfbaoaaDoor
