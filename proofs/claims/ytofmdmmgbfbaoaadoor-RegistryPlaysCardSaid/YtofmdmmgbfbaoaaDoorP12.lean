/- The law RegistryPlays. -/
import Derived.Test.YtofmdmmgbfbaoaaDoorP11
namespace Go.Proofs.YtofmdmmgbfbaoaaDoor
open Go.RowKit Go.Maps Go.ChangeMaps Go.WideShapes

theorem plays_c (xs : List ARow) (X : Option Addr) (cx : Nat) (s : ByteArray) (num : Int) (w : World) (hx : ActsAt w X xs) (hl : xs.length * 112 ≤ 140737488355328) (hs : s.size ≤ 140737488355328) (hkeys : KeysIn w) :
    Calls Tryd.prog 4 #[.slice X xs.length cx, .string s, .int .i64 num] w fun e w' => e = .returned (.bool true) ∧ Below w.heap.size w w' := by
  have hp := play_c xs X cx s num w hx hl hs hkeys
  have HP := Lib.hid hp
  clear hp
  go_enter Tryd.func4, Tryd.ntmps4
  go_wp2_with (go_at_call 15; refine HP.out.mono ?_; rintro e w1 ⟨base, rb, mb, v, gs, fz, V, c, ys, rfl, hpr, hlo, hb1⟩; clear hpr hlo)
  go_ret
  exact ⟨rfl, hb1.alloc hb1.size _⟩
end Go.Proofs.YtofmdmmgbfbaoaaDoor
