/- Spoiling. -/
import Derived.Test.YtpdfcffeinbcaaaH18
namespace Go.Proofs.Ytpdfcffeinbcaaa
open Go.RowKit
set_option maxHeartbeats 1000000 in
theorem spoil_c (n : Int) (E : Option Addr) (d l B : Nat) (w : World) (hB : B ≤ w.heap.size) (hs : Spoil w B E d) (hl : E = none → l = 0) :
    Calls Try.prog 24 #[.agg #[.int .i64 n, .slice E l d]] w fun e w' => e = .returned (.tuple #[]) ∧ Below B w w' := by
  rcases hs with ⟨rfl, rfl⟩ | ⟨b, rfl, hb, hd, ls0, he⟩
  · obtain rfl : l = 0 := hl rfl
    have hb0 : Below B w (w.alloc (.cells #[.int .i64 n, .slice none 0 0] 24)) := (Below.refl _ _).alloc hB _
    go_enter Try.func24, Try.ntmps24
    go_wp2
    go_loopw [3] (fun i wr => i = .int .i64 0 ∧ Below B w wr) (fun i _ => 0)
    case atStart => exact ⟨rfl, hb0⟩
    case round =>
      obtain ⟨rfl, hbel⟩ := hrel
      go_wp2
      go_end0
      exact ⟨rfl, hbel⟩
  · have hb0 : Below B w (w.alloc (.cells #[.int .i64 n, .slice (some ⟨b, 0, none⟩) l d] 24)) := (Below.refl _ _).alloc hB _
    have he0 : EAtF (w.alloc (.cells #[.int .i64 n, .slice (some ⟨b, 0, none⟩) l d] 24)) b d ls0 := he.below ((Below.refl _ _).alloc (Nat.le_refl _) _)
    have HE0 := Lib.hid he0
    clear he he0
    go_enter Try.func24, Try.ntmps24
    go_wp2
    go_loopw [3] (fun i wr => ∃ (j : Nat) (ls : Nat → Int × Int), i = .int .i64 j ∧ j ≤ d ∧ EAtF wr b d ls ∧ Below B w wr) (fun i _ => d - (intOf i).toNat)
    case atStart => exact ⟨0, _, rfl, by omega, HE0.out, hb0⟩
    case round =>
      obtain ⟨j, ls, rfl, hj, he, hbel⟩ := hrel
      by_cases hlt : j < d
      · have hj0 : (0 : Int) ≤ (j : Int) := by omega
        have hj1 : (j : Int) < (d : Int) := by omega
        obtain ⟨e0, e1⟩ := he.2.1 j hlt
        have z0 := he.2.2 (j * 2)
        have z1 := he.2.2 (j * 2 + 1)
        have HE := Lib.hid he
        have HBE := Lib.hid hbel
        clear he hbel
        go_wp2
        go_roundw
        case rel => exact ⟨j + 1, _, by go_num, by omega, HE.out.set hlt _ _, (HBE.out.setCell hb _).setCell hb _⟩
        case measure => simp [intOf]; omega
      · have hge : ¬ (j : Int) < (d : Int) := by omega
        clear he
        go_wp2
        go_end0
        exact ⟨rfl, hbel⟩
end Go.Proofs.Ytpdfcffeinbcaaa
