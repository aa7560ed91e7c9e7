/- The chapter's examples work. -/
import Derived.Test.YtgopflklcfcocaaDoorA36
import Derived.Test.YtgopflklcfcocaaDoorA35
namespace Go.Proofs.YtgopflklcfcocaaDoor
open Go.RowKit

def exCells : Array Value := #[.int .i64 3, .int .i64 0, .int .i64 0, .string ⟨#[97]⟩, .int .i64 3, .int .i64 0, .int .i64 0, .string ⟨#[98]⟩, .int .i64 3, .int .i64 0, .int .i64 0, .string ⟨#[99]⟩, .int .i64 6, .int .i64 2, .int .i64 0, .string ⟨#[]⟩, .int .i64 3, .int .i64 0, .int .i64 0, .string ⟨#[99]⟩, .int .i64 14, .int .i64 3, .int .i64 0, .string ⟨#[]⟩]
theorem ex_at (w : World) (t : TypeId) : OpsAt (w.alloc (.cells exCells t)) (some ⟨w.heap.size, 0, none⟩) exW := by
  refine .inr ⟨w.heap.size, 0, rfl, by simp, fun i hi => ?_⟩
  have hi6 : i < 6 := hi
  simp only [cell_new]
  rcases i with _ | _ | _ | _ | _ | _ | i
  all_goals first | exact ⟨rfl, rfl, rfl, rfl⟩ | omega
theorem strs_at (w : World) (xs : List ByteArray) (t : TypeId) : StrsAt (w.alloc (.cells (xs.map Value.string).toArray t)) (some ⟨w.heap.size, 0, none⟩) xs := by
  refine .inr ⟨w.heap.size, 0, rfl, by simp, fun i hi => ?_⟩
  rw [cell_new]
  simp [hi]
set_option maxHeartbeats 4000000 in
set_option maxRecDepth 100000 in
theorem works_c (w : World) (hkeys : KeysIn w) :
    Calls Tryd.prog 31 #[] w fun e w' => e = .returned (.bool true) ∧ Below w.heap.size w w' := by
  have ha := fun (W : World) (B : Option Addr) (d : Nat) h1 h2 => (askedN_c exW B d W h1 (by decide) h2 (by decide)).mono (fun e w' hp => AskPost.row hp exW_ask)
  have hs := fun (W : World) (B : Option Addr) (d : Nat) h1 h2 => (sureN_c exW B d W h1 (by decide) h2 (by decide)).mono (fun e w' hp => SurePost.row hp exW_sure)
  have HA := Lib.hid ha
  have HS := Lib.hid hs
  clear ha hs
  go_enter Tryd.func31, Tryd.ntmps31
  go_wp2_with (first | (go_at_call 24; refine (HA.out _ _ 6 (ex_at w _) (hkeys.below ((Below.refl _ _).alloc (Nat.le_refl _) _))).mono ?_; rintro e w1 ⟨B1, d1, rfl, hn1, hb1⟩; have hbw1 := ((Below.refl _ _).alloc (Nat.le_refl _) _).trans (hb1.mono (by simp)); have hx1 := (ex_at w _).below hb1) | (go_at_call 27; refine (HS.out _ _ 6 hx1 (hkeys.below hbw1)).mono ?_; rintro e w2 ⟨B2, d2, rfl, hn2, hb2⟩; have hbw2 := hbw1.trans (hb2.mono hbw1.size)) | (go_at_call_of 26 (Value.slice B1 3 d1); refine (sameTexts_c [⟨#[97]⟩, ⟨#[98]⟩, ⟨#[99]⟩] B1 _ d1 3 _ ((hn1.below hb2).below ((Below.refl _ _).alloc (Nat.le_refl _) _)) (strs_at w2 _ _) (by decide)).mono ?_; rintro e w3 ⟨rfl, hb3⟩; have hbb3 := ((Below.refl w2.heap.size w2).alloc (Nat.le_refl _) _).trans (hb3.mono (by simp)); have hbw3 := hbw2.trans (hbb3.mono hbw2.size)) | (go_at_call_of 26 (Value.slice B2 2 d2); refine (sameTexts_c [⟨#[97]⟩, ⟨#[99]⟩] B2 _ d2 2 _ ((hn2.below hbb3).below ((Below.refl _ _).alloc (Nat.le_refl _) _)) (strs_at w3 _ _) (by decide)).mono ?_; rintro e w4 ⟨rfl, hb4⟩; have hbw4 := (hbw3.alloc hbw3.size _).trans (hb4.mono (by simp; exact Nat.le_succ_of_le hbw3.size))))
  go_ret
  exact ⟨rfl, hbw4⟩
end Go.Proofs.YtgopflklcfcocaaDoor
