/- The chapter's two examples, walked. -/
import Derived.Test.YtpdfcffeinbcaaaH58
namespace Go.Proofs.Ytpdfcffeinbcaaa
open Go.RowKit
theorem lit_graph {w : World} {es : List (Int × Int)} {n : Int} {l : List Int} (h : edgeCells es = I l) : GAt (w.alloc (.cells (I l).toArray 51)) (some ⟨w.heap.size, 0, none⟩) ⟨n, es⟩ := by
  show RowAt _ _ (edgeCells es)
  rw [h]
  exact row_lit 51 w l
set_option maxHeartbeats 4000000 in
set_option maxRecDepth 100000 in
theorem works_c (w : World) : Calls Try.prog 41 #[] w fun e w' => e = .returned (.bool true) ∧ Below w.heap.size w w' := by
  have hA : ∀ W : World, Calls Try.prog 37 #[.agg #[.int .i64 4, .slice (some ⟨W.heap.size, 0, none⟩) 4 4]] (W.alloc (.cells #[.int .i64 0, .int .i64 1, .int .i64 1, .int .i64 2, .int .i64 2, .int .i64 1, .int .i64 2, .int .i64 3] 51)) (RowErr [1, 2] 0 (W.alloc (.cells #[.int .i64 0, .int .i64 1, .int .i64 1, .int .i64 2, .int .i64 2, .int .i64 1, .int .i64 2, .int .i64 3] 51))) := fun W => by
    have h := ground_c gA (some ⟨W.heap.size, 0, none⟩) 4 (W.alloc (.cells (I [0, 1, 1, 2, 2, 1, 2, 3]).toArray 51)) (lit_graph (l := [0, 1, 1, 2, 2, 1, 2, 3]) rfl) (by decide)
    rw [gA_round, gA_chk] at h
    exact h
  have hB : ∀ W E, GAt W E gB → Calls Try.prog 25 #[.agg #[.int .i64 4, .slice E 4 4]] W (RowErr [0, 1, 2, 3] 0 W) := fun W E hE => by
    have h := gorder_c gB E 4 W hE (by decide)
    rw [gB_ordL, gB_ordE] at h
    exact h
  have hC : ∀ W E X, GAt W E gB → RowAt W X (I wB) → Calls Try.prog 29 #[.agg #[.int .i64 4, .slice E 4 4], .slice X 4 4] W fun e w' => ∃ X d, e = .returned (.tuple #[.int .i64 7, .slice X 3 d, .int .i64 0]) ∧ RowAt w' X (I [0, 2, 3]) ∧ Below W.heap.size W w' := fun W E X hE hX => by
    have h := glong2_c gB E 4 wB X 4 W hE (by decide) hX (by decide)
    unfold LonPost at h
    rw [gB_sum, gB_way, gB_lonE] at h
    exact h
  have HA := Lib.hid hA
  have HB := Lib.hid hB
  have HC := Lib.hid hC
  clear hA hB hC
  go_enter Try.func41, Try.ntmps41
  go_wp2_with fail
  go_at_call 37
  refine (HA.out w).mono ?_
  rintro e w1 ⟨X1, d1, rfl, hr1, hb1⟩
  have hb1' : Below w.heap.size w w1 := ((Below.refl _ _).alloc (Nat.le_refl _) _).trans (hb1.mono (by rw [al_size]; omega))
  have HR1 := Lib.hid hr1
  have HB1 := Lib.hid hb1'
  clear hr1 hb1 hb1'
  obtain ⟨w2, hw2⟩ : ∃ w2, w2 = w1.alloc (.cells #[.int .i64 0, .int .i64 2, .int .i64 1, .int .i64 2, .int .i64 2, .int .i64 3, .int .i64 0, .int .i64 3] 51) := ⟨_, rfl⟩
  have hg2 : GAt w2 (some ⟨w1.heap.size, 0, none⟩) gB := by rw [hw2]; exact lit_graph (l := [0, 2, 1, 2, 2, 3, 0, 3]) rfl
  have hb2 : Below w1.heap.size w1 w2 := by rw [hw2]; exact (Below.refl _ _).alloc (Nat.le_refl _) _
  obtain ⟨w3, hw3⟩ : ∃ w3, w3 = w2.alloc (.cells #[.int .i64 4, .slice (some ⟨w1.heap.size, 0, none⟩) 4 4] 24) := ⟨_, rfl⟩
  obtain ⟨tb, htb⟩ : ∃ tb, tb = w1.heap.size + 1 := ⟨_, rfl⟩
  have hz2 : w2.heap.size = tb := by rw [hw2, al_size, htb]
  have c0 : w3.cell? ⟨tb, 0, none⟩ = some (.int .i64 4) := by rw [hw3, ← hz2, cell_new]; rfl
  have c1 : w3.cell? ⟨tb, 1, none⟩ = some (.slice (some ⟨w1.heap.size, 0, none⟩) 4 4) := by rw [hw3, ← hz2, cell_new]; rfl
  have hb3 : Below w2.heap.size w2 w3 := by rw [hw3]; exact (Below.refl _ _).alloc (Nat.le_refl _) _
  have hg3 := hg2.below hb3
  have hb13 : Below w1.heap.size w1 w3 := hb2.trans (hb3.mono hb2.size)
  have hr3 := HR1.out.below hb13
  have hbw3 := HB1.out.trans (hb13.mono HB1.out.size)
  obtain ⟨Eb, hEb⟩ : ∃ Eb : Option Addr, Eb = some ⟨w1.heap.size, 0, none⟩ := ⟨_, rfl⟩
  rw [← hEb] at c1 hg3 hw3
  have HW2 := Lib.hid hw2
  have HW3 := Lib.hid hw3
  have HEB := Lib.hid hEb
  have HTB := Lib.hid htb
  have HG3 := Lib.hid hg3
  have HR3 := Lib.hid hr3
  have HBW3 := Lib.hid hbw3
  have hbxl : tb < w3.heap.size := World.block_lt_of_cell? w3 _ c0
  clear hw2 hg2 hb2 hw3 htb hz2 hb3 hg3 hb13 hr3 hbw3 hEb HR1 HB1
  go_upto_region 3 with (fail)
  rw [← HW2.out, ← HEB.out, ← HTB.out, ← HW3.out]
  clear HW2 HW3 HTB
  go_wp2_with fail
  go_at_call 25
  refine (HB.out w3 Eb HG3.out).mono ?_
  rintro e w4 ⟨X2, d2, rfl, hr2, hb4⟩
  have hr14 := HR3.out.below hb4
  have e0 := (hb4.cell (p := ⟨tb, 0, none⟩) hbxl).trans c0
  have e1 := (hb4.cell (p := ⟨tb, 1, none⟩) hbxl).trans c1
  have hg4 := HG3.out.below hb4
  have hbw4 := HBW3.out.trans (hb4.mono HBW3.out.size)
  obtain ⟨w5, hw5⟩ : ∃ w5, w5 = w4.alloc (.cells #[.int .i64 5, .int .i64 1, .int .i64 1, .int .i64 1] 3) := ⟨_, rfl⟩
  obtain ⟨xb, hxb⟩ : ∃ xb : Option Addr, xb = some ⟨w4.heap.size, 0, none⟩ := ⟨_, rfl⟩
  have hb5 : Below w4.heap.size w4 w5 := by rw [hw5]; exact (Below.refl _ _).alloc (Nat.le_refl _) _
  have hx5 : RowAt w5 xb (I wB) := by rw [hw5, hxb]; exact row_lit 3 w4 wB
  have HLO := Lib.hid (HC.out w5 Eb xb (hg4.below hb5) hx5)
  have HR15 := Lib.hid (And.intro (hr14.below hb5) (hr2.below hb5))
  have HBW5 := Lib.hid (hbw4.trans (hb5.mono hbw4.size))
  have HW5 := Lib.hid hw5
  have HXB := Lib.hid hxb
  clear hr14 hg4 hbw4 hw5 hxb hb5 hx5 hr2 hb4 c0 c1 HR3 HG3 HBW3
  go_wp2_with fail
  go_at_call 29
  rw [← HW5.out, ← HXB.out]
  refine HLO.out.mono ?_
  rintro e w6 ⟨X3, d3, rfl, hr3, hb6⟩
  have HR16 := Lib.hid (And.intro (HR15.out.1.below hb6) (And.intro (HR15.out.2.below hb6) hr3))
  have HBW6 := Lib.hid (HBW5.out.trans (hb6.mono HBW5.out.size))
  clear hr3 hb6 e0 e1 HR15 HBW5 HW5 HXB HLO
  obtain ⟨w7, hw7⟩ : ∃ w7, w7 = w6.alloc (.cells #[.int .i64 1, .int .i64 2] 3) := ⟨_, rfl⟩
  obtain ⟨x7, hx7⟩ : ∃ xb : Option Addr, xb = some ⟨w6.heap.size, 0, none⟩ := ⟨_, rfl⟩
  have hb7 : Below w6.heap.size w6 w7 := by rw [hw7]; exact (Below.refl _ _).alloc (Nat.le_refl _) _
  have hy7 : RowAt w7 x7 (I [1, 2]) := by rw [hw7, hx7]; exact row_lit 3 w6 [1, 2]
  have HR7 := Lib.hid (And.intro (HR16.out.2.1.below hb7) (HR16.out.2.2.below hb7))
  have HS7 := Lib.hid (sameInts_c [1, 2] X1 x7 d1 2 w7 (HR16.out.1.below hb7) hy7 (by decide))
  have HBW7 := Lib.hid (HBW6.out.trans (hb7.mono HBW6.out.size))
  have HW7 := Lib.hid hw7
  have HX7 := Lib.hid hx7
  clear hw7 hx7 hb7 hy7 HR16 HBW6
  go_wp2_with fail
  go_at_call 18
  rw [← HW7.out, ← HX7.out]
  refine HS7.out.mono ?_
  rintro e w8 ⟨rfl, hb8⟩
  have hr8 := And.intro (HR7.out.1.below hb8) (HR7.out.2.below hb8)
  have hbw8 := HBW7.out.trans (hb8.mono HBW7.out.size)
  obtain ⟨w9, hw9⟩ : ∃ w9, w9 = w8.alloc (.cells #[.int .i64 0, .int .i64 1, .int .i64 2, .int .i64 3] 3) := ⟨_, rfl⟩
  obtain ⟨x9, hx9⟩ : ∃ xb : Option Addr, xb = some ⟨w8.heap.size, 0, none⟩ := ⟨_, rfl⟩
  have hb9 : Below w8.heap.size w8 w9 := by rw [hw9]; exact (Below.refl _ _).alloc (Nat.le_refl _) _
  have hy9 : RowAt w9 x9 (I [0, 1, 2, 3]) := by rw [hw9, hx9]; exact row_lit 3 w8 [0, 1, 2, 3]
  have HS9 := Lib.hid (sameInts_c [0, 1, 2, 3] X2 x9 d2 4 w9 (hr8.1.below hb9) hy9 (by decide))
  have HR9 := Lib.hid (hr8.2.below hb9)
  have HBW9 := Lib.hid (hbw8.trans (hb9.mono hbw8.size))
  have HW9 := Lib.hid hw9
  have HX9 := Lib.hid hx9
  clear hw9 hx9 hb9 hy9 hb8 hr8 hbw8 HR7 HBW7 HW7 HX7 HS7
  go_wp2_with fail
  go_at_call 18
  rw [← HW9.out, ← HX9.out]
  refine HS9.out.mono ?_
  rintro e w10 ⟨rfl, hb10⟩
  have hr10 := HR9.out.below hb10
  have hbw10 := HBW9.out.trans (hb10.mono HBW9.out.size)
  obtain ⟨w11, hw11⟩ : ∃ w11, w11 = w10.alloc (.cells #[.int .i64 0, .int .i64 2, .int .i64 3] 3) := ⟨_, rfl⟩
  obtain ⟨x11, hx11⟩ : ∃ xb : Option Addr, xb = some ⟨w10.heap.size, 0, none⟩ := ⟨_, rfl⟩
  have hb11 : Below w10.heap.size w10 w11 := by rw [hw11]; exact (Below.refl _ _).alloc (Nat.le_refl _) _
  have hy11 : RowAt w11 x11 (I [0, 2, 3]) := by rw [hw11, hx11]; exact row_lit 3 w10 [0, 2, 3]
  have HS11 := Lib.hid (sameInts_c [0, 2, 3] X3 x11 d3 3 w11 (hr10.below hb11) hy11 (by decide))
  have HBW11 := Lib.hid (hbw10.trans (hb11.mono hbw10.size))
  have HW11 := Lib.hid hw11
  have HX11 := Lib.hid hx11
  clear hw11 hx11 hb11 hy11 hb10 hr10 hbw10 HR9 HBW9 HW9 HX9 HS9
  go_wp2_with fail
  go_at_call 18
  rw [← HW11.out, ← HX11.out]
  refine HS11.out.mono ?_
  rintro e w12 ⟨rfl, hb12⟩
  have HBE := Lib.hid (HBW11.out.trans (hb12.mono HBW11.out.size))
  clear hb12
  go_wp2
  go_ret
  exact ⟨rfl, HBE.out⟩
end Go.Proofs.Ytpdfcffeinbcaaa
