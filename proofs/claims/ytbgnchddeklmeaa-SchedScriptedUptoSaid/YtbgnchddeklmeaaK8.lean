/- The chapter's first example works. -/
import Derived.Test.YtbgnchddeklmeaaK7
namespace Go.Proofs.Ytbgnchddeklmeaa
open Go.RowKit
def bump (often : Nat → Int) (n : Int) : Nat → Int := fun i => if (i : Int) = n then often i + 1 else often i
def OftOk (often : Nat → Int) (count : Int) : Prop := 0 ≤ count ∧ ∀ i, 0 ≤ often i ∧ often i ≤ count
theorem OftOk.bump {often : Nat → Int} {count : Int} (h : OftOk often count) (n : Int) : OftOk (bump often n) (count + 1) := by
  refine ⟨by have := h.1; omega, fun i => ?_⟩
  have := h.2 i
  unfold Ytbgnchddeklmeaa.bump
  split <;> omega
theorem row_lit (w : World) (xs : List Int) : RowAt (w.alloc (.cells (I xs).toArray 3)) (some ⟨w.heap.size, 0, none⟩) (I xs) :=
  .inr ⟨w.heap.size, 0, rfl, by simp, fun j hj => by rw [Nat.zero_add, cell_new]; simp at hj; simp [hj]⟩
theorem lit_round (xs l : List Int) {w : World} {s : Nat} {last count : Int} {often : Nat → Int} (n : Int)
    (hS : SchAt w s (.iface 49 roundP) last count often) (hR : Ready xs l) (hc : count < 4611686018427387904) (ho : OftOk often count) (hn : l[rndK last l]? = some n) :
    Calls Try.prog 10 #[.pointer (some ⟨s, 0, none⟩), .slice (some ⟨w.heap.size, 0, none⟩) xs.length xs.length] (w.alloc (.cells (I xs).toArray 3)) fun e w' =>
      e = .returned (.tuple #[.int .i64 n, .int .i64 0]) ∧ SchAt w' s (.iface 49 roundP) n (count + 1) (bump often n) ∧ Moves [s] w w' := by
  have hm : Moves [] w (w.alloc (.cells (I xs).toArray 3)) := Moves.of_new [] ((Below.refl _ _).alloc (Nat.le_refl _) _)
  have hx := (List.getElem?_eq_some_iff.1 hn).2
  refine (next_round xs.length (hS.moves hm (by simp)) (row_lit w xs) hR ⟨ho.1, hc⟩ (fun i => ⟨(ho.2 i).1, by have := (ho.2 i).2; omega⟩)).mono ?_
  rintro e w' ⟨rfl, h2, h3⟩
  rw [hx] at h2
  exact ⟨by rw [hx], h2, (hm.mono (by simp)).trans h3⟩
theorem lit_fair (xs l : List Int) {w : World} {s : Nat} {last count : Int} {often : Nat → Int} (n : Int)
    (hS : SchAt w s (.iface 49 fairP) last count often) (hR : Ready xs l) (hc : count < 4611686018427387904) (ho : OftOk often count) (hn : l[fairK often l]? = some n) :
    Calls Try.prog 10 #[.pointer (some ⟨s, 0, none⟩), .slice (some ⟨w.heap.size, 0, none⟩) xs.length xs.length] (w.alloc (.cells (I xs).toArray 3)) fun e w' =>
      e = .returned (.tuple #[.int .i64 n, .int .i64 0]) ∧ SchAt w' s (.iface 49 fairP) n (count + 1) (bump often n) ∧ Moves [s] w w' := by
  have hm : Moves [] w (w.alloc (.cells (I xs).toArray 3)) := Moves.of_new [] ((Below.refl _ _).alloc (Nat.le_refl _) _)
  have hx := (List.getElem?_eq_some_iff.1 hn).2
  refine (next_fair xs.length (hS.moves hm (by simp)) (row_lit w xs) hR ⟨ho.1, hc⟩ (fun i => ⟨(ho.2 i).1, by have := (ho.2 i).2; omega⟩)).mono ?_
  rintro e w' ⟨rfl, h2, h3⟩
  rw [hx] at h2
  exact ⟨by rw [hx], h2, (hm.mono (by simp)).trans h3⟩
theorem ok0 : OftOk (fun _ => 0) 0 := ⟨by omega, fun _ => ⟨Int.le_refl 0, Int.le_refl 0⟩⟩
theorem works_c (w : World) : Calls Try.prog 7 #[] w fun e w' => e = .returned (.bool true) ∧ Below w.heap.size w w' := by
  go_enter Try.func7, Try.ntmps7
  go_wp2_with fail
  go_at_call 8
  refine (round_c _).mono ?_
  rintro e w1 ⟨s, rfl, hs, hS1, hB1⟩
  go_wp2_with fail
  go_at_call 9
  refine (fair_c _).mono ?_
  rintro e w2 ⟨f, rfl, hf, hF2, hB2⟩
  have hsl := hS1.1
  have hS2 := hS1.moves (Moves.of_new [] hB2) (by simp)
  have hsf : s ≠ f := by omega
  have hM2 : Moves [s, f] w w2 := (Moves.of_new _ hB1).trans (Moves.of_new _ hB2)
  clear hS1
  go_wp2_with fail
  go_at_call 10
  refine (lit_round [3, 1, 2] [1, 2, 3] 1 hS2 (by refine ⟨by decide, by decide, by decide, by decide, by decide⟩) (by omega) ok0 (by rfl)).mono ?_
  rintro e w3 ⟨rfl, hS3, hM3⟩
  have hF3 := hF2.moves hM3 (by simp; omega)
  go_wp2_with fail
  go_at_call 10
  refine (lit_round [3, 1] [1, 3] 3 hS3 (by refine ⟨by decide, by decide, by decide, by decide, by decide⟩) (by omega) (ok0.bump _) (by rfl)).mono ?_
  rintro e w4 ⟨rfl, hS4, hM4⟩
  have hF4 := hF3.moves hM4 (by simp; omega)
  go_wp2_with fail
  go_at_call 10
  refine (lit_round [3, 1] [1, 3] 1 hS4 (by refine ⟨by decide, by decide, by decide, by decide, by decide⟩) (by omega) ((ok0.bump _).bump _) (by rfl)).mono ?_
  rintro e w5 ⟨rfl, hS5, hM5⟩
  have hF5 := hF4.moves hM5 (by simp; omega)
  go_wp2_with fail
  go_at_call 10
  refine (lit_fair [0, 1] [0, 1] 0 hF5 (by refine ⟨by decide, by decide, by decide, by decide, by decide⟩) (by omega) ok0 (by rfl)).mono ?_
  rintro e w6 ⟨rfl, hF6, hM6⟩
  go_wp2_with fail
  go_at_call 10
  refine (lit_fair [0, 1] [0, 1] 1 hF6 (by refine ⟨by decide, by decide, by decide, by decide, by decide⟩) (by omega) (ok0.bump _) (by rfl)).mono ?_
  rintro e w7 ⟨rfl, hF7, hM7⟩
  have hM : Moves [s, f] w w7 := hM2.trans ((hM3.mono (by simp)).trans ((hM4.mono (by simp)).trans ((hM5.mono (by simp)).trans ((hM6.mono (by simp)).trans (hM7.mono (by simp))))))
  go_wp2
  go_ret
  exact ⟨rfl, hM.below (Nat.le_refl _) (by have := hB1.size; simp; omega)⟩
end Go.Proofs.Ytbgnchddeklmeaa
