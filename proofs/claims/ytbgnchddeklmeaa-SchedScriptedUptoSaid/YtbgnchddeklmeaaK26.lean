/- Schedulers made: by a list, by weights, by chance. -/
import Derived.Test.YtbgnchddeklmeaaK25
namespace Go.Proofs.Ytbgnchddeklmeaa
open Go.RowKit
theorem call_neg1 (x : Value) (w : World) : (callFunc 37 #[x]).run Try.prog w = .ok (.enter 37 #[x]) w := by kernel_rfl
theorem call_out1 (x : Value) (w : World) : (callFunc 44 #[x]).run Try.prog w = .ok (.enter 44 #[x]) w := by kernel_rfl
def negF (n : Int) : Bool := decide (n < 0)
def outF (n : Int) : Bool := decide (n < 0) || decide (9007199254740992 < n)
/-- What a maker that may refuse leaves. -/
def Made (k : Int) (p : Pol) (w : World) (e : Ending) (w' : World) : Prop :=
  if k = 0 then ∃ s, e = .returned (.tuple #[.pointer (some ⟨s, 0, none⟩), .int .i64 0]) ∧ Fresh w w' s p else e = .returned (.tuple #[.pointer none, .int .i64 k]) ∧ Below w.heap.size w w'
theorem made_no {k : Int} {p : Pol} {w : World} {e : Ending} {w' : World} (hk : k ≠ 0) (h : e = .returned (.tuple #[.pointer none, .int .i64 k]) ∧ Below w.heap.size w w') : Made k p w e w' := by unfold Made; rw [if_neg hk]; exact h
theorem made_ok {p : Pol} {w : World} {e : Ending} {w' : World} (h : ∃ s, e = .returned (.tuple #[.pointer (some ⟨s, 0, none⟩), .int .i64 0]) ∧ Fresh w w' s p) : Made 0 p w e w' := by unfold Made; rw [if_pos rfl]; exact h
def scriptedE (xs : List Int) : Int := if 4096 < xs.length then 3 else if xs.any negF = true then 1 else 0
def priorityE (xs : List Int) : Int := if 128 < xs.length then 3 else if xs.any outF = true then 1 else 0
theorem row_in {w w' : World} {B n s : Nat} {v : Value} {xs : List Int} (h : w.ownsRow B 3 1 v xs.length (I xs)) (hb : Below w.heap.size w w') (hs : w.heap.size ≤ s) (hn : w.heap.size ≤ B + n) :
    ∃ X d, v = .slice X xs.length d ∧ RowIn w' B n [s] X xs := by
  rcases own_ints_cases h with ⟨rfl, h0, rfl⟩ | ⟨g, cap, cur, rfl, _, hB, hg, _⟩
  · exact ⟨none, 0, rfl, .inl rfl⟩
  · refine ⟨_, cap, rfl, .inr ⟨g, 0, rfl, hB, by omega, by simp; omega, Nat.lt_of_lt_of_le hg hb.size, fun j hj => ?_⟩⟩
    have h3 := h.cells (g := g) rfl j (.int .i64 (xs.getD j 0)) (by simp [List.getD, hj])
    rw [add_zero] at h3
    rw [Nat.zero_add]
    exact (hb.cell (p := ⟨g, j, none⟩) hg).trans h3
theorem scripted_c {w : World} {X : Option Addr} (d : Nat) {xs : List Int} (hr : RowAt w X (I xs)) (hl : xs.length ≤ 140737488355328) :
    Calls Try.prog 17 #[.slice X xs.length d] w (Made (scriptedE xs) (polOf 4 xs 0) w) := by
  by_cases h1 : 4096 < xs.length
  · have h1i : (4096 : Int) < (xs.length : Int) := by omega
    have hE : scriptedE xs = 3 := by unfold scriptedE; rw [if_pos h1]
    rw [hE]
    clear hr hE
    go_enter Try.func17, Try.ntmps17
    go_wp2
    go_ret2
    exact made_no (by decide) ⟨rfl, Below.refl _ _⟩
  · have h1i : ¬ (4096 : Int) < (xs.length : Int) := by omega
    have HC := Lib.hid (containsp_c (d := d) (f := negF) call_neg1 neg1_c hr hl)
    cases hany : xs.any negF with
    | true =>
      have hE : scriptedE xs = 1 := by unfold scriptedE; rw [if_neg h1, if_pos hany]
      rw [hE]
      have HA := Lib.hid hany
      clear hr hE hany
      go_enter Try.func17, Try.ntmps17
      go_wp2_with (go_at_call 36; refine HC.out.mono ?_; rintro e w' ⟨rfl, rfl⟩; rw [HA.out])
      go_ret2
      exact made_no (by decide) ⟨rfl, Below.refl _ _⟩
    | false =>
      have hE : scriptedE xs = 0 := by unfold scriptedE; rw [if_neg h1, if_neg (by rw [hany]; decide)]
      rw [hE]
      have HA := Lib.hid hany
      have HCL := Lib.hid (clone_c d hr (by omega))
      clear hr hE hany
      go_enter Try.func17, Try.ntmps17
      go_wp2_with (first | (go_at_call 36; refine HC.out.mono ?_; rintro e w' ⟨rfl, rfl⟩; rw [HA.out]) | (go_at_call 24; refine HCL.out.mono ?_; rintro e w2 ⟨v, rfl, ho2, hb2⟩) | (go_at_call 18; refine (made_c _ _ _).mono ?_; rintro e w3 ⟨s, rfl, hs3, hS3, hb3⟩))
      go_ret2
      obtain ⟨Y, d2, hv, hrow⟩ := row_in (n := w3.heap.size - w'.heap.size) (s := s) ho2 hb3 hs3 (by have := hb2.size; have := hb3.size; omega)
      refine made_ok ⟨s, rfl, fresh_of (by have := hb2.size; omega) hS3 (.inr (.inl ⟨rfl, rfl, rfl, by show xs.length ≤ 4096; omega, fun x hx => ?_, Y, d2, hv, hrow⟩)) (hb2.trans (hb3.mono hb2.size))⟩
      have := List.any_eq_false.1 HA.out x hx
      unfold negF at this
      simpa using this
theorem priority_c {w : World} {X : Option Addr} (d : Nat) {xs : List Int} (hr : RowAt w X (I xs)) (hl : xs.length ≤ 140737488355328) :
    Calls Try.prog 33 #[.slice X xs.length d] w (Made (priorityE xs) (polOf 5 xs 0) w) := by
  by_cases h1 : 128 < xs.length
  · have h1i : (128 : Int) < (xs.length : Int) := by omega
    have hE : priorityE xs = 3 := by unfold priorityE; rw [if_pos h1]
    rw [hE]
    clear hr hE
    go_enter Try.func33, Try.ntmps33
    go_wp2
    go_ret2
    exact made_no (by decide) ⟨rfl, Below.refl _ _⟩
  · have h1i : ¬ (128 : Int) < (xs.length : Int) := by omega
    have HC := Lib.hid (containsp_c (d := d) (f := outF) call_out1 out1_c hr hl)
    cases hany : xs.any outF with
    | true =>
      have hE : priorityE xs = 1 := by unfold priorityE; rw [if_neg h1, if_pos hany]
      rw [hE]
      have HA := Lib.hid hany
      clear hr hE hany
      go_enter Try.func33, Try.ntmps33
      go_wp2_with (go_at_call 36; refine HC.out.mono ?_; rintro e w' ⟨rfl, rfl⟩; rw [HA.out])
      go_ret2
      exact made_no (by decide) ⟨rfl, Below.refl _ _⟩
    | false =>
      have hE : priorityE xs = 0 := by unfold priorityE; rw [if_neg h1, if_neg (by rw [hany]; decide)]
      rw [hE]
      have HA := Lib.hid hany
      have HCL := Lib.hid (clone_c d hr (by omega))
      clear hr hE hany
      go_enter Try.func33, Try.ntmps33
      go_wp2_with (first | (go_at_call 36; refine HC.out.mono ?_; rintro e w' ⟨rfl, rfl⟩; rw [HA.out]) | (go_at_call 24; refine HCL.out.mono ?_; rintro e w2 ⟨v, rfl, ho2, hb2⟩) | (go_at_call 18; refine (made_c _ _ _).mono ?_; rintro e w3 ⟨s, rfl, hs3, hS3, hb3⟩))
      go_ret2
      obtain ⟨Y, d2, hv, hrow⟩ := row_in (n := w3.heap.size - w'.heap.size) (s := s) ho2 hb3 hs3 (by have := hb2.size; have := hb3.size; omega)
      exact made_ok ⟨s, rfl, fresh_of (by have := hb2.size; omega) hS3 (.inr (.inr (.inl ⟨rfl, rfl, rfl, by show xs.length ≤ 4096; omega, Y, d2, hv, hrow⟩))) (hb2.trans (hb3.mono hb2.size))⟩
theorem seeded_f (x : Int) (w : World) : Calls Try.prog 34 #[.int .u64 x] w fun e w' => ∃ s, e = .returned (.pointer (some ⟨s, 0, none⟩)) ∧ Fresh w w' s (polOf 6 [] (begS x)) := by
  go_enter Try.func34, Try.ntmps34
  go_wp2_with (first | (go_at_call 27; refine (seeded_c x _).mono ?_; rintro e w1 ⟨rfl, rfl⟩) | (go_at_call 18; refine (made_c _ _ _).mono ?_; rintro e w3 ⟨s, rfl, hs3, hS3, hb3⟩))
  go_ret
  obtain ⟨w2, hw2⟩ : ∃ w2, w2 = w1.alloc (.cells #[.int .u64 (begS x)] 78) := ⟨_, rfl⟩
  rw [← hw2] at hs3 hb3
  have hz2 : w2.heap.size = w1.heap.size + 1 := by rw [hw2]; simp
  have hb2 : Below w1.heap.size w1 w2 := by rw [hw2]; exact (Below.refl _ _).alloc (Nat.le_refl _) _
  have hc2 : w2.cell? ⟨w1.heap.size, 0, none⟩ = some (.int .u64 (begS x)) := by rw [hw2]; simp
  have hf2 : ∀ j, w2.frozen? ⟨w1.heap.size, j, none⟩ = false := fun j => by rw [hw2]; exact frozen_new _ _ _ _
  have h3 := hb3.size
  refine ⟨s, rfl, fresh_of (by omega) hS3 (.inr (.inr (.inr (.inl ⟨rfl, rfl, w1.heap.size, rfl, rfl, Nat.le_refl _, by omega, by omega, by omega, ?_, fun j => ?_⟩)))) (hb2.trans (hb3.mono hb2.size))⟩
  · exact (hb3.cell (p := ⟨w1.heap.size, 0, none⟩) (by show w1.heap.size < _; omega)).trans hc2
  · exact (hb3.frozen (p := ⟨w1.heap.size, j, none⟩) (by show w1.heap.size < _; omega)).trans (hf2 j)
end Go.Proofs.Ytbgnchddeklmeaa
