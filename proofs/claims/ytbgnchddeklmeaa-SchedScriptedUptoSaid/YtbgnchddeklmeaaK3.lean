/- Schedulers: made, and picked by. -/
import Derived.Test.YtbgnchddeklmeaaK2
namespace Go.Proofs.Ytbgnchddeklmeaa
open Go.RowKit
/-- A scheduler in memory: its policy, what it picked last, how many, how often each. -/
def SchAt (w : World) (s : Nat) (p : Value) (last count : Int) (often : Nat → Int) : Prop :=
  s < w.heap.size ∧ w.cell? ⟨s, 0, none⟩ = some p ∧ w.cell? ⟨s, 1, none⟩ = some (.int .i64 last) ∧ w.cell? ⟨s, 2, none⟩ = some (.int .i64 count) ∧ (∀ i, i < 128 → w.cell? ⟨s, 3 + i, none⟩ = some (.int .i64 (often i))) ∧ ∀ j, w.frozen? ⟨s, j, none⟩ = false
theorem zero_sched : Try.zeroCells55 = #[Try.zeroCells55.getD 0 undef] ++ Array.replicate 130 (.int .i64 0) := by kernel_rfl
theorem frozen_new (w : World) (cs : Array Value) (t : TypeId) (o : Nat) : (w.alloc (.cells cs t)).frozen? ⟨w.heap.size, o, none⟩ = false := by
  unfold World.frozen?
  rw [heap_alloc_new]
  simp
theorem made_c (t : TypeId) (v : Value) (w : World) : Calls Try.prog 18 #[.iface t v] w fun e w' => ∃ s, e = .returned (.pointer (some ⟨s, 0, none⟩)) ∧ w.heap.size ≤ s ∧ SchAt w' s (.iface t v) (-1) 0 (fun _ => 0) ∧ Below w.heap.size w w' := by
  go_enter Try.func18, Try.ntmps18
  go_wp2
  go_ret
  refine ⟨w.heap.size, rfl, Nat.le_refl _, ⟨by simp, ?_, ?_, ?_, fun i hi => ?_, fun j => frozen_new _ _ _ _⟩, (Below.refl _ _).alloc (Nat.le_refl _) _⟩
  all_goals rw [cell_new, zero_sched]; simp [Array.getElem?_setIfInBounds, Array.getElem?_append, Array.getElem?_replicate]
  all_goals (try omega)
  rw [if_neg (by omega), if_pos (by omega)]
/-- All is as it was but for the blocks of M, and new ones. -/
def Moves (M : List Nat) (w w' : World) : Prop := w'.os = w.os ∧ w'.tape = w.tape ∧ w'.output = w.output ∧ w.heap.size ≤ w'.heap.size ∧ ∀ k, k < w.heap.size → k ∉ M → w'.heap[k]? = w.heap[k]?
theorem Moves.refl (M : List Nat) (w : World) : Moves M w w := ⟨rfl, rfl, rfl, Nat.le_refl _, fun _ _ _ => rfl⟩
theorem Moves.trans {M : List Nat} {w w1 w2 : World} (h : Moves M w w1) (g : Moves M w1 w2) : Moves M w w2 :=
  ⟨g.1.trans h.1, g.2.1.trans h.2.1, g.2.2.1.trans h.2.2.1, Nat.le_trans h.2.2.2.1 g.2.2.2.1, fun k hk hm => (g.2.2.2.2 k (Nat.lt_of_lt_of_le hk h.2.2.2.1) hm).trans (h.2.2.2.2 k hk hm)⟩
theorem Moves.onto {M N : List Nat} {w w1 w2 : World} (h : Moves M w w1) (g : Moves N w1 w2) (hs : ∀ k ∈ N, k ∈ M ∨ w.heap.size ≤ k) : Moves M w w2 :=
  ⟨g.1.trans h.1, g.2.1.trans h.2.1, g.2.2.1.trans h.2.2.1, Nat.le_trans h.2.2.2.1 g.2.2.2.1, fun k hk hm => (g.2.2.2.2 k (Nat.lt_of_lt_of_le hk h.2.2.2.1) (fun hN => (hs k hN).elim hm (by omega))).trans (h.2.2.2.2 k hk hm)⟩
theorem Moves.mono {M N : List Nat} {w w1 : World} (h : Moves M w w1) (hs : ∀ k ∈ M, k ∈ N ∨ w.heap.size ≤ k) : Moves N w w1 :=
  ⟨h.1, h.2.1, h.2.2.1, h.2.2.2.1, fun k hk hm => h.2.2.2.2 k hk (fun hM => (hs k hM).elim hm (by omega))⟩
theorem Moves.of_below {M : List Nat} {w w1 : World} {B : Nat} (h : Below B w w1) (hB : ∀ k, B ≤ k → k < w.heap.size → k ∈ M) : Moves M w w1 :=
  ⟨h.os, h.tape, h.output, h.size, fun k hk hm => h.block k (by rcases Nat.lt_or_ge k B with c | c; exact c; exact absurd (hB k c hk) hm)⟩
theorem Moves.of_new {w w1 : World} (M : List Nat) (h : Below w.heap.size w w1) : Moves M w w1 := Moves.of_below h (by omega)
theorem Moves.of_grown {M : List Nat} {w w1 : World} {r : Option Nat} (h : w.grownBy w1 r) (hM : ∀ k, r = some k → k ∈ M) : Moves M w w1 :=
  ⟨h.os, h.tape, h.output, h.size, fun k hk hm => h.block k hk (fun e => hm (hM k e.symm))⟩
theorem Moves.set {M : List Nat} (w : World) (a : Addr) (v : Value) (h : a.block ∈ M) : Moves M w (w.setCell a v) :=
  ⟨rfl, rfl, rfl, by simp [World.setCell], fun k _ hk => Below.heap_setCell w a v k (fun e => hk (by rw [e]; exact h))⟩
theorem Moves.below {M : List Nat} {w w1 : World} {B : Nat} (h : Moves M w w1) (hB : B ≤ w.heap.size) (hM : ∀ k ∈ M, B ≤ k) : Below B w w1 :=
  ⟨h.1, h.2.1, h.2.2.1, h.2.2.2.1, fun k hk => h.2.2.2.2 k (by omega) (fun hm => absurd (hM k hm) (by omega))⟩
theorem Moves.cell {M : List Nat} {w w1 : World} (h : Moves M w w1) {b : Nat} (hb : b < w.heap.size) (hm : b ∉ M) (o : Nat) : w1.cell? ⟨b, o, none⟩ = w.cell? ⟨b, o, none⟩ := by
  have h1 := h.2.2.2.2 b hb hm
  unfold World.cell?
  rw [h1]
theorem Moves.frozen {M : List Nat} {w w1 : World} (h : Moves M w w1) {b : Nat} (hb : b < w.heap.size) (hm : b ∉ M) (o : Nat) : w1.frozen? ⟨b, o, none⟩ = w.frozen? ⟨b, o, none⟩ := by
  have h1 := h.2.2.2.2 b hb hm
  unfold World.frozen?
  rw [h1]
theorem SchAt.moves {M : List Nat} {w w1 : World} {s : Nat} {p : Value} {last count : Int} {often : Nat → Int} (h : SchAt w s p last count often) (hm : Moves M w w1) (hs : s ∉ M) : SchAt w1 s p last count often :=
  ⟨Nat.lt_of_lt_of_le h.1 hm.2.2.2.1, (hm.cell h.1 hs 0).trans h.2.1, (hm.cell h.1 hs 1).trans h.2.2.1, (hm.cell h.1 hs 2).trans h.2.2.2.1, fun i hi => (hm.cell h.1 hs _).trans (h.2.2.2.2.1 i hi), fun j => (hm.frozen h.1 hs j).trans (h.2.2.2.2.2 j)⟩
theorem own_moves {M : List Nat} {w w1 : World} {B g cap n : Nat} {e : TypeId} {xs : List Value} (h : w.ownsRow B e 1 (.slice (some ⟨g, 0, none⟩) n cap) n xs) (hm : Moves M w w1) (hg : g ∉ M) : w1.ownsRow B e 1 (.slice (some ⟨g, 0, none⟩) n cap) n xs := by
  rcases h with ⟨hl, ⟨h0, _⟩ | ⟨g', cap', cur, hv, hB, hh, h1⟩⟩
  · cases h0
  · cases hv
    exact ⟨hl, .inr ⟨g, cap, cur, rfl, hB, (hm.2.2.2.2 g (Array.getElem?_eq_some_iff.1 hh).1 hg).trans hh, h1⟩⟩
end Go.Proofs.Ytbgnchddeklmeaa
