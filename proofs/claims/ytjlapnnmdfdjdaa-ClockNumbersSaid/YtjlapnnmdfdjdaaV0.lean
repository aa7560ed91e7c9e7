/- Generic words: rows of one-cell values, blocks that move, for any seat. -/
import Derived.Test.YtjlapnnmdfdjdaaV1
namespace Go.Proofs.Ytjlapnnmdfdjdaa
open Go.RowKit
abbrev I (xs : List Int) : List Value := xs.map (Value.int .i64)
def sortI (xs : List Int) : List Int := xs.mergeSort fun x y => decide (x ≤ y)
theorem sortI_length (xs : List Int) : (sortI xs).length = xs.length := List.length_mergeSort ..
/-- A row that is read. -/
def RowAt (w : World) (X : Option Addr) (xs : List Value) : Prop := xs = [] ∨ ∃ b off, X = some ⟨b, off, none⟩ ∧ b < w.heap.size ∧ ∀ j (h : j < xs.length), w.cell? ⟨b, off + j, none⟩ = some xs[j]
theorem RowAt.below {w w' : World} {X : Option Addr} {xs : List Value} (h : RowAt w X xs) (hb : Below w.heap.size w w') : RowAt w' X xs :=
  h.imp id fun ⟨b, off, e, hl, hc⟩ => ⟨b, off, e, Nat.lt_of_lt_of_le hl hb.size, fun j hj => (hb.cell (p := ⟨b, off + j, none⟩) hl).trans (hc j hj)⟩
theorem own_row1 {w : World} {base : Nat} {e : TypeId} {v : Value} {n : Nat} {xs : List Value} (h : w.ownsRow base e 1 v n xs) : ∃ X d, v = .slice X xs.length d ∧ RowAt w X xs := by
  have hl : xs.length = n := by have := h.1; omega
  rcases h.2 with ⟨rfl, h0⟩ | ⟨g, cap, cur, rfl, _, hh, _, _, hsz, htk⟩
  · have h1 : xs = [] := List.eq_nil_of_length_eq_zero (by omega)
    subst h1
    exact ⟨none, 0, rfl, .inl rfl⟩
  · refine ⟨some ⟨g, 0, none⟩, cap, by rw [hl], .inr ⟨g, 0, rfl, (Array.getElem?_eq_some_iff.1 hh).1, fun j hj => ?_⟩⟩
    have h2 : xs[j]? = some xs[j] := List.getElem?_eq_getElem hj
    have h3 := h.cells (g := g) rfl j xs[j] h2
    rw [add_zero] at h3
    rw [Nat.zero_add]
    exact h3
theorem RowAt.ints {w : World} {X : Option Addr} {xs : List Int} (h : RowAt w X (I xs)) : xs = [] ∨ ∃ b off, X = some ⟨b, off, none⟩ ∧ b < w.heap.size ∧ ∀ j, j < xs.length → w.cell? ⟨b, off + j, none⟩ = some (.int .i64 (xs.getD j 0)) := by
  rcases h with h | ⟨b, off, e, hl, hc⟩
  · exact .inl (List.map_eq_nil_iff.1 h)
  · refine .inr ⟨b, off, e, hl, fun j hj => ?_⟩
    have := hc j (by simpa using hj)
    rw [this]
    simp [List.getD, hj]
theorem RowAt.int {w : World} {X : Option Addr} {xs : List Int} (h : RowAt w X (I xs)) {j : Nat} (hj : j < xs.length) : ∃ b off, X = some ⟨b, off, none⟩ ∧ w.cell? ⟨b, off + j, none⟩ = some (.int .i64 (xs[j])) := by
  rcases h.ints with h | ⟨b, off, e, hl, hc⟩
  · subst h; simp at hj
  · exact ⟨b, off, e, by rw [hc j hj]; simp [List.getD, hj]⟩
theorem own_ints_cases {w : World} {B n : Nat} {e : TypeId} {v : Value} {xs : List Int} (h : w.ownsRow B e 1 v n (I xs)) : (v = .slice none 0 0 ∧ n = 0 ∧ xs = []) ∨
    ∃ g cap cur, v = .slice (some ⟨g, 0, none⟩) n cap ∧ n = xs.length ∧ B ≤ g ∧ g < w.heap.size ∧ w.heap[g]? = some (.cells cur e (0, 0)) ∧ n ≤ cap ∧ cap ≤ maxLen ∧ cur.size = cap * 1 ∧ cur.toList.take xs.length = I xs := by
  have hl : n = xs.length := by have := h.1; simp at this; omega
  rcases h.2 with ⟨rfl, h0⟩ | ⟨g, cap, cur, rfl, hB, hh, h1, h2, h3, h4⟩
  · exact .inl ⟨rfl, h0, List.eq_nil_of_length_eq_zero (by omega)⟩
  · exact .inr ⟨g, cap, cur, rfl, hl, hB, (Array.getElem?_eq_some_iff.1 hh).1, hh, h1, h2, h3, by rw [Nat.mul_one, hl] at h4; exact h4⟩
theorem frozen_new (w : World) (cs : Array Value) (t : TypeId) (o : Nat) : (w.alloc (.cells cs t)).frozen? ⟨w.heap.size, o, none⟩ = false := by
  unfold World.frozen?
  rw [heap_alloc_new]
  simp
/-- All is as it was but for the blocks of M, and new ones. -/
def Moves (M : List Nat) (w w' : World) : Prop := w'.os = w.os ∧ w'.tape = w.tape ∧ w'.output = w.output ∧ w.heap.size ≤ w'.heap.size ∧ ∀ k, k < w.heap.size → k ∉ M → w'.heap[k]? = w.heap[k]?
theorem Moves.refl (M : List Nat) (w : World) : Moves M w w := ⟨rfl, rfl, rfl, Nat.le_refl _, fun _ _ _ => rfl⟩
theorem Moves.trans {M : List Nat} {w w1 w2 : World} (h : Moves M w w1) (g : Moves M w1 w2) : Moves M w w2 :=
  ⟨g.1.trans h.1, g.2.1.trans h.2.1, g.2.2.1.trans h.2.2.1, Nat.le_trans h.2.2.2.1 g.2.2.2.1, fun k hk hm => (g.2.2.2.2 k (Nat.lt_of_lt_of_le hk h.2.2.2.1) hm).trans (h.2.2.2.2 k hk hm)⟩
theorem Moves.onto {M N : List Nat} {w w1 w2 : World} (h : Moves M w w1) (g : Moves N w1 w2) (hs : ∀ k ∈ N, k ∈ M ∨ w.heap.size ≤ k) : Moves M w w2 :=
  ⟨g.1.trans h.1, g.2.1.trans h.2.1, g.2.2.1.trans h.2.2.1, Nat.le_trans h.2.2.2.1 g.2.2.2.1, fun k hk hm => (g.2.2.2.2 k (Nat.lt_of_lt_of_le hk h.2.2.2.1) (fun hN => (hs k hN).elim hm (by omega))).trans (h.2.2.2.2 k hk hm)⟩
theorem Moves.mono {M N : List Nat} {w w1 : World} (h : Moves M w w1) (hs : ∀ k ∈ M, k ∈ N ∨ w.heap.size ≤ k) : Moves N w w1 :=
  ⟨h.1, h.2.1, h.2.2.1, h.2.2.2.1, fun k hk hm => h.2.2.2.2 k hk (fun hM => (hs k hM).elim hm (by omega))⟩
theorem Moves.of_below {M : List Nat} {w w1 : World} {B : Nat} (h : Below B w w1) (hB : ∀ k, B ≤ k → k < w.heap.size → k ∈ M) : Moves M w w1 :=
  ⟨h.os, h.tape, h.output, h.size, fun k hk hm => h.block k (by rcases Nat.lt_or_ge k B with c | c; exact c; exact absurd (hB k c hk) hm)⟩
theorem Moves.of_new {w w1 : World} (M : List Nat) (h : Below w.heap.size w w1) : Moves M w w1 := Moves.of_below h (by omega)
theorem Moves.of_grown {M : List Nat} {w w1 : World} {r : Option Nat} (h : w.grownBy w1 r) (hM : ∀ k, r = some k → k ∈ M) : Moves M w w1 :=
  ⟨h.os, h.tape, h.output, h.size, fun k hk hm => h.block k hk (fun e => hm (hM k e.symm))⟩
theorem Moves.of_grown0 {w w' : World} (h : w.grownBy w' none) : Moves [] w w' := Moves.of_grown h (by simp)
theorem Moves.set {M : List Nat} (w : World) (a : Addr) (v : Value) (h : a.block ∈ M) : Moves M w (w.setCell a v) :=
  ⟨rfl, rfl, rfl, by simp [World.setCell], fun k _ hk => Below.heap_setCell w a v k (fun e => hk (by rw [e]; exact h))⟩
theorem Moves.below {M : List Nat} {w w1 : World} {B : Nat} (h : Moves M w w1) (hB : B ≤ w.heap.size) (hM : ∀ k ∈ M, B ≤ k) : Below B w w1 :=
  ⟨h.1, h.2.1, h.2.2.1, h.2.2.2.1, fun k hk => h.2.2.2.2 k (by omega) (fun hm => absurd (hM k hm) (by omega))⟩
theorem Moves.cell {M : List Nat} {w w1 : World} (h : Moves M w w1) {b : Nat} (hb : b < w.heap.size) (hm : b ∉ M) (o : Nat) : w1.cell? ⟨b, o, none⟩ = w.cell? ⟨b, o, none⟩ := by
  have h1 := h.2.2.2.2 b hb hm
  unfold World.cell?
  rw [h1]
theorem Moves.frozen {M : List Nat} {w w1 : World} (h : Moves M w w1) {b : Nat} (hb : b < w.heap.size) (hm : b ∉ M) (o : Nat) : w1.frozen? ⟨b, o, none⟩ = w.frozen? ⟨b, o, none⟩ := by
  have h1 := h.2.2.2.2 b hb hm
  unfold World.frozen?
  rw [h1]
theorem Moves.grown1 {w w' : World} {b : Nat} (h : Moves [b] w w') : w.grownBy w' (some b) := ⟨h.1, h.2.1, h.2.2.1, h.2.2.2.1, fun k hk hne => h.2.2.2.2 k hk (by simp; rintro rfl; exact hne rfl)⟩
theorem Moves.heap_eq {M : List Nat} {w w1 w2 : World} (h : Moves M w w1) (e : w2.heap = w1.heap) (e2 : w2.os = w1.os) (e3 : w2.tape = w1.tape) (e4 : w2.output = w1.output) : Moves M w w2 := ⟨e2.trans h.1, e3.trans h.2.1, e4.trans h.2.2.1, by rw [e]; exact h.2.2.2.1, fun k hk hm => by rw [e]; exact h.2.2.2.2 k hk hm⟩
theorem own_moves {M : List Nat} {w w1 : World} {B g cap n : Nat} {e : TypeId} {xs : List Value} (h : w.ownsRow B e 1 (.slice (some ⟨g, 0, none⟩) n cap) n xs) (hm : Moves M w w1) (hg : g ∉ M) : w1.ownsRow B e 1 (.slice (some ⟨g, 0, none⟩) n cap) n xs := by
  rcases h with ⟨hl, ⟨h0, _⟩ | ⟨g', cap', cur, hv, hB, hh, h1⟩⟩
  · cases h0
  · cases hv
    exact ⟨hl, .inr ⟨g, cap, cur, rfl, hB, (hm.2.2.2.2 g (Array.getElem?_eq_some_iff.1 hh).1 hg).trans hh, h1⟩⟩
theorem own_moves2 {M : List Nat} {w w1 : World} {B n sz : Nat} {v : Value} {e : TypeId} {xs : List Value} (h : w.ownsRow B e sz v n xs) (hm : Moves M w w1) (hM : ∀ k ∈ M, k < B) : w1.ownsRow B e sz v n xs := by
  rcases h with ⟨hl, ⟨rfl, h0⟩ | ⟨g, cap, cur, rfl, hB, hh, h1⟩⟩
  · exact ⟨hl, .inl ⟨rfl, h0⟩⟩
  · exact ⟨hl, .inr ⟨g, cap, cur, rfl, hB, (hm.2.2.2.2 g (Array.getElem?_eq_some_iff.1 hh).1 (fun hk => by have := hM g hk; omega)).trans hh, h1⟩⟩
theorem set_far (w : World) (b o o' : Nat) (u : Value) (h : o' ≠ o) : (w.setCell ⟨b, o', none⟩ u).cell? ⟨b, o, none⟩ = w.cell? ⟨b, o, none⟩ := World.cell?_setCell_other _ _ _ _ (fun e => h (congrArg Addr.off e))
theorem set_here (w : World) (b o : Nat) (u v : Value) (h : w.cell? ⟨b, o, none⟩ = some v) : (w.setCell ⟨b, o, none⟩ u).cell? ⟨b, o, none⟩ = some u := World.cell?_setCell_same _ _ _ h
/-- The first n cells of block g are numbers, and may be written. -/
def NumsAt (w : World) (g n : Nat) : Prop := (∀ j, j < n → ∃ v, w.cell? ⟨g, j, none⟩ = some (.int .i64 v)) ∧ ∀ j, w.frozen? ⟨g, j, none⟩ = false
theorem NumsAt.set {w : World} {g n k : Nat} (h : NumsAt w g n) (v : Int) : NumsAt (w.setCell ⟨g, k, none⟩ (.int .i64 v)) g n := by
  refine ⟨fun j hj => ?_, fun j => by rw [World.frozen?_setCell]; exact h.2 j⟩
  obtain ⟨u, hu⟩ := h.1 j hj
  by_cases e : j = k
  · subst e; exact ⟨v, set_here _ _ _ _ _ hu⟩
  · exact ⟨u, (set_far _ _ _ _ _ (fun c => e c.symm)).trans hu⟩
theorem nums_of_own {w w' : World} {TI : TypeId} {B cap n g : Nat} {xs : List Int} (h : w.ownsRow B TI 1 (.slice (some ⟨g, 0, none⟩) n cap) n (I xs)) (hb : Below w.heap.size w w') : NumsAt w' g n := by
  rcases own_ints_cases h with ⟨h0, _⟩ | ⟨g', cap', cur, hv, hn, _, hg, hh, h1, h2, h3, h4⟩
  · cases h0
  · cases hv
    refine ⟨fun j hj => ?_, fun j => ?_⟩
    · have h3 := h.cells (g := g) rfl j (.int .i64 (xs.getD j 0)) (by simp [List.getD, show j < xs.length by omega])
      rw [add_zero] at h3
      exact ⟨_, (hb.cell (p := ⟨g, j, none⟩) hg).trans h3⟩
    · rw [hb.frozen (p := ⟨g, j, none⟩) hg]
      unfold World.frozen?
      rw [hh]
      simp
theorem reads_row {w : World} {X : Option Addr} {xs : List Int} (h : RowAt w X (I xs)) : Reads w w.heap.size 1 X xs.length (I xs) := by
  refine ⟨by simp, fun h0 => ?_⟩
  rcases h with h | ⟨b, off, rfl, hl, hc⟩
  · rw [List.map_eq_nil_iff.1 h] at h0; simp at h0
  · exact ⟨_, rfl, hl, fun j u hu => by obtain ⟨h1, h2⟩ := List.getElem?_eq_some_iff.1 hu; rw [add_any, hc j h1, h2]⟩
theorem row_lit (TI : TypeId) (w : World) (xs : List Int) : RowAt (w.alloc (.cells (I xs).toArray TI)) (some ⟨w.heap.size, 0, none⟩) (I xs) :=
  .inr ⟨w.heap.size, 0, rfl, by simp, fun j hj => by rw [Nat.zero_add, cell_new]; simp at hj; simp [hj]⟩
theorem own_mv {M : List Nat} {w w1 : World} {B n sz : Nat} {v : Value} {e : TypeId} {xs : List Value} (h : w.ownsRow B e sz v n xs) (hm : Moves M w w1) (hM : ∀ g, v.ownBlock = some g → g ∉ M) : w1.ownsRow B e sz v n xs := by
  rcases h with ⟨hl, ⟨rfl, h0⟩ | ⟨g, cap, cur, rfl, hB, hh, h1⟩⟩
  · exact ⟨hl, .inl ⟨rfl, h0⟩⟩
  · exact ⟨hl, .inr ⟨g, cap, cur, rfl, hB, (hm.2.2.2.2 g (Array.getElem?_eq_some_iff.1 hh).1 (hM g rfl)).trans hh, h1⟩⟩
theorem own_base {w : World} {B B' n sz : Nat} {v : Value} {e : TypeId} {xs : List Value} (h : w.ownsRow B e sz v n xs) (hB : B' ≤ B) : w.ownsRow B' e sz v n xs := by
  rcases h with ⟨hl, ⟨rfl, h0⟩ | ⟨g, cap, cur, rfl, hb, h1⟩⟩
  · exact ⟨hl, .inl ⟨rfl, h0⟩⟩
  · exact ⟨hl, .inr ⟨g, cap, cur, rfl, by omega, h1⟩⟩
theorem own_kept2 {T sz : Nat} {w w' : World} {e : TypeId} {v : Value} {n : Nat} {zs : List Value} {r : Option Nat} (h : w.ownsRow T e sz v n zs) (hg : w.grownBy w' r) (hne : ∀ g, v.ownBlock = some g → r ≠ some g) : w'.ownsRow T e sz v n zs := by
  refine h.kept (row := r) hg ?_
  cases hv : v.ownBlock with
  | none => left; rfl
  | some g => right; intro e; exact hne g hv e.symm
/-- What a row of one's own reads as: cells of any number an element. -/
theorem own_rowS {w : World} {base sz : Nat} {e : TypeId} {v : Value} {n : Nat} {xs : List Value} (h : w.ownsRow base e sz v n xs) : ∃ X d, v = .slice X n d ∧ RowAt w X xs ∧ n ≤ d ∧ d ≤ 9223372036854775807 := by
  rcases h with ⟨hl, ⟨rfl, h0⟩ | ⟨g, cap, cur, rfl, hB, hh, hn, hc, hsz, htk⟩⟩
  · subst h0
    rw [Nat.zero_mul] at hl
    exact ⟨none, 0, rfl, .inl (List.eq_nil_of_length_eq_zero hl), Nat.le_refl _, by omega⟩
  · have h' : w.ownsRow base e sz (.slice (some ⟨g, 0, none⟩) n cap) n xs := ⟨hl, .inr ⟨g, cap, cur, rfl, hB, hh, hn, hc, hsz, htk⟩⟩
    refine ⟨_, cap, rfl, .inr ⟨g, 0, rfl, (h'.lt g rfl).2, fun j hj => ?_⟩, hn, by simpa [maxLen] using hc⟩
    have h3 := h'.cells (g := g) rfl j _ (List.getElem?_eq_getElem hj)
    rw [add_zero] at h3
    rw [Nat.zero_add, h3]
theorem RowAt.moves {M : List Nat} {w w' : World} {X : Option Addr} {xs : List Value} (h : RowAt w X xs) (hm : Moves M w w') (hM : ∀ b o, X = some ⟨b, o, none⟩ → b ∉ M) : RowAt w' X xs := by
  rcases h with h | ⟨b, off, rfl, hl, hc⟩
  · exact .inl h
  · exact .inr ⟨b, off, rfl, Nat.lt_of_lt_of_le hl hm.2.2.2.1, fun j hj => (hm.cell hl (hM b off rfl) _).trans (hc j hj)⟩
theorem RowAt.get {w : World} {X : Option Addr} {xs : List Value} (h : RowAt w X xs) {j : Nat} (hj : j < xs.length) : ∃ b off, X = some ⟨b, off, none⟩ ∧ b < w.heap.size ∧ w.cell? ⟨b, off + j, none⟩ = some xs[j] := by
  rcases h with h | ⟨b, off, e, hl, hc⟩
  · subst h; simp at hj
  · exact ⟨b, off, e, hl, hc j hj⟩
end Go.Proofs.Ytjlapnnmdfdjdaa
