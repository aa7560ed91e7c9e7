/- The law SchedScripted: words. -/
import Derived.Test.YtbgnchddeklmeaaK29
import Derived.Test.YtbgnchddeklmeaaV1
namespace Go.Proofs.Ytbgnchddeklmeaa
open Go.RowKit
/-- One pick that was made: who was ready (a row in block g), and the place of who was picked. -/
structure XPick where
  l : List Int
  g : Nat
  d : Nat
  p : Nat
def XPick.m (q : XPick) : Int := q.l.getD q.p 0
def XPick.pl (q : XPick) : Int := (q.p : Int)
def XPick.val (q : XPick) : Value := .slice (some ⟨q.g, 0, none⟩) q.l.length q.d
def XPick.good (q : XPick) : Prop := Ready q.l q.l ∧ q.p < q.l.length
/-- The three rows that grow: places, picks, who was ready; rs: the rows of who was ready. -/
structure Scr (T : Nat) (w : World) (P Q R : Value) (xs ys : List Int) (qs rs : List XPick) : Prop where
  own1 : w.ownsRow T 3 1 P xs.length (I xs)
  own2 : w.ownsRow T 3 1 Q ys.length (I ys)
  own3 : w.ownsRow T 30 1 R qs.length (qs.map XPick.val)
  ne12 : ∀ g, P.ownBlock = some g → Q.ownBlock ≠ some g
  ne13 : ∀ g, P.ownBlock = some g → R.ownBlock ≠ some g
  ne23 : ∀ g, Q.ownBlock = some g → R.ownBlock ≠ some g
  rows : ∀ q ∈ rs, w.ownsRow T 3 1 q.val q.l.length (I q.l) ∧ P.ownBlock ≠ some q.g ∧ Q.ownBlock ≠ some q.g ∧ R.ownBlock ≠ some q.g
variable {T : Nat} {w w' : World} {P Q R : Value} {xs ys : List Int} {qs rs : List XPick}
theorem scr_start (T : Nat) (w : World) : Scr T w (.slice none 0 0) (.slice none 0 0) (.slice none 0 0) [] [] [] [] :=
  ⟨⟨rfl, .inl ⟨rfl, rfl⟩⟩, ⟨rfl, .inl ⟨rfl, rfl⟩⟩, ⟨rfl, .inl ⟨rfl, rfl⟩⟩, by simp [Value.ownBlock], by simp [Value.ownBlock], by simp [Value.ownBlock], by simp⟩
theorem Scr.moves {M : List Nat} (h : Scr T w P Q R xs ys qs rs) (hm : Moves M w w') (hM : ∀ k ∈ M, k < T) : Scr T w' P Q R xs ys qs rs :=
  ⟨own_moves2 h.own1 hm hM, own_moves2 h.own2 hm hM, own_moves2 h.own3 hm hM, h.ne12, h.ne13, h.ne23, fun q hq => ⟨own_moves2 (h.rows q hq).1 hm hM, (h.rows q hq).2⟩⟩
theorem Scr.below (h : Scr T w P Q R xs ys qs rs) (hb : Below w.heap.size w w') : Scr T w' P Q R xs ys qs rs := h.moves (Moves.of_new [] hb) (by simp)
theorem own_kept2 {e : TypeId} {v : Value} {n : Nat} {zs : List Value} {r : Option Nat} (h : w.ownsRow T e 1 v n zs) (hg : w.grownBy w' r) (hne : ∀ g, v.ownBlock = some g → r ≠ some g) : w'.ownsRow T e 1 v n zs := by
  refine h.kept (row := r) hg ?_
  cases hv : v.ownBlock with
  | none => left; rfl
  | some g => right; intro e; exact hne g hv e.symm
theorem Scr.add {w0 : World} (h : Scr T w0 P Q R xs ys qs rs) (hb : Below w0.heap.size w0 w') (q : XPick) (hq : w'.ownsRow w0.heap.size 3 1 q.val q.l.length (I q.l)) (hT : T ≤ w0.heap.size) : Scr T w' P Q R xs ys qs (rs ++ [q]) := by
  have h' := h.below hb
  have hlo := (hq.lt q.g rfl).1
  refine ⟨h'.own1, h'.own2, h'.own3, h.ne12, h.ne13, h.ne23, fun z hz => ?_⟩
  rcases List.mem_append.1 hz with hz | hz
  · exact h'.rows z hz
  · obtain rfl : z = q := by simpa using hz
    refine ⟨⟨hq.1, ?_⟩, fun e => ?_, fun e => ?_, fun e => ?_⟩
    · rcases hq.2 with h1 | ⟨g, cap, cur, hv, hB, h2⟩
      · exact .inl h1
      · exact .inr ⟨g, cap, cur, hv, by omega, h2⟩
    · have := (h.own1.lt _ e).2; omega
    · have := (h.own2.lt _ e).2; omega
    · have := (h.own3.lt _ e).2; omega
theorem Scr.row_lt (h : Scr T w P Q R xs ys qs rs) {q : XPick} (hq : q ∈ rs) : q.g < w.heap.size := ((h.rows q hq).1.lt q.g rfl).2
theorem Scr.app1 {P' : Value} {y : Int} (h : Scr T w P Q R xs ys qs rs) (ho : w'.ownsRow T 3 1 P' ((I xs).length + 1) (I xs ++ [.int .i64 y])) (hg : w.grownBy w' P.ownBlock) (hb : P'.ownBlock = P.ownBlock ∨ P'.ownBlock = some (w.heap.size + 1)) :
    Scr T w' P' Q R (xs ++ [y]) ys qs rs := by
  have hfar : ∀ g, g < w.heap.size → P.ownBlock ≠ some g → P'.ownBlock ≠ some g := fun g hg hne e => by
    rcases hb with hb | hb
    · exact hne (hb ▸ e)
    · rw [hb] at e; cases e; omega
  refine ⟨by simpa using ho, own_kept2 h.own2 hg (fun g hv hp => h.ne12 g hp hv), own_kept2 h.own3 hg (fun g hv hp => h.ne13 g hp hv), fun g hp hq => ?_, fun g hp hq => ?_, h.ne23, fun q hq => ?_⟩
  · exact hfar g (h.own2.lt g hq).2 (fun e => h.ne12 g e hq) hp
  · exact hfar g (h.own3.lt g hq).2 (fun e => h.ne13 g e hq) hp
  · obtain ⟨h1, h2, h3, h4⟩ := h.rows q hq
    exact ⟨own_kept2 h1 hg (fun g hv hp => by cases hv; exact h2 hp), hfar _ (h1.lt q.g rfl).2 h2, h3, h4⟩
theorem Scr.app2 {Q' : Value} {y : Int} (h : Scr T w P Q R xs ys qs rs) (ho : w'.ownsRow T 3 1 Q' ((I ys).length + 1) (I ys ++ [.int .i64 y])) (hg : w.grownBy w' Q.ownBlock) (hb : Q'.ownBlock = Q.ownBlock ∨ Q'.ownBlock = some (w.heap.size + 1)) :
    Scr T w' P Q' R xs (ys ++ [y]) qs rs := by
  have hfar : ∀ g, g < w.heap.size → Q.ownBlock ≠ some g → Q'.ownBlock ≠ some g := fun g hg hne e => by
    rcases hb with hb | hb
    · exact hne (hb ▸ e)
    · rw [hb] at e; cases e; omega
  refine ⟨own_kept2 h.own1 hg (fun g hv hp => h.ne12 g hv hp), by simpa using ho, own_kept2 h.own3 hg (fun g hv hp => h.ne23 g hp hv), fun g hp hq => ?_, h.ne13, fun g hp hq => ?_, fun q hq => ?_⟩
  · exact hfar g (h.own1.lt g hp).2 (fun e => h.ne12 g hp e) hq
  · exact hfar g (h.own3.lt g hq).2 (fun e => h.ne23 g e hq) hp
  · obtain ⟨h1, h2, h3, h4⟩ := h.rows q hq
    exact ⟨own_kept2 h1 hg (fun g hv hp => by cases hv; exact h3 hp), h2, hfar _ (h1.lt q.g rfl).2 h3, h4⟩
theorem Scr.app3 {R' : Value} {z : XPick} (h : Scr T w P Q R xs ys qs rs) (ho : w'.ownsRow T 30 1 R' ((qs.map XPick.val).length + 1) (qs.map XPick.val ++ [z.val])) (hg : w.grownBy w' R.ownBlock) (hb : R'.ownBlock = R.ownBlock ∨ R'.ownBlock = some (w.heap.size + 1)) :
    Scr T w' P Q R' xs ys (qs ++ [z]) rs := by
  have hfar : ∀ g, g < w.heap.size → R.ownBlock ≠ some g → R'.ownBlock ≠ some g := fun g hg hne e => by
    rcases hb with hb | hb
    · exact hne (hb ▸ e)
    · rw [hb] at e; cases e; omega
  refine ⟨own_kept2 h.own1 hg (fun g hv hp => h.ne13 g hv hp), own_kept2 h.own2 hg (fun g hv hp => h.ne23 g hv hp), by simpa using ho, h.ne12, fun g hp hq => ?_, fun g hp hq => ?_, fun q hq => ?_⟩
  · exact hfar g (h.own1.lt g hp).2 (fun e => h.ne13 g hp e) hq
  · exact hfar g (h.own2.lt g hp).2 (fun e => h.ne23 g hp e) hq
  · obtain ⟨h1, h2, h3, h4⟩ := h.rows q hq
    exact ⟨own_kept2 h1 hg (fun g hv hp => by cases hv; exact h4 hp), h2, h3, hfar _ (h1.lt q.g rfl).2 h4⟩
theorem Scr.low1 (h : Scr T w P Q R xs ys qs rs) : ∀ k, P.ownBlock = some k → T ≤ k := fun k e => (h.own1.lt k e).1
theorem Scr.low2 (h : Scr T w P Q R xs ys qs rs) : ∀ k, Q.ownBlock = some k → T ≤ k := fun k e => (h.own2.lt k e).1
theorem Scr.low3 (h : Scr T w P Q R xs ys qs rs) : ∀ k, R.ownBlock = some k → T ≤ k := fun k e => (h.own3.lt k e).1
/-- A scheduler, all in blocks B to T - 1. -/
def OneAt (B T : Nat) (w : World) (s : Nat) (C : Nat) : Prop := ∃ lo n p last count often, B ≤ lo ∧ lo + n ≤ T ∧ SAt w lo n s p last count often ∧ OftOk often count ∧ count ≤ (C : Int)
theorem OneAt.moves {B s C : Nat} {M : List Nat} (h : OneAt B T w s C) (hm : Moves M w w') (hM : ∀ k ∈ M, T ≤ k) : OneAt B T w' s C := by
  obtain ⟨lo, n, p, last, count, often, h1, h2, h3, h4⟩ := h
  exact ⟨lo, n, p, last, count, often, h1, h2, h3.moves hm (fun k hk => by have := hM k hk; omega), h4⟩
theorem OneAt.grown {B s C : Nat} {r : Option Nat} (h : OneAt B T w s C) (hg : w.grownBy w' r) (hr : ∀ k, r = some k → T ≤ k) : OneAt B T w' s C :=
  h.moves (Moves.of_grown (M := r.toList) hg (by intro k e; simp [e])) (fun k hk => hr k (by simpa using hk))
theorem OneAt.below {B s C : Nat} (h : OneAt B T w s C) (hb : Below w.heap.size w w') : OneAt B T w' s C := h.moves (Moves.of_new [] hb) (by simp)
theorem one_start {w0 : World} {s : Nat} {p : Pol} (hb : Below w0.heap.size w0 w) (h : Fresh w w' s p) : OneAt w0.heap.size w'.heap.size w' s 0 :=
  ⟨_, _, p, -1, 0, _, hb.size, by have := h.2.size; omega, h.1, ok0, by simp⟩
theorem OneAt.next {B s C : Nat} {X : Option Addr} {l : List Int} (d : Nat) (h : OneAt B T w s C) (hr : RowAt w X (I l)) (hR : Ready l l) (hC : C < 4611686018427387904) :
    Calls Try.prog 10 #[.pointer (some ⟨s, 0, none⟩), .slice X l.length d] w fun e w' => ∃ k M, k < l.length ∧ e = .returned (.tuple #[.int .i64 (l.getD k 0), .int .i64 0]) ∧ OneAt B T w' s (C + 1) ∧ Moves M w w' ∧ ∀ k ∈ M, B ≤ k ∧ k < T := by
  obtain ⟨lo, n, p, last, count, often, h1, h2, h3, h5, h6⟩ := h
  refine (next_any d h3 hr hR ⟨h5.1, by omega⟩ (fun i => by have := h5.2 i; omega)).mono ?_
  rintro e w' ⟨m, hm, rfl, hS, hM⟩
  obtain ⟨hk, he⟩ := List.getElem?_eq_some_iff.1 hm
  exact ⟨_, ring lo n, hk, by rw [List.getD_eq_getElem?_getD, hm]; rfl, ⟨lo, n, _, m, count + 1, _, h1, h2, hS, h5.bump m, by push_cast; omega⟩, hM, fun k hk => by have := mem_ring.1 hk; omega⟩
/-- A scheduler that goes by a list of places picks at them. -/
theorem next_script {lo n s i : Nat} {ps : List Int} {last : Int} {often : Nat → Int} {X : Option Addr} {l : List Int} {p : Nat} (d : Nat) (h : SAt w lo n s (polOf 4 ps 0) last (i : Int) often) (ho : OftOk often (i : Int)) (hr : RowAt w X (I l)) (hR : Ready l l) (hi : i < ps.length) (hp : ps[i] = (p : Int)) (hpl : p < l.length) (hC : i < 4611686018427387904) :
    Calls Try.prog 10 #[.pointer (some ⟨s, 0, none⟩), .slice X l.length d] w fun e w' => e = .returned (.tuple #[.int .i64 (l.getD p 0), .int .i64 0]) ∧ (∃ last' often', SAt w' lo n s (polOf 4 ps 0) last' ((i + 1 : Nat) : Int) often' ∧ OftOk often' ((i + 1 : Nat) : Int)) ∧ Moves (ring lo n) w w' := by
  refine (next_any d h hr hR ⟨by omega, by omega⟩ (fun j => by have := ho.2 j; omega)).mono ?_
  rintro e w' ⟨m, hm, rfl, hS, hM⟩
  have hk : pickK (polOf 4 ps 0) last (i : Int) often l = p := by
    show listK ps (i : Int) l = p
    unfold listK
    rw [if_pos (by omega), Int.toNat_natCast, List.getD_eq_getElem?_getD, List.getElem?_eq_getElem hi, hp]
    simp only [Option.getD_some]
    rw [Int.emod_eq_of_lt (by omega) (by omega)]
    simp
  rw [hk] at hm
  exact ⟨by rw [List.getD_eq_getElem?_getD, hm]; rfl, ⟨m, bump often m, by push_cast; exact hS, by push_cast; exact ho.bump m⟩, hM⟩
theorem place_eq {l : List Int} (h : l.Pairwise (· < ·)) {i p : Nat} (hi : i < l.length) (hp : p < l.length) : (l[i] = l.getD p 0) ↔ i = p := by
  rw [List.getD_eq_getElem?_getD, List.getElem?_eq_getElem hp, Option.getD_some]
  constructor
  · intro e
    rcases Nat.lt_trichotomy i p with c | c | c
    · have := List.pairwise_iff_getElem.1 h i p hi hp c; omega
    · exact c
    · have := List.pairwise_iff_getElem.1 h p i hp hi c; omega
  · rintro rfl; rfl
end Go.Proofs.Ytbgnchddeklmeaa
