/- Any policy: what it holds, what it picks, how it lies in memory. -/
import Derived.Test.YtbgnchddeklmeaaK13
namespace Go.Proofs.Ytbgnchddeklmeaa
open Go.RowKit
/-- What a policy holds: its kind (as rules number them), its row, a state of chance, which have a weight, the weights. -/
structure Pol where
  kind : Nat
  row : List Int
  c : Int
  has : Nat → Bool
  wt : Nat → Int
def maxAt (l : List Int) : Nat := (Lib.idxOf l (Lib.maxOf l)).toNat
theorem foldl_max_mem (l : List Int) : ∀ a, l.foldl max a = a ∨ l.foldl max a ∈ l := by
  induction l with
  | nil => intro a; simp
  | cons b l ih =>
    intro a
    rcases ih (max a b) with h | h
    · rw [List.foldl_cons, h]
      rcases Int.le_total a b with c | c
      · right; rw [Int.max_eq_right c]; simp
      · left; exact Int.max_eq_left c
    · right; rw [List.foldl_cons]; exact List.mem_cons_of_mem _ h
theorem maxOf_mem {l : List Int} (h : 0 < l.length) : Lib.maxOf l ∈ l := by
  cases l with
  | nil => simp at h
  | cons a l =>
    show (a :: l).foldl max a ∈ a :: l
    rw [List.foldl_cons, Int.max_self]
    rcases foldl_max_mem l a with h | h
    · rw [h]; simp
    · exact List.mem_cons_of_mem _ h
theorem maxAt_spec {l : List Int} (h : 0 < l.length) : Lib.idxOf l (Lib.maxOf l) = (maxAt l : Nat) ∧ maxAt l < l.length := by
  obtain ⟨k, h1, hk, _, _⟩ := idxOf_at (maxOf_mem h)
  have h3 : maxAt l = k := by unfold maxAt; rw [h1]; simp
  exact ⟨by rw [h3, h1], by rw [h3]; exact hk⟩
def listK (ps : List Int) (count : Int) (l : List Int) : Nat := if count < ps.length then ((ps.getD count.toNat 0) % l.length).toNat else 0
def wOf (ws : List Int) (n : Int) : Int := if n < ws.length then ws.getD n.toNat 0 else 0
def heavyK (f : Int → Int) (l : List Int) : Nat := maxAt (l.map f)
def belowK (c n : Int) : Nat := (outS c / 8589934592 % n).toNat
/-- One of the ready, given a weight if it has none. -/
def pctStep (p : Pol) (n : Int) : Pol := if p.has n.toNat = true then p else { p with c := nxS p.c, has := fun i => if i = n.toNat then true else p.has i, wt := fun i => if i = n.toNat then outS p.c / 8589934592 else p.wt i }
def pctAll (p : Pol) (l : List Int) : Pol := l.foldl pctStep p
def pctK (p : Pol) (l : List Int) : Nat := heavyK (fun n => (pctAll p l).wt n.toNat) l
def pctEnd (p : Pol) (count : Int) (l : List Int) : Pol :=
  if 0 ≤ Lib.idxOf p.row count then { pctAll p l with wt := fun i => if i = (l.getD (pctK p l) 0).toNat then -(Lib.idxOf p.row count + 1) else (pctAll p l).wt i } else pctAll p l
def pickK (p : Pol) (last count : Int) (often : Nat → Int) (l : List Int) : Nat :=
  if p.kind = 0 then 0 else if p.kind = 1 then l.length - 1 else if p.kind = 2 then rndK last l else if p.kind = 3 then fairK often l else if p.kind = 4 then listK p.row count l
  else if p.kind = 5 then heavyK (wOf p.row) l else if p.kind = 6 then belowK p.c l.length else pctK p l
def pickP (p : Pol) (count : Int) (l : List Int) : Pol :=
  if p.kind = 6 then { p with c := nxS p.c } else if p.kind = 7 then pctEnd p count l else p
theorem heavyK_lt (f : Int → Int) {l : List Int} (h : 0 < l.length) : heavyK f l < l.length := by
  have := (maxAt_spec (l := l.map f) (by rw [List.length_map]; exact h)).2
  rwa [List.length_map] at this
theorem belowK_lt (c : Int) {n : Nat} (h : 0 < n) : belowK c n < n := by
  unfold belowK
  have h1 := Int.emod_lt_of_pos (outS c / 8589934592) (show (0 : Int) < (n : Int) by omega)
  have h2 := Int.emod_nonneg (outS c / 8589934592) (show (n : Int) ≠ 0 by omega)
  omega
theorem listK_lt (ps : List Int) (count : Int) {l : List Int} (h : 0 < l.length) : listK ps count l < l.length := by
  unfold listK
  split
  · have h1 := Int.emod_lt_of_pos (ps.getD count.toNat 0) (show (0 : Int) < (l.length : Int) by omega)
    have h2 := Int.emod_nonneg (ps.getD count.toNat 0) (show (l.length : Int) ≠ 0 by omega)
    omega
  · exact h
theorem pickK_lt (p : Pol) (last count : Int) (often : Nat → Int) {l : List Int} (h : 0 < l.length) : pickK p last count often l < l.length := by
  unfold pickK
  split
  · exact h
  split
  · omega
  split
  · exact rndK_lt last h
  split
  · exact fairK_lt often h
  split
  · exact listK_lt _ _ h
  split
  · exact heavyK_lt _ h
  split
  · exact belowK_lt _ h
  · exact heavyK_lt _ h
/-- A row within blocks lo to lo + n - 1, but in no block of bad. -/
def RowIn (w : World) (lo n : Nat) (bad : List Nat) (X : Option Addr) (xs : List Int) : Prop := xs = [] ∨ ∃ b off, X = some ⟨b, off, none⟩ ∧ lo ≤ b ∧ b < lo + n ∧ b ∉ bad ∧ b < w.heap.size ∧ ∀ j, j < xs.length → w.cell? ⟨b, off + j, none⟩ = some (.int .i64 (xs.getD j 0))
def plainF (k : Nat) : Value := if k = 0 then .func (Fn.func 42) #[] #[] else if k = 1 then .func (Fn.func 43) #[] #[] else if k = 2 then roundP else fairP
/-- How a policy lies in memory; q: the block that it writes. -/
def PolAt (w : World) (lo n s : Nat) (ty : TypeId) (pv : Value) (q : Option Nat) (p : Pol) : Prop :=
  (p.kind ≤ 3 ∧ ty = 49 ∧ pv = plainF p.kind ∧ q = none) ∨
  (p.kind = 4 ∧ ty = 69 ∧ q = none ∧ p.row.length ≤ 4096 ∧ (∀ x ∈ p.row, 0 ≤ x) ∧ ∃ X d, pv = .slice X p.row.length d ∧ RowIn w lo n [s] X p.row) ∨
  (p.kind = 5 ∧ ty = 75 ∧ q = none ∧ p.row.length ≤ 4096 ∧ ∃ X d, pv = .slice X p.row.length d ∧ RowIn w lo n [s] X p.row) ∨
  (p.kind = 6 ∧ ty = 76 ∧ ∃ b, q = some b ∧ pv = .pointer (some ⟨b, 0, none⟩) ∧ lo ≤ b ∧ b < lo + n ∧ b ≠ s ∧ b < w.heap.size ∧ w.cell? ⟨b, 0, none⟩ = some (.int .u64 p.c) ∧ ∀ j, w.frozen? ⟨b, j, none⟩ = false) ∨
  (p.kind = 7 ∧ ty = 79 ∧ p.row.length ≤ 4096 ∧ ∃ b X d, q = some b ∧ pv = .pointer (some ⟨b, 0, none⟩) ∧ lo ≤ b ∧ b < lo + n ∧ b ≠ s ∧ b < w.heap.size ∧ w.cell? ⟨b, 0, none⟩ = some (.int .u64 p.c) ∧ w.cell? ⟨b, 1, none⟩ = some (.slice X p.row.length d) ∧ RowIn w lo n [s, b] X p.row ∧
    (∀ i, i < 128 → w.cell? ⟨b, 2 + i, none⟩ = some (.bool (p.has i))) ∧ (∀ i, i < 128 → w.cell? ⟨b, 130 + i, none⟩ = some (.int .i64 (p.wt i))) ∧ ∀ j, w.frozen? ⟨b, j, none⟩ = false)
theorem RowIn.moves {w w' : World} {lo n : Nat} {bad M : List Nat} {X : Option Addr} {xs : List Int} (h : RowIn w lo n bad X xs) (hm : Moves M w w') (hM : ∀ k ∈ M, k ∈ bad ∨ k < lo ∨ lo + n ≤ k) : RowIn w' lo n bad X xs := by
  rcases h with h | ⟨b, off, e, h1, h2, h3, h4, hc⟩
  · exact .inl h
  · have hb : b ∉ M := fun hb => (hM b hb).elim h3 (by omega)
    exact .inr ⟨b, off, e, h1, h2, h3, Nat.lt_of_lt_of_le h4 hm.2.2.2.1, fun j hj => (hm.cell h4 hb _).trans (hc j hj)⟩
theorem PolAt.moves {w w' : World} {lo n s : Nat} {ty : TypeId} {pv : Value} {q : Option Nat} {p : Pol} {M : List Nat} (h : PolAt w lo n s ty pv q p) (hm : Moves M w w') (hM : ∀ k ∈ M, k = s ∨ k < lo ∨ lo + n ≤ k) : PolAt w' lo n s ty pv q p := by
  rcases h with h | ⟨h1, h2, h3, h4, h5, X, d, h6, h7⟩ | ⟨h1, h2, h3, h4, X, d, h6, h7⟩ | ⟨h1, h2, b, h3, h4, h5, h6, h7, h8, h9, h10⟩ | ⟨h1, h2, h3, b, X, d, h4, h5, h6, h7, h8, h9, h10, h11, h12, h13, h14, h15⟩
  · exact .inl h
  · exact .inr (.inl ⟨h1, h2, h3, h4, h5, X, d, h6, h7.moves hm (fun k hk => (hM k hk).imp (by simp) id)⟩)
  · exact .inr (.inr (.inl ⟨h1, h2, h3, h4, X, d, h6, h7.moves hm (fun k hk => (hM k hk).imp (by simp) id)⟩))
  · have hb : b ∉ M := fun hb => by rcases hM b hb with h | h | h <;> omega
    exact .inr (.inr (.inr (.inl ⟨h1, h2, b, h3, h4, h5, h6, h7, Nat.lt_of_lt_of_le h8 hm.2.2.2.1, (hm.cell h8 hb _).trans h9, fun j => (hm.frozen h8 hb j).trans (h10 j)⟩)))
  · have hb : b ∉ M := fun hb => by rcases hM b hb with h | h | h <;> omega
    exact .inr (.inr (.inr (.inr ⟨h1, h2, h3, b, X, d, h4, h5, h6, h7, h8, Nat.lt_of_lt_of_le h9 hm.2.2.2.1, (hm.cell h9 hb _).trans h10, (hm.cell h9 hb _).trans h11, h12.moves hm (fun k hk => (hM k hk).imp (by intro e; simp [e]) id),
      fun i hi => (hm.cell h9 hb _).trans (h13 i hi), fun i hi => (hm.cell h9 hb _).trans (h14 i hi), fun j => (hm.frozen h9 hb j).trans (h15 j)⟩)))
end Go.Proofs.Ytbgnchddeklmeaa
