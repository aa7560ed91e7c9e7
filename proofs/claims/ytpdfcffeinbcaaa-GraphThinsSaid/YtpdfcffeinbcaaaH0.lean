/- PLAIN: graphs, where nodes lead; rows that rise. -/
import Derived.Test.YtpdfcffeinbcaaaM1
import Derived.Lib.RowBridge
import Derived.Lib.SlicesCompact
namespace Go.Proofs.Ytpdfcffeinbcaaa
open Go.RowKit
theorem sortI_perm (xs : List Int) : (sortI xs).Perm xs := List.mergeSort_perm ..
theorem sortI_le (xs : List Int) : (sortI xs).Pairwise (· ≤ ·) := by
  have := List.pairwise_mergeSort (le := fun x y : Int => decide (x ≤ y)) (by intro a b c h1 h2; simp at h1 h2 ⊢; omega) (by intro a b; simp; omega) xs
  exact this.imp (by intro a b h; simpa using h)
theorem rising_ext {a b : List Int} (ha : a.Pairwise (· < ·)) (hb : b.Pairwise (· < ·)) (h : ∀ x, x ∈ a ↔ x ∈ b) : a = b := by
  have na : a.Nodup := ha.imp (by intro x y h e; omega)
  have nb : b.Nodup := hb.imp (by intro x y h e; omega)
  have hp : a.Perm b := (List.perm_ext_iff_of_nodup na nb).2 h
  exact hp.eq_of_pairwise (le := fun x y => x < y) (by intro x y _ _ h1 h2; omega) ha hb
theorem compact_up (zs : List Int) (h : zs.Pairwise (· ≤ ·)) : ∀ m, m ≤ zs.length → (Lib.compactUpTo zs.toArray m).Pairwise (· < ·) ∧ ∀ x, x ∈ Lib.compactUpTo zs.toArray m ↔ ∃ j, j < m ∧ zs.toArray[j]! = x
  | 0, _ => by simp [Lib.compactUpTo]
  | m + 1, hm => by
    obtain ⟨h1, h2⟩ := compact_up zs h m (by omega)
    rw [Lib.compactUpTo_succ]
    have hle : ∀ i j, i ≤ j → j < zs.length → zs.toArray[i]! ≤ zs.toArray[j]! := fun i j hij hj => by
      rw [getElem!_pos _ i (by simp; omega), getElem!_pos _ j (by simpa using hj)]
      rcases Nat.lt_or_ge i j with c | c
      · exact List.pairwise_iff_getElem.1 h i j (by omega) hj c
      · have : i = j := by omega
        subst this; exact Int.le_refl _
    by_cases hk : Lib.keeps zs.toArray m = true
    · rw [if_pos hk]
      unfold Lib.keeps at hk
      rw [decide_eq_true_eq] at hk
      refine ⟨?_, fun x => ?_⟩
      · rw [List.pairwise_append]
        refine ⟨h1, List.pairwise_singleton _ _, fun a ha b hb => ?_⟩
        obtain ⟨j, hj, rfl⟩ := (h2 a).1 ha
        obtain rfl : b = zs.toArray[m]! := by simpa using hb
        rcases hk with hk | hk
        · omega
        · have e1 := hle j (m - 1) (by omega) (by omega)
          have e2 := hle (m - 1) m (by omega) (by omega)
          have e3 : zs.toArray[m]! ≠ zs.toArray[m - 1]! := hk
          omega
      · rw [List.mem_append, h2, List.mem_singleton]
        constructor
        · rintro (⟨j, hj, e⟩ | e)
          · exact ⟨j, by omega, e⟩
          · exact ⟨m, by omega, e.symm⟩
        · rintro ⟨j, hj, e⟩
          rcases Nat.lt_or_ge j m with c | c
          · exact .inl ⟨j, c, e⟩
          · have : j = m := by omega
            subst this; exact .inr e.symm
    · rw [if_neg hk, List.append_nil]
      refine ⟨h1, fun x => (h2 x).trans ?_⟩
      unfold Lib.keeps at hk
      rw [decide_eq_true_eq] at hk
      constructor
      · rintro ⟨j, hj, e⟩; exact ⟨j, by omega, e⟩
      · rintro ⟨j, hj, e⟩
        rcases Nat.lt_or_ge j m with c | c
        · exact ⟨j, c, e⟩
        · have : j = m := by omega
          subst this
          refine ⟨j - 1, by omega, ?_⟩
          rw [← e]
          exact (Decidable.not_not.1 fun hne => hk (.inr (fun e2 => hne e2.symm)))
theorem compact_rising {zs : List Int} (h : zs.Pairwise (· ≤ ·)) : (Lib.compact zs).Pairwise (· < ·) ∧ ∀ x, x ∈ Lib.compact zs ↔ x ∈ zs := by
  obtain ⟨h1, h2⟩ := compact_up zs h zs.length (Nat.le_refl _)
  refine ⟨h1, fun x => (h2 x).trans ?_⟩
  constructor
  · rintro ⟨j, hj, rfl⟩
    rw [getElem!_pos _ j (by simpa using hj)]
    simp
  · intro hx
    obtain ⟨j, hj, rfl⟩ := List.mem_iff_getElem.1 hx
    exact ⟨j, hj, by rw [getElem!_pos _ j (by simpa using hj)]; simp⟩
/-- A graph. -/
structure XG where
  n : Int
  es : List (Int × Int)
def edgeCells (es : List (Int × Int)) : List Value := es.flatMap fun e => [.int .i64 e.1, .int .i64 e.2]
theorem edgeCells_length (es : List (Int × Int)) : (edgeCells es).length = es.length * 2 := by
  induction es with
  | nil => rfl
  | cons e es ih => simp only [edgeCells, List.flatMap_cons, List.length_append, List.length_cons, List.length_nil] at ih ⊢; omega
theorem edgeCells_get {es : List (Int × Int)} {j : Nat} (h : j < es.length) : (edgeCells es)[j * 2]? = some (.int .i64 es[j].1) ∧ (edgeCells es)[j * 2 + 1]? = some (.int .i64 es[j].2) := by
  induction es generalizing j with
  | nil => simp at h
  | cons e es ih =>
    cases j with
    | zero => exact ⟨rfl, rfl⟩
    | succ j =>
      have := ih (j := j) (by simpa using h)
      have e1 : (j + 1) * 2 = j * 2 + 1 + 1 := by omega
      have e2 : (j + 1) * 2 + 1 = j * 2 + 1 + 1 + 1 := by omega
      rw [e2, e1]
      exact this
def XG.val (g : XG) (E : Option Addr) (d : Nat) : Value := .agg #[.int .i64 g.n, .slice E g.es.length d]
def GAt (w : World) (E : Option Addr) (g : XG) : Prop := RowAt w E (edgeCells g.es)
theorem GAt.below {w w' : World} {E : Option Addr} {g : XG} (h : GAt w E g) (hb : Below w.heap.size w w') : GAt w' E g := RowAt.below h hb
theorem GAt.edge {w : World} {E : Option Addr} {g : XG} (h : GAt w E g) {j : Nat} (hj : j < g.es.length) : ∃ b off, E = some ⟨b, off, none⟩ ∧ b < w.heap.size ∧ w.cell? ⟨b, off + j * 2, none⟩ = some (.int .i64 g.es[j].1) ∧ w.cell? ⟨b, off + j * 2 + 1, none⟩ = some (.int .i64 g.es[j].2) := by
  have hl := edgeCells_length g.es
  have hg := edgeCells_get hj
  rcases h with h | ⟨b, off, e, hb, hc⟩
  · have := congrArg List.length h
    rw [hl, List.length_nil] at this
    omega
  · refine ⟨b, off, e, hb, ?_, ?_⟩
    · obtain ⟨h1, h2⟩ := List.getElem?_eq_some_iff.1 hg.1
      rw [hc _ h1, h2]
    · obtain ⟨h1, h2⟩ := List.getElem?_eq_some_iff.1 hg.2
      rw [Nat.add_assoc, hc _ h1, h2]
/-- Is it a node? -/
def nodeB (n x : Int) : Bool := decide (0 ≤ x) && decide (x < n)
theorem nodeB_iff {n x : Int} : nodeB n x = true ↔ 0 ≤ x ∧ x < n := by unfold nodeB; simp
def inB (n : Int) (e : Int × Int) : Bool := nodeB n e.1 && nodeB n e.2
/-- What is wrong with a graph. -/
def chkF (g : XG) : Int := if g.n < 0 ∨ 4096 < g.n then 1 else if 16384 < g.es.length then 3 else if g.es.all (inB g.n) = true then 0 else 1
/-- A right graph. -/
structure Good (g : XG) : Prop where
  n0 : 0 ≤ g.n
  n1 : g.n ≤ 4096
  len : g.es.length ≤ 16384
  all : ∀ e ∈ g.es, (0 ≤ e.1 ∧ e.1 < g.n) ∧ 0 ≤ e.2 ∧ e.2 < g.n
theorem chkF_good {g : XG} : chkF g = 0 ↔ Good g := by
  unfold chkF
  constructor
  · intro h
    split at h
    · omega
    rename_i h1
    split at h
    · omega
    rename_i h2
    split at h
    · rename_i h3
      refine ⟨by omega, by omega, by omega, fun e he => ?_⟩
      have := List.all_eq_true.1 h3 e he
      unfold inB at this
      rw [Bool.and_eq_true, nodeB_iff, nodeB_iff] at this
      exact this
    · omega
  · rintro ⟨h0, h1, h2, h3⟩
    rw [if_neg (by omega), if_neg (by omega), if_pos]
    rw [List.all_eq_true]
    intro e he
    unfold inB
    rw [Bool.and_eq_true, nodeB_iff, nodeB_iff]
    exact h3 e he
/-- Those that edges lead to from a node, as they stand. -/
def tgt (es : List (Int × Int)) (i : Int) : List Int := (es.filter fun e => decide (e.1 = i)).map (·.2)
theorem tgt_length (es : List (Int × Int)) (i : Int) : (tgt es i).length ≤ es.length := by unfold tgt; rw [List.length_map]; exact List.length_filter_le _ _
theorem mem_tgt {es : List (Int × Int)} {i x : Int} : x ∈ tgt es i ↔ (i, x) ∈ es := by
  unfold tgt
  rw [List.mem_map]
  constructor
  · rintro ⟨⟨a, b⟩, h, rfl⟩
    rw [List.mem_filter, decide_eq_true_eq] at h
    obtain ⟨h1, rfl⟩ := h
    exact h1
  · intro h
    exact ⟨(i, x), by rw [List.mem_filter, decide_eq_true_eq]; exact ⟨h, rfl⟩, rfl⟩
theorem tgt_snoc (es : List (Int × Int)) (a b i : Int) : tgt (es ++ [(a, b)]) i = if a = i then tgt es i ++ [b] else tgt es i := by
  unfold tgt
  rw [List.filter_append, List.map_append]
  by_cases h : a = i
  · simp [h]
  · simp [h]
/-- Those that a node leads to, rising. -/
def nxt (g : XG) (i : Int) : List Int := Lib.compact (sortI (tgt g.es i))
theorem nxt_rising (g : XG) (i : Int) : (nxt g i).Pairwise (· < ·) := (compact_rising (sortI_le _)).1
theorem mem_nxt {g : XG} {i x : Int} : x ∈ nxt g i ↔ (i, x) ∈ g.es := by
  unfold nxt
  rw [(compact_rising (sortI_le _)).2, (sortI_perm _).mem_iff, mem_tgt]
theorem nxt_length (g : XG) (i : Int) : (nxt g i).length ≤ g.es.length := by
  unfold nxt
  refine Nat.le_trans (Lib.compact_length_le _) ?_
  rw [sortI_length]
  exact tgt_length _ _
end Go.Proofs.Ytpdfcffeinbcaaa
