/- PLAIN: Kahn's order: of those left over that nobody left over leads to, the least comes next. -/
import Derived.Test.YtpdfcffeinbcaaaH12
namespace Go.Proofs.Ytpdfcffeinbcaaa
open Go.RowKit
def nodes (n : Nat) : List Int := (List.range n).map Int.ofNat
theorem nodes_rising (n : Nat) : (nodes n).Pairwise (· < ·) := by
  unfold nodes
  rw [List.pairwise_map]
  exact List.pairwise_lt_range.imp (fun h => Int.ofNat_lt.2 h)
theorem rising_nodup {l : List Int} (h : l.Pairwise (· < ·)) : l.Nodup := h.imp (by intro a b h e; omega)
theorem mem_nodes {n : Nat} {x : Int} : x ∈ nodes n ↔ 0 ≤ x ∧ x < (n : Int) := by
  unfold nodes
  rw [List.mem_map]
  constructor
  · rintro ⟨a, ha, rfl⟩
    have := List.mem_range.1 ha
    exact ⟨by simp, by simpa using this⟩
  · rintro ⟨h0, h1⟩
    exact ⟨x.toNat, List.mem_range.2 (by omega), by simp; omega⟩
theorem nodes_succ (n : Nat) : nodes (n + 1) = nodes n ++ [(n : Int)] := by unfold nodes; rw [List.range_succ, List.map_append]; rfl
/-- How many of T lead to v. -/
def degL (adj : Int → List Int) (T : List Int) (v : Int) : Nat := T.countP fun u => decide (v ∈ adj u)
theorem degL_succ (adj : Int → List Int) (j : Nat) (v : Int) : degL adj (nodes (j + 1)) v = degL adj (nodes j) v + if v ∈ adj j then 1 else 0 := by
  unfold degL
  rw [nodes_succ, List.countP_append, List.countP_singleton]
  simp only [decide_eq_true_eq]
theorem degL_le (adj : Int → List Int) (T : List Int) (v : Int) : degL adj T v ≤ T.length := List.countP_le_length
theorem nodes_length (n : Nat) : (nodes n).length = n := by unfold nodes; simp
def leftL (n : Nat) (out : List Int) : List Int := (nodes n).filter fun u => decide (u ∉ out)
theorem mem_left {n : Nat} {out : List Int} {x : Int} : x ∈ leftL n out ↔ (0 ≤ x ∧ x < (n : Int)) ∧ x ∉ out := by
  unfold leftL; rw [List.mem_filter, mem_nodes, decide_eq_true_eq]
theorem left_nodup (n : Nat) (out : List Int) : (leftL n out).Nodup := (rising_nodup (nodes_rising n)).filter _
theorem left_nil (n : Nat) : leftL n [] = nodes n := by unfold leftL; simp
theorem left_length (n : Nat) (out : List Int) : (leftL n out).length ≤ n := by have h := List.length_filter_le (fun u => decide (u ∉ out)) (nodes n); rw [nodes_length] at h; exact h
/-- How many of those left over lead to v. -/
def deg (adj : Int → List Int) (n : Nat) (out : List Int) (v : Int) : Nat := degL adj (leftL n out) v
theorem deg_step {adj : Int → List Int} {n : Nat} {out : List Int} {v : Int} (hv : 0 ≤ v ∧ v < (n : Int)) (ho : v ∉ out) (x : Int) : deg adj n out x = deg adj n (out ++ [v]) x + if x ∈ adj v then 1 else 0 := by
  unfold deg degL
  have hp : (leftL n out).Perm (v :: leftL n (out ++ [v])) := by
    refine (List.perm_ext_iff_of_nodup (left_nodup _ _) ?_).2 (fun y => ?_)
    · rw [List.nodup_cons]
      exact ⟨fun h => by have := (mem_left.1 h).2; simp at this, left_nodup _ _⟩
    · rw [List.mem_cons, mem_left, mem_left]
      constructor
      · rintro ⟨h1, h2⟩
        by_cases e : y = v
        · exact .inl e
        · exact .inr ⟨h1, by simp [h2, e]⟩
      · rintro (rfl | ⟨h1, h2⟩)
        · exact ⟨hv, ho⟩
        · exact ⟨h1, fun h => h2 (by simp [h])⟩
  rw [hp.countP_eq, List.countP_cons]
  simp only [decide_eq_true_eq]
def freeB (adj : Int → List Int) (n : Nat) (out : List Int) (v : Int) : Bool := decide (v ∉ out) && decide (deg adj n out v = 0)
theorem freeB_iff {adj : Int → List Int} {n : Nat} {out : List Int} {v : Int} : freeB adj n out v = true ↔ v ∉ out ∧ deg adj n out v = 0 := by unfold freeB; simp
/-- Those that may come next. -/
def avail (adj : Int → List Int) (n : Nat) (out : List Int) : List Int := (nodes n).filter (freeB adj n out)
theorem mem_avail {adj : Int → List Int} {n : Nat} {out : List Int} {x : Int} : x ∈ avail adj n out ↔ (0 ≤ x ∧ x < (n : Int)) ∧ x ∉ out ∧ deg adj n out x = 0 := by
  unfold avail; rw [List.mem_filter, mem_nodes, freeB_iff]
theorem avail_rising (adj : Int → List Int) (n : Nat) (out : List Int) : (avail adj n out).Pairwise (· < ·) := (nodes_rising n).filter _
theorem avail_nodup (adj : Int → List Int) (n : Nat) (out : List Int) : (avail adj n out).Nodup := rising_nodup (avail_rising adj n out)
/-- A beginning of the order: each is a node, once, and nobody left over leads to it. -/
structure Begun (adj : Int → List Int) (n : Nat) (out : List Int) : Prop where
  nod : out.Nodup
  rng : ∀ x ∈ out, 0 ≤ x ∧ x < (n : Int)
  free : ∀ x ∈ out, deg adj n out x = 0
theorem begun_nil (adj : Int → List Int) (n : Nat) : Begun adj n [] := ⟨by simp, by simp, by simp⟩
theorem Begun.length {adj : Int → List Int} {n : Nat} {out : List Int} (h : Begun adj n out) : out.length ≤ n := nodup_len n out h.nod h.rng
theorem Begun.next {adj : Int → List Int} {n : Nat} {out : List Int} {v : Int} (h : Begun adj n out) (hv : v ∈ avail adj n out) : Begun adj n (out ++ [v]) := by
  obtain ⟨hr, ho, hd⟩ := mem_avail.1 hv
  refine ⟨?_, fun x hx => ?_, fun x hx => ?_⟩
  · rw [List.nodup_append]
    exact ⟨h.nod, by simp, fun a ha b hb e => by simp at hb; subst hb; subst e; exact ho ha⟩
  · rcases List.mem_append.1 hx with hx | hx
    · exact h.rng x hx
    · simp at hx; subst hx; exact hr
  · have hs := deg_step (adj := adj) hr ho x
    have : deg adj n out x = 0 := by
      rcases List.mem_append.1 hx with hx | hx
      · exact h.free x hx
      · simp at hx; subst hx; exact hd
    omega
/-- Behind a pick: the others, and those of its own that nobody else left over leads to. -/
theorem avail_next {adj : Int → List Int} {n : Nat} {out rest : List Int} {v : Int} (h : Begun adj n out) (hv : avail adj n out = v :: rest) (hn : (adj v).Nodup) (ha : ∀ x ∈ adj v, 0 ≤ x ∧ x < (n : Int)) :
    (rest ++ (adj v).filter fun x => decide (deg adj n (out ++ [v]) x = 0)).Perm (avail adj n (out ++ [v])) := by
  have hvm : v ∈ avail adj n out := by rw [hv]; simp
  obtain ⟨hr, ho, hd⟩ := mem_avail.1 hvm
  have hnd := avail_nodup adj n out
  rw [hv, List.nodup_cons] at hnd
  have hrest : ∀ x, x ∈ rest ↔ x ∈ avail adj n out ∧ x ≠ v := fun x => by
    rw [hv, List.mem_cons]
    constructor
    · intro hx; exact ⟨.inr hx, fun e => hnd.1 (by rw [← e]; exact hx)⟩
    · rintro ⟨rfl | hx, hne⟩
      · exact absurd rfl hne
      · exact hx
  have hs := deg_step (adj := adj) hr ho
  refine (List.perm_ext_iff_of_nodup ?_ (avail_nodup _ _ _)).2 (fun x => ?_)
  · rw [List.nodup_append]
    refine ⟨hnd.2, hn.filter _, fun a h1 b h2 e => ?_⟩
    subst e
    have hda := (mem_avail.1 ((hrest a).1 h1).1).2.2
    have hb := (List.mem_filter.1 h2).1
    have := hs a
    rw [if_pos hb] at this
    omega
  · rw [List.mem_append, hrest, mem_avail, mem_avail, List.mem_filter, decide_eq_true_eq]
    have hx := hs x
    constructor
    · rintro (⟨⟨h1, h2, h3⟩, h4⟩ | ⟨h1, h2⟩)
      · exact ⟨h1, by simp [h2, h4], by omega⟩
      · rw [if_pos h1] at hx
        refine ⟨ha x h1, fun hm => ?_, h2⟩
        rcases List.mem_append.1 hm with hm | hm
        · have := h.free x hm; omega
        · simp at hm; subst hm; omega
    · rintro ⟨h1, h2, h3⟩
      have hxo : x ∉ out := fun hm => h2 (by simp [hm])
      have hxv : x ≠ v := fun hm => h2 (by simp [hm])
      by_cases e : x ∈ adj v
      · exact .inr ⟨e, h3⟩
      · rw [if_neg e] at hx
        exact .inl ⟨⟨h1, hxo, by omega⟩, hxv⟩
def ordGo (adj : Int → List Int) (n : Nat) : Nat → List Int → List Int
  | 0, out => out
  | k + 1, out => match (avail adj n out).head? with
    | none => out
    | some v => ordGo adj n k (out ++ [v])
/-- The least order, as far as it goes. -/
def ordF (adj : Int → List Int) (n : Nat) : List Int := ordGo adj n n []
theorem ordGo_next {adj : Int → List Int} {n k : Nat} {out rest : List Int} {v : Int} (h : avail adj n out = v :: rest) : ordGo adj n (k + 1) out = ordGo adj n k (out ++ [v]) := by rw [ordGo, h]; rfl
theorem ordGo_done {adj : Int → List Int} {n : Nat} {out : List Int} (h : avail adj n out = []) : ∀ k, ordGo adj n k out = out
  | 0 => rfl
  | k + 1 => by rw [ordGo, h]; rfl
theorem avail_left {adj : Int → List Int} {n : Nat} {out : List Int} {v : Int} (h : Begun adj n out) (hv : v ∈ avail adj n out) : out.length < n := by
  have h1 := (h.next hv).length
  rw [List.length_append] at h1
  simp at h1
  omega
theorem ordGo_begun {adj : Int → List Int} {n : Nat} : ∀ (k : Nat) {out : List Int}, Begun adj n out → Begun adj n (ordGo adj n k out)
  | 0, out, h => h
  | k + 1, out, h => by
    unfold ordGo
    cases hv : (avail adj n out).head? with
    | none => exact h
    | some v => exact ordGo_begun k (h.next (List.mem_of_mem_head? hv))
theorem ordGo_stuck {adj : Int → List Int} {n : Nat} : ∀ (k : Nat) {out : List Int}, Begun adj n out → n ≤ k + out.length → avail adj n (ordGo adj n k out) = []
  | 0, out, h, hk => by
    cases hv : avail adj n out with
    | nil => exact hv
    | cons v r => have := avail_left h (v := v) (by rw [hv]; simp); omega
  | k + 1, out, h, hk => by
    unfold ordGo
    cases hv : (avail adj n out).head? with
    | none => exact List.head?_eq_none_iff.1 hv
    | some v => exact ordGo_stuck k (h.next (List.mem_of_mem_head? hv)) (by simp; omega)
theorem ord_begun (adj : Int → List Int) (n : Nat) : Begun adj n (ordF adj n) := ordGo_begun n (begun_nil adj n)
theorem ord_stuck (adj : Int → List Int) (n : Nat) : avail adj n (ordF adj n) = [] := ordGo_stuck n (begun_nil adj n) (by simp)
/-- The least of a heap of those that may come next. -/
theorem heap_least {adj : Int → List Int} {n : Nat} {out L L' : List Int} {v : Int} (hp : L.Perm (avail adj n out)) (hm : ∀ x ∈ L, v ≤ x) (hL : (v :: L').Perm L) : ∃ rest, avail adj n out = v :: rest ∧ L'.Perm rest := by
  have hp2 := hL.trans hp
  cases hav : avail adj n out with
  | nil => rw [hav] at hp2; have := hp2.length_eq; simp at this
  | cons a rest =>
    have hr := avail_rising adj n out
    rw [hav] at hp hp2 hr
    have ha : a ∈ L := hp.mem_iff.2 (by simp)
    have h1 := hm a ha
    have h2 : v ∈ a :: rest := hp2.mem_iff.1 (by simp)
    have : v = a := by
      rcases List.mem_cons.1 h2 with h | h
      · exact h
      · have := (List.pairwise_cons.1 hr).1 v h; omega
    subst this
    exact ⟨rest, rfl, hp2.cons_inv⟩
end Go.Proofs.Ytpdfcffeinbcaaa
