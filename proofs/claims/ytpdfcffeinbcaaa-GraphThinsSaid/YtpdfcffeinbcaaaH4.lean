/- PLAIN: what some nodes have a way to, first come first. -/
import Derived.Test.YtpdfcffeinbcaaaH0
namespace Go.Proofs.Ytpdfcffeinbcaaa
open Go.RowKit
/-- What some nodes have a way to, and themselves. -/
inductive Rch (adj : Int → List Int) (src : List Int) : Int → Prop
  | base {x : Int} : x ∈ src → Rch adj src x
  | step {x y : Int} : Rch adj src x → y ∈ adj x → Rch adj src y
def pushAll (all l : List Int) : List Int := l.foldl (fun a y => if y ∈ a then a else a ++ [y]) all
theorem pushAll_snoc (all l : List Int) (y : Int) : pushAll all (l ++ [y]) = if y ∈ pushAll all l then pushAll all l else pushAll all l ++ [y] := by
  unfold pushAll; rw [List.foldl_append]; rfl
theorem pushAll_cons (all l : List Int) (y : Int) : pushAll all (y :: l) = pushAll (if y ∈ all then all else all ++ [y]) l := rfl
theorem mem_pushAll {all l : List Int} {x : Int} : x ∈ pushAll all l ↔ x ∈ all ∨ x ∈ l := by
  induction l generalizing all with
  | nil => simp [pushAll]
  | cons y l ih =>
    rw [pushAll_cons, ih]
    by_cases h : y ∈ all
    · rw [if_pos h, List.mem_cons]
      constructor
      · rintro (h1 | h1)
        · exact .inl h1
        · exact .inr (.inr h1)
      · rintro (h1 | rfl | h1)
        · exact .inl h1
        · exact .inl h
        · exact .inr h1
    · rw [if_neg h, List.mem_append, List.mem_singleton, List.mem_cons]
      constructor
      · rintro ((h1 | h1) | h1)
        · exact .inl h1
        · exact .inr (.inl h1)
        · exact .inr (.inr h1)
      · rintro (h1 | h1 | h1)
        · exact .inl (.inl h1)
        · exact .inl (.inr h1)
        · exact .inr h1
theorem pushAll_nodup {all l : List Int} (h : all.Nodup) : (pushAll all l).Nodup := by
  induction l generalizing all with
  | nil => exact h
  | cons y l ih =>
    rw [pushAll_cons]
    apply ih
    split
    · exact h
    · rename_i hy
      rw [List.nodup_append]
      refine ⟨h, by simp, ?_⟩
      intro a ha b hb e
      obtain rfl : b = y := by simpa using hb
      subst e
      exact hy ha
theorem pushAll_pre (all l : List Int) : ∃ t, pushAll all l = all ++ t := by
  induction l generalizing all with
  | nil => exact ⟨[], by simp [pushAll]⟩
  | cons y l ih =>
    rw [pushAll_cons]
    by_cases h : y ∈ all
    · rw [if_pos h]; exact ih all
    · rw [if_neg h]
      obtain ⟨t, ht⟩ := ih (all ++ [y])
      exact ⟨y :: t, by rw [ht]; simp⟩
theorem nodup_len : ∀ (n : Nat) (l : List Int), l.Nodup → (∀ x ∈ l, 0 ≤ x ∧ x < (n : Int)) → l.length ≤ n
  | 0, l, _, hr => by
    cases l with
    | nil => simp
    | cons x l => have := hr x (by simp); omega
  | n + 1, l, hn, hr => by
    have h1 : (l.erase (n : Int)).length ≤ n := nodup_len n _ (hn.sublist List.erase_sublist) (fun x hx => by
      have hx2 := List.mem_of_mem_erase hx
      have hne : x ≠ (n : Int) := fun e => by subst e; exact (hn.mem_erase_iff.1 hx).1 rfl
      have := hr x hx2
      omega)
    have h2 : l.length ≤ (l.erase (n : Int)).length + 1 := by rw [List.length_erase]; split <;> omega
    omega
def bfsGo (adj : Int → List Int) : Nat → List Int → Nat → List Int
  | 0, all, _ => all
  | f + 1, all, k => if k < all.length then bfsGo adj f (pushAll all (adj (all.getD k 0))) (k + 1) else all
def bfsF (adj : Int → List Int) (n : Nat) (src : List Int) : List Int := bfsGo adj n (pushAll [] src) 0
theorem bfsGo_done (adj : Int → List Int) (f : Nat) (all : List Int) : bfsGo adj f all all.length = all := by
  cases f with
  | zero => rfl
  | succ f => unfold bfsGo; rw [if_neg (Nat.lt_irrefl _)]
/-- What holds on the way. -/
structure Bfs (adj : Int → List Int) (n : Nat) (src all : List Int) (k : Nat) : Prop where
  nod : all.Nodup
  rng : ∀ x ∈ all, 0 ≤ x ∧ x < (n : Int)
  snd : ∀ x ∈ all, Rch adj src x
  clo : ∀ i (h : i < all.length), i < k → ∀ y ∈ adj all[i], y ∈ all
  src : ∀ x ∈ src, x ∈ all
  kle : k ≤ all.length
theorem bfs_start {adj : Int → List Int} {n : Nat} {src : List Int} (hs : ∀ x ∈ src, 0 ≤ x ∧ x < (n : Int)) : Bfs adj n src (pushAll [] src) 0 :=
  ⟨pushAll_nodup (by simp), fun x hx => hs x (by simpa [mem_pushAll] using hx), fun x hx => .base (by simpa [mem_pushAll] using hx), fun i _ h => by omega, fun x hx => mem_pushAll.2 (.inr hx), Nat.zero_le _⟩
theorem Bfs.next {adj : Int → List Int} {n : Nat} {src all : List Int} {k : Nat} (h : Bfs adj n src all k) (hk : k < all.length) (ha : ∀ x y, 0 ≤ x → x < (n : Int) → y ∈ adj x → 0 ≤ y ∧ y < (n : Int)) : Bfs adj n src (pushAll all (adj all[k])) (k + 1) := by
  obtain ⟨t, ht⟩ := pushAll_pre all (adj all[k])
  have hkr := h.rng _ (List.getElem_mem hk)
  refine ⟨pushAll_nodup h.nod, fun x hx => ?_, fun x hx => ?_, fun i hi hik y hy => ?_, fun x hx => mem_pushAll.2 (.inl (h.src x hx)), ?_⟩
  · rcases mem_pushAll.1 hx with hx | hx
    · exact h.rng x hx
    · exact ha _ _ hkr.1 hkr.2 hx
  · rcases mem_pushAll.1 hx with hx | hx
    · exact h.snd x hx
    · exact .step (h.snd _ (List.getElem_mem hk)) hx
  · have hia : i < all.length := by omega
    have e : (pushAll all (adj all[k]))[i] = all[i] := by
      have : (pushAll all (adj all[k]))[i]? = all[i]? := by rw [ht, List.getElem?_append_left hia]
      rw [List.getElem?_eq_getElem hi, List.getElem?_eq_getElem hia] at this
      exact Option.some.inj this
    rw [e] at hy
    rw [mem_pushAll]
    rcases Nat.lt_or_ge i k with c | c
    · exact .inl (h.clo i hia c y hy)
    · obtain rfl : i = k := by omega
      exact .inr hy
  · rw [ht, List.length_append]; omega
theorem Bfs.len {adj : Int → List Int} {n : Nat} {src all : List Int} {k : Nat} (h : Bfs adj n src all k) : all.length ≤ n := nodup_len n all h.nod h.rng
theorem Bfs.end_ {adj : Int → List Int} {n : Nat} {src all : List Int} (h : Bfs adj n src all all.length) (x : Int) : x ∈ all ↔ Rch adj src x := by
  refine ⟨h.snd x, fun hr => ?_⟩
  induction hr with
  | base hx => exact h.src _ hx
  | step _ hy ih =>
    obtain ⟨i, hi, rfl⟩ := List.mem_iff_getElem.1 ih
    exact h.clo i hi hi _ hy
theorem bfsGo_bfs {adj : Int → List Int} {n : Nat} {src : List Int} (ha : ∀ x y, 0 ≤ x → x < (n : Int) → y ∈ adj x → 0 ≤ y ∧ y < (n : Int)) : ∀ (f : Nat) (all : List Int) (k : Nat), f + k = n → Bfs adj n src all k → Bfs adj n src (bfsGo adj f all k) (bfsGo adj f all k).length
  | 0, all, k, hf, h => by
    have h1 := h.len
    have h2 := h.kle
    have : k = all.length := by omega
    subst this
    exact h
  | f + 1, all, k, hf, h => by
    unfold bfsGo
    by_cases hk : k < all.length
    · rw [if_pos hk, List.getD_eq_getElem?_getD, List.getElem?_eq_getElem hk]
      exact bfsGo_bfs ha f _ (k + 1) (by omega) (h.next hk ha)
    · rw [if_neg hk]
      have : k = all.length := by have := h.kle; omega
      subst this
      exact h
theorem bfsF_mem {adj : Int → List Int} {n : Nat} {src : List Int} (ha : ∀ x y, 0 ≤ x → x < (n : Int) → y ∈ adj x → 0 ≤ y ∧ y < (n : Int)) (hs : ∀ x ∈ src, 0 ≤ x ∧ x < (n : Int)) : (bfsF adj n src).Nodup ∧ (∀ x ∈ bfsF adj n src, 0 ≤ x ∧ x < (n : Int)) ∧ ∀ x, x ∈ bfsF adj n src ↔ Rch adj src x := by
  have h := bfsGo_bfs ha n _ 0 (by omega) (bfs_start (adj := adj) hs)
  exact ⟨h.nod, h.rng, h.end_⟩
end Go.Proofs.Ytpdfcffeinbcaaa
