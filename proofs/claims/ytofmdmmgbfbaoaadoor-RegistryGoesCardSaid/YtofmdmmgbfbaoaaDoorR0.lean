/- PLAIN: places of names. -/
import Derived.Test.YtofmdmmgbfbaoaaDoorB2
namespace Go.Proofs.YtofmdmmgbfbaoaaDoor
open Go.RowKit

theorem memB_cons (x a : ByteArray) (l : List ByteArray) : memB x (a :: l) = (decide (x = a) || memB x l) := rfl
theorem idx_app (N : List ByteArray) (s x : ByteArray) : ∀ (d k : Nat), N.length - k = d → k ≤ N.length → idxFrom (N ++ [s]) x k = if memB x (N.drop k) = true then idxFrom N x k else if x = s then (N.length : Int) else -1 := by
  intro d
  induction d with
  | zero =>
    intro k hd hk
    have hke : k = N.length := by omega
    subst hke
    have hg : (N ++ [s])[N.length]'(by simp) = s := by simp
    rw [idx_step _ _ _ (by simp), hg, List.drop_length, show memB x [] = false from rfl]
    by_cases h : x = s
    · simp [h]
    · rw [if_neg h, idx_end _ _ _ (by simp)]
      simp [h]
  | succ d ih =>
    intro k hd hk
    have hlt : k < N.length := by omega
    have hg : (N ++ [s])[k]'(by simp; omega) = N[k] := List.getElem_append_left hlt
    rw [idx_step (N ++ [s]) x k (by simp; omega), hg, idx_step N x k hlt, List.drop_eq_getElem_cons hlt]
    by_cases h : x = N[k]
    · have hm : memB x (N[k] :: N.drop (k + 1)) = true := by
        rw [memB_cons, decide_eq_true h]; rfl
      rw [hm, if_pos h, if_pos h]
      simp
    · rw [if_neg h, if_neg h, ih (k + 1) (by omega) (by omega)]
      have : memB x (N[k] :: N.drop (k + 1)) = memB x (N.drop (k + 1)) := by
        rw [memB_cons, decide_eq_false h]; rfl
      rw [this]
/-- A name's place, if it is there. -/
def idxO (N : List ByteArray) (s : ByteArray) : Option Int := if memB s N = true then some (idxFrom N s 0) else none
theorem idxO_some (N : List ByteArray) (s : ByteArray) : (idxO N s).isSome = memB s N := by unfold idxO; cases memB s N <;> simp
theorem idxO_app {N : List ByteArray} {s : ByteArray} (hs : memB s N = false) (x : ByteArray) : idxO (N ++ [s]) x = if x = s then some (N.length : Int) else idxO N x := by
  have h := idx_app N s x (N.length - 0) 0 rfl (Nat.zero_le _)
  rw [List.drop_zero] at h
  unfold idxO
  rw [h, memB_app]
  by_cases hx : x = s
  · subst hx
    have h1 : memB x [x] = true := by simp [memB]
    rw [hs, h1]
    simp
  · have h1 : memB x [s] = false := by simp [memB, hx]
    rw [h1]
    cases hm : memB x N <;> simp [hx]
/-- Each but once. -/
theorem idx_nodup : ∀ {N : List ByteArray}, N.Nodup → ∀ (d j k : Nat) (hk : k < N.length), k - j = d → j ≤ k → idxFrom N N[k] j = (k : Int) := by
  intro N hN d
  induction d with
  | zero =>
    intro j k hk hd hj
    have : j = k := by omega
    subst this
    rw [idx_step _ _ _ hk, if_pos rfl]
  | succ d ih =>
    intro j k hk hd hj
    have hne : N[k] ≠ N[j]'(by omega) := fun e => by
      have hp := List.pairwise_iff_getElem.1 hN j k (by omega) hk (by omega)
      exact hp e.symm
    rw [idx_step _ _ _ (by omega), if_neg hne]
    exact ih (j + 1) k hk (by omega) (by omega)
theorem idxO_get {N : List ByteArray} (hN : N.Nodup) (k : Nat) (hk : k < N.length) : idxO N N[k] = some (k : Int) := by
  unfold idxO
  rw [if_pos (memB_iff.2 (List.getElem_mem hk)), idx_nodup hN k 0 k hk (by omega) (Nat.zero_le _)]
theorem nodup_app {N : List ByteArray} {s : ByteArray} (hN : N.Nodup) (hs : memB s N = false) : (N ++ [s]).Nodup := by
  rw [List.nodup_append]
  refine ⟨hN, by simp, ?_⟩
  intro a ha b hb
  rw [List.mem_singleton] at hb
  subst hb
  intro e
  subst e
  exact memB_not.1 hs ha
theorem namesL_app (a b : List PRow) : namesL (a ++ b) = namesL a ++ namesL b := by unfold namesL; rw [List.map_append]
end Go.Proofs.YtofmdmmgbfbaoaaDoor
