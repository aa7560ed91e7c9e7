/- PLAIN: how far each node is from one, and a shortest way round. -/
import Derived.Test.YtpdfcffeinbcaaaH43
namespace Go.Proofs.Ytpdfcffeinbcaaa
open Go.RowKit
def far0 (n : Int) : Int → Int := fun x => if x = n then 0 else -1
def farPut (v : Int) (f : Int → Int) (w : Int) : Int → Int := if f w < 0 then setI f w (f v + 1) else f
def farStep (adj : Int → List Int) (f : Int → Int) (v : Int) : Int → Int := (adj v).foldl (farPut v) f
def farF (adj : Int → List Int) (n : Int) (l : List Int) : Int → Int := l.foldl (farStep adj) (far0 n)
theorem farF_snoc (adj : Int → List Int) (n : Int) (l : List Int) (v : Int) : farF adj n (l ++ [v]) = farStep adj (farF adj n l) v := by unfold farF; rw [List.foldl_append]; rfl
/-- Bounds, while a node is handed. -/
structure FarB (L : Int) (v : Int) (f : Int → Int) : Prop where
  at_ : f v ≤ L
  lo : ∀ x, -1 ≤ f x
  hi : ∀ x, f x ≤ L + 1
theorem FarB.put {L v : Int} {f : Int → Int} (h : FarB L v f) (hL : 0 ≤ L) (w : Int) : FarB L v (farPut v f w) := by
  unfold farPut
  split
  · rename_i hw
    refine ⟨?_, fun x => ?_, fun x => ?_⟩ <;> unfold setI <;> split
    · rename_i e; rw [e]; have := h.at_; rw [← e] at hw; rw [e] at hw; have := h.lo v; omega
    · exact h.at_
    · have := h.lo v; omega
    · exact h.lo x
    · have := h.at_; omega
    · exact h.hi x
  · exact h
theorem FarB.fold {L v : Int} (hL : 0 ≤ L) : ∀ (l : List Int) {f : Int → Int}, FarB L v f → FarB L v (l.foldl (farPut v) f)
  | [], _, h => h
  | w :: l, _, h => FarB.fold hL l (h.put hL w)
theorem far_bd (adj : Int → List Int) : ∀ (l : List Int) (f : Int → Int) (L : Int), 0 ≤ L → (∀ x, -1 ≤ f x ∧ f x ≤ L) → ∀ x, -1 ≤ l.foldl (farStep adj) f x ∧ l.foldl (farStep adj) f x ≤ L + l.length
  | [], f, L, _, h, x => by have := h x; simp; omega
  | v :: l, f, L, hL, h, x => by
    have h1 : FarB L v f := ⟨(h v).2, fun x => (h x).1, fun x => by have := (h x).2; omega⟩
    have h2 := FarB.fold hL (adj v) h1
    have := far_bd adj l (farStep adj f v) (L + 1) (by omega) (fun y => ⟨h2.lo y, h2.hi y⟩) x
    rw [List.foldl_cons, List.length_cons]
    omega
theorem farF_bound (adj : Int → List Int) (n : Int) (l : List Int) (x : Int) : -1 ≤ farF adj n l x ∧ farF adj n l x ≤ l.length := by
  have := far_bd adj l (far0 n) 0 (by omega) (fun y => by unfold far0; split <;> omega) x
  unfold farF
  omega
theorem fold_eq {v : Int} : ∀ (l : List Int) {f : Int → Int}, 0 ≤ f v → ∀ x, l.foldl (farPut v) f x = if 0 ≤ f x then f x else if x ∈ l then f v + 1 else f x
  | [], f, _, x => by simp
  | w :: l, f, hv, x => by
    rw [List.foldl_cons]
    by_cases hw : f w < 0
    · have e : farPut v f w = setI f w (f v + 1) := by unfold farPut; rw [if_pos hw]
      have hne : v ≠ w := fun e => by rw [e] at hv; omega
      have hv2 : setI f w (f v + 1) v = f v := setI_far hne
      rw [e, fold_eq l (by rw [hv2]; exact hv) x, hv2]
      by_cases hx : x = w
      · subst hx
        rw [setI_here, if_pos (by omega), if_neg (by omega), if_pos List.mem_cons_self]
      · rw [setI_far hx]
        by_cases h0 : 0 ≤ f x
        · rw [if_pos h0, if_pos h0]
        · rw [if_neg h0, if_neg h0]
          simp [hx]
    · have e : farPut v f w = f := by unfold farPut; rw [if_neg hw]
      rw [e, fold_eq l hv x]
      by_cases h0 : 0 ≤ f x
      · rw [if_pos h0, if_pos h0]
      · have hx : x ≠ w := fun e => by rw [e] at h0; omega
        rw [if_neg h0, if_neg h0]
        simp [hx]
/-- What holds on the way. -/
structure FarInv (adj : Int → List Int) (n : Int) (all : List Int) (k : Nat) (f : Int → Int) : Prop where
  mem : ∀ x, 0 ≤ f x ↔ x ∈ all
  zero : ∀ x, f x = 0 ↔ x = n
  mono : ∀ i j (h : i ≤ j) (hj : j < all.length), f (all[i]'(by omega)) ≤ f all[j]
  last : ∀ (hk : k < all.length) x, f x ≤ f all[k] + 1
  par : ∀ x ∈ all, x ≠ n → ∃ w ∈ all, x ∈ adj w ∧ f x = f w + 1
  lip : ∀ i (hi : i < all.length), i < k → ∀ y ∈ adj all[i], 0 ≤ f y ∧ f y ≤ f all[i] + 1
theorem far_start (adj : Int → List Int) (n : Int) : FarInv adj n [n] 0 (far0 n) := by
  have h0 : far0 n n = 0 := if_pos rfl
  have h1 : ∀ x, x ≠ n → far0 n x = -1 := fun x h => if_neg h
  refine ⟨fun x => ?_, fun x => ?_, fun i j h hj => ?_, fun hk x => ?_, fun x hx hn => ?_, fun i hi hk => by omega⟩
  · by_cases e : x = n
    · simp [e, h0]
    · rw [h1 x e]; simp [e]
  · by_cases e : x = n
    · simp [e, h0]
    · rw [h1 x e]; simp [e]
  · simp at hj; obtain rfl : j = 0 := by omega
    obtain rfl : i = 0 := by omega
    exact Int.le_refl _
  · by_cases e : x = n
    · simp [e, h0]
    · rw [h1 x e]; simp [h0]
  · exact absurd (List.mem_singleton.1 hx) hn
theorem FarInv.part {adj : Int → List Int} {n : Int} {all : List Int} {k : Nat} {f : Int → Int} (h : FarInv adj n all k f) (hk : k < all.length) (l : List Int) (x : Int) : 0 ≤ l.foldl (farPut all[k]) f x ↔ x ∈ pushAll all l := by
  have hv : 0 ≤ f all[k] := (h.mem _).2 (List.getElem_mem hk)
  rw [fold_eq l hv, mem_pushAll, ← h.mem]
  by_cases h0 : 0 ≤ f x
  · simp [h0]
  · by_cases hx : x ∈ l
    · simp only [h0, hx, if_false, if_true, or_true, iff_true]; omega
    · simp [h0, hx]
theorem FarInv.next {adj : Int → List Int} {n : Int} {all : List Int} {k : Nat} {f : Int → Int} (h : FarInv adj n all k f) (hk : k < all.length) (hnd : all.Nodup) : FarInv adj n (pushAll all (adj all[k])) (k + 1) (farStep adj f all[k]) := by
  have hv : 0 ≤ f all[k] := (h.mem _).2 (List.getElem_mem hk)
  have hf : ∀ x, farStep adj f all[k] x = if 0 ≤ f x then f x else if x ∈ adj all[k] then f all[k] + 1 else f x := fold_eq (adj all[k]) hv
  have hnew : ∀ x, 0 ≤ farStep adj f all[k] x ↔ x ∈ pushAll all (adj all[k]) := h.part hk (adj all[k])
  have hold : ∀ x, x ∈ all → farStep adj f all[k] x = f x := fun x hx => by rw [hf, if_pos ((h.mem x).2 hx)]
  obtain ⟨t, ht⟩ := pushAll_pre all (adj all[k])
  have hnd2 := pushAll_nodup hnd (l := adj all[k])
  rw [ht] at hnd2
  have htm : ∀ x ∈ t, x ∉ all ∧ x ∈ adj all[k] := fun x hx => by
    have h1 : x ∉ all := fun hm => (List.nodup_append.1 hnd2).2.2 _ hm _ hx rfl
    have h2 : x ∈ pushAll all (adj all[k]) := by rw [ht]; exact List.mem_append_right _ hx
    exact ⟨h1, (mem_pushAll.1 h2).resolve_left h1⟩
  have hft : ∀ x ∈ t, farStep adj f all[k] x = f all[k] + 1 := fun x hx => by
    obtain ⟨h1, h2⟩ := htm x hx
    rw [hf, if_neg (fun h0 => h1 ((h.mem x).1 h0)), if_pos h2]
  have hle : ∀ x, farStep adj f all[k] x ≤ f all[k] + 1 := fun x => by
    rw [hf]
    split
    · exact h.last hk x
    · split
      · exact Int.le_refl _
      · omega
  have hkk : (all ++ t)[k]'(by rw [List.length_append]; omega) = all[k] := List.getElem_append_left hk
  rw [ht] at hnew ⊢
  have hmono : ∀ i j (hij : i ≤ j) (hj : j < (all ++ t).length), farStep adj f all[k] ((all ++ t)[i]'(by omega)) ≤ farStep adj f all[k] (all ++ t)[j] := fun i j hij hj => by
    rcases Nat.lt_or_ge j all.length with c | c
    · rw [List.getElem_append_left c, List.getElem_append_left (show i < all.length by omega), hold _ (List.getElem_mem _), hold _ (List.getElem_mem _)]
      exact h.mono i j hij c
    · have hjt : (all ++ t)[j] ∈ t := by rw [List.getElem_append_right c]; exact List.getElem_mem _
      rw [hft _ hjt]
      exact hle _
  refine ⟨hnew, fun x => ?_, hmono, fun hk1 x => ?_, fun x hx hn => ?_, fun i hi hik y hy => ?_⟩
  · rw [hf, ← h.zero]
    by_cases h0 : 0 ≤ f x
    · rw [if_pos h0]
    · rw [if_neg h0]
      split
      · constructor <;> intro _ <;> omega
      · exact Iff.rfl
  · have h1 := hmono k (k + 1) (by omega) hk1
    rw [hkk, hold _ (List.getElem_mem hk)] at h1
    have := hle x
    omega
  · rcases List.mem_append.1 hx with h1 | h1
    · obtain ⟨w, h2, h3, h4⟩ := h.par x h1 hn
      exact ⟨w, List.mem_append_left _ h2, h3, by rw [hold x h1, hold w h2]; exact h4⟩
    · exact ⟨all[k], List.mem_append_left _ (List.getElem_mem hk), (htm x h1).2, by rw [hft x h1, hold _ (List.getElem_mem hk)]⟩
  · have hia : i < all.length := by omega
    have hie : (all ++ t)[i] = all[i] := List.getElem_append_left hia
    rw [hie] at hy ⊢
    rw [hold _ (List.getElem_mem hia)]
    rcases Nat.lt_or_ge i k with c | c
    · obtain ⟨h1, h2⟩ := h.lip i hia c y hy
      rw [hold y ((h.mem y).1 h1)]
      exact ⟨h1, h2⟩
    · obtain rfl : i = k := by omega
      refine ⟨(hnew y).2 (by rw [← ht]; exact mem_pushAll.2 (.inr hy)), hle y⟩
theorem far_go {adj : Int → List Int} {N : Nat} {n : Int} {src : List Int} (ha : ∀ x y, 0 ≤ x → x < (N : Int) → y ∈ adj x → 0 ≤ y ∧ y < (N : Int)) : ∀ (f : Nat) (all : List Int) (k : Nat), f + k = N → Bfs adj N src all k → FarInv adj n all k (farF adj n (all.take k)) →
    FarInv adj n (bfsGo adj f all k) (bfsGo adj f all k).length (farF adj n (bfsGo adj f all k))
  | 0, all, k, hf, h, hi => by
    have h1 := h.len
    have h2 := h.kle
    have : k = all.length := by omega
    subst this
    rw [List.take_length] at hi
    exact hi
  | f + 1, all, k, hf, h, hi => by
    unfold bfsGo
    by_cases hk : k < all.length
    · rw [if_pos hk, List.getD_eq_getElem?_getD, List.getElem?_eq_getElem hk]
      refine far_go ha f _ (k + 1) (by omega) (h.next hk ha) ?_
      obtain ⟨t, ht⟩ := pushAll_pre all (adj all[k])
      have e : (pushAll all (adj all[k])).take (k + 1) = all.take k ++ [all[k]] := by
        rw [ht, List.take_append_of_le_length (by omega), List.take_succ_eq_append_getElem hk]
      show FarInv adj n (pushAll all (adj all[k])) (k + 1) (farF adj n ((pushAll all (adj all[k])).take (k + 1)))
      rw [e, farF_snoc]
      exact hi.next hk h.nod
    · rw [if_neg hk]
      have : k = all.length := by have := h.kle; omega
      subst this
      rw [List.take_length] at hi
      exact hi
end Go.Proofs.Ytpdfcffeinbcaaa
