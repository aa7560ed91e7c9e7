/- Parts of an expression, as spans: what begins tells; walk's answer by definition. -/
import Derived.Test.YtofmdmmgbfbaoaaDoorA8
namespace Go.Proofs.YtofmdmmgbfbaoaaDoor
open Go.RowKit

/-- From lo up to hi there are r parts, one behind the other. -/
def tile (fr : List Nat) (lo : Nat) : Nat → Nat → Prop
  | 0, hi => lo = hi
  | r + 1, hi => 1 ≤ hi ∧ ∃ s, fr[hi - 1]? = some s ∧ s < hi ∧ tile fr lo r s
theorem tile_le {fr : List Nat} {lo r hi : Nat} (h : tile fr lo r hi) : lo + r ≤ hi := by
  induction r generalizing hi with
  | zero => rw [tile] at h; omega
  | succ r ih => rw [tile] at h; obtain ⟨_, s, _, hs, ht⟩ := h; have := ih ht; omega
theorem tile_more {fr : List Nat} {lo r hi : Nat} (x : List Nat) (h : tile fr lo r hi) : tile (fr ++ x) lo r hi := by
  induction r generalizing hi with
  | zero => exact h
  | succ r ih =>
    rw [tile] at h ⊢
    obtain ⟨h1, s, h2, hs, ht⟩ := h
    refine ⟨h1, s, ?_, hs, ih ht⟩
    have hl : hi - 1 < fr.length := by
      rcases Nat.lt_or_ge (hi - 1) fr.length with h | h
      · exact h
      · rw [List.getElem?_eq_none h] at h2; cases h2
    rw [List.getElem?_append_left hl]; exact h2
theorem tile_split {fr : List Nat} {lo mid m r hi : Nat} (h : tile fr lo (m + r) hi) (h2 : tile fr mid m hi) : tile fr lo r mid := by
  induction m generalizing hi with
  | zero => rw [tile] at h2; subst h2; rwa [Nat.zero_add] at h
  | succ m ih =>
    rw [show m + 1 + r = (m + r) + 1 by omega, tile] at h
    rw [tile] at h2
    obtain ⟨_, s, e, _, ht⟩ := h
    obtain ⟨_, s', e', _, ht'⟩ := h2
    rw [e] at e'
    cases e'
    exact ih ht ht'
/-- The stack at operation i. -/
def stk (fr : List Nat) (i : Nat) (st : List Nat) : Prop := st.getD 0 i = 0 ∧ ∀ r, r ≤ st.length → tile fr (st.getD (st.length - r) i) r i
/-- What is known of one operation. -/
def GoodAt (es : List XOp) (fr : List Nat) (pos : Nat) : Prop := ∃ (h : pos < es.length) (m b : Nat), es[pos].n = (m : Int) ∧ fr[pos]? = some b ∧ tile fr b m pos ∧ wellF es[pos] = true
theorem GoodAt.more {es : List XOp} {fr : List Nat} {pos : Nat} (x : List Nat) (h : GoodAt es fr pos) : GoodAt es (fr ++ x) pos := by
  obtain ⟨h, m, b, h1, h2, h3, h4⟩ := h
  refine ⟨h, m, b, h1, ?_, tile_more x h3, h4⟩
  have hl : pos < fr.length := by
    rcases Nat.lt_or_ge pos fr.length with h | h
    · exact h
    · rw [List.getElem?_eq_none h] at h2; cases h2
  rw [List.getElem?_append_left hl]; exact h2
theorem getD_lt {l : List Nat} {j x y : Nat} (h : j < l.length) : l.getD j x = l.getD j y := by
  rw [List.getD_eq_getElem?_getD, List.getD_eq_getElem?_getD, List.getElem?_eq_getElem h]; rfl
theorem getD_take {l : List Nat} {j k b x y : Nat} (h : j < k) (hk : k ≤ l.length) : (l.take k ++ [b]).getD j x = l.getD j y := by
  rw [List.getD_eq_getElem?_getD, List.getD_eq_getElem?_getD, List.getElem?_append_left (by rw [List.length_take]; omega), List.getElem?_take, if_pos h, List.getElem?_eq_getElem (by omega)]; rfl
theorem getD_at {l : List Nat} {k b x : Nat} (hk : k ≤ l.length) : (l.take k ++ [b]).getD k x = b := by
  have hl : (l.take k).length = k := by rw [List.length_take]; omega
  rw [List.getD_eq_getElem?_getD, List.getElem?_append_right (by omega), hl, Nat.sub_self]; rfl
theorem stk_step {fr st : List Nat} {i m : Nat} (hf : fr.length = i) (h : stk fr i st) (hm : m ≤ st.length) :
    stk (fr ++ [st.getD (st.length - m) i]) (i + 1) (st.take (st.length - m) ++ [st.getD (st.length - m) i]) := by
  obtain ⟨h0, h1⟩ := h
  have htm := h1 m hm
  generalize hk : st.length - m = k at *
  have hkl : k ≤ st.length := by omega
  have hbl := tile_le htm
  have hlen : (st.take k ++ [st.getD k i]).length = k + 1 := by rw [List.length_append, List.length_take, List.length_singleton]; omega
  refine ⟨?_, ?_⟩
  · rcases Nat.eq_zero_or_pos k with h | h
    · rw [h]; simpa using h0
    · rw [getD_take (y := i) h hkl]; exact h0
  · rw [hlen]
    intro r hr
    rcases r with _ | r
    · rw [tile, Nat.sub_zero, List.getD_eq_getElem?_getD, List.getElem?_eq_none (by omega)]; rfl
    · rw [tile]
      refine ⟨by omega, st.getD k i, ?_, by omega, ?_⟩
      · rw [Nat.add_sub_cancel, List.getElem?_append_right (by omega), hf, Nat.sub_self]; rfl
      · rw [show k + 1 - (r + 1) = k - r by omega]
        rcases Nat.eq_zero_or_pos r with h | h
        · rw [h, Nat.sub_zero, getD_at hkl]; rfl
        · rw [getD_take (y := i) (by omega) hkl]
          refine tile_more _ (tile_split (m := m) (hi := i) ?_ htm)
          have := h1 (m + r) (by omega)
          rwa [show st.length - (m + r) = k - r by omega] at this
theorem begins_inv (es : List XOp) : ∀ (d k : Nat) (fr st frz stz : List Nat), es.length - k = d → k ≤ es.length → fr.length = k → stk fr k st → (∀ pos, pos < k → GoodAt es fr pos) → beginsFrom (es.drop k) k fr st = some (frz, stz) →
    frz.length = es.length ∧ stk frz es.length stz ∧ ∀ pos, pos < es.length → GoodAt es frz pos := by
  intro d
  induction d with
  | zero =>
    intro k fr st frz stz hd hk hf hs hg hb
    rw [List.drop_of_length_le (by omega), beginsFrom] at hb
    cases hb
    obtain rfl : k = es.length := by omega
    exact ⟨hf, hs, hg⟩
  | succ d ih =>
    intro k fr st frz stz hd hk hf hs hg hb
    have hlt : k < es.length := by omega
    rw [beginsFrom_drop es k hlt] at hb
    split at hb
    · cases hb
    · next hc =>
      have hw : wellF es[k] = true := by cases h : wellF es[k] <;> simp_all
      have hn0 := well_n hw
      obtain ⟨m, hm⟩ := Int.eq_ofNat_of_zero_le hn0
      have hml : m ≤ st.length := by
        rcases Nat.lt_or_ge st.length m with h | h
        · exact absurd (.inr (by rw [hm]; omega)) hc
        · exact h
      have hbb : (if 0 < es[k].n then st.getD (st.length - es[k].n.toNat) 0 else k) = st.getD (st.length - m) k := by
        rw [hm, Int.toNat_natCast]
        rcases Nat.eq_zero_or_pos m with h | h
        · rw [if_neg (by omega), h, Nat.sub_zero, List.getD_eq_getElem?_getD, List.getElem?_eq_none (Nat.le_refl _)]; rfl
        · rw [if_pos (by omega)]; exact getD_lt (by omega)
      rw [hbb, hm, Int.toNat_natCast] at hb
      refine ih (k + 1) _ _ frz stz (by omega) (by omega) (by rw [List.length_append, hf]; rfl) (stk_step hf hs hml) ?_ hb
      intro pos hp
      rcases Nat.lt_or_ge pos k with h | h
      · exact (hg pos h).more _
      · obtain rfl : pos = k := by omega
        refine ⟨hlt, m, _, hm, ?_, tile_more _ (hs.2 m hml), hw⟩
        rw [List.getElem?_append_right (by omega), hf, Nat.sub_self]; rfl
/-- What begins tells of a whole. -/
theorem begins_good {es : List XOp} {fr : List Nat} {b : Nat} (h : beginsF es = some (fr, [b])) : fr.length = es.length ∧ fr[es.length - 1]? = some 0 ∧ 1 ≤ es.length ∧ ∀ pos, pos < es.length → GoodAt es fr pos := by
  obtain ⟨h1, h2, h3⟩ := begins_inv es _ 0 [] [] fr [b] rfl (Nat.zero_le _) rfl ⟨rfl, fun r hr => (by simp at hr; subst hr; rfl)⟩ (fun pos h => by omega) h
  have h4 := h2.2 1 (by simp)
  have h5 := h2.1
  simp at h5
  subst h5
  rw [tile] at h4
  obtain ⟨h6, s, h7, _, h8⟩ := h4
  rw [tile] at h8
  simp at h8
  subst h8
  exact ⟨h1, h7, h6, h3⟩
theorem getD_of {l : List Nat} {j x : Nat} (h : l[j]? = some x) (y : Nat) : l.getD j y = x := by rw [List.getD_eq_getElem?_getD, h]; rfl
theorem tile_chain {fr : List Nat} {lo r hi : Nat} (h : tile fr lo r hi) : chainOk fr r hi ∧ ∀ p ∈ partsGo fr r hi, p < hi := by
  induction r generalizing hi with
  | zero => exact ⟨trivial, by simp [partsGo]⟩
  | succ r ih =>
    rw [tile] at h
    obtain ⟨h1, s, h2, hs, ht⟩ := h
    obtain ⟨h3, h4⟩ := ih ht
    have hl : hi - 1 < fr.length := by
      rcases Nat.lt_or_ge (hi - 1) fr.length with h | h
      · exact h
      · rw [List.getElem?_eq_none h] at h2; cases h2
    rw [chainOk, partsGo, getD_of h2]
    refine ⟨⟨h1, hl, h3⟩, fun p hp => ?_⟩
    rw [List.mem_append, List.mem_singleton] at hp
    rcases hp with hp | rfl
    · have := h4 p hp; omega
    · omega
theorem whole_of {es : List XOp} {fr : List Nat} (hl : es.length ≤ 256) (hf : fr.length = es.length) (hg : ∀ pos, pos < es.length → GoodAt es fr pos) : Whole es fr := by
  refine ⟨hl, hf, ?_, ?_⟩
  · intro x hx
    obtain ⟨j, hj, rfl⟩ := List.mem_iff_getElem.1 hx
    obtain ⟨_, m, b, _, h2, h3, _⟩ := hg j (by omega)
    rw [List.getElem?_eq_getElem hj] at h2
    cases h2
    have := tile_le h3
    omega
  · intro pos h
    obtain ⟨_, m, b, h1, h2, h3, _⟩ := hg pos h
    have := tile_le h3
    obtain ⟨h4, h5⟩ := tile_chain h3
    exact ⟨m, h1, by omega, h4, h5⟩
/-! Where locals are bound. -/
theorem tile_each {fr : List Nat} {lo r hi : Nat} (h : tile fr lo r hi) : ∀ j (hj : j < (partsGo fr r hi).length), lo ≤ fr.getD (partsGo fr r hi)[j] 0 ∧ fr.getD (partsGo fr r hi)[j] 0 ≤ (partsGo fr r hi)[j] ∧ (partsGo fr r hi)[j] < hi ∧
    ∀ k, (partsGo fr r hi)[j] < k → k < hi → ∃ q, q < hi ∧ k ≤ q ∧ (partsGo fr r hi)[j] < fr.getD q 0 ∧ fr.getD q 0 ≤ k := by
  induction r generalizing hi with
  | zero => intro j hj; simp [partsGo] at hj
  | succ r ih =>
    rw [tile] at h
    obtain ⟨h1, s, h2, hs, ht⟩ := h
    have hg := getD_of h2 0
    have hpg : partsGo fr (r + 1) hi = partsGo fr r s ++ [hi - 1] := by rw [partsGo, hg]
    rw [hpg]
    intro j hj
    have hsl := tile_le ht
    rcases Nat.lt_or_ge j (partsGo fr r s).length with h | h
    · rw [List.getElem_append_left h]
      obtain ⟨a1, a2, a3, a4⟩ := ih ht j h
      refine ⟨a1, a2, by omega, fun k hk1 hk2 => ?_⟩
      rcases Nat.lt_or_ge k s with h' | h'
      · obtain ⟨q, b1, b2⟩ := a4 k hk1 h'
        exact ⟨q, by omega, b2⟩
      · exact ⟨hi - 1, by omega, by omega, by omega, by omega⟩
    · have hj2 : j = (partsGo fr r s).length := by rw [List.length_append, List.length_singleton] at hj; omega
      subst hj2
      rw [List.getElem_append_right (Nat.le_refl _)]
      simp only [Nat.sub_self, List.getElem_cons_zero]
      exact ⟨by omega, by omega, by omega, fun k _ _ => by omega⟩
theorem tile_cover {fr : List Nat} {lo r hi : Nat} (h : tile fr lo r hi) : ∀ i, lo ≤ i → i < hi → ∃ j, ∃ (hj : j < (partsGo fr r hi).length), fr.getD (partsGo fr r hi)[j] 0 ≤ i ∧ i ≤ (partsGo fr r hi)[j] := by
  induction r generalizing hi with
  | zero => intro i h1 h2; rw [tile] at h; omega
  | succ r ih =>
    rw [tile] at h
    obtain ⟨h1, s, h2, hs, ht⟩ := h
    have hg := getD_of h2 0
    have hpg : partsGo fr (r + 1) hi = partsGo fr r s ++ [hi - 1] := by rw [partsGo, hg]
    rw [hpg]
    intro i hi1 hi2
    rcases Nat.lt_or_ge i s with h | h
    · obtain ⟨j, hj, a1, a2⟩ := ih ht i hi1 h
      exact ⟨j, by rw [List.length_append]; omega, by rw [List.getElem_append_left hj]; exact ⟨a1, a2⟩⟩
    · refine ⟨(partsGo fr r s).length, by rw [List.length_append, List.length_singleton]; omega, ?_⟩
      rw [List.getElem_append_right (Nat.le_refl _)]
      simp only [Nat.sub_self, List.getElem_cons_zero]
      omega
theorem nested {es : List XOp} {fr : List Nat} (hg : ∀ pos, pos < es.length → GoodAt es fr pos) : ∀ (n q : Nat), q < n → q < es.length → ∀ k, fr.getD q 0 ≤ k → k ≤ q → fr.getD q 0 ≤ fr.getD k 0 := by
  intro n
  induction n with
  | zero => intro q h; omega
  | succ n ih =>
    intro q hn hq k h1 h2
    rcases Nat.eq_or_lt_of_le h2 with rfl | h2
    · exact Nat.le_refl _
    · obtain ⟨_, m, b, _, e, ht, _⟩ := hg q hq
      have hb := getD_of e 0
      rw [hb] at h1 ⊢
      obtain ⟨j, hj, a1, a2⟩ := tile_cover ht k h1 h2
      obtain ⟨c1, _, c3, _⟩ := tile_each ht j hj
      have := ih _ (by omega) (by omega) k a1 a2
      omega
theorem arity_let {o : XOp} (h : o.kind = 19) (hw : wellF o = true) : o.n = 2 := by
  have ha : arityF o = 2 := by simp [arityF, h]
  unfold wellF at hw
  rw [ha] at hw
  split at hw
  · cases hw
  · omega
/-- Each local from lo up to hi is among L, or is bound on the way. -/
def BoundAt (es : List XOp) (fr : List Nat) (lo hi : Nat) (L : List ByteArray) : Prop :=
  ∀ i (h : i < es.length), lo ≤ i → i ≤ hi → es[i].kind = 4 → es[i].text ∈ L ∨ ∃ k, ∃ hk : k < es.length, i < k ∧ k ≤ hi ∧ es[k].kind = 19 ∧ es[k].text = es[i].text ∧ fr.getD (k - 1) 0 ≤ i
theorem see_iff {o : XOp} {L : List ByteArray} : seeF o L = true ↔ (o.kind = 4 → o.text ∈ L) := by
  unfold seeF
  rw [Bool.or_eq_true, memB_iff]
  by_cases h : o.kind = 4 <;> simp [h]
theorem walk_bound {es : List XOp} {fr : List Nat} (hg : ∀ pos, pos < es.length → GoodAt es fr pos) : ∀ (f pos : Nat) (L : List ByteArray), pos < f → pos < es.length → (walkF es fr f pos L = true ↔ BoundAt es fr (fr.getD pos 0) pos L) := by
  intro f
  induction f with
  | zero => intro pos L h; omega
  | succ f ih =>
    intro pos L hf hp
    obtain ⟨_, m, b, hm, e, ht, hw⟩ := hg pos hp
    have hb := getD_of e 0
    have hbl := tile_le ht
    rw [walkF_unfold hp, hb, hm, Int.toNat_natCast, Bool.and_eq_true, see_iff, List.all_eq_true]
    constructor
    · rintro ⟨h1, h2⟩ i hi hlo hhi h4
      rcases Nat.eq_or_lt_of_le hhi with rfl | hhi
      · exact .inl (h1 h4)
      · obtain ⟨j, hj, a1, a2⟩ := tile_cover ht i hlo hhi
        have h3 := h2 ((partsGo fr m pos)[j], j) (by rw [List.mem_iff_getElem]; exact ⟨j, by simpa using hj, by simp⟩)
        obtain ⟨c1, c2, c3, c4⟩ := tile_each ht j hj
        have h5 := (ih _ _ (by omega) (by omega)).1 h3 i hi a1 a2 h4
        rcases h5 with h5 | ⟨k, hk, d1, d2, d3⟩
        · by_cases hl : es[pos].kind = 19 ∧ j = 1
          · rw [if_pos hl, List.mem_append, List.mem_singleton] at h5
            rcases h5 with h5 | h5
            · exact .inl h5
            · refine .inr ⟨pos, hp, hhi, Nat.le_refl _, hl.1, h5.symm, ?_⟩
              have hm2 : m = 2 := by have := arity_let hl.1 hw; omega
              subst hm2
              obtain ⟨_, rfl⟩ := hl
              have : (partsGo fr 2 pos)[1] = pos - 1 := by simp [partsGo]
              rw [this] at a1
              exact a1
          · rw [if_neg hl] at h5; exact .inl h5
        · exact .inr ⟨k, hk, d1, by omega, d3⟩
    · intro H
      refine ⟨fun h4 => ?_, ?_⟩
      · rcases H pos hp (by omega) (Nat.le_refl _) h4 with h | ⟨k, _, h1, h2, _⟩
        · exact h
        · omega
      · rintro ⟨x, j⟩ hx
        obtain ⟨_, hj, e2⟩ := List.mem_zipIdx hx
        have hj' : j < (partsGo fr m pos).length := by simpa using hj
        have e3 : x = (partsGo fr m pos)[j] := by simpa using e2
        subst e3
        obtain ⟨c1, c2, c3, c4⟩ := tile_each ht j hj'
        refine (ih _ _ (by simp only at c3 ⊢; omega) (by simp only at c3 ⊢; omega)).2 ?_
        intro i hi hlo hhi h4
        simp only at hlo hhi
        rcases H i hi (by omega) (by omega) h4 with h | ⟨k, hk, d1, d2, d3, d4, d5⟩
        · left; dsimp only; split
          · exact List.mem_append_left _ h
          · exact h
        · rcases Nat.eq_or_lt_of_le d2 with rfl | d2
          · have hm2 : m = 2 := by have := arity_let d3 hw; omega
            subst hm2
            left
            have hjl : j < 2 := by rw [partsGo_length] at hj'; exact hj'
            have : j = 1 := by
              rcases Nat.lt_or_ge j 1 with h | h
              · exfalso
                obtain rfl : j = 0 := by omega
                have e0 : (partsGo fr 2 k)[0] = fr.getD (k - 1) 0 - 1 := by simp [partsGo]
                rw [tile] at ht
                obtain ⟨_, s, g1, _, g2⟩ := ht
                rw [getD_of g1] at d5 e0
                have := tile_le g2
                have h9 : i ≤ s - 1 := by rw [← e0]; exact hhi
                omega
              · omega
            simp [d3, this, d4]
          · rcases Nat.lt_or_ge (partsGo fr m pos)[j] k with h | h
            · exfalso
              obtain ⟨q, q1, q2, q3, q4⟩ := c4 k h d2
              have hn := nested hg es.length q (by omega) (by omega) k q4 q2
              obtain ⟨_, m2, b2, hm2, e2', ht2, hw2⟩ := hg k hk
              have hm3 : m2 = 2 := by have := arity_let d3 hw2; omega
              subst hm3
              rw [getD_of e2'] at hn
              rw [tile] at ht2
              obtain ⟨_, s, g1, _, g2⟩ := ht2
              rw [getD_of g1] at d5
              have := tile_le g2
              omega
            · exact .inr ⟨k, hk, d1, h, d3, d4, d5⟩
end Go.Proofs.YtofmdmmgbfbaoaaDoor
