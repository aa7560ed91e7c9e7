/- slices.pdqsortCmpFunc at a row of one's own with elements of k cells: its places sorted by what a comparison of places says. -/
import Derived.Test.YtjlapnnmdfdjdaaV16
namespace Go.Proofs.Ytjlapnnmdfdjdaa
open Go.RowKit Go.Shelf Go.Lib Go.Sort
theorem flat_get {α : Type} [Inhabited α] {k : Nat} (el : α → List Value) : ∀ (l : List α) (q r : Nat), q < l.length → r < k → (∀ i ∈ l, (el i).length = k) → (l.flatMap el)[q * k + r]? = (el l[q]!)[r]?
  | [], _, _, h, _, _ => by simp at h
  | x :: l, 0, r, _, hr, hl => by
    have h1 := hl x List.mem_cons_self
    rw [List.flatMap_cons, Nat.zero_mul, Nat.zero_add, List.getElem?_append_left (by omega)]
    simp
  | x :: l, q + 1, r, h, hr, hl => by
    have h1 := hl x List.mem_cons_self
    have ih := flat_get el l q r (by simpa using h) hr (fun i hi => hl i (List.mem_cons_of_mem _ hi))
    rw [List.flatMap_cons, show (q + 1) * k + r = k + (q * k + r) by rw [Nat.add_mul]; omega, List.getElem?_append_right (by omega), h1, Nat.add_sub_cancel_left, ih]
    simp
theorem flat_length {α : Type} {k : Nat} (el : α → List Value) : ∀ (l : List α), (∀ i ∈ l, (el i).length = k) → (l.flatMap el).length = l.length * k
  | [], _ => by simp
  | x :: l, h => by rw [List.flatMap_cons, List.length_append, h x List.mem_cons_self, flat_length el l (fun i hi => h i (List.mem_cons_of_mem _ hi)), List.length_cons, Nat.add_mul]; omega
theorem flatK_list {α : Type} [Inhabited α] {k : Nat} (enc : α → List Value) (hk : ∀ x, (enc x).length = k) (d : Array α) : (flatK enc k d).toList = d.toList.flatMap enc := by
  apply List.ext_getElem?
  intro j
  have hl := flat_length (k := k) enc d.toList (fun i _ => hk i)
  by_cases hj : j < d.size * k
  · have hk0 : 0 < k := by rcases Nat.eq_zero_or_pos k with h | h; · subst h; simp at hj
                           · exact h
    have hq : j / k < d.size := by rw [Nat.div_lt_iff_lt_mul hk0]; exact hj
    have hr : j % k < k := Nat.mod_lt _ hk0
    have hs : (j / k) * k + j % k = j := by rw [Nat.mul_comm]; exact Nat.div_add_mod j k
    have h1 := flat_get (k := k) enc d.toList (j / k) (j % k) (by simpa using hq) hr (fun i _ => hk i)
    rw [hs] at h1
    rw [h1]
    have h2 := get_flatK enc k d j hj
    have hsz : j < (flatK enc k d).size := by rw [size_flatK]; exact hj
    rw [Array.getElem?_toList, Array.getElem?_eq_getElem hsz]
    rw [getElem!_pos _ j hsz] at h2
    rw [h2]
    have e1 : d.toList[j / k]! = d[j / k]! := by rw [getElem!_pos d.toList _ (by simpa using hq), getElem!_pos d _ hq]; simp
    rw [e1, getElem!_pos _ (j % k) (by rw [hk]; exact hr)]
    simp
  · rw [List.getElem?_eq_none (by simp; omega), List.getElem?_eq_none (by rw [hl]; simp; omega)]
theorem take_putV {d cur : Array Value} (h : d.size ≤ cur.size) : (putCells id 0 d cur).toList.take d.size = d.toList := by
  apply List.ext_getElem?
  intro j
  by_cases hj : j < d.size
  · rw [List.getElem?_take_of_lt hj, Array.getElem?_toList]
    simp [putCells, hj, show j < cur.size by omega]
  · rw [List.getElem?_take_eq_none (by omega), List.getElem?_eq_none (by simp; omega)]
theorem pdq_own {P : Program} {ρ : Ren} (L : SlLaysF0.n14 P ρ) {k : Nat} (_ : 0 < k) (aE : ∀ w, (isAgg (ρ.t 24)).run P w = .ok true w) (zE : ∀ w, (Go.sizeOf (ρ.t 24)).run P w = .ok k w) {w : World} {B n : Nat} {e : TypeId} {v : Value} {el : Nat → List Value}
    (hel : ∀ i, i < n → (el i).length = k) (h1 : ∀ i, i < n → ∀ u ∈ el i, u.oneCell' = true) (h : w.ownsRow B e k v n ((List.range n).flatMap el)) (F : FuncId)
    (eg : ∀ args w, (callFunc F args).run P w = .ok (.enter F args) w) {cf : Nat → Nat → Int} (hc : CmpOk n cf) (hlen : n < 4611686018427387904)
    (hcmp : ∀ (i j : Nat) (_ : i < n) (_ : j < n) (w' : World), w.grownBy w' v.ownBlock → Calls P F #[.agg (el i).toArray, .agg (el j).toArray] w' fun e w'' => e = .returned (.int .i64 (cf i j)) ∧ ∃ q os, w'' = grow (w'.drewN q) os) (lim : Nat) (hlim : lim < 4611686018427387904) :
    Calls P (ρ.f 14) #[v, .int .i64 0, .int .i64 n, .int .i64 lim, .func (.func F) #[] #[]] w fun e' w' => e' = .returned (.tuple #[]) ∧ ∃ ps : List Nat, ps.Perm (List.range n) ∧ (ps.Pairwise fun i j => ¬ cf j i < 0) ∧
      w'.ownsRow B e k v n (ps.flatMap el) ∧ w.grownBy w' v.ownBlock := by
  have h' := h
  rcases h with ⟨hl, ⟨rfl, rfl⟩ | ⟨gb, cap, cur, rfl, hB, hh, hn, hcap, hsz, htk⟩⟩
  · refine (AnyF.pdqsortCmpFunc_none (P := P) (ρ := ρ) L none 0 lim (.func (.func F) #[] #[]) w).mono ?_
    rintro e' w' ⟨rfl, rfl⟩
    exact ⟨rfl, [], by simp, .nil, ⟨by simp, .inl ⟨rfl, rfl⟩⟩, World.grownBy.refl _ _⟩
  · rcases n with _ | m
    · refine (AnyF.pdqsortCmpFunc_none (P := P) (ρ := ρ) L (some ⟨gb, 0, none⟩) cap lim (.func (.func F) #[] #[]) w).mono ?_
      rintro e' w' ⟨rfl, rfl⟩
      exact ⟨rfl, [], by simp, .nil, h', World.grownBy.refl _ _⟩
    · have hgl : gb < w.heap.size := (Array.getElem?_eq_some_iff.1 hh).1
      obtain ⟨enc, henc⟩ : ∃ enc : Fin (m + 1) → List Value, enc = fun i => el i.val := ⟨_, rfl⟩
      have hek : ∀ x, (enc x).length = k := fun x => by rw [henc]; exact hel _ x.isLt
      have he1 : ∀ x, ∀ u ∈ enc x, u.oneCell' = true := fun x => by rw [henc]; exact h1 _ x.isLt
      obtain ⟨d0, hd0⟩ : ∃ d0 : Array (Fin (m + 1)), d0 = Array.ofFn (fun i => i) := ⟨_, rfl⟩
      have hds : d0.size = m + 1 := by rw [hd0]; simp
      have hr0 : d0.toList.map (·.val) = List.range (m + 1) := by
        rw [hd0]
        apply List.ext_getElem (by simp)
        intro i h1 h2
        simp only [List.getElem_map, List.getElem_range, Array.getElem_toList, Array.getElem_ofFn]
      have hfl : (flatK enc k d0).toList = (List.range (m + 1)).flatMap el := by
        rw [flatK_list enc hek, ← hr0, List.flatMap_map, henc]
      have hH : HoldsK enc k w gb 0 d0 := fun j hj => by
        refine ⟨?_, by simp [World.frozen?, hh]⟩
        have hj2 : (flatK enc k d0).toList[j]? = some (flatK enc k d0)[j]! := by
          rw [Array.getElem?_toList, Array.getElem?_eq_getElem hj, getElem!_pos _ j hj]
        rw [hfl] at hj2
        have := h'.cells (g := gb) rfl j _ hj2
        have e0 : (⟨gb, 0, none⟩ : Addr).add j = ⟨gb, 0 + j, none⟩ := by simp [Addr.add]; omega
        rw [← e0]; exact this
      have hO : SWO (ltOf fun i j : Fin (m + 1) => cf i.val j.val) := by
        refine ⟨fun x => ?_, fun x y z => ?_, fun x y z => ?_⟩
        · unfold ltOf; exact decide_eq_false (hc.irr _ x.isLt)
        · unfold ltOf; intro a b; exact decide_eq_true (hc.tr _ _ _ x.isLt y.isLt z.isLt (of_decide_eq_true a) (of_decide_eq_true b))
        · unfold ltOf; intro a b; exact decide_eq_false (hc.ntr _ _ _ x.isLt y.isLt z.isLt (of_decide_eq_false a) (of_decide_eq_false b))
      have hgr : ∀ (q : Nat) (dk : Array (Fin (m + 1))) (os : Array Obj), w.grownBy (sortWorldK enc k w gb 0 q dk os) (some gb) := fun q dk os => by
        unfold sortWorldK putRowK
        refine ⟨rfl, rfl, rfl, by simp [grow, putRow, mapBlock, Sort.ahead], fun b hk hne => ?_⟩
        rw [heap_grow_old _ _ (by simpa [putRow, mapBlock, Sort.ahead] using hk)]
        have : gb ≠ b := fun e => hne (by rw [e])
        simp [putRow, mapBlock, Sort.ahead, Array.getElem?_modify, this]
      have hC : CmpLays P F #[] enc k (fun i j : Fin (m + 1) => cf i.val j.val) gb 0 d0.size w := fun q os dk hdk x y => by
        rw [Array.append_empty]
        have := hcmp x.val y.val x.isLt y.isLt _ (hgr q dk os)
        rw [henc] at this ⊢
        exact this
      have key := AnyQ.pdqsortCmpFunc_all L k aE zE enc _ F #[] hO gb 0 cap d0 w eg hC ⟨hek, he1, hH, hgl⟩ (d0.size + 1) 0 d0.size lim d0 w (by omega) rfl (SWK.start hH) (Nat.zero_le _) (Nat.le_refl _) (by omega) hlim (Or.inl rfl)
      obtain ⟨p1, p2⟩ := pdq_sorts (ltOf fun i j : Fin (m + 1) => cf i.val j.val) hO d0 0 d0.size lim true true (Nat.zero_le _) (Nat.le_refl _) (Or.inl rfl)
      obtain ⟨d', hd'⟩ : ∃ d', d' = pdq (ltOf fun i j : Fin (m + 1) => cf i.val j.val) d0 0 d0.size lim true true := ⟨_, rfl⟩
      rw [← hd'] at key p1 p2
      rw [hds] at key p1 p2
      refine key.mono ?_
      rintro e' w' ⟨rfl, q, os, rfl⟩
      obtain ⟨hp1, _, hp3⟩ := p1
      rw [hds] at hp1
      have hd1 : d'.extract 0 (m + 1) = d' := by simp [Array.extract_eq_self_of_le (by omega : d'.size ≤ m + 1)]
      have hd2 : d0.extract 0 (m + 1) = d0 := by simp [Array.extract_eq_self_of_le (by omega : d0.size ≤ m + 1)]
      rw [hd1, hd2] at hp3
      have hb2 : (sortWorldK enc k w gb 0 q d' os).heap[gb]? = some (.cells (putCells id 0 (flatK enc k d') cur) e (0, 0)) := by
        unfold sortWorldK putRowK
        rw [heap_grow_old _ _ (by simpa [putRow, mapBlock, Sort.ahead] using hgl)]
        simp [putRow, mapBlock, Sort.ahead, Array.getElem?_modify, hh, onCells]
      have hfz : (flatK enc k d').size = (m + 1) * k := by rw [size_flatK, hp1]
      have hcz : (m + 1) * k ≤ cur.size := by rw [hsz]; exact Nat.mul_le_mul_right _ hn
      refine ⟨rfl, d'.toList.map (·.val), by rw [← hr0]; exact hp3.map _, ?_, ⟨?_, .inr ⟨gb, cap, putCells id 0 (flatK enc k d') cur, rfl, hB, hb2, hn, hcap, by simp [putCells, hsz], ?_⟩⟩, hgr _ _ _⟩
      · rw [List.pairwise_map, List.pairwise_iff_getElem]
        intro i j hi hj hij
        have := p2 i j (Nat.zero_le _) hij (by simp at hj; omega)
        unfold ltOf at this
        have h2 := of_decide_eq_false this
        rw [getElem!_pos d' i (by simpa using hi), getElem!_pos d' j (by simpa using hj)] at h2
        simpa using h2
      · rw [flat_length (k := k) el _ (fun i hi => by obtain ⟨x, _, rfl⟩ := List.mem_map.1 hi; exact hel _ x.isLt)]
        simp [hp1]
      · have h2 := take_putV (d := flatK enc k d') (cur := cur) (by rw [hfz]; exact hcz)
        rw [hfz, flatK_list enc hek] at h2
        rw [h2, List.flatMap_map, henc]
end Go.Proofs.Ytjlapnnmdfdjdaa
