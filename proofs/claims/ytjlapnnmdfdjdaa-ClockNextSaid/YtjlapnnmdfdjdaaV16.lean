/- slices.SortFunc at a row of one's own with elements of one cell: its places sorted by what a comparison of places says. -/
import Derived.Shelf.SlSortCmp.NoneTotal
import Derived.Sort.OwnSortedInts
import Derived.Test.YtjlapnnmdfdjdaaProg
namespace Go.Proofs.Ytjlapnnmdfdjdaa
open Go.RowKit Go.Shelf Go.Lib Go.Sort
section
variable {m : Nat} {enc : Fin (m + 1) → Value} {w : World} {g n : Nat} {os : Array Obj} {cur : Array Value} {e : TypeId} {fr : Nat × Nat} {d : Array (Fin (m + 1))}
theorem sorted_block (hb : w.heap[g]? = some (.cells cur e fr)) : (sortWorld enc w g 0 n d os).heap[g]? = some (.cells (putCells enc 0 d cur) e fr) := by
  have hg : g < w.heap.size := (Array.getElem?_eq_some_iff.1 hb).1
  unfold sortWorld
  rw [heap_grow_old _ _ (by simpa using hg)]
  simp [putRow, mapBlock, Sort.ahead, Array.getElem?_modify, hb, onCells]
theorem sorted_grown : w.grownBy (sortWorld enc w g 0 n d os) (some g) := by
  unfold sortWorld
  refine ⟨rfl, rfl, rfl, by simp, fun k hk hne => ?_⟩
  rw [heap_grow_old _ _ (by simpa using hk)]
  have : g ≠ k := fun e => hne (by rw [e])
  simp [putRow, mapBlock, Sort.ahead, Array.getElem?_modify, this]
theorem take_put (h : d.size ≤ cur.size) : (putCells enc 0 d cur).toList.take d.size = d.toList.map enc := by
  apply List.ext_getElem?
  intro j
  by_cases hj : j < d.size
  · rw [List.getElem?_take_of_lt hj, Array.getElem?_toList]
    simp [putCells, hj, show j < cur.size by omega]
  · rw [List.getElem?_take_eq_none (by omega), List.getElem?_eq_none (by simp; omega)]
end
/-- What a comparison of places must be. -/
structure CmpOk (N : Nat) (cf : Nat → Nat → Int) : Prop where
  irr : ∀ i, i < N → ¬ cf i i < 0
  tr : ∀ i j k, i < N → j < N → k < N → cf i j < 0 → cf j k < 0 → cf i k < 0
  ntr : ∀ i j k, i < N → j < N → k < N → ¬ cf i j < 0 → ¬ cf j k < 0 → ¬ cf i k < 0
theorem sortf_own {P : Program} {ρ : Ren} (L : SlLaysF.n6 P ρ) {w : World} {B : Nat} {e : TypeId} {v : Value} {xs : List Value} (h : w.ownsRow B e 1 v xs.length xs) (h1 : ∀ x ∈ xs, x.oneCell' = true) (F : FuncId)
    (eg : ∀ args w, (callFunc F args).run P w = .ok (.enter F args) w) {cf : Nat → Nat → Int} (hc : CmpOk xs.length cf) (hlen : xs.length < 4611686018427387904)
    (hcmp : ∀ (i j : Nat) (hi : i < xs.length) (hj : j < xs.length) (w' : World), w.grownBy w' v.ownBlock → Calls P F #[xs[i], xs[j]] w' fun e w'' => e = .returned (.int .i64 (cf i j)) ∧ ∃ q, w'' = w'.drewN q) :
    Calls P (ρ.f 6) #[v, .func (.func F) #[] #[]] w fun e' w' => e' = .returned (.tuple #[]) ∧ ∃ ps : List Nat, ps.Perm (List.range xs.length) ∧ (ps.Pairwise fun i j => ¬ cf j i < 0) ∧
      w'.ownsRow B e 1 v xs.length (ps.map fun i => xs.getD i undef) ∧ w.grownBy w' v.ownBlock := by
  have h' := h
  rcases h with ⟨hl, ⟨rfl, h0⟩ | ⟨gb, cap, cur, rfl, hB, hh, hn, hcap, hsz, htk⟩⟩
  · rw [h0]
    have hx : xs = [] := List.eq_nil_of_length_eq_zero (by omega)
    refine (AnyF.slices_SortFunc_none (P := P) (ρ := ρ) { L with } none 0 (.func (.func F) #[] #[]) w).mono ?_
    rintro e' w' ⟨rfl, rfl⟩
    exact ⟨rfl, [], by simp, .nil, ⟨by simp, .inl ⟨rfl, rfl⟩⟩, World.grownBy.refl _ _⟩
  · rcases hx : xs.length with _ | m
    · refine (AnyF.slices_SortFunc_none (P := P) (ρ := ρ) { L with } (some ⟨gb, 0, none⟩) cap (.func (.func F) #[] #[]) w).mono ?_
      rintro e' w' ⟨rfl, rfl⟩
      rw [hx] at h'
      have hx0 : xs = [] := List.eq_nil_of_length_eq_zero hx
      exact ⟨rfl, [], by simp, .nil, by rw [hx0] at h'; exact h', World.grownBy.refl _ _⟩
    · have hgl : gb < w.heap.size := (Array.getElem?_eq_some_iff.1 hh).1
      have hlt : ∀ i : Fin (m + 1), i.val < xs.length := fun i => by rw [hx]; exact i.isLt
      obtain ⟨enc, henc⟩ : ∃ enc : Fin (m + 1) → Value, enc = fun i => xs[i.val]'(hlt i) := ⟨_, rfl⟩
      obtain ⟨d0, hd0⟩ : ∃ d0 : Array (Fin (m + 1)), d0 = Array.ofFn (fun i => i) := ⟨_, rfl⟩
      have hds : d0.size = m + 1 := by rw [hd0]; simp
      have hdj : ∀ j (hj : j < m + 1), d0[j]! = ⟨j, hj⟩ := fun j hj => by
        rw [hd0, getElem!_pos _ _ (by simpa using hj)]; simp
      have h1e : OneCell enc := fun i => by rw [henc]; exact h1 _ (List.getElem_mem _)
      have hH : Holds enc w gb 0 d0 := fun j hj => by
        rw [hds] at hj
        refine ⟨?_, by simp [World.frozen?, hh]⟩
        rw [hdj j hj, henc]
        have := h'.cells (g := gb) rfl j (xs[j]'(by omega)) (List.getElem?_eq_getElem _)
        have e0 : (⟨gb, 0, none⟩ : Addr).add j = ⟨gb, 0 + j, none⟩ := by simp [Addr.add]; omega
        rw [← e0]; exact this
      have hO : SWO (ltOf fun i j : Fin (m + 1) => cf i.val j.val) := by
        refine ⟨fun x => ?_, fun x y z => ?_, fun x y z => ?_⟩
        · unfold ltOf; exact decide_eq_false (hc.irr _ (by omega))
        · unfold ltOf; intro a b; exact decide_eq_true (hc.tr _ _ _ (by omega) (by omega) (by omega) (of_decide_eq_true a) (of_decide_eq_true b))
        · unfold ltOf; intro a b; exact decide_eq_false (hc.ntr _ _ _ (by omega) (by omega) (by omega) (of_decide_eq_false a) (of_decide_eq_false b))
      have hC : CmpLays1 P F #[] enc (fun i j : Fin (m + 1) => cf i.val j.val) gb 0 d0.size w := fun q os dk hdk x y => by
        refine (show Calls P F #[enc x, enc y] _ _ from ?_)
        rw [henc]
        refine (hcmp x.val y.val (by omega) (by omega) _ sorted_grown).mono ?_
        rintro e' w' ⟨rfl, q', hq⟩
        exact ⟨rfl, q', #[], by rw [hq, grow_empty]⟩
      have key := Any.slices_SortFunc L enc h1e _ hO F #[] gb 0 cap d0 w eg hC hH hgl (by omega)
      rw [hds] at key
      refine key.mono ?_
      rintro e' w' ⟨rfl, d', q, os, hp, hs, rfl⟩
      obtain ⟨hp1, _, hp3⟩ := hp
      rw [hds] at hp1
      have hd1 : d'.extract 0 (m + 1) = d' := by simp [Array.extract_eq_self_of_le (by omega : d'.size ≤ m + 1)]
      have hd2 : d0.extract 0 (m + 1) = d0 := by simp [Array.extract_eq_self_of_le (by omega : d0.size ≤ m + 1)]
      rw [hd1, hd2] at hp3
      have hr0 : d0.toList.map (·.val) = List.range (m + 1) := by
        rw [hd0]
        apply List.ext_getElem (by simp)
        intro i h1 h2
        simp only [List.getElem_map, List.getElem_range, Array.getElem_toList, Array.getElem_ofFn]
      refine ⟨rfl, d'.toList.map (·.val), by rw [← hr0]; exact hp3.map _, ?_, ⟨by simp [hp1], .inr ⟨gb, cap, putCells enc 0 d' cur, rfl, hB, sorted_block hh, by omega, hcap, by simp [putCells]; omega, ?_⟩⟩, sorted_grown⟩
      · rw [List.pairwise_map, List.pairwise_iff_getElem]
        intro i j hi hj hij
        have := hs i j (Nat.zero_le _) hij (by simp at hj; omega)
        unfold ltOf at this
        have h2 := of_decide_eq_false this
        rw [getElem!_pos d' i (by simpa using hi), getElem!_pos d' j (by simpa using hj)] at h2
        simpa using h2
      · have h2 := take_put (enc := enc) (d := d') (cur := cur) (by rw [hp1, hsz]; omega)
        rw [hp1] at h2
        rw [Nat.mul_one, h2, List.map_map]
        refine List.map_congr_left fun i _ => ?_
        rw [henc]
        show _ = xs.getD i.val undef
        rw [List.getD_eq_getElem?_getD, List.getElem?_eq_getElem (by rw [hx]; exact i.isLt)]; rfl
end Go.Proofs.Ytjlapnnmdfdjdaa
