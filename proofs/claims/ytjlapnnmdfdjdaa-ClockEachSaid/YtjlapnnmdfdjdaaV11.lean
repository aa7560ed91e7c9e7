/- A row of one's own kept in a variable: what it owns, and what stays when it moves. -/
import Derived.Test.YtjlapnnmdfdjdaaV4
import Derived.Test.YtjlapnnmdfdjdaaV9
namespace Go.Proofs.Ytjlapnnmdfdjdaa
open Go.RowKit
/-- The block of the row that lies in cell o of block s. -/
def blkAt (s o : Nat) (w : World) : List Nat := match w.cell? ⟨s, o, none⟩ with
  | some v => v.ownBlock.toList
  | none => []
theorem blkAt_some {s o : Nat} {w : World} {v : Value} (h : w.cell? ⟨s, o, none⟩ = some v) : blkAt s o w = v.ownBlock.toList := by unfold blkAt; rw [h]
/-- All stays but the variable's block and the row's. -/
def HMoves (s o : Nat) (w w' : World) : Prop := Moves (s :: blkAt s o w) w w' ∧ ∀ g ∈ blkAt s o w', g ∈ blkAt s o w ∨ w.heap.size ≤ g
theorem HMoves.refl (s o : Nat) (w : World) : HMoves s o w w := ⟨Moves.refl _ _, fun _ h => .inl h⟩
theorem HMoves.trans {s o : Nat} {w w1 w2 : World} (h : HMoves s o w w1) (g : HMoves s o w1 w2) : HMoves s o w w2 :=
  ⟨h.1.onto g.1 (fun k hk => by
    rcases List.mem_cons.1 hk with rfl | hk
    · exact .inl (by simp)
    · exact (h.2 k hk).imp (fun h => List.mem_cons_of_mem _ h) id), fun k hk => by
    rcases g.2 k hk with h1 | h1
    · exact h.2 k h1
    · exact .inr (Nat.le_trans h.1.2.2.2.1 h1)⟩
theorem HMoves.drewN {s o : Nat} {w w1 : World} (n : Nat) (h : HMoves s o w w1) : HMoves s o w (w1.drewN n) := h
theorem HMoves.drew {s o : Nat} {w w1 : World} (h : HMoves s o w w1) : HMoves s o w w1.drew := h
/-- What lies elsewhere stays. -/
theorem HMoves.block {s o : Nat} {w w1 : World} (h : HMoves s o w w1) {k : Nat} (hk : k < w.heap.size) (h1 : k ≠ s) (h2 : k ∉ blkAt s o w) : w1.heap[k]? = w.heap[k]? :=
  h.1.2.2.2.2 k hk (fun hm => by rcases List.mem_cons.1 hm with e | e; exact h1 e; exact h2 e)
/-- A row of the cells xs (each element of size sz) in cell o of block s, its block (another one) at B or behind it. -/
def HRow (s o sz : Nat) (e : TypeId) (B : Nat) (w : World) (n : Nat) (xs : List Value) : Prop :=
  ∃ v, w.cell? ⟨s, o, none⟩ = some v ∧ (∀ j, w.frozen? ⟨s, j, none⟩ = false) ∧ w.ownsRow B e sz v n xs ∧ v.ownBlock ≠ some s ∧ B ≤ s
section
variable {s o sz n B : Nat} {e : TypeId} {w w' : World} {xs : List Value}
theorem HRow.lt (h : HRow s o sz e B w n xs) : s < w.heap.size := by
  obtain ⟨v, h1, _⟩ := h
  exact World.block_lt_of_cell? w _ h1
theorem HRow.blk (h : HRow s o sz e B w n xs) : ∀ k ∈ blkAt s o w, B ≤ k ∧ k < w.heap.size ∧ k ≠ s := by
  obtain ⟨v, h1, _, h2, h3, _⟩ := h
  rw [blkAt_some h1]
  intro k hk
  have hk' : v.ownBlock = some k := by simpa using hk
  have := h2.lt k hk'
  exact ⟨this.1, this.2, fun e => h3 (by rw [hk', e])⟩
/-- What is not of it may change. -/
theorem HRow.moves {M : List Nat} (h : HRow s o sz e B w n xs) (hm : Moves M w w') (hs : s ∉ M) (hb : ∀ k ∈ blkAt s o w, k ∉ M) : HRow s o sz e B w' n xs ∧ blkAt s o w' = blkAt s o w := by
  have hlt := h.lt
  obtain ⟨v, h1, h2, h3, h5⟩ := h
  have h4 := (hm.cell hlt hs o).trans h1
  refine ⟨⟨v, h4, fun j => (hm.frozen hlt hs j).trans (h2 j), own_mv h3 hm (fun g hg => hb g (by rw [blkAt_some h1]; simp [hg])), h5⟩, ?_⟩
  rw [blkAt_some h1, blkAt_some h4]
theorem HRow.drewN (k : Nat) (h : HRow s o sz e B w n xs) : HRow s o sz e B (w.drewN k) n xs := h
end
/-- A receiver by value behind a pointer. -/
theorem recv_val {P : Program} {w : World} {tp te : TypeId} {s o : Nat} {v : Value} (hu : P.underlying tp = some (.pointer te)) (ha : (isAgg te).run P w = .ok false w) (h : w.cell? ⟨s, o, none⟩ = some v) (nm : String) :
    (receiverAt tp (.val (.pointer (some ⟨s, o, none⟩))) false (some nm)).run P w = .ok v w := by
  unfold receiverAt
  have h2 : ∀ ts tt a, Builtin.ssaWrapNilChk_ ts tt #[.pointer (some a), strVal "", strVal nm] = pure (.pointer (some a)) := fun _ _ _ => rfl
  have hu := run_underlying (w := w) hu
  simp only [Sem.run_bind, hu, Result.andThen_ok, Place.get, Sem.run_pure, h2, asAddr, loadVar, ha]
  simp [go_sem, h]
theorem heap_set {w : World} {g k : Nat} {u : Value} {cur : Array Value} {e : TypeId} {fr : Nat × Nat} (h : w.heap[g]? = some (.cells cur e fr)) : (w.setCell ⟨g, k, none⟩ u).heap[g]? = some (.cells (cur.setIfInBounds k u) e fr) := by
  obtain ⟨h1, h2⟩ := Array.getElem?_eq_some_iff.1 h
  show (w.heap.modify g _)[g]? = _
  rw [Array.getElem?_eq_getElem (by simpa using h1), Array.getElem_modify_self, h2]
  rfl
/-- A cell of one's own row is written. -/
theorem own_set {w : World} {B sz n cap g k : Nat} {e : TypeId} {xs : List Value} (h : w.ownsRow B e sz (.slice (some ⟨g, 0, none⟩) n cap) n xs) (u : Value) :
    (w.setCell ⟨g, k, none⟩ u).ownsRow B e sz (.slice (some ⟨g, 0, none⟩) n cap) n (xs.set k u) := by
  rcases h with ⟨hl, ⟨h0, _⟩ | ⟨g', cap', cur, hv, hB, hh, h1, h2, h3, h4⟩⟩
  · cases h0
  · cases hv
    exact ⟨by rw [List.length_set]; exact hl, .inr ⟨g, cap, cur.setIfInBounds k u, rfl, hB, heap_set hh, h1, h2, by rw [Array.size_setIfInBounds]; exact h3, by rw [Array.toList_setIfInBounds, List.take_set, h4]⟩⟩
/-- Only the beginning of one's own row is kept. -/
theorem own_less {w : World} {B sz n cap g m : Nat} {e : TypeId} {xs : List Value} (h : w.ownsRow B e sz (.slice (some ⟨g, 0, none⟩) n cap) n xs) (hm : m ≤ n) :
    w.ownsRow B e sz (.slice (some ⟨g, 0, none⟩) m cap) m (xs.take (m * sz)) := by
  rcases h with ⟨hl, ⟨h0, _⟩ | ⟨g', cap', cur, hv, hB, hh, h1, h2, h3, h4⟩⟩
  · cases h0
  · cases hv
    have hms : m * sz ≤ n * sz := Nat.mul_le_mul_right _ hm
    exact ⟨by rw [List.length_take]; omega, .inr ⟨g, cap, cur, rfl, hB, hh, by omega, h2, h3, by rw [← h4, List.take_take, Nat.min_eq_left hms]⟩⟩
theorem own_frozen {w : World} {B sz n cap g : Nat} {e : TypeId} {xs : List Value} (h : w.ownsRow B e sz (.slice (some ⟨g, 0, none⟩) n cap) n xs) (k : Nat) : w.frozen? ⟨g, k, none⟩ = false := by
  rcases h with ⟨hl, ⟨h0, _⟩ | ⟨g', cap', cur, hv, hB, hh, h1⟩⟩
  · cases h0
  · cases hv
    unfold World.frozen?
    rw [hh]; simp
section
variable {s o sz n B : Nat} {e : TypeId} {w w' : World} {xs : List Value}
/-- The row is another one now. -/
theorem HRow.put {v v' : Value} (hc : w.cell? ⟨s, o, none⟩ = some v) (hz : ∀ j, w.frozen? ⟨s, j, none⟩ = false) (hv : v.ownBlock ≠ some s) (hB : B ≤ s) (ho : w'.ownsRow B e sz v' n xs) (hg : w.grownBy w' v.ownBlock)
    (hb : ∀ g, v'.ownBlock = some g → v.ownBlock = some g ∨ w.heap.size ≤ g) : HRow s o sz e B (w'.setCell ⟨s, o, none⟩ v') n xs ∧ HMoves s o w (w'.setCell ⟨s, o, none⟩ v') := by
  have hlt : s < w.heap.size := World.block_lt_of_cell? w _ hc
  have hbl := hg.block s hlt (fun e => hv e.symm)
  have hc' : w'.cell? ⟨s, o, none⟩ = some v := (World.cell?_of_block (a := ⟨s, o, none⟩) hbl).trans hc
  have hn := set_here w' s o v' v hc'
  have hv' : v'.ownBlock ≠ some s := fun e => (hb s e).elim hv (by omega)
  refine ⟨⟨v', hn, fun j => by rw [World.frozen?_setCell, frozen_block (a := ⟨s, j, none⟩) hbl]; exact hz j, own_mv ho (Moves.set (M := [s]) _ _ _ (by simp)) (fun g e => by simp; rintro rfl; exact hv' e), hv', hB⟩, ?_, fun g h => ?_⟩
  · rw [blkAt_some hc]
    exact (Moves.of_grown (M := s :: v.ownBlock.toList) hg (by intro k e; simp [e])).trans (Moves.set _ _ _ (by simp))
  · rw [blkAt_some hn] at h
    rw [blkAt_some hc]
    simpa using hb g (by simpa using h)
/-- Cells of the row were written. -/
theorem HRow.wrote {cap g : Nat} (hc : w.cell? ⟨s, o, none⟩ = some (.slice (some ⟨g, 0, none⟩) n cap)) (hz : ∀ j, w.frozen? ⟨s, j, none⟩ = false) (hs : (Value.slice (some ⟨g, 0, none⟩) n cap).ownBlock ≠ some s) (hB : B ≤ s) (hm : Moves [g] w w')
    (ho : w'.ownsRow B e sz (.slice (some ⟨g, 0, none⟩) n cap) n xs) : HRow s o sz e B w' n xs ∧ HMoves s o w w' := by
  have hlt : s < w.heap.size := World.block_lt_of_cell? w _ hc
  have hnm : s ∉ [g] := by simp; rintro rfl; exact hs rfl
  have hc' := (hm.cell hlt hnm o).trans hc
  refine ⟨⟨_, hc', fun j => (hm.frozen hlt hnm j).trans (hz j), ho, hs, hB⟩, ?_, fun k h => ?_⟩
  · rw [blkAt_some hc]; exact hm.mono (fun k hk => .inl (by simp [Value.ownBlock] at hk ⊢; exact .inr hk))
  · rw [blkAt_some hc'] at h; rw [blkAt_some hc]; exact .inl h
end
theorem own_void (w : World) (TI : TypeId) (sz : Nat) : (w.alloc (.cells #[] TI)).ownsRow w.heap.size TI sz (.slice (some ⟨w.heap.size, 0, none⟩) 0 0) 0 [] :=
  ⟨by simp, .inr ⟨w.heap.size, 0, #[], rfl, Nat.le_refl _, heap_alloc_new _ _, Nat.le_refl _, by simp [maxLen], by simp, by simp⟩⟩
theorem own_none (w : World) (B : Nat) (TI : TypeId) (sz : Nat) : w.ownsRow B TI sz (.slice none 0 0) 0 [] := ⟨by simp, .inl ⟨rfl, rfl⟩⟩
/-- A row that is empty, in a variable made behind it. -/
theorem HRow.fresh {w : World} {B sz : Nat} {e t : TypeId} (hB : B ≤ w.heap.size) : HRow (w.heap.size + 1) 0 sz e B ((w.alloc (.cells #[] e)).alloc (.cells #[.slice (some ⟨w.heap.size, 0, none⟩) 0 0] t)) 0 [] := by
  have hz := al_size w (.cells #[] e)
  have hc := cell_new (w.alloc (.cells #[] e)) #[.slice (some ⟨w.heap.size, 0, none⟩) 0 0] t 0
  have hf := frozen_new (w.alloc (.cells #[] e)) #[.slice (some ⟨w.heap.size, 0, none⟩) 0 0] t
  rw [hz] at hc hf
  exact ⟨_, hc, hf, own_base ((own_void w e sz).alloc _) hB, by simp [Value.ownBlock], by omega⟩
/-- The first n cells of block b are the numbers f, and may be written. -/
def NumAt (w : World) (b n : Nat) (f : Nat → Int) : Prop := b < w.heap.size ∧ (∀ i, i < n → w.cell? ⟨b, i, none⟩ = some (.int .i64 (f i))) ∧ ∀ j, w.frozen? ⟨b, j, none⟩ = false
theorem NumAt.moves {M : List Nat} {w w1 : World} {b n : Nat} {f : Nat → Int} (h : NumAt w b n f) (hm : Moves M w w1) (hM : b ∉ M) : NumAt w1 b n f :=
  ⟨Nat.lt_of_lt_of_le h.1 hm.2.2.2.1, fun i hi => (hm.cell h.1 hM _).trans (h.2.1 i hi), fun j => (hm.frozen h.1 hM j).trans (h.2.2 j)⟩
theorem NumAt.congr {w : World} {b n : Nat} {f g : Nat → Int} (h : NumAt w b n f) (he : ∀ i, i < n → g i = f i) : NumAt w b n g :=
  ⟨h.1, fun i hi => by rw [he i hi]; exact h.2.1 i hi, h.2.2⟩
theorem NumAt.put {w : World} {b n x : Nat} {f g : Nat → Int} {y : Int} (h : NumAt w b n f) (hx : x < n) (hg : ∀ i, i < n → g i = if i = x then y else f i) : NumAt (w.setCell ⟨b, x, none⟩ (.int .i64 y)) b n g := by
  refine ⟨by simpa [World.setCell] using h.1, fun i hi => ?_, fun j => by rw [World.frozen?_setCell]; exact h.2.2 j⟩
  rw [hg i hi]
  by_cases e : i = x
  · subst e; rw [if_pos rfl]; exact set_here _ _ _ _ _ (h.2.1 i hi)
  · rw [if_neg e, set_far _ _ _ _ _ (fun c => e c.symm)]; exact h.2.1 i hi
theorem num_made (w : World) (n : Nat) (t : TypeId) : NumAt (w.alloc (.cells (madeCells #[.int .i64 0] n) t)) w.heap.size n (fun _ => 0) := by
  refine ⟨by rw [al_size]; omega, fun i hi => ?_, fun j => frozen_new _ _ _ _⟩
  rw [cell_new, ← Array.getElem?_toList, toList_madeCells_one]
  simp [hi]
/-- The first n cells of block b are the flags f, and may be written. -/
def FlagAt (w : World) (b n : Nat) (f : Nat → Bool) : Prop := b < w.heap.size ∧ (∀ i, i < n → w.cell? ⟨b, i, none⟩ = some (.bool (f i))) ∧ ∀ j, w.frozen? ⟨b, j, none⟩ = false
theorem FlagAt.moves {M : List Nat} {w w1 : World} {b n : Nat} {f : Nat → Bool} (h : FlagAt w b n f) (hm : Moves M w w1) (hM : b ∉ M) : FlagAt w1 b n f :=
  ⟨Nat.lt_of_lt_of_le h.1 hm.2.2.2.1, fun i hi => (hm.cell h.1 hM _).trans (h.2.1 i hi), fun j => (hm.frozen h.1 hM j).trans (h.2.2 j)⟩
theorem FlagAt.congr {w : World} {b n : Nat} {f g : Nat → Bool} (h : FlagAt w b n f) (he : ∀ i, i < n → g i = f i) : FlagAt w b n g :=
  ⟨h.1, fun i hi => by rw [he i hi]; exact h.2.1 i hi, h.2.2⟩
theorem FlagAt.put {w : World} {b n x : Nat} {f g : Nat → Bool} {y : Bool} (h : FlagAt w b n f) (hx : x < n) (hg : ∀ i, i < n → g i = if i = x then y else f i) : FlagAt (w.setCell ⟨b, x, none⟩ (.bool y)) b n g := by
  refine ⟨by simpa [World.setCell] using h.1, fun i hi => ?_, fun j => by rw [World.frozen?_setCell]; exact h.2.2 j⟩
  rw [hg i hi]
  by_cases e : i = x
  · subst e; rw [if_pos rfl]; exact set_here _ _ _ _ _ (h.2.1 i hi)
  · rw [if_neg e, set_far _ _ _ _ _ (fun c => e c.symm)]; exact h.2.1 i hi
theorem FlagAt.drewN {w : World} {b n : Nat} {f : Nat → Bool} (q : Nat) (h : FlagAt w b n f) : FlagAt (w.drewN q) b n f := h
theorem NumAt.drewN {w : World} {b n : Nat} {f : Nat → Int} (q : Nat) (h : NumAt w b n f) : NumAt (w.drewN q) b n f := h
theorem flag_made (w : World) (n : Nat) (t : TypeId) : FlagAt (w.alloc (.cells (madeCells #[.bool false] n) t)) w.heap.size n (fun _ => false) := by
  refine ⟨by rw [al_size]; omega, fun i hi => ?_, fun j => frozen_new _ _ _ _⟩
  rw [cell_new, ← Array.getElem?_toList, toList_madeCells_one]
  simp [hi]
end Go.Proofs.Ytjlapnnmdfdjdaa
