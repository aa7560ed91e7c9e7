/- Between the registry's append and its map's update. -/
import Derived.Test.YtofmdmmgbfbaoaaDoorR4
namespace Go.Proofs.YtofmdmmgbfbaoaaDoor
open Go.RowKit Go.Maps Go.ChangeMaps Go.WideShapes

/-- The row has grown, the map not yet. -/
structure Mid (w : World) (base rb mb : Nat) (v v' : Value) (rs : List PRow) (r : PRow) (W : World) : Prop where
  c0 : W.cell? ⟨rb, 0, none⟩ = some v'
  c1 : W.cell? ⟨rb, 1, none⟩ = some (.map (some mb))
  c2 : W.cell? ⟨rb, 2, none⟩ = some (.bool false)
  z0 : W.frozen? ⟨rb, 0, none⟩ = false
  z1 : W.frozen? ⟨rb, 1, none⟩ = false
  z2 : W.frozen? ⟨rb, 2, none⟩ = false
  own : W.ownsRow base 36 9 v' (rs.length + 1) (rowCells (rs ++ [r]))
  each : ∀ q ∈ rs ++ [r], ProvAt W q.A q.p ∧ Away (RegT rb mb v') q
  tab : ∃ (n : Nat) (F : ByteArray → Option Int), n ≤ rs.length ∧ TabIs W mb n F ∧ ∀ s, F s = idxO (namesL rs) s
  ne : rb ≠ mb ∧ v'.ownBlock ≠ some rb ∧ v'.ownBlock ≠ some mb
  rbl : rb < W.heap.size
  frame : ∀ i, i < w.heap.size → ¬ RegT rb mb v i → W.heap[i]? = w.heap[i]?
  bel : Below base w W
  at_ : v'.ownBlock = v.ownBlock ∨ ∃ g, v'.ownBlock = some g ∧ w.heap.size ≤ g
  fresh : Fresh w.heap.size W.heap.size r.A
  sz : w.heap.size ≤ W.heap.size
theorem mid_of {w w3 w5 : World} {base rb mb : Nat} {v v5 : Value} {rs : List PRow} {r : PRow} {O : Obj} (h : RegAt w base rb mb v rs) (hb : Below w.heap.size w w3) (hx3 : ProvAt w3 r.A r.p) (hf : Fresh w.heap.size w3.heap.size r.A)
    (hown5 : w5.ownsRow base 36 9 v5 (rs.length + 1) (rowCells rs ++ r.cells)) (hg5 : (w3.alloc O).grownBy w5 v.ownBlock) (hat : v5.ownBlock = v.ownBlock ∨ v5.ownBlock = some (w3.alloc O).heap.size) :
    Mid w base rb mb v v5 rs r (w5.setCell ⟨rb, 0, none⟩ v5) := by
  have hs3 := hb.size
  have hbA : Below w.heap.size w (w3.alloc O) := hb.alloc hs3 O
  have h2 := h.below hbA
  have hsz2 : (w3.alloc O).heap.size = w3.heap.size + 1 := al_size w3 O
  have hg5s := hg5.size
  have hrb := h.rbl
  have hmb := h.mblt
  have hlo := h.lo
  have hne := h.ne
  have hk5 : ∀ i, i < (w3.alloc O).heap.size → v.ownBlock ≠ some i → w5.heap[i]? = (w3.alloc O).heap[i]? := fun i hi hn => hg5.block i hi (fun e => hn e.symm)
  have hk6 : ∀ i, i ≠ rb → (w5.setCell ⟨rb, 0, none⟩ v5).heap[i]? = w5.heap[i]? := fun i hi => Below.heap_setCell w5 ⟨rb, 0, none⟩ v5 i hi
  have hs6 : (w5.setCell ⟨rb, 0, none⟩ v5).heap.size = w5.heap.size := by simp [World.setCell]
  have hrb5 := hk5 rb (by omega) hne.2.1
  have hc5 : ∀ o, w5.cell? ⟨rb, o, none⟩ = (w3.alloc O).cell? ⟨rb, o, none⟩ := fun o => World.cell?_of_block (a := ⟨rb, o, none⟩) hrb5
  have hf5 : ∀ o, w5.frozen? ⟨rb, o, none⟩ = (w3.alloc O).frozen? ⟨rb, o, none⟩ := fun o => by unfold World.frozen?; rw [hrb5]
  have hv5rb : v5.ownBlock ≠ some rb := by
    rcases hat with e | e
    · rw [e]; exact hne.2.1
    · rw [e]; intro e2; have := Option.some.inj e2; omega
  have hv5mb : v5.ownBlock ≠ some mb := by
    rcases hat with e | e
    · rw [e]; exact hne.2.2
    · rw [e]; intro e2; have := Option.some.inj e2; omega
  have hU : ∀ i, i < (w3.alloc O).heap.size → ¬ (i = rb ∨ v.ownBlock = some i) → (w5.setCell ⟨rb, 0, none⟩ v5).heap[i]? = (w3.alloc O).heap[i]? := fun i hi hn => (hk6 i (fun e => hn (.inl e))).trans (hk5 i hi (fun e => hn (.inr e)))
  have hsz : (w3.alloc O).heap.size ≤ (w5.setCell ⟨rb, 0, none⟩ v5).heap.size := by omega
  refine ⟨World.cell?_setCell_same _ _ _ ((hc5 0).trans h2.c0), ?_, ?_, ?_, ?_, ?_, ?_, ?_, ?_, ⟨hne.1, hv5rb, hv5mb⟩, by omega, ?_, ?_, ?_, ?_, by omega⟩
  · rw [World.cell?_setCell_other _ _ _ _ (by simp)]; exact (hc5 1).trans h2.c1
  · rw [World.cell?_setCell_other _ _ _ _ (by simp)]; exact (hc5 2).trans h2.c2
  · rw [World.frozen?_setCell]; exact (hf5 0).trans h2.z0
  · rw [World.frozen?_setCell]; exact (hf5 1).trans h2.z1
  · rw [World.frozen?_setCell]; exact (hf5 2).trans h2.z2
  · rw [rowCells_app, rowCells_one]
    exact own_same hown5 (fun g hg => hk6 g (fun e => hv5rb (by rw [hg, e])))
  · intro q hq
    rw [List.mem_append, List.mem_singleton] at hq
    rcases hq with hq | rfl
    · obtain ⟨hp, ha⟩ := h2.each q hq
      refine ⟨ops_away (U := fun i => i = rb ∨ v.ownBlock = some i) hp hsz hU ?_, ?_⟩
      · rcases ha with ha | ha
        · exact .inl ha
        · exact .inr fun g o e hu => ha g o e (hu.elim .inl (fun h => .inr (.inr h)))
      · rcases ha with ha | ha
        · exact .inl ha
        · rcases hp.ops with hp | ⟨b, off, e, hl, _⟩
          · exact .inl hp
          · refine .inr fun g o eg hu => ?_
            rw [e] at eg
            cases eg
            rcases hu with hu | hu | hu
            · exact ha _ _ e (.inl hu)
            · exact ha _ _ e (.inr (.inl hu))
            · rcases hat with e2 | e2
              · exact ha _ _ e (.inr (.inr (by rw [← e2]; exact hu)))
              · rw [e2] at hu; have := Option.some.inj hu; omega
    · have hown := h.own
      refine ⟨ops_away (U := fun i => i = rb ∨ v.ownBlock = some i) (hx3.below ((Below.refl _ _).alloc (Nat.le_refl _) O)) hsz hU ?_, ?_⟩
      · refine .inr fun g o e hu => ?_
        have := hf g o e
        rcases hu with hu | hu
        · omega
        · have := (hown.lt g hu).2; omega
      · refine .inr fun g o e hu => ?_
        have h3 := hf g o e
        rcases hu with hu | hu | hu
        · omega
        · omega
        · rcases hat with e2 | e2
          · rw [e2] at hu; have := (hown.lt g hu).2; omega
          · rw [e2] at hu; have := Option.some.inj hu; omega
  · obtain ⟨n, F, hn, ht, hF⟩ := h2.tab
    exact ⟨n, F, hn, ht.kept (hU mb ht.lt (by rintro (e | e); exact hne.1 e.symm; exact hne.2.2 e)), hF⟩
  · intro i hi hn
    rw [hU i (by omega) (by rintro (e | e); exact hn (.inl e); exact hn (.inr (.inr e)))]
    exact hbA.block i hi
  · have hbs : base ≤ w.heap.size := by omega
    refine ((hbA.mono hbs).grown hg5 (by omega) (fun g e => (h.own.lt g e).1)).setCell (p := ⟨rb, 0, none⟩) hlo.1 _
  · rcases hat with e | e
    · exact .inl e
    · exact .inr ⟨_, e, by omega⟩
  · intro g o e
    have := hf g o e
    exact ⟨this.1, by omega⟩
theorem mid_new {w w3 w5 : World} {base rb mb : Nat} {v v5 : Value} {rs : List PRow} {O : Obj} (h : RegAt w base rb mb v rs) (hg5 : (w3.alloc O).grownBy w5 v.ownBlock) (i : Nat) (h1 : w.heap.size ≤ i) (h2 : i < w3.heap.size) (o : Nat) :
    (w5.setCell ⟨rb, 0, none⟩ v5).cell? ⟨i, o, none⟩ = w3.cell? ⟨i, o, none⟩ := by
  have hrb := h.rbl
  have hk : (w5.setCell ⟨rb, 0, none⟩ v5).heap[i]? = w3.heap[i]? := by
    rw [Below.heap_setCell w5 ⟨rb, 0, none⟩ v5 i (by show i ≠ rb; omega), hg5.block i (by rw [al_size]; omega) (fun e => by have := (h.own.lt i e.symm).2; omega)]
    exact ((Below.refl w3.heap.size w3).alloc (Nat.le_refl _) O).block i h2
  exact World.cell?_of_block (a := ⟨i, o, none⟩) hk
theorem reg_of_mid {w W W7 : World} {base rb mb : Nat} {v v' : Value} {rs : List PRow} {r : PRow} {n : Nat} {F : ByteArray → Option Int} (h : RegAt w base rb mb v rs) (hm : Mid w base rb mb v v' rs r W) (hlt : rs.length < 256) (hM : memB r.p.name (namesL rs) = false)
    (hn : n ≤ rs.length) (ht : TabIs W7 mb (n + 1) (fun x => if x = r.p.name then some (rs.length : Int) else F x)) (hF : ∀ s, F s = idxO (namesL rs) s) (hg : W.grownBy W7 (some mb)) :
    RegAt W7 base rb mb v' (rs ++ [r]) ∧ Fresh w.heap.size W7.heap.size r.A ∧ (∀ i, i < w.heap.size → ¬ RegT rb mb v i → W7.heap[i]? = w.heap[i]?) ∧ Below base w W7 ∧ (v'.ownBlock = v.ownBlock ∨ ∃ g, v'.ownBlock = some g ∧ w.heap.size ≤ g) := by
  have hs := hg.size
  have hsz := hm.sz
  have hk : ∀ i, i < W.heap.size → i ≠ mb → W7.heap[i]? = W.heap[i]? := fun i hi hne => hg.block i hi (fun e => hne (Option.some.inj e))
  have hr := hk rb hm.rbl hm.ne.1
  have hc : ∀ o, W7.cell? ⟨rb, o, none⟩ = W.cell? ⟨rb, o, none⟩ := fun o => World.cell?_of_block (a := ⟨rb, o, none⟩) hr
  have hf : ∀ o, W7.frozen? ⟨rb, o, none⟩ = W.frozen? ⟨rb, o, none⟩ := fun o => by unfold World.frozen?; rw [hr]
  refine ⟨⟨(hc 0).trans hm.c0, (hc 1).trans hm.c1, (hc 2).trans hm.c2, (hf 0).trans hm.z0, (hf 1).trans hm.z1, (hf 2).trans hm.z2, ?_, ?_, ?_, ?_, ?_, hm.ne, h.lo, Nat.lt_of_lt_of_le hm.rbl hs⟩, ?_, ?_, ?_, hm.at_⟩
  · rw [List.length_append]
    exact own_same hm.own (fun g hg => hk g (hm.own.lt g hg).2 (fun e => hm.ne.2.2 (by rw [hg, e])))
  · intro q hq
    obtain ⟨hp, ha⟩ := hm.each q hq
    refine ⟨ops_away (U := fun i => i = mb) hp hs (fun i hi hne => hk i hi hne) ?_, ha⟩
    rcases ha with ha | ha
    · exact .inl ha
    · exact .inr fun g o e hu => ha g o e (.inr (.inl hu))
  · refine ⟨n + 1, _, by rw [List.length_append]; simp; omega, ht, fun s => ?_⟩
    rw [namesL_app, show namesL [r] = [r.p.name] from rfl, idxO_app hM, namesL_length, hF]
  · rw [namesL_app]
    exact nodup_app h.dist hM
  · rw [List.length_append, List.length_singleton]; omega
  · intro g o e
    have := hm.fresh g o e
    exact ⟨this.1, by omega⟩
  · intro i hi hne
    rw [hk i (by omega) (fun e => hne (.inr (.inl e)))]
    exact hm.frame i hi hne
  · exact hm.bel.grown hg (by have := h.lo; have := h.rbl; omega) (fun g e => by cases e; exact h.lo.2)
end Go.Proofs.YtofmdmmgbfbaoaaDoor
