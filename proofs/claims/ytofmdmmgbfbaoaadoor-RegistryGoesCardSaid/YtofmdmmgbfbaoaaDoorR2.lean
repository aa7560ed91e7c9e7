/- A registry in memory. -/
import Derived.Test.YtofmdmmgbfbaoaaDoorR1
namespace Go.Proofs.YtofmdmmgbfbaoaaDoor
open Go.RowKit Go.Maps Go.ChangeMaps Go.WideShapes

/-- An expression away from some blocks. -/
def Away (T : Nat → Prop) (r : PRow) : Prop := r.p.expr = [] ∨ ∀ g o, r.A = some ⟨g, o, none⟩ → ¬ T g
/-- The blocks that a registry writes. -/
def RegT (rb mb : Nat) (v : Value) (g : Nat) : Prop := g = rb ∨ g = mb ∨ v.ownBlock = some g
theorem ops_away {w w' : World} {U : Nat → Prop} {r : PRow} (h : ProvAt w r.A r.p) (hs : w.heap.size ≤ w'.heap.size) (hk : ∀ i, i < w.heap.size → ¬ U i → w'.heap[i]? = w.heap[i]?) (ha : Away U r) : ProvAt w' r.A r.p := by
  refine ⟨?_, h.len, h.name, h.ct, h.text⟩
  rcases h.ops with h1 | ⟨b, off, e, hl, hc⟩
  · exact .inl h1
  · rcases ha with ha | ha
    · exact .inl ha
    · have hb : ∀ o, w'.cell? ⟨b, o, none⟩ = w.cell? ⟨b, o, none⟩ := fun o => World.cell?_of_block (a := ⟨b, o, none⟩) (hk b hl (ha b off e))
      exact .inr ⟨b, off, e, Nat.lt_of_lt_of_le hl hs, fun i hi => by simp only [hb]; exact hc i hi⟩
theorem own_same {w w' : World} {base : Nat} {e : TypeId} {size n : Nat} {v : Value} {xs : List Value} (h : w.ownsRow base e size v n xs) (hk : ∀ g, v.ownBlock = some g → w'.heap[g]? = w.heap[g]?) : w'.ownsRow base e size v n xs := by
  refine ⟨h.1, ?_⟩
  rcases h.2 with h0 | ⟨g, cap, cur, hv, hg, hh, hrest⟩
  · exact .inl h0
  · exact .inr ⟨g, cap, cur, hv, hg, (hk g (by subst hv; rfl)).trans hh, hrest⟩
structure RegF (w : World) (base rb mb : Nat) (v : Value) (rs : List PRow) (fz : Bool) : Prop where
  c0 : w.cell? ⟨rb, 0, none⟩ = some v
  c1 : w.cell? ⟨rb, 1, none⟩ = some (.map (some mb))
  c2 : w.cell? ⟨rb, 2, none⟩ = some (.bool fz)
  z0 : w.frozen? ⟨rb, 0, none⟩ = false
  z1 : w.frozen? ⟨rb, 1, none⟩ = false
  z2 : w.frozen? ⟨rb, 2, none⟩ = false
  own : w.ownsRow base 36 9 v rs.length (rowCells rs)
  each : ∀ r ∈ rs, ProvAt w r.A r.p ∧ Away (RegT rb mb v) r
  tab : ∃ (n : Nat) (F : ByteArray → Option Int), n ≤ rs.length ∧ TabIs w mb n F ∧ ∀ s, F s = idxO (namesL rs) s
  dist : (namesL rs).Nodup
  len : rs.length ≤ 256
  ne : rb ≠ mb ∧ v.ownBlock ≠ some rb ∧ v.ownBlock ≠ some mb
  lo : base ≤ rb ∧ base ≤ mb
  rbl : rb < w.heap.size
/-- A registry that takes more. -/
abbrev RegAt (w : World) (base rb mb : Nat) (v : Value) (rs : List PRow) : Prop := RegF w base rb mb v rs false
theorem RegF.same {w w' : World} {base rb mb : Nat} {v : Value} {rs : List PRow} {fz : Bool} {U : Nat → Prop} (h : RegF w base rb mb v rs fz) (hs : w.heap.size ≤ w'.heap.size) (hk : ∀ i, i < w.heap.size → ¬ U i → w'.heap[i]? = w.heap[i]?) (h1 : ¬ U rb) (h2 : ¬ U mb) (h3 : ∀ g, v.ownBlock = some g → ¬ U g) (h4 : ∀ r ∈ rs, Away U r) : RegF w' base rb mb v rs fz := by
  have hr := hk rb h.rbl h1
  have hc : ∀ o, w'.cell? ⟨rb, o, none⟩ = w.cell? ⟨rb, o, none⟩ := fun o => World.cell?_of_block (a := ⟨rb, o, none⟩) hr
  have hf : ∀ o, w'.frozen? ⟨rb, o, none⟩ = w.frozen? ⟨rb, o, none⟩ := fun o => by unfold World.frozen?; rw [hr]
  obtain ⟨n, F, hn, ht, hF⟩ := h.tab
  exact ⟨(hc 0).trans h.c0, (hc 1).trans h.c1, (hc 2).trans h.c2, (hf 0).trans h.z0, (hf 1).trans h.z1, (hf 2).trans h.z2,
    own_same h.own (fun g hg => hk g (h.own.lt g hg).2 (h3 g hg)), fun r hr => ⟨ops_away (h.each r hr).1 hs hk (h4 r hr), (h.each r hr).2⟩,
    ⟨n, F, hn, ht.kept (hk mb ht.lt h2), hF⟩, h.dist, h.len, h.ne, h.lo, Nat.lt_of_lt_of_le h.rbl hs⟩
theorem RegF.below {w w' : World} {base rb mb : Nat} {v : Value} {rs : List PRow} {fz : Bool} (h : RegF w base rb mb v rs fz) (hb : Below w.heap.size w w') : RegF w' base rb mb v rs fz :=
  h.same (U := fun _ => False) hb.size (fun i hi _ => hb.block i hi) id id (fun _ _ => id) (fun _ _ => .inr fun _ _ _ => id)
theorem RegF.mblt {w : World} {base rb mb : Nat} {v : Value} {rs : List PRow} {fz : Bool} (h : RegF w base rb mb v rs fz) : mb < w.heap.size := by
  obtain ⟨n, F, hn, ht, hF⟩ := h.tab
  exact ht.lt
/-- The registry's row, read. -/
theorem RegF.row {w : World} {base rb mb : Nat} {v : Value} {rs : List PRow} {fz : Bool} (h : RegF w base rb mb v rs fz) : ∃ V c, v = .slice V rs.length c ∧ ProvsAt w V rs := own_provs h.own (fun r hr => (h.each r hr).1)
end Go.Proofs.YtofmdmmgbfbaoaaDoor
