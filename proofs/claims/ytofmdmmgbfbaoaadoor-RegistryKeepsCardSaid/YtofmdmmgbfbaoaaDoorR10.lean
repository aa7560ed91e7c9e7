/- What stands between a registry and the providers that it had. -/
import Derived.Test.YtofmdmmgbfbaoaaDoorR9
namespace Go.Proofs.YtofmdmmgbfbaoaaDoor
open Go.RowKit Go.Maps Go.ChangeMaps Go.WideShapes

/-- A registry, and a row of one's own, apart from one another. -/
structure Law (w0 : World) (base rb mb : Nat) (v hv : Value) (gs hs : List PRow) (w : World) : Prop where
  reg : RegAt w base rb mb v gs
  own : w.ownsRow base 36 9 hv hs.length (rowCells hs)
  hea : ∀ q ∈ hs, ProvAt w q.A q.p ∧ Away (RegT rb mb v) q ∧ Apart hv q
  gea : ∀ q ∈ gs, Apart hv q
  ne : ∀ g, hv.ownBlock = some g → ¬ RegT rb mb v g
  bel : Below w0.heap.size w0 w
  lo : w0.heap.size ≤ base
theorem regT_lt {w : World} {base rb mb : Nat} {v : Value} {gs : List PRow} (h : RegAt w base rb mb v gs) {g : Nat} (hg : RegT rb mb v g) : g < w.heap.size := by
  rcases hg with rfl | rfl | hg
  · exact h.rbl
  · exact h.mblt
  · exact (h.own.lt g hg).2
theorem Law.below {w0 w w' : World} {base rb mb : Nat} {v hv : Value} {gs hs : List PRow} (h : Law w0 base rb mb v hv gs hs w) (hb : Below w.heap.size w w') : Law w0 base rb mb v hv gs hs w' :=
  ⟨h.reg.below hb, own_below h.own hb, fun q hq => ⟨(h.hea q hq).1.below hb, (h.hea q hq).2⟩, h.gea, h.ne, h.bel.trans (hb.mono h.bel.size), h.lo⟩
theorem Law.added {w0 w w2 : World} {base rb mb : Nat} {v v' hv : Value} {gs hs : List PRow} {r : PRow} (h : Law w0 base rb mb v hv gs hs w) (hr : RegAt w2 base rb mb v' (gs ++ [r])) (hf : Fresh w.heap.size w2.heap.size r.A) (hfr : ∀ i, i < w.heap.size → ¬ RegT rb mb v i → w2.heap[i]? = w.heap[i]?) (hb : Below base w w2) (hat : v'.ownBlock = v.ownBlock ∨ ∃ g, v'.ownBlock = some g ∧ w.heap.size ≤ g) :
    Law w0 base rb mb v' hv (gs ++ [r]) hs w2 := by
  have hrr : ∀ g, g < w.heap.size → RegT rb mb v' g → RegT rb mb v g := by
    rintro g hg (h1 | h1 | h1)
    · exact .inl h1
    · exact .inr (.inl h1)
    · rcases hat with e | ⟨g', e, hle⟩
      · exact .inr (.inr (by rw [← e]; exact h1))
      · rw [e] at h1; have := Option.some.inj h1; omega
  refine ⟨hr, own_same h.own (fun g hg => hfr g (h.own.lt g hg).2 (h.ne g hg)), fun q hq => ?_, fun q hq => ?_, fun g hg hT => h.ne g hg (hrr g (h.own.lt g hg).2 hT), h.bel.trans (hb.mono h.lo), h.lo⟩
  · obtain ⟨hp, ha, hv'⟩ := h.hea q hq
    refine ⟨ops_away hp hb.size hfr ha, ?_, hv'⟩
    rcases ha with ha | ha
    · exact .inl ha
    · rcases hp.ops with h1 | ⟨b, off, e, hl, _⟩
      · exact .inl h1
      · refine .inr fun g o eg hT => ?_
        rw [e] at eg
        cases eg
        exact ha _ _ e (hrr _ hl hT)
  · rw [List.mem_append, List.mem_singleton] at hq
    rcases hq with hq | rfl
    · exact h.gea q hq
    · refine .inr fun g o e he => ?_
      have h1 := (hf g o e).1
      have h2 := (h.own.lt g he).2
      omega
theorem Law.pushed {w0 w w2 : World} {base rb mb : Nat} {v hv hv' : Value} {gs hs : List PRow} {r : PRow} {lo : Nat} (h : Law w0 base rb mb v hv gs hs w) (hp : ProvAt w r.A r.p) (hf : Fresh lo w.heap.size r.A) (hlo : ∀ g, RegT rb mb v g → g < lo) (hlo2 : ∀ g, hv.ownBlock = some g → g < lo)
    (hown : w2.ownsRow base 36 9 hv' (hs.length + 1) (rowCells hs ++ r.cells)) (hb : Below w0.heap.size w0 w2) (hg : w.grownBy w2 hv.ownBlock) (hn : ∀ g, g < w.heap.size → hv.ownBlock ≠ some g → hv'.ownBlock ≠ some g) :
    Law w0 base rb mb v hv' gs (hs ++ [r]) w2 := by
  have hk : ∀ i, i < w.heap.size → ¬ (hv.ownBlock = some i) → w2.heap[i]? = w.heap[i]? := fun i hi hne => hg.block i hi (fun e => hne e.symm)
  have hnx : ∀ q : PRow, ProvAt w q.A q.p → Apart hv q → Apart hv' q := by
    intro q hq ha
    rcases ha with ha | ha
    · exact .inl ha
    · rcases hq.ops with h1 | ⟨b, off, e, hl, _⟩
      · exact .inl h1
      · refine .inr fun g o eg => ?_
        rw [e] at eg
        cases eg
        exact hn _ hl (ha _ _ e)
  have hra : Apart hv r := .inr fun g o e he => by
    have h1 := (hf g o e).1
    have h2 := hlo2 g he
    omega
  refine ⟨h.reg.same (U := fun i => hv.ownBlock = some i) hg.size hk (fun e => h.ne _ e (.inl rfl)) (fun e => h.ne _ e (.inr (.inl rfl))) (fun g e1 e2 => h.ne g e2 (.inr (.inr e1))) (fun q hq => ?_), ?_, fun q hq => ?_, fun q hq => hnx q (h.reg.each q hq).1 (h.gea q hq), fun g hg2 hT => ?_, hb, h.lo⟩
  · rcases h.gea q hq with ha | ha
    · exact .inl ha
    · exact .inr fun g o e he => ha g o e he
  · rw [List.length_append, rowCells_app, rowCells_one]
    exact hown
  · rw [List.mem_append, List.mem_singleton] at hq
    rcases hq with hq | rfl
    · obtain ⟨h1, h2, h3⟩ := h.hea q hq
      exact ⟨ops_away (U := fun i => hv.ownBlock = some i) h1 hg.size hk (h3.elim .inl (fun h3 => .inr fun g o e he => h3 g o e he)), h2, hnx q h1 h3⟩
    · refine ⟨ops_away (U := fun i => hv.ownBlock = some i) hp hg.size hk (hra.elim .inl (fun h3 => .inr fun g o e he => h3 g o e he)), .inr fun g o e hT => ?_, hnx q hp hra⟩
      have h1 := (hf g o e).1
      have h2 := hlo g hT
      omega
  · have h1 := regT_lt h.reg hT
    by_cases he : hv.ownBlock = some g
    · exact h.ne g he hT
    · exact hn g h1 he hg2
theorem find_at {gs : List PRow} (hd : (namesL gs).Nodup) (k : Nat) (hk : k < gs.length) : findAns (namesL gs) gs[k].p.name = ((k : Int), 0) := by
  have hl : k < (namesL gs).length := by rw [namesL_length]; exact hk
  have hg := namesL_get gs k hk
  unfold findAns
  rw [← hg, if_pos (memB_iff.2 (List.getElem_mem hl)), idx_nodup hd k 0 k hl (by omega) (Nat.zero_le _)]
theorem add_split (gs : List PRow) (p : XProv) : (provF p = 0 ∧ memB p.name (namesL gs) = false ∧ gs.length < 256) ∨ (addAns (namesL gs) p).2 ≠ 0 := by
  unfold addAns
  by_cases h0 : provF p = 0
  · cases hM : memB p.name (namesL gs)
    · by_cases hl : gs.length < 256
      · exact .inl ⟨h0, rfl, hl⟩
      · refine .inr ?_
        rw [if_neg (by simpa using h0), if_neg (by simp), if_pos (by rw [namesL_length]; omega)]
        decide
    · refine .inr ?_
      rw [if_neg (by simpa using h0), if_pos rfl]
      decide
  · refine .inr ?_
    rw [if_pos h0]
    exact h0
end Go.Proofs.YtofmdmmgbfbaoaaDoor
