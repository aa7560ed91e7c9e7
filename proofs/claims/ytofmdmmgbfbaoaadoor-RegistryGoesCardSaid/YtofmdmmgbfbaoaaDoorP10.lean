/- A registry beside the document's. -/
import Derived.Test.YtofmdmmgbfbaoaaDoorP9
import Derived.Test.YtofmdmmgbfbaoaaDoorP6
namespace Go.Proofs.YtofmdmmgbfbaoaaDoor
open Go.RowKit Go.Maps Go.ChangeMaps Go.WideShapes

theorem RegF.lt {w : World} {base rb mb : Nat} {v : Value} {rs : List PRow} {fz : Bool} (h : RegF w base rb mb v rs fz) {g : Nat} (hg : RegT rb mb v g) : g < w.heap.size := by
  rcases hg with rfl | rfl | hg
  · exact h.rbl
  · exact h.mblt
  · exact (h.own.lt g hg).2
theorem RegF.ge {w : World} {base rb mb : Nat} {v : Value} {rs : List PRow} {fz : Bool} (h : RegF w base rb mb v rs fz) {g : Nat} (hg : RegT rb mb v g) : base ≤ g := by
  rcases hg with rfl | rfl | hg
  · exact h.lo.1
  · exact h.lo.2
  · exact (h.own.lt g hg).1
theorem ProvAt.blk {w : World} {r : PRow} (h : ProvAt w r.A r.p) : r.p.expr = [] ∨ ∀ g o, r.A = some ⟨g, o, none⟩ → g < w.heap.size := by
  rcases h.ops with h1 | ⟨b, off, e, hl, _⟩
  · exact .inl h1
  · exact .inr fun g o e2 => by rw [e] at e2; cases e2; exact hl
/-- A block that neither has. -/
def Off (U : Nat → Prop) (rb mb : Nat) (v : Value) (gs : List PRow) (V : Option Addr) (ys : List PRow) (yb : Nat) : Prop :=
  (∀ g, RegT rb mb v g → ¬ U g) ∧ ¬ U yb ∧ (ys = [] ∨ ∀ g o, V = some ⟨g, o, none⟩ → ¬ U g) ∧ (∀ q ∈ gs, Away U q) ∧ ∀ q ∈ ys, Away U q
/-- A registry, the document's, and a place of the document's own. -/
structure Duo (w0 w : World) (base rb mb : Nat) (v : Value) (gs : List PRow) (fz : Bool) (V : Option Addr) (c : Nat) (ys : List PRow) (yb : Nat) (u0 u1 : Value) : Prop where
  reg : RegF w base rb mb v gs fz
  row : ProvsAt w V ys
  vaw : ys = [] ∨ ∀ g o, V = some ⟨g, o, none⟩ → ¬ RegT rb mb v g ∧ g ≠ yb
  eaw : ∀ q ∈ ys, Away (RegT rb mb v) q ∧ Away (· = yb) q
  gaw : ∀ q ∈ gs, Away (· = yb) q
  yaw : ¬ RegT rb mb v yb
  cap : ys.length ≤ c
  eqs : ys.map (·.p) = gs.map (·.p)
  ok : ∀ q ∈ ys, provF q.p = 0
  bel : Below w0.heap.size w0 w
  lo : w0.heap.size ≤ base
  ylo : w0.heap.size ≤ yb
  ylt : yb < w.heap.size
  y0 : w.cell? ⟨yb, 0, none⟩ = some u0
  y1 : w.cell? ⟨yb, 1, none⟩ = some u1
  yz : ∀ o, o < 2 → w.frozen? ⟨yb, o, none⟩ = false
  old : Off (fun g => g < w0.heap.size) rb mb v gs V ys yb
theorem provs_away {w w' : World} {V : Option Addr} {ys : List PRow} {U : Nat → Prop} (h : ProvsAt w V ys) (hs : w.heap.size ≤ w'.heap.size) (hk : ∀ i, i < w.heap.size → ¬ U i → w'.heap[i]? = w.heap[i]?) (hv : ys = [] ∨ ∀ g o, V = some ⟨g, o, none⟩ → ¬ U g) (he : ∀ q ∈ ys, Away U q) : ProvsAt w' V ys := by
  refine ⟨?_, fun r hr => ops_away (h.each r hr) hs hk (he r hr)⟩
  rcases h.lies with h | ⟨b, off, e, hl, hc⟩
  · exact .inl h
  · rcases hv with hv | hv
    · exact .inl hv
    · have hb := hk b hl (hv b off e)
      exact .inr ⟨b, off, e, Nat.lt_of_lt_of_le hl hs, fun i hi => (hc i hi).same fun o => World.cell?_of_block (a := ⟨b, o, none⟩) hb⟩
/-- What is not written stays. -/
theorem Duo.same {w0 w w' : World} {base rb mb yb c : Nat} {v : Value} {gs ys : List PRow} {fz : Bool} {V : Option Addr} {u0 u1 : Value} {U : Nat → Prop} (h : Duo w0 w base rb mb v gs fz V c ys yb u0 u1) (hb : Below w0.heap.size w0 w') (hs : w.heap.size ≤ w'.heap.size) (hk : ∀ i, i < w.heap.size → ¬ U i → w'.heap[i]? = w.heap[i]?)
    (h1 : ∀ g, RegT rb mb v g → ¬ U g) (h2 : ¬ U yb) (h3 : ys = [] ∨ ∀ g o, V = some ⟨g, o, none⟩ → ¬ U g) (h4 : ∀ q ∈ gs, Away U q) (h5 : ∀ q ∈ ys, Away U q) : Duo w0 w' base rb mb v gs fz V c ys yb u0 u1 := by
  have hy := hk yb h.ylt h2
  have hc : ∀ o, w'.cell? ⟨yb, o, none⟩ = w.cell? ⟨yb, o, none⟩ := fun o => World.cell?_of_block (a := ⟨yb, o, none⟩) hy
  have hf : ∀ o, w'.frozen? ⟨yb, o, none⟩ = w.frozen? ⟨yb, o, none⟩ := fun o => by unfold World.frozen?; rw [hy]
  exact ⟨h.reg.same hs hk (h1 _ (.inl rfl)) (h1 _ (.inr (.inl rfl))) (fun g e => h1 _ (.inr (.inr e))) h4, provs_away h.row hs hk h3 h5, h.vaw, h.eaw, h.gaw, h.yaw, h.cap, h.eqs, h.ok, hb, h.lo, h.ylo, Nat.lt_of_lt_of_le h.ylt hs, (hc 0).trans h.y0, (hc 1).trans h.y1, fun o ho => (hf o).trans (h.yz o ho), h.old⟩
theorem Duo.below {w0 w w' : World} {base rb mb yb c : Nat} {v : Value} {gs ys : List PRow} {fz : Bool} {V : Option Addr} {u0 u1 : Value} (h : Duo w0 w base rb mb v gs fz V c ys yb u0 u1) (hb : Below w.heap.size w w') : Duo w0 w' base rb mb v gs fz V c ys yb u0 u1 :=
  h.same (U := fun _ => False) (h.bel.trans (hb.mono h.bel.size)) hb.size (fun i hi _ => hb.block i hi) (fun _ _ => id) id (.inr fun _ _ _ => id) (fun _ _ => .inr fun _ _ _ => id) (fun _ _ => .inr fun _ _ _ => id)
/-- What was there before a block came is away from it. -/
theorem away_new {w : World} {q : PRow} {lo : Nat} {U : Nat → Prop} (h : ProvAt w q.A q.p) (hlo : w.heap.size ≤ lo) (hU : ∀ g, U g → lo ≤ g) : Away U q := by
  rcases h.blk with h1 | h1
  · exact .inl h1
  · exact .inr fun g o e hu => by have := h1 g o e; have := hU g hu; omega
theorem away_fresh {lo hi : Nat} {q : PRow} {U : Nat → Prop} (h : Fresh lo hi q.A) (hU : ∀ g, U g → g < lo ∨ hi ≤ g) : Away U q := .inr fun g o e hu => by
  have h1 := h g o e
  have h2 := hU g hu
  omega
/-- Frozen, both. -/
theorem Duo.freeze {w0 w : World} {base rb mb yb c : Nat} {v : Value} {gs ys : List PRow} {fz : Bool} {V : Option Addr} {u0 u1 : Value} (h : Duo w0 w base rb mb v gs fz V c ys yb u0 u1) : Duo w0 ((w.setCell ⟨rb, 2, none⟩ (.bool true)).setCell ⟨yb, 1, none⟩ (.bool true)) base rb mb v gs true V c ys yb u0 (.bool true) := by
  have hr := h.reg.freeze
  have hne : rb ≠ yb := fun e => h.yaw (.inl e.symm)
  have hk1 : ∀ i, i ≠ rb → (w.setCell ⟨rb, 2, none⟩ (.bool true)).heap[i]? = w.heap[i]? := fun i hi => Below.heap_setCell w ⟨rb, 2, none⟩ (.bool true) i hi
  have hs1 : (w.setCell ⟨rb, 2, none⟩ (.bool true)).heap.size = w.heap.size := by simp [World.setCell]
  have hk2 : ∀ i, i ≠ yb → ((w.setCell ⟨rb, 2, none⟩ (.bool true)).setCell ⟨yb, 1, none⟩ (.bool true)).heap[i]? = (w.setCell ⟨rb, 2, none⟩ (.bool true)).heap[i]? := fun i hi => Below.heap_setCell _ ⟨yb, 1, none⟩ (.bool true) i hi
  have hs2 : ((w.setCell ⟨rb, 2, none⟩ (.bool true)).setCell ⟨yb, 1, none⟩ (.bool true)).heap.size = (w.setCell ⟨rb, 2, none⟩ (.bool true)).heap.size := by simp [World.setCell]
  have hc : ∀ o, (w.setCell ⟨rb, 2, none⟩ (.bool true)).cell? ⟨yb, o, none⟩ = w.cell? ⟨yb, o, none⟩ := fun o => World.cell?_of_block (a := ⟨yb, o, none⟩) (hk1 yb (fun e => hne e.symm))
  have hU : ∀ q : PRow, Away (RegT rb mb v) q → Away (fun i => i = rb) q := fun q hq => hq.imp id fun hq g o e hu => hq g o e (.inl hu)
  refine ⟨hr.same (U := fun i => i = yb) (Nat.le_of_eq hs2.symm) (fun i _ hi => hk2 i hi) hne (fun e => h.yaw (.inr (.inl e.symm))) (fun g e e2 => h.yaw (.inr (.inr (e2 ▸ e)))) h.gaw, ?_, h.vaw, h.eaw, h.gaw, h.yaw, h.cap, h.eqs, h.ok, ?_, h.lo, h.ylo, by rw [hs2, hs1]; exact h.ylt, ?_, ?_, fun o ho => ?_, h.old⟩
  · refine provs_away (U := fun i => i = yb) (provs_away (U := fun i => i = rb) h.row (Nat.le_of_eq hs1.symm) (fun i _ hi => hk1 i hi) (h.vaw.imp id fun hv g o e hu => (hv g o e).1 (.inl hu)) (fun q hq => hU q (h.eaw q hq).1)) (Nat.le_of_eq hs2.symm) (fun i _ hi => hk2 i hi) (h.vaw.imp id fun hv g o e => (hv g o e).2) (fun q hq => (h.eaw q hq).2)
  · exact (h.bel.setCell (p := ⟨rb, 2, none⟩) (Nat.le_trans h.lo h.reg.lo.1) _).setCell (p := ⟨yb, 1, none⟩) h.ylo _
  · rw [World.cell?_setCell_other _ _ _ _ (by simp)]
    exact (hc 0).trans h.y0
  · exact World.cell?_setCell_same _ _ _ ((hc 1).trans h.y1)
  · rw [World.frozen?_setCell, World.frozen?_setCell]
    exact h.yz o ho
/-- The place of the document's registry is written. -/
theorem Duo.sety {w0 w : World} {base rb mb yb c : Nat} {v : Value} {gs ys : List PRow} {fz : Bool} {V : Option Addr} {u0 u1 : Value} (h : Duo w0 w base rb mb v gs fz V c ys yb u0 u1) (x y : Value) : Duo w0 ((w.setCell ⟨yb, 0, none⟩ x).setCell ⟨yb, 1, none⟩ y) base rb mb v gs fz V c ys yb x y := by
  have hk : ∀ i, i < w.heap.size → ¬ (i = yb) → ((w.setCell ⟨yb, 0, none⟩ x).setCell ⟨yb, 1, none⟩ y).heap[i]? = w.heap[i]? := fun i _ hi => (Below.heap_setCell _ ⟨yb, 1, none⟩ y i hi).trans (Below.heap_setCell _ ⟨yb, 0, none⟩ x i hi)
  have hs : ((w.setCell ⟨yb, 0, none⟩ x).setCell ⟨yb, 1, none⟩ y).heap.size = w.heap.size := by simp [World.setCell]
  obtain ⟨c0, c1⟩ := two_set (x := x) (y := y) h.y0 h.y1
  refine ⟨h.reg.same (U := fun i => i = yb) (Nat.le_of_eq hs.symm) hk (fun e => h.yaw (.inl e.symm)) (fun e => h.yaw (.inr (.inl e.symm))) (fun g e e2 => h.yaw (.inr (.inr (e2 ▸ e)))) h.gaw, provs_away h.row (Nat.le_of_eq hs.symm) hk (h.vaw.imp id fun hv g o e => (hv g o e).2) (fun q hq => (h.eaw q hq).2), h.vaw, h.eaw, h.gaw, h.yaw, h.cap, h.eqs, h.ok, (h.bel.setCell (p := ⟨yb, 0, none⟩) h.ylo _).setCell (p := ⟨yb, 1, none⟩) h.ylo _, h.lo, h.ylo, by rw [hs]; exact h.ylt, c0, c1, fun o ho => ?_, h.old⟩
  rw [World.frozen?_setCell, World.frozen?_setCell]
  exact h.yz o ho
theorem Duo.off {w0 w w' : World} {base rb mb yb c : Nat} {v : Value} {gs ys : List PRow} {fz : Bool} {V : Option Addr} {u0 u1 : Value} {U : Nat → Prop} (h : Duo w0 w base rb mb v gs fz V c ys yb u0 u1) (hU : Off U rb mb v gs V ys yb) (hb : Below w0.heap.size w0 w') (hs : w.heap.size ≤ w'.heap.size) (hk : ∀ i, i < w.heap.size → ¬ U i → w'.heap[i]? = w.heap[i]?) : Duo w0 w' base rb mb v gs fz V c ys yb u0 u1 :=
  h.same hb hs hk hU.1 hU.2.1 hU.2.2.1 hU.2.2.2.1 hU.2.2.2.2
/-- Added, or not. -/
theorem Duo.add {w0 w wA w2 w3 : World} {base rb mb yb c c' : Nat} {v v' : Value} {gs ys t t2 : List PRow} {fz : Bool} {V V' : Option Addr} {u0 u1 : Value} {N : List ByteArray} {p : XProv} (h : Duo w0 w base rb mb v gs fz V c ys yb u0 u1) (hA : Below w.heap.size w wA)
    (hr : RegF w2 base rb mb v' (gs ++ t) fz) (ht : t.map (·.p) = addL fz N p) (hf : ∀ q ∈ t, Fresh wA.heap.size w2.heap.size q.A) (hfr : ∀ i, i < wA.heap.size → ¬ RegT rb mb v i → w2.heap[i]? = wA.heap[i]?) (hb2 : Below base wA w2) (hs2 : wA.heap.size ≤ w2.heap.size) (hat : v'.ownBlock = v.ownBlock ∨ ∃ g, v'.ownBlock = some g ∧ wA.heap.size ≤ g)
    (hps : ProvsAt w3 V' (ys ++ t2)) (ht2 : t2.map (·.p) = addL fz N p) (hf2 : ∀ q ∈ t2, Fresh w2.heap.size w3.heap.size q.A) (hc : (ys ++ t2).length ≤ c') (hb3 : Below w2.heap.size w2 w3) (hV : (t2 = [] ∧ V' = V) ∨ Fresh w2.heap.size w3.heap.size V') (hok : ∀ q ∈ addL fz N p, provF q = 0) :
    Duo w0 w3 base rb mb v' (gs ++ t) fz V' c' (ys ++ t2) yb u0 u1 ∧ ∀ U : Nat → Prop, (∀ g, U g → w.heap.size ≤ g ∧ g < wA.heap.size) → Off U rb mb v' (gs ++ t) V' (ys ++ t2) yb := by
  have hsA := hA.size
  have hs3 := hb3.size
  have hrr : ∀ g, RegT rb mb v' g → RegT rb mb v g ∨ wA.heap.size ≤ g := by
    rintro g (e | e | e)
    · exact .inl (.inl e)
    · exact .inl (.inr (.inl e))
    · rcases hat with h1 | ⟨g2, h1, h2⟩
      · exact .inl (.inr (.inr (h1 ▸ e)))
      · rw [h1] at e; cases e; exact .inr h2
  have hlt : ∀ g, RegT rb mb v g → g < w.heap.size := fun g hg => h.reg.lt hg
  have hyo : yb < w.heap.size := h.ylt
  have hbl : w0.heap.size ≤ w.heap.size := h.bel.size
  have hbw2 : Below w0.heap.size w0 w2 := (h.bel.trans (hA.mono hbl)).trans (hb2.mono h.lo)
  have hy2 : w2.heap[yb]? = w.heap[yb]? := (hfr yb (by omega) h.yaw).trans (hA.block yb hyo)
  have hy3 : w3.heap[yb]? = w.heap[yb]? := (hb3.block yb (by omega)).trans hy2
  have hcy : ∀ o, w3.cell? ⟨yb, o, none⟩ = w.cell? ⟨yb, o, none⟩ := fun o => World.cell?_of_block (a := ⟨yb, o, none⟩) hy3
  have hfy : ∀ o, w3.frozen? ⟨yb, o, none⟩ = w.frozen? ⟨yb, o, none⟩ := fun o => by unfold World.frozen?; rw [hy3]
  -- an old expression, and any block of new things
  have hold : ∀ (q : PRow), ProvAt w q.A q.p → ∀ U : Nat → Prop, (∀ g, U g → w.heap.size ≤ g) → Away U q := fun q hq U hU => away_new hq (Nat.le_refl _) hU
  have hVold : t2 = [] ∧ V' = V → ∀ U : Nat → Prop, (∀ g, U g → w.heap.size ≤ g) → (ys ++ t2 = [] ∨ ∀ g o, V' = some ⟨g, o, none⟩ → ¬ U g) := by
    rintro ⟨rfl, rfl⟩ U hU
    rw [List.append_nil]
    rcases h.row.lies with h1 | ⟨b, off, e, hl, _⟩
    · exact .inl h1
    · refine .inr fun g o e2 hu => ?_
      rw [e] at e2
      cases e2
      have := hU _ hu
      omega
  refine ⟨⟨hr.below hb3, hps, ?_, fun q hq => ?_, fun q hq => ?_, ?_, hc, ?_, fun q hq => ?_, hbw2.trans (hb3.mono (Nat.le_trans hbl (by omega))), h.lo, h.ylo, by omega, (hcy 0).trans h.y0, (hcy 1).trans h.y1, fun o ho => (hfy o).trans (h.yz o ho), ⟨fun g hg hu => ?_, fun hu => ?_, ?_, fun q hq => ?_, fun q hq => ?_⟩⟩, fun U hU => ⟨fun g hg hu => ?_, fun hu => ?_, ?_, fun q hq => ?_, fun q hq => ?_⟩⟩
  · rcases hV with h1 | h1
    · obtain ⟨rfl, rfl⟩ := h1
      rw [List.append_nil]
      rcases h.row.lies with h2 | ⟨b, off, e, hl, _⟩
      · exact .inl h2
      · rcases h.vaw with h3 | h3
        · exact .inl h3
        · refine .inr fun g o e2 => ⟨fun hT => ?_, (h3 g o e2).2⟩
          rcases hrr g hT with h4 | h4
          · exact (h3 g o e2).1 h4
          · rw [e] at e2; cases e2; omega
    · refine .inr fun g o e => ⟨fun hT => ?_, ?_⟩
      · have h2 := h1 g o e
        have h3 := hr.lt hT
        omega
      · have h2 := h1 g o e
        omega
  · rw [List.mem_append] at hq
    rcases hq with hq | hq
    · refine ⟨?_, (h.eaw q hq).2⟩
      rcases (h.row.each q hq).blk with h1 | h1
      · exact .inl h1
      · rcases (h.eaw q hq).1 with h2 | h2
        · exact .inl h2
        · refine .inr fun g o e hT => ?_
          rcases hrr g hT with h4 | h4
          · exact h2 g o e h4
          · have := h1 g o e; omega
    · refine ⟨away_fresh (hf2 q hq) fun g hg => .inl ?_, away_fresh (hf2 q hq) fun g hg => .inl ?_⟩
      · exact hr.lt hg
      · omega
  · rw [List.mem_append] at hq
    rcases hq with hq | hq
    · exact h.gaw q hq
    · exact away_fresh (hf q hq) fun g hg => .inl (by omega)
  · intro hT
    rcases hrr yb hT with h1 | h1
    · exact h.yaw h1
    · omega
  · rw [List.map_append, List.map_append, h.eqs, ht, ht2]
  · rw [List.mem_append] at hq
    rcases hq with hq | hq
    · exact h.ok q hq
    · exact hok q.p (by rw [← ht2]; exact List.mem_map.2 ⟨q, hq, rfl⟩)
  · have h1 := hr.ge hg
    have h2 := h.lo
    omega
  · have h2 := h.ylo
    omega
  · rcases hV with h1 | h1
    · obtain ⟨rfl, rfl⟩ := h1
      rw [List.append_nil]
      exact h.old.2.2.1
    · refine .inr fun g o e hu => ?_
      have h2 := h1 g o e
      omega
  · rw [List.mem_append] at hq
    rcases hq with hq | hq
    · exact h.old.2.2.2.1 q hq
    · exact away_fresh (hf q hq) fun g hg => .inl (by omega)
  · rw [List.mem_append] at hq
    rcases hq with hq | hq
    · exact h.old.2.2.2.2 q hq
    · exact away_fresh (hf2 q hq) fun g hg => .inl (by omega)
  · have h1 := hU g hu
    rcases hrr g hg with h2 | h2
    · have := hlt g h2; omega
    · omega
  · have := hU yb hu; omega
  · rcases hV with h1 | h1
    · exact hVold h1 U (fun g hg => (hU g hg).1)
    · refine .inr fun g o e hu => ?_
      have h2 := h1 g o e
      have h3 := hU g hu
      omega
  · rw [List.mem_append] at hq
    rcases hq with hq | hq
    · exact hold q (h.reg.each q hq).1 U (fun g hg => (hU g hg).1)
    · exact away_fresh (hf q hq) fun g hg => .inl (hU g hg).2
  · rw [List.mem_append] at hq
    rcases hq with hq | hq
    · exact hold q (h.row.each q hq) U (fun g hg => (hU g hg).1)
    · exact away_fresh (hf2 q hq) fun g hg => .inl (by have := hU g hg; omega)
/-- A clone goes on. -/
theorem Duo.clone {w0 w w' : World} {base rb mb yb c rb2 mb2 : Nat} {v v2 : Value} {gs ys hs : List PRow} {fz : Bool} {V : Option Addr} {u0 u1 : Value} (h : Duo w0 w base rb mb v gs fz V c ys yb u0 u1) (hr : RegF w' w.heap.size rb2 mb2 v2 hs fz) (he : hs.map (·.p) = gs.map (·.p)) (hf : ∀ q ∈ hs, Fresh w.heap.size w'.heap.size q.A) (hb : Below w.heap.size w w') (x : Value) :
    Duo w0 (w'.setCell ⟨rb, 2, none⟩ x) w.heap.size rb2 mb2 v2 hs fz V c ys yb u0 u1 := by
  have h' := h.below hb
  have hrb : rb < w.heap.size := h.reg.rbl
  have hyo : yb < w.heap.size := h.ylt
  have hne : rb ≠ yb := fun e => h.yaw (.inl e.symm)
  have hk1 : ∀ i, i < w'.heap.size → ¬ (i = rb) → (w'.setCell ⟨rb, 2, none⟩ x).heap[i]? = w'.heap[i]? := fun i _ hi => Below.heap_setCell w' ⟨rb, 2, none⟩ x i hi
  have hs1 : (w'.setCell ⟨rb, 2, none⟩ x).heap.size = w'.heap.size := by simp [World.setCell]
  have hy := hk1 yb h'.ylt (fun e => hne e.symm)
  have hc : ∀ o, (w'.setCell ⟨rb, 2, none⟩ x).cell? ⟨yb, o, none⟩ = w'.cell? ⟨yb, o, none⟩ := fun o => World.cell?_of_block (a := ⟨yb, o, none⟩) hy
  have hU : ∀ q : PRow, Away (RegT rb mb v) q → Away (fun i => i = rb) q := fun q hq => hq.imp id fun hq g o e hu => hq g o e (.inl hu)
  refine ⟨hr.same (U := fun i => i = rb) (Nat.le_of_eq hs1.symm) hk1 (fun e => by have := hr.lo.1; omega) (fun e => by have := hr.lo.2; omega) (fun g e e2 => by have := (hr.own.lt g e).1; omega) (fun q hq => away_fresh (hf q hq) fun g hg => .inl (by omega)), ?_, ?_, fun q hq => ⟨?_, (h.eaw q hq).2⟩, fun q hq => away_fresh (hf q hq) fun g hg => .inl (by omega), fun hT => ?_, h.cap, by rw [h.eqs, he], h.ok, ?_, h.bel.size, h.ylo, by rw [hs1]; exact h'.ylt, (hc 0).trans h'.y0, (hc 1).trans h'.y1, fun o ho => ?_, ⟨fun g hg hu => by have h1 := hr.ge hg; have h2 := h.bel.size; omega, h.old.2.1, h.old.2.2.1, fun q hq => away_fresh (hf q hq) fun g hg => .inl (by have h2 := h.bel.size; omega), h.old.2.2.2.2⟩⟩
  · exact provs_away (U := fun i => i = rb) h'.row (Nat.le_of_eq hs1.symm) hk1 (h.vaw.imp id fun hv g o e hu => (hv g o e).1 (.inl hu)) (fun q hq => hU q (h.eaw q hq).1)
  · rcases h.row.lies with h2 | ⟨b, off, e, hl, _⟩
    · exact .inl h2
    · rcases h.vaw with h3 | h3
      · exact .inl h3
      · refine .inr fun g o e2 => ⟨fun hT => ?_, (h3 g o e2).2⟩
        have h4 := hr.ge hT
        rw [e] at e2; cases e2; omega
  · exact away_new (h.row.each q hq) (Nat.le_refl _) fun g hg => hr.ge hg
  · have := hr.ge hT; omega
  · exact h'.bel.setCell (p := ⟨rb, 2, none⟩) (Nat.le_trans h.lo h.reg.lo.1) _
  · rw [World.frozen?_setCell]
    exact h'.yz o ho
end Go.Proofs.YtofmdmmgbfbaoaaDoor
