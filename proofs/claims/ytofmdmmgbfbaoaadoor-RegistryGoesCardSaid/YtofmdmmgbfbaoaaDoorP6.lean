/- The registry's Clone. -/
import Derived.Test.YtofmdmmgbfbaoaaDoorR6
import Derived.Shelf.SlMaps.Clone
namespace Go.Proofs.YtofmdmmgbfbaoaaDoor
open Go.RowKit Go.Maps Go.ChangeMaps Go.WideShapes

set_option maxHeartbeats 2000000 in
set_option maxRecDepth 100000 in
theorem mapsClone_c (b : Nat) (es : Array MapEntry) (clock : Nat) (w : World) (hb : w.heap[b]? = some (.map es clock)) :
    Calls Tryd.prog 40 #[.map (some b)] w fun e w' => e = .returned (.map (some w.heap.size)) ∧ w' = w.alloc (.map es clock) := by
  have hq := fun w => run_eql_map_nil_sl (P := Tryd.prog) w 61 _ _ (some b) Tryd.underlying61
  go_enter Tryd.func40, Tryd.ntmps40
  go_wp2
  rw [run_callFunc_extern Tryd.func60 (by kernel_rfl) (by kernel_rfl) (by kernel_rfl) (e := Extern.MapsClone.clone) (by kernel_rfl), run_maps_clone_sl w 61 hb]
  simp only [Result.andThen]
  rw [Oper.upon_value]
  go_wp2
  rw [run_typeAssert_map_sl _ 61 20 _ _ _ Tryd.underlying61]
  simp only [Result.andThen]
  rw [Oper.upon_value]
  go_wp2
  go_ret
  exact ⟨rfl, rfl⟩
/-- A registry whose row is still growing: its table is whole. -/
structure Part (w : World) (base rb mb : Nat) (v : Value) (rs : List PRow) (n : Nat) (F : ByteArray → Option Int) (fz : Bool) : Prop where
  c0 : w.cell? ⟨rb, 0, none⟩ = some v
  c1 : w.cell? ⟨rb, 1, none⟩ = some (.map (some mb))
  c2 : w.cell? ⟨rb, 2, none⟩ = some (.bool fz)
  z0 : w.frozen? ⟨rb, 0, none⟩ = false
  z1 : w.frozen? ⟨rb, 1, none⟩ = false
  z2 : w.frozen? ⟨rb, 2, none⟩ = false
  own : w.ownsRow base 36 9 v rs.length (rowCells rs)
  each : ∀ r ∈ rs, ProvAt w r.A r.p ∧ Away (RegT rb mb v) r
  tab : TabIs w mb n F
  ne : rb ≠ mb ∧ v.ownBlock ≠ some rb ∧ v.ownBlock ≠ some mb
  lo : base ≤ rb ∧ base ≤ mb
  rbl : rb < w.heap.size
  fr : ∀ r ∈ rs, Fresh base w.heap.size r.A
theorem Part.below {w w' : World} {base rb mb : Nat} {v : Value} {rs : List PRow} {n : Nat} {F : ByteArray → Option Int} {fz : Bool} (h : Part w base rb mb v rs n F fz) (hb : Below w.heap.size w w') : Part w' base rb mb v rs n F fz := by
  have hr := hb.block rb h.rbl
  have hc : ∀ o, w'.cell? ⟨rb, o, none⟩ = w.cell? ⟨rb, o, none⟩ := fun o => World.cell?_of_block (a := ⟨rb, o, none⟩) hr
  have hf : ∀ o, w'.frozen? ⟨rb, o, none⟩ = w.frozen? ⟨rb, o, none⟩ := fun o => by unfold World.frozen?; rw [hr]
  exact ⟨(hc 0).trans h.c0, (hc 1).trans h.c1, (hc 2).trans h.c2, (hf 0).trans h.z0, (hf 1).trans h.z1, (hf 2).trans h.z2,
    own_below h.own hb, fun r hr => ⟨(h.each r hr).1.below hb, (h.each r hr).2⟩, h.tab.kept (hb.block mb h.tab.lt), h.ne, h.lo, Nat.lt_of_lt_of_le h.rbl hb.size, fun r hr => (h.fr r hr).more (Nat.le_refl _) hb.size⟩
theorem part_step {w w3 w5 : World} {base rb mb : Nat} {v v5 : Value} {rs : List PRow} {r : PRow} {n : Nat} {F : ByteArray → Option Int} {fz : Bool} {O : Obj} (h : Part w base rb mb v rs n F fz) (hb : Below w.heap.size w w3) (hx3 : ProvAt w3 r.A r.p) (hf : Fresh w.heap.size w3.heap.size r.A)
    (hown5 : w5.ownsRow base 36 9 v5 (rs.length + 1) (rowCells rs ++ r.cells)) (hg5 : (w3.alloc O).grownBy w5 v.ownBlock) (hat : v5.ownBlock = v.ownBlock ∨ v5.ownBlock = some (w3.alloc O).heap.size) :
    Part (w5.setCell ⟨rb, 0, none⟩ v5) base rb mb v5 (rs ++ [r]) n F fz ∧ Below base w (w5.setCell ⟨rb, 0, none⟩ v5) := by
  have hs3 := hb.size
  have hbA : Below w.heap.size w (w3.alloc O) := hb.alloc hs3 O
  have h2 := h.below hbA
  have hsz2 : (w3.alloc O).heap.size = w3.heap.size + 1 := al_size w3 O
  have hg5s := hg5.size
  have hrb := h.rbl
  have hmb := h.tab.lt
  have hlo := h.lo
  have hne := h.ne
  have hk5 : ∀ i, i < (w3.alloc O).heap.size → v.ownBlock ≠ some i → w5.heap[i]? = (w3.alloc O).heap[i]? := fun i hi hn => hg5.block i hi (fun e => hn e.symm)
  have hk6 : ∀ i, i ≠ rb → (w5.setCell ⟨rb, 0, none⟩ v5).heap[i]? = w5.heap[i]? := fun i hi => Below.heap_setCell w5 ⟨rb, 0, none⟩ v5 i hi
  have hs6 : (w5.setCell ⟨rb, 0, none⟩ v5).heap.size = w5.heap.size := by simp [World.setCell]
  have hrb5 := hk5 rb (by omega) hne.2.1
  have hc5 : ∀ o, w5.cell? ⟨rb, o, none⟩ = (w3.alloc O).cell? ⟨rb, o, none⟩ := fun o => World.cell?_of_block (a := ⟨rb, o, none⟩) hrb5
  have hf5 : ∀ o, w5.frozen? ⟨rb, o, none⟩ = (w3.alloc O).frozen? ⟨rb, o, none⟩ := fun o => by unfold World.frozen?; rw [hrb5]
  have hv5rb : v5.ownBlock ≠ some rb := by
    rcases hat with e | e
    · rw [e]; exact hne.2.1
    · rw [e]; intro e2; have := Option.some.inj e2; omega
  have hv5mb : v5.ownBlock ≠ some mb := by
    rcases hat with e | e
    · rw [e]; exact hne.2.2
    · rw [e]; intro e2; have := Option.some.inj e2; omega
  have hU : ∀ i, i < (w3.alloc O).heap.size → ¬ (i = rb ∨ v.ownBlock = some i) → (w5.setCell ⟨rb, 0, none⟩ v5).heap[i]? = (w3.alloc O).heap[i]? := fun i hi hn => (hk6 i (fun e => hn (.inl e))).trans (hk5 i hi (fun e => hn (.inr e)))
  have hsz : (w3.alloc O).heap.size ≤ (w5.setCell ⟨rb, 0, none⟩ v5).heap.size := by omega
  refine ⟨⟨World.cell?_setCell_same _ _ _ ((hc5 0).trans h2.c0), ?_, ?_, ?_, ?_, ?_, ?_, ?_, ?_, ⟨hne.1, hv5rb, hv5mb⟩, hlo, by omega, ?_⟩, ?_⟩
  · rw [World.cell?_setCell_other _ _ _ _ (by simp)]; exact (hc5 1).trans h2.c1
  · rw [World.cell?_setCell_other _ _ _ _ (by simp)]; exact (hc5 2).trans h2.c2
  · rw [World.frozen?_setCell]; exact (hf5 0).trans h2.z0
  · rw [World.frozen?_setCell]; exact (hf5 1).trans h2.z1
  · rw [World.frozen?_setCell]; exact (hf5 2).trans h2.z2
  · rw [rowCells_app, rowCells_one, List.length_append]
    exact own_same hown5 (fun g hg => hk6 g (fun e => hv5rb (by rw [hg, e])))
  · intro q hq
    rw [List.mem_append, List.mem_singleton] at hq
    rcases hq with hq | rfl
    · obtain ⟨hp, ha⟩ := h2.each q hq
      refine ⟨ops_away (U := fun i => i = rb ∨ v.ownBlock = some i) hp hsz hU ?_, ?_⟩
      · rcases ha with ha | ha
        · exact .inl ha
        · exact .inr fun g o e hu => ha g o e (hu.elim .inl (fun h => .inr (.inr h)))
      · rcases ha with ha | ha
        · exact .inl ha
        · rcases hp.ops with hp | ⟨b, off, e, hl, _⟩
          · exact .inl hp
          · refine .inr fun g o eg hu => ?_
            rw [e] at eg
            cases eg
            rcases hu with hu | hu | hu
            · exact ha _ _ e (.inl hu)
            · exact ha _ _ e (.inr (.inl hu))
            · rcases hat with e2 | e2
              · exact ha _ _ e (.inr (.inr (by rw [← e2]; exact hu)))
              · rw [e2] at hu; have := Option.some.inj hu; omega
    · have hown := h.own
      refine ⟨ops_away (U := fun i => i = rb ∨ v.ownBlock = some i) (hx3.below ((Below.refl _ _).alloc (Nat.le_refl _) O)) hsz hU ?_, ?_⟩
      · refine .inr fun g o e hu => ?_
        have := hf g o e
        rcases hu with hu | hu
        · omega
        · have := (hown.lt g hu).2; omega
      · refine .inr fun g o e hu => ?_
        have h3 := hf g o e
        rcases hu with hu | hu | hu
        · omega
        · omega
        · rcases hat with e2 | e2
          · rw [e2] at hu; have := (hown.lt g hu).2; omega
          · rw [e2] at hu; have := Option.some.inj hu; omega
  · exact h2.tab.kept (hU mb h2.tab.lt (by rintro (e | e); exact hne.1 e.symm; exact hne.2.2 e))
  · intro q hq
    rw [List.mem_append, List.mem_singleton] at hq
    rcases hq with hq | rfl
    · exact (h.fr q hq).more (Nat.le_refl _) (by omega)
    · exact hf.more (by omega) (by omega)
  · have hbs : base ≤ w.heap.size := by omega
    exact ((hbA.mono hbs).grown hg5 (by omega) (fun g e => (h.own.lt g e).1)).setCell (p := ⟨rb, 0, none⟩) hlo.1 _
theorem names_map {a b : List PRow} (h : a.map (·.p) = b.map (·.p)) : namesL a = namesL b := by
  have := congrArg (List.map XProv.name) h
  rw [List.map_map, List.map_map] at this
  exact this
theorem Part.done {w w0 : World} {base rb mb base0 rb0 mb0 : Nat} {v v0 : Value} {hs gs : List PRow} {n : Nat} {F : ByteArray → Option Int} {fz fz0 : Bool} (h : Part w base rb mb v hs n F fz) (h0 : RegF w0 base0 rb0 mb0 v0 gs fz0) (he : hs.map (·.p) = gs.map (·.p)) (hn : n ≤ gs.length) (hF : ∀ s, F s = idxO (namesL gs) s) : RegF w base rb mb v hs fz := by
  have hl : hs.length = gs.length := by have := congrArg List.length he; simpa using this
  exact ⟨h.c0, h.c1, h.c2, h.z0, h.z1, h.z2, h.own, h.each, ⟨n, F, by omega, h.tab, by rw [names_map he]; exact hF⟩, by rw [names_map he]; exact h0.dist, by rw [hl]; exact h0.len, h.ne, h.lo, h.rbl⟩
theorem mapsCloneT_c (b n : Nat) (F : ByteArray → Option Int) (w : World) (h : TabIs w b n F) :
    Calls Tryd.prog 40 #[.map (some b)] w fun e w' => e = .returned (.map (some w.heap.size)) ∧ TabIs w' w.heap.size n F ∧ Below w.heap.size w w' := by
  obtain ⟨D, ⟨es, clock, hb, G, hs, hD⟩, hF⟩ := h
  refine (mapsClone_c b es clock w hb).mono fun e w' ⟨he, hw⟩ => ?_
  subst hw
  exact ⟨he, ⟨D, ⟨es, clock, (MapKept.heap_alloc w _).1, G, hs, hD⟩, hF⟩, (Below.refl _ w).alloc (Nat.le_refl _) _⟩
/-- What Clone leaves. -/
def ClonePost (gs : List PRow) (fz : Bool) (w : World) (e : Ending) (w' : World) : Prop := ∃ rb mb v hs, e = .returned (.pointer (some ⟨rb, 0, none⟩)) ∧ RegF w' w.heap.size rb mb v hs fz ∧ hs.map (·.p) = gs.map (·.p) ∧ (∀ q ∈ hs, Fresh w.heap.size w'.heap.size q.A) ∧ Below w.heap.size w w'
/-- What Clone's first region keeps. -/
def SC (w0 : World) (rb mb : Nat) (fz : Bool) (w' : World) : Prop := Below w0.heap.size w0 w' ∧ w'.cell? ⟨rb, 1, none⟩ = some (.map (some mb)) ∧ w'.cell? ⟨rb, 2, none⟩ = some (.bool fz)
theorem SC.below {w0 W W' : World} {rb mb : Nat} {fz : Bool} (h : SC w0 rb mb fz W) (hy : rb < w0.heap.size) (hb : Below W.heap.size W W') : SC w0 rb mb fz W' := by
  have hs := h.1.size
  exact ⟨h.1.trans (hb.mono hs), (hb.cell (p := ⟨rb, 1, none⟩) (Nat.lt_of_lt_of_le hy hs)).trans h.2.1, (hb.cell (p := ⟨rb, 2, none⟩) (Nat.lt_of_lt_of_le hy hs)).trans h.2.2⟩
theorem SC.drew {w0 W : World} {rb mb : Nat} {fz : Bool} (h : SC w0 rb mb fz W) : SC w0 rb mb fz W.drew := ⟨h.1.trans ((Below.refl _ _).drew.mono h.1.size), h.2.1, h.2.2⟩
theorem SC.alloc {w0 W : World} {rb mb : Nat} {fz : Bool} (h : SC w0 rb mb fz W) (hy : rb < w0.heap.size) (o : Obj) : SC w0 rb mb fz (W.alloc o) := h.below hy ((Below.refl _ _).alloc (Nat.le_refl _) o)
theorem part_new {w0 w1 : World} {mb n : Nat} {F : ByteArray → Option Int} (h : TabIs w1 mb n F) (hmb : w0.heap.size ≤ mb) (hb : Below w0.heap.size w0 w1) (fz : Bool) (t : TypeId) : Part (w1.alloc (.cells #[.slice none 0 0, .map (some mb), .bool fz] t)) w0.heap.size w1.heap.size mb (.slice none 0 0) [] n F fz := by
  have hs := hb.size
  have hl := h.lt
  refine ⟨by rw [cell_new]; rfl, by rw [cell_new]; rfl, by rw [cell_new]; rfl, ?_, ?_, ?_, ⟨rfl, .inl ⟨rfl, rfl⟩⟩, fun r hr => (by simp at hr), h.below ((Below.refl _ _).alloc (Nat.le_refl _) _), ⟨by omega, by simp [Value.ownBlock], by simp [Value.ownBlock]⟩, ⟨hs, hmb⟩, by rw [al_size]; omega, fun r hr => (by simp at hr)⟩ <;> simp
set_option maxHeartbeats 4000000 in
set_option maxRecDepth 100000 in
theorem clone_c (w : World) (base rb mb : Nat) (v : Value) (gs : List PRow) (fz : Bool) (h : RegF w base rb mb v gs fz) :
    Calls Tryd.prog 29 #[.pointer (some ⟨rb, 0, none⟩)] w (ClonePost gs fz w) := by
  have hrb := h.rbl
  have hlen := h.len
  obtain ⟨V, c, hv, hps⟩ := h.row
  subst hv
  have q0 := fun W (hb : Below w.heap.size w W) => (h.below hb).c0
  obtain ⟨n, F, hn, htab, hF⟩ := h.tab
  have h0 : SC w rb mb fz w := ⟨Below.refl _ _, h.c1, h.c2⟩
  have H0 := Lib.hid h0
  have HT := Lib.hid htab
  have HPS := Lib.hid hps
  have HR := Lib.hid h
  have HF := Lib.hid hF
  clear htab hps h hF h0
  go_enter Tryd.func29, Tryd.ntmps29
  go_wp2_with fail
  go_region_held3 (fun w' => Below w.heap.size w w' ∧ w'.cell? ⟨rb, 1, none⟩ = some (.map (some mb)) ∧ w'.cell? ⟨rb, 2, none⟩ = some (.bool fz))
    (first | (show SC w rb mb fz _; first | with_reducible exact H0.out | with_reducible exact H0.out.drew | exact H0.out.drew | with_reducible exact HS.out | with_reducible exact HS.out.drew | with_reducible exact SC.alloc HS.out hrb _))
    ((first | (go_at_call 40; have qq : SC w rb mb fz _ := ‹Below _ _ _ ∧ _ ∧ _›; refine (mapsCloneT_c mb n F _ (HT.out.below qq.1)).mono ?_; rintro e w1 ⟨rfl, ht1, hb1⟩; have HS := Lib.hid (qq.below hrb hb1); have HT1 := Lib.hid ht1; have HQ := Lib.hid qq.1.size; clear qq ht1)))
  have hp1 : Part (w1.alloc (.cells #[.slice none 0 0, .map (some w.heap.size), .bool fz] 63)) w.heap.size w1.heap.size w.heap.size (.slice none 0 0) [] n F fz := part_new (w0 := w) (show TabIs w1 w.heap.size n F from HT1.out) (Nat.le_refl _) HS.out.1 fz 63
  have hbw : Below w.heap.size w (w1.alloc (.cells #[.slice none 0 0, .map (some w.heap.size), .bool fz] 63)) := HS.out.1.alloc HS.out.1.size _
  obtain ⟨mb2, hmb2⟩ : ∃ mb2 : Nat, mb2 = w.heap.size := ⟨_, rfl⟩
  obtain ⟨w2, hw2⟩ : ∃ w2 : World, w2 = w1.alloc (.cells #[.slice none 0 0, .map (some w.heap.size), .bool fz] 63) := ⟨_, rfl⟩
  rw [← hw2] at hp1 hbw ⊢
  generalize w1.heap.size = rb2 at *
  have HP1 := Lib.hid hp1
  clear hp1 hw2 hmb2
  clear HS HT1 HQ hb1
  go_wp2_with fail
  go_loopw [22] (fun i wr => ∃ (k : Nat) (v2 : Value) (hs : List PRow), k ≤ gs.length ∧ i = .int .i64 k ∧ Hid (Part wr w.heap.size rb2 w.heap.size v2 hs n F fz) ∧ Hid (hs.map (·.p) = (gs.take k).map (·.p)) ∧ Below w.heap.size w wr) (fun i _ => gs.length - (intOf i).toNat)
  case atStart => exact ⟨0, _, [], by omega, rfl, HP1, rfl, hbw⟩
  case round =>
    obtain ⟨k, v2, hs, hk, rfl, HP, HE, hbel⟩ := hrel
    have hl2 : hs.length = k := by have := congrArg List.length HE.out; simp at this; omega
    by_cases hlt : k < gs.length
    · rcases (HPS.out.below hbel).lies with h1 | ⟨b, off, rfl, hb, hc⟩
      · rw [h1] at hlt; simp at hlt
      obtain ⟨g0, g1, g2, g3, g4, g5, g6, g7, g8⟩ := hc k hlt
      have hpk := (HPS.out.below hbel).each gs[k] (List.getElem_mem hlt)
      have hi0 : (0 : Int) ≤ (k : Int) := Int.natCast_nonneg _
      have hi1 : (k : Int) < (gs.length : Int) := by omega
      have HE2 : Hid ((gs.take (k + 1)).map (·.p) = (gs.take k).map (·.p) ++ [gs[k].p]) := by
        show _ = _
        rw [List.take_succ_eq_append_getElem hlt, List.map_append]
        rfl
      generalize gs[k] = r at *
      obtain ⟨⟨nm, es, ag, p1, p2, p3, p4, ck, ct⟩, A, ca⟩ := r
      have hcc := fun W h1 => copied_c ⟨nm, es, ag, p1, p2, p3, p4, ck, ct⟩ A ca W h1 hpk.len
      have HCC := Lib.hid hcc
      have HPK := Lib.hid hpk
      have HL2 := Lib.hid hl2
      clear hcc hpk hc hl2
      simp only [XProv.val] at *
      obtain ⟨n2, hn2⟩ : ∃ n2 : Nat, n2 = hs.length := ⟨_, rfl⟩
      have HN2 := Lib.hid hn2
      clear hn2
      go_wp2_with fail
      obtain ⟨w1, hw1⟩ : ∃ w1 : World, w1 = wr.alloc (.cells (PRow.cells ⟨⟨nm, es, ag, p1, p2, p3, p4, ck, ct⟩, A, ca⟩).toArray 36) := ⟨_, rfl⟩
      have hb1 : Below wr.heap.size wr w1 := by rw [hw1]; exact (Below.refl _ _).alloc (Nat.le_refl _) _
      have hz1 : wr.heap.size < w1.heap.size := by rw [hw1, al_size]; omega
      have hP1 := HP.out.below hb1
      have c0 := hP1.c0
      have z0 := hP1.z0
      obtain ⟨r0, r1, r2, r3, r4, r5, r6, r7, r8⟩ : ProvOn w1 wr.heap.size 0 ⟨⟨nm, es, ag, p1, p2, p3, p4, ck, ct⟩, A, ca⟩ := by rw [hw1]; refine ⟨?_, ?_, ?_, ?_, ?_, ?_, ?_, ?_, ?_⟩ <;> (rw [cell_new]; rfl)
      refine (?_ : Code.wp _ _ _ _ (wr.alloc (.cells (PRow.cells ⟨⟨nm, es, ag, p1, p2, p3, p4, ck, ct⟩, A, ca⟩).toArray 36)))
      rw [← hw1]
      have HP1 := Lib.hid hP1
      have HPK1 := Lib.hid (HPK.out.below hb1)
      clear hP1 hw1 g0 g1 g2 g3 g4 g5 g6 g7 g8 q0
      simp only [Nat.zero_add] at r0 r1 r2 r3 r4 r5 r6 r7 r8
      obtain ⟨i0, hi, hzz⟩ := Option.map_eq_some_iff.1 info_prov
      simp only [Prod.mk.injEq] at hzz
      have HI := Lib.hid hi
      have HZ := Lib.hid hzz
      clear hi hzz
      go_region_law (first
        | (go_simp; go_at_call 22; refine (HCC.out _ (ops_drewN HPK1.out.ops _)).mono ?_; rintro e w3 ⟨A3, c3, rfl, hx3, hf3, hb3'⟩; have hb3 : Below w1.heap.size w1 w3 := (below_drewN (Below.refl w1.heap.size w1) _).trans hb3'; clear hb3'; have c03 := (HP1.out.below hb3).c0; have z03 := (HP1.out.below hb3).z0; have l03 := (HP1.out.below hb3).rbl)
        | (refine step_append_any _ (by rfl) _ _ 22 (by rfl) w.heap.size 36 i0 _ 9 104 Tryd.underlying22 HI.out HZ.out.1 HZ.out.2.1 HZ.out.2.2 (by decide) (by omega) v2 hs.length (rowCells hs) (by rfl) ((own_below HP1.out.own hb3).alloc _) _ (some ⟨w3.heap.size, 0, none⟩) 1 1 (PRow.cells ⟨⟨nm, es, ag, p1, p2, p3, p4, ck, ct⟩, A3, c3⟩) (by rfl) (reads_new w3 _ _ 9 rfl) (by simp [PRow.cells, Value.oneCell']) (by have := HL2.out; simp only [maxLen]; omega) (by have := HL2.out; omega) (by have h1 := HP1.out.lo; have h2 := HP1.out.rbl; have h3 := hb3.size; rw [al_size]; have h4 : w1.heap.size ≤ w3.heap.size := h3; omega) ?_; intro v5 w5 hown5 hg5 hat5; obtain ⟨g5, cap5, hv5, _, _⟩ := hown5.form (by omega); subst hv5; have h2 := HP1.out.below (hb3.alloc hb3.size (.cells (PRow.cells ⟨⟨nm, es, ag, p1, p2, p3, p4, ck, ct⟩, A3, c3⟩).toArray 36)); have hrb5 := hg5.block rb2 h2.rbl (fun e => h2.ne.2.1 e.symm); have c5 : w5.cell? ⟨rb2, 0, none⟩ = some v2 := (World.cell?_of_block (a := ⟨rb2, 0, none⟩) hrb5).trans h2.c0; have z5 : w5.frozen? ⟨rb2, 0, none⟩ = false := (by have h3 := h2.z0; unfold World.frozen? at h3 ⊢; rw [hrb5]; exact h3); clear h2 hrb5))
      all_goals
        have hst := part_step (r := ⟨⟨nm, es, ag, p1, p2, p3, p4, ck, ct⟩, A3, c3⟩) HP1.out hb3 ⟨hx3, HPK1.out.len, HPK1.out.name, HPK1.out.ct, HPK1.out.text⟩ hf3 hown5 hg5 hat5
        generalize w5.setCell ⟨rb2, 0, none⟩ (.slice (some ⟨g5, 0, none⟩) (hs.length + 1) cap5) = W6 at *
        have HST := Lib.hid hst
        have hbb := HST.out.2
        have HBW := Lib.hid (hbel.trans (hb1.mono hbel.size))
        clear hst c5 z5 hown5 hg5 hat5 hx3 hf3 c03 z03 l03 hb3 r0 r1 r2 r3 r4 r5 r6 r7 r8 c0 z0 hb1 hz1
        go_wp2
        go_roundw
        case rel =>
          refine ⟨k + 1, _, _, by omega, by go_num, HST.out.1, ?_, ?_⟩
          · show _ = _
            rw [HE2.out, List.map_append, HE.out]
            rfl
          · exact HBW.out.trans hbb
        case measure => simp [intOf]; omega
    · have hz : hs.map (·.p) = gs.map (·.p) := by rw [HE.out, List.take_of_length_le (by omega)]
      have HZ := Lib.hid hz
      clear hz
      go_wp2
      go_ret
      exact ⟨rb2, w.heap.size, v2, hs, rfl, Part.done HP.out HR.out HZ.out hn HF.out, HZ.out, HP.out.fr, hbel⟩
end Go.Proofs.YtofmdmmgbfbaoaaDoor
