/- The document's Add, taken. -/
import Derived.Test.YtofmdmmgbfbaoaaDoorP7
import Derived.Test.YtofmdmmgbfbaoaaDoorP1
namespace Go.Proofs.YtofmdmmgbfbaoaaDoor
open Go.RowKit Go.Maps Go.ChangeMaps Go.WideShapes

theorem provOn_cell {w : World} {b o : Nat} {r : PRow} (h : ProvOn w b o r) (m : Nat) (hm : m < 9) : w.cell? ⟨b, o + m, none⟩ = some (r.cells[m]'hm) := by
  obtain ⟨g0, g1, g2, g3, g4, g5, g6, g7, g8⟩ := h
  match m, hm with
  | 0, _ => exact g0
  | 1, _ => exact g1
  | 2, _ => exact g2
  | 3, _ => exact g3
  | 4, _ => exact g4
  | 5, _ => exact g5
  | 6, _ => exact g6
  | 7, _ => exact g7
  | 8, _ => exact g8
theorem provs_reads {w : World} {V : Option Addr} {rs : List PRow} (h : ProvsAt w V rs) (B : Nat) (hB : w.heap.size ≤ B) : Reads w B 9 V rs.length (rowCells rs) := by
  refine ⟨rowCells_length rs, fun h0 => ?_⟩
  rcases h.lies with h1 | ⟨b, off, rfl, hb, hc⟩
  · rw [h1] at h0; simp at h0
  · refine ⟨⟨b, off, none⟩, rfl, Nat.lt_of_lt_of_le hb hB, fun j u hu => ?_⟩
    have hj : j < rs.length * 9 := by
      have := (List.getElem?_eq_some_iff.1 hu).1
      rwa [rowCells_length] at this
    have hi : j / 9 < rs.length := by omega
    have hg := rowCells_get rs (j / 9) (j % 9) hi (Nat.mod_lt _ (by decide))
    rw [show j / 9 * 9 + j % 9 = j by omega] at hg
    rw [hu] at hg
    have hu' := Option.some.inj hg
    have hm : j % 9 < 9 := Nat.mod_lt _ (by decide)
    have hcell := provOn_cell (hc (j / 9) hi) (j % 9) hm
    have he : off + j / 9 * 9 + j % 9 = off + j := by omega
    rw [he] at hcell
    rw [hu']
    rw [add_any]
    exact hcell
theorem rows_cell1 (rs : List PRow) : ∀ u ∈ rowCells rs, u.oneCell' = true := by
  intro u hu
  unfold rowCells at hu
  rw [List.mem_flatMap] at hu
  obtain ⟨r, _, hr⟩ := hu
  simp only [PRow.cells, List.mem_cons, List.not_mem_nil, or_false] at hr
  rcases hr with rfl | rfl | rfl | rfl | rfl | rfl | rfl | rfl | rfl <;> rfl
theorem own_at' {w : World} {base n c : Nat} {e : TypeId} {A : Option Addr} {es : List XOp} (h : w.ownsRow base e 4 (.slice A n c) n (opCells es)) : OpsAt w A es := by
  obtain ⟨A', c', e', hs, _⟩ := own_ops h
  rw [(Value.slice.inj e').1]
  exact hs
theorem own_cap9 {w : World} {base n m c : Nat} {e : TypeId} {size : Nat} {A : Option Addr} {xs : List Value} (h : w.ownsRow base e size (.slice A m c) n xs) : n ≤ c := by
  rcases h.2 with ⟨_, h0⟩ | ⟨g, cap, cur, hv, hg, hh, hn, hcap, hsz, htake⟩
  · omega
  · cases hv; exact hn
/-- What the document's Add leaves where it is taken: the row and the new expression are new. -/
def RAddYes (ys : List PRow) (fz : Bool) (p : XProv) (w : World) (e : Ending) (w' : World) : Prop :=
  ∃ V' c' A' d', e = .returned (.tuple #[.agg #[.slice V' (ys.length + 1) c', .bool fz], .int .i64 (ys.length : Int), .int .i64 0]) ∧ ProvsAt w' V' (ys ++ [⟨p, A', d'⟩]) ∧ Fresh w.heap.size w'.heap.size V' ∧ Fresh w.heap.size w'.heap.size A' ∧ ys.length + 1 ≤ c' ∧ Below w.heap.size w w'
set_option maxHeartbeats 8000000 in
set_option maxRecDepth 100000 in
theorem radd_yes (ys : List PRow) (V : Option Addr) (cy : Nat) (p : XProv) (A : Option Addr) (c : Nat) (w : World) (hy : ProvsAt w V ys) (hl : ys.length < 256) (hp : ProvAt w A p) (h0 : provF p = 0) (hM : memB p.name (namesL ys) = false) :
    Calls Tryd.prog 26 #[.agg #[.slice V ys.length cy, .bool false], p.val A c] w (RAddYes ys false p w) := by
  have hcp := fun W (hb : Below w.heap.size w W) => checkProvR_c p A c W (hp.below hb)
  have hfi := fun W (hb : Below w.heap.size w W) => refFind_c ys V cy false p.name W (hy.below hb) (by omega)
  have hco := fun W (hb : Below w.heap.size w W) => copyProv_own p A c W (hp.below hb).ops hp.len
  rw [h0] at hcp
  have hf2 : (findAns (namesL ys) p.name).2 = 4 := by unfold findAns; rw [hM]; rfl
  rw [hf2] at hfi
  have HPP := Lib.hid hp
  obtain ⟨nm, es, ag, p1, p2, p3, p4, ck, ct⟩ := p
  simp only [XProv.val] at *
  generalize (findAns (namesL ys) nm).1 = f1 at *
  generalize hN : ys.length = N at *
  have HN := Lib.hid hN
  have HYY := Lib.hid hy
  have HS := rs_start w V N cy false nm es ag p1 p2 p3 p4 ck ct A c 48 36 48 _ rfl
  have R0 := Lib.hid HS.1
  have T0 := Lib.hid HS.2
  have HCP := Lib.hid hcp
  have HFI := Lib.hid hfi
  have HCO := Lib.hid hco
  have hi3 : (N : Int) < 256 := by omega
  clear HS hcp hfi hco hy hp hN h0 hM hf2
  obtain ⟨i0, hi, hzz⟩ := Option.map_eq_some_iff.1 info_prov
  simp only [Prod.mk.injEq] at hzz
  have HI := Lib.hid hi
  have HZ := Lib.hid hzz
  clear hi hzz
  go_enter Tryd.func26, Tryd.ntmps26
  go_wp2_with (first | (go_at_call 38; refine (HCP.out _ R0.out.1).mono ?_; rintro e w1 ⟨rfl, hb1⟩; have R1 := R0.out.below hb1; have T1 := T0.out.below R0.out.2.1 hb1; have HR1 := Lib.hid R1; have HT1 := Lib.hid T1; obtain ⟨_, _, a0, a1, r0, r1, r2, r3, r4, r5, r6, r7, r8⟩ := R1; obtain ⟨e0, e1, f0, f1⟩ := T1; clear hb1) | (go_at_call 39; refine (HFI.out _ HR1.out.1).mono ?_; rintro e w2 ⟨rfl, hb2⟩; clear a0 a1 r0 r1 r2 r3 r4 r5 r6 r7 r8 e0 e1 f0 f1; have R2 := HR1.out.below hb2; have T2 := HT1.out.below HR1.out.2.1 hb2; have HR2 := Lib.hid R2; have HT2 := Lib.hid T2; obtain ⟨_, _, a0, a1, r0, r1, r2, r3, r4, r5, r6, r7, r8⟩ := R2; clear T2 hb2))
  clear a0 a1 r0 r1 r2 r3 r4 r5 r6 r7 r8
  have hrs2 := HR2.out
  have HW2 := Lib.hid hrs2.2.1
  go_region_held3 (fun w' => Below w.heap.size w w' ∧ w.heap.size + 1 + 1 < w'.heap.size ∧ w'.cell? ⟨w.heap.size, 0, none⟩ = some (.slice V N cy) ∧ w'.cell? ⟨w.heap.size, 1, none⟩ = some (.bool false) ∧ w'.cell? ⟨w.heap.size + 1, 0, none⟩ = some (.string nm) ∧ w'.cell? ⟨w.heap.size + 1, 1, none⟩ = some (.slice A es.length c) ∧ w'.cell? ⟨w.heap.size + 1, 2, none⟩ = some (.bool ag) ∧ w'.cell? ⟨w.heap.size + 1, 3, none⟩ = some (.int .i64 p1) ∧ w'.cell? ⟨w.heap.size + 1, 4, none⟩ = some (.int .i64 p2) ∧ w'.cell? ⟨w.heap.size + 1, 5, none⟩ = some (.int .i64 p3) ∧ w'.cell? ⟨w.heap.size + 1, 6, none⟩ = some (.int .i64 p4) ∧ w'.cell? ⟨w.heap.size + 1, 7, none⟩ = some (.int .i64 ck) ∧ w'.cell? ⟨w.heap.size + 1, 8, none⟩ = some (.string ct))
    (first | (show RS w V N cy false ⟨⟨nm, es, ag, p1, p2, p3, p4, ck, ct⟩, A, c⟩ _; repeat (first | with_reducible exact HR2.out | with_reducible exact HA3.out | with_reducible exact HA4.out | with_reducible exact HA5.out | with_reducible exact HA6.out | with_reducible refine RS.drew ?_ | with_reducible refine RS.set ?_ _ _ | with_reducible refine RS.alloc ?_ _)))
    ((first
      | (refine step_append_any _ (by rfl) _ _ 22 (by rfl) w2.heap.size 36 i0 _ 9 104 Tryd.underlying22 HI.out HZ.out.1 HZ.out.2.1 HZ.out.2.2 (by decide) (by omega) (.slice (some ⟨w2.heap.size, 0, none⟩) 0 0) 0 [] (by rfl) (own_below (World.ownsRow_made (base := w2.heap.size) w2 #[] 0 (Nat.le_refl _) (by simp [maxLen]) (by simp)) (Below.refl _ _).drew) _ V N cy (rowCells ys) (by rfl) (by rw [← HN.out]; exact provs_reads (HYY.out.below ((HR2.out.alloc (.cells #[] 36)).drew).1) _ (Nat.le_refl _)) (rows_cell1 ys) (by simp only [maxLen]; omega) (by omega) (by show w2.heap.size ≤ (w2.alloc _).heap.size; rw [al_size]; omega) ?_; intro v4 w4 hown4' hg4 hat4; have hb4 : Below w2.heap.size w2 w4 := (((Below.refl _ _).alloc (Nat.le_refl _) _).drew).grown hg4 (by show w2.heap.size ≤ (w2.alloc _).heap.size; rw [al_size]; omega) (fun k e => by cases e; exact Nat.le_refl _); have hown4 : w4.ownsRow w2.heap.size 36 9 v4 N (rowCells ys) := (by simpa using hown4'); obtain ⟨V4, c4, hv4, _⟩ := own_provs hown4 (fun r hr => (HYY.out.each r hr).below (HR2.out.1.trans (hb4.mono HR2.out.1.size))); rw [HN.out] at hv4; subst hv4; have HA4 := Lib.hid (HR2.out.below hb4); have HB4 := Lib.hid hb4; have HO4 := Lib.hid hown4; clear hown4' hown4 hg4 hat4 hb4)
      | (go_at_call 9; refine (HCO.out _ HA4.out.1).mono ?_; rintro e w5 ⟨A5, c5, rfl, hown5, hb5⟩; simp only [XProv.val] at hown5 ⊢; have HA5 := Lib.hid (HA4.out.below hb5); have HB5 := Lib.hid hb5; have HO5 := Lib.hid hown5; clear hown5 hb5)
      | (refine step_append_any _ (by rfl) _ _ 22 (by rfl) w2.heap.size 36 i0 _ 9 104 Tryd.underlying22 HI.out HZ.out.1 HZ.out.2.1 HZ.out.2.2 (by decide) (by omega) (.slice V4 N c4) N (rowCells ys) (by rfl) ((own_below HO4.out HB5.out).alloc _) _ (some ⟨w5.heap.size, 0, none⟩) 1 1 (PRow.cells ⟨⟨nm, es, ag, p1, p2, p3, p4, ck, ct⟩, A5, c5⟩) (by rfl) (reads_new w5 _ _ 9 rfl) (by simp [PRow.cells, Value.oneCell']) (by simp only [maxLen]; omega) (by omega) (by have h1 := HB4.out.size; have h2 := HB5.out.size; rw [al_size]; have h3 : w2.heap.size ≤ w4.heap.size := h1; have h4 : w4.heap.size ≤ w5.heap.size := h2; omega) ?_; intro v6 w6 hown6 hg6 hat6; obtain ⟨g6, cap6, hv6, hc6, hcap6⟩ := hown6.form (by omega); subst hv6; have hb6 : Below w2.heap.size w2 w6 := ((HB4.out.trans (HB5.out.mono HB4.out.size)).alloc (Nat.le_trans HB4.out.size HB5.out.size) _).grown hg6 (by rw [al_size]; have h1 := HB4.out.size; have h2 := HB5.out.size; omega) (fun k e => (HO4.out.lt k e).1); have HA6 := Lib.hid (HR2.out.below hb6); have HT6 := Lib.hid (HT2.out.below HR2.out.2.1 hb6); obtain ⟨e0, e1, f0, f1⟩ := HT6.out; have HB6 := Lib.hid hb6; have HG6 := Lib.hid hg6; have HO6 := Lib.hid hown6; clear hb6 hg6 hown6 hat6)))
  all_goals
    obtain ⟨c0, c1⟩ := two_set (x := .slice (some ⟨g6, 0, none⟩) (N + 1) cap6) (y := .bool false) e0 e1
    have hrs7 := (HA6.out.set 0 (.slice (some ⟨g6, 0, none⟩) (N + 1) cap6)).set 1 (.bool false)
    have hw2 : w.heap.size + 1 + 1 < w2.heap.size := HW2.out
    have ho7 := own_low (own_low HO6.out ⟨w.heap.size + 1 + 1, 0, none⟩ (.slice (some ⟨g6, 0, none⟩) (N + 1) cap6) hw2) ⟨w.heap.size + 1 + 1, 1, none⟩ (.bool false) hw2
    have hs7 : ((w6.setCell ⟨w.heap.size + 1 + 1, 0, none⟩ (.slice (some ⟨g6, 0, none⟩) (N + 1) cap6)).setCell ⟨w.heap.size + 1 + 1, 1, none⟩ (.bool false)).heap.size = w6.heap.size := by simp [World.setCell]
    have hp5 : ProvAt w5 A5 ⟨nm, es, ag, p1, p2, p3, p4, ck, ct⟩ := ⟨own_at' HO5.out, HPP.out.len, HPP.out.name, HPP.out.ct, HPP.out.text⟩
    have hf5 := own_fresh HO5.out
    have hp6 : ProvAt w6 A5 ⟨nm, es, ag, p1, p2, p3, p4, ck, ct⟩ := by
      refine ops_away (r := ⟨⟨nm, es, ag, p1, p2, p3, p4, ck, ct⟩, A5, c5⟩) (U := fun i => (Value.slice V4 N c4).ownBlock = some i) (hp5.below ((Below.refl _ _).alloc (Nat.le_refl _) _)) HG6.out.size (fun i hi hn => HG6.out.block i hi (fun e => hn e.symm)) (.inr fun g o e hu => ?_)
      have h1 := (hf5 g o e).1
      have h2 := (HO4.out.lt g hu).2
      omega
    have h24 : w2.heap.size ≤ w4.heap.size := HB4.out.size
    have hp7 : ProvAt ((w6.setCell ⟨w.heap.size + 1 + 1, 0, none⟩ (.slice (some ⟨g6, 0, none⟩) (N + 1) cap6)).setCell ⟨w.heap.size + 1 + 1, 1, none⟩ (.bool false)) A5 ⟨nm, es, ag, p1, p2, p3, p4, ck, ct⟩ := by
      refine ⟨ops_set (ops_set hp6.ops _ _ (fun b o e => ?_)) _ _ (fun b o e => ?_), hp6.len, hp6.name, hp6.ct, hp6.text⟩ <;> (have h1 := (hf5 b o e).1; show w.heap.size + 1 + 1 ≠ b; omega)
    have h56 : w5.heap.size ≤ w6.heap.size := by have := HG6.out.size; rw [al_size] at this; omega
    have h45 : w4.heap.size ≤ w5.heap.size := HB5.out.size
    have HC0 := c0
    have HC1 := c1
    clear c0 c1 e0 e1 f0 f1
    generalize (w6.setCell ⟨w.heap.size + 1 + 1, 0, none⟩ (.slice (some ⟨g6, 0, none⟩) (N + 1) cap6)).setCell ⟨w.heap.size + 1 + 1, 1, none⟩ (.bool false) = wf at *
    have hb7 := hrs7.1
    obtain ⟨V7, c7, e7, hps7⟩ := own_provs (rs := ys ++ [⟨⟨nm, es, ag, p1, p2, p3, p4, ck, ct⟩, A5, c5⟩]) (by rw [rowCells_app, rowCells_one]; exact ho7) (fun q hq => by
      rw [List.mem_append, List.mem_singleton] at hq
      rcases hq with hq | rfl
      · exact (HYY.out.each q hq).below hb7
      · exact hp7)
    have hV7 := (Value.slice.inj e7).1
    rw [← hV7] at hps7
    have hpost : RAddYes ys false ⟨nm, es, ag, p1, p2, p3, p4, ck, ct⟩ w (.returned (.tuple #[.agg #[.slice (some ⟨g6, 0, none⟩) (N + 1) cap6, .bool false], .int .i64 (N : Int), .int .i64 0])) wf := by
      refine ⟨_, cap6, A5, c5, by rw [HN.out], hps7, (own_fresh ho7).more (by omega) (Nat.le_refl _), hf5.more (by omega) (by omega), by rw [HN.out]; exact own_cap9 ho7, hb7⟩
    have HP := Lib.hid hpost
    generalize w.heap.size + 1 + 1 = b4 at *
    clear hpost hps7 e7 hb7 hrs7 ho7 hs7 hp5 hf5 hp6 hp7 h24 h45 h56 hw2
    go_wp2
    refine bodyPost_ret (v := .tuple #[.agg #[.slice (some ⟨g6, 0, none⟩) (N + 1) cap6, .bool false], .int .i64 (N : Int), .int .i64 0]) (by simp [results, Tryd.results26, go_sem, HC0, HC1]; try rfl) rfl ?_
    exact HP.out
end Go.Proofs.YtofmdmmgbfbaoaaDoor
