/- The law RegistryGoes. -/
import Derived.Test.YtofmdmmgbfbaoaaDoorG2
import Derived.Test.YtofmdmmgbfbaoaaDoorG4
namespace Go.Proofs.YtofmdmmgbfbaoaaDoor
open Go.RowKit Go.Maps Go.ChangeMaps Go.WideShapes Go.Shelf

attribute [local go_sem] Oper.semAt_some
theorem Pair.below {w w' : World} {base rb mb c : Nat} {v : Value} {gs ys : List PRow} {fz : Bool} {V : Option Addr} (h : Pair w base rb mb v gs fz V c ys) (hb : Below w.heap.size w w') : Pair w' base rb mb v gs fz V c ys :=
  ⟨h.reg.below hb, h.row.below hb, h.vaw, h.eaw, h.cap, h.eqs, h.ok⟩
set_option maxHeartbeats 8000000 in
set_option maxRecDepth 100000 in
theorem goes_c (xs : List ARow) (X : Option Addr) (cx : Nat) (p : XProv) (A : Option Addr) (ca : Nat) (w : World) (hx : ActsAt w X xs) (hl : xs.length * 112 ≤ 140737488355328) (hp : ProvAt w A p) (hkeys : KeysIn w) :
    Calls Tryd.prog 5 #[.slice X xs.length cx, p.val A ca] w fun e w' => e = .returned (.bool true) ∧ Below w.heap.size w w' := by
  have hp' := hp
  obtain ⟨nm, es, ag, p1, p2, p3, p4, ck, ct⟩ := p
  simp only [XProv.val] at *
  obtain ⟨w0, hw0⟩ : ∃ w0 : World, w0 = (w.alloc (.cells #[.string nm, .slice A es.length ca, .bool ag, .int .i64 p1, .int .i64 p2, .int .i64 p3, .int .i64 p4, .int .i64 ck, .string ct] 36)).alloc (.cells #[.bool false] 4) := ⟨_, rfl⟩
  have hb0 : Below w.heap.size w w0 := by rw [hw0]; exact ((Below.refl _ _).alloc (Nat.le_refl _) _).alloc (by simp) _
  have hpl := play_c xs X cx ⟨#[97]⟩ 0 w0 (hx.below hb0) hl (by decide) (hkeys.below hb0)
  have HPL := Lib.hid hpl
  have HW0 := Lib.hid hw0
  have HB0 := Lib.hid hb0
  have HP := Lib.hid hp'
  have HK := Lib.hid hkeys
  clear hpl hw0 hb0 hp hp' hkeys hx
  refine (callsIn_wide (n := 9)).1 ?_
  refine callsIn_of_wp_marks Tryd.func5 rfl trivial ?_ rfl
  simp only [Tryd.ntmps5, List.size_toArray, List.length_cons, List.length_nil, Nat.reduceAdd, Nat.reduceSub, Array.replicate_succ, Array.replicate_zero, List.push_toArray, List.append_toArray, List.nil_append, List.cons_append]
  gi_wp2_with (first | (refine ⟨trivial, ?_⟩; rw [← HW0.out]; gi_at_call 15; refine (callsIn_wide.2 HPL.out).mono ?_; rintro e w1 ⟨base, rb, mb, v, gs, fz, V, c, ys, rfl, hpr, hlo, hb1⟩; have HPR := Lib.hid hpr; have HLO := Lib.hid hlo; have HB1 := Lib.hid hb1; have HAL := Lib.hid (fun o => (Below.refl w1.heap.size w1).alloc (Nat.le_refl _) o); clear hpr hlo hb1) | (refine ⟨trivial, ?_⟩; gi_at_call 16; refine (callsIn_wide.2 (each_c _ base rb mb v gs fz V c ys (HPR.out.below HB3.out))).mono ?_; rintro e w4 ⟨rfl, hb4⟩; have HB4 := Lib.hid (HB3.out.trans (hb4.mono HB3.out.size)); have HT34 := Lib.hid (show w3.heap.size ≤ w4.heap.size from hb4.size); have HT0 := Lib.hid ((hb4.cell (p := ⟨w1.heap.size, 0, none⟩) hz3).trans t0'); clear t0' t1' hb4) | (refine ⟨trivial, ?_⟩; gi_at_call 16; refine (callsIn_wide.2 (each_c _ base rb mb v gs fz V c ys (HPR.out.below (HAL.out _)))).mono ?_; rintro e w3 ⟨rfl, hb3⟩; have t0' := (hb3.cell (p := ⟨w1.heap.size, 0, none⟩) (by simp)).trans (show _ = some (.slice V ys.length c) by simp); have t1' := (hb3.cell (p := ⟨w1.heap.size, 1, none⟩) (by simp)).trans (show _ = some (.bool fz) by simp); have HB3 := Lib.hid ((HAL.out _).trans (hb3.mono (HAL.out _).size)); have hz3 : w1.heap.size < w3.heap.size := Nat.lt_of_lt_of_le (by simp) hb3.size; clear hb3) | (refine ⟨trivial, ?_⟩; gi_at_call 17; have hrow := HPR.out.reg.row; obtain ⟨VG, cg, hv, hpg⟩ := hrow; refine (callsIn_wide.2 (eachM_c w4 base rb mb v gs VG cg hv (HPR.out.reg.below HB4.out))).mono ?_; rintro e w5 ⟨cc, rfl, hc5, hz5, hb5⟩; have HV := Lib.hid hv; have HPG := Lib.hid hpg; have HC5 := Lib.hid hc5; have HZ5 := Lib.hid hz5; have HB5 := Lib.hid (HB4.out.trans (hb5.mono HB4.out.size)); have HB45 := Lib.hid hb5; clear hv hpg hc5 hz5 hb5))
  rw [run_eql_func_nil _ _ Tryd.underlying54]
  simp only [Result.andThen]
  have hw5 : Below w0.heap.size w0 w5 := HB1.out.trans (HB5.out.mono HB1.out.size)
  have hww5 : Below w.heap.size w w5 := HB0.out.trans (hw5.mono HB0.out.size)
  have hz0 : w.heap.size < w0.heap.size := by rw [HW0.out, al_size, al_size]; omega
  have hn0 : Nine w0 w.heap.size ⟨⟨nm, es, ag, p1, p2, p3, p4, ck, ct⟩, A, ca⟩ := by
    rw [HW0.out]
    refine ⟨?_, ?_, ?_, ?_, ?_, ?_, ?_, ?_, ?_⟩ <;> go_simp
  obtain ⟨r0, r1, r2, r3, r4, r5, r6, r7, r8⟩ := hn0.same fun o => hw5.cell (p := ⟨w.heap.size, o, none⟩) hz0
  have HW5 := Lib.hid hw5
  have HWW5 := Lib.hid hww5
  clear hw5 hww5 hn0
  gi_wp2_with (first | (refine ⟨trivial, ?_⟩; gi_at_call 8; refine (callsIn_wide.2 (add_keep w5 base rb mb v gs fz VG cg HV.out ⟨nm, es, ag, p1, p2, p3, p4, ck, ct⟩ A ca (HPR.out.reg.below HB5.out) (HP.out.below HWW5.out) (HK.out.below HWW5.out))).mono ?_; rintro e w6 ⟨⟨u, rfl⟩, hk6, hb6, hs6⟩; have HK6 := Lib.hid hk6; have HB6 := Lib.hid hb6; have HS6 := Lib.hid hs6; clear hk6 hb6 hs6))
  -- THE RANGE
  obtain ⟨PV, hPV⟩ : ∃ PV : Value, PV = .agg #[.string nm, .slice A es.length ca, .bool ag, .int .i64 p1, .int .i64 p2, .int .i64 p3, .int .i64 p4, .int .i64 ck, .string ct] := ⟨_, rfl⟩
  rw [← hPV]
  clear hPV
  obtain ⟨nb, hnb⟩ : ∃ nb : Nat, nb = w6.heap.size := ⟨_, rfl⟩
  obtain ⟨W0, hW0⟩ : ∃ W0 : World, W0 = w6.alloc (.cells #[.int .i64 0] 3) := ⟨_, rfl⟩
  have hz0' : W0.heap.size = nb + 1 := by rw [hW0, al_size, hnb]
  have hb60 : Below nb w6 W0 := by rw [hW0, hnb]; exact (Below.refl _ _).alloc (Nat.le_refl _) _
  have hn0 : W0.cell? ⟨nb, 0, none⟩ = some (.int .i64 0) := by rw [hW0, hnb, cell_new]; rfl
  have hf0 : W0.frozen? ⟨nb, 0, none⟩ = false := by rw [hW0, hnb]; simp
  -- what Add leaves
  have hT : ∀ g, RegT rb mb v g → g < w1.heap.size := fun g hg => HPR.out.reg.lt hg
  have h15 : w1.heap.size < w5.heap.size := by have h1 := HB4.out.size; have h2 := HZ5.out; omega
  have h45 : w4.heap.size < w5.heap.size := HZ5.out
  have h14 : w1.heap.size ≤ w4.heap.size := HB4.out.size
  have h56 : w5.heap.size ≤ w6.heap.size := HS6.out
  have hy6 : ProvsAt w6 V ys := provs_away (U := RegT rb mb v) (HPR.out.row.below HB5.out) h56 HK6.out.2 HPR.out.vaw HPR.out.eaw
  have hg6 : ProvsAt w6 VG gs := HK6.out.1
  have htb6 : w6.cell? ⟨w1.heap.size, 0, none⟩ = some (.slice V ys.length c) := by
    have h1 := HK6.out.2 w1.heap.size h15 (fun h => Nat.lt_irrefl _ (hT _ h))
    rw [World.cell?_of_block (a := ⟨w1.heap.size, 0, none⟩) h1]
    exact (HB45.out.cell (p := ⟨w1.heap.size, 0, none⟩) (Nat.lt_of_lt_of_le hz3 (by have := HT34.out; exact this))).trans HT0.out
  have hbs6 : w6.cell? ⟨w4.heap.size, 0, none⟩ = some (.slice VG gs.length cc) := by
    have h1 := HK6.out.2 w4.heap.size h45 (fun h => by have := hT _ h; omega)
    rw [World.cell?_of_block (a := ⟨w4.heap.size, 0, none⟩) h1]
    exact HC5.out
  have hw06 : Below w0.heap.size w0 w6 := HW5.out.trans (HB6.out.mono HLO.out)
  have hlen : ys.length = gs.length := by have := congrArg List.length HPR.out.eqs; simpa using this
  have h46 : w4.heap.size < nb := by omega
  have h16 : w1.heap.size < nb := by omega
  have h06 : w0.heap.size ≤ nb := by rw [hnb]; exact hw06.size
  rw [← hW0, ← hnb]
  have HZ0 := Lib.hid hz0'
  have HB60 := Lib.hid hb60
  have HN0 := Lib.hid hn0
  have HF0 := Lib.hid hf0
  have HY6 := Lib.hid hy6
  have HG6 := Lib.hid hg6
  have HTB6 := Lib.hid htb6
  have HBS6 := Lib.hid hbs6
  have HW06 := Lib.hid hw06
  have HLE := Lib.hid hlen
  have HNB := Lib.hid hnb
  have H46 := Lib.hid h46
  have H16 := Lib.hid h16
  have H06 := Lib.hid h06
  have HZW := Lib.hid hz0
  clear hz0' hb60 hn0 hf0 hy6 hg6 htb6 hbs6 hw06 hlen hnb h46 h16 h06 hT h15 h45 h14 h56 hW0 r0 r1 r2 r3 r4 r5 r6 r7 r8 hz0 hz3
  refine range_rounds (gf := 31) (lb := #[.pointer (some ⟨w4.heap.size, 0, none⟩)]) rfl (enters_of Tryd.func31 (by kernel_rfl) rfl) nb gs.length (by rw [HZ0.out]; omega)
    (fun k W1 args => ∃ (q : PRow) (A : Option Addr) (d : Nat), gs[k]? = some q ∧ args = #[.int .i64 (k : Int), q.p.val A d] ∧ W0.heap.size ≤ W1.heap.size ∧ W1.ownsRow W0.heap.size 58 4 (.slice A q.p.expr.length d) q.p.expr.length (opCells q.p.expr))
    (fun k W => (∀ i, i < W0.heap.size → i ≠ nb → W.heap[i]? = W0.heap[i]?) ∧ W.cell? ⟨nb, 0, none⟩ = some (.int .i64 (k : Int)) ∧ W.frozen? ⟨nb, 0, none⟩ = false ∧ Below nb W0 W)
    (fun k a' W => ∃ (b8 : Nat) (q : PRow) (A : Option Addr) (d : Nat), gs[k]? = some q ∧ a' = { tmps := #[.slice X xs.length cx, PV, undef, .pointer (some ⟨w.heap.size, 0, none⟩), .pointer (some ⟨w.heap.size + 1, 0, none⟩), .pointer (some ⟨rb, 0, none⟩), .pointer (some ⟨w1.heap.size, 0, none⟩), .bool true, .func (.func 31) #[] #[.pointer (some ⟨w4.heap.size, 0, none⟩)], .pointer (some ⟨nb, 0, none⟩), .int .i64 (k : Int), .pointer (some ⟨b8, 0, none⟩), .tuple #[.pointer (some ⟨rb, 0, none⟩), .agg #[.slice V ys.length c, .bool fz], .bool true], .slice X xs.length cx, .tuple #[.pointer (some ⟨rb, 0, none⟩), .agg #[.slice V ys.length c, .bool fz], .bool true], .pointer (some ⟨rb, 0, none⟩), .agg #[.slice V ys.length c, .bool fz], .bool true, .bool true, .bool false, .bool false, .pointer (some ⟨rb, 0, none⟩), .agg #[.slice V ys.length c, .bool fz], .bool true, .bool false, .bool false, .bool false, .pointer (some ⟨rb, 0, none⟩), .agg #[.slice V ys.length c, .bool fz], .bool true, .bool false, .bool false, .pointer (some ⟨rb, 0, none⟩), .func (.func 31) #[] #[.pointer (some ⟨w4.heap.size, 0, none⟩)], .func (.func 31) #[] #[.pointer (some ⟨w4.heap.size, 0, none⟩)], .bool false, .pointer (some ⟨rb, 0, none⟩), PV, u, .func (.func 31) #[] #[.pointer (some ⟨w4.heap.size, 0, none⟩)], .int .i64 (k : Int), q.p.val A d, undef, undef, undef, undef, undef, undef, undef, undef, undef, undef, undef, undef, undef, undef, undef, undef, undef, undef, undef, undef, undef, undef, undef, undef, undef, undef, undef], defers := [] } ∧ W0.heap.size ≤ b8 ∧ b8 < W.heap.size ∧ Nine W b8 ⟨q.p, A, d⟩ ∧ W.ownsRow W0.heap.size 58 4 (.slice A q.p.expr.length d) q.p.expr.length (opCells q.p.expr) ∧ ∀ o, A ≠ some ⟨b8, o, none⟩)
    ?hRs ?hK ?hAx ?hiter ?hassign ?hbody ?h0 ?hdone
  case hRs => rintro k W args ⟨q, A, d, _, rfl, _⟩; rfl
  case hK =>
    rintro k A B row ⟨h1, h2, h3, h4⟩ hg hr
    have hzA : nb < A.heap.size := by have h5 := h4.size; have h6 := HZ0.out; omega
    have hne : ∀ i, i < W0.heap.size → row ≠ some i := fun i hi e => by have := hr i e; omega
    have hnb := hg.block nb hzA (fun e => hne nb (by rw [HZ0.out]; omega) e.symm)
    refine ⟨fun i hi hn => (hg.block i (by have := h4.size; omega) (fun e => hne i hi e.symm)).trans (h1 i hi hn), (World.cell?_of_block (a := ⟨nb, 0, none⟩) hnb).trans h2, ?_, h4.grown hg (by omega) (fun r e => by have := hr r e; have := HZ0.out; omega)⟩
    unfold World.frozen? at h3 ⊢
    rw [hnb]
    exact h3
  case hAx =>
    rintro k a' A B l ⟨b8, q, A', d, hgq, rfl, h1, h2, h3, h4, h5⟩ hg hl
    have hr : ∀ r, (some l : Option Nat) = some r → ∃ o : Obj, A.heap[r]? = some o ∧ o.isCells = false := fun r e => by cases e; exact hl
    refine ⟨b8, q, A', d, hgq, rfl, h1, Nat.lt_of_lt_of_le h2 hg.size, ?_, own_same h4 fun g hgb => hg.block g (h4.lt g hgb).2 (fun e => ?_), h5⟩
    · obtain ⟨n0, n1, n2, n3, n4, n5, n6, n7, n8⟩ := h3
      exact ⟨cell_kept n0 hg hr, cell_kept n1 hg hr, cell_kept n2 hg hr, cell_kept n3 hg hr, cell_kept n4 hg hr, cell_kept n5 hg hr, cell_kept n6 hg hr, cell_kept n7 hg hr, cell_kept n8 hg hr⟩
    · obtain ⟨o, ho, hoc⟩ := hl
      cases e
      rcases h4.2 with ⟨hv, _⟩ | ⟨g', cap, cur, hv, _, hh, _⟩
      · rw [hv] at hgb; simp [Value.ownBlock] at hgb
      · rw [hv] at hgb
        simp [Value.ownBlock] at hgb
        subst hgb
        rw [hh] at ho
        cases ho
        simp [Obj.isCells] at hoc
  case hiter =>
    intro l J W hb hJ hY h0
    have hb6 : Below w6.heap.size w6 W := by
      have h1 := HB60.out
      have h2 : nb ≤ W0.heap.size := by have := HZ0.out; omega
      rw [HNB.out] at h1 h2
      exact h1.trans (hb.mono h2)
    have hps := HG6.out.below hb6
    have h0z : w0.heap.size ≤ nb := H06.out
    have hnn := HNB.out
    refine (iter_c 8 l w4.heap.size nb W0.heap.size (by omega) gs VG cc J W HPR.out.reg.len H46.out (by rw [HZ0.out]; omega) hb.size ((hb6.cell (p := ⟨w4.heap.size, 0, none⟩) (by have h1 := H46.out; show w4.heap.size < _; omega)).trans HBS6.out) hps ?_ (fun q hq => ?_) hJ ?_ h0).mono fun e W' h => ⟨h.1, h.2.1⟩
    · rcases HG6.out.lies with h | ⟨b, off, e, hl, _⟩
      · exact .inl h
      · exact .inr fun g o e2 => by rw [e] at e2; cases e2; omega
    · exact (HG6.out.each q hq).blk.imp id fun h g o e => by have := h g o e; omega
    · intro k W1 A d hk hJ1 hB1 hown
      exact hY k W1 _ hk hJ1 ⟨gs[k], A, d, List.getElem?_eq_getElem hk, rfl, hB1, hown⟩
  case hassign =>
    rintro l k W args K' hK ⟨q, A, d, hgq, rfl, hs, hown⟩ hcont
    obtain ⟨⟨nm, es, ag, p1, p2, p3, p4, ck, ct⟩, A0, c0⟩ := q
    have HC := Lib.hid hcont
    have HO := Lib.hid hown
    have HGQ := Lib.hid hgq
    clear hcont hown hK hgq
    simp only [XProv.val] at *
    gi_wp2
    refine HC.out _ _ ((Below.refl _ _).alloc (Nat.le_refl _) _) ⟨W.heap.size, ⟨⟨nm, es, ag, p1, p2, p3, p4, ck, ct⟩, A0, c0⟩, A, d, HGQ.out, rfl, hs, by rw [al_size]; omega, ?_, HO.out.alloc _, fun o e => ?_⟩
    · refine ⟨?_, ?_, ?_, ?_, ?_, ?_, ?_, ?_, ?_⟩ <;> (rw [cell_new]; rfl)
    · have := (HO.out.lt W.heap.size (by rw [e]; rfl)).2
      omega
  case hbody =>
    rintro l k W a' hk ⟨hfr, hcn, hzn, hbel⟩ ⟨b8, q, A, d, hgq, rfl, h1, h2, h3, h4, h5⟩
    obtain ⟨⟨nm, es, ag, p1, p2, p3, p4, ck, ct⟩, A0, c0⟩ := q
    have hky : k < ys.length := by have := HLE.out; omega
    have hgk : gs[k] = ⟨⟨nm, es, ag, p1, p2, p3, p4, ck, ct⟩, A0, c0⟩ := by
      have := List.getElem?_eq_getElem hk
      rw [hgq] at this
      exact (Option.some.inj this).symm
    have hee : ys[k].p = ⟨nm, es, ag, p1, p2, p3, p4, ck, ct⟩ := by
      have := congrArg (·[k]?) HPR.out.eqs
      simp [hky, hk, hgk] at this
      exact this
    have hb6 : Below w6.heap.size w6 W := by
      have h1 := HB60.out
      have h2 := hbel
      rw [HNB.out] at h1 h2
      exact h1.trans h2
    have hyW := HY6.out.below hb6
    rcases hyW.lies with h | ⟨b, off, rfl, hb, hc⟩
    · rw [h] at hky; simp at hky
    have hcy := hc k hky
    have hpy := hyW.each ys[k] (List.getElem_mem hky)
    generalize ys[k] = yk at *
    obtain ⟨yp, Ay, cy⟩ := yk
    simp only at hee
    subst hee
    obtain ⟨g0, g1, g2, g3, g4, g5, g6, g7, g8⟩ := hcy
    obtain ⟨e0, e1, e2, e3, e4, e5, e6, e7, e8⟩ := h3
    have t0 : W.cell? ⟨w1.heap.size, 0, none⟩ = some (.slice (some ⟨b, off, none⟩) ys.length c) := (hb6.cell (p := ⟨w1.heap.size, 0, none⟩) (by have h6 := H16.out; have h7 := HNB.out; show w1.heap.size < _; omega)).trans HTB6.out
    have hi0 : (0 : Int) ≤ (k : Int) := Int.natCast_nonneg _
    have hi1 : (k : Int) < (ys.length : Int) := by omega
    have hops := own_at h4
    have HOPS := Lib.hid hops
    have HPY := Lib.hid hpy
    have HOWN := Lib.hid h4
    have HFR := Lib.hid hfr
    have HBEL := Lib.hid hbel
    have HNE := Lib.hid h5
    simp only [XProv.val] at *
    clear hyW hc hpy hops h4 hfr hbel h5 hgk hgq hb6
    gi_wp2
    have hS0 : SR nb w1.heap.size (some ⟨b, off, none⟩) ys.length c k b8 ⟨⟨nm, es, ag, p1, p2, p3, p4, ck, ct⟩, A, d⟩ b (off + k * 9) ⟨⟨nm, es, ag, p1, p2, p3, p4, ck, ct⟩, Ay, cy⟩ W := ⟨hcn, t0, ⟨e0, e1, e2, e3, e4, e5, e6, e7, e8⟩, ⟨g0, g1, g2, g3, g4, g5, g6, g7, g8⟩⟩
    have hdr : Below W.heap.size W W.drew := (Below.refl _ _).drew
    have hnle : ¬ ys.length ≤ k := by omega
    have hltn : nb < W.heap.size := by have h6 := HBEL.out.size; have h7 := HZ0.out; omega
    have hltw : w1.heap.size < W.heap.size := by have h6 := H16.out; omega
    refine region_in_round 20 rfl (SR nb w1.heap.size (some ⟨b, off, none⟩) ys.length c k b8 ⟨⟨nm, es, ag, p1, p2, p3, p4, ck, ct⟩, A, d⟩ b (off + k * 9) ⟨⟨nm, es, ag, p1, p2, p3, p4, ck, ct⟩, Ay, cy⟩) (by kernel_rfl) (by kernel_rfl) ?hno hS0 (fun hHeld => ?_)
    case hno =>
      rintro ⟨a, w, h⟩
      exact absurd h.1 (by simp)
    refine take_at (i := 0) (d := 42) (v := ?vy0) rfl (by rfl) (by kernel_rfl) (by kernel_rfl) (by kernel_rfl) (fun _ _ _ h => h) (Or.inl ⟨by rfl, ?hy0⟩) (by assumption) ?ry0
    case hy0 => intro w' hSw; obtain ⟨i0, i1, ⟨j0, j1, j2, j3, j4, j5, j6, j7, j8⟩, ⟨m0, m1, m2, m3, m4, m5, m6, m7, m8⟩⟩ := hSw; go_simp; (try with_reducible rfl)
    case' ry0 => simp only [Act.put, List.setIfInBounds_toArray, List.set_cons_zero, List.set_cons_succ]
    refine take_at (i := 1) (d := 43) (v := ?vy1) rfl (by rfl) (by kernel_rfl) (by kernel_rfl) (by kernel_rfl) (fun _ _ _ h => h) (Or.inl ⟨by rfl, ?hy1⟩) (by assumption) ?ry1
    case hy1 => intro w' hSw; obtain ⟨i0, i1, ⟨j0, j1, j2, j3, j4, j5, j6, j7, j8⟩, ⟨m0, m1, m2, m3, m4, m5, m6, m7, m8⟩⟩ := hSw; go_simp; (try with_reducible rfl)
    case' ry1 => simp only [Act.put, List.setIfInBounds_toArray, List.set_cons_zero, List.set_cons_succ]
    refine take_at (i := 2) (d := 44) (v := ?vy2) rfl (by rfl) (by kernel_rfl) (by kernel_rfl) (by kernel_rfl) (fun _ _ _ h => h) (Or.inl ⟨by rfl, ?hy2⟩) (by assumption) ?ry2
    case hy2 => intro w' hSw; obtain ⟨i0, i1, ⟨j0, j1, j2, j3, j4, j5, j6, j7, j8⟩, ⟨m0, m1, m2, m3, m4, m5, m6, m7, m8⟩⟩ := hSw; go_simp; (try with_reducible rfl)
    case' ry2 => simp only [Act.put, List.setIfInBounds_toArray, List.set_cons_zero, List.set_cons_succ]
    refine take_at (i := 3) (d := 45) (v := ?vy3) rfl (by rfl) (by kernel_rfl) (by kernel_rfl) (by kernel_rfl) (fun _ _ _ h => h) (Or.inl ⟨by rfl, ?hy3⟩) (by assumption) ?ry3
    case hy3 => intro w' hSw; obtain ⟨i0, i1, ⟨j0, j1, j2, j3, j4, j5, j6, j7, j8⟩, ⟨m0, m1, m2, m3, m4, m5, m6, m7, m8⟩⟩ := hSw; go_simp; (try with_reducible rfl)
    case' ry3 => simp only [Act.put, List.setIfInBounds_toArray, List.set_cons_zero, List.set_cons_succ]
    refine take_at (i := 4) (d := 46) (v := ?vy4) rfl (by rfl) (by kernel_rfl) (by kernel_rfl) (by kernel_rfl) (fun _ _ _ h => h) (Or.inl ⟨by rfl, ?hy4⟩) (by assumption) ?ry4
    case hy4 => intro w' hSw; obtain ⟨i0, i1, ⟨j0, j1, j2, j3, j4, j5, j6, j7, j8⟩, ⟨m0, m1, m2, m3, m4, m5, m6, m7, m8⟩⟩ := hSw; go_simp; (try with_reducible rfl)
    case' ry4 => simp only [Act.put, List.setIfInBounds_toArray, List.set_cons_zero, List.set_cons_succ]
    refine take_at (i := 5) (d := 47) (v := ?vy5) rfl (by rfl) (by kernel_rfl) (by kernel_rfl) (by kernel_rfl) (fun _ _ _ h => h) (Or.inl ⟨by rfl, ?hy5⟩) (by assumption) ?ry5
    case hy5 => intro w' hSw; obtain ⟨i0, i1, ⟨j0, j1, j2, j3, j4, j5, j6, j7, j8⟩, ⟨m0, m1, m2, m3, m4, m5, m6, m7, m8⟩⟩ := hSw; go_simp; (try with_reducible rfl)
    case' ry5 => simp only [Act.put, List.setIfInBounds_toArray, List.set_cons_zero, List.set_cons_succ]
    refine take_at (i := 6) (d := 48) (v := ?vy6) rfl (by rfl) (by kernel_rfl) (by kernel_rfl) (by kernel_rfl) (fun _ _ _ h => h) (Or.inl ⟨by rfl, ?hy6⟩) (by assumption) ?ry6
    case hy6 => intro w' hSw; obtain ⟨i0, i1, ⟨j0, j1, j2, j3, j4, j5, j6, j7, j8⟩, ⟨m0, m1, m2, m3, m4, m5, m6, m7, m8⟩⟩ := hSw; go_simp; (try with_reducible rfl)
    case' ry6 => simp only [Act.put, List.setIfInBounds_toArray, List.set_cons_zero, List.set_cons_succ]
    refine take_at (i := 7) (d := 49) (v := ?vy7) rfl (by rfl) (by kernel_rfl) (by kernel_rfl) (by kernel_rfl) (fun _ _ _ h => h) (Or.inl ⟨by rfl, ?hy7⟩) (by assumption) ?ry7
    case hy7 => intro w' hSw; obtain ⟨i0, i1, ⟨j0, j1, j2, j3, j4, j5, j6, j7, j8⟩, ⟨m0, m1, m2, m3, m4, m5, m6, m7, m8⟩⟩ := hSw; go_simp; (try with_reducible rfl)
    case' ry7 => simp only [Act.put, List.setIfInBounds_toArray, List.set_cons_zero, List.set_cons_succ]
    refine take_at (i := 8) (d := 50) (v := ?vy8) rfl (by rfl) (by kernel_rfl) (by kernel_rfl) (by kernel_rfl) (fun _ _ _ h => h) (Or.inl ⟨by rfl, ?hy8⟩) (by assumption) ?ry8
    case hy8 => intro w' hSw; obtain ⟨i0, i1, ⟨j0, j1, j2, j3, j4, j5, j6, j7, j8⟩, ⟨m0, m1, m2, m3, m4, m5, m6, m7, m8⟩⟩ := hSw; go_simp; (try with_reducible rfl)
    case' ry8 => simp only [Act.put, List.setIfInBounds_toArray, List.set_cons_zero, List.set_cons_succ]
    refine take_at (i := 9) (d := 51) (v := ?vy9) rfl (by rfl) (by kernel_rfl) (by kernel_rfl) (by kernel_rfl) (fun _ _ _ h => h) (Or.inl ⟨by rfl, ?hy9⟩) (by assumption) ?ry9
    case hy9 => intro w' hSw; obtain ⟨i0, i1, ⟨j0, j1, j2, j3, j4, j5, j6, j7, j8⟩, ⟨m0, m1, m2, m3, m4, m5, m6, m7, m8⟩⟩ := hSw; go_simp; (try with_reducible rfl)
    case' ry9 => simp only [Act.put, List.setIfInBounds_toArray, List.set_cons_zero, List.set_cons_succ]
    refine take_at (i := 10) (d := 52) (v := ?vy10) rfl (by rfl) (by kernel_rfl) (by kernel_rfl) (by kernel_rfl) (fun _ _ _ h => h) (Or.inl ⟨by rfl, ?hy10⟩) (by assumption) ?ry10
    case hy10 => intro w' hSw; obtain ⟨i0, i1, ⟨j0, j1, j2, j3, j4, j5, j6, j7, j8⟩, ⟨m0, m1, m2, m3, m4, m5, m6, m7, m8⟩⟩ := hSw; go_simp; (try with_reducible rfl)
    case' ry10 => simp only [Act.put, List.setIfInBounds_toArray, List.set_cons_zero, List.set_cons_succ]
    refine take_at (i := 11) (d := 53) (v := ?vy11) rfl (by rfl) (by kernel_rfl) (by kernel_rfl) (by kernel_rfl) (fun _ _ _ h => h) (Or.inl ⟨by rfl, ?hy11⟩) (by assumption) ?ry11
    case hy11 => intro w' hSw; obtain ⟨i0, i1, ⟨j0, j1, j2, j3, j4, j5, j6, j7, j8⟩, ⟨m0, m1, m2, m3, m4, m5, m6, m7, m8⟩⟩ := hSw; go_simp; (try with_reducible rfl)
    case' ry11 => simp only [Act.put, List.setIfInBounds_toArray, List.set_cons_zero, List.set_cons_succ]
    refine take_at (i := 12) (d := 54) (v := ?vy12) rfl (by rfl) (by kernel_rfl) (by kernel_rfl) (by kernel_rfl) (fun _ _ _ h => h) (Or.inl ⟨by rfl, ?hy12⟩) (by assumption) ?ry12
    case hy12 => intro w' hSw; obtain ⟨i0, i1, ⟨j0, j1, j2, j3, j4, j5, j6, j7, j8⟩, ⟨m0, m1, m2, m3, m4, m5, m6, m7, m8⟩⟩ := hSw; go_simp; (try with_reducible rfl)
    case' ry12 => simp only [Act.put, List.setIfInBounds_toArray, List.set_cons_zero, List.set_cons_succ]
    refine take_at (i := 13) (d := 55) (v := ?vy13) rfl (by rfl) (by kernel_rfl) (by kernel_rfl) (by kernel_rfl) (fun _ _ _ h => h) (Or.inl ⟨by rfl, ?hy13⟩) (by assumption) ?ry13
    case hy13 => intro w' hSw; obtain ⟨i0, i1, ⟨j0, j1, j2, j3, j4, j5, j6, j7, j8⟩, ⟨m0, m1, m2, m3, m4, m5, m6, m7, m8⟩⟩ := hSw; go_simp; (try with_reducible rfl)
    case' ry13 => simp only [Act.put, List.setIfInBounds_toArray, List.set_cons_zero, List.set_cons_succ]
    refine take_at (i := 14) (d := 56) (v := ?vy14) rfl (by rfl) (by kernel_rfl) (by kernel_rfl) (by kernel_rfl) (fun _ _ _ h => h) (Or.inl ⟨by rfl, ?hy14⟩) (by assumption) ?ry14
    case hy14 => intro w' hSw; obtain ⟨i0, i1, ⟨j0, j1, j2, j3, j4, j5, j6, j7, j8⟩, ⟨m0, m1, m2, m3, m4, m5, m6, m7, m8⟩⟩ := hSw; go_simp; (try with_reducible rfl)
    case' ry14 => simp only [Act.put, List.setIfInBounds_toArray, List.set_cons_zero, List.set_cons_succ]
    refine take_at (i := 15) (d := 57) (v := ?vy15) rfl (by rfl) (by kernel_rfl) (by kernel_rfl) (by kernel_rfl) (fun _ _ _ h => h) (Or.inl ⟨by rfl, ?hy15⟩) (by assumption) ?ry15
    case hy15 => intro w' hSw; obtain ⟨i0, i1, ⟨j0, j1, j2, j3, j4, j5, j6, j7, j8⟩, ⟨m0, m1, m2, m3, m4, m5, m6, m7, m8⟩⟩ := hSw; go_simp; (try with_reducible rfl)
    case' ry15 => simp only [Act.put, List.setIfInBounds_toArray, List.set_cons_zero, List.set_cons_succ]
    refine take_at (i := 16) (d := 58) (v := ?vy16) rfl (by rfl) (by kernel_rfl) (by kernel_rfl) (by kernel_rfl) (fun _ _ _ h => h) (Or.inl ⟨by rfl, ?hy16⟩) (by assumption) ?ry16
    case hy16 => intro w' hSw; obtain ⟨i0, i1, ⟨j0, j1, j2, j3, j4, j5, j6, j7, j8⟩, ⟨m0, m1, m2, m3, m4, m5, m6, m7, m8⟩⟩ := hSw; go_simp; (try with_reducible rfl)
    case' ry16 => simp only [Act.put, List.setIfInBounds_toArray, List.set_cons_zero, List.set_cons_succ]
    refine wpAnyH_ready (rs := [17]) (by kernel_rfl) (by simp) ?_
    refine AllReadyH.cons rfl (fun K hK => ?_) AllReadyH.nil
    go_simp
    go_at_call 14
    refine (sameProv_c ⟨nm, es, ag, p1, p2, p3, p4, ck, ct⟩ A Ay d cy _ (HOPS.out.below hdr) (HPY.out.ops.below hdr) HPY.out.len).mono ?_
    rintro e w9 ⟨rfl, hb9⟩
    have hS4 := SR.below hHeld (show nb < W.drew.heap.size from hltn) (show w1.heap.size < W.drew.heap.size from hltw) (show b8 < W.drew.heap.size from h2) (show b < W.drew.heap.size from hb) hb9
    refine hK.out _ _ hS4 (fun hHeld4 => ?_)
    clear hK K
    try simp only [Act.put, List.setIfInBounds_toArray, List.set_cons_zero, List.set_cons_succ]
    refine take_at (i := 18) (d := 60) (v := ?vy18) rfl (by rfl) (by kernel_rfl) (by kernel_rfl) (by kernel_rfl) (fun _ _ _ h => h) (Or.inl ⟨by rfl, ?hy18⟩) (by assumption) ?ry18
    case hy18 => intro w' hSw; obtain ⟨i0, i1, ⟨j0, j1, j2, j3, j4, j5, j6, j7, j8⟩, ⟨m0, m1, m2, m3, m4, m5, m6, m7, m8⟩⟩ := hSw; go_simp; (try with_reducible rfl)
    case' ry18 => simp only [Act.put, List.setIfInBounds_toArray, List.set_cons_zero, List.set_cons_succ]
    refine take_at (i := 19) (d := 61) (v := ?vy19) rfl (by rfl) (by kernel_rfl) (by kernel_rfl) (by kernel_rfl) (fun _ _ _ h => h) (Or.inl ⟨by rfl, ?hy19⟩) (by assumption) ?ry19
    case hy19 => intro w' hSw; obtain ⟨i0, i1, ⟨j0, j1, j2, j3, j4, j5, j6, j7, j8⟩, ⟨m0, m1, m2, m3, m4, m5, m6, m7, m8⟩⟩ := hSw; go_simp; (try with_reducible rfl)
    case' ry19 => simp only [Act.put, List.setIfInBounds_toArray, List.set_cons_zero, List.set_cons_succ]
    refine wpAnyH_done (by kernel_rfl) ?_ _
    have kn := hS4.1
    have hW4 : Below W.heap.size W w9 := hdr.trans hb9
    have hz4 : W.heap.size ≤ w9.heap.size := hW4.size
    have hzn : w9.frozen? ⟨nb, 0, none⟩ = false := (hW4.frozen (p := ⟨nb, 0, none⟩) hltn).trans hzn
    have HW4 := Lib.hid hW4
    clear hS4 hHeld hHeld4 hb9 hW4 hS0 hcn t0 e0 e1 e2 e3 e4 e5 e6 e7 e8 g0 g1 g2 g3 g4 g5 g6 g7 g8
    gi_wp2
    have hl256 := HPR.out.reg.len
    have hwr : wrap64 ((k : Int) + 1) = (k : Int) + 1 := by unfold wrap64; omega
    rw [hwr]
    have hb45 : Below nb W w9 := HW4.out.mono (Nat.le_of_lt hltn)
    have hb6 : Below nb W (w9.setCell ⟨nb, 0, none⟩ (.int .i64 ((k : Int) + 1))) := hb45.setCell (p := ⟨nb, 0, none⟩) (Nat.le_refl _) _
    refine ⟨⟨fun i hi hne => ?_, rfl, HBEL.out.trans hb6⟩, hb6, fun i o hi ho hoc => ?_⟩
    · have h6 := HBEL.out.size
      have h7 := HZ0.out
      have h8 : i < W0.heap.size := by omega
      rw [Below.heap_setCell w9 ⟨nb, 0, none⟩ _ i hne, HW4.out.block i (Nat.lt_of_lt_of_le h8 h6)]
      exact HFR.out i h8 hne
    · have hi4 : i < W.heap.size := (Array.getElem?_eq_some_iff.1 ho).1
      have h7 := HZ0.out
      rw [Below.heap_setCell w9 ⟨nb, 0, none⟩ _ i (by show i ≠ nb; omega), HW4.out.block i hi4]
      exact ho
  case h0 => exact ⟨fun _ _ _ => rfl, HN0.out, HF0.out, Below.refl _ _⟩
  case hdone =>
    intro D W hD ⟨hfr, hcn, hzn, hbel⟩ hdef
    have hnn := HNB.out
    have hb6 : Below w6.heap.size w6 W := by
      have h1 := HB60.out
      have h2 := hbel
      rw [HNB.out] at h1 h2
      exact h1.trans h2
    have h06 : w0.heap.size ≤ w6.heap.size := HW06.out.size
    have hw0W : Below w0.heap.size w0 W := HW06.out.trans (hb6.mono h06)
    have hsz0 : w0.heap.size = w.heap.size + 1 + 1 := by rw [HW0.out, al_size, al_size]
    have hzz := HZ0.out
    have hll := HLE.out
    have t0 : W.cell? ⟨w1.heap.size, 0, none⟩ = some (.slice V ys.length c) := (hb6.cell (p := ⟨w1.heap.size, 0, none⟩) (by have h6 := H16.out; show w1.heap.size < _; omega)).trans HTB6.out
    have t4 : W.cell? ⟨w.heap.size + 1, 0, none⟩ = some (.bool false) := by
      rw [hw0W.cell (p := ⟨w.heap.size + 1, 0, none⟩) (show w.heap.size + 1 < w0.heap.size by omega), HW0.out]
      go_simp
    have z4 : W.frozen? ⟨w.heap.size + 1, 0, none⟩ = false := by
      rw [hw0W.frozen (p := ⟨w.heap.size + 1, 0, none⟩) (show w.heap.size + 1 < w0.heap.size by omega), HW0.out]
      go_simp
    have hbw : Below w.heap.size w W := HB0.out.trans (hw0W.mono HB0.out.size)
    have hne : D ≠ w.heap.size + 1 := by have h6 := H06.out; omega
    have HBWW := Lib.hid hbw
    have HDEF := Lib.hid hdef
    have HDD := Lib.hid hD
    have HNE := Lib.hid hne
    have hwD : w.heap.size ≤ D := by have h6 := H06.out; omega
    have HWD := Lib.hid hwD
    clear hbw hdef hD hfr hbel hsz0 hw0W hb6 hne hwD h06 hnn
    gi_wp2
    have hdf : (W.setCell ⟨w.heap.size + 1, 0, none⟩ (.bool true)).heap[D]? = some (.deferred (some [])) := (Below.heap_setCell W ⟨w.heap.size + 1, 0, none⟩ (.bool true) D HNE.out).trans HDEF.out
    have hbf : Below w.heap.size w (W.setCell ⟨w.heap.size + 1, 0, none⟩ (.bool true)) := HBWW.out.setCell (p := ⟨w.heap.size + 1, 0, none⟩) (by show w.heap.size ≤ w.heap.size + 1; omega) _
    have hcf : (W.setCell ⟨w.heap.size + 1, 0, none⟩ (.bool true)).cell? ⟨w.heap.size + 1, 0, none⟩ = some (.bool true) := World.cell?_setCell_same _ _ _ t4
    generalize W.setCell ⟨w.heap.size + 1, 0, none⟩ (.bool true) = wf at *
    have hgp := grownBy_putObj' wf D (.deferred none)
    have hcp : (wf.putObj D (.deferred none)).cell? ⟨w.heap.size + 1, 0, none⟩ = some (.bool true) := cell_kept hcf hgp (fun r e => by cases e; exact ⟨_, hdf, rfl⟩)
    have hbp : Below w.heap.size w (wf.putObj D (.deferred none)) := hbf.grown hgp hbf.size (fun r e => by cases e; exact HWD.out)
    refine ⟨by simp, .inl ⟨_, _, rfl, run_takeDeferred hdf, ?_⟩⟩
    exact ⟨.bool true, by simp [results, Tryd.results5, go_sem, hcp]; try rfl, rfl, hbp⟩
end Go.Proofs.YtofmdmmgbfbaoaaDoor
