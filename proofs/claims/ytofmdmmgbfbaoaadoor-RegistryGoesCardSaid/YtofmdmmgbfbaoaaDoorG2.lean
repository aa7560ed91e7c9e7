/- Going over a registry: each. -/
import Derived.Test.YtofmdmmgbfbaoaaDoorG1
import Derived.Test.YtofmdmmgbfbaoaaDoorG3
namespace Go.Proofs.YtofmdmmgbfbaoaaDoor
open Go.RowKit Go.Maps Go.ChangeMaps Go.WideShapes Go.Shelf

attribute [local go_sem] Oper.semAt_some
theorem run_equalIn_func_nil {P : Program} (W : World) (d : Nat) (t : TypeId) {ps rs : Array TypeId} {vd : Bool} (h : P.underlying t = some (.func ps rs vd)) (f : Fn) (cap lb : Array Value) : (Op.equalIn (d + 1) t (.func f cap lb) .nilFunc).run P W = .ok false W := by
  simp [Op.equalIn, run_underlying h]
theorem run_eql_func_nil {P : Program} (W : World) (t : TypeId) {ps rs : Array TypeId} {vd : Bool} (h : P.underlying t = some (.func ps rs vd)) (f : Fn) (cap lb : Array Value) : (binOp .eql t (.func f cap lb) .nilFunc).run P W = .ok (.bool false) W := by
  simp only [binOp]
  simp [show Op.equal t (.func f cap lb) .nilFunc = Op.equalIn (9999 + 1) t (.func f cap lb) .nilFunc from rfl, run_equalIn_func_nil W 9999 t h f cap lb]
/-- What the round's comparison reads. -/
def SR (nb tb : Nat) (V : Option Addr) (N c k b8 : Nat) (r8 : PRow) (b o : Nat) (r : PRow) (W : World) : Prop := W.cell? ⟨nb, 0, none⟩ = some (.int .i64 (k : Int)) ∧ W.cell? ⟨tb, 0, none⟩ = some (.slice V N c) ∧ Nine W b8 r8 ∧ ProvOn W b o r
theorem SR.below {nb tb : Nat} {V : Option Addr} {N c k b8 : Nat} {r8 : PRow} {b o : Nat} {r : PRow} {W W' : World} (h : SR nb tb V N c k b8 r8 b o r W) (h1 : nb < W.heap.size) (h2 : tb < W.heap.size) (h3 : b8 < W.heap.size) (h4 : b < W.heap.size) (hb : Below W.heap.size W W') : SR nb tb V N c k b8 r8 b o r W' :=
  ⟨(hb.cell (p := ⟨nb, 0, none⟩) h1).trans h.1, (hb.cell (p := ⟨tb, 0, none⟩) h2).trans h.2.1, h.2.2.1.same fun o => hb.cell (p := ⟨b8, o, none⟩) h3, h.2.2.2.same fun o => hb.cell (p := ⟨b, o, none⟩) h4⟩
set_option maxHeartbeats 4000000 in
set_option maxRecDepth 100000 in
theorem each_c (w : World) (base rb mb : Nat) (v : Value) (gs : List PRow) (fz : Bool) (V : Option Addr) (c : Nat) (ys : List PRow) (h : Pair w base rb mb v gs fz V c ys) :
    Calls Tryd.prog 16 #[.pointer (some ⟨rb, 0, none⟩), .agg #[.slice V ys.length c, .bool fz]] w fun e w' => e = .returned (.bool true) ∧ Below w.heap.size w w' := by
  obtain ⟨VG, cg, hv, hpg⟩ := h.reg.row
  have hlen : ys.length = gs.length := by have := congrArg List.length h.eqs; simpa using this
  have hem := fun W (hb : Below w.heap.size w W) => eachM_c W base rb mb v gs VG cg hv (h.reg.below hb)
  obtain ⟨w0, hw0⟩ : ∃ w0 : World, w0 = (w.alloc (.cells #[.slice V ys.length c, .bool fz] 48)).alloc (.cells #[.bool false] 4) := ⟨_, rfl⟩
  have hb0 : Below w.heap.size w w0 := by rw [hw0]; exact ((Below.refl _ _).alloc (Nat.le_refl _) _).alloc (by simp) _
  have HEM := Lib.hid hem
  have HW0 := Lib.hid hw0
  have HB0 := Lib.hid hb0
  have HH := Lib.hid h
  have HPG := Lib.hid hpg
  have HLE := Lib.hid hlen
  clear hem hw0 hb0 h hpg hlen
  refine (callsIn_wide (n := 9)).1 ?_
  refine callsIn_of_wp_marks Tryd.func16 rfl trivial ?_ rfl
  simp only [Tryd.ntmps16, List.size_toArray, List.length_cons, List.length_nil, Nat.reduceAdd, Nat.reduceSub, Array.replicate_succ, Array.replicate_zero, List.push_toArray, List.append_toArray, List.nil_append, List.cons_append]
  gi_wp2_with (refine ⟨trivial, ?_⟩; rw [← HW0.out]; gi_at_call 17; refine (callsIn_wide.2 (HEM.out _ HB0.out)).mono ?_; rintro e w1 ⟨cc, rfl, hc1, hz1, hb1⟩)
  rw [run_eql_func_nil _ _ Tryd.underlying54]
  simp only [Result.andThen]
  gi_wp2
  obtain ⟨nb, hnb⟩ : ∃ nb : Nat, nb = w1.heap.size := ⟨_, rfl⟩
  obtain ⟨W0, hW0⟩ : ∃ W0 : World, W0 = w1.alloc (.cells #[.int .i64 0] 3) := ⟨_, rfl⟩
  have hz0 : W0.heap.size = nb + 1 := by rw [hW0, al_size, hnb]
  have hbW : Below w0.heap.size w0 W0 := by rw [hW0]; exact hb1.alloc hb1.size _
  have hn0 : W0.cell? ⟨nb, 0, none⟩ = some (.int .i64 0) := by rw [hW0, hnb, cell_new]; rfl
  have hf0 : W0.frozen? ⟨nb, 0, none⟩ = false := by rw [hW0, hnb]; simp
  have hcW : W0.cell? ⟨w0.heap.size, 0, none⟩ = some (.slice VG gs.length cc) := by
    rw [hW0]; exact (((Below.refl _ w1).alloc (Nat.le_refl _) _).cell (p := ⟨w0.heap.size, 0, none⟩) hz1).trans hc1
  rw [← hW0, ← hnb]
  have hs01 : w0.heap.size < nb := by rw [hnb]; exact hz1
  have hbw : Below w.heap.size w W0 := HB0.out.trans (hbW.mono HB0.out.size)
  have HW := Lib.hid hW0
  have HBW := Lib.hid hbw
  have HBW0 := Lib.hid hbW
  have HN0 := Lib.hid hn0
  have HF0 := Lib.hid hf0
  have HCW := Lib.hid hcW
  have HZ0 := Lib.hid hz0
  have HS01 := Lib.hid hs01
  clear hW0 hbw hbW hn0 hf0 hcW hz0 hs01 hnb hc1 hz1 hb1
  refine range_rounds (gf := 31) (lb := #[.pointer (some ⟨w0.heap.size, 0, none⟩)]) rfl (enters_of Tryd.func31 (by kernel_rfl) rfl) nb gs.length (by rw [HZ0.out]; omega)
    (fun k W1 args => ∃ (q : PRow) (A : Option Addr) (d : Nat), gs[k]? = some q ∧ args = #[.int .i64 (k : Int), q.p.val A d] ∧ W0.heap.size ≤ W1.heap.size ∧ W1.ownsRow W0.heap.size 58 4 (.slice A q.p.expr.length d) q.p.expr.length (opCells q.p.expr))
    (fun k W => (∀ i, i < W0.heap.size → i ≠ nb → W.heap[i]? = W0.heap[i]?) ∧ W.cell? ⟨nb, 0, none⟩ = some (.int .i64 (k : Int)) ∧ W.frozen? ⟨nb, 0, none⟩ = false ∧ Below nb W0 W)
    (fun k a' W => ∃ (b8 : Nat) (q : PRow) (A : Option Addr) (d : Nat), gs[k]? = some q ∧ a' = { tmps := #[.pointer (some ⟨rb, 0, none⟩), .agg #[.slice V ys.length c, .bool fz], undef, .pointer (some ⟨w.heap.size, 0, none⟩), .pointer (some ⟨w.heap.size + 1, 0, none⟩), .func (.func 31) #[] #[.pointer (some ⟨w0.heap.size, 0, none⟩)], .pointer (some ⟨nb, 0, none⟩), .int .i64 (k : Int), .pointer (some ⟨b8, 0, none⟩), .pointer (some ⟨rb, 0, none⟩), .func (.func 31) #[] #[.pointer (some ⟨w0.heap.size, 0, none⟩)], .func (.func 31) #[] #[.pointer (some ⟨w0.heap.size, 0, none⟩)], .bool false, .func (.func 31) #[] #[.pointer (some ⟨w0.heap.size, 0, none⟩)], .int .i64 (k : Int), q.p.val A d, undef, undef, undef, undef, undef, undef, undef, undef, undef, undef, undef, undef, undef, undef, undef, undef, undef, undef, undef, undef, undef, undef, undef, undef, undef, undef, undef, undef, undef, undef], defers := [] } ∧ W0.heap.size ≤ b8 ∧ b8 < W.heap.size ∧ Nine W b8 ⟨q.p, A, d⟩ ∧ W.ownsRow W0.heap.size 58 4 (.slice A q.p.expr.length d) q.p.expr.length (opCells q.p.expr) ∧ ∀ o, A ≠ some ⟨b8, o, none⟩)
    ?hRs ?hK ?hAx ?hiter ?hassign ?hbody ?h0 ?hdone
  case hRs => rintro k W args ⟨q, A, d, _, rfl, _⟩; rfl
  case hK =>
    rintro k A B row ⟨h1, h2, h3, h4⟩ hg hr
    have hzA : nb < A.heap.size := by have h5 := h4.size; have h6 := HZ0.out; omega
    have hne : ∀ i, i < W0.heap.size → row ≠ some i := fun i hi e => by have := hr i e; omega
    have hnb := hg.block nb hzA (fun e => hne nb (by rw [HZ0.out]; omega) e.symm)
    refine ⟨fun i hi hn => (hg.block i (by have := h4.size; omega) (fun e => hne i hi e.symm)).trans (h1 i hi hn), (World.cell?_of_block (a := ⟨nb, 0, none⟩) hnb).trans h2, ?_, h4.grown hg (by omega) (fun r e => by have := hr r e; have := HZ0.out; omega)⟩
    unfold World.frozen? at h3 ⊢
    rw [hnb]
    exact h3
  case hAx =>
    rintro k a' A B l ⟨b8, q, A', d, hgq, rfl, h1, h2, h3, h4, h5⟩ hg hl
    have hr : ∀ r, (some l : Option Nat) = some r → ∃ o : Obj, A.heap[r]? = some o ∧ o.isCells = false := fun r e => by cases e; exact hl
    refine ⟨b8, q, A', d, hgq, rfl, h1, Nat.lt_of_lt_of_le h2 hg.size, ?_, own_same h4 fun g hgb => hg.block g (h4.lt g hgb).2 (fun e => ?_), h5⟩
    · obtain ⟨n0, n1, n2, n3, n4, n5, n6, n7, n8⟩ := h3
      exact ⟨cell_kept n0 hg hr, cell_kept n1 hg hr, cell_kept n2 hg hr, cell_kept n3 hg hr, cell_kept n4 hg hr, cell_kept n5 hg hr, cell_kept n6 hg hr, cell_kept n7 hg hr, cell_kept n8 hg hr⟩
    · obtain ⟨o, ho, hoc⟩ := hl
      cases e
      rcases h4.2 with ⟨hv, _⟩ | ⟨g', cap, cur, hv, _, hh, _⟩
      · rw [hv] at hgb; simp [Value.ownBlock] at hgb
      · rw [hv] at hgb
        simp [Value.ownBlock] at hgb
        subst hgb
        rw [hh] at ho
        cases ho
        simp [Obj.isCells] at hoc
  case hiter =>
    intro l J W hb hJ hY h0
    have hps := HPG.out.below (HBW.out.trans (hb.mono HBW.out.size))
    have hwn : w.heap.size ≤ nb := by have h1 := HB0.out.size; have h2 := HS01.out; omega
    refine (iter_c 8 l w0.heap.size nb W0.heap.size (by omega) gs VG cc J W HH.out.reg.len HS01.out (by rw [HZ0.out]; omega) hb.size ((hb.cell (p := ⟨w0.heap.size, 0, none⟩) (by have h1 := HS01.out; have h2 := HZ0.out; show w0.heap.size < _; omega)).trans HCW.out) hps ?_ (fun q hq => ?_) hJ ?_ h0).mono fun e W' h => ⟨h.1, h.2.1⟩
    · rcases HPG.out.lies with h | ⟨b, off, e, hl, _⟩
      · exact .inl h
      · exact .inr fun g o e2 => by rw [e] at e2; cases e2; omega
    · exact (HPG.out.each q hq).blk.imp id fun h g o e => by have := h g o e; omega
    · intro k W1 A d hk hJ1 hB1 hown
      exact hY k W1 _ hk hJ1 ⟨gs[k], A, d, List.getElem?_eq_getElem hk, rfl, hB1, hown⟩
  case hassign =>
    rintro l k W args K' hK ⟨q, A, d, hgq, rfl, hs, hown⟩ hcont
    obtain ⟨⟨nm, es, ag, p1, p2, p3, p4, ck, ct⟩, A0, c0⟩ := q
    have HC := Lib.hid hcont
    have HO := Lib.hid hown
    have HGQ := Lib.hid hgq
    clear hcont hown hK hgq
    simp only [XProv.val] at *
    gi_wp2
    refine HC.out _ _ ((Below.refl _ _).alloc (Nat.le_refl _) _) ⟨W.heap.size, ⟨⟨nm, es, ag, p1, p2, p3, p4, ck, ct⟩, A0, c0⟩, A, d, HGQ.out, rfl, hs, by rw [al_size]; omega, ?_, HO.out.alloc _, fun o e => ?_⟩
    · refine ⟨?_, ?_, ?_, ?_, ?_, ?_, ?_, ?_, ?_⟩ <;> (rw [cell_new]; rfl)
    · have := (HO.out.lt W.heap.size (by rw [e]; rfl)).2
      omega
  case hbody =>
    rintro l k W a' hk ⟨hfr, hcn, hzn, hbel⟩ ⟨b8, q, A, d, hgq, rfl, h1, h2, h3, h4, h5⟩
    obtain ⟨⟨nm, es, ag, p1, p2, p3, p4, ck, ct⟩, A0, c0⟩ := q
    have hky : k < ys.length := by have := HLE.out; omega
    have hgk : gs[k] = ⟨⟨nm, es, ag, p1, p2, p3, p4, ck, ct⟩, A0, c0⟩ := by
      have := List.getElem?_eq_getElem hk
      rw [hgq] at this
      exact (Option.some.inj this).symm
    have hee : ys[k].p = ⟨nm, es, ag, p1, p2, p3, p4, ck, ct⟩ := by
      have := congrArg (·[k]?) HH.out.eqs
      simp [hky, hk, hgk] at this
      exact this
    have hwn : w.heap.size < nb := by have h1 := HB0.out.size; have h2 := HS01.out; omega
    have hww : ∀ i, i < w.heap.size → W.heap[i]? = w.heap[i]? := fun i hi => (hfr i (by have := HZ0.out; omega) (by omega)).trans (HBW.out.block i hi)
    have hsz : w.heap.size ≤ W.heap.size := by have h1 := hbel.size; have h2 := HZ0.out; omega
    have hbwW : Below w.heap.size w W := HBW.out.trans (hbel.mono (by omega))
    have hyW := HH.out.row.below hbwW
    rcases hyW.lies with h | ⟨b, off, rfl, hb, hc⟩
    · rw [h] at hky; simp at hky
    have hcy := hc k hky
    have hpy := hyW.each ys[k] (List.getElem_mem hky)
    generalize ys[k] = yk at *
    obtain ⟨yp, Ay, cy⟩ := yk
    simp only at hee
    subst hee
    obtain ⟨g0, g1, g2, g3, g4, g5, g6, g7, g8⟩ := hcy
    obtain ⟨e0, e1, e2, e3, e4, e5, e6, e7, e8⟩ := h3
    have hsz0 : w0.heap.size = w.heap.size + 2 := by rw [HW0.out, al_size, al_size]
    have t0 : W.cell? ⟨w.heap.size, 0, none⟩ = some (.slice (some ⟨b, off, none⟩) ys.length c) := by
      have h6 := hfr w.heap.size (by have := HZ0.out; omega) (by omega)
      rw [World.cell?_of_block (a := ⟨w.heap.size, 0, none⟩) h6, HBW0.out.cell (p := ⟨w.heap.size, 0, none⟩) (show w.heap.size < w0.heap.size by omega), HW0.out]
      go_simp
    have hi0 : (0 : Int) ≤ (k : Int) := Int.natCast_nonneg _
    have hi1 : (k : Int) < (ys.length : Int) := by omega
    have hops := own_at h4
    have HOPS := Lib.hid hops
    have HPY := Lib.hid hpy
    have HOWN := Lib.hid h4
    have HFR := Lib.hid hfr
    have HBEL := Lib.hid hbel
    have HNE := Lib.hid h5
    have HWN := Lib.hid hwn
    simp only [XProv.val] at *
    clear hyW hc hpy hops h4 hfr hbel h5 hgk hgq hww hbwW
    gi_wp2
    have hS0 : SR nb w.heap.size (some ⟨b, off, none⟩) ys.length c k b8 ⟨⟨nm, es, ag, p1, p2, p3, p4, ck, ct⟩, A, d⟩ b (off + k * 9) ⟨⟨nm, es, ag, p1, p2, p3, p4, ck, ct⟩, Ay, cy⟩ W := ⟨hcn, t0, ⟨e0, e1, e2, e3, e4, e5, e6, e7, e8⟩, ⟨g0, g1, g2, g3, g4, g5, g6, g7, g8⟩⟩
    have hdr : Below W.heap.size W W.drew := (Below.refl _ _).drew
    have hnle : ¬ ys.length ≤ k := by omega
    have hltn : nb < W.heap.size := by have h6 := HBEL.out.size; have h7 := HZ0.out; omega
    have hltw : w.heap.size < W.heap.size := by have h6 := HWN.out; omega
    refine region_in_round 20 rfl (SR nb w.heap.size (some ⟨b, off, none⟩) ys.length c k b8 ⟨⟨nm, es, ag, p1, p2, p3, p4, ck, ct⟩, A, d⟩ b (off + k * 9) ⟨⟨nm, es, ag, p1, p2, p3, p4, ck, ct⟩, Ay, cy⟩) (by kernel_rfl) (by kernel_rfl) ?hno hS0 (fun hHeld => ?_)
    case hno =>
      rintro ⟨a, w, h⟩
      exact absurd h.1 (by simp)
    refine take_at (i := 0) (d := 16) (v := ?vy0) rfl (by rfl) (by kernel_rfl) (by kernel_rfl) (by kernel_rfl) (fun _ _ _ h => h) (Or.inl ⟨by rfl, ?hy0⟩) (by assumption) ?ry0
    case hy0 => intro w' hSw; obtain ⟨i0, i1, ⟨j0, j1, j2, j3, j4, j5, j6, j7, j8⟩, ⟨m0, m1, m2, m3, m4, m5, m6, m7, m8⟩⟩ := hSw; go_simp; (try with_reducible rfl)
    case' ry0 => simp only [Act.put, List.setIfInBounds_toArray, List.set_cons_zero, List.set_cons_succ]
    refine take_at (i := 1) (d := 17) (v := ?vy1) rfl (by rfl) (by kernel_rfl) (by kernel_rfl) (by kernel_rfl) (fun _ _ _ h => h) (Or.inl ⟨by rfl, ?hy1⟩) (by assumption) ?ry1
    case hy1 => intro w' hSw; obtain ⟨i0, i1, ⟨j0, j1, j2, j3, j4, j5, j6, j7, j8⟩, ⟨m0, m1, m2, m3, m4, m5, m6, m7, m8⟩⟩ := hSw; go_simp; (try with_reducible rfl)
    case' ry1 => simp only [Act.put, List.setIfInBounds_toArray, List.set_cons_zero, List.set_cons_succ]
    refine take_at (i := 2) (d := 18) (v := ?vy2) rfl (by rfl) (by kernel_rfl) (by kernel_rfl) (by kernel_rfl) (fun _ _ _ h => h) (Or.inl ⟨by rfl, ?hy2⟩) (by assumption) ?ry2
    case hy2 => intro w' hSw; obtain ⟨i0, i1, ⟨j0, j1, j2, j3, j4, j5, j6, j7, j8⟩, ⟨m0, m1, m2, m3, m4, m5, m6, m7, m8⟩⟩ := hSw; go_simp; (try with_reducible rfl)
    case' ry2 => simp only [Act.put, List.setIfInBounds_toArray, List.set_cons_zero, List.set_cons_succ]
    refine take_at (i := 3) (d := 19) (v := ?vy3) rfl (by rfl) (by kernel_rfl) (by kernel_rfl) (by kernel_rfl) (fun _ _ _ h => h) (Or.inl ⟨by rfl, ?hy3⟩) (by assumption) ?ry3
    case hy3 => intro w' hSw; obtain ⟨i0, i1, ⟨j0, j1, j2, j3, j4, j5, j6, j7, j8⟩, ⟨m0, m1, m2, m3, m4, m5, m6, m7, m8⟩⟩ := hSw; go_simp; (try with_reducible rfl)
    case' ry3 => simp only [Act.put, List.setIfInBounds_toArray, List.set_cons_zero, List.set_cons_succ]
    refine take_at (i := 4) (d := 20) (v := ?vy4) rfl (by rfl) (by kernel_rfl) (by kernel_rfl) (by kernel_rfl) (fun _ _ _ h => h) (Or.inl ⟨by rfl, ?hy4⟩) (by assumption) ?ry4
    case hy4 => intro w' hSw; obtain ⟨i0, i1, ⟨j0, j1, j2, j3, j4, j5, j6, j7, j8⟩, ⟨m0, m1, m2, m3, m4, m5, m6, m7, m8⟩⟩ := hSw; go_simp; (try with_reducible rfl)
    case' ry4 => simp only [Act.put, List.setIfInBounds_toArray, List.set_cons_zero, List.set_cons_succ]
    refine take_at (i := 5) (d := 21) (v := ?vy5) rfl (by rfl) (by kernel_rfl) (by kernel_rfl) (by kernel_rfl) (fun _ _ _ h => h) (Or.inl ⟨by rfl, ?hy5⟩) (by assumption) ?ry5
    case hy5 => intro w' hSw; obtain ⟨i0, i1, ⟨j0, j1, j2, j3, j4, j5, j6, j7, j8⟩, ⟨m0, m1, m2, m3, m4, m5, m6, m7, m8⟩⟩ := hSw; go_simp; (try with_reducible rfl)
    case' ry5 => simp only [Act.put, List.setIfInBounds_toArray, List.set_cons_zero, List.set_cons_succ]
    refine take_at (i := 6) (d := 22) (v := ?vy6) rfl (by rfl) (by kernel_rfl) (by kernel_rfl) (by kernel_rfl) (fun _ _ _ h => h) (Or.inl ⟨by rfl, ?hy6⟩) (by assumption) ?ry6
    case hy6 => intro w' hSw; obtain ⟨i0, i1, ⟨j0, j1, j2, j3, j4, j5, j6, j7, j8⟩, ⟨m0, m1, m2, m3, m4, m5, m6, m7, m8⟩⟩ := hSw; go_simp; (try with_reducible rfl)
    case' ry6 => simp only [Act.put, List.setIfInBounds_toArray, List.set_cons_zero, List.set_cons_succ]
    refine take_at (i := 7) (d := 23) (v := ?vy7) rfl (by rfl) (by kernel_rfl) (by kernel_rfl) (by kernel_rfl) (fun _ _ _ h => h) (Or.inl ⟨by rfl, ?hy7⟩) (by assumption) ?ry7
    case hy7 => intro w' hSw; obtain ⟨i0, i1, ⟨j0, j1, j2, j3, j4, j5, j6, j7, j8⟩, ⟨m0, m1, m2, m3, m4, m5, m6, m7, m8⟩⟩ := hSw; go_simp; (try with_reducible rfl)
    case' ry7 => simp only [Act.put, List.setIfInBounds_toArray, List.set_cons_zero, List.set_cons_succ]
    refine take_at (i := 8) (d := 24) (v := ?vy8) rfl (by rfl) (by kernel_rfl) (by kernel_rfl) (by kernel_rfl) (fun _ _ _ h => h) (Or.inl ⟨by rfl, ?hy8⟩) (by assumption) ?ry8
    case hy8 => intro w' hSw; obtain ⟨i0, i1, ⟨j0, j1, j2, j3, j4, j5, j6, j7, j8⟩, ⟨m0, m1, m2, m3, m4, m5, m6, m7, m8⟩⟩ := hSw; go_simp; (try with_reducible rfl)
    case' ry8 => simp only [Act.put, List.setIfInBounds_toArray, List.set_cons_zero, List.set_cons_succ]
    refine take_at (i := 9) (d := 25) (v := ?vy9) rfl (by rfl) (by kernel_rfl) (by kernel_rfl) (by kernel_rfl) (fun _ _ _ h => h) (Or.inl ⟨by rfl, ?hy9⟩) (by assumption) ?ry9
    case hy9 => intro w' hSw; obtain ⟨i0, i1, ⟨j0, j1, j2, j3, j4, j5, j6, j7, j8⟩, ⟨m0, m1, m2, m3, m4, m5, m6, m7, m8⟩⟩ := hSw; go_simp; (try with_reducible rfl)
    case' ry9 => simp only [Act.put, List.setIfInBounds_toArray, List.set_cons_zero, List.set_cons_succ]
    refine take_at (i := 10) (d := 26) (v := ?vy10) rfl (by rfl) (by kernel_rfl) (by kernel_rfl) (by kernel_rfl) (fun _ _ _ h => h) (Or.inl ⟨by rfl, ?hy10⟩) (by assumption) ?ry10
    case hy10 => intro w' hSw; obtain ⟨i0, i1, ⟨j0, j1, j2, j3, j4, j5, j6, j7, j8⟩, ⟨m0, m1, m2, m3, m4, m5, m6, m7, m8⟩⟩ := hSw; go_simp; (try with_reducible rfl)
    case' ry10 => simp only [Act.put, List.setIfInBounds_toArray, List.set_cons_zero, List.set_cons_succ]
    refine take_at (i := 11) (d := 27) (v := ?vy11) rfl (by rfl) (by kernel_rfl) (by kernel_rfl) (by kernel_rfl) (fun _ _ _ h => h) (Or.inl ⟨by rfl, ?hy11⟩) (by assumption) ?ry11
    case hy11 => intro w' hSw; obtain ⟨i0, i1, ⟨j0, j1, j2, j3, j4, j5, j6, j7, j8⟩, ⟨m0, m1, m2, m3, m4, m5, m6, m7, m8⟩⟩ := hSw; go_simp; (try with_reducible rfl)
    case' ry11 => simp only [Act.put, List.setIfInBounds_toArray, List.set_cons_zero, List.set_cons_succ]
    refine take_at (i := 12) (d := 28) (v := ?vy12) rfl (by rfl) (by kernel_rfl) (by kernel_rfl) (by kernel_rfl) (fun _ _ _ h => h) (Or.inl ⟨by rfl, ?hy12⟩) (by assumption) ?ry12
    case hy12 => intro w' hSw; obtain ⟨i0, i1, ⟨j0, j1, j2, j3, j4, j5, j6, j7, j8⟩, ⟨m0, m1, m2, m3, m4, m5, m6, m7, m8⟩⟩ := hSw; go_simp; (try with_reducible rfl)
    case' ry12 => simp only [Act.put, List.setIfInBounds_toArray, List.set_cons_zero, List.set_cons_succ]
    refine take_at (i := 13) (d := 29) (v := ?vy13) rfl (by rfl) (by kernel_rfl) (by kernel_rfl) (by kernel_rfl) (fun _ _ _ h => h) (Or.inl ⟨by rfl, ?hy13⟩) (by assumption) ?ry13
    case hy13 => intro w' hSw; obtain ⟨i0, i1, ⟨j0, j1, j2, j3, j4, j5, j6, j7, j8⟩, ⟨m0, m1, m2, m3, m4, m5, m6, m7, m8⟩⟩ := hSw; go_simp; (try with_reducible rfl)
    case' ry13 => simp only [Act.put, List.setIfInBounds_toArray, List.set_cons_zero, List.set_cons_succ]
    refine take_at (i := 14) (d := 30) (v := ?vy14) rfl (by rfl) (by kernel_rfl) (by kernel_rfl) (by kernel_rfl) (fun _ _ _ h => h) (Or.inl ⟨by rfl, ?hy14⟩) (by assumption) ?ry14
    case hy14 => intro w' hSw; obtain ⟨i0, i1, ⟨j0, j1, j2, j3, j4, j5, j6, j7, j8⟩, ⟨m0, m1, m2, m3, m4, m5, m6, m7, m8⟩⟩ := hSw; go_simp; (try with_reducible rfl)
    case' ry14 => simp only [Act.put, List.setIfInBounds_toArray, List.set_cons_zero, List.set_cons_succ]
    refine take_at (i := 15) (d := 31) (v := ?vy15) rfl (by rfl) (by kernel_rfl) (by kernel_rfl) (by kernel_rfl) (fun _ _ _ h => h) (Or.inl ⟨by rfl, ?hy15⟩) (by assumption) ?ry15
    case hy15 => intro w' hSw; obtain ⟨i0, i1, ⟨j0, j1, j2, j3, j4, j5, j6, j7, j8⟩, ⟨m0, m1, m2, m3, m4, m5, m6, m7, m8⟩⟩ := hSw; go_simp; (try with_reducible rfl)
    case' ry15 => simp only [Act.put, List.setIfInBounds_toArray, List.set_cons_zero, List.set_cons_succ]
    refine take_at (i := 16) (d := 32) (v := ?vy16) rfl (by rfl) (by kernel_rfl) (by kernel_rfl) (by kernel_rfl) (fun _ _ _ h => h) (Or.inl ⟨by rfl, ?hy16⟩) (by assumption) ?ry16
    case hy16 => intro w' hSw; obtain ⟨i0, i1, ⟨j0, j1, j2, j3, j4, j5, j6, j7, j8⟩, ⟨m0, m1, m2, m3, m4, m5, m6, m7, m8⟩⟩ := hSw; go_simp; (try with_reducible rfl)
    case' ry16 => simp only [Act.put, List.setIfInBounds_toArray, List.set_cons_zero, List.set_cons_succ]
    refine wpAnyH_ready (rs := [17]) (by kernel_rfl) (by simp) ?_
    refine AllReadyH.cons rfl (fun K hK => ?_) AllReadyH.nil
    go_simp
    go_at_call 14
    refine (sameProv_c ⟨nm, es, ag, p1, p2, p3, p4, ck, ct⟩ A Ay d cy _ (HOPS.out.below hdr) (HPY.out.ops.below hdr) HPY.out.len).mono ?_
    rintro e w4 ⟨rfl, hb4⟩
    have hS4 := SR.below hHeld (show nb < W.drew.heap.size from hltn) (show w.heap.size < W.drew.heap.size from hltw) (show b8 < W.drew.heap.size from h2) (show b < W.drew.heap.size from hb) hb4
    refine hK.out _ _ hS4 (fun hHeld4 => ?_)
    clear hK K
    try simp only [Act.put, List.setIfInBounds_toArray, List.set_cons_zero, List.set_cons_succ]
    refine take_at (i := 18) (d := 34) (v := ?vy18) rfl (by rfl) (by kernel_rfl) (by kernel_rfl) (by kernel_rfl) (fun _ _ _ h => h) (Or.inl ⟨by rfl, ?hy18⟩) (by assumption) ?ry18
    case hy18 => intro w' hSw; obtain ⟨i0, i1, ⟨j0, j1, j2, j3, j4, j5, j6, j7, j8⟩, ⟨m0, m1, m2, m3, m4, m5, m6, m7, m8⟩⟩ := hSw; go_simp; (try with_reducible rfl)
    case' ry18 => simp only [Act.put, List.setIfInBounds_toArray, List.set_cons_zero, List.set_cons_succ]
    refine take_at (i := 19) (d := 35) (v := ?vy19) rfl (by rfl) (by kernel_rfl) (by kernel_rfl) (by kernel_rfl) (fun _ _ _ h => h) (Or.inl ⟨by rfl, ?hy19⟩) (by assumption) ?ry19
    case hy19 => intro w' hSw; obtain ⟨i0, i1, ⟨j0, j1, j2, j3, j4, j5, j6, j7, j8⟩, ⟨m0, m1, m2, m3, m4, m5, m6, m7, m8⟩⟩ := hSw; go_simp; (try with_reducible rfl)
    case' ry19 => simp only [Act.put, List.setIfInBounds_toArray, List.set_cons_zero, List.set_cons_succ]
    refine wpAnyH_done (by kernel_rfl) ?_ _
    have k1 := hS4.2.2.1.2.1
    have kn := hS4.1
    have hW4 : Below W.heap.size W w4 := hdr.trans hb4
    have hown4 := own_below HOWN.out hW4
    have hsp := spoil_c w4 W0.heap.size A es.length d (opCells es) hown4
    have hz4 : W.heap.size ≤ w4.heap.size := hW4.size
    have hzn : w4.frozen? ⟨nb, 0, none⟩ = false := (hW4.frozen (p := ⟨nb, 0, none⟩) hltn).trans hzn
    have hzz := HZ0.out
    have HSP := Lib.hid hsp
    have HW4 := Lib.hid hW4
    have HOW4 := Lib.hid hown4
    have HKN := Lib.hid kn
    have HZN := Lib.hid hzn
    clear hS4 hHeld hHeld4 hb4 hsp hW4 hown4 kn hzn hS0 hcn t0 e0 e1 e2 e3 e4 e5 e6 e7 e8 g0 g1 g2 g3 g4 g5 g6 g7 g8
    gi_wp2_with (first | (refine ⟨trivial, ?_⟩; gi_at_call 27; refine (CallsIn.inRound l (callsIn_wide.2 HSP.out)).mono ?_; rintro e w5 ⟨rfl, hb5, hz5, hk5⟩; have cn5 := (hb5.cell (p := ⟨nb, 0, none⟩) (by show nb < W0.heap.size; omega)).trans HKN.out; have zn5 := (hb5.frozen (p := ⟨nb, 0, none⟩) (by show nb < W0.heap.size; omega)).trans HZN.out; have HB5 := Lib.hid hb5; have HZ5 := Lib.hid hz5; have HK5 := Lib.hid hk5; clear hb5 hz5 hk5))
    have hl256 := HH.out.reg.len
    have hwr : wrap64 ((k : Int) + 1) = (k : Int) + 1 := by unfold wrap64; omega
    rw [hwr]
    have hnn : nb ≤ W0.heap.size := by have := HZ0.out; omega
    have hb45 : Below nb W w5 := (HW4.out.mono (Nat.le_of_lt hltn)).trans (HB5.out.mono hnn)
    have hb6 : Below nb W (w5.setCell ⟨nb, 0, none⟩ (.int .i64 ((k : Int) + 1))) := hb45.setCell (p := ⟨nb, 0, none⟩) (Nat.le_refl _) _
    refine ⟨⟨fun i hi hne => ?_, rfl, HBEL.out.trans hb6⟩, hb6, fun i o hi ho hoc => ?_⟩
    · have h6 := HBEL.out.size
      have h7 := HZ0.out
      have h8 : i < W0.heap.size := by omega
      rw [Below.heap_setCell w5 ⟨nb, 0, none⟩ _ i hne, HB5.out.block i h8, HW4.out.block i (Nat.lt_of_lt_of_le h8 h6)]
      exact HFR.out i (by omega) hne
    · have hi4 : i < W.heap.size := (Array.getElem?_eq_some_iff.1 ho).1
      have hA : ∀ o', A ≠ some ⟨i, o', none⟩ := by
        intro o' e
        rcases HOWN.out.2 with ⟨hv', _⟩ | ⟨g', cap, cur, hv', _, hh, _⟩
        · rw [(Value.slice.inj hv').1] at e; cases e
        · rw [(Value.slice.inj hv').1] at e
          cases e
          rw [hh] at ho
          cases ho
          simp [Obj.isCells] at hoc
      rw [Below.heap_setCell w5 ⟨nb, 0, none⟩ _ i (by show i ≠ nb; omega), HK5.out i (by omega) hA, HW4.out.block i hi4]
      exact ho
  case h0 => exact ⟨fun _ _ _ => rfl, HN0.out, HF0.out, Below.refl _ _⟩
  case hdone =>
    intro D W hD ⟨hfr, hcn, hzn, hbel⟩ hdef
    have hwn : w.heap.size < nb := by have h1 := HB0.out.size; have h2 := HS01.out; omega
    have hsz0 : w0.heap.size = w.heap.size + 1 + 1 := by rw [HW0.out, al_size, al_size]
    have hzz := HZ0.out
    have hns := HS01.out
    have hll := HLE.out
    have hkeep : ∀ i, i < w0.heap.size → W.heap[i]? = w0.heap[i]? := fun i hi => (hfr i (by omega) (by omega)).trans (HBW0.out.block i hi)
    have t0 : W.cell? ⟨w.heap.size, 0, none⟩ = some (.slice V ys.length c) := by
      rw [World.cell?_of_block (a := ⟨w.heap.size, 0, none⟩) (hkeep w.heap.size (by omega)), HW0.out]
      go_simp
    have t4 : W.cell? ⟨w.heap.size + 1, 0, none⟩ = some (.bool false) := by
      rw [World.cell?_of_block (a := ⟨w.heap.size + 1, 0, none⟩) (hkeep (w.heap.size + 1) (by omega)), HW0.out]
      go_simp
    have z4 : W.frozen? ⟨w.heap.size + 1, 0, none⟩ = false := by
      have hb' := hkeep (w.heap.size + 1) (by omega)
      unfold World.frozen?
      rw [hb', HW0.out]
      have h9 : (((w.alloc (.cells #[.slice V ys.length c, .bool fz] 48)).alloc (.cells #[.bool false] 4))).frozen? ⟨w.heap.size + 1, 0, none⟩ = false := by go_simp
      exact h9
    have hbw : Below w.heap.size w W := HBW.out.trans (hbel.mono (by omega))
    have HBWW := Lib.hid hbw
    have HDEF := Lib.hid hdef
    have HDD := Lib.hid hD
    clear hbw hdef hD hfr hkeep hbel hsz0
    gi_wp2
    have hne : ∀ D', W0.heap.size ≤ D' → D' ≠ w.heap.size + 1 := fun D' h => by omega
    have hdf : (W.setCell ⟨w.heap.size + 1, 0, none⟩ (.bool true)).heap[D]? = some (.deferred (some [])) := (Below.heap_setCell W ⟨w.heap.size + 1, 0, none⟩ (.bool true) D (hne D HDD.out)).trans HDEF.out
    have hbf : Below w.heap.size w (W.setCell ⟨w.heap.size + 1, 0, none⟩ (.bool true)) := HBWW.out.setCell (p := ⟨w.heap.size + 1, 0, none⟩) (by show w.heap.size ≤ w.heap.size + 1; omega) _
    have hcf : (W.setCell ⟨w.heap.size + 1, 0, none⟩ (.bool true)).cell? ⟨w.heap.size + 1, 0, none⟩ = some (.bool true) := World.cell?_setCell_same _ _ _ t4
    generalize W.setCell ⟨w.heap.size + 1, 0, none⟩ (.bool true) = wf at *
    have hgp := grownBy_putObj' wf D (.deferred none)
    have hcp : (wf.putObj D (.deferred none)).cell? ⟨w.heap.size + 1, 0, none⟩ = some (.bool true) := cell_kept hcf hgp (fun r e => by cases e; exact ⟨_, hdf, rfl⟩)
    have hbp : Below w.heap.size w (wf.putObj D (.deferred none)) := hbf.grown hgp hbf.size (fun r e => by cases e; have := HDD.out; omega)
    refine ⟨by simp, .inl ⟨_, _, rfl, run_takeDeferred hdf, ?_⟩⟩
    exact ⟨.bool true, by simp [results, Tryd.results16, go_sem, hcp]; try rfl, rfl, hbp⟩
end Go.Proofs.YtofmdmmgbfbaoaaDoor
