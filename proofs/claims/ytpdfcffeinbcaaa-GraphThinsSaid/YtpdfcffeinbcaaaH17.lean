/- Turn: the document's. -/
import Derived.Test.YtpdfcffeinbcaaaH16
import Derived.Test.YtpdfcffeinbcaaaM1
namespace Go.Proofs.Ytpdfcffeinbcaaa
open Go.RowKit
theorem keep4a {w : World} {a b c d : Addr} {u v z y : Value} {o : Obj} (h : w.cell? a = some u ∧ w.cell? b = some v ∧ w.cell? c = some z ∧ w.cell? d = some y) : (w.alloc o).cell? a = some u ∧ (w.alloc o).cell? b = some v ∧ (w.alloc o).cell? c = some z ∧ (w.alloc o).cell? d = some y :=
  have f : ∀ {p : Addr} {u : Value}, w.cell? p = some u → (w.alloc o).cell? p = some u := fun h => (World.cell?_alloc_lt _ _ _ (World.block_lt_of_cell? w _ h)).trans h
  ⟨f h.1, f h.2.1, f h.2.2.1, f h.2.2.2⟩
theorem edgeCells_snoc (l : List (Int × Int)) (e : Int × Int) : edgeCells (l ++ [e]) = edgeCells l ++ [.int .i64 e.1, .int .i64 e.2] := by unfold edgeCells; rw [List.flatMap_append]; rfl
/-- As far as the document's Turn has come. -/
structure TR (w W : World) (g : XG) (E : Option Addr) (d tb j : Nat) (v : Value) : Prop where
  hb : w.heap.size + 2 ≤ tb
  rb : RB w W g E d
  t0 : W.cell? ⟨tb, 0, none⟩ = some (.int .i64 g.n)
  t1 : W.cell? ⟨tb, 1, none⟩ = some v
  tz : W.frozen? ⟨tb, 1, none⟩ = false
  own : W.ownsRow (tb + 1) 51 2 v j (edgeCells ((g.es.take j).map swp))
  lt : tb < W.heap.size
theorem grown_of1 {wr w5 : World} {o : Obj} {r : Option Nat} (h : (wr.alloc o).drew.grownBy w5 r) : wr.grownBy w5 r :=
  ⟨h.os, h.tape, h.output, by have := h.size; have h2 : (wr.alloc o).heap.size ≤ w5.heap.size := this; rw [al_size] at h2; omega, fun k hk hne => by
    rw [h.block k (by show k < (wr.alloc o).heap.size; rw [al_size]; omega) hne]
    exact heap_alloc_old _ _ hk⟩
theorem tr_start {w W : World} {g : XG} {E : Option Addr} {d : Nat} {t : TypeId} (h : RB w W g E d) : TR w (W.alloc (.cells #[.int .i64 g.n, .slice none 0 0] t)) g E d W.heap.size 0 (.slice none 0 0) :=
  have hl := h.lt
  ⟨by omega, h.below ((Below.refl _ _).alloc (Nat.le_refl _) _), by rw [cell_new]; rfl, by rw [cell_new]; rfl, frozen_new _ _ _ _, ⟨rfl, .inl ⟨rfl, rfl⟩⟩, by rw [al_size]; omega⟩
theorem TR.next {w W w5 : World} {g : XG} {E : Option Addr} {d tb j : Nat} {v v5 : Value} {x y : Int} {o : Obj} (h : TR w W g E d tb j v) (hj : j < g.es.length) (hx : x = g.es[j].1) (hy : y = g.es[j].2)
    (ho : w5.ownsRow (tb + 1) 51 2 v5 (j + 1) (edgeCells ((g.es.take j).map swp) ++ [.int .i64 y, .int .i64 x])) (hg : (W.alloc o).drew.grownBy w5 v.ownBlock) :
    TR w (w5.setCell ⟨tb, 1, none⟩ v5) g E d tb (j + 1) v5 := by
  have hvl : ∀ q, v.ownBlock = some q → tb + 1 ≤ q := fun q e => (h.own.lt q e).1
  have hlt := h.lt
  have htb := h.hb
  have hrl := h.rb.lt
  have hsz : W.heap.size + 1 ≤ w5.heap.size := by have := hg.size; have h2 : (W.alloc o).heap.size ≤ w5.heap.size := this; rwa [al_size] at h2
  have hbl : ∀ k, k < tb + 1 → k < W.heap.size → w5.heap[k]? = W.heap[k]? := fun k hk hk2 => by
    rw [hg.block k (by show k < (W.alloc o).heap.size; rw [al_size]; omega) (fun e => by have := hvl k e.symm; omega)]
    exact heap_alloc_old _ _ hk2
  have hc : ∀ (k i : Nat), k < tb + 1 → k < W.heap.size → w5.cell? ⟨k, i, none⟩ = W.cell? ⟨k, i, none⟩ := fun k i hk hk2 => World.cell?_of_block (a := ⟨k, i, none⟩) (hbl k hk hk2)
  have hf : ∀ (k i : Nat), k < tb + 1 → k < W.heap.size → w5.frozen? ⟨k, i, none⟩ = W.frozen? ⟨k, i, none⟩ := fun k i hk hk2 => frozen_block (a := ⟨k, i, none⟩) (hbl k hk hk2)
  have far : ∀ (k i : Nat), k < tb → (w5.setCell ⟨tb, 1, none⟩ v5).cell? ⟨k, i, none⟩ = W.cell? ⟨k, i, none⟩ := fun k i hk => by
    rw [World.cell?_setCell_other _ _ _ _ (fun e => by cases e; omega)]
    exact hc k i (by omega) (by omega)
  have hgW : W.grownBy w5 v.ownBlock := grown_of1 hg
  have hb : Below w.heap.size w (w5.setCell ⟨tb, 1, none⟩ v5) := (h.rb.bel.grown hgW h.rb.bel.size (fun k e => by have := hvl k e; omega)).setCell (by show w.heap.size ≤ tb; omega) _
  refine ⟨h.hb, ⟨(far _ _ (by omega)).trans h.rb.c0, (far _ _ (by omega)).trans h.rb.c1, (far _ _ (by omega)).trans h.rb.r0, (far _ _ (by omega)).trans h.rb.r1, fun o => ?_, hb, ?_⟩, ?_, ?_, ?_, ?_, ?_⟩
  · rw [World.frozen?_setCell, hf _ _ (by omega) (by omega)]; exact h.rb.rz o
  · simp only [World.size_setCell]; omega
  · rw [set_far _ _ _ _ _ (by omega), hc _ _ (by omega) (by omega)]; exact h.t0
  · exact set_here _ _ _ _ v ((hc _ _ (by omega) (by omega)).trans h.t1)
  · rw [World.frozen?_setCell, hf _ _ (by omega) (by omega)]; exact h.tz
  · have e : (g.es.take (j + 1)).map swp = (g.es.take j).map swp ++ [(y, x)] := by
      rw [List.take_succ_eq_append_getElem hj, List.map_append, hx, hy]; rfl
    rw [e, edgeCells_snoc]
    exact own_low ho _ _ (by show tb < tb + 1; omega)
  · simp only [World.size_setCell]; omega
set_option maxHeartbeats 2000000 in
set_option maxRecDepth 100000 in
theorem rTurn_c (g : XG) (E : Option Addr) (d : Nat) (w : World) (h : GAt w E g) (hl : g.es.length ≤ 4611686018427387904) :
    Calls Try.prog 22 #[g.val E d] w (TurnPost g w) := by
  have hck := fun W h => rcheck_c g E d W h hl
  have hrb := rb_start w g E d (t := 24) (t' := 24)
  have hv : g.val E d = .agg #[.int .i64 g.n, .slice E g.es.length d] := rfl
  rw [hv] at hck ⊢
  obtain ⟨i0, hi, hzz⟩ := Option.map_eq_some_iff.1 info_edge
  simp only [Prod.mk.injEq] at hzz
  have HI := Lib.hid hi
  have HZ := Lib.hid hzz
  have HCK0 := Lib.hid hck
  have HG := Lib.hid h
  obtain ⟨kk, hkk⟩ : ∃ kk, kk = chkF g := ⟨_, rfl⟩
  have HKK := Lib.hid hkk
  clear hck hv h hkk hi hzz
  go_enter Try.func22, Try.ntmps22
  go_wp2_with fail
  go_at_call 15
  refine (HCK0.out _ (HG.out.below hrb.bel)).mono ?_
  rintro e w1 ⟨rfl, hb1⟩
  have hrb1 := hrb.below hb1
  rw [← HKK.out]
  have c0 := hrb1.c0
  have c1 := hrb1.c1
  have HRB := Lib.hid hrb1
  clear hrb hb1
  by_cases hk : kk = 0
  · subst hk
    have hg := chkF_good.1 HKK.out.symm
    obtain ⟨m, hm⟩ : ∃ m, m = g.es.length := ⟨_, rfl⟩
    rw [← hm] at c1 ⊢
    have hm2 : m ≤ 16384 := by have := hg.len; omega
    have HGD := Lib.hid hg
    have HM := Lib.hid hm
    clear hg hrb1 hm
    go_wp2
    have htr := tr_start (t := 24) HRB.out
    obtain ⟨tb, htb⟩ : ∃ tb, tb = w1.heap.size := ⟨_, rfl⟩
    rw [← htb] at htr ⊢
    have HTR := Lib.hid htr
    clear htb htr c0 c1
    go_loopw [6] (fun i wr => ∃ (j : Nat) (v : Value), i = .int .i64 j ∧ j ≤ m ∧ TR w wr g E d tb j v) (fun i _ => m - (intOf i).toNat)
    case atStart => exact ⟨0, _, rfl, by omega, HTR.out⟩
    case round =>
      obtain ⟨j, vx, rfl, hj, htr⟩ := hrel
      by_cases hlt : j < m
      · have hj0 : (0 : Int) ≤ (j : Int) := by omega
        have hj1 : (j : Int) < (m : Int) := by omega
        have hjl : j < g.es.length := by have := HM.out; omega
        obtain ⟨b, off, rfl, hbl, ha, hb⟩ := HG.out.edge hjl
        obtain ⟨x, hx⟩ : ∃ x, x = g.es[j].1 := ⟨_, rfl⟩
        obtain ⟨y, hy⟩ : ∃ y, y = g.es[j].2 := ⟨_, rfl⟩
        rw [← hx] at ha
        rw [← hy] at hb
        have ha2 := (htr.rb.bel.cell (p := ⟨b, off + j * 2, none⟩) hbl).trans ha
        have hb2 := (htr.rb.bel.cell (p := ⟨b, off + j * 2 + 1, none⟩) hbl).trans hb
        have c1 := htr.rb.c1
        rw [← HM.out] at c1
        have tl := htr.lt
        have htb2 := htr.hb
        have HCE := Lib.hid (And.intro c1 (And.intro htr.t1 (And.intro ha2 hb2)))
        have HFZ := Lib.hid htr.tz
        have hoa : ∀ o, (wr.alloc o).drew.ownsRow (tb + 1) 51 2 vx j (edgeCells ((g.es.take j).map swp)) := fun o => own_drew (htr.own.alloc _)
        have hrd : Reads (wr.alloc (.cells #[.int .i64 y, .int .i64 x] 51)).drew (wr.heap.size + 1) 2 (some ⟨wr.heap.size, 0, none⟩) 1 [.int .i64 y, .int .i64 x] := by
          have := reads_new wr [.int .i64 y, .int .i64 x] 51 2 rfl
          rw [al_size] at this
          exact this.drew
        have hck : ∀ o w5, (wr.alloc o).drew.grownBy w5 vx.ownBlock → ∀ p : Addr, p.block < tb + 1 → w5.cell? p = wr.cell? p ∧ w5.frozen? p = wr.frozen? p := fun o w5 hg p hp => by
          have h1 := (grown_of1 hg).block p.block (by omega) (fun e => by have := (htr.own.lt _ e.symm).1; omega)
          exact ⟨World.cell?_of_block h1, frozen_block h1⟩
        have HOA := Lib.hid hoa
        have HRD := Lib.hid hrd
        have HCK := Lib.hid hck
        have HTR2 := Lib.hid htr
        have HX := Lib.hid hx
        have HY := Lib.hid hy
        have ct1 := htr.t1
        clear hoa hrd hck htr hx hy ha hb
        go_wp2_with fail
        refine region_heldL (L := 18) (S := (fun w' => w'.cell? ⟨w.heap.size, 1, none⟩ = some (.slice (some ⟨b, off, none⟩) m d) ∧ w'.cell? ⟨tb, 1, none⟩ = some vx ∧ w'.cell? ⟨b, off + j * 2, none⟩ = some (.int .i64 x) ∧ w'.cell? ⟨b, off + j * 2 + 1, none⟩ = some (.int .i64 y))) (by kernel_rfl) ?xs (fun hHeld => ?xr)
        case xs => exact HCE.out
        refine takeL (i := 0) (d := 23) (v := ?xv0) rfl (by rfl) (by kernel_rfl) (by kernel_rfl) (by kernel_rfl) (by kernel_rfl) (by rfl) (fun _ _ _ h => h) (Or.inl ⟨by rfl, ?xy0⟩) (by assumption) ?xr0
        case xy0 => intro w' hSw; obtain ⟨q1, q2, q3, q4⟩ := hSw; go_simp; (try with_reducible rfl)
        case' xr0 => simp only [Act.put, List.setIfInBounds_toArray, List.set_cons_zero, List.set_cons_succ]
        refine takeL (i := 1) (d := 24) (v := ?xv1) rfl (by rfl) (by kernel_rfl) (by kernel_rfl) (by kernel_rfl) (by kernel_rfl) (by rfl) (fun _ _ _ h => h) (Or.inl ⟨by rfl, ?xy1⟩) (by assumption) ?xr1
        case xy1 => intro w' hSw; obtain ⟨q1, q2, q3, q4⟩ := hSw; go_simp; (try with_reducible rfl)
        case' xr1 => simp only [Act.put, List.setIfInBounds_toArray, List.set_cons_zero, List.set_cons_succ]
        refine takeL (i := 2) (d := 25) (v := ?xv2) rfl (by rfl) (by kernel_rfl) (by kernel_rfl) (by kernel_rfl) (by kernel_rfl) (by rfl) (fun _ _ _ h => h) (Or.inl ⟨by rfl, ?xy2⟩) (by assumption) ?xr2
        case xy2 => intro w' hSw; obtain ⟨q1, q2, q3, q4⟩ := hSw; go_simp; (try with_reducible rfl)
        case' xr2 => simp only [Act.put, List.setIfInBounds_toArray, List.set_cons_zero, List.set_cons_succ]
        refine takeL (i := 3) (d := 26) (v := ?xv3) rfl (by rfl) (by kernel_rfl) (by kernel_rfl) (by kernel_rfl) (by kernel_rfl) (by rfl) (fun _ _ _ h => h) (Or.inl ⟨by rfl, ?xy3⟩) (by assumption) ?xr3
        case xy3 => intro w' hSw; obtain ⟨q1, q2, q3, q4⟩ := hSw; go_simp; (try with_reducible rfl)
        case' xr3 => simp only [Act.put, List.setIfInBounds_toArray, List.set_cons_zero, List.set_cons_succ]
        refine takeL (i := 4) (d := 27) (v := ?xv4) rfl (by rfl) (by kernel_rfl) (by kernel_rfl) (by kernel_rfl) (by kernel_rfl) (by rfl) (fun _ _ _ h => h) (Or.inl ⟨by rfl, ?xy4⟩) (by assumption) ?xr4
        case xy4 => intro w' hSw; obtain ⟨q1, q2, q3, q4⟩ := hSw; go_simp; (try with_reducible rfl)
        case' xr4 => simp only [Act.put, List.setIfInBounds_toArray, List.set_cons_zero, List.set_cons_succ]
        refine takeL (i := 5) (d := 28) (v := ?xv5) rfl (by rfl) (by kernel_rfl) (by kernel_rfl) (by kernel_rfl) (by kernel_rfl) (by rfl) (fun _ _ _ h => h) (Or.inl ⟨by rfl, ?xy5⟩) (by assumption) ?xr5
        case xy5 => intro w' hSw; obtain ⟨q1, q2, q3, q4⟩ := hSw; go_simp; (try with_reducible rfl)
        case' xr5 => simp only [Act.put, List.setIfInBounds_toArray, List.set_cons_zero, List.set_cons_succ]
        refine takeL (i := 6) (d := 29) (v := ?xv6) rfl (by rfl) (by kernel_rfl) (by kernel_rfl) (by kernel_rfl) (by kernel_rfl) (by rfl) (fun _ _ _ h => h) (Or.inl ⟨by rfl, ?xy6⟩) (by assumption) ?xr6
        case xy6 => intro w' hSw; obtain ⟨q1, q2, q3, q4⟩ := hSw; go_simp; (try with_reducible rfl)
        case' xr6 => simp only [Act.put, List.setIfInBounds_toArray, List.set_cons_zero, List.set_cons_succ]
        refine takeL (i := 7) (d := 30) (v := ?xv7) rfl (by rfl) (by kernel_rfl) (by kernel_rfl) (by kernel_rfl) (by kernel_rfl) (by rfl) (fun _ _ _ h => h) (Or.inl ⟨by rfl, ?xy7⟩) (by assumption) ?xr7
        case xy7 => intro w' hSw; obtain ⟨q1, q2, q3, q4⟩ := hSw; go_simp; (try with_reducible rfl)
        case' xr7 => simp only [Act.put, List.setIfInBounds_toArray, List.set_cons_zero, List.set_cons_succ]
        refine takeL (i := 8) (d := 31) (v := ?xv8) rfl (by rfl) (by kernel_rfl) (by kernel_rfl) (by kernel_rfl) (by kernel_rfl) (by rfl) (fun _ _ _ h => h) (Or.inl ⟨by rfl, ?xy8⟩) (by assumption) ?xr8
        case xy8 => intro w' hSw; obtain ⟨q1, q2, q3, q4⟩ := hSw; go_simp; (try with_reducible rfl)
        case' xr8 => simp only [Act.put, List.setIfInBounds_toArray, List.set_cons_zero, List.set_cons_succ]
        refine takeL (i := 9) (d := 32) (v := ?xv9) rfl (by rfl) (by kernel_rfl) (by kernel_rfl) (by kernel_rfl) (by kernel_rfl) (by rfl) (fun _ _ _ h => h) (Or.inl ⟨by rfl, ?xy9⟩) (by assumption) ?xr9
        case xy9 => intro w' hSw; obtain ⟨q1, q2, q3, q4⟩ := hSw; go_simp; (try with_reducible rfl)
        case' xr9 => simp only [Act.put, List.setIfInBounds_toArray, List.set_cons_zero, List.set_cons_succ]
        refine takeL (i := 10) (d := 33) (v := ?xv10) rfl (by rfl) (by kernel_rfl) (by kernel_rfl) (by kernel_rfl) (by kernel_rfl) (by rfl) (fun _ _ _ h => h) (Or.inl ⟨by rfl, ?xy10⟩) (by assumption) ?xr10
        case xy10 => intro w' hSw; obtain ⟨q1, q2, q3, q4⟩ := hSw; go_simp; (try with_reducible rfl)
        case' xr10 => simp only [Act.put, List.setIfInBounds_toArray, List.set_cons_zero, List.set_cons_succ]
        refine takeL (i := 11) (d := 34) (v := ?xv11) rfl (by rfl) (by kernel_rfl) (by kernel_rfl) (by kernel_rfl) (by kernel_rfl) (by rfl) (fun _ _ _ h => h) (Or.inl ⟨by rfl, ?xy11⟩) (by assumption) ?xr11
        case xy11 => intro w' hSw; obtain ⟨q1, q2, q3, q4⟩ := hSw; go_simp; (try with_reducible rfl)
        case' xr11 => simp only [Act.put, List.setIfInBounds_toArray, List.set_cons_zero, List.set_cons_succ]
        refine takeL (i := 12) (d := 35) (v := ?xv12) rfl (by rfl) (by kernel_rfl) (by kernel_rfl) (by kernel_rfl) (by kernel_rfl) (by rfl) (fun _ _ _ h => h) (Or.inl ⟨by rfl, ?xy12⟩) (by assumption) ?xr12
        case xy12 => intro w' hSw; obtain ⟨q1, q2, q3, q4⟩ := hSw; go_simp; (try with_reducible rfl)
        case' xr12 => simp only [Act.put, List.setIfInBounds_toArray, List.set_cons_zero, List.set_cons_succ]
        refine takeL (i := 13) (d := 36) (v := ?xv13) rfl (by rfl) (by kernel_rfl) (by kernel_rfl) (by kernel_rfl) (by kernel_rfl) (by rfl) (fun _ _ _ h => h) (Or.inl ⟨by rfl, ?xy13⟩) (by assumption) ?xr13
        case xy13 => intro w' hSw; obtain ⟨q1, q2, q3, q4⟩ := hSw; go_simp; (try with_reducible rfl)
        case' xr13 => simp only [Act.put, List.setIfInBounds_toArray, List.set_cons_zero, List.set_cons_succ]
        refine takeL (i := 14) (d := 37) (v := ?xv14) rfl (by rfl) (by kernel_rfl) (by kernel_rfl) (by kernel_rfl) (by kernel_rfl) (by rfl) (fun _ _ _ h => h) (Or.inl ⟨by rfl, ?xy14⟩) (by assumption) ?xr14
        case xy14 => intro w' hSw; obtain ⟨q1, q2, q3, q4⟩ := hSw; go_simp; (try with_reducible rfl)
        case' xr14 => simp only [Act.put, List.setIfInBounds_toArray, List.set_cons_zero, List.set_cons_succ]
        refine stepL (i := 15) (by kernel_rfl) rfl (fun K hK => ?xb15)
        go_simp
        refine hK.out _ _ ?xh15 (fun hHeld => ?xr15)
        case xh15 => exact keep4a hHeld
        case' xr15 => (clear hK K; try simp only [Act.put, List.setIfInBounds_toArray, List.set_cons_zero, List.set_cons_succ])
        refine stepL (i := 16) (by kernel_rfl) rfl (fun K hK => ?xb16)
        refine step_append_any _ (by rfl) _ _ 22 (by rfl) (tb + 1) 51 i0 (.agg #[.int .i64 0, .int .i64 0]) 2 16 Try.underlying22 HI.out HZ.out.1 HZ.out.2.1 HZ.out.2.2 rfl (by decide) vx _ _ (by rfl) (HOA.out _) _ (some ⟨wr.heap.size, 0, none⟩) 1 1 [.int .i64 y, .int .i64 x] (by rfl) HRD.out (by simp [Value.oneCell']) (by simp only [maxLen]; omega) (by omega) (by show tb + 1 ≤ (wr.alloc _).heap.size; rw [al_size]; omega) ?_
        intro v5 w5 hown5 hg5 hat5
        obtain ⟨g5, cap5, hv5, hg50, hg51⟩ := hown5.form (Nat.succ_pos _)
        subst hv5
        have HC5 := HCK.out _ w5 hg5
        obtain ⟨e51, z51⟩ := HC5 ⟨tb, 1, none⟩ (by show tb < _; omega)
        refine hK.out _ _ ?xh16 (fun hHeld => ?xr16)
        case xh16 => exact ⟨(HC5 _ (by show w.heap.size < _; omega)).1.trans HCE.out.1, e51.trans HCE.out.2.1, (HC5 _ (by show b < _; omega)).1.trans HCE.out.2.2.1, (HC5 _ (by show b < _; omega)).1.trans HCE.out.2.2.2⟩
        case' xr16 => (clear hK K; try simp only [Act.put, List.setIfInBounds_toArray])
        refine takeL (i := 17) (d := 40) (v := ?xv17) rfl (by rfl) (by kernel_rfl) (by kernel_rfl) (by kernel_rfl) (by kernel_rfl) (by rfl) (fun _ _ _ h => h) (Or.inl ⟨by rfl, ?xy17⟩) (by assumption) ?xr17
        case xy17 => intro w' hSw; obtain ⟨q1, q2, q3, q4⟩ := hSw; go_simp; (try with_reducible rfl)
        case' xr17 => simp only [Act.put]
        refine lastL (by kernel_rfl) rfl (by kernel_rfl) (fun K hK => ?xb18)
        have z51' := z51.trans HFZ.out
        have e51' := e51.trans HCE.out.2.1
        clear e51 z51 HC5
        go_simp
        refine hK.out _ _ ?xz
        go_wp2
        go_roundw
        case rel => exact ⟨j + 1, _, by go_num, by omega, HTR2.out.next hjl HX.out HY.out hown5 hg5⟩
        case measure => simp [intOf]; omega
      · have hge : ¬ (j : Int) < (m : Int) := by omega
        have c1 := htr.rb.c1
        rw [← HM.out] at c1
        have t0 := htr.t0
        have t1 := htr.t1
        have r0 := htr.rb.r0
        have r1 := htr.rb.r1
        have rz := htr.rb.rz 0
        have rz1 := htr.rb.rz 1
        obtain ⟨X, dX, rfl, hrow, _⟩ := own_rowS htr.own
        have htk : g.es.take j = g.es := List.take_of_length_le (by have := HM.out; omega)
        obtain rfl : j = m := by omega
        have HTR2 := Lib.hid htr
        have HTK := Lib.hid htk
        clear htr hrow htk
        go_wp2
        obtain ⟨f0, f1⟩ := HTR2.out.rb.reads (.int .i64 g.n) (.slice X j dX)
        refine bodyPost_ret (v := .tuple #[.agg #[.int .i64 g.n, .slice X j dX], .int .i64 0]) (by simp [results, Try.results22, go_sem, f0, f1]; try rfl) rfl ?_
        have ht : turnG g = ⟨g.n, g.es.map swp⟩ := by unfold turnG; rw [if_pos HKK.out.symm]
        have hb := HTR2.out.hb
        have ho := own_low (own_low HTR2.out.own ⟨w.heap.size + 1, 0, none⟩ (.int .i64 g.n) (by show w.heap.size + 1 < tb + 1; omega)) ⟨w.heap.size + 1, 1, none⟩ (.slice X j dX) (by show w.heap.size + 1 < tb + 1; omega)
        rw [HTK.out] at ho
        obtain ⟨X', d', hv', hrow, _⟩ := own_rowS ho
        cases hv'
        unfold TurnPost
        rw [ht, ← HKK.out]
        refine ⟨X, dX, ?_, hrow, HTR2.out.rb.wrote _ _⟩
        unfold XG.val; rw [List.length_map, ← HM.out]
  · have hkb : (kk != 0) = true := by simpa using hk
    have r0 := hrb1.r0
    have r1 := hrb1.r1
    have rz := hrb1.rz 0
    have rz1 := hrb1.rz 1
    clear hrb1
    go_wp2
    obtain ⟨f0, f1⟩ := HRB.out.reads (.int .i64 0) (.slice none 0 0)
    refine bodyPost_ret (v := .tuple #[.agg #[.int .i64 0, .slice none 0 0], .int .i64 kk]) (by simp [results, Try.results22, go_sem, f0, f1]; try rfl) rfl ?_
    have ht : turnG g = ⟨0, []⟩ := by unfold turnG; rw [if_neg (by rw [← HKK.out]; exact hk)]
    unfold TurnPost
    rw [ht, ← HKK.out]
    exact ⟨none, 0, rfl, .inl rfl, HRB.out.wrote _ _⟩
end Go.Proofs.Ytpdfcffeinbcaaa
