/- Where all nodes lead: the walk. -/
import Derived.Test.YtpdfcffeinbcaaaH2
import Derived.Test.YtpdfcffeinbcaaaM1
import Derived.Deep.RegionLaw
import Derived.Deep.OwnRows
namespace Go.Proofs.Ytpdfcffeinbcaaa
open Go.RowKit
theorem tgt_next (es : List (Int × Int)) (j : Nat) (h : j < es.length) (i : Int) : tgt (es.take (j + 1)) i = if es[j].1 = i then tgt (es.take j) i ++ [es[j].2] else tgt (es.take j) i := by
  rw [List.take_succ_eq_append_getElem h]
  exact tgt_snoc _ _ _ _
theorem grown_of2 {wr w5 : World} {o o2 : Obj} {r : Option Nat} (h : ((wr.alloc o).alloc o2).drew.grownBy w5 r) : wr.grownBy w5 r :=
  ⟨h.os, h.tape, h.output, by have := h.size; have h2 : ((wr.alloc o).alloc o2).heap.size ≤ w5.heap.size := this; rw [al_size, al_size] at h2; omega, fun k hk hne => by
    rw [h.block k (by show k < ((wr.alloc o).alloc o2).heap.size; rw [al_size, al_size]; omega) hne]
    exact (heap_alloc_old _ _ (by rw [al_size]; omega)).trans (heap_alloc_old _ _ hk)⟩
theorem keep2 {w : World} {a b c : Addr} {u v z : Value} (h : w.cell? a = some u ∧ w.cell? b = some v) (hne : c.block ≠ a.block ∧ c.block ≠ b.block) : (w.setCell c z).cell? a = some u ∧ (w.setCell c z).cell? b = some v :=
  ⟨(World.cell?_setCell_other _ _ _ _ (fun e => hne.1 (by rw [e]))).trans h.1, (World.cell?_setCell_other _ _ _ _ (fun e => hne.2 (by rw [e]))).trans h.2⟩
theorem keep2a {w : World} {a b : Addr} {u v : Value} {o : Obj} (h : w.cell? a = some u ∧ w.cell? b = some v) : (w.alloc o).cell? a = some u ∧ (w.alloc o).cell? b = some v :=
  ⟨(World.cell?_alloc_lt _ _ _ (World.block_lt_of_cell? w _ h.1)).trans h.1, (World.cell?_alloc_lt _ _ _ (World.block_lt_of_cell? w _ h.2)).trans h.2⟩
theorem keep3a {w : World} {a b c : Addr} {u v z : Value} {o : Obj} (h : w.cell? a = some u ∧ w.cell? b = some v ∧ w.cell? c = some z) : (w.alloc o).cell? a = some u ∧ (w.alloc o).cell? b = some v ∧ (w.alloc o).cell? c = some z :=
  ⟨(World.cell?_alloc_lt _ _ _ (World.block_lt_of_cell? w _ h.1)).trans h.1, (World.cell?_alloc_lt _ _ _ (World.block_lt_of_cell? w _ h.2.1)).trans h.2.1, (World.cell?_alloc_lt _ _ _ (World.block_lt_of_cell? w _ h.2.2)).trans h.2.2⟩
theorem nx_round {n j x : Nat} {es : List (Int × Int)} {w wr w5 : World} {rows : Nat → Value} {y : Int} {vx v5 : Value} {o o2 : Obj} (hlt : j < es.length) (hxn : x < n)
    (htn : ∀ i : Int, tgt (es.take (j + 1)) i = if (x : Int) = i then tgt (es.take j) i ++ [y] else tgt (es.take j) i) (h : NxAt n (w.heap.size + 1) wr rows (fun k => tgt (es.take j) k)) (hb : Below w.heap.size w wr)
    (hc : wr.cell? ⟨w.heap.size, 0, none⟩ = some (.int .i64 (n : Int))) (hvx : vx = rows x) (ho : w5.ownsRow (w.heap.size + 1 + 1) 3 1 v5 ((tgt (es.take j) x).length + 1) (I (tgt (es.take j) x) ++ [.int .i64 y])) (hg : ((wr.alloc o).alloc o2).drew.grownBy w5 vx.ownBlock)
    (hat : v5.ownBlock = vx.ownBlock ∨ v5.ownBlock = some (((wr.alloc o).alloc o2).drew.heap.size)) :
    ∃ (j' : Nat) (rows' : Nat → Value), Value.int .i64 ((j : Int) + 1) = .int .i64 j' ∧ j' ≤ es.length ∧ NxAt n (w.heap.size + 1) (w5.setCell ⟨w.heap.size + 1, x, none⟩ v5) rows' (fun k => tgt (es.take j') k) ∧ Below w.heap.size w (w5.setCell ⟨w.heap.size + 1, x, none⟩ v5) ∧
      (w5.setCell ⟨w.heap.size + 1, x, none⟩ v5).cell? ⟨w.heap.size, 0, none⟩ = some (.int .i64 (n : Int)) := by
  subst hvx
  have hg2 := grown_of2 hg
  have hrl : ∀ k, (rows x).ownBlock = some k → w.heap.size + 1 + 1 ≤ k := fun k e => ((h.2.2.1 x hxn).2.lt k e).1
  have hob := h.1
  have htx := htn x
  rw [if_pos rfl] at htx
  have ho2 : w5.ownsRow (w.heap.size + 1 + 1) 3 1 v5 (tgt (es.take (j + 1)) x).length (I (tgt (es.take (j + 1)) x)) := by
    have e : I (tgt (es.take j) x ++ [y]) = I (tgt (es.take j) x) ++ [.int .i64 y] := List.map_append
    rw [htx, List.length_append, e]
    exact ho
  have hp := h.put hxn ho2 hg2 (fun g e => by
    rcases hat with h5 | h5
    · exact .inl (h5 ▸ e)
    · rw [h5] at e
      cases e
      right
      show wr.heap.size ≤ ((wr.alloc o).alloc o2).heap.size
      rw [al_size, al_size]; omega)
  refine ⟨j + 1, _, by go_num, by omega, hp.congr (fun i hi => ?_), (hb.grown hg2 hb.size (fun k e => by have := hrl k e; omega)).setCell (by show w.heap.size ≤ w.heap.size + 1; omega) _, ?_⟩
  · by_cases e : i = x
    · subst e; rw [upd_same]
    · rw [upd_far _ _ e, htn, if_neg (by omega)]
  · rw [World.cell?_setCell_other _ _ _ _ (by simp)]
    exact (World.cell?_of_block (a := ⟨w.heap.size, 0, none⟩) (hg2.block w.heap.size (by omega) (fun e => by have := hrl _ e.symm; omega))).trans hc
set_option maxHeartbeats 4000000 in
set_option maxRecDepth 100000 in
theorem next_c (g : XG) (E : Option Addr) (d : Nat) (w : World) (h : GAt w E g) (hg : Good g) :
    Calls Try.prog 48 #[g.val E d] w fun e w' => ∃ v, e = .returned v ∧ NextAt w' w.heap.size v g.n.toNat (fun i => nxt g i) ∧ Below w.heap.size w w' := by
  obtain ⟨n, hn⟩ : ∃ n : Nat, g.n = n := ⟨g.n.toNat, by have := hg.n0; omega⟩
  have hn4 : n ≤ 4096 := by have := hg.n1; omega
  have hlen := hg.len
  have hv : g.val E d = .agg #[.int .i64 (n : Int), .slice E g.es.length d] := by unfold XG.val; rw [hn]
  rw [hv, hn, Int.toNat_natCast]
  have hmk : ∀ W : World, (Instr.makeSlice 45 (.int .i64 (n : Int)) (.int .i64 (n : Int))).run Try.prog W = .ok (.slice (some ⟨W.heap.size, 0, none⟩) n n) (W.alloc (.cells (madeCells #[.slice none 0 0] n) 25)) :=
    fun W => run_make_row' 45 25 (.slice none 0 0) 24 Try.underlying45 info_ints rfl .i64 .i64 n (by omega) (by omega) W
  obtain ⟨i0, hi, hzz⟩ := Option.map_eq_some_iff.1 info_int
  simp only [Prod.mk.injEq] at hzz
  have HI := Lib.hid hi
  have HZ := Lib.hid hzz
  have HG := Lib.hid h
  have HGD := Lib.hid hg
  have HN := Lib.hid hn
  clear hi hzz h hg hn hv
  go_enter Try.func48, Try.ntmps48
  go_wp2
  obtain ⟨w0, hw0⟩ : ∃ w0, w0 = w.alloc (.cells #[.int .i64 (n : Int), .slice E g.es.length d] 24) := ⟨_, rfl⟩
  have c0 : w0.cell? ⟨w.heap.size, 0, none⟩ = some (.int .i64 (n : Int)) := by rw [hw0, cell_new]; rfl
  have hz0 : w0.heap.size = w.heap.size + 1 := by rw [hw0, al_size]
  have hnx0 := nx_made w0 n
  have hb0 : Below w.heap.size w (w0.alloc (.cells (madeCells #[.slice none 0 0] n) 25)) := by rw [hw0]; exact ((Below.refl _ _).alloc (Nat.le_refl _) _).alloc (by simp) _
  rw [← hw0]
  rw [hz0] at hnx0
  obtain ⟨w1, hw1⟩ : ∃ w1, w1 = w0.alloc (.cells (madeCells #[.slice none 0 0] n) 25) := ⟨_, rfl⟩
  have c1 : w1.cell? ⟨w.heap.size, 0, none⟩ = some (.int .i64 (n : Int)) := by rw [hw1]; exact (World.cell?_alloc_lt _ _ _ (by show w.heap.size < _; omega)).trans c0
  rw [← hw1] at hb0 hnx0 ⊢
  have HNX0 := Lib.hid hnx0
  have HB0 := Lib.hid hb0
  have HC1 := Lib.hid c1
  clear hw0 hw1 hz0 hnx0 hb0 c0 c1
  go_loopw [13] (fun i wr => ∃ (j : Nat) (rows : Nat → Value), i = .int .i64 j ∧ j ≤ g.es.length ∧ NxAt n (w.heap.size + 1) wr rows (fun k => tgt (g.es.take j) k) ∧ Below w.heap.size w wr ∧ wr.cell? ⟨w.heap.size, 0, none⟩ = some (.int .i64 (n : Int))) (fun i _ => g.es.length - (intOf i).toNat)
  case atStart => exact ⟨0, _, rfl, by omega, HNX0.out, HB0.out, HC1.out⟩
  case round =>
    obtain ⟨j, rows, rfl, hj, hnx, hbel, hcn⟩ := hrel
    by_cases hlt : j < g.es.length
    · have hj0 : (0 : Int) ≤ (j : Int) := by omega
      have hj1 : (j : Int) < (g.es.length : Int) := by omega
      obtain ⟨b, off, rfl, hbl, ha, hb⟩ := (HG.out.below hbel).edge hlt
      have hall := HGD.out.all _ (List.getElem_mem hlt)
      have htn := tgt_next g.es j hlt
      obtain ⟨x, hx⟩ : ∃ x : Nat, (x : Int) = g.es[j].1 := ⟨g.es[j].1.toNat, by omega⟩
      obtain ⟨y, hy⟩ : ∃ y, y = g.es[j].2 := ⟨_, rfl⟩
      rw [← hx] at ha hall htn
      rw [← hy] at hb htn
      have hxn : x < n := by have := HN.out; omega
      have hx0 : (0 : Int) ≤ (x : Int) := by omega
      have hx1 : (x : Int) < (n : Int) := by omega
      obtain ⟨hcx, hox⟩ := hnx.2.2.1 x hxn
      have hfz := hnx.2.1 x
      have hob := hnx.1
      have HTN := Lib.hid htn
      have HNX := Lib.hid hnx
      have HBE := Lib.hid hbel
      have HOX := Lib.hid hox
      have HCN := Lib.hid hcn
      have hzr : w.heap.size < wr.heap.size := by omega
      obtain ⟨vx, hvx⟩ : ∃ vx, vx = rows x := ⟨_, rfl⟩
      rw [← hvx] at hcx
      have HVX := Lib.hid hvx
      clear htn hnx hbel hox hcn hx hy hall hvx
      have hoa : ∀ o o2, ((wr.alloc o).alloc o2).drew.ownsRow (w.heap.size + 1 + 1) 3 1 (rows x) (tgt (g.es.take j) x).length (I (tgt (g.es.take j) x)) := fun o o2 => own_drew ((HOX.out.alloc _).alloc _)
      have hrd : ∀ o, Reads ((wr.alloc o).alloc (.cells #[.int .i64 y] 3)).drew (wr.heap.size + 1 + 1) 1 (some ⟨wr.heap.size + 1, 0, none⟩) 1 [.int .i64 y] := fun o => by
        have := reads_new (wr.alloc o) [.int .i64 y] 3 1 rfl
        rw [al_size, al_size] at this
        exact this.drew
      have htl : (tgt (g.es.take j) x).length ≤ 16384 := by have := tgt_length (g.es.take j) x; rw [List.length_take] at this; omega
      have hc5 : ∀ w5, ((wr.alloc (.cells #[.int .i64 (x : Int), .int .i64 y] 51)).alloc (.cells #[.int .i64 y] 3)).drew.grownBy w5 (rows x).ownBlock → (w5.cell? ⟨wr.heap.size, 0, none⟩ = some (.int .i64 (x : Int)) ∧ w5.cell? ⟨wr.heap.size, 1, none⟩ = some (.int .i64 y)) ∧ w5.cell? ⟨w.heap.size + 1, x, none⟩ = some (rows x) ∧ w5.frozen? ⟨w.heap.size + 1, x, none⟩ = false := fun w5 hg => by
        have hne : (rows x).ownBlock ≠ some (w.heap.size + 1) := fun e => by have := (HOX.out.lt _ e).1; omega
        have hbl : w5.heap[w.heap.size + 1]? = wr.heap[w.heap.size + 1]? := by
          rw [hg.block (w.heap.size + 1) (by show w.heap.size + 1 < (World.alloc _ _).heap.size; rw [al_size, al_size]; omega) (fun e => hne e.symm)]
          exact (heap_alloc_old _ _ (by rw [al_size]; omega)).trans (heap_alloc_old _ _ (by omega))
        have hbl2 : w5.heap[wr.heap.size]? = (wr.alloc (.cells #[.int .i64 (x : Int), .int .i64 y] 51)).heap[wr.heap.size]? := by
          rw [hg.block wr.heap.size (by show wr.heap.size < (World.alloc _ _).heap.size; rw [al_size, al_size]; omega) (fun e => by have := (HOX.out.lt _ e.symm).2; omega)]
          exact heap_alloc_old _ _ (by rw [al_size]; omega)
        refine ⟨⟨(World.cell?_of_block (a := ⟨wr.heap.size, 0, none⟩) hbl2).trans (by rw [cell_new]; rfl), (World.cell?_of_block (a := ⟨wr.heap.size, 1, none⟩) hbl2).trans (by rw [cell_new]; rfl)⟩, (World.cell?_of_block (a := ⟨w.heap.size + 1, x, none⟩) hbl).trans (HNX.out.2.2.1 x hxn).1, ?_⟩
        have := HNX.out.2.1 x
        unfold World.frozen? at this ⊢
        rw [hbl]; exact this
      have HC5 := Lib.hid hc5
      have hne5 : (⟨w.heap.size + 1, x, none⟩ : Addr).block ≠ (⟨wr.heap.size, 0, none⟩ : Addr).block ∧ (⟨w.heap.size + 1, x, none⟩ : Addr).block ≠ (⟨wr.heap.size, 1, none⟩ : Addr).block := ⟨by show w.heap.size + 1 ≠ wr.heap.size; omega, by show w.heap.size + 1 ≠ wr.heap.size; omega⟩
      clear hc5
      have HOA := Lib.hid hoa
      have HRD := Lib.hid hrd
      clear hoa hrd
      rw [← HVX.out] at HOA HC5
      go_wp2_with fail
      refine region_heldL (L := 13) (S := (fun w' => w'.cell? ⟨wr.heap.size, 0, none⟩ = some (.int .i64 (x : Int)) ∧ w'.cell? ⟨wr.heap.size, 1, none⟩ = some (.int .i64 y) ∧ w'.cell? ⟨w.heap.size + 1, x, none⟩ = some vx)) (by kernel_rfl) ?xs (fun hHeld => ?xr)
      case xs => refine ⟨?_, ?_, ?_⟩ <;> go_keep
      refine takeL (i := 0) (d := 17) (v := ?xv0) rfl (by rfl) (by kernel_rfl) (by kernel_rfl) (by kernel_rfl) (by kernel_rfl) (by rfl) (fun _ _ _ h => h) (Or.inl ⟨by rfl, ?xy0⟩) (by assumption) ?xr0
      case xy0 => intro w' hSw; obtain ⟨q1, q2, q3⟩ := hSw; go_simp; (try with_reducible rfl)
      case' xr0 => simp only [Act.put, List.setIfInBounds_toArray, List.set_cons_zero, List.set_cons_succ]
      refine takeL (i := 1) (d := 18) (v := ?xv1) rfl (by rfl) (by kernel_rfl) (by kernel_rfl) (by kernel_rfl) (by kernel_rfl) (by rfl) (fun _ _ _ h => h) (Or.inl ⟨by rfl, ?xy1⟩) (by assumption) ?xr1
      case xy1 => intro w' hSw; obtain ⟨q1, q2, q3⟩ := hSw; go_simp; (try with_reducible rfl)
      case' xr1 => simp only [Act.put, List.setIfInBounds_toArray, List.set_cons_zero, List.set_cons_succ]
      refine takeL (i := 2) (d := 19) (v := ?xv2) rfl (by rfl) (by kernel_rfl) (by kernel_rfl) (by kernel_rfl) (by kernel_rfl) (by rfl) (fun _ _ _ h => h) (Or.inl ⟨by rfl, ?xy2⟩) (by assumption) ?xr2
      case xy2 => intro w' hSw; obtain ⟨q1, q2, q3⟩ := hSw; go_simp; (try with_reducible rfl)
      case' xr2 => simp only [Act.put, List.setIfInBounds_toArray, List.set_cons_zero, List.set_cons_succ]
      refine takeL (i := 3) (d := 20) (v := ?xv3) rfl (by rfl) (by kernel_rfl) (by kernel_rfl) (by kernel_rfl) (by kernel_rfl) (by rfl) (fun _ _ _ h => h) (Or.inl ⟨by rfl, ?xy3⟩) (by assumption) ?xr3
      case xy3 => intro w' hSw; obtain ⟨q1, q2, q3⟩ := hSw; go_simp; (try with_reducible rfl)
      case' xr3 => simp only [Act.put, List.setIfInBounds_toArray, List.set_cons_zero, List.set_cons_succ]
      refine takeL (i := 4) (d := 21) (v := ?xv4) rfl (by rfl) (by kernel_rfl) (by kernel_rfl) (by kernel_rfl) (by kernel_rfl) (by rfl) (fun _ _ _ h => h) (Or.inl ⟨by rfl, ?xy4⟩) (by assumption) ?xr4
      case xy4 => intro w' hSw; obtain ⟨q1, q2, q3⟩ := hSw; go_simp; (try with_reducible rfl)
      case' xr4 => simp only [Act.put, List.setIfInBounds_toArray, List.set_cons_zero, List.set_cons_succ]
      refine takeL (i := 5) (d := 22) (v := ?xv5) rfl (by rfl) (by kernel_rfl) (by kernel_rfl) (by kernel_rfl) (by kernel_rfl) (by rfl) (fun _ _ _ h => h) (Or.inl ⟨by rfl, ?xy5⟩) (by assumption) ?xr5
      case xy5 => intro w' hSw; obtain ⟨q1, q2, q3⟩ := hSw; go_simp; (try with_reducible rfl)
      case' xr5 => simp only [Act.put, List.setIfInBounds_toArray, List.set_cons_zero, List.set_cons_succ]
      refine takeL (i := 6) (d := 23) (v := ?xv6) rfl (by rfl) (by kernel_rfl) (by kernel_rfl) (by kernel_rfl) (by kernel_rfl) (by rfl) (fun _ _ _ h => h) (Or.inl ⟨by rfl, ?xy6⟩) (by assumption) ?xr6
      case xy6 => intro w' hSw; obtain ⟨q1, q2, q3⟩ := hSw; go_simp; (try with_reducible rfl)
      case' xr6 => simp only [Act.put, List.setIfInBounds_toArray, List.set_cons_zero, List.set_cons_succ]
      refine takeL (i := 7) (d := 24) (v := ?xv7) rfl (by rfl) (by kernel_rfl) (by kernel_rfl) (by kernel_rfl) (by kernel_rfl) (by rfl) (fun _ _ _ h => h) (Or.inl ⟨by rfl, ?xy7⟩) (by assumption) ?xr7
      case xy7 => intro w' hSw; obtain ⟨q1, q2, q3⟩ := hSw; go_simp; (try with_reducible rfl)
      case' xr7 => simp only [Act.put, List.setIfInBounds_toArray, List.set_cons_zero, List.set_cons_succ]
      refine takeL (i := 8) (d := 25) (v := ?xv8) rfl (by rfl) (by kernel_rfl) (by kernel_rfl) (by kernel_rfl) (by kernel_rfl) (by rfl) (fun _ _ _ h => h) (Or.inl ⟨by rfl, ?xy8⟩) (by assumption) ?xr8
      case xy8 => intro w' hSw; obtain ⟨q1, q2, q3⟩ := hSw; go_simp; (try with_reducible rfl)
      case' xr8 => simp only [Act.put, List.setIfInBounds_toArray, List.set_cons_zero, List.set_cons_succ]
      refine takeL (i := 9) (d := 26) (v := ?xv9) rfl (by rfl) (by kernel_rfl) (by kernel_rfl) (by kernel_rfl) (by kernel_rfl) (by rfl) (fun _ _ _ h => h) (Or.inl ⟨by rfl, ?xy9⟩) (by assumption) ?xr9
      case xy9 => intro w' hSw; obtain ⟨q1, q2, q3⟩ := hSw; go_simp; (try with_reducible rfl)
      case' xr9 => simp only [Act.put, List.setIfInBounds_toArray, List.set_cons_zero, List.set_cons_succ]
      refine stepL (i := 10) (by kernel_rfl) rfl (fun K hK => ?xb10)
      go_simp
      refine hK.out _ _ ?xh10 (fun hHeld => ?xr10)
      case xh10 => exact keep3a hHeld
      case' xr10 => (clear hK K; try simp only [Act.put, List.setIfInBounds_toArray, List.set_cons_zero, List.set_cons_succ])
      refine stepL (i := 11) (by kernel_rfl) rfl (fun K hK => ?xb11)
      refine step_append_any _ (by rfl) _ _ 25 (by rfl) (w.heap.size + 1 + 1) 3 i0 (.int .i64 0) 1 8 Try.underlying25 HI.out HZ.out.1 HZ.out.2.1 HZ.out.2.2 rfl (by decide) vx _ _ (by rfl) (HOA.out _ _) _ (some ⟨wr.heap.size + 1, 0, none⟩) 1 1 [.int .i64 y] (by rfl) (HRD.out _) (by simp [Value.oneCell']) (by simp only [maxLen]; omega) (by omega) (by simp; omega) ?_
      intro v5 w5 hown5 hg5 hat5
      obtain ⟨g5, cap5, hv5, hg50, hg51⟩ := hown5.form (Nat.succ_pos _)
      subst hv5
      obtain ⟨e5, c5, z5⟩ := HC5.out w5 hg5
      refine hK.out _ _ ?xh11 (fun hHeld => ?xr11)
      case xh11 => exact ⟨e5.1, e5.2, c5⟩
      case' xr11 => (clear hK K; try simp only [Act.put, List.setIfInBounds_toArray])
      refine takeL (i := 12) (d := 29) (v := ?xv12) rfl (by rfl) (by kernel_rfl) (by kernel_rfl) (by kernel_rfl) (by kernel_rfl) (by rfl) (fun _ _ _ h => h) (Or.inl ⟨by rfl, ?xy12⟩) (by assumption) ?xr12
      case xy12 => intro w' hSw; obtain ⟨q1, q2, q3⟩ := hSw; go_simp; (try with_reducible rfl)
      case' xr12 => simp only [Act.put]
      refine lastL (by kernel_rfl) rfl (by kernel_rfl) (fun K hK => ?xb13)
      go_simp
      refine hK.out _ _ ?xz
      all_goals
        go_wp2
        go_roundw
        case rel => exact nx_round hlt hxn HTN.out HNX.out HBE.out HCN.out HVX.out hown5 hg5 hat5
        case measure => simp [intOf]; omega
    · have hge : ¬ (j : Int) < (g.es.length : Int) := by omega
      rw [show g.es.take j = g.es from List.take_of_length_le (by omega)] at hnx
      have HNX := Lib.hid hnx
      have HBE := Lib.hid hbel
      obtain ⟨wo, rfl⟩ : ∃ wo : World, wo = wr := ⟨_, rfl⟩
      clear hnx hbel
      go_wp2
      go_loopw [33] (fun i wr => ∃ (k : Nat) (rows : Nat → Value), i = .int .i64 k ∧ k ≤ n ∧ NxAt n (w.heap.size + 1) wr rows (fun m => if m < k then nxt g m else tgt g.es m) ∧ Below w.heap.size w wr) (fun i _ => n - (intOf i).toNat)
      case atStart => exact ⟨0, rows, rfl, by omega, HNX.out.congr (fun i hi => by simp), HBE.out⟩
      case round =>
        obtain ⟨k, rows, rfl, hk, hnx, hbel⟩ := hrel
        by_cases hlk : k < n
        · have hk0 : (0 : Int) ≤ (k : Int) := by omega
          have hk1 : (k : Int) < (n : Int) := by omega
          obtain ⟨hck, hok⟩ := hnx.2.2.1 k hlk
          simp only [if_neg (Nat.lt_irrefl k)] at hok
          have htl : (tgt g.es k).length ≤ 140737488355328 := by have := tgt_length g.es k; omega
          have HS := Lib.hid (sort_c hok htl)
          have HNX := Lib.hid hnx
          have HBE := Lib.hid hbel
          have HLO := Lib.hid (fun q (e : (rows k).ownBlock = some q) => (hok.lt q e).1)
          obtain ⟨vk, hvk⟩ : ∃ vk, vk = rows k := ⟨_, rfl⟩
          rw [← hvk] at hck HS HLO
          have HVK := Lib.hid hvk
          clear hnx hbel hok htl hvk
          go_wp2_with fail
          go_at_call 52
          refine HS.out.mono ?_
          rintro e w1 ⟨rfl, ho1, hg1⟩
          have hnx1 := HNX.out.turn (i := k) (l' := sortI (tgt g.es k)) hlk (by rw [sortI_length, ← HVK.out]; exact ho1) (by rw [← HVK.out]; exact hg1)
          have hck1 := (hnx1.2.2.1 k hlk).1
          have hfz1 := hnx1.2.1 k
          rw [← HVK.out] at hck1
          have hbel1 : Below w.heap.size w w1 := HBE.out.grown hg1 HBE.out.size (fun q e => by have := HLO.out q e; omega)
          have HC := Lib.hid (compact_c (by rw [sortI_length]; exact ho1 : w1.ownsRow _ _ 1 vk (sortI (tgt g.es k)).length _) (by rw [sortI_length]; have := tgt_length g.es k; omega))
          have HNX1 := Lib.hid hnx1
          have HBE1 := Lib.hid hbel1
          clear hnx1 hbel1 ho1 hg1
          go_wp2_with fail
          go_at_call 71
          refine HC.out.mono ?_
          rintro e w2 ⟨v', rfl, ho2, hb2, hg2⟩
          have hobk : (rows k).ownBlock ≠ some (w.heap.size + 1) := fun e => by have := HLO.out _ (by rw [HVK.out]; exact e); omega
          have hbl : w2.heap[w.heap.size + 1]? = w1.heap[w.heap.size + 1]? := hg2.block _ HNX1.out.1 (fun e => hobk (by rw [← HVK.out]; exact e.symm))
          have hck2 : w2.cell? ⟨w.heap.size + 1, k, none⟩ = some vk := (World.cell?_of_block (a := ⟨w.heap.size + 1, k, none⟩) hbl).trans hck1
          have hfz2 : w2.frozen? ⟨w.heap.size + 1, k, none⟩ = false := by
            have := HNX1.out.2.1 k
            unfold World.frozen? at this ⊢
            rw [hbl]; exact this
          have hput := HNX1.out.put (v' := v') (l' := Lib.compact (sortI (tgt g.es k))) hlk ho2 (by rw [← HVK.out]; exact hg2) (fun q e => .inl (by rw [← HVK.out, ← hb2]; exact e))
          have hbel2 : Below w.heap.size w (w2.setCell ⟨w.heap.size + 1, k, none⟩ v') := (HBE1.out.grown hg2 HBE1.out.size (fun q e => by have := HLO.out q e; omega)).setCell (by show w.heap.size ≤ w.heap.size + 1; omega) _
          obtain ⟨Y, dy, hv', _⟩ := own_row1 ho2
          rw [List.length_map] at hv'
          subst hv'
          have HPUT := Lib.hid hput
          have HB2 := Lib.hid hbel2
          clear hput hbel2 ho2 hb2 hg2 hbl hck1 hfz1
          go_wp2
          go_roundw
          case rel =>
            refine ⟨k + 1, _, by go_num, by omega, HPUT.out.congr (fun i hi => ?_), HB2.out⟩
            by_cases e : i = k
            · subst e
              rw [upd_same, if_pos (by omega)]
              rfl
            · rw [upd_far _ _ e, upd_far _ _ e]
              by_cases h : i < k
              · rw [if_pos h, if_pos (by omega)]
              · rw [if_neg h, if_neg (by omega)]
          case measure => simp [intOf]; omega
        · have hge2 : ¬ (k : Int) < (n : Int) := by omega
          have hnx2 := hnx.congr (ls' := fun i => nxt g i) (fun i hi => by rw [if_pos (by omega)])
          have HNX2 := Lib.hid hnx2
          have HBE2 := Lib.hid hbel
          clear hnx hnx2 hbel
          go_wp2
          go_ret
          exact ⟨_, rfl, HNX2.out.next (by omega), HBE2.out⟩
end Go.Proofs.Ytpdfcffeinbcaaa
