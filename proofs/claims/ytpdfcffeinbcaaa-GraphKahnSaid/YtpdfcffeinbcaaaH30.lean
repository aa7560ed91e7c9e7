/- Order: the document's. -/
import Derived.Test.YtpdfcffeinbcaaaH28
import Derived.Test.YtpdfcffeinbcaaaH29
namespace Go.Proofs.Ytpdfcffeinbcaaa
open Go.RowKit
set_option maxHeartbeats 8000000 in
set_option maxRecDepth 100000 in
theorem rorder_c (g : XG) (E : Option Addr) (d : Nat) (w : World) (h : GAt w E g) (hl : g.es.length ≤ 4611686018427387904) :
    Calls Try.prog 26 #[g.val E d] w (RowErr (ordL g) (ordE g) w) := by
  have hrd := fun W h => rround_c g E d W h hl
  have hbx := box_at (w := w) (t := 24) g E d
  have hv : g.val E d = .agg #[.int .i64 g.n, .slice E g.es.length d] := rfl
  rw [hv] at hrd ⊢
  have HRD0 := Lib.hid hrd
  have HG0 := Lib.hid h
  obtain ⟨i0, hi, hzz⟩ := Option.map_eq_some_iff.1 info_int
  simp only [Prod.mk.injEq] at hzz
  have HI := Lib.hid hi
  have HZ := Lib.hid hzz
  obtain ⟨kk, hkk⟩ : ∃ kk, kk = chkF g := ⟨_, rfl⟩
  have HKK := Lib.hid hkk
  clear hrd hv h hi hzz hkk
  go_enter Try.func26, Try.ntmps26
  go_wp2_with fail
  go_at_call 38
  refine (HRD0.out _ (HG0.out.below hbx.bel)).mono ?_
  rintro e w1 ⟨X1, d1', rfl, _, hb1⟩
  have hbx1 := hbx.below hb1
  rw [← HKK.out]
  by_cases hk : kk = 0
  · subst hk
    have hgood := chkF_good.1 HKK.out.symm
    by_cases hr0 : roundL g = []
    · have hE : ordE g = 0 := by unfold ordE; rw [if_pos HKK.out.symm, if_pos ((ord_round hgood).2 hr0)]
      have hL : ordL g = ordF (nxt g) g.n.toNat := by unfold ordL; rw [if_pos hE]
      obtain ⟨n, hn⟩ : ∃ n : Nat, g.n = n := ⟨g.n.toNat, by have := hgood.n0; omega⟩
      have hnn : g.n.toNat = n := by omega
      have hn4 : n ≤ 4096 := by have := hgood.n1; omega
      have hlen := hgood.len
      have hmk : ∀ W : World, (Instr.makeSlice 45 (.int .i64 (n : Int)) (.int .i64 (n : Int))).run Try.prog W = .ok (.slice (some ⟨W.heap.size, 0, none⟩) n n) (W.alloc (.cells (madeCells #[.slice none 0 0] n) 25)) :=
        fun W => run_make_row' 45 25 (.slice none 0 0) 24 Try.underlying45 info_ints rfl .i64 .i64 n (by omega) (by omega) W
      have hmi : ∀ W : World, (Instr.makeSlice 25 (.int .i64 (n : Int)) (.int .i64 (n : Int))).run Try.prog W = .ok (.slice (some ⟨W.heap.size, 0, none⟩) n n) (W.alloc (.cells (madeCells #[.int .i64 0] n) 3)) :=
        fun W => run_make_row' 25 3 (.int .i64 0) 8 Try.underlying25 info_int rfl .i64 .i64 n (by omega) (by omega) W
      have c0 : w1.cell? ⟨w.heap.size, 0, none⟩ = some (.int .i64 (n : Int)) := by rw [← hn]; exact hbx1.c0
      have hbw : w.heap.size < w1.heap.size := hbx1.lt
      have hrl : (roundL g).length = 0 := by rw [hr0]; rfl
      rw [hn, hrl]
      have HBX := Lib.hid hbx1
      have HG1 := Lib.hid (HG0.out.below hbx1.bel)
      have HGD := Lib.hid hgood
      have HN := Lib.hid hn
      have HNN := Lib.hid hnn
      have HE := Lib.hid hE
      have HL := Lib.hid hL
      have HNO := Lib.hid ((ord_iff hgood).1 ((ord_round hgood).2 hr0))
      clear hgood hr0 hE hL hn hnn hbx1 hbx hb1 hrl
      go_upto_region 7 with (fail)
      obtain ⟨w2, hw2⟩ : ∃ w2, w2 = w1.alloc (.cells (madeCells #[.int .i64 0] n) 3) := ⟨_, rfl⟩
      obtain ⟨ib, hib⟩ : ∃ ib, ib = w1.heap.size := ⟨_, rfl⟩
      have hn0 : NumAt w2 ib n (fun i => (cnt (g.es.take 0) [] i : Int)) := by
        rw [hw2, hib]
        exact (num_made w1 n _).congr (fun i _ => by simp [cnt])
      have hb2 : Below w1.heap.size w1 w2 := by rw [hw2]; exact (Below.refl _ _).alloc (Nat.le_refl _) _
      rw [← hw2, ← hib]
      have HN0 := Lib.hid hn0
      have HB2 := Lib.hid hb2
      have hibw : w1.heap.size ≤ ib := by omega
      clear hw2 hib hn0 hb2 c0
      go_wp2
      go_loopw [7] (fun i wr => ∃ j : Nat, i = .int .i64 j ∧ j ≤ g.es.length ∧ NumAt wr ib n (fun i => (cnt (g.es.take j) [] i : Int)) ∧ Below w1.heap.size w1 wr) (fun i _ => g.es.length - (intOf i).toNat)
      case atStart => exact ⟨0, rfl, by omega, HN0.out, HB2.out⟩
      case round =>
        obtain ⟨j, rfl, hj, hnum, hbel⟩ := hrel
        have c1 := (hbel.cell (p := ⟨w.heap.size, 1, none⟩) hbw).trans HBX.out.c1
        by_cases hlt : j < g.es.length
        · have hj0 : (0 : Int) ≤ (j : Int) := by omega
          have hj1 : (j : Int) < (g.es.length : Int) := by omega
          obtain ⟨b, off, rfl, hbl, ha0, hb0⟩ := HG1.out.edge hlt
          have hb := (hbel.cell (p := ⟨b, off + j * 2 + 1, none⟩) hbl).trans hb0
          have hall := HGD.out.all _ (List.getElem_mem hlt)
          have hcs : ∀ i : Nat, (cnt (g.es.take (j + 1)) [] i : Int) = cnt (g.es.take j) [] i + if g.es[j].2 = (i : Int) then 1 else 0 := fun i => by
            rw [List.take_succ_eq_append_getElem hlt]
            have := cnt_snoc (g.es.take j) g.es[j].1 g.es[j].2 (i : Int)
            rw [show (g.es[j].1, g.es[j].2) = g.es[j] from rfl] at this
            rw [this]
            split <;> simp
          obtain ⟨y, hy⟩ : ∃ y : Nat, g.es[j].2 = (y : Int) := ⟨g.es[j].2.toNat, by omega⟩
          rw [hy] at hb hall hcs
          have hyn : y < n := by have := HN.out; omega
          have hy0 : (0 : Int) ≤ (y : Int) := by omega
          have hy1 : (y : Int) < (n : Int) := by omega
          have hcy : wr.cell? ⟨ib, y, none⟩ = some (.int .i64 (cnt (g.es.take j) [] y : Int)) := hnum.2.1 y hyn
          have hfy := hnum.2.2 y
          have hbd := cnt_le (g.es.take j) [] (y : Int)
          have htl : (g.es.take j).length ≤ 16384 := by rw [List.length_take]; omega
          obtain ⟨q, hq⟩ : ∃ q, q = cnt (g.es.take j) [] (y : Int) := ⟨_, rfl⟩
          have hput := hnum.put (g := fun i => (cnt (g.es.take (j + 1)) [] i : Int)) (y := (q : Int) + 1) hyn (fun i _ => by
            rw [hcs i]
            by_cases e : i = y
            · subst e; rw [if_pos rfl, if_pos rfl, hq]
            · rw [if_neg (by omega), if_neg e]; simp)
          rw [← hq] at hcy hbd
          have HPUT := Lib.hid hput
          have HBEL := Lib.hid hbel
          have hq0 : (q : Int) ≤ 16384 := by omega
          clear hq hput hnum hbel hcs hy hall ha0 hb0
          go_wp2
          go_roundw
          case rel => exact ⟨j + 1, by go_num, by omega, HPUT.out, HBEL.out.setCell hibw _⟩
          case measure => simp [intOf]; omega
        · have hge : ¬ (j : Int) < (g.es.length : Int) := by omega
          rw [show g.es.take j = g.es from List.take_of_length_le (by omega)] at hnum
          obtain ⟨wA, rfl⟩ : ∃ wA : World, wA = wr := ⟨_, rfl⟩
          have hnx0 := nx_made wA n
          have hbA : Below wA.heap.size wA (wA.alloc (.cells (madeCells #[.slice none 0 0] n) 25)) := (Below.refl _ _).alloc (Nat.le_refl _) _
          have d0 : wA.cell? ⟨w.heap.size, 0, none⟩ = some (.int .i64 (n : Int)) := by rw [← HN.out]; exact (hbel.cell (p := ⟨w.heap.size, 0, none⟩) hbw).trans HBX.out.c0
          have HBXA := Lib.hid (HBX.out.below hbel)
          have HNUM := Lib.hid hnum
          have HNX0 := Lib.hid hnx0
          have HBA := Lib.hid hbA
          have HGA := Lib.hid (HG1.out.below hbel)
          have hAz : w1.heap.size ≤ wA.heap.size := hbel.size
          have hibA : ib < wA.heap.size := hnum.1
          clear hnum hbel hnx0 hbA
          go_wp2
          go_loopw [9] (fun i wr => ∃ (j : Nat) (rows : Nat → Value), i = .int .i64 j ∧ j ≤ g.es.length ∧ NxAt n wA.heap.size wr rows (fun k => tgt (g.es.take j) k) ∧ Below wA.heap.size wA wr) (fun i _ => g.es.length - (intOf i).toNat)
          case atStart => exact ⟨0, _, rfl, by omega, HNX0.out, HBA.out⟩
          case round =>
            obtain ⟨j, rows, rfl, hj, hnx, hbel⟩ := hrel
            have c1 := (HBXA.out.below hbel).c1
            by_cases hlt : j < g.es.length
            · have hj0 : (0 : Int) ≤ (j : Int) := by omega
              have hj1 : (j : Int) < (g.es.length : Int) := by omega
              obtain ⟨b, off, rfl, hbl, ha0, hb0⟩ := HG0.out.edge hlt
              have hbw := (HBXA.out.below hbel).bel
              have ha := (hbw.cell (p := ⟨b, off + j * 2, none⟩) hbl).trans ha0
              have hb := (hbw.cell (p := ⟨b, off + j * 2 + 1, none⟩) hbl).trans hb0
              have hall := HGD.out.all _ (List.getElem_mem hlt)
              have htn := tgt_next g.es j hlt
              obtain ⟨x, hx⟩ : ∃ x : Nat, (x : Int) = g.es[j].1 := ⟨g.es[j].1.toNat, by omega⟩
              obtain ⟨y, hy⟩ : ∃ y, y = g.es[j].2 := ⟨_, rfl⟩
              rw [← hx] at ha hall htn
              rw [← hy] at hb htn
              have hxn : x < n := by have := HN.out; omega
              have hx0 : (0 : Int) ≤ (x : Int) := by omega
              have hx1 : (x : Int) < (n : Int) := by omega
              obtain ⟨hcx, hox⟩ := hnx.2.2.1 x hxn
              have hob := hnx.1
              obtain ⟨vx, hvx⟩ : ∃ vx, vx = rows x := ⟨_, rfl⟩
              rw [← hvx] at hcx hox
              have hoa : ∀ o, (wr.alloc o).drew.ownsRow (wA.heap.size + 1) 3 1 vx (tgt (g.es.take j) x).length (I (tgt (g.es.take j) x)) := fun o => own_drew (hox.alloc _)
              have hrd : Reads (wr.alloc (.cells #[.int .i64 y] 3)).drew (wr.heap.size + 1) 1 (some ⟨wr.heap.size, 0, none⟩) 1 [.int .i64 y] := by
                have := reads_new wr [.int .i64 y] 3 1 rfl
                rw [al_size] at this
                exact this.drew
              have htl : (tgt (g.es.take j) x).length ≤ 16384 := by have := tgt_length (g.es.take j) x; rw [List.length_take] at this; omega
              have hvl : ∀ k, vx.ownBlock = some k → wA.heap.size + 1 ≤ k := fun k e => (hox.lt k e).1
              have hfz := hnx.2.1 x
              have hc5 : ∀ w5, (wr.alloc (.cells #[.int .i64 y] 3)).drew.grownBy w5 vx.ownBlock → wr.grownBy w5 vx.ownBlock ∧ w5.cell? ⟨w.heap.size, 1, none⟩ = some (.slice (some ⟨b, off, none⟩) g.es.length d) ∧ w5.cell? ⟨b, off + j * 2, none⟩ = some (.int .i64 (x : Int)) ∧ w5.cell? ⟨b, off + j * 2 + 1, none⟩ = some (.int .i64 y) ∧
                  w5.cell? ⟨wA.heap.size, x, none⟩ = some vx ∧ w5.frozen? ⟨wA.heap.size, x, none⟩ = false := fun w5 hg => by
                have hg1 := grown_of1 hg
                have hb1 := hg1.block w.heap.size (by have := hbel.size; omega) (fun e => by have := hvl _ e.symm; omega)
                have hb2 := hg1.block b (by have := hbel.size; omega) (fun e => by have := hvl _ e.symm; omega)
                have hb3 := hg1.block wA.heap.size hob (fun e => by have := hvl _ e.symm; omega)
                exact ⟨hg1, (World.cell?_of_block (a := ⟨w.heap.size, 1, none⟩) hb1).trans c1, (World.cell?_of_block (a := ⟨b, off + j * 2, none⟩) hb2).trans ha, (World.cell?_of_block (a := ⟨b, off + j * 2 + 1, none⟩) hb2).trans hb, (World.cell?_of_block (a := ⟨wA.heap.size, x, none⟩) hb3).trans hcx, (frozen_block (a := ⟨wA.heap.size, x, none⟩) hb3).trans hfz⟩
              have hbA0 := hbel.size
              have HOA := Lib.hid hoa
              have HRD := Lib.hid hrd
              have HC5 := Lib.hid hc5
              have HTN := Lib.hid htn
              have HNX := Lib.hid hnx
              have HBE := Lib.hid hbel
              have HVX := Lib.hid hvx
              have HVL := Lib.hid hvl
              have HCX := Lib.hid hcx
              clear hoa hrd hc5 htn hnx hbel hvx hvl hox hx hy hall ha0 hb0 hbw hfz
              go_wp2_with fail
              refine region_heldL (L := 25) (S := (fun w' => w'.cell? ⟨w.heap.size, 1, none⟩ = some (.slice (some ⟨b, off, none⟩) g.es.length d) ∧ w'.cell? ⟨b, off + j * 2, none⟩ = some (.int .i64 (x : Int)) ∧ w'.cell? ⟨b, off + j * 2 + 1, none⟩ = some (.int .i64 y) ∧ w'.cell? ⟨wA.heap.size, x, none⟩ = some vx)) (by kernel_rfl) ?xs (fun hHeld => ?xr)
              case xs => refine ⟨?_, ?_, ?_, ?_⟩ <;> go_keep
              refine takeL (i := 0) (d := 55) (v := ?xv0) rfl (by rfl) (by kernel_rfl) (by kernel_rfl) (by kernel_rfl) (by kernel_rfl) (by rfl) (fun _ _ _ h => h) (Or.inl ⟨by rfl, ?xy0⟩) (by assumption) ?xr0
              case xy0 => intro w' hSw; obtain ⟨q1, q2, q3, q4⟩ := hSw; go_simp; (try with_reducible rfl)
              case' xr0 => simp only [Act.put, List.setIfInBounds_toArray, List.set_cons_zero, List.set_cons_succ]
              refine takeL (i := 1) (d := 56) (v := ?xv1) rfl (by rfl) (by kernel_rfl) (by kernel_rfl) (by kernel_rfl) (by kernel_rfl) (by rfl) (fun _ _ _ h => h) (Or.inl ⟨by rfl, ?xy1⟩) (by assumption) ?xr1
              case xy1 => intro w' hSw; obtain ⟨q1, q2, q3, q4⟩ := hSw; go_simp; (try with_reducible rfl)
              case' xr1 => simp only [Act.put, List.setIfInBounds_toArray, List.set_cons_zero, List.set_cons_succ]
              refine takeL (i := 2) (d := 57) (v := ?xv2) rfl (by rfl) (by kernel_rfl) (by kernel_rfl) (by kernel_rfl) (by kernel_rfl) (by rfl) (fun _ _ _ h => h) (Or.inl ⟨by rfl, ?xy2⟩) (by assumption) ?xr2
              case xy2 => intro w' hSw; obtain ⟨q1, q2, q3, q4⟩ := hSw; go_simp; (try with_reducible rfl)
              case' xr2 => simp only [Act.put, List.setIfInBounds_toArray, List.set_cons_zero, List.set_cons_succ]
              refine takeL (i := 3) (d := 58) (v := ?xv3) rfl (by rfl) (by kernel_rfl) (by kernel_rfl) (by kernel_rfl) (by kernel_rfl) (by rfl) (fun _ _ _ h => h) (Or.inl ⟨by rfl, ?xy3⟩) (by assumption) ?xr3
              case xy3 => intro w' hSw; obtain ⟨q1, q2, q3, q4⟩ := hSw; go_simp; (try with_reducible rfl)
              case' xr3 => simp only [Act.put, List.setIfInBounds_toArray, List.set_cons_zero, List.set_cons_succ]
              refine takeL (i := 4) (d := 59) (v := ?xv4) rfl (by rfl) (by kernel_rfl) (by kernel_rfl) (by kernel_rfl) (by kernel_rfl) (by rfl) (fun _ _ _ h => h) (Or.inl ⟨by rfl, ?xy4⟩) (by assumption) ?xr4
              case xy4 => intro w' hSw; obtain ⟨q1, q2, q3, q4⟩ := hSw; go_simp; (try with_reducible rfl)
              case' xr4 => simp only [Act.put, List.setIfInBounds_toArray, List.set_cons_zero, List.set_cons_succ]
              refine takeL (i := 5) (d := 60) (v := ?xv5) rfl (by rfl) (by kernel_rfl) (by kernel_rfl) (by kernel_rfl) (by kernel_rfl) (by rfl) (fun _ _ _ h => h) (Or.inl ⟨by rfl, ?xy5⟩) (by assumption) ?xr5
              case xy5 => intro w' hSw; obtain ⟨q1, q2, q3, q4⟩ := hSw; go_simp; (try with_reducible rfl)
              case' xr5 => simp only [Act.put, List.setIfInBounds_toArray, List.set_cons_zero, List.set_cons_succ]
              refine takeL (i := 6) (d := 61) (v := ?xv6) rfl (by rfl) (by kernel_rfl) (by kernel_rfl) (by kernel_rfl) (by kernel_rfl) (by rfl) (fun _ _ _ h => h) (Or.inl ⟨by rfl, ?xy6⟩) (by assumption) ?xr6
              case xy6 => intro w' hSw; obtain ⟨q1, q2, q3, q4⟩ := hSw; go_simp; (try with_reducible rfl)
              case' xr6 => simp only [Act.put, List.setIfInBounds_toArray, List.set_cons_zero, List.set_cons_succ]
              refine takeL (i := 7) (d := 62) (v := ?xv7) rfl (by rfl) (by kernel_rfl) (by kernel_rfl) (by kernel_rfl) (by kernel_rfl) (by rfl) (fun _ _ _ h => h) (Or.inl ⟨by rfl, ?xy7⟩) (by assumption) ?xr7
              case xy7 => intro w' hSw; obtain ⟨q1, q2, q3, q4⟩ := hSw; go_simp; (try with_reducible rfl)
              case' xr7 => simp only [Act.put, List.setIfInBounds_toArray, List.set_cons_zero, List.set_cons_succ]
              refine takeL (i := 8) (d := 63) (v := ?xv8) rfl (by rfl) (by kernel_rfl) (by kernel_rfl) (by kernel_rfl) (by kernel_rfl) (by rfl) (fun _ _ _ h => h) (Or.inl ⟨by rfl, ?xy8⟩) (by assumption) ?xr8
              case xy8 => intro w' hSw; obtain ⟨q1, q2, q3, q4⟩ := hSw; go_simp; (try with_reducible rfl)
              case' xr8 => simp only [Act.put, List.setIfInBounds_toArray, List.set_cons_zero, List.set_cons_succ]
              refine takeL (i := 9) (d := 64) (v := ?xv9) rfl (by rfl) (by kernel_rfl) (by kernel_rfl) (by kernel_rfl) (by kernel_rfl) (by rfl) (fun _ _ _ h => h) (Or.inl ⟨by rfl, ?xy9⟩) (by assumption) ?xr9
              case xy9 => intro w' hSw; obtain ⟨q1, q2, q3, q4⟩ := hSw; go_simp; (try with_reducible rfl)
              case' xr9 => simp only [Act.put, List.setIfInBounds_toArray, List.set_cons_zero, List.set_cons_succ]
              refine takeL (i := 10) (d := 65) (v := ?xv10) rfl (by rfl) (by kernel_rfl) (by kernel_rfl) (by kernel_rfl) (by kernel_rfl) (by rfl) (fun _ _ _ h => h) (Or.inl ⟨by rfl, ?xy10⟩) (by assumption) ?xr10
              case xy10 => intro w' hSw; obtain ⟨q1, q2, q3, q4⟩ := hSw; go_simp; (try with_reducible rfl)
              case' xr10 => simp only [Act.put, List.setIfInBounds_toArray, List.set_cons_zero, List.set_cons_succ]
              refine takeL (i := 11) (d := 66) (v := ?xv11) rfl (by rfl) (by kernel_rfl) (by kernel_rfl) (by kernel_rfl) (by kernel_rfl) (by rfl) (fun _ _ _ h => h) (Or.inl ⟨by rfl, ?xy11⟩) (by assumption) ?xr11
              case xy11 => intro w' hSw; obtain ⟨q1, q2, q3, q4⟩ := hSw; go_simp; (try with_reducible rfl)
              case' xr11 => simp only [Act.put, List.setIfInBounds_toArray, List.set_cons_zero, List.set_cons_succ]
              refine takeL (i := 12) (d := 67) (v := ?xv12) rfl (by rfl) (by kernel_rfl) (by kernel_rfl) (by kernel_rfl) (by kernel_rfl) (by rfl) (fun _ _ _ h => h) (Or.inl ⟨by rfl, ?xy12⟩) (by assumption) ?xr12
              case xy12 => intro w' hSw; obtain ⟨q1, q2, q3, q4⟩ := hSw; go_simp; (try with_reducible rfl)
              case' xr12 => simp only [Act.put, List.setIfInBounds_toArray, List.set_cons_zero, List.set_cons_succ]
              refine takeL (i := 13) (d := 68) (v := ?xv13) rfl (by rfl) (by kernel_rfl) (by kernel_rfl) (by kernel_rfl) (by kernel_rfl) (by rfl) (fun _ _ _ h => h) (Or.inl ⟨by rfl, ?xy13⟩) (by assumption) ?xr13
              case xy13 => intro w' hSw; obtain ⟨q1, q2, q3, q4⟩ := hSw; go_simp; (try with_reducible rfl)
              case' xr13 => simp only [Act.put, List.setIfInBounds_toArray, List.set_cons_zero, List.set_cons_succ]
              refine takeL (i := 14) (d := 69) (v := ?xv14) rfl (by rfl) (by kernel_rfl) (by kernel_rfl) (by kernel_rfl) (by kernel_rfl) (by rfl) (fun _ _ _ h => h) (Or.inl ⟨by rfl, ?xy14⟩) (by assumption) ?xr14
              case xy14 => intro w' hSw; obtain ⟨q1, q2, q3, q4⟩ := hSw; go_simp; (try with_reducible rfl)
              case' xr14 => simp only [Act.put, List.setIfInBounds_toArray, List.set_cons_zero, List.set_cons_succ]
              refine takeL (i := 15) (d := 70) (v := ?xv15) rfl (by rfl) (by kernel_rfl) (by kernel_rfl) (by kernel_rfl) (by kernel_rfl) (by rfl) (fun _ _ _ h => h) (Or.inl ⟨by rfl, ?xy15⟩) (by assumption) ?xr15
              case xy15 => intro w' hSw; obtain ⟨q1, q2, q3, q4⟩ := hSw; go_simp; (try with_reducible rfl)
              case' xr15 => simp only [Act.put, List.setIfInBounds_toArray, List.set_cons_zero, List.set_cons_succ]
              refine takeL (i := 16) (d := 71) (v := ?xv16) rfl (by rfl) (by kernel_rfl) (by kernel_rfl) (by kernel_rfl) (by kernel_rfl) (by rfl) (fun _ _ _ h => h) (Or.inl ⟨by rfl, ?xy16⟩) (by assumption) ?xr16
              case xy16 => intro w' hSw; obtain ⟨q1, q2, q3, q4⟩ := hSw; go_simp; (try with_reducible rfl)
              case' xr16 => simp only [Act.put, List.setIfInBounds_toArray, List.set_cons_zero, List.set_cons_succ]
              refine takeL (i := 17) (d := 72) (v := ?xv17) rfl (by rfl) (by kernel_rfl) (by kernel_rfl) (by kernel_rfl) (by kernel_rfl) (by rfl) (fun _ _ _ h => h) (Or.inl ⟨by rfl, ?xy17⟩) (by assumption) ?xr17
              case xy17 => intro w' hSw; obtain ⟨q1, q2, q3, q4⟩ := hSw; go_simp; (try with_reducible rfl)
              case' xr17 => simp only [Act.put, List.setIfInBounds_toArray, List.set_cons_zero, List.set_cons_succ]
              refine takeL (i := 18) (d := 73) (v := ?xv18) rfl (by rfl) (by kernel_rfl) (by kernel_rfl) (by kernel_rfl) (by kernel_rfl) (by rfl) (fun _ _ _ h => h) (Or.inl ⟨by rfl, ?xy18⟩) (by assumption) ?xr18
              case xy18 => intro w' hSw; obtain ⟨q1, q2, q3, q4⟩ := hSw; go_simp; (try with_reducible rfl)
              case' xr18 => simp only [Act.put, List.setIfInBounds_toArray, List.set_cons_zero, List.set_cons_succ]
              refine takeL (i := 19) (d := 74) (v := ?xv19) rfl (by rfl) (by kernel_rfl) (by kernel_rfl) (by kernel_rfl) (by kernel_rfl) (by rfl) (fun _ _ _ h => h) (Or.inl ⟨by rfl, ?xy19⟩) (by assumption) ?xr19
              case xy19 => intro w' hSw; obtain ⟨q1, q2, q3, q4⟩ := hSw; go_simp; (try with_reducible rfl)
              case' xr19 => simp only [Act.put, List.setIfInBounds_toArray, List.set_cons_zero, List.set_cons_succ]
              refine takeL (i := 20) (d := 75) (v := ?xv20) rfl (by rfl) (by kernel_rfl) (by kernel_rfl) (by kernel_rfl) (by kernel_rfl) (by rfl) (fun _ _ _ h => h) (Or.inl ⟨by rfl, ?xy20⟩) (by assumption) ?xr20
              case xy20 => intro w' hSw; obtain ⟨q1, q2, q3, q4⟩ := hSw; go_simp; (try with_reducible rfl)
              case' xr20 => simp only [Act.put, List.setIfInBounds_toArray, List.set_cons_zero, List.set_cons_succ]
              refine takeL (i := 21) (d := 76) (v := ?xv21) rfl (by rfl) (by kernel_rfl) (by kernel_rfl) (by kernel_rfl) (by kernel_rfl) (by rfl) (fun _ _ _ h => h) (Or.inl ⟨by rfl, ?xy21⟩) (by assumption) ?xr21
              case xy21 => intro w' hSw; obtain ⟨q1, q2, q3, q4⟩ := hSw; go_simp; (try with_reducible rfl)
              case' xr21 => simp only [Act.put, List.setIfInBounds_toArray, List.set_cons_zero, List.set_cons_succ]
              refine stepL (i := 22) (by kernel_rfl) rfl (fun K hK => ?xb22)
              go_simp
              refine hK.out _ _ ?xh22 (fun hHeld => ?xr22)
              case xh22 => exact keep4a hHeld
              case' xr22 => (clear hK K; try simp only [Act.put, List.setIfInBounds_toArray, List.set_cons_zero, List.set_cons_succ])
              refine stepL (i := 23) (by kernel_rfl) rfl (fun K hK => ?xb23)
              refine step_append_any _ (by rfl) _ _ 25 (by rfl) (wA.heap.size + 1) 3 i0 (.int .i64 0) 1 8 Try.underlying25 HI.out HZ.out.1 HZ.out.2.1 HZ.out.2.2 rfl (by decide) vx _ _ (by rfl) (HOA.out _) _ (some ⟨wr.heap.size, 0, none⟩) 1 1 [.int .i64 y] (by rfl) HRD.out (by simp [Value.oneCell']) (by simp only [maxLen]; omega) (by omega) (by simp; omega) ?_
              intro v5 w5 hown5 hg5 hat5
              obtain ⟨g5, cap5, hv5, hg50, hg51⟩ := hown5.form (Nat.succ_pos _)
              subst hv5
              obtain ⟨hgr, k1, k2, k3, k4, z5⟩ := HC5.out w5 hg5
              refine hK.out _ _ ?xh23 (fun hHeld => ?xr23)
              case xh23 => exact ⟨k1, k2, k3, k4⟩
              case' xr23 => (clear hK K; try simp only [Act.put, List.setIfInBounds_toArray])
              refine takeL (i := 24) (d := 79) (v := ?xv24) rfl (by rfl) (by kernel_rfl) (by kernel_rfl) (by kernel_rfl) (by kernel_rfl) (by rfl) (fun _ _ _ h => h) (Or.inl ⟨by rfl, ?xy24⟩) (by assumption) ?xr24
              case xy24 => intro w' hSw; obtain ⟨q1, q2, q3, q4⟩ := hSw; go_simp; (try with_reducible rfl)
              case' xr24 => simp only [Act.put]
              refine lastL (by kernel_rfl) rfl (by kernel_rfl) (fun K hK => ?xb25)
              go_simp
              refine hK.out _ _ ?xz
              have hput := nx_put (v5 := .slice (some ⟨g5, 0, none⟩) ((tgt (g.es.take j) x).length + 1) cap5) hxn HTN.out HNX.out hown5 (by rw [← HVX.out]; exact hgr) (fun g' e => by
                rcases hat5 with h5 | h5
                · exact .inl (by rw [← HVX.out, ← h5]; exact e)
                · rw [h5] at e
                  cases e
                  right
                  show wr.heap.size ≤ (wr.alloc _).heap.size
                  rw [al_size]; omega)
              have hb5 : Below wA.heap.size wA (w5.setCell ⟨wA.heap.size, x, none⟩ (.slice (some ⟨g5, 0, none⟩) ((tgt (g.es.take j) x).length + 1) cap5)) := (HBE.out.grown hgr hbA0 (fun k e => by have := HVL.out k e; omega)).setCell (Nat.le_refl _) _
              have HPUT := Lib.hid hput
              have HB5 := Lib.hid hb5
              clear hput hb5 hown5 hgr hg5 hat5 k1 k2 k3 k4 z5
              go_wp2
              go_roundw
              case rel => exact ⟨j + 1, _, by go_num, by omega, HPUT.out, HB5.out⟩
              case measure => simp [intOf]; omega
            · have hge2 : ¬ (j : Int) < (g.es.length : Int) := by omega
              rw [show g.es.take j = g.es from List.take_of_length_le (by omega)] at hnx
              obtain ⟨wB, rfl⟩ : ∃ wB : World, wB = wr := ⟨_, rfl⟩
              have hnxt := hnx.next (lo := wA.heap.size) (d := n) (Nat.le_refl _)
              obtain ⟨lb, ld, hlv, hlo, hlbw, hrows⟩ := hnxt
              cases hlv
              have d0B := (HBXA.out.below hbel).c0
              rw [HN.out] at d0B
              have hnumB := (HNUM.out.moves (Moves.of_new [] hbel) (by simp)).congr (g := fun i => leftV g.es [] i) (fun i _ => by unfold leftV; simp)
              have hBz : wA.heap.size ≤ wB.heap.size := hbel.size
              have HBXB := Lib.hid (HBXA.out.below hbel)
              have HNB := Lib.hid hnumB
              have HNXT := Lib.hid (hnx.next (lo := wA.heap.size) (d := n) (Nat.le_refl _))
              have HBELB := Lib.hid hbel
              clear hnx hnumB hbel hrows d0 HNX0 HBA
              have hwib : w.heap.size ≠ ib := by omega
              have hstart : ∀ k : Nat, k < n → (leftV g.es [] k = 0 ↔ (k : Int) ∈ avail (nxt g) n []) := fun k hk => by
                rw [leftV_zero HGD.out, mem_avail, HNN.out]; simp [hk]
              clear hstart
              have how : (wB.alloc (.cells #[] 3)).ownsRow wB.heap.size 3 1 (.slice (some ⟨wB.heap.size, 0, none⟩) 0 0) 0 [] := own_void _ _ _
              have hmB : Moves [] wB (wB.alloc (.cells #[] 3)) := Moves.of_new _ ((Below.refl _ _).alloc (Nat.le_refl _) _)
              have HOW := Lib.hid how
              have HMB := Lib.hid hmB
              have HLIFT : Hid (∀ wr, Moves [ib] wB wr → wr.cell? ⟨w.heap.size, 0, none⟩ = some (.int .i64 (n : Int)) ∧ Below w.heap.size w wr) := Lib.hid fun wr hm => by
                refine ⟨(hm.cell (by have := HBXB.out.lt; exact this) (by simpa using hwib) 0).trans d0B, HBXB.out.bel.trans (hm.below (Nat.le_of_lt HBXB.out.lt) (fun k hk => by simp at hk; subst hk; omega))⟩
              clear how hmB
              go_wp2
              go_loopg [10] n (fun f u wr => ∃ (v : Value) (out : List Int), v = u ∧ f + out.length = n ∧ Begun (nxt g) n out ∧ Hid (ordGo (nxt g) n f out = ordF (nxt g) n) ∧ NumAt wr ib n (fun i => leftV g.es out i) ∧ wr.ownsRow wB.heap.size 3 1 v out.length (I out) ∧ Moves [ib] wB wr)
              case atStart => exact ⟨_, [], rfl, by simp, begun_nil _ _, Lib.hid rfl, HNB.out.moves HMB.out (by simp), HOW.out, HMB.out.mono (by simp)⟩
              case round =>
                obtain ⟨v, out, rfl, hfk, hbeg, hgo, hnum, hown, hmv⟩ := hrel
                obtain ⟨d0, hbw9⟩ := HLIFT.out wr hmv
                obtain ⟨Xo, co, hvo, hro, _⟩ := own_rowS hown
                by_cases hlt : out.length < n
                · have hl1 : (out.length : Int) < (n : Int) := by omega
                  have hns := not_stuck HGD.out HNO.out (out := out) (by rw [HNN.out]; exact hbeg) (by rw [HNN.out]; exact hlt)
                  rw [HNN.out] at hns
                  obtain ⟨x, rest, hav⟩ : ∃ x rest, avail (nxt g) n out = x :: rest := by
                    cases h : avail (nxt g) n out with
                    | nil => exact absurd h hns
                    | cons x rest => exact ⟨x, rest, rfl⟩
                  have hxm : x ∈ avail (nxt g) n out := by rw [hav]; simp
                  have hxr := (mem_avail.1 hxm).1
                  obtain ⟨y, rfl⟩ : ∃ y : Nat, x = y := ⟨x.toNat, by omega⟩
                  have hyn : y < n := by omega
                  have hz : ∀ k : Nat, k < n → (leftV g.es out k = 0 ↔ (k : Int) ∈ avail (nxt g) n out) := fun k hk => by
                    rw [leftV_zero HGD.out, mem_avail, HNN.out]; simp [hk]
                  have hne : ∀ k : Nat, k < y → leftV g.es out k ≠ 0 := fun k hk h => by
                    have := head_least hav ((hz k (by omega)).1 h); omega
                  have hye : leftV g.es out y = 0 := (hz y hyn).2 hxm
                  obtain ⟨f, rfl⟩ : ∃ f, gk = f + 1 := ⟨gk - 1, by omega⟩
                  have hgo2 := (ordGo_next (k := f) hav).symm.trans hgo.out
                  have HNE := Lib.hid hne
                  have HYE := Lib.hid hye
                  have HGO2 := Lib.hid hgo2
                  have HBEG := Lib.hid hbeg
                  have HXM := Lib.hid hxm
                  have HNUM2 := Lib.hid hnum
                  have HOWN := Lib.hid hown
                  have HMV := Lib.hid hmv
                  subst hvo
                  clear hns hav hxm hxr hz hne hye hgo2 hbeg hnum hown hmv hgo hro hbw9
                  go_wp2
                  go_loopw [11] (fun i wr => ∃ k : Nat, i = .int .i64 k ∧ k ≤ y ∧ NumAt wr ib n (fun i => leftV g.es out i) ∧ wr.ownsRow wB.heap.size 3 1 (.slice Xo out.length co) out.length (I out) ∧ Moves [ib] wB wr) (fun i _ => y - (intOf i).toNat)
                  case atStart => exact ⟨0, rfl, by omega, HNUM2.out, HOWN.out, HMV.out⟩
                  case round =>
                    obtain ⟨k, rfl, hky, hnum, hown, hmv⟩ := hrel
                    have hkn : k < n := by omega
                    have hk0 : (0 : Int) ≤ (k : Int) := by omega
                    have hk1 : (k : Int) < (n : Int) := by omega
                    have hck : wr.cell? ⟨ib, k, none⟩ = some (.int .i64 (leftV g.es out k)) := hnum.2.1 k hkn
                    obtain ⟨q, hq⟩ : ∃ q, q = leftV g.es out k := ⟨_, rfl⟩
                    rw [← hq] at hck
                    by_cases he : k = y
                    · subst he
                      obtain rfl : q = 0 := hq.trans HYE.out
                      have hfk' := hnum.2.2 k
                      have hil : (I out).length = out.length := List.length_map _
                      have how2 : wr.ownsRow wB.heap.size 3 1 (.slice Xo out.length co) (I out).length (I out) := by rw [hil]; exact hown
                      have hwz : wB.heap.size ≤ wr.heap.size := hmv.2.2.2.1
                      have HNUM3 := Lib.hid hnum
                      have HMV3 := Lib.hid hmv
                      have HIL := Lib.hid hil
                      have HOW3 := Lib.hid how2
                      have hlo3 : ∀ q, (Value.slice Xo out.length co).ownBlock = some q → wB.heap.size ≤ q := fun q e => (hown.lt q e).1
                      have HLO3 := Lib.hid hlo3
                      clear hq hnum hown hmv hil how2 hlo3
                      go_wp2_with (at_builtin; refine app_new wB.heap.size (by rfl) _ _ 25 3 (.int .i64 0) 8 (by rfl) Try.underlying25 info_int rfl _ (I out) (.int .i64 (k : Int)) (by rfl) _ (by rfl) rfl rfl HOW3.out hwz (by have := HIL.out; omega) (by have := HIL.out; omega) ?_; intro v5 w5 ho5 hg5 hb5 hs5; have hm5 := HMV3.out.onto (Moves.of_grown (M := (Value.slice Xo out.length co).ownBlock.toList) hg5 (by intro k e; simp [e])) (fun q hq => .inr (HLO3.out q (by simpa using hq))); have hn5 := HNUM3.out.moves (Moves.of_grown (M := (Value.slice Xo out.length co).ownBlock.toList) hg5 (by intro k e; simp [e])) (fun hq => by have := HLO3.out ib (by simpa using hq); omega); have hc5 : w5.cell? ⟨ib, k, none⟩ = some _ := hn5.2.1 k hkn; have hz5 := hn5.2.2 k; have HM5 := Lib.hid hm5; have HN5 := Lib.hid hn5; have HO5 := Lib.hid ho5; clear hm5 hn5 ho5 hg5 hb5 hs5 hck hfk')
                      go_loopw [12] (fun i wr => ∃ m : Nat, i = .int .i64 m ∧ m ≤ (tgt g.es k).length ∧ NumAt wr ib n (fun i => leftM g.es out k m i) ∧ wr.ownsRow wB.heap.size 3 1 v5 (out ++ [(k : Int)]).length (I (out ++ [(k : Int)])) ∧ Moves [ib] wB wr) (fun i _ => (tgt g.es k).length - (intOf i).toNat)
                      case atStart =>
                        refine ⟨0, rfl, by omega, HN5.out.put hkn (fun i _ => ?_), ?_, HM5.out.trans (Moves.set _ _ _ (by simp))⟩
                        · rw [leftM_zero]
                          by_cases e : i = k
                          · subst e; simp
                          · rw [if_neg (by omega), if_neg e]
                        · have h5 := HO5.out
                          rw [HIL.out] at h5
                          rw [show I (out ++ [(k : Int)]) = I out ++ [.int .i64 (k : Int)] from List.map_append, List.length_append]
                          exact own_low h5 _ _ (by show ib < _; omega)
                      case round =>
                        obtain ⟨m, rfl, hm, hnum, hown, hmv⟩ := hrel
                        obtain ⟨lb2, ld2, hlv2, _, hlb2, hrows2⟩ := HNXT.out.moves hmv (fun q hq => .inl (by simp at hq; subst hq; omega))
                        cases hlv2
                        obtain ⟨Y, dY, hcY, hrY, hYlo⟩ := hrows2 k hkn
                        have htl : (tgt g.es k).length ≤ 16384 := by have := tgt_length g.es k; omega
                        have hm0 : (0 : Int) ≤ (m : Int) := by omega
                        have hibY : ∀ b o, Y = some ⟨b, o, none⟩ → b ≠ ib := fun b o e => by have := hYlo b o e; omega
                        by_cases hlm : m < (tgt g.es k).length
                        · have hm1 : (m : Int) < ((tgt g.es k).length : Int) := by omega
                          obtain ⟨b, off, rfl, hcm⟩ := hrY.int hlm
                          have hzr := (HGD.out.all _ (mem_tgt.1 (List.getElem_mem hlm))).2
                          simp only at hzr
                          obtain ⟨z, hz⟩ : ∃ z : Nat, (tgt g.es k)[m] = (z : Int) := ⟨(tgt g.es k)[m].toNat, by omega⟩
                          have hnx := leftM_next (out := out) hlm hz
                          rw [hz] at hcm hzr
                          have hzn : z < n := by have := HN.out; omega
                          have hz0 : (0 : Int) ≤ (z : Int) := by omega
                          have hz1 : (z : Int) < (n : Int) := by omega
                          have hcz : wr.cell? ⟨ib, z, none⟩ = some (.int .i64 (leftM g.es out k m z)) := hnum.2.1 z hzn
                          have hfz := hnum.2.2 z
                          have hbd := leftM_bound (es := g.es) out k m z
                          obtain ⟨q, hq⟩ : ∃ q, q = leftM g.es out k m z := ⟨_, rfl⟩
                          rw [← hq] at hcz hbd hnx
                          obtain ⟨hq0, hq1⟩ := hbd
                          have hq2 : -16385 ≤ q := by omega
                          have hq3 : q ≤ 16384 := by omega
                          have HPUT := Lib.hid (hnum.put (g := fun i => leftM g.es out k (m + 1) i) (y := q - 1) hzn (fun i _ => by
                            rw [hnx]
                            by_cases e : i = z
                            · subst e; simp
                            · rw [if_neg (by omega), if_neg e]))
                          have HOWN2 := Lib.hid (own_low hown ⟨ib, z, none⟩ (.int .i64 (q - 1)) (by show ib < _; omega))
                          have HMV2 := Lib.hid (hmv.trans (Moves.set (M := [ib]) wr ⟨ib, z, none⟩ (.int .i64 (q - 1)) (by simp)))
                          clear hq hnx hnum hown hmv hrows2 hrY hYlo hz hq0 hq1 hibY
                          go_wp2
                          go_roundw
                          case rel => exact ⟨m + 1, by go_num, by omega, HPUT.out, HOWN2.out, HMV2.out⟩
                          case measure => simp [intOf]; omega
                        · have hge9 : ¬ (m : Int) < ((tgt g.es k).length : Int) := by omega
                          have hdn : ∀ i : Int, leftM g.es out k m i = leftV g.es (out ++ [(k : Int)]) i := fun i => leftM_done HGD.out (by rw [HNN.out]; exact HBEG.out) (by rw [HNN.out]; exact HXM.out) (by omega) i
                          have HNUM4 := Lib.hid (hnum.congr (g := fun i => leftV g.es (out ++ [(k : Int)]) i) (fun i _ => (hdn i).symm))
                          have HOWN4 := Lib.hid hown
                          have HMV4 := Lib.hid hmv
                          clear hnum hown hmv hrows2 hrY hYlo hdn hibY
                          go_wp2
                          go_roundg f
                          case measure => omega
                          case rel => exact ⟨_, out ++ [(k : Int)], rfl, by simp; omega, HBEG.out.next HXM.out, Lib.hid HGO2.out, HNUM4.out, HOWN4.out, HMV4.out⟩
                    · have hqn : (q != 0) = true := by
                        have := HNE.out k (by omega)
                        rw [hq]; simpa using this
                      have HNUM3 := Lib.hid hnum
                      have HOWN3 := Lib.hid hown
                      have HMV3 := Lib.hid hmv
                      clear hq hnum hown hmv
                      go_wp2
                      go_roundw
                      case rel => exact ⟨k + 1, by go_num, by omega, HNUM3.out, HOWN3.out, HMV3.out⟩
                      case measure => simp [intOf]; omega
                · have hl1 : ¬ (out.length : Int) < (n : Int) := by omega
                  have hbl := hbeg.length
                  obtain rfl : gk = 0 := by omega
                  have hfin : out = ordF (nxt g) n := hgo.out
                  have HFIN : Hid (RowErr (ordL g) (ordE g) w (.returned (.tuple #[.slice Xo out.length co, .int .i64 0])) wr) := Lib.hid (by
                    rw [HL.out, HE.out, HNN.out, ← hfin]
                    exact ⟨Xo, co, rfl, hro, hbw9⟩)
                  subst hvo
                  clear hbeg hgo hnum hown hmv hro hbw9 hfin hfk
                  go_wp2
                  go_ret2
                  exact HFIN.out
    · have hlr : 0 < (roundL g).length := List.length_pos_iff.2 hr0
      have hlr1 : (0 : Int) < ((roundL g).length : Int) := by omega
      have hE : ordE g = 150 := by unfold ordE; rw [if_pos HKK.out.symm, if_neg (fun h => hr0 ((ord_round hgood).1 h))]
      have hL : ordL g = [] := by unfold ordL; rw [hE]; rfl
      have HP : Hid (RowErr (ordL g) (ordE g) w (.returned (.tuple #[.slice none 0 0, .int .i64 150])) w1) := Lib.hid (by rw [hL, hE]; exact rowErr_no hbx1.bel)
      clear hbx1 hbx hb1 hL hE hr0 hgood hlr
      go_wp2
      go_ret2
      exact HP.out
  · have hkb : (kk != 0) = true := by simpa using hk
    have hE : ordE g = kk := by unfold ordE; rw [if_neg (by rw [← HKK.out]; exact hk)]; exact HKK.out.symm
    have hL : ordL g = [] := by unfold ordL; rw [if_neg (by rw [hE]; exact hk)]
    have HP : Hid (RowErr (ordL g) (ordE g) w (.returned (.tuple #[.slice none 0 0, .int .i64 kk])) w1) := Lib.hid (by rw [hL, hE]; exact rowErr_no hbx1.bel)
    clear hbx1 hbx hb1 hL hE
    go_wp2
    go_ret2
    exact HP.out
end Go.Proofs.Ytpdfcffeinbcaaa
