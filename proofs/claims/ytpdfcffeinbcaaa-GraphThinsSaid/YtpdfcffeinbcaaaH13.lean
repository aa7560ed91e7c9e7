/- The document's ways: the walk. -/
import Derived.Test.YtpdfcffeinbcaaaH12
namespace Go.Proofs.Ytpdfcffeinbcaaa
open Go.RowKit
theorem keep4a {w : World} {a b c e : Addr} {u v z y : Value} {o : Obj} (h : w.cell? a = some u ∧ w.cell? b = some v ∧ w.cell? c = some z ∧ w.cell? e = some y) : (w.alloc o).cell? a = some u ∧ (w.alloc o).cell? b = some v ∧ (w.alloc o).cell? c = some z ∧ (w.alloc o).cell? e = some y :=
  ⟨(World.cell?_alloc_lt _ _ _ (World.block_lt_of_cell? w _ h.1)).trans h.1, (World.cell?_alloc_lt _ _ _ (World.block_lt_of_cell? w _ h.2.1)).trans h.2.1, (World.cell?_alloc_lt _ _ _ (World.block_lt_of_cell? w _ h.2.2.1)).trans h.2.2.1, (World.cell?_alloc_lt _ _ _ (World.block_lt_of_cell? w _ h.2.2.2)).trans h.2.2.2⟩
theorem grown_of1 {wr w5 : World} {o : Obj} {r : Option Nat} (h : (wr.alloc o).drew.grownBy w5 r) : wr.grownBy w5 r :=
  ⟨h.os, h.tape, h.output, by have := h.size; have h2 : (wr.alloc o).heap.size ≤ w5.heap.size := this; rw [al_size] at h2; omega, fun k hk hne => by
    rw [h.block k (by show k < (wr.alloc o).heap.size; rw [al_size]; omega) hne]
    exact heap_alloc_old _ _ hk⟩
theorem nx_put {n ob j x : Nat} {es : List (Int × Int)} {wr w5 : World} {rows : Nat → Value} {y : Int} {v5 : Value} (hxn : x < n)
    (htn : ∀ i : Int, tgt (es.take (j + 1)) i = if (x : Int) = i then tgt (es.take j) i ++ [y] else tgt (es.take j) i) (h : NxAt n ob wr rows (fun k => tgt (es.take j) k))
    (ho : w5.ownsRow (ob + 1) 3 1 v5 ((tgt (es.take j) x).length + 1) (I (tgt (es.take j) x) ++ [.int .i64 y])) (hg : wr.grownBy w5 (rows x).ownBlock)
    (hat : ∀ g, v5.ownBlock = some g → (rows x).ownBlock = some g ∨ wr.heap.size ≤ g) : NxAt n ob (w5.setCell ⟨ob, x, none⟩ v5) (upd rows x v5) (fun k => tgt (es.take (j + 1)) k) := by
  have htx := htn x
  rw [if_pos rfl] at htx
  have ho2 : w5.ownsRow (ob + 1) 3 1 v5 (tgt (es.take (j + 1)) x).length (I (tgt (es.take (j + 1)) x)) := by
    have e : I (tgt (es.take j) x ++ [y]) = I (tgt (es.take j) x) ++ [.int .i64 y] := List.map_append
    rw [htx, List.length_append, e]
    exact ho
  refine (h.put hxn ho2 hg hat).congr (fun i hi => ?_)
  by_cases e : i = x
  · subst e; rw [upd_same]
  · rw [upd_far _ _ e, htn, if_neg (by omega)]
set_option maxHeartbeats 8000000 in
set_option maxRecDepth 100000 in
theorem ways_c (g : XG) (E : Option Addr) (d : Nat) (src : List Int) (X : Option Addr) (dx : Nat) (wo : Int) (w : World) (h : GAt w E g) (hg : Good g) (hr : RowAt w X (I src)) (hrl : src.length ≤ 4096) (hs : ∀ x ∈ src, 0 ≤ x ∧ x < g.n) :
    Calls Try.prog 53 #[g.val E d, .slice X src.length dx, .int .i64 wo] w fun e w' => ∃ sb S, e = .returned (.slice (some ⟨sb, 0, none⟩) g.n.toNat g.n.toNat) ∧ w.heap.size ≤ sb ∧ SeenAt w' sb g.n.toNat S ∧ (∀ x, x ∈ S ↔ Way (tgt g.es) wo src x) ∧ Below w.heap.size w w' := by
  obtain ⟨n, hn⟩ : ∃ n : Nat, g.n = n := ⟨g.n.toNat, by have := hg.n0; omega⟩
  have hn4 : n ≤ 4096 := by have := hg.n1; omega
  have hlen := hg.len
  have hv : g.val E d = .agg #[.int .i64 (n : Int), .slice E g.es.length d] := by unfold XG.val; rw [hn]
  rw [hv, hn, Int.toNat_natCast]
  rw [hn] at hs
  have hmk : ∀ W : World, (Instr.makeSlice 45 (.int .i64 (n : Int)) (.int .i64 (n : Int))).run Try.prog W = .ok (.slice (some ⟨W.heap.size, 0, none⟩) n n) (W.alloc (.cells (madeCells #[.slice none 0 0] n) 25)) :=
    fun W => run_make_row' 45 25 (.slice none 0 0) 24 Try.underlying45 info_ints rfl .i64 .i64 n (by omega) (by omega) W
  have hmb : ∀ W : World, (Instr.makeSlice 49 (.int .i64 (n : Int)) (.int .i64 (n : Int))).run Try.prog W = .ok (.slice (some ⟨W.heap.size, 0, none⟩) n n) (W.alloc (.cells (madeCells #[.bool false] n) 4)) :=
    fun W => run_make_row' 49 4 (.bool false) 1 Try.underlying49 info_bool rfl .i64 .i64 n (by omega) (by omega) W
  obtain ⟨i0, hi, hzz⟩ := Option.map_eq_some_iff.1 info_int
  simp only [Prod.mk.injEq] at hzz
  have HI := Lib.hid hi
  have HZ := Lib.hid hzz
  have HG := Lib.hid h
  have HGD := Lib.hid hg
  have HN := Lib.hid hn
  have HR := Lib.hid hr
  have HS := Lib.hid hs
  clear hi hzz h hg hn hv hr hs
  go_enter Try.func53, Try.ntmps53
  go_wp2
  obtain ⟨w0, hw0⟩ : ∃ w0, w0 = w.alloc (.cells #[.int .i64 (n : Int), .slice E g.es.length d] 24) := ⟨_, rfl⟩
  obtain ⟨w1, hw1⟩ : ∃ w1, w1 = w0.alloc (.cells (madeCells #[.bool false] n) 4) := ⟨_, rfl⟩
  obtain ⟨w2, hw2⟩ : ∃ w2, w2 = w1.alloc (.cells #[] 3) := ⟨_, rfl⟩
  have hz0 : w0.heap.size = w.heap.size + 1 := by rw [hw0, al_size]
  have hz1 : w1.heap.size = w.heap.size + 1 + 1 := by rw [hw1, al_size, hz0]
  have hbx0 : BoxAt w w0 w.heap.size g E d := by rw [hw0]; have := box_at (w := w) (t := 24) g E d; rwa [HN.out] at this
  have hsn : SeenAt w1 (w.heap.size + 1) n [] := by rw [hw1, ← hz0]; exact seen_made w0 n
  have hb01 : Below w0.heap.size w0 w1 := by rw [hw1]; exact (Below.refl _ _).alloc (Nat.le_refl _) _
  have hb12 : Below w1.heap.size w1 w2 := by rw [hw2]; exact (Below.refl _ _).alloc (Nat.le_refl _) _
  have hbx2 := (hbx0.below hb01).below hb12
  have hsn2 := hsn.moves (Moves.of_new [] hb12) (by simp)
  have how2 : w2.ownsRow (w.heap.size + 1 + 1) 3 1 (.slice (some ⟨w.heap.size + 1 + 1, 0, none⟩) 0 0) 0 [] := by
    rw [hw2]
    have := World.ownsRow_made (size := 1) (e := 3) (base := w.heap.size + 1 + 1) w1 #[] 0 (by omega) (by simp [maxLen]) (by simp)
    rwa [hz1] at this
  rw [← hw0, ← hw1, ← hw2]
  have HBX2 := Lib.hid hbx2
  have HSN2 := Lib.hid hsn2
  have HOW2 := Lib.hid how2
  clear hw0 hw1 hw2 hz0 hz1 hbx0 hsn hb01 hb12 hbx2 hsn2 how2
  go_loopw [8, 9] (fun v i wr => ∃ j : Nat, i = .int .i64 j ∧ j ≤ src.length ∧ wr.ownsRow (w.heap.size + 1 + 1) 3 1 v (src.take j).length (I (src.take j)) ∧ SeenAt wr (w.heap.size + 1) n [] ∧ BoxAt w wr w.heap.size g E d) (fun _ i _ => src.length - (intOf i).toNat)
  case atStart => exact ⟨0, rfl, by omega, HOW2.out, HSN2.out, HBX2.out⟩
  case round =>
    obtain ⟨j, rfl, hj, hown, hsn, hbox⟩ := hrel
    by_cases hlt : j < src.length
    · have hj0 : (0 : Int) ≤ (j : Int) := by omega
      have hj1 : (j : Int) < (src.length : Int) := by omega
      obtain ⟨b, off, rfl, hcj⟩ := (HR.out.below hbox.bel).int hlt
      obtain ⟨x, hx⟩ : ∃ x, x = src[j] := ⟨_, rfl⟩
      rw [← hx] at hcj
      have hap : I (src.take (j + 1)) = I (src.take j) ++ [.int .i64 x] := by rw [List.take_succ_eq_append_getElem hlt, ← hx]; exact List.map_append
      have htl : (src.take j).length = j := by rw [List.length_take]; omega
      have htl2 : (src.take (j + 1)).length = j + 1 := by rw [List.length_take]; omega
      have hil : (I (src.take j)).length = j := by rw [List.length_map, htl]
      have hown2 : wr.ownsRow (w.heap.size + 1 + 1) 3 1 u8 (I (src.take j)).length (I (src.take j)) := by rw [hil]; rwa [htl] at hown
      have hbs : w.heap.size + 1 + 1 ≤ wr.heap.size := by have := hsn.1; omega
      have HAP := Lib.hid hap
      have HTL := Lib.hid htl2
      have HIL := Lib.hid hil
      have HOWN2 := Lib.hid hown2
      have HSN := Lib.hid hsn
      have HBX := Lib.hid hbox
      clear hx hap htl htl2 hil hown hown2 hsn hbox
      go_wp2_with (at_builtin; refine app_new (w.heap.size + 1 + 1) (by rfl) _ _ 25 3 (.int .i64 0) 8 (by rfl) Try.underlying25 info_int rfl _ (I (src.take j)) (.int .i64 x) (by rfl) _ (by rfl) rfl rfl HOWN2.out hbs (by have := HIL.out; omega) (by have := HIL.out; omega) ?_; intro v5 w5 ho5 hg5 hb5 hs5)
      have hlo : ∀ k, u8.ownBlock = some k → w.heap.size + 1 + 1 ≤ k := fun k e => (HOWN2.out.lt k e).1
      have hsn5 := HSN.out.moves (Moves.of_grown (M := u8.ownBlock.toList) hg5 (by intro k e; simp [e])) (fun hm => by have := hlo _ (by simpa using hm); omega)
      have hbx5 := HBX.out.grown hg5 (fun k e => by have := hlo k e; omega)
      rw [HIL.out] at ho5
      have HSN5 := Lib.hid hsn5
      have HBX5 := Lib.hid hbx5
      clear hg5 hb5 hlo hsn5 hbx5
      go_roundw
      case rel => exact ⟨j + 1, by go_num, by omega, by rw [HTL.out, HAP.out]; exact ho5, HSN5.out, HBX5.out⟩
      case measure => simp [intOf]; omega
    · have hge : ¬ (j : Int) < (src.length : Int) := by omega
      rw [show src.take j = src from List.take_of_length_le (by omega)] at hown
      obtain ⟨wA, rfl⟩ : ∃ wA : World, wA = wr := ⟨_, rfl⟩
      obtain ⟨Y, dY, hvY, _⟩ := own_row1 hown
      rw [List.length_map] at hvY
      subst hvY
      have d0 := hbox.c0
      have d1 := hbox.c1
      rw [HN.out] at d0
      have hnx0 := nx_made wA n
      have hbA : Below wA.heap.size wA (wA.alloc (.cells (madeCells #[.slice none 0 0] n) 25)) := (Below.refl _ _).alloc (Nat.le_refl _) _
      have hA1 : w.heap.size + 1 < wA.heap.size := hsn.1
      have HOW := Lib.hid hown
      have HSNA := Lib.hid hsn
      have HBXA := Lib.hid hbox
      have HNX0 := Lib.hid hnx0
      have HBA := Lib.hid hbA
      clear hown hsn hbox hnx0 hbA
      go_wp2
      go_loopw [11] (fun i wr => ∃ (j : Nat) (rows : Nat → Value), i = .int .i64 j ∧ j ≤ g.es.length ∧ NxAt n wA.heap.size wr rows (fun k => tgt (g.es.take j) k) ∧ Below wA.heap.size wA wr) (fun i _ => g.es.length - (intOf i).toNat)
      case atStart => exact ⟨0, _, rfl, by omega, HNX0.out, HBA.out⟩
      case round =>
        obtain ⟨j, rows, rfl, hj, hnx, hbel⟩ := hrel
        have c1 := (HBXA.out.below hbel).c1
        by_cases hlt : j < g.es.length
        · have hj0 : (0 : Int) ≤ (j : Int) := by omega
          have hj1 : (j : Int) < (g.es.length : Int) := by omega
          obtain ⟨b, off, rfl, hbl, ha0, hb0⟩ := HG.out.edge hlt
          have hbw := (HBXA.out.below hbel).bel
          have ha := (hbw.cell (p := ⟨b, off + j * 2, none⟩) hbl).trans ha0
          have hb := (hbw.cell (p := ⟨b, off + j * 2 + 1, none⟩) hbl).trans hb0
          have hall := HGD.out.all _ (List.getElem_mem hlt)
          have htn := tgt_next g.es j hlt
          obtain ⟨x, hx⟩ : ∃ x : Nat, (x : Int) = g.es[j].1 := ⟨g.es[j].1.toNat, by omega⟩
          obtain ⟨y, hy⟩ : ∃ y, y = g.es[j].2 := ⟨_, rfl⟩
          rw [← hx] at ha hall htn
          rw [← hy] at hb htn
          have hxn : x < n := by have := HN.out; omega
          have hx0 : (0 : Int) ≤ (x : Int) := by omega
          have hx1 : (x : Int) < (n : Int) := by omega
          obtain ⟨hcx, hox⟩ := hnx.2.2.1 x hxn
          have hob := hnx.1
          obtain ⟨vx, hvx⟩ : ∃ vx, vx = rows x := ⟨_, rfl⟩
          rw [← hvx] at hcx hox
          have hoa : ∀ o, (wr.alloc o).drew.ownsRow (wA.heap.size + 1) 3 1 vx (tgt (g.es.take j) x).length (I (tgt (g.es.take j) x)) := fun o => own_drew (hox.alloc _)
          have hrd : Reads (wr.alloc (.cells #[.int .i64 y] 3)).drew (wr.heap.size + 1) 1 (some ⟨wr.heap.size, 0, none⟩) 1 [.int .i64 y] := by
            have := reads_new wr [.int .i64 y] 3 1 rfl
            rw [al_size] at this
            exact this.drew
          have htl : (tgt (g.es.take j) x).length ≤ 16384 := by have := tgt_length (g.es.take j) x; rw [List.length_take] at this; omega
          have hvl : ∀ k, vx.ownBlock = some k → wA.heap.size + 1 ≤ k := fun k e => (hox.lt k e).1
          have hfz := hnx.2.1 x
          have hc5 : ∀ w5, (wr.alloc (.cells #[.int .i64 y] 3)).drew.grownBy w5 vx.ownBlock → wr.grownBy w5 vx.ownBlock ∧ w5.cell? ⟨w.heap.size, 1, none⟩ = some (.slice (some ⟨b, off, none⟩) g.es.length d) ∧ w5.cell? ⟨b, off + j * 2, none⟩ = some (.int .i64 (x : Int)) ∧ w5.cell? ⟨b, off + j * 2 + 1, none⟩ = some (.int .i64 y) ∧
              w5.cell? ⟨wA.heap.size, x, none⟩ = some vx ∧ w5.frozen? ⟨wA.heap.size, x, none⟩ = false := fun w5 hg => by
            have hg1 := grown_of1 hg
            have hb1 := hg1.block w.heap.size (by have := hbel.size; omega) (fun e => by have := hvl _ e.symm; omega)
            have hb2 := hg1.block b (by have := hbel.size; omega) (fun e => by have := hvl _ e.symm; omega)
            have hb3 := hg1.block wA.heap.size hob (fun e => by have := hvl _ e.symm; omega)
            exact ⟨hg1, (World.cell?_of_block (a := ⟨w.heap.size, 1, none⟩) hb1).trans c1, (World.cell?_of_block (a := ⟨b, off + j * 2, none⟩) hb2).trans ha, (World.cell?_of_block (a := ⟨b, off + j * 2 + 1, none⟩) hb2).trans hb, (World.cell?_of_block (a := ⟨wA.heap.size, x, none⟩) hb3).trans hcx, (frozen_block (a := ⟨wA.heap.size, x, none⟩) hb3).trans hfz⟩
          have hbA0 := hbel.size
          have HOA := Lib.hid hoa
          have HRD := Lib.hid hrd
          have HC5 := Lib.hid hc5
          have HTN := Lib.hid htn
          have HNX := Lib.hid hnx
          have HBE := Lib.hid hbel
          have HVX := Lib.hid hvx
          have HVL := Lib.hid hvl
          have HCX := Lib.hid hcx
          clear hoa hrd hc5 htn hnx hbel hvx hvl hox hx hy hall ha0 hb0 hbw hfz
          go_wp2_with fail
          refine region_heldL (L := 25) (S := (fun w' => w'.cell? ⟨w.heap.size, 1, none⟩ = some (.slice (some ⟨b, off, none⟩) g.es.length d) ∧ w'.cell? ⟨b, off + j * 2, none⟩ = some (.int .i64 (x : Int)) ∧ w'.cell? ⟨b, off + j * 2 + 1, none⟩ = some (.int .i64 y) ∧ w'.cell? ⟨wA.heap.size, x, none⟩ = some vx)) (by kernel_rfl) ?xs (fun hHeld => ?xr)
          case xs => refine ⟨?_, ?_, ?_, ?_⟩ <;> go_keep
          refine takeL (i := 0) (d := 42) (v := ?xv0) rfl (by rfl) (by kernel_rfl) (by kernel_rfl) (by kernel_rfl) (by kernel_rfl) (by rfl) (fun _ _ _ h => h) (Or.inl ⟨by rfl, ?xy0⟩) (by assumption) ?xr0
          case xy0 => intro w' hSw; obtain ⟨q1, q2, q3, q4⟩ := hSw; go_simp; (try with_reducible rfl)
          case' xr0 => simp only [Act.put, List.setIfInBounds_toArray, List.set_cons_zero, List.set_cons_succ]
          refine takeL (i := 1) (d := 43) (v := ?xv1) rfl (by rfl) (by kernel_rfl) (by kernel_rfl) (by kernel_rfl) (by kernel_rfl) (by rfl) (fun _ _ _ h => h) (Or.inl ⟨by rfl, ?xy1⟩) (by assumption) ?xr1
          case xy1 => intro w' hSw; obtain ⟨q1, q2, q3, q4⟩ := hSw; go_simp; (try with_reducible rfl)
          case' xr1 => simp only [Act.put, List.setIfInBounds_toArray, List.set_cons_zero, List.set_cons_succ]
          refine takeL (i := 2) (d := 44) (v := ?xv2) rfl (by rfl) (by kernel_rfl) (by kernel_rfl) (by kernel_rfl) (by kernel_rfl) (by rfl) (fun _ _ _ h => h) (Or.inl ⟨by rfl, ?xy2⟩) (by assumption) ?xr2
          case xy2 => intro w' hSw; obtain ⟨q1, q2, q3, q4⟩ := hSw; go_simp; (try with_reducible rfl)
          case' xr2 => simp only [Act.put, List.setIfInBounds_toArray, List.set_cons_zero, List.set_cons_succ]
          refine takeL (i := 3) (d := 45) (v := ?xv3) rfl (by rfl) (by kernel_rfl) (by kernel_rfl) (by kernel_rfl) (by kernel_rfl) (by rfl) (fun _ _ _ h => h) (Or.inl ⟨by rfl, ?xy3⟩) (by assumption) ?xr3
          case xy3 => intro w' hSw; obtain ⟨q1, q2, q3, q4⟩ := hSw; go_simp; (try with_reducible rfl)
          case' xr3 => simp only [Act.put, List.setIfInBounds_toArray, List.set_cons_zero, List.set_cons_succ]
          refine takeL (i := 4) (d := 46) (v := ?xv4) rfl (by rfl) (by kernel_rfl) (by kernel_rfl) (by kernel_rfl) (by kernel_rfl) (by rfl) (fun _ _ _ h => h) (Or.inl ⟨by rfl, ?xy4⟩) (by assumption) ?xr4
          case xy4 => intro w' hSw; obtain ⟨q1, q2, q3, q4⟩ := hSw; go_simp; (try with_reducible rfl)
          case' xr4 => simp only [Act.put, List.setIfInBounds_toArray, List.set_cons_zero, List.set_cons_succ]
          refine takeL (i := 5) (d := 47) (v := ?xv5) rfl (by rfl) (by kernel_rfl) (by kernel_rfl) (by kernel_rfl) (by kernel_rfl) (by rfl) (fun _ _ _ h => h) (Or.inl ⟨by rfl, ?xy5⟩) (by assumption) ?xr5
          case xy5 => intro w' hSw; obtain ⟨q1, q2, q3, q4⟩ := hSw; go_simp; (try with_reducible rfl)
          case' xr5 => simp only [Act.put, List.setIfInBounds_toArray, List.set_cons_zero, List.set_cons_succ]
          refine takeL (i := 6) (d := 48) (v := ?xv6) rfl (by rfl) (by kernel_rfl) (by kernel_rfl) (by kernel_rfl) (by kernel_rfl) (by rfl) (fun _ _ _ h => h) (Or.inl ⟨by rfl, ?xy6⟩) (by assumption) ?xr6
          case xy6 => intro w' hSw; obtain ⟨q1, q2, q3, q4⟩ := hSw; go_simp; (try with_reducible rfl)
          case' xr6 => simp only [Act.put, List.setIfInBounds_toArray, List.set_cons_zero, List.set_cons_succ]
          refine takeL (i := 7) (d := 49) (v := ?xv7) rfl (by rfl) (by kernel_rfl) (by kernel_rfl) (by kernel_rfl) (by kernel_rfl) (by rfl) (fun _ _ _ h => h) (Or.inl ⟨by rfl, ?xy7⟩) (by assumption) ?xr7
          case xy7 => intro w' hSw; obtain ⟨q1, q2, q3, q4⟩ := hSw; go_simp; (try with_reducible rfl)
          case' xr7 => simp only [Act.put, List.setIfInBounds_toArray, List.set_cons_zero, List.set_cons_succ]
          refine takeL (i := 8) (d := 50) (v := ?xv8) rfl (by rfl) (by kernel_rfl) (by kernel_rfl) (by kernel_rfl) (by kernel_rfl) (by rfl) (fun _ _ _ h => h) (Or.inl ⟨by rfl, ?xy8⟩) (by assumption) ?xr8
          case xy8 => intro w' hSw; obtain ⟨q1, q2, q3, q4⟩ := hSw; go_simp; (try with_reducible rfl)
          case' xr8 => simp only [Act.put, List.setIfInBounds_toArray, List.set_cons_zero, List.set_cons_succ]
          refine takeL (i := 9) (d := 51) (v := ?xv9) rfl (by rfl) (by kernel_rfl) (by kernel_rfl) (by kernel_rfl) (by kernel_rfl) (by rfl) (fun _ _ _ h => h) (Or.inl ⟨by rfl, ?xy9⟩) (by assumption) ?xr9
          case xy9 => intro w' hSw; obtain ⟨q1, q2, q3, q4⟩ := hSw; go_simp; (try with_reducible rfl)
          case' xr9 => simp only [Act.put, List.setIfInBounds_toArray, List.set_cons_zero, List.set_cons_succ]
          refine takeL (i := 10) (d := 52) (v := ?xv10) rfl (by rfl) (by kernel_rfl) (by kernel_rfl) (by kernel_rfl) (by kernel_rfl) (by rfl) (fun _ _ _ h => h) (Or.inl ⟨by rfl, ?xy10⟩) (by assumption) ?xr10
          case xy10 => intro w' hSw; obtain ⟨q1, q2, q3, q4⟩ := hSw; go_simp; (try with_reducible rfl)
          case' xr10 => simp only [Act.put, List.setIfInBounds_toArray, List.set_cons_zero, List.set_cons_succ]
          refine takeL (i := 11) (d := 53) (v := ?xv11) rfl (by rfl) (by kernel_rfl) (by kernel_rfl) (by kernel_rfl) (by kernel_rfl) (by rfl) (fun _ _ _ h => h) (Or.inl ⟨by rfl, ?xy11⟩) (by assumption) ?xr11
          case xy11 => intro w' hSw; obtain ⟨q1, q2, q3, q4⟩ := hSw; go_simp; (try with_reducible rfl)
          case' xr11 => simp only [Act.put, List.setIfInBounds_toArray, List.set_cons_zero, List.set_cons_succ]
          refine takeL (i := 12) (d := 54) (v := ?xv12) rfl (by rfl) (by kernel_rfl) (by kernel_rfl) (by kernel_rfl) (by kernel_rfl) (by rfl) (fun _ _ _ h => h) (Or.inl ⟨by rfl, ?xy12⟩) (by assumption) ?xr12
          case xy12 => intro w' hSw; obtain ⟨q1, q2, q3, q4⟩ := hSw; go_simp; (try with_reducible rfl)
          case' xr12 => simp only [Act.put, List.setIfInBounds_toArray, List.set_cons_zero, List.set_cons_succ]
          refine takeL (i := 13) (d := 55) (v := ?xv13) rfl (by rfl) (by kernel_rfl) (by kernel_rfl) (by kernel_rfl) (by kernel_rfl) (by rfl) (fun _ _ _ h => h) (Or.inl ⟨by rfl, ?xy13⟩) (by assumption) ?xr13
          case xy13 => intro w' hSw; obtain ⟨q1, q2, q3, q4⟩ := hSw; go_simp; (try with_reducible rfl)
          case' xr13 => simp only [Act.put, List.setIfInBounds_toArray, List.set_cons_zero, List.set_cons_succ]
          refine takeL (i := 14) (d := 56) (v := ?xv14) rfl (by rfl) (by kernel_rfl) (by kernel_rfl) (by kernel_rfl) (by kernel_rfl) (by rfl) (fun _ _ _ h => h) (Or.inl ⟨by rfl, ?xy14⟩) (by assumption) ?xr14
          case xy14 => intro w' hSw; obtain ⟨q1, q2, q3, q4⟩ := hSw; go_simp; (try with_reducible rfl)
          case' xr14 => simp only [Act.put, List.setIfInBounds_toArray, List.set_cons_zero, List.set_cons_succ]
          refine takeL (i := 15) (d := 57) (v := ?xv15) rfl (by rfl) (by kernel_rfl) (by kernel_rfl) (by kernel_rfl) (by kernel_rfl) (by rfl) (fun _ _ _ h => h) (Or.inl ⟨by rfl, ?xy15⟩) (by assumption) ?xr15
          case xy15 => intro w' hSw; obtain ⟨q1, q2, q3, q4⟩ := hSw; go_simp; (try with_reducible rfl)
          case' xr15 => simp only [Act.put, List.setIfInBounds_toArray, List.set_cons_zero, List.set_cons_succ]
          refine takeL (i := 16) (d := 58) (v := ?xv16) rfl (by rfl) (by kernel_rfl) (by kernel_rfl) (by kernel_rfl) (by kernel_rfl) (by rfl) (fun _ _ _ h => h) (Or.inl ⟨by rfl, ?xy16⟩) (by assumption) ?xr16
          case xy16 => intro w' hSw; obtain ⟨q1, q2, q3, q4⟩ := hSw; go_simp; (try with_reducible rfl)
          case' xr16 => simp only [Act.put, List.setIfInBounds_toArray, List.set_cons_zero, List.set_cons_succ]
          refine takeL (i := 17) (d := 59) (v := ?xv17) rfl (by rfl) (by kernel_rfl) (by kernel_rfl) (by kernel_rfl) (by kernel_rfl) (by rfl) (fun _ _ _ h => h) (Or.inl ⟨by rfl, ?xy17⟩) (by assumption) ?xr17
          case xy17 => intro w' hSw; obtain ⟨q1, q2, q3, q4⟩ := hSw; go_simp; (try with_reducible rfl)
          case' xr17 => simp only [Act.put, List.setIfInBounds_toArray, List.set_cons_zero, List.set_cons_succ]
          refine takeL (i := 18) (d := 60) (v := ?xv18) rfl (by rfl) (by kernel_rfl) (by kernel_rfl) (by kernel_rfl) (by kernel_rfl) (by rfl) (fun _ _ _ h => h) (Or.inl ⟨by rfl, ?xy18⟩) (by assumption) ?xr18
          case xy18 => intro w' hSw; obtain ⟨q1, q2, q3, q4⟩ := hSw; go_simp; (try with_reducible rfl)
          case' xr18 => simp only [Act.put, List.setIfInBounds_toArray, List.set_cons_zero, List.set_cons_succ]
          refine takeL (i := 19) (d := 61) (v := ?xv19) rfl (by rfl) (by kernel_rfl) (by kernel_rfl) (by kernel_rfl) (by kernel_rfl) (by rfl) (fun _ _ _ h => h) (Or.inl ⟨by rfl, ?xy19⟩) (by assumption) ?xr19
          case xy19 => intro w' hSw; obtain ⟨q1, q2, q3, q4⟩ := hSw; go_simp; (try with_reducible rfl)
          case' xr19 => simp only [Act.put, List.setIfInBounds_toArray, List.set_cons_zero, List.set_cons_succ]
          refine takeL (i := 20) (d := 62) (v := ?xv20) rfl (by rfl) (by kernel_rfl) (by kernel_rfl) (by kernel_rfl) (by kernel_rfl) (by rfl) (fun _ _ _ h => h) (Or.inl ⟨by rfl, ?xy20⟩) (by assumption) ?xr20
          case xy20 => intro w' hSw; obtain ⟨q1, q2, q3, q4⟩ := hSw; go_simp; (try with_reducible rfl)
          case' xr20 => simp only [Act.put, List.setIfInBounds_toArray, List.set_cons_zero, List.set_cons_succ]
          refine takeL (i := 21) (d := 63) (v := ?xv21) rfl (by rfl) (by kernel_rfl) (by kernel_rfl) (by kernel_rfl) (by kernel_rfl) (by rfl) (fun _ _ _ h => h) (Or.inl ⟨by rfl, ?xy21⟩) (by assumption) ?xr21
          case xy21 => intro w' hSw; obtain ⟨q1, q2, q3, q4⟩ := hSw; go_simp; (try with_reducible rfl)
          case' xr21 => simp only [Act.put, List.setIfInBounds_toArray, List.set_cons_zero, List.set_cons_succ]
          refine stepL (i := 22) (by kernel_rfl) rfl (fun K hK => ?xb22)
          go_simp
          refine hK.out _ _ ?xh22 (fun hHeld => ?xr22)
          case xh22 => exact keep4a hHeld
          case' xr22 => (clear hK K; try simp only [Act.put, List.setIfInBounds_toArray, List.set_cons_zero, List.set_cons_succ])
          refine stepL (i := 23) (by kernel_rfl) rfl (fun K hK => ?xb23)
          refine step_append_any _ (by rfl) _ _ 25 (by rfl) (wA.heap.size + 1) 3 i0 (.int .i64 0) 1 8 Try.underlying25 HI.out HZ.out.1 HZ.out.2.1 HZ.out.2.2 rfl (by decide) vx _ _ (by rfl) (HOA.out _) _ (some ⟨wr.heap.size, 0, none⟩) 1 1 [.int .i64 y] (by rfl) HRD.out (by simp [Value.oneCell']) (by simp only [maxLen]; omega) (by omega) (by simp; omega) ?_
          intro v5 w5 hown5 hg5 hat5
          obtain ⟨g5, cap5, hv5, hg50, hg51⟩ := hown5.form (Nat.succ_pos _)
          subst hv5
          obtain ⟨hgr, k1, k2, k3, k4, z5⟩ := HC5.out w5 hg5
          refine hK.out _ _ ?xh23 (fun hHeld => ?xr23)
          case xh23 => exact ⟨k1, k2, k3, k4⟩
          case' xr23 => (clear hK K; try simp only [Act.put, List.setIfInBounds_toArray])
          refine takeL (i := 24) (d := 66) (v := ?xv24) rfl (by rfl) (by kernel_rfl) (by kernel_rfl) (by kernel_rfl) (by kernel_rfl) (by rfl) (fun _ _ _ h => h) (Or.inl ⟨by rfl, ?xy24⟩) (by assumption) ?xr24
          case xy24 => intro w' hSw; obtain ⟨q1, q2, q3, q4⟩ := hSw; go_simp; (try with_reducible rfl)
          case' xr24 => simp only [Act.put]
          refine lastL (by kernel_rfl) rfl (by kernel_rfl) (fun K hK => ?xb25)
          go_simp
          refine hK.out _ _ ?xz
          have hput := nx_put (v5 := .slice (some ⟨g5, 0, none⟩) ((tgt (g.es.take j) x).length + 1) cap5) hxn HTN.out HNX.out hown5 (by rw [← HVX.out]; exact hgr) (fun g' e => by
            rcases hat5 with h5 | h5
            · exact .inl (by rw [← HVX.out, ← h5]; exact e)
            · rw [h5] at e
              cases e
              right
              show wr.heap.size ≤ (wr.alloc _).heap.size
              rw [al_size]; omega)
          have hb5 : Below wA.heap.size wA (w5.setCell ⟨wA.heap.size, x, none⟩ (.slice (some ⟨g5, 0, none⟩) ((tgt (g.es.take j) x).length + 1) cap5)) := (HBE.out.grown hgr hbA0 (fun k e => by have := HVL.out k e; omega)).setCell (Nat.le_refl _) _
          have HPUT := Lib.hid hput
          have HB5 := Lib.hid hb5
          clear hput hb5 hown5 hgr hg5 hat5 k1 k2 k3 k4 z5
          go_wp2
          go_roundw
          case rel => exact ⟨j + 1, _, by go_num, by omega, HPUT.out, HB5.out⟩
          case measure => simp [intOf]; omega
        · have hge2 : ¬ (j : Int) < (g.es.length : Int) := by omega
          rw [show g.es.take j = g.es from List.take_of_length_le (by omega)] at hnx
          have hnxt := hnx.next (lo := wA.heap.size) (d := n) (Nat.le_refl _)
          obtain ⟨wL, rfl⟩ : ∃ wL : World, wL = wr := ⟨_, rfl⟩
          have hbxL := HBXA.out.below hbel
          have hsnL := HSNA.out.moves (Moves.of_new [] hbel) (by simp)
          have howL := HOW.out.kept (row := none) ⟨hbel.os, hbel.tape, hbel.output, hbel.size, fun i hi _ => hbel.block i hi⟩ (by cases (Value.slice Y src.length dY).ownBlock <;> simp)
          have hYlt : ∀ k, (Value.slice Y src.length dY).ownBlock = some k → w.heap.size + 1 + 1 ≤ k ∧ k < wA.heap.size := HOW.out.lt
          have hbLw := hbxL.bel
          have hAL := hbel.size
          obtain ⟨M0, hM0⟩ : ∃ M0, M0 = (w.heap.size + 1) :: (Value.slice Y src.length dY).ownBlock.toList := ⟨_, rfl⟩
          have hM0lt : ∀ k ∈ M0, w.heap.size < k ∧ k < wA.heap.size := fun k hk => by
            rw [hM0] at hk
            rcases List.mem_cons.1 hk with rfl | hk
            · omega
            · have := hYlt k (by simpa using hk); omega
          have hY0 : ∀ k, (Value.slice Y src.length dY).ownBlock = some k → k ∈ M0 := fun k e => by rw [hM0]; simp [e]
          have hsb0 : w.heap.size + 1 ∈ M0 := by rw [hM0]; simp
          have HNXT := Lib.hid hnxt
          have HSNL := Lib.hid hsnL
          have HOWL := Lib.hid howL
          have HBLW := Lib.hid hbLw
          have HM0 := Lib.hid hM0lt
          have HY0 := Lib.hid hY0
          have HSB0 := Lib.hid hsb0
          clear hnx hnxt hbxL hsnL howL hYlt hbLw hbel hM0lt hY0 hsb0 hM0 d0 d1
          go_wp2
          clear c1
          go_loopg [8] (src.length + 2 * n) (fun f v wr => ∃ S todo, Dfs (tgt g.es) wo n src S todo ∧ todo.length + 2 * n ≤ f + 2 * S.length ∧ todo.length ≤ src.length + S.length ∧ wr.ownsRow (w.heap.size + 1 + 1) 3 1 v todo.length (I todo) ∧ SeenAt wr (w.heap.size + 1) n S ∧ Moves M0 wL wr ∧ ∀ k, v.ownBlock = some k → k ∈ M0 ∨ wL.heap.size ≤ k)
          case atStart => exact ⟨[], src, dfs_start, by simp, by simp, HOWL.out, HSNL.out, Moves.refl _ _, fun k e => .inl (HY0.out k e)⟩
          case round =>
            obtain ⟨S, todo, hdf, hfu, htl, hown, hsn, hmv, hblk⟩ := hrel
            have hSn := nodup_len n S hdf.nod hdf.rng
            rcases List.eq_nil_or_concat todo with rfl | ⟨t, x, rfl⟩
            · obtain ⟨Z, dZ, hvZ, _⟩ := own_row1 hown
              subst hvZ
              have hend := hdf.end_
              have hbe : Below w.heap.size w wr := HBLW.out.trans (hmv.below HBLW.out.size (fun k hk => by have := HM0.out k hk; omega))
              have HEND := Lib.hid hend
              have HSN := Lib.hid hsn
              have HBE := Lib.hid hbe
              clear hend hdf hown hsn hmv hblk hbe
              go_wp2
              go_ret
              exact ⟨w.heap.size + 1, S, rfl, by omega, HSN.out, HEND.out, HBE.out⟩
            · simp only [List.concat_eq_append] at *
              have hlen1 : (t ++ [x]).length = t.length + 1 := by simp
              rw [hlen1] at hfu htl hown
              obtain ⟨g0, cap, rfl, hg0, hg1⟩ := hown.form (Nat.succ_pos _)
              have hct : wr.cell? ⟨g0, t.length, none⟩ = some (.int .i64 x) := by
                have h3 := hown.cells (g := g0) rfl t.length (.int .i64 x) (by simp)
                rwa [add_zero] at h3
              have hcap := own_cap hown
              have hown2 := own_take hown (Nat.le_succ t.length)
              rw [show (I (t ++ [x])).take t.length = I t by simp [I]] at hown2
              have hxs := hdf.tod x (by simp)
              have hxr : 0 ≤ x ∧ x < (n : Int) := hxs.elim (HS.out x) (hdf.rng x)
              obtain ⟨f, rfl⟩ : ∃ f, gk = f + 1 := ⟨gk - 1, by omega⟩
              have hg0b := hblk g0 rfl
              have HDF := Lib.hid hdf
              have HOWN := Lib.hid hown2
              have HSN := Lib.hid hsn
              have HMV := Lib.hid hmv
              have HG0 := Lib.hid hg0b
              have hcap1 := hcap.1
              have hcap2 := hcap.2
              clear hdf hown hown2 hsn hmv hblk hlen1 hxs hg0b hcap
              by_cases hxw : x = wo
              · have hd : (x == wo) = true := by simpa using hxw
                have HXW := Lib.hid hxw
                clear hxw
                go_wp2
                go_roundg f
                case measure => omega
                case rel => exact ⟨S, t, by have := HDF.out; rw [HXW.out] at this; exact this.skip, by omega, by omega, HOWN.out, HSN.out, HMV.out, fun k e => by cases e; exact HG0.out⟩
              · have hd : (x == wo) = false := by simpa using hxw
                obtain ⟨xn, rfl⟩ : ∃ xn : Nat, x = xn := ⟨x.toNat, by omega⟩
                have hxn : xn < n := by omega
                have hx0 : (0 : Int) ≤ (xn : Int) := by omega
                have hx1 : (xn : Int) < (n : Int) := by omega
                have HXW := Lib.hid hxw
                clear hxw
                obtain ⟨l, hl⟩ : ∃ l, l = tgt g.es (xn : Int) := ⟨_, rfl⟩
                have hlr : ∀ y ∈ l, 0 ≤ y ∧ y < (n : Int) := fun y hy => by
                  rw [hl] at hy
                  have := HGD.out.all _ (mem_tgt.1 hy)
                  have := HN.out
                  omega
                have hl16 : l.length ≤ 16384 := by rw [hl]; exact Nat.le_trans (tgt_length _ _) (by omega)
                obtain ⟨lb, ld, hlb, hlo, hlbw, hrows⟩ := HNXT.out
                cases hlb
                obtain ⟨Z, dZ, hcZ, hrZ, hZlo⟩ := hrows xn hxn
                simp only at hcZ hrZ
                rw [← hl] at hcZ hrZ
                have hlbM : wA.heap.size ∉ M0 := fun h => by have := HM0.out _ h; omega
                have hZM : ∀ b o, Z = some ⟨b, o, none⟩ → b ∉ M0 := fun b o e h => by have := HM0.out b h; have := hZlo b o e; omega
                have HL := Lib.hid hl
                have HLR := Lib.hid hlr
                have HCZ := Lib.hid hcZ
                have HRZ := Lib.hid hrZ
                have HLBM := Lib.hid hlbM
                have HZM := Lib.hid hZM
                have HLBW := Lib.hid hlbw
                have hswr : wL.heap.size ≤ wr.heap.size := HMV.out.2.2.2.1
                clear hl hlr hcZ hrZ hZlo hrows hlbM hZM hlbw
                go_wp2
                obtain ⟨wq, rfl⟩ : ∃ wq : World, wq = wr := ⟨_, rfl⟩
                go_loopw [8, 13] (fun v i wr => ∃ (m : Nat) (N : List Int), i = .int .i64 m ∧ m ≤ l.length ∧ pushW wo S (l.take m) = S ++ N ∧ wr.ownsRow (w.heap.size + 1 + 1) 3 1 v (t ++ N).length (I (t ++ N)) ∧ SeenAt wr (w.heap.size + 1) n (S ++ N) ∧ Moves M0 wL wr ∧ ∀ k, v.ownBlock = some k → k ∈ M0 ∨ wL.heap.size ≤ k) (fun _ i _ => l.length - (intOf i).toNat)
                case atStart => exact ⟨0, [], rfl, Nat.zero_le _, by simp [pushW], by rw [List.append_nil]; exact HOWN.out, by rw [List.append_nil]; exact HSN.out, HMV.out, fun k e => by cases e; exact HG0.out⟩
                case round =>
                  obtain ⟨m, N, rfl, hm, hN, hown, hsn, hmv, hblk⟩ := hrel
                  have hcl := (hmv.cell HLBW.out HLBM.out xn).trans HCZ.out
                  by_cases hlm : m < l.length
                  · have hm0 : (0 : Int) ≤ (m : Int) := by omega
                    have hm1 : (m : Int) < (l.length : Int) := by omega
                    obtain ⟨bZ, oZ, rfl, hcj⟩ := (HRZ.out.moves hmv HZM.out).int hlm
                    have hyr := HLR.out _ (List.getElem_mem hlm)
                    obtain ⟨y, hy⟩ : ∃ y : Nat, (y : Int) = l[m] := ⟨l[m].toNat, by omega⟩
                    have hps : pushW wo S (l.take (m + 1)) = if (y : Int) = wo ∨ (y : Int) ∈ S ++ N then S ++ N else S ++ N ++ [(y : Int)] := by
                      rw [List.take_succ_eq_append_getElem hlm, pushW_snoc, hy, hN]
                    rw [← hy] at hcj hyr
                    have hyn : y < n := by omega
                    have hy0 : (0 : Int) ≤ (y : Int) := by omega
                    have hy1 : (y : Int) < (n : Int) := by omega
                    have hcs := hsn.2.1 y hyn
                    have hfs := hsn.2.2 y
                    have hNl : (S ++ N).length ≤ 4096 := by
                      obtain ⟨N', h1, h2, h3, _⟩ := pushW_pre wo (l.take m) S
                      rw [hN] at h1
                      obtain rfl := List.append_cancel_left h1
                      have h4 : (S ++ N).Nodup := by
                        rw [List.nodup_append]
                        exact ⟨HDF.out.nod, h3, fun a ha b hb e => by subst e; exact (h2 a hb).2.2 ha⟩
                      have := nodup_len n _ h4 (fun z hz => by
                        rcases List.mem_append.1 hz with hz | hz
                        · exact HDF.out.rng z hz
                        · exact HLR.out z (List.mem_of_mem_take (h2 z hz).1))
                      omega
                    have HPS := Lib.hid hps
                    have HN := Lib.hid hN
                    have HOW2 := Lib.hid hown
                    have HSN2 := Lib.hid hsn
                    have HMV2 := Lib.hid hmv
                    have HBK := Lib.hid hblk
                    have hszr : wL.heap.size ≤ wr.heap.size := hmv.2.2.2.1
                    clear hy hps hN hown hsn hmv hblk
                    by_cases hyw : (y : Int) = wo
                    · have hd2 : ((y : Int) != wo) = false := by simpa using hyw
                      have HYW := Lib.hid hyw
                      clear hyw
                      go_wp2
                      go_roundw
                      case rel => exact ⟨m + 1, N, by go_num, by omega, by rw [HPS.out, if_pos (.inl HYW.out)], HOW2.out, HSN2.out, HMV2.out, HBK.out⟩
                      case measure => simp [intOf]; omega
                    · have hd2 : ((y : Int) != wo) = true := by simpa using hyw
                      have HYW := Lib.hid hyw
                      clear hyw
                      by_cases hin : (y : Int) ∈ S ++ N
                      · have hd3 : decide ((y : Int) ∈ S ++ N) = true := by rw [decide_eq_true_eq]; exact hin
                        rw [hd3] at hcs
                        have HIN := Lib.hid hin
                        clear hin hd3
                        go_wp2
                        go_roundw
                        case rel => exact ⟨m + 1, N, by go_num, by omega, by rw [HPS.out, if_pos (.inr HIN.out)], HOW2.out, HSN2.out, HMV2.out, HBK.out⟩
                        case measure => simp [intOf]; omega
                      · have hd3 : decide ((y : Int) ∈ S ++ N) = false := by rw [decide_eq_false_iff_not]; exact hin
                        rw [hd3] at hcs
                        have HIN := Lib.hid hin
                        clear hin hd3
                        have hil : (I (t ++ N)).length = (t ++ N).length := List.length_map _
                        have htl2 : (t ++ N).length ≤ 16384 := by
                          rw [List.length_append] at hNl ⊢
                          omega
                        have hlo2 : ∀ k, u8.ownBlock = some k → w.heap.size + 1 + 1 ≤ k := fun k e => (HOW2.out.lt k e).1
                        have hown3 : (wr.setCell ⟨w.heap.size + 1, y, none⟩ (.bool true)).ownsRow (w.heap.size + 1 + 1) 3 1 u8 (I (t ++ N)).length (I (t ++ N)) := by rw [hil]; exact own_low HOW2.out _ _ (by show w.heap.size + 1 < _; omega)
                        have HIL := Lib.hid hil
                        have HLO2 := Lib.hid hlo2
                        have HOW3 := Lib.hid hown3
                        have HTL2 := Lib.hid htl2
                        clear hil hlo2 hown3 htl2
                        go_wp2_with (at_builtin; refine app_new (w.heap.size + 1 + 1) (by rfl) _ _ 25 3 (.int .i64 0) 8 (by rfl) Try.underlying25 info_int rfl _ (I (t ++ N)) (.int .i64 (y : Int)) (by rfl) _ (by rfl) (by simp [World.setCell]) rfl HOW3.out (by simp [World.setCell]; omega) (by have := HIL.out; have := HTL2.out; omega) (by have := HIL.out; have := HTL2.out; omega) ?_; intro v6 w6 ho6 hg6 hb6 hs6)
                        have hsn6 := (HSN2.out.set hyn).moves (Moves.of_grown (M := u8.ownBlock.toList) hg6 (by intro k e; simp [e])) (fun hm => by have := HLO2.out _ (by simpa using hm); omega)
                        have hmv6 : Moves M0 wL w6 := HMV2.out.onto (grown_set hg6) (fun k hk => by
                          rcases List.mem_cons.1 hk with rfl | hk
                          · exact .inl HSB0.out
                          · exact HBK.out k (by simpa using hk))
                        have hbk6 : ∀ k, v6.ownBlock = some k → k ∈ M0 ∨ wL.heap.size ≤ k := fun k e => by
                          rcases hb6 with h | h
                          · exact HBK.out k (by rw [← h]; exact e)
                          · rw [h] at e; cases e; right; simp [World.setCell]; omega
                        rw [HIL.out] at ho6
                        have HSN6 := Lib.hid hsn6
                        have HMV6 := Lib.hid hmv6
                        have HBK6 := Lib.hid hbk6
                        clear hsn6 hmv6 hbk6 hg6 hb6
                        go_roundw
                        case rel =>
                          refine ⟨m + 1, N ++ [(y : Int)], by go_num, by omega, by rw [HPS.out, if_neg (fun h => h.elim HYW.out HIN.out), List.append_assoc], ?_, by rw [← List.append_assoc]; exact HSN6.out, HMV6.out, HBK6.out⟩
                          rw [← List.append_assoc]
                          have e : I (t ++ N ++ [(y : Int)]) = I (t ++ N) ++ [.int .i64 (y : Int)] := List.map_append
                          rw [e, List.length_append (bs := [(y : Int)])]
                          exact ho6
                        case measure => simp [intOf]; omega
                  · have hge3 : ¬ (m : Int) < (l.length : Int) := by omega
                    rw [show l.take m = l from List.take_of_length_le (by omega), HL.out] at hN
                    have hdf2 := HDF.out.next HXW.out hN (fun y hy => HLR.out y (by rw [HL.out]; exact hy))
                    have hNl := congrArg List.length hN
                    have HDF2 := Lib.hid hdf2
                    have HOW2 := Lib.hid hown
                    have HSN2 := Lib.hid hsn
                    have HMV2 := Lib.hid hmv
                    have HBK := Lib.hid hblk
                    clear hN hdf2 hown hsn hmv hblk hNl
                    go_wp2
                    go_roundg f
                    case measure => omega
                    case rel => exact ⟨S ++ N, t ++ N, HDF2.out, by rw [List.length_append, List.length_append]; omega, by rw [List.length_append, List.length_append]; omega, HOW2.out, HSN2.out, HMV2.out, HBK.out⟩
end Go.Proofs.Ytpdfcffeinbcaaa
