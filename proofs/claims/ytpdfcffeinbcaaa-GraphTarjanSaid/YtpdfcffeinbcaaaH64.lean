/- The law GraphTarjan. -/
import Derived.Test.YtpdfcffeinbcaaaH59
import Derived.Test.YtpdfcffeinbcaaaH61
import Derived.Test.YtpdfcffeinbcaaaH62
import Derived.Test.YtpdfcffeinbcaaaH49
import Derived.Test.YtpdfcffeinbcaaaH17
import Derived.Test.YtpdfcffeinbcaaaV19
namespace Go.Proofs.Ytpdfcffeinbcaaa
open Go.RowKit
/-- A boxed graph whose edges are appended to. -/
structure BoxQ (hb : Nat) (N : Int) (l : List (Int × Int)) (v : Value) (W : World) : Prop where
  c0 : W.cell? ⟨hb, 0, none⟩ = some (.int .i64 N)
  c1 : W.cell? ⟨hb, 1, none⟩ = some v
  z : W.frozen? ⟨hb, 1, none⟩ = false
  own : W.ownsRow (hb + 1) 51 2 v l.length (edgeCells l)
theorem BoxQ.drewN {hb : Nat} {N : Int} {l : List (Int × Int)} {v : Value} {W : World} (q : Nat) (h : BoxQ hb N l v W) : BoxQ hb N l v (W.drewN q) := ⟨h.c0, h.c1, h.z, h.own⟩
theorem BoxQ.next {hb : Nat} {N : Int} {l : List (Int × Int)} {v v1 : Value} {W w1 : World} {x y : Int} (h : BoxQ hb N l v W) (ho : w1.ownsRow (hb + 1) 51 2 v1 (l.length + 1) (edgeCells l ++ [.int .i64 x, .int .i64 y])) (hg : W.grownBy w1 v.ownBlock) :
    BoxQ hb N (l ++ [(x, y)]) v1 (w1.setCell ⟨hb, 1, none⟩ v1) := by
  have hl : hb < W.heap.size := World.block_lt_of_cell? W _ h.c0
  have hne : v.ownBlock ≠ some hb := fun e => by have := (h.own.lt hb e).1; omega
  have hb1 := hg.block hb hl (fun e => hne e.symm)
  refine ⟨?_, ?_, ?_, ?_⟩
  · rw [set_far _ _ _ _ _ (by omega)]; exact (World.cell?_of_block (a := ⟨hb, 0, none⟩) hb1).trans h.c0
  · exact set_here _ _ _ _ v ((World.cell?_of_block (a := ⟨hb, 1, none⟩) hb1).trans h.c1)
  · rw [World.frozen?_setCell, frozen_block (a := ⟨hb, 1, none⟩) hb1]; exact h.z
  · rw [edgeCells_snoc, List.length_append, List.length_singleton]
    exact own_low ho _ _ (by show hb < hb + 1; omega)
set_option maxHeartbeats 8000000 in
set_option maxRecDepth 100000 in
theorem tarjan_c (g : XG) (E : Option Addr) (d : Nat) (w : World) (h : GAt w E g) (hl : g.es.length ≤ 8796093022208) :
    Calls Try.prog 9 #[g.val E d] w fun e w' => e = .returned (.bool true) ∧ Below w.heap.size w w' := by
  obtain ⟨m, hm⟩ : ∃ m, m = g.es.length := ⟨_, rfl⟩
  have hv : ∀ E d, g.val E d = .agg #[.int .i64 g.n, .slice E m d] := fun _ _ => by rw [hm]; rfl
  have hft := fun W h => fits_c g E d W h (by omega)
  have hgc := fun W h => gcomps_c g E d W h (by omega)
  have hwy := fun a b W h => way_c g E d a b W h (by omega)
  have hbx := box_at (w := w) (t := 24) g E d
  simp only [hv] at hft hgc hwy ⊢
  have HFT := Lib.hid hft
  have HGC := Lib.hid hgc
  have HWY := Lib.hid hwy
  have HM := Lib.hid hm
  obtain ⟨wB, hwB⟩ : ∃ wB, wB = w.alloc (.cells #[.int .i64 g.n, .slice E m d] 24) := ⟨_, rfl⟩
  rw [← hm, ← hwB] at hbx
  have hG := h.below hbx.bel
  have hcell : ∀ W, Below wB.heap.size wB W → W.cell? ⟨w.heap.size, 0, none⟩ = some (.int .i64 g.n) ∧ W.cell? ⟨w.heap.size, 1, none⟩ = some (.slice E m d) ∧ GAt W E g := fun W hb =>
    ⟨(hb.cell (p := ⟨w.heap.size, 0, none⟩) hbx.lt).trans hbx.c0, (hb.cell (p := ⟨w.heap.size, 1, none⟩) hbx.lt).trans (by rw [hbx.c1, hm]), hG.below hb⟩
  obtain ⟨c0, c1, hg0⟩ := hcell wB (Below.refl _ _)
  have HCELL := Lib.hid hcell
  have HBW := Lib.hid hbx.bel
  have HLT := Lib.hid hbx.lt
  have HG0 := Lib.hid hg0
  have HWB := Lib.hid hwB
  clear hft hgc hwy hm hv h hG hcell hg0 hbx hwB
  go_enter Try.func9, Try.ntmps9
  go_upto_region 1 with (fail)
  rw [← HWB.out]
  go_wp2_with fail
  go_at_call 41
  refine (works_c wB).mono ?_
  rintro e w1 ⟨rfl, hb1⟩
  obtain ⟨c0, c1, hg1⟩ := HCELL.out w1 hb1
  have HG1 := Lib.hid hg1
  have HB1 := Lib.hid hb1
  clear hg1 hb1
  go_wp2_with fail
  go_at_call 42
  refine (HFT.out w1 HG1.out).mono ?_
  rintro e w2 ⟨rfl, hb2⟩
  have hb2' := HB1.out.trans (hb2.mono HB1.out.size)
  obtain ⟨c0, c1, hg2⟩ := HCELL.out w2 hb2'
  have HG2 := Lib.hid hg2
  have HB2 := Lib.hid hb2'
  clear hg2 hb2 hb2'
  obtain ⟨fb, hfb⟩ : ∃ fb, fb = fitsB g := ⟨_, rfl⟩
  rw [← hfb]
  have HFB := Lib.hid hfb
  clear hfb
  cases fb with
  | false =>
    have HE := Lib.hid (HBW.out.trans (HB2.out.mono (Nat.le_of_lt HLT.out)))
    go_wp2
    go_ret
    exact ⟨rfl, HE.out⟩
  | true =>
    obtain ⟨hn0, hn24, hm200, hchk⟩ : 0 ≤ g.n ∧ g.n ≤ 24 ∧ g.es.length ≤ 200 ∧ chkF g = 0 := by
      have := HFB.out.symm
      unfold fitsB at this
      exact of_decide_eq_true this
    have hgood := chkF_good.1 hchk
    obtain ⟨n, hn⟩ : ∃ n : Nat, g.n = n := ⟨g.n.toNat, by omega⟩
    have hnn : g.n.toNat = n := by omega
    have hn4 : n ≤ 24 := by omega
    rw [hn] at c0 HGC
    have HGOOD := Lib.hid hgood
    have HN := Lib.hid hn
    have HNN := Lib.hid hnn
    have HCHK := Lib.hid hchk
    have hm200' : m ≤ 200 := by have := HM.out; omega
    clear hgood hn hnn hn0 hn24 hm200 hchk
    go_wp2_with fail
    go_at_call 35
    refine (HGC.out w2 HG2.out).mono ?_
    rintro e w3 ⟨v1, he3, hb3, hrows, _⟩
    rw [HCHK.out] at he3
    subst he3
    have hrow3 := hrows HCHK.out
    have hb3' := HB2.out.trans (hb3.mono HB2.out.size)
    obtain ⟨c0, c1, _⟩ := HCELL.out w3 hb3'
    rw [HN.out] at c0
    obtain ⟨nc, hnc⟩ : ∃ nc, nc = (compsF g).length := ⟨_, rfl⟩
    have hncn : nc ≤ n := by rw [hnc, ← HNN.out]; exact compsTo_length g _
    obtain ⟨X, dX, rfl, hrw⟩ := hrow3
    rw [← hnc] at hrw ⊢
    have hcl : ∀ W, Below w3.heap.size w3 W → W.cell? ⟨w.heap.size, 0, none⟩ = some (.int .i64 (n : Int)) ∧ W.cell? ⟨w.heap.size, 1, none⟩ = some (.slice E m d) ∧ GAt W E g := fun W hb => by
      have h := HCELL.out W (hb3'.trans (hb.mono hb3'.size))
      rwa [HN.out] at h
    have hrowW : ∀ W, Below w3.heap.size w3 W → ∀ i, i < nc → ∃ b Y d', X = some ⟨b, 0, none⟩ ∧ W.cell? ⟨b, i, none⟩ = some (.slice Y ((compsF g).getD i []).length d') ∧ RowAt W Y (I ((compsF g).getD i [])) := fun W hb i hi => by
      obtain ⟨b, Y, d', e, _, hlt, hc, hr, _⟩ := hrw i hi
      exact ⟨b, Y, d', e, (hb.cell (p := ⟨b, i, none⟩) hlt).trans hc, hr.below hb⟩
    have hmk : ∀ W : World, (Instr.makeSlice 25 (.int .i64 (n : Int)) (.int .i64 (n : Int))).run Try.prog W = .ok (.slice (some ⟨W.heap.size, 0, none⟩) n n) (W.alloc (.cells (madeCells #[.int .i64 0] n) 3)) :=
      fun W => run_make_row' 25 3 (.int .i64 0) 8 Try.underlying25 info_int rfl .i64 .i64 n (by omega) (by omega) W
    obtain ⟨w4, hw4⟩ : ∃ w4, w4 = w3.alloc (.cells (madeCells #[.int .i64 0] n) 3) := ⟨_, rfl⟩
    obtain ⟨pb, hpb⟩ : ∃ pb, pb = w3.heap.size := ⟨_, rfl⟩
    have hp4 : NumAt w4 pb n (fun _ => 0) := by rw [hw4, hpb]; exact num_made w3 n _
    have hb4 : Below w3.heap.size w3 w4 := by rw [hw4]; exact (Below.refl _ _).alloc (Nat.le_refl _) _
    have hp3 : w3.heap.size ≤ pb := by omega
    have hlt3 : w.heap.size < w3.heap.size := Nat.lt_of_lt_of_le HLT.out hb3'.size
    have HW4 := Lib.hid hw4
    have HPB := Lib.hid hpb
    have HP4 := Lib.hid hp4
    have HB4 := Lib.hid hb4
    have HB3 := Lib.hid hb3'
    have HCL := Lib.hid hcl
    have HROWW := Lib.hid hrowW
    have HNC := Lib.hid hnc
    clear hw4 hpb hp4 hb4 hb3 hb3' hcl hrowW hnc hrw hrows HG1 HG2 HG0
    go_upto_region 9 with (fail)
    rw [← HW4.out, ← HPB.out]
    clear c0 c1 hmk
    go_wp2
    go_loopw [6] (fun i wr => ∃ k : Nat, i = .int .i64 k ∧ k ≤ n ∧ NumAt wr pb n (fun x => if x < k then -1 else 0) ∧ Below w3.heap.size w3 wr) (fun i _ => n - (intOf i).toNat)
    case atStart => exact ⟨0, rfl, by omega, HP4.out.congr (fun i _ => by simp), HB4.out⟩
    case round =>
      obtain ⟨k, rfl, hk, hnum, hbe⟩ := hrel
      obtain ⟨c0, c1, _⟩ := HCL.out wr hbe
      by_cases hlt : k < n
      · have hj0 : (0 : Int) ≤ (k : Int) := by omega
        have hj1 : (k : Int) < (n : Int) := by omega
        have kj := hnum.2.1 k hlt
        have kz := hnum.2.2 k
        have hput : NumAt (wr.setCell ⟨pb, k, none⟩ (.int .i64 (-1))) pb n (fun i => if i < k + 1 then -1 else 0) := hnum.put hlt fun i _ => by
          by_cases e : i = k
          · subst e; simp
          · rw [if_neg e]
            by_cases h : i < k
            · rw [if_pos h, if_pos (by omega)]
            · rw [if_neg h, if_neg (by omega)]
        have HPUT := Lib.hid hput
        have HBE := Lib.hid (hbe.setCell (p := ⟨pb, k, none⟩) hp3 (.int .i64 (-1)))
        clear hnum hput hbe
        go_wp2
        go_roundw
        case rel => exact ⟨k + 1, by go_num, by omega, HPUT.out, HBE.out⟩
        case measure => simp [intOf]; omega
      · have hge : ¬ (k : Int) < (n : Int) := by omega
        obtain rfl : k = n := by omega
        have hn0 : NumAt wr pb k (fun x => ofF (compsF g) 0 x) := hnum.congr fun i hi => by rw [if_pos hi]; rfl
        have HN0 := Lib.hid hn0
        have HBE := Lib.hid hbe
        clear hnum hn0 hbe hge
        go_wp2
        clear c0 c1
        obtain ⟨wk, hwk⟩ : ∃ wk : World, wk = wr := ⟨_, rfl⟩
        rw [← hwk] at HN0 HBE ⊢
        clear hwk
        go_loopw [7] (fun i wr => ∃ i' : Nat, i = .int .i64 i' ∧ i' ≤ nc ∧ NumAt wr pb k (fun x => ofF (compsF g) i' x) ∧ Below w3.heap.size w3 wr) (fun i _ => nc - (intOf i).toNat)
        case atStart => exact ⟨0, rfl, by omega, HN0.out, HBE.out⟩
        case round =>
          obtain ⟨i, rfl, hi, hnum, hbe⟩ := hrel
          by_cases hlt : i < nc
          · have hi0 : (0 : Int) ≤ (i : Int) := by omega
            have hi1 : (i : Int) < (nc : Int) := by omega
            have hil : i < (compsF g).length := by have := HNC.out; omega
            have hnew := fun q hq => ofP_new (g := g) (i := i) (k := q) hil hq
            have hrng : ∀ x ∈ (compsF g).getD i [], 0 ≤ x ∧ x < (k : Int) := fun x hx => by
              have := ((comp_mem hil hx).1 hx).1
              rwa [HNN.out] at this
            have hrl : ((compsF g).getD i []).length ≤ k := by
              refine nodup_len k _ ?_ hrng
              rw [show (compsF g).getD i [] = (compsF g)[i] by simp [List.getD, hil]]
              obtain ⟨j, _, _, e⟩ := mem_comps.1 (show (compsF g)[i] ∈ compsTo g g.n.toNat from List.getElem_mem hil)
              rw [e]; exact rising_nodup (compRow_rising g j)
            have hnx := fun q (hq : q < ((compsF g).getD i []).length) x => ofP_next (cs := compsF g) (i := i) (k := q) hq x
            have hdone := ofP_done (compsF g) i
            have hrow := fun W hb => HROWW.out W hb i hlt
            obtain ⟨row, op, hn0, hnew, hrng, hrl, hnx, hdone, hrow⟩ : ∃ (row : List Int) (op : Nat → Int → Int), NumAt wr pb k (fun x => op 0 x) ∧ (∀ q (hq : q < row.length), op q row[q] = -1) ∧ (∀ x ∈ row, 0 ≤ x ∧ x < (k : Int)) ∧ row.length ≤ k ∧
                (∀ q (hq : q < row.length) x, op (q + 1) x = if x = row[q] then (i : Int) else op q x) ∧ op row.length = ofF (compsF g) (i + 1) ∧ (∀ W, Below w3.heap.size w3 W → ∃ b Y d', X = some ⟨b, 0, none⟩ ∧ W.cell? ⟨b, i, none⟩ = some (.slice Y row.length d') ∧ RowAt W Y (I row)) :=
              ⟨(compsF g).getD i [], ofP (compsF g) i, by rw [ofP_zero]; exact hnum, hnew, hrng, hrl, hnx, hdone, hrow⟩
            have HNEW := Lib.hid hnew
            have HRNG := Lib.hid hrng
            have HNX := Lib.hid hnx
            have HDONE := Lib.hid hdone
            have HROW := Lib.hid hrow
            have HN0' := Lib.hid hn0
            have HBE' := Lib.hid hbe
            clear hnew hrng hnx hdone hrow hn0 hbe hnum
            go_wp2
            obtain ⟨wl, hwl⟩ : ∃ wl : World, wl = wr := ⟨_, rfl⟩
            rw [← hwl] at HN0' HBE' ⊢
            clear hwl
            go_loopw [8] (fun q wr => ∃ q' : Nat, q = .int .i64 q' ∧ q' ≤ row.length ∧ NumAt wr pb k (fun x => op q' x) ∧ Below w3.heap.size w3 wr) (fun q _ => row.length - (intOf q).toNat)
            case atStart => exact ⟨0, rfl, by omega, HN0'.out, HBE'.out⟩
            case round =>
              obtain ⟨q, rfl, hq, hnum, hbe⟩ := hrel
              obtain ⟨b, Y, d', rfl, hcb, hrY⟩ := HROW.out wr hbe
              obtain ⟨c0, c1, _⟩ := HCL.out wr hbe
              by_cases hqr : q < row.length
              · have hq0 : (0 : Int) ≤ (q : Int) := by omega
                have hq1 : (q : Int) < (row.length : Int) := by omega
                obtain ⟨bY, oY, rfl, hcy⟩ := hrY.int hqr
                have hnw := HNEW.out q hqr
                have hxr := HRNG.out _ (List.getElem_mem hqr)
                have hnx := HNX.out q hqr
                obtain ⟨z, hz⟩ : ∃ z : Nat, row[q] = (z : Int) := ⟨row[q].toNat, by omega⟩
                rw [hz] at hcy hnw hxr
                simp only [hz] at hnx
                have hzn : z < k := by omega
                have hz0 : (0 : Int) ≤ (z : Int) := by omega
                have hz1 : (z : Int) < (k : Int) := by omega
                have hzl : ¬ (z : Int) < 0 := by omega
                have hzg : ¬ (k : Int) ≤ (z : Int) := by omega
                have kz : wr.cell? ⟨pb, z, none⟩ = some (.int .i64 (-1)) := by
                  have h : wr.cell? ⟨pb, z, none⟩ = some (.int .i64 (op q z)) := hnum.2.1 z hzn
                  rwa [hnw] at h
                have kf := hnum.2.2 z
                have hput := num_set (f := op q) hnum hzn (y := (i : Int))
                have HPUT := Lib.hid (hput.congr fun x _ => by rw [hnx]; rfl : NumAt (wr.setCell ⟨pb, z, none⟩ (.int .i64 (i : Int))) pb k (fun x => op (q + 1) x))
                have HBE2 := Lib.hid (hbe.setCell (p := ⟨pb, z, none⟩) hp3 (.int .i64 (i : Int)))
                clear hnum hbe hput hnx hnw hz hxr hrY
                go_wp2
                go_roundw
                case rel => exact ⟨q + 1, by go_num, by omega, HPUT.out, HBE2.out⟩
                case measure => simp [intOf]; omega
              · have hge : ¬ (q : Int) < (row.length : Int) := by omega
                obtain rfl : q = row.length := by omega
                rw [HDONE.out] at hnum
                have HNUM := Lib.hid hnum
                have HBE2 := Lib.hid hbe
                clear hnum hbe hrY
                go_wp2
                go_roundw
                case rel => exact ⟨i + 1, by go_num, by omega, HNUM.out, HBE2.out⟩
                case measure => simp [intOf]; omega
          · have hge : ¬ (i : Int) < (nc : Int) := by omega
            obtain rfl : i = nc := by omega
            obtain ⟨c0, c1, _⟩ := HCL.out wr hbe
            have hnumC : NumAt wr pb k (fun x => ofC g x) := by
              unfold ofC
              rw [← HNC.out]
              exact hnum
            obtain ⟨wh, hwh⟩ : ∃ wh, wh = wr.alloc (.cells #[.int .i64 (i : Int), .slice none 0 0] 24) := ⟨_, rfl⟩
            obtain ⟨hb, hhb⟩ : ∃ hb, hb = wr.heap.size := ⟨_, rfl⟩
            have hbx0 : BoxQ hb (i : Int) (quoE g 0) (.slice none 0 0) wh := by
              rw [hwh, hhb]
              exact ⟨by rw [cell_new]; rfl, by rw [cell_new]; rfl, frozen_new _ _ _ _, ⟨rfl, .inl ⟨rfl, rfl⟩⟩⟩
            have hbh : Below wr.heap.size wr wh := by rw [hwh]; exact (Below.refl _ _).alloc (Nat.le_refl _) _
            have hnh := hnumC.moves (Moves.of_new [] hbh) (by simp)
            have hbwh := hbe.trans (hbh.mono hbe.size)
            have hbl : hb < wh.heap.size := by rw [hwh, hhb, al_size]; omega
            have hpbh : pb < hb := by rw [hhb]; exact hnumC.1
            have h3b : w3.heap.size ≤ hb := by omega
            have hltr : w.heap.size < wr.heap.size := Nat.lt_of_lt_of_le hlt3 hbe.size
            have HWH := Lib.hid hwh
            have HHB := Lib.hid hhb
            have HBX := Lib.hid hbx0
            have HNH := Lib.hid hnh
            have HBWH := Lib.hid hbwh
            clear hwh hhb hbx0 hbh hnh hbwh hnumC hnum hbe hge
            go_upto_region 24 with (fail)
            rw [← HWH.out, ← HHB.out]
            clear c0 c1
            go_wp2
            go_loopw [11] (fun x wr => ∃ a : Nat, x = .int .i64 a ∧ a ≤ k ∧ Below wh.heap.size wh wr) (fun x _ => k - (intOf x).toNat)
            case atStart => exact ⟨0, rfl, by omega, Below.refl _ _⟩
            case round =>
              obtain ⟨a, rfl, ha, hbe⟩ := hrel
              have hbe3 := HBWH.out.trans (hbe.mono HBWH.out.size)
              obtain ⟨c0, c1, hgr⟩ := HCL.out wr hbe3
              by_cases hlt : a < k
              · have ha0 : (0 : Int) ≤ (a : Int) := by omega
                have ha1 : (a : Int) < (k : Int) := by omega
                have HBE := Lib.hid hbe
                clear hbe hbe3 hgr
                go_wp2
                obtain ⟨wl, hwl⟩ : ∃ wl : World, wl = wr := ⟨_, rfl⟩
                rw [← hwl] at HBE ⊢
                clear hwl c0 c1
                go_loopw [12] (fun x wr => ∃ b : Nat, x = .int .i64 b ∧ b ≤ k ∧ Below wh.heap.size wh wr) (fun x _ => k - (intOf x).toNat)
                case atStart => exact ⟨0, rfl, by omega, HBE.out⟩
                case round =>
                  obtain ⟨b, rfl, hb', hbe⟩ := hrel
                  have hbe3 := HBWH.out.trans (hbe.mono HBWH.out.size)
                  obtain ⟨c0, c1, hgr⟩ := HCL.out wr hbe3
                  by_cases hltb : b < k
                  · have hb0 : (0 : Int) ≤ (b : Int) := by omega
                    have hb1 : (b : Int) < (k : Int) := by omega
                    have hnw := HNH.out.moves (Moves.of_new [] hbe) (by simp)
                    have ka : wr.cell? ⟨pb, a, none⟩ = some (.int .i64 (ofC g a)) := hnw.2.1 a hlt
                    have kb : wr.cell? ⟨pb, b, none⟩ = some (.int .i64 (ofC g b)) := hnw.2.1 b hltb
                    have hra := ofC_range (g := g) (x := (a : Int)) (by rw [HNN.out]; omega)
                    have hrb := ofC_range (g := g) (x := (b : Int)) (by rw [HNN.out]; omega)
                    have hsame := ofC_same (g := g) (x := (a : Int)) (y := (b : Int)) (by rw [HNN.out]; omega) (by rw [HNN.out]; omega)
                    have hw1 := wayB_iff HGOOD.out (a := (a : Int)) (b := (b : Int)) (by have := HN.out; omega)
                    have hw2 := wayB_iff HGOOD.out (a := (b : Int)) (b := (a : Int)) (by have := HN.out; omega)
                    rw [← hw1, ← hw2] at hsame
                    have hwy1 : ∀ W, Below wr.heap.size wr W → Calls Try.prog 43 #[.agg #[.int .i64 (k : Int), .slice E m d], .int .i64 (a : Int), .int .i64 (b : Int)] W fun e w' => e = .returned (.bool (wayB g a b)) ∧ Below W.heap.size W w' := fun W h => by
                      have := HWY.out a b W (hgr.below h)
                      rwa [HN.out] at this
                    have hwy2 : ∀ W, Below wr.heap.size wr W → Calls Try.prog 43 #[.agg #[.int .i64 (k : Int), .slice E m d], .int .i64 (b : Int), .int .i64 (a : Int)] W fun e w' => e = .returned (.bool (wayB g b a)) ∧ Below W.heap.size W w' := fun W h => by
                      have := HWY.out b a W (hgr.below h)
                      rwa [HN.out] at this
                    obtain ⟨oa, hoa⟩ : ∃ oa, oa = ofC g a := ⟨_, rfl⟩
                    obtain ⟨ob, hob⟩ : ∃ ob, ob = ofC g b := ⟨_, rfl⟩
                    obtain ⟨p1, hp1⟩ : ∃ p1, p1 = wayB g a b := ⟨_, rfl⟩
                    obtain ⟨p2, hp2⟩ : ∃ p2, p2 = wayB g b a := ⟨_, rfl⟩
                    rw [← hoa] at ka hra hsame
                    rw [← hob] at kb hrb hsame
                    rw [← hp1] at hsame hwy1
                    rw [← hp2] at hsame hwy2
                    have hoal : ¬ oa < 0 := by omega
                    have hobl : ¬ ob < 0 := by omega
                    have hwrl : w.heap.size < wr.heap.size := Nat.lt_of_lt_of_le hlt3 hbe3.size
                    have hpbl : pb < wr.heap.size := hnw.1
                    have hkc : ∀ {w' w'' : World}, ((Below wr.heap.size wr w' ∧ wr.heap.size ≤ w'.heap.size) ∧ w'.cell? ⟨w.heap.size, 0, none⟩ = some (.int .i64 (k : Int)) ∧ w'.cell? ⟨w.heap.size, 1, none⟩ = some (.slice E m d) ∧ w'.cell? ⟨pb, a, none⟩ = some (.int .i64 oa) ∧ w'.cell? ⟨pb, b, none⟩ = some (.int .i64 ob)) → Below w'.heap.size w' w'' →
                        ((Below wr.heap.size wr w'' ∧ wr.heap.size ≤ w''.heap.size) ∧ w''.cell? ⟨w.heap.size, 0, none⟩ = some (.int .i64 (k : Int)) ∧ w''.cell? ⟨w.heap.size, 1, none⟩ = some (.slice E m d) ∧ w''.cell? ⟨pb, a, none⟩ = some (.int .i64 oa) ∧ w''.cell? ⟨pb, b, none⟩ = some (.int .i64 ob)) := fun {w' w''} h hb =>
                      have f : ∀ {p : Addr} {u : Value}, p.block < wr.heap.size → w'.cell? p = some u → w''.cell? p = some u := fun hp hc => (hb.cell (Nat.lt_of_lt_of_le hp h.1.2)).trans hc
                      ⟨⟨h.1.1.trans (hb.mono h.1.2), Nat.le_trans h.1.2 hb.size⟩, f hwrl h.2.1, f hwrl h.2.2.1, f hpbl h.2.2.2.1, f hpbl h.2.2.2.2⟩
                    have HSAME := Lib.hid hsame
                    have HWY1 := Lib.hid hwy1
                    have HWY2 := Lib.hid hwy2
                    have HBE2 := Lib.hid hbe
                    clear hnw hra hrb hsame hw1 hw2 hwy1 hwy2 hoa hob hp1 hp2 hbe hbe3 hgr
                    cases p1 with
                    | true =>
                      cases p2 with
                      | true =>
                        have hq : (oa == ob) = true := by simpa using HSAME.out.2 ⟨rfl, rfl⟩
                        go_upto_region 30 with (fail)
                        -- begin ra
                        refine wp_region_held_drew (S := (fun w' => (Below wr.heap.size wr w' ∧ wr.heap.size ≤ w'.heap.size) ∧ w'.cell? ⟨w.heap.size, 0, none⟩ = some (.int .i64 (k : Int)) ∧ w'.cell? ⟨w.heap.size, 1, none⟩ = some (.slice E m d) ∧ w'.cell? ⟨pb, a, none⟩ = some (.int .i64 oa) ∧ w'.cell? ⟨pb, b, none⟩ = some (.int .i64 ob))) (by kernel_rfl) ?raxs (fun hHeld => ?raxr)
                        case raxs => exact ⟨⟨(Below.refl _ _).drew, Nat.le_refl _⟩, c0, c1, ka, kb⟩
                        refine take_at (i := 0) (d := 97) (v := ?raxv0) rfl (by rfl) (by kernel_rfl) (by kernel_rfl) (by kernel_rfl) (fun _ _ _ h => h) (Or.inl ⟨by rfl, ?raxy0⟩) (by assumption) ?raxr0
                        case raxy0 => intro w' hSw; obtain ⟨_, q1, q2, q3, q4⟩ := hSw; go_simp; (try with_reducible rfl)
                        case' raxr0 => simp only [Act.put, List.setIfInBounds_toArray, List.set_cons_zero, List.set_cons_succ]
                        refine take_at (i := 1) (d := 98) (v := ?raxv1) rfl (by rfl) (by kernel_rfl) (by kernel_rfl) (by kernel_rfl) (fun _ _ _ h => h) (Or.inl ⟨by rfl, ?raxy1⟩) (by assumption) ?raxr1
                        case raxy1 => intro w' hSw; obtain ⟨_, q1, q2, q3, q4⟩ := hSw; go_simp; (try with_reducible rfl)
                        case' raxr1 => simp only [Act.put, List.setIfInBounds_toArray, List.set_cons_zero, List.set_cons_succ]
                        refine take_at (i := 2) (d := 99) (v := ?raxv2) rfl (by rfl) (by kernel_rfl) (by kernel_rfl) (by kernel_rfl) (fun _ _ _ h => h) (Or.inl ⟨by rfl, ?raxy2⟩) (by assumption) ?raxr2
                        case raxy2 => intro w' hSw; obtain ⟨_, q1, q2, q3, q4⟩ := hSw; go_simp; (try with_reducible rfl)
                        case' raxr2 => simp only [Act.put, List.setIfInBounds_toArray, List.set_cons_zero, List.set_cons_succ]
                        refine take_at (i := 3) (d := 100) (v := ?raxv3) rfl (by rfl) (by kernel_rfl) (by kernel_rfl) (by kernel_rfl) (fun _ _ _ h => h) (Or.inl ⟨by rfl, ?raxy3⟩) (by assumption) ?raxr3
                        case raxy3 => intro w' hSw; obtain ⟨_, q1, q2, q3, q4⟩ := hSw; go_simp; (try with_reducible rfl)
                        case' raxr3 => simp only [Act.put, List.setIfInBounds_toArray, List.set_cons_zero, List.set_cons_succ]
                        refine take_at (i := 4) (d := 101) (v := ?raxv4) rfl (by rfl) (by kernel_rfl) (by kernel_rfl) (by kernel_rfl) (fun _ _ _ h => h) (Or.inl ⟨by rfl, ?raxy4⟩) (by assumption) ?raxr4
                        case raxy4 => intro w' hSw; obtain ⟨_, q1, q2, q3, q4⟩ := hSw; go_simp; (try with_reducible rfl)
                        case' raxr4 => simp only [Act.put, List.setIfInBounds_toArray, List.set_cons_zero, List.set_cons_succ]
                        refine take_at (i := 5) (d := 102) (v := ?raxv5) rfl (by rfl) (by kernel_rfl) (by kernel_rfl) (by kernel_rfl) (fun _ _ _ h => h) (Or.inl ⟨by rfl, ?raxy5⟩) (by assumption) ?raxr5
                        case raxy5 => intro w' hSw; obtain ⟨_, q1, q2, q3, q4⟩ := hSw; go_simp; (try with_reducible rfl)
                        case' raxr5 => simp only [Act.put, List.setIfInBounds_toArray, List.set_cons_zero, List.set_cons_succ]
                        refine take_at (i := 6) (d := 103) (v := ?raxv6) rfl (by rfl) (by kernel_rfl) (by kernel_rfl) (by kernel_rfl) (fun _ _ _ h => h) (Or.inl ⟨by rfl, ?raxy6⟩) (by assumption) ?raxr6
                        case raxy6 => intro w' hSw; obtain ⟨_, q1, q2, q3, q4⟩ := hSw; go_simp; (try with_reducible rfl)
                        case' raxr6 => simp only [Act.put, List.setIfInBounds_toArray, List.set_cons_zero, List.set_cons_succ]
                        refine take_at (i := 7) (d := 104) (v := ?raxv7) rfl (by rfl) (by kernel_rfl) (by kernel_rfl) (by kernel_rfl) (fun _ _ _ h => h) (Or.inl ⟨by rfl, ?raxy7⟩) (by assumption) ?raxr7
                        case raxy7 => intro w' hSw; obtain ⟨_, q1, q2, q3, q4⟩ := hSw; go_simp; (try with_reducible rfl)
                        case' raxr7 => simp only [Act.put, List.setIfInBounds_toArray, List.set_cons_zero, List.set_cons_succ]
                        refine take_at (i := 8) (d := 105) (v := ?raxv8) rfl (by rfl) (by kernel_rfl) (by kernel_rfl) (by kernel_rfl) (fun _ _ _ h => h) (Or.inl ⟨by rfl, ?raxy8⟩) (by assumption) ?raxr8
                        case raxy8 => intro w' hSw; obtain ⟨_, q1, q2, q3, q4⟩ := hSw; go_simp; (try with_reducible rfl)
                        case' raxr8 => simp only [Act.put, List.setIfInBounds_toArray, List.set_cons_zero, List.set_cons_succ]
                        refine take_at (i := 9) (d := 106) (v := ?raxv9) rfl (by rfl) (by kernel_rfl) (by kernel_rfl) (by kernel_rfl) (fun _ _ _ h => h) (Or.inl ⟨by rfl, ?raxy9⟩) (by assumption) ?raxr9
                        case raxy9 => intro w' hSw; obtain ⟨_, q1, q2, q3, q4⟩ := hSw; go_simp; (try with_reducible rfl)
                        case' raxr9 => simp only [Act.put, List.setIfInBounds_toArray, List.set_cons_zero, List.set_cons_succ]
                        refine take_at (i := 10) (d := 107) (v := ?raxv10) rfl (by rfl) (by kernel_rfl) (by kernel_rfl) (by kernel_rfl) (fun _ _ _ h => h) (Or.inl ⟨by rfl, ?raxy10⟩) (by assumption) ?raxr10
                        case raxy10 => intro w' hSw; obtain ⟨_, q1, q2, q3, q4⟩ := hSw; go_simp; (try with_reducible rfl)
                        case' raxr10 => simp only [Act.put, List.setIfInBounds_toArray, List.set_cons_zero, List.set_cons_succ]
                        refine take_at (i := 11) (d := 108) (v := ?raxv11) rfl (by rfl) (by kernel_rfl) (by kernel_rfl) (by kernel_rfl) (fun _ _ _ h => h) (Or.inl ⟨by rfl, ?raxy11⟩) (by assumption) ?raxr11
                        case raxy11 => intro w' hSw; obtain ⟨_, q1, q2, q3, q4⟩ := hSw; go_simp; (try with_reducible rfl)
                        case' raxr11 => simp only [Act.put, List.setIfInBounds_toArray, List.set_cons_zero, List.set_cons_succ]
                        refine take_at (i := 12) (d := 109) (v := ?raxv12) rfl (by rfl) (by kernel_rfl) (by kernel_rfl) (by kernel_rfl) (fun _ _ _ h => h) (Or.inl ⟨by rfl, ?raxy12⟩) (by assumption) ?raxr12
                        case raxy12 => intro w' hSw; obtain ⟨_, q1, q2, q3, q4⟩ := hSw; go_simp; (try with_reducible rfl)
                        case' raxr12 => simp only [Act.put, List.setIfInBounds_toArray, List.set_cons_zero, List.set_cons_succ]
                        refine take_at (i := 13) (d := 110) (v := ?raxv13) rfl (by rfl) (by kernel_rfl) (by kernel_rfl) (by kernel_rfl) (fun _ _ _ h => h) (Or.inl ⟨by rfl, ?raxy13⟩) (by assumption) ?raxr13
                        case raxy13 => intro w' hSw; obtain ⟨_, q1, q2, q3, q4⟩ := hSw; go_simp; (try with_reducible rfl)
                        case' raxr13 => simp only [Act.put, List.setIfInBounds_toArray, List.set_cons_zero, List.set_cons_succ]
                        refine take_at (i := 14) (d := 111) (v := ?raxv14) rfl (by rfl) (by kernel_rfl) (by kernel_rfl) (by kernel_rfl) (fun _ _ _ h => h) (Or.inl ⟨by rfl, ?raxy14⟩) (by assumption) ?raxr14
                        case raxy14 => intro w' hSw; obtain ⟨_, q1, q2, q3, q4⟩ := hSw; go_simp; (try with_reducible rfl)
                        case' raxr14 => simp only [Act.put, List.setIfInBounds_toArray, List.set_cons_zero, List.set_cons_succ]
                        refine take_at (i := 15) (d := 112) (v := ?raxv15) rfl (by rfl) (by kernel_rfl) (by kernel_rfl) (by kernel_rfl) (fun _ _ _ h => h) (Or.inl ⟨by rfl, ?raxy15⟩) (by assumption) ?raxr15
                        case raxy15 => intro w' hSw; obtain ⟨_, q1, q2, q3, q4⟩ := hSw; go_simp; (try with_reducible rfl)
                        case' raxr15 => simp only [Act.put, List.setIfInBounds_toArray, List.set_cons_zero, List.set_cons_succ]
                        refine take_at (i := 16) (d := 113) (v := ?raxv16) rfl (by rfl) (by kernel_rfl) (by kernel_rfl) (by kernel_rfl) (fun _ _ _ h => h) (Or.inl ⟨by rfl, ?raxy16⟩) (by assumption) ?raxr16
                        case raxy16 => intro w' hSw; obtain ⟨_, q1, q2, q3, q4⟩ := hSw; go_simp; (try with_reducible rfl)
                        case' raxr16 => simp only [Act.put, List.setIfInBounds_toArray, List.set_cons_zero, List.set_cons_succ]
                        refine take_at (i := 17) (d := 114) (v := ?raxv17) rfl (by rfl) (by kernel_rfl) (by kernel_rfl) (by kernel_rfl) (fun _ _ _ h => h) (Or.inl ⟨by rfl, ?raxy17⟩) (by assumption) ?raxr17
                        case raxy17 => intro w' hSw; obtain ⟨_, q1, q2, q3, q4⟩ := hSw; go_simp; (try with_reducible rfl)
                        case' raxr17 => simp only [Act.put, List.setIfInBounds_toArray, List.set_cons_zero, List.set_cons_succ]
                        refine take_at (i := 18) (d := 115) (v := ?raxv18) rfl (by rfl) (by kernel_rfl) (by kernel_rfl) (by kernel_rfl) (fun _ _ _ h => h) (Or.inl ⟨by rfl, ?raxy18⟩) (by assumption) ?raxr18
                        case raxy18 => intro w' hSw; obtain ⟨_, q1, q2, q3, q4⟩ := hSw; go_simp; (try with_reducible rfl)
                        case' raxr18 => simp only [Act.put, List.setIfInBounds_toArray, List.set_cons_zero, List.set_cons_succ]
                        refine take_at (i := 19) (d := 116) (v := ?raxv19) rfl (by rfl) (by kernel_rfl) (by kernel_rfl) (by kernel_rfl) (fun _ _ _ h => h) (Or.inl ⟨by rfl, ?raxy19⟩) (by assumption) ?raxr19
                        case raxy19 => intro w' hSw; obtain ⟨_, q1, q2, q3, q4⟩ := hSw; go_simp; (try with_reducible rfl)
                        case' raxr19 => simp only [Act.put, List.setIfInBounds_toArray, List.set_cons_zero, List.set_cons_succ]
                        refine take_at (i := 20) (d := 117) (v := ?raxv20) rfl (by rfl) (by kernel_rfl) (by kernel_rfl) (by kernel_rfl) (fun _ _ _ h => h) (Or.inl ⟨by rfl, ?raxy20⟩) (by assumption) ?raxr20
                        case raxy20 => intro w' hSw; obtain ⟨_, q1, q2, q3, q4⟩ := hSw; go_simp; (try with_reducible rfl)
                        case' raxr20 => simp only [Act.put, List.setIfInBounds_toArray, List.set_cons_zero, List.set_cons_succ]
                        refine take_at (i := 21) (d := 118) (v := ?raxv21) rfl (by rfl) (by kernel_rfl) (by kernel_rfl) (by kernel_rfl) (fun _ _ _ h => h) (Or.inl ⟨by rfl, ?raxy21⟩) (by assumption) ?raxr21
                        case raxy21 => intro w' hSw; obtain ⟨_, q1, q2, q3, q4⟩ := hSw; go_simp; (try with_reducible rfl)
                        case' raxr21 => simp only [Act.put, List.setIfInBounds_toArray, List.set_cons_zero, List.set_cons_succ]
                        refine take_at (i := 22) (d := 119) (v := ?raxv22) rfl (by rfl) (by kernel_rfl) (by kernel_rfl) (by kernel_rfl) (fun _ _ _ h => h) (Or.inl ⟨by rfl, ?raxy22⟩) (by assumption) ?raxr22
                        case raxy22 => intro w' hSw; obtain ⟨_, q1, q2, q3, q4⟩ := hSw; go_simp; (try with_reducible rfl)
                        case' raxr22 => simp only [Act.put, List.setIfInBounds_toArray, List.set_cons_zero, List.set_cons_succ]
                        refine take_at (i := 23) (d := 120) (v := ?raxv23) rfl (by rfl) (by kernel_rfl) (by kernel_rfl) (by kernel_rfl) (fun _ _ _ h => h) (Or.inl ⟨by rfl, ?raxy23⟩) (by assumption) ?raxr23
                        case raxy23 => intro w' hSw; obtain ⟨_, q1, q2, q3, q4⟩ := hSw; go_simp; (try with_reducible rfl)
                        case' raxr23 => simp only [Act.put, List.setIfInBounds_toArray, List.set_cons_zero, List.set_cons_succ]
                        refine take_at (i := 24) (d := 121) (v := ?raxv24) rfl (by rfl) (by kernel_rfl) (by kernel_rfl) (by kernel_rfl) (fun _ _ _ h => h) (Or.inl ⟨by rfl, ?raxy24⟩) (by assumption) ?raxr24
                        case raxy24 => intro w' hSw; obtain ⟨_, q1, q2, q3, q4⟩ := hSw; go_simp; (try with_reducible rfl)
                        case' raxr24 => simp only [Act.put, List.setIfInBounds_toArray, List.set_cons_zero, List.set_cons_succ]
                        refine wpAnyH_ready (rs := [25]) (by kernel_rfl) (by simp) ?raxc25
                        refine AllReadyH.cons rfl (fun K hK => ?raxb25) AllReadyH.nil
                        go_simp
                        go_at_call 43; refine (HWY1.out _ hHeld.1.1).mono ?_; rintro e w8 ⟨rfl, hb8⟩
                        refine hK.out _ _ ?raxh25 (fun hHeld => ?raxr25)
                        case raxh25 => exact hkc hHeld hb8
                        case' raxr25 => (clear hK K; try simp only [Act.put, List.setIfInBounds_toArray, List.set_cons_zero, List.set_cons_succ])
                        refine take_at (i := 26) (d := 123) (v := ?raxv26) rfl (by rfl) (by kernel_rfl) (by kernel_rfl) (by kernel_rfl) (fun _ _ _ h => h) (Or.inl ⟨by rfl, ?raxy26⟩) (by assumption) ?raxr26
                        case raxy26 => intro w' hSw; obtain ⟨_, q1, q2, q3, q4⟩ := hSw; go_simp; (try with_reducible rfl)
                        case' raxr26 => simp only [Act.put, List.setIfInBounds_toArray, List.set_cons_zero, List.set_cons_succ]
                        refine take_at (i := 27) (d := 124) (v := ?raxv27) rfl (by rfl) (by kernel_rfl) (by kernel_rfl) (by kernel_rfl) (fun _ _ _ h => h) (Or.inl ⟨by rfl, ?raxy27⟩) (by assumption) ?raxr27
                        case raxy27 => intro w' hSw; obtain ⟨_, q1, q2, q3, q4⟩ := hSw; go_simp; (try with_reducible rfl)
                        case' raxr27 => simp only [Act.put, List.setIfInBounds_toArray, List.set_cons_zero, List.set_cons_succ]
                        refine take_at (i := 28) (d := 125) (v := ?raxv28) rfl (by rfl) (by kernel_rfl) (by kernel_rfl) (by kernel_rfl) (fun _ _ _ h => h) (Or.inl ⟨by rfl, ?raxy28⟩) (by assumption) ?raxr28
                        case raxy28 => intro w' hSw; obtain ⟨_, q1, q2, q3, q4⟩ := hSw; go_simp; (try with_reducible rfl)
                        case' raxr28 => simp only [Act.put, List.setIfInBounds_toArray, List.set_cons_zero, List.set_cons_succ]
                        refine take_at (i := 29) (d := 126) (v := ?raxv29) rfl (by rfl) (by kernel_rfl) (by kernel_rfl) (by kernel_rfl) (fun _ _ _ h => h) (Or.inl ⟨by rfl, ?raxy29⟩) (by assumption) ?raxr29
                        case raxy29 => intro w' hSw; obtain ⟨_, q1, q2, q3, q4⟩ := hSw; go_simp; (try with_reducible rfl)
                        case' raxr29 => simp only [Act.put, List.setIfInBounds_toArray, List.set_cons_zero, List.set_cons_succ]
                        refine wpAnyH_ready (rs := [30]) (by kernel_rfl) (by simp) ?raxc30
                        refine AllReadyH.cons rfl (fun K hK => ?raxb30) AllReadyH.nil
                        go_simp
                        go_at_call 43; refine (HWY2.out _ hHeld.1.1).mono ?_; rintro e w9 ⟨rfl, hb9⟩
                        refine hK.out _ _ ?raxh30 (fun hHeld => ?raxr30)
                        case raxh30 => exact hkc hHeld hb9
                        case' raxr30 => (clear hK K; try simp only [Act.put, List.setIfInBounds_toArray, List.set_cons_zero, List.set_cons_succ])
                        refine take_at (i := 31) (d := 128) (v := ?raxv31) rfl (by rfl) (by kernel_rfl) (by kernel_rfl) (by kernel_rfl) (fun _ _ _ h => h) (Or.inl ⟨by rfl, ?raxy31⟩) (by assumption) ?raxr31
                        case raxy31 => intro w' hSw; obtain ⟨_, q1, q2, q3, q4⟩ := hSw; go_simp; (try with_reducible rfl)
                        case' raxr31 => simp only [Act.put, List.setIfInBounds_toArray, List.set_cons_zero, List.set_cons_succ]
                        refine take_at (i := 32) (d := 129) (v := ?raxv32) rfl (by rfl) (by kernel_rfl) (by kernel_rfl) (by kernel_rfl) (fun _ _ _ h => h) (Or.inl ⟨by rfl, ?raxy32⟩) (by assumption) ?raxr32
                        case raxy32 => intro w' hSw; obtain ⟨_, q1, q2, q3, q4⟩ := hSw; go_simp; (try with_reducible rfl)
                        case' raxr32 => simp only [Act.put, List.setIfInBounds_toArray, List.set_cons_zero, List.set_cons_succ]
                        refine take_at (i := 33) (d := 130) (v := ?raxv33) rfl (by rfl) (by kernel_rfl) (by kernel_rfl) (by kernel_rfl) (fun _ _ _ h => h) (Or.inl ⟨by rfl, ?raxy33⟩) (by assumption) ?raxr33
                        case raxy33 => intro w' hSw; obtain ⟨_, q1, q2, q3, q4⟩ := hSw; go_simp; (try with_reducible rfl)
                        case' raxr33 => simp only [Act.put, List.setIfInBounds_toArray, List.set_cons_zero, List.set_cons_succ]
                        refine wpAnyH_done (by kernel_rfl) ?raxz _
                        -- end ra
                        have HHB := Lib.hid hHeld.1.1
                        go_wp2
                        go_roundw
                        case rel => exact ⟨b + 1, by go_num, by omega, HBE2.out.trans (HHB.out.mono HBE2.out.size)⟩
                        case measure => simp [intOf]; omega
                      | false =>
                        have hq : (oa == ob) = false := by
                          rw [beq_eq_false_iff_ne]
                          intro e
                          exact absurd (HSAME.out.1 e).2 (by simp)
                        go_upto_region 30 with (fail)
                        -- begin rb
                        refine wp_region_held_drew (S := (fun w' => (Below wr.heap.size wr w' ∧ wr.heap.size ≤ w'.heap.size) ∧ w'.cell? ⟨w.heap.size, 0, none⟩ = some (.int .i64 (k : Int)) ∧ w'.cell? ⟨w.heap.size, 1, none⟩ = some (.slice E m d) ∧ w'.cell? ⟨pb, a, none⟩ = some (.int .i64 oa) ∧ w'.cell? ⟨pb, b, none⟩ = some (.int .i64 ob))) (by kernel_rfl) ?rbxs (fun hHeld => ?rbxr)
                        case rbxs => exact ⟨⟨(Below.refl _ _).drew, Nat.le_refl _⟩, c0, c1, ka, kb⟩
                        refine take_at (i := 0) (d := 97) (v := ?rbxv0) rfl (by rfl) (by kernel_rfl) (by kernel_rfl) (by kernel_rfl) (fun _ _ _ h => h) (Or.inl ⟨by rfl, ?rbxy0⟩) (by assumption) ?rbxr0
                        case rbxy0 => intro w' hSw; obtain ⟨_, q1, q2, q3, q4⟩ := hSw; go_simp; (try with_reducible rfl)
                        case' rbxr0 => simp only [Act.put, List.setIfInBounds_toArray, List.set_cons_zero, List.set_cons_succ]
                        refine take_at (i := 1) (d := 98) (v := ?rbxv1) rfl (by rfl) (by kernel_rfl) (by kernel_rfl) (by kernel_rfl) (fun _ _ _ h => h) (Or.inl ⟨by rfl, ?rbxy1⟩) (by assumption) ?rbxr1
                        case rbxy1 => intro w' hSw; obtain ⟨_, q1, q2, q3, q4⟩ := hSw; go_simp; (try with_reducible rfl)
                        case' rbxr1 => simp only [Act.put, List.setIfInBounds_toArray, List.set_cons_zero, List.set_cons_succ]
                        refine take_at (i := 2) (d := 99) (v := ?rbxv2) rfl (by rfl) (by kernel_rfl) (by kernel_rfl) (by kernel_rfl) (fun _ _ _ h => h) (Or.inl ⟨by rfl, ?rbxy2⟩) (by assumption) ?rbxr2
                        case rbxy2 => intro w' hSw; obtain ⟨_, q1, q2, q3, q4⟩ := hSw; go_simp; (try with_reducible rfl)
                        case' rbxr2 => simp only [Act.put, List.setIfInBounds_toArray, List.set_cons_zero, List.set_cons_succ]
                        refine take_at (i := 3) (d := 100) (v := ?rbxv3) rfl (by rfl) (by kernel_rfl) (by kernel_rfl) (by kernel_rfl) (fun _ _ _ h => h) (Or.inl ⟨by rfl, ?rbxy3⟩) (by assumption) ?rbxr3
                        case rbxy3 => intro w' hSw; obtain ⟨_, q1, q2, q3, q4⟩ := hSw; go_simp; (try with_reducible rfl)
                        case' rbxr3 => simp only [Act.put, List.setIfInBounds_toArray, List.set_cons_zero, List.set_cons_succ]
                        refine take_at (i := 4) (d := 101) (v := ?rbxv4) rfl (by rfl) (by kernel_rfl) (by kernel_rfl) (by kernel_rfl) (fun _ _ _ h => h) (Or.inl ⟨by rfl, ?rbxy4⟩) (by assumption) ?rbxr4
                        case rbxy4 => intro w' hSw; obtain ⟨_, q1, q2, q3, q4⟩ := hSw; go_simp; (try with_reducible rfl)
                        case' rbxr4 => simp only [Act.put, List.setIfInBounds_toArray, List.set_cons_zero, List.set_cons_succ]
                        refine take_at (i := 5) (d := 102) (v := ?rbxv5) rfl (by rfl) (by kernel_rfl) (by kernel_rfl) (by kernel_rfl) (fun _ _ _ h => h) (Or.inl ⟨by rfl, ?rbxy5⟩) (by assumption) ?rbxr5
                        case rbxy5 => intro w' hSw; obtain ⟨_, q1, q2, q3, q4⟩ := hSw; go_simp; (try with_reducible rfl)
                        case' rbxr5 => simp only [Act.put, List.setIfInBounds_toArray, List.set_cons_zero, List.set_cons_succ]
                        refine take_at (i := 6) (d := 103) (v := ?rbxv6) rfl (by rfl) (by kernel_rfl) (by kernel_rfl) (by kernel_rfl) (fun _ _ _ h => h) (Or.inl ⟨by rfl, ?rbxy6⟩) (by assumption) ?rbxr6
                        case rbxy6 => intro w' hSw; obtain ⟨_, q1, q2, q3, q4⟩ := hSw; go_simp; (try with_reducible rfl)
                        case' rbxr6 => simp only [Act.put, List.setIfInBounds_toArray, List.set_cons_zero, List.set_cons_succ]
                        refine take_at (i := 7) (d := 104) (v := ?rbxv7) rfl (by rfl) (by kernel_rfl) (by kernel_rfl) (by kernel_rfl) (fun _ _ _ h => h) (Or.inl ⟨by rfl, ?rbxy7⟩) (by assumption) ?rbxr7
                        case rbxy7 => intro w' hSw; obtain ⟨_, q1, q2, q3, q4⟩ := hSw; go_simp; (try with_reducible rfl)
                        case' rbxr7 => simp only [Act.put, List.setIfInBounds_toArray, List.set_cons_zero, List.set_cons_succ]
                        refine take_at (i := 8) (d := 105) (v := ?rbxv8) rfl (by rfl) (by kernel_rfl) (by kernel_rfl) (by kernel_rfl) (fun _ _ _ h => h) (Or.inl ⟨by rfl, ?rbxy8⟩) (by assumption) ?rbxr8
                        case rbxy8 => intro w' hSw; obtain ⟨_, q1, q2, q3, q4⟩ := hSw; go_simp; (try with_reducible rfl)
                        case' rbxr8 => simp only [Act.put, List.setIfInBounds_toArray, List.set_cons_zero, List.set_cons_succ]
                        refine take_at (i := 9) (d := 106) (v := ?rbxv9) rfl (by rfl) (by kernel_rfl) (by kernel_rfl) (by kernel_rfl) (fun _ _ _ h => h) (Or.inl ⟨by rfl, ?rbxy9⟩) (by assumption) ?rbxr9
                        case rbxy9 => intro w' hSw; obtain ⟨_, q1, q2, q3, q4⟩ := hSw; go_simp; (try with_reducible rfl)
                        case' rbxr9 => simp only [Act.put, List.setIfInBounds_toArray, List.set_cons_zero, List.set_cons_succ]
                        refine take_at (i := 10) (d := 107) (v := ?rbxv10) rfl (by rfl) (by kernel_rfl) (by kernel_rfl) (by kernel_rfl) (fun _ _ _ h => h) (Or.inl ⟨by rfl, ?rbxy10⟩) (by assumption) ?rbxr10
                        case rbxy10 => intro w' hSw; obtain ⟨_, q1, q2, q3, q4⟩ := hSw; go_simp; (try with_reducible rfl)
                        case' rbxr10 => simp only [Act.put, List.setIfInBounds_toArray, List.set_cons_zero, List.set_cons_succ]
                        refine take_at (i := 11) (d := 108) (v := ?rbxv11) rfl (by rfl) (by kernel_rfl) (by kernel_rfl) (by kernel_rfl) (fun _ _ _ h => h) (Or.inl ⟨by rfl, ?rbxy11⟩) (by assumption) ?rbxr11
                        case rbxy11 => intro w' hSw; obtain ⟨_, q1, q2, q3, q4⟩ := hSw; go_simp; (try with_reducible rfl)
                        case' rbxr11 => simp only [Act.put, List.setIfInBounds_toArray, List.set_cons_zero, List.set_cons_succ]
                        refine take_at (i := 12) (d := 109) (v := ?rbxv12) rfl (by rfl) (by kernel_rfl) (by kernel_rfl) (by kernel_rfl) (fun _ _ _ h => h) (Or.inl ⟨by rfl, ?rbxy12⟩) (by assumption) ?rbxr12
                        case rbxy12 => intro w' hSw; obtain ⟨_, q1, q2, q3, q4⟩ := hSw; go_simp; (try with_reducible rfl)
                        case' rbxr12 => simp only [Act.put, List.setIfInBounds_toArray, List.set_cons_zero, List.set_cons_succ]
                        refine take_at (i := 13) (d := 110) (v := ?rbxv13) rfl (by rfl) (by kernel_rfl) (by kernel_rfl) (by kernel_rfl) (fun _ _ _ h => h) (Or.inl ⟨by rfl, ?rbxy13⟩) (by assumption) ?rbxr13
                        case rbxy13 => intro w' hSw; obtain ⟨_, q1, q2, q3, q4⟩ := hSw; go_simp; (try with_reducible rfl)
                        case' rbxr13 => simp only [Act.put, List.setIfInBounds_toArray, List.set_cons_zero, List.set_cons_succ]
                        refine take_at (i := 14) (d := 111) (v := ?rbxv14) rfl (by rfl) (by kernel_rfl) (by kernel_rfl) (by kernel_rfl) (fun _ _ _ h => h) (Or.inl ⟨by rfl, ?rbxy14⟩) (by assumption) ?rbxr14
                        case rbxy14 => intro w' hSw; obtain ⟨_, q1, q2, q3, q4⟩ := hSw; go_simp; (try with_reducible rfl)
                        case' rbxr14 => simp only [Act.put, List.setIfInBounds_toArray, List.set_cons_zero, List.set_cons_succ]
                        refine take_at (i := 15) (d := 112) (v := ?rbxv15) rfl (by rfl) (by kernel_rfl) (by kernel_rfl) (by kernel_rfl) (fun _ _ _ h => h) (Or.inl ⟨by rfl, ?rbxy15⟩) (by assumption) ?rbxr15
                        case rbxy15 => intro w' hSw; obtain ⟨_, q1, q2, q3, q4⟩ := hSw; go_simp; (try with_reducible rfl)
                        case' rbxr15 => simp only [Act.put, List.setIfInBounds_toArray, List.set_cons_zero, List.set_cons_succ]
                        refine take_at (i := 16) (d := 113) (v := ?rbxv16) rfl (by rfl) (by kernel_rfl) (by kernel_rfl) (by kernel_rfl) (fun _ _ _ h => h) (Or.inl ⟨by rfl, ?rbxy16⟩) (by assumption) ?rbxr16
                        case rbxy16 => intro w' hSw; obtain ⟨_, q1, q2, q3, q4⟩ := hSw; go_simp; (try with_reducible rfl)
                        case' rbxr16 => simp only [Act.put, List.setIfInBounds_toArray, List.set_cons_zero, List.set_cons_succ]
                        refine take_at (i := 17) (d := 114) (v := ?rbxv17) rfl (by rfl) (by kernel_rfl) (by kernel_rfl) (by kernel_rfl) (fun _ _ _ h => h) (Or.inl ⟨by rfl, ?rbxy17⟩) (by assumption) ?rbxr17
                        case rbxy17 => intro w' hSw; obtain ⟨_, q1, q2, q3, q4⟩ := hSw; go_simp; (try with_reducible rfl)
                        case' rbxr17 => simp only [Act.put, List.setIfInBounds_toArray, List.set_cons_zero, List.set_cons_succ]
                        refine take_at (i := 18) (d := 115) (v := ?rbxv18) rfl (by rfl) (by kernel_rfl) (by kernel_rfl) (by kernel_rfl) (fun _ _ _ h => h) (Or.inl ⟨by rfl, ?rbxy18⟩) (by assumption) ?rbxr18
                        case rbxy18 => intro w' hSw; obtain ⟨_, q1, q2, q3, q4⟩ := hSw; go_simp; (try with_reducible rfl)
                        case' rbxr18 => simp only [Act.put, List.setIfInBounds_toArray, List.set_cons_zero, List.set_cons_succ]
                        refine take_at (i := 19) (d := 116) (v := ?rbxv19) rfl (by rfl) (by kernel_rfl) (by kernel_rfl) (by kernel_rfl) (fun _ _ _ h => h) (Or.inl ⟨by rfl, ?rbxy19⟩) (by assumption) ?rbxr19
                        case rbxy19 => intro w' hSw; obtain ⟨_, q1, q2, q3, q4⟩ := hSw; go_simp; (try with_reducible rfl)
                        case' rbxr19 => simp only [Act.put, List.setIfInBounds_toArray, List.set_cons_zero, List.set_cons_succ]
                        refine take_at (i := 20) (d := 117) (v := ?rbxv20) rfl (by rfl) (by kernel_rfl) (by kernel_rfl) (by kernel_rfl) (fun _ _ _ h => h) (Or.inl ⟨by rfl, ?rbxy20⟩) (by assumption) ?rbxr20
                        case rbxy20 => intro w' hSw; obtain ⟨_, q1, q2, q3, q4⟩ := hSw; go_simp; (try with_reducible rfl)
                        case' rbxr20 => simp only [Act.put, List.setIfInBounds_toArray, List.set_cons_zero, List.set_cons_succ]
                        refine take_at (i := 21) (d := 118) (v := ?rbxv21) rfl (by rfl) (by kernel_rfl) (by kernel_rfl) (by kernel_rfl) (fun _ _ _ h => h) (Or.inl ⟨by rfl, ?rbxy21⟩) (by assumption) ?rbxr21
                        case rbxy21 => intro w' hSw; obtain ⟨_, q1, q2, q3, q4⟩ := hSw; go_simp; (try with_reducible rfl)
                        case' rbxr21 => simp only [Act.put, List.setIfInBounds_toArray, List.set_cons_zero, List.set_cons_succ]
                        refine take_at (i := 22) (d := 119) (v := ?rbxv22) rfl (by rfl) (by kernel_rfl) (by kernel_rfl) (by kernel_rfl) (fun _ _ _ h => h) (Or.inl ⟨by rfl, ?rbxy22⟩) (by assumption) ?rbxr22
                        case rbxy22 => intro w' hSw; obtain ⟨_, q1, q2, q3, q4⟩ := hSw; go_simp; (try with_reducible rfl)
                        case' rbxr22 => simp only [Act.put, List.setIfInBounds_toArray, List.set_cons_zero, List.set_cons_succ]
                        refine take_at (i := 23) (d := 120) (v := ?rbxv23) rfl (by rfl) (by kernel_rfl) (by kernel_rfl) (by kernel_rfl) (fun _ _ _ h => h) (Or.inl ⟨by rfl, ?rbxy23⟩) (by assumption) ?rbxr23
                        case rbxy23 => intro w' hSw; obtain ⟨_, q1, q2, q3, q4⟩ := hSw; go_simp; (try with_reducible rfl)
                        case' rbxr23 => simp only [Act.put, List.setIfInBounds_toArray, List.set_cons_zero, List.set_cons_succ]
                        refine take_at (i := 24) (d := 121) (v := ?rbxv24) rfl (by rfl) (by kernel_rfl) (by kernel_rfl) (by kernel_rfl) (fun _ _ _ h => h) (Or.inl ⟨by rfl, ?rbxy24⟩) (by assumption) ?rbxr24
                        case rbxy24 => intro w' hSw; obtain ⟨_, q1, q2, q3, q4⟩ := hSw; go_simp; (try with_reducible rfl)
                        case' rbxr24 => simp only [Act.put, List.setIfInBounds_toArray, List.set_cons_zero, List.set_cons_succ]
                        refine wpAnyH_ready (rs := [25]) (by kernel_rfl) (by simp) ?rbxc25
                        refine AllReadyH.cons rfl (fun K hK => ?rbxb25) AllReadyH.nil
                        go_simp
                        go_at_call 43; refine (HWY1.out _ hHeld.1.1).mono ?_; rintro e w8 ⟨rfl, hb8⟩
                        refine hK.out _ _ ?rbxh25 (fun hHeld => ?rbxr25)
                        case rbxh25 => exact hkc hHeld hb8
                        case' rbxr25 => (clear hK K; try simp only [Act.put, List.setIfInBounds_toArray, List.set_cons_zero, List.set_cons_succ])
                        refine take_at (i := 26) (d := 123) (v := ?rbxv26) rfl (by rfl) (by kernel_rfl) (by kernel_rfl) (by kernel_rfl) (fun _ _ _ h => h) (Or.inl ⟨by rfl, ?rbxy26⟩) (by assumption) ?rbxr26
                        case rbxy26 => intro w' hSw; obtain ⟨_, q1, q2, q3, q4⟩ := hSw; go_simp; (try with_reducible rfl)
                        case' rbxr26 => simp only [Act.put, List.setIfInBounds_toArray, List.set_cons_zero, List.set_cons_succ]
                        refine take_at (i := 27) (d := 124) (v := ?rbxv27) rfl (by rfl) (by kernel_rfl) (by kernel_rfl) (by kernel_rfl) (fun _ _ _ h => h) (Or.inl ⟨by rfl, ?rbxy27⟩) (by assumption) ?rbxr27
                        case rbxy27 => intro w' hSw; obtain ⟨_, q1, q2, q3, q4⟩ := hSw; go_simp; (try with_reducible rfl)
                        case' rbxr27 => simp only [Act.put, List.setIfInBounds_toArray, List.set_cons_zero, List.set_cons_succ]
                        refine take_at (i := 28) (d := 125) (v := ?rbxv28) rfl (by rfl) (by kernel_rfl) (by kernel_rfl) (by kernel_rfl) (fun _ _ _ h => h) (Or.inl ⟨by rfl, ?rbxy28⟩) (by assumption) ?rbxr28
                        case rbxy28 => intro w' hSw; obtain ⟨_, q1, q2, q3, q4⟩ := hSw; go_simp; (try with_reducible rfl)
                        case' rbxr28 => simp only [Act.put, List.setIfInBounds_toArray, List.set_cons_zero, List.set_cons_succ]
                        refine take_at (i := 29) (d := 126) (v := ?rbxv29) rfl (by rfl) (by kernel_rfl) (by kernel_rfl) (by kernel_rfl) (fun _ _ _ h => h) (Or.inl ⟨by rfl, ?rbxy29⟩) (by assumption) ?rbxr29
                        case rbxy29 => intro w' hSw; obtain ⟨_, q1, q2, q3, q4⟩ := hSw; go_simp; (try with_reducible rfl)
                        case' rbxr29 => simp only [Act.put, List.setIfInBounds_toArray, List.set_cons_zero, List.set_cons_succ]
                        refine wpAnyH_ready (rs := [30]) (by kernel_rfl) (by simp) ?rbxc30
                        refine AllReadyH.cons rfl (fun K hK => ?rbxb30) AllReadyH.nil
                        go_simp
                        go_at_call 43; refine (HWY2.out _ hHeld.1.1).mono ?_; rintro e w9 ⟨rfl, hb9⟩
                        refine hK.out _ _ ?rbxh30 (fun hHeld => ?rbxr30)
                        case rbxh30 => exact hkc hHeld hb9
                        case' rbxr30 => (clear hK K; try simp only [Act.put, List.setIfInBounds_toArray, List.set_cons_zero, List.set_cons_succ])
                        refine take_at (i := 31) (d := 128) (v := ?rbxv31) rfl (by rfl) (by kernel_rfl) (by kernel_rfl) (by kernel_rfl) (fun _ _ _ h => h) (Or.inl ⟨by rfl, ?rbxy31⟩) (by assumption) ?rbxr31
                        case rbxy31 => intro w' hSw; obtain ⟨_, q1, q2, q3, q4⟩ := hSw; go_simp; (try with_reducible rfl)
                        case' rbxr31 => simp only [Act.put, List.setIfInBounds_toArray, List.set_cons_zero, List.set_cons_succ]
                        refine take_at (i := 32) (d := 129) (v := ?rbxv32) rfl (by rfl) (by kernel_rfl) (by kernel_rfl) (by kernel_rfl) (fun _ _ _ h => h) (Or.inl ⟨by rfl, ?rbxy32⟩) (by assumption) ?rbxr32
                        case rbxy32 => intro w' hSw; obtain ⟨_, q1, q2, q3, q4⟩ := hSw; go_simp; (try with_reducible rfl)
                        case' rbxr32 => simp only [Act.put, List.setIfInBounds_toArray, List.set_cons_zero, List.set_cons_succ]
                        refine take_at (i := 33) (d := 130) (v := ?rbxv33) rfl (by rfl) (by kernel_rfl) (by kernel_rfl) (by kernel_rfl) (fun _ _ _ h => h) (Or.inl ⟨by rfl, ?rbxy33⟩) (by assumption) ?rbxr33
                        case rbxy33 => intro w' hSw; obtain ⟨_, q1, q2, q3, q4⟩ := hSw; go_simp; (try with_reducible rfl)
                        case' rbxr33 => simp only [Act.put, List.setIfInBounds_toArray, List.set_cons_zero, List.set_cons_succ]
                        refine wpAnyH_done (by kernel_rfl) ?rbxz _
                        -- end rb
                        have HHB := Lib.hid hHeld.1.1
                        go_wp2
                        go_roundw
                        case rel => exact ⟨b + 1, by go_num, by omega, HBE2.out.trans (HHB.out.mono HBE2.out.size)⟩
                        case measure => simp [intOf]; omega
                    | false =>
                      have hq : (oa == ob) = false := by
                        rw [beq_eq_false_iff_ne]
                        intro e
                        exact absurd (HSAME.out.1 e).1 (by simp)
                      go_upto_region 30 with (fail)
                      -- begin rc
                      refine wp_region_held_drew (S := (fun w' => (Below wr.heap.size wr w' ∧ wr.heap.size ≤ w'.heap.size) ∧ w'.cell? ⟨w.heap.size, 0, none⟩ = some (.int .i64 (k : Int)) ∧ w'.cell? ⟨w.heap.size, 1, none⟩ = some (.slice E m d) ∧ w'.cell? ⟨pb, a, none⟩ = some (.int .i64 oa) ∧ w'.cell? ⟨pb, b, none⟩ = some (.int .i64 ob))) (by kernel_rfl) ?rcxs (fun hHeld => ?rcxr)
                      case rcxs => exact ⟨⟨(Below.refl _ _).drew, Nat.le_refl _⟩, c0, c1, ka, kb⟩
                      refine take_at (i := 0) (d := 97) (v := ?rcxv0) rfl (by rfl) (by kernel_rfl) (by kernel_rfl) (by kernel_rfl) (fun _ _ _ h => h) (Or.inl ⟨by rfl, ?rcxy0⟩) (by assumption) ?rcxr0
                      case rcxy0 => intro w' hSw; obtain ⟨_, q1, q2, q3, q4⟩ := hSw; go_simp; (try with_reducible rfl)
                      case' rcxr0 => simp only [Act.put, List.setIfInBounds_toArray, List.set_cons_zero, List.set_cons_succ]
                      refine take_at (i := 1) (d := 98) (v := ?rcxv1) rfl (by rfl) (by kernel_rfl) (by kernel_rfl) (by kernel_rfl) (fun _ _ _ h => h) (Or.inl ⟨by rfl, ?rcxy1⟩) (by assumption) ?rcxr1
                      case rcxy1 => intro w' hSw; obtain ⟨_, q1, q2, q3, q4⟩ := hSw; go_simp; (try with_reducible rfl)
                      case' rcxr1 => simp only [Act.put, List.setIfInBounds_toArray, List.set_cons_zero, List.set_cons_succ]
                      refine take_at (i := 2) (d := 99) (v := ?rcxv2) rfl (by rfl) (by kernel_rfl) (by kernel_rfl) (by kernel_rfl) (fun _ _ _ h => h) (Or.inl ⟨by rfl, ?rcxy2⟩) (by assumption) ?rcxr2
                      case rcxy2 => intro w' hSw; obtain ⟨_, q1, q2, q3, q4⟩ := hSw; go_simp; (try with_reducible rfl)
                      case' rcxr2 => simp only [Act.put, List.setIfInBounds_toArray, List.set_cons_zero, List.set_cons_succ]
                      refine take_at (i := 3) (d := 100) (v := ?rcxv3) rfl (by rfl) (by kernel_rfl) (by kernel_rfl) (by kernel_rfl) (fun _ _ _ h => h) (Or.inl ⟨by rfl, ?rcxy3⟩) (by assumption) ?rcxr3
                      case rcxy3 => intro w' hSw; obtain ⟨_, q1, q2, q3, q4⟩ := hSw; go_simp; (try with_reducible rfl)
                      case' rcxr3 => simp only [Act.put, List.setIfInBounds_toArray, List.set_cons_zero, List.set_cons_succ]
                      refine take_at (i := 4) (d := 101) (v := ?rcxv4) rfl (by rfl) (by kernel_rfl) (by kernel_rfl) (by kernel_rfl) (fun _ _ _ h => h) (Or.inl ⟨by rfl, ?rcxy4⟩) (by assumption) ?rcxr4
                      case rcxy4 => intro w' hSw; obtain ⟨_, q1, q2, q3, q4⟩ := hSw; go_simp; (try with_reducible rfl)
                      case' rcxr4 => simp only [Act.put, List.setIfInBounds_toArray, List.set_cons_zero, List.set_cons_succ]
                      refine take_at (i := 5) (d := 102) (v := ?rcxv5) rfl (by rfl) (by kernel_rfl) (by kernel_rfl) (by kernel_rfl) (fun _ _ _ h => h) (Or.inl ⟨by rfl, ?rcxy5⟩) (by assumption) ?rcxr5
                      case rcxy5 => intro w' hSw; obtain ⟨_, q1, q2, q3, q4⟩ := hSw; go_simp; (try with_reducible rfl)
                      case' rcxr5 => simp only [Act.put, List.setIfInBounds_toArray, List.set_cons_zero, List.set_cons_succ]
                      refine take_at (i := 6) (d := 103) (v := ?rcxv6) rfl (by rfl) (by kernel_rfl) (by kernel_rfl) (by kernel_rfl) (fun _ _ _ h => h) (Or.inl ⟨by rfl, ?rcxy6⟩) (by assumption) ?rcxr6
                      case rcxy6 => intro w' hSw; obtain ⟨_, q1, q2, q3, q4⟩ := hSw; go_simp; (try with_reducible rfl)
                      case' rcxr6 => simp only [Act.put, List.setIfInBounds_toArray, List.set_cons_zero, List.set_cons_succ]
                      refine take_at (i := 7) (d := 104) (v := ?rcxv7) rfl (by rfl) (by kernel_rfl) (by kernel_rfl) (by kernel_rfl) (fun _ _ _ h => h) (Or.inl ⟨by rfl, ?rcxy7⟩) (by assumption) ?rcxr7
                      case rcxy7 => intro w' hSw; obtain ⟨_, q1, q2, q3, q4⟩ := hSw; go_simp; (try with_reducible rfl)
                      case' rcxr7 => simp only [Act.put, List.setIfInBounds_toArray, List.set_cons_zero, List.set_cons_succ]
                      refine take_at (i := 8) (d := 105) (v := ?rcxv8) rfl (by rfl) (by kernel_rfl) (by kernel_rfl) (by kernel_rfl) (fun _ _ _ h => h) (Or.inl ⟨by rfl, ?rcxy8⟩) (by assumption) ?rcxr8
                      case rcxy8 => intro w' hSw; obtain ⟨_, q1, q2, q3, q4⟩ := hSw; go_simp; (try with_reducible rfl)
                      case' rcxr8 => simp only [Act.put, List.setIfInBounds_toArray, List.set_cons_zero, List.set_cons_succ]
                      refine take_at (i := 9) (d := 106) (v := ?rcxv9) rfl (by rfl) (by kernel_rfl) (by kernel_rfl) (by kernel_rfl) (fun _ _ _ h => h) (Or.inl ⟨by rfl, ?rcxy9⟩) (by assumption) ?rcxr9
                      case rcxy9 => intro w' hSw; obtain ⟨_, q1, q2, q3, q4⟩ := hSw; go_simp; (try with_reducible rfl)
                      case' rcxr9 => simp only [Act.put, List.setIfInBounds_toArray, List.set_cons_zero, List.set_cons_succ]
                      refine take_at (i := 10) (d := 107) (v := ?rcxv10) rfl (by rfl) (by kernel_rfl) (by kernel_rfl) (by kernel_rfl) (fun _ _ _ h => h) (Or.inl ⟨by rfl, ?rcxy10⟩) (by assumption) ?rcxr10
                      case rcxy10 => intro w' hSw; obtain ⟨_, q1, q2, q3, q4⟩ := hSw; go_simp; (try with_reducible rfl)
                      case' rcxr10 => simp only [Act.put, List.setIfInBounds_toArray, List.set_cons_zero, List.set_cons_succ]
                      refine take_at (i := 11) (d := 108) (v := ?rcxv11) rfl (by rfl) (by kernel_rfl) (by kernel_rfl) (by kernel_rfl) (fun _ _ _ h => h) (Or.inl ⟨by rfl, ?rcxy11⟩) (by assumption) ?rcxr11
                      case rcxy11 => intro w' hSw; obtain ⟨_, q1, q2, q3, q4⟩ := hSw; go_simp; (try with_reducible rfl)
                      case' rcxr11 => simp only [Act.put, List.setIfInBounds_toArray, List.set_cons_zero, List.set_cons_succ]
                      refine take_at (i := 12) (d := 109) (v := ?rcxv12) rfl (by rfl) (by kernel_rfl) (by kernel_rfl) (by kernel_rfl) (fun _ _ _ h => h) (Or.inl ⟨by rfl, ?rcxy12⟩) (by assumption) ?rcxr12
                      case rcxy12 => intro w' hSw; obtain ⟨_, q1, q2, q3, q4⟩ := hSw; go_simp; (try with_reducible rfl)
                      case' rcxr12 => simp only [Act.put, List.setIfInBounds_toArray, List.set_cons_zero, List.set_cons_succ]
                      refine take_at (i := 13) (d := 110) (v := ?rcxv13) rfl (by rfl) (by kernel_rfl) (by kernel_rfl) (by kernel_rfl) (fun _ _ _ h => h) (Or.inl ⟨by rfl, ?rcxy13⟩) (by assumption) ?rcxr13
                      case rcxy13 => intro w' hSw; obtain ⟨_, q1, q2, q3, q4⟩ := hSw; go_simp; (try with_reducible rfl)
                      case' rcxr13 => simp only [Act.put, List.setIfInBounds_toArray, List.set_cons_zero, List.set_cons_succ]
                      refine take_at (i := 14) (d := 111) (v := ?rcxv14) rfl (by rfl) (by kernel_rfl) (by kernel_rfl) (by kernel_rfl) (fun _ _ _ h => h) (Or.inl ⟨by rfl, ?rcxy14⟩) (by assumption) ?rcxr14
                      case rcxy14 => intro w' hSw; obtain ⟨_, q1, q2, q3, q4⟩ := hSw; go_simp; (try with_reducible rfl)
                      case' rcxr14 => simp only [Act.put, List.setIfInBounds_toArray, List.set_cons_zero, List.set_cons_succ]
                      refine take_at (i := 15) (d := 112) (v := ?rcxv15) rfl (by rfl) (by kernel_rfl) (by kernel_rfl) (by kernel_rfl) (fun _ _ _ h => h) (Or.inl ⟨by rfl, ?rcxy15⟩) (by assumption) ?rcxr15
                      case rcxy15 => intro w' hSw; obtain ⟨_, q1, q2, q3, q4⟩ := hSw; go_simp; (try with_reducible rfl)
                      case' rcxr15 => simp only [Act.put, List.setIfInBounds_toArray, List.set_cons_zero, List.set_cons_succ]
                      refine take_at (i := 16) (d := 113) (v := ?rcxv16) rfl (by rfl) (by kernel_rfl) (by kernel_rfl) (by kernel_rfl) (fun _ _ _ h => h) (Or.inl ⟨by rfl, ?rcxy16⟩) (by assumption) ?rcxr16
                      case rcxy16 => intro w' hSw; obtain ⟨_, q1, q2, q3, q4⟩ := hSw; go_simp; (try with_reducible rfl)
                      case' rcxr16 => simp only [Act.put, List.setIfInBounds_toArray, List.set_cons_zero, List.set_cons_succ]
                      refine take_at (i := 17) (d := 114) (v := ?rcxv17) rfl (by rfl) (by kernel_rfl) (by kernel_rfl) (by kernel_rfl) (fun _ _ _ h => h) (Or.inl ⟨by rfl, ?rcxy17⟩) (by assumption) ?rcxr17
                      case rcxy17 => intro w' hSw; obtain ⟨_, q1, q2, q3, q4⟩ := hSw; go_simp; (try with_reducible rfl)
                      case' rcxr17 => simp only [Act.put, List.setIfInBounds_toArray, List.set_cons_zero, List.set_cons_succ]
                      refine take_at (i := 18) (d := 115) (v := ?rcxv18) rfl (by rfl) (by kernel_rfl) (by kernel_rfl) (by kernel_rfl) (fun _ _ _ h => h) (Or.inl ⟨by rfl, ?rcxy18⟩) (by assumption) ?rcxr18
                      case rcxy18 => intro w' hSw; obtain ⟨_, q1, q2, q3, q4⟩ := hSw; go_simp; (try with_reducible rfl)
                      case' rcxr18 => simp only [Act.put, List.setIfInBounds_toArray, List.set_cons_zero, List.set_cons_succ]
                      refine take_at (i := 19) (d := 116) (v := ?rcxv19) rfl (by rfl) (by kernel_rfl) (by kernel_rfl) (by kernel_rfl) (fun _ _ _ h => h) (Or.inl ⟨by rfl, ?rcxy19⟩) (by assumption) ?rcxr19
                      case rcxy19 => intro w' hSw; obtain ⟨_, q1, q2, q3, q4⟩ := hSw; go_simp; (try with_reducible rfl)
                      case' rcxr19 => simp only [Act.put, List.setIfInBounds_toArray, List.set_cons_zero, List.set_cons_succ]
                      refine take_at (i := 20) (d := 117) (v := ?rcxv20) rfl (by rfl) (by kernel_rfl) (by kernel_rfl) (by kernel_rfl) (fun _ _ _ h => h) (Or.inl ⟨by rfl, ?rcxy20⟩) (by assumption) ?rcxr20
                      case rcxy20 => intro w' hSw; obtain ⟨_, q1, q2, q3, q4⟩ := hSw; go_simp; (try with_reducible rfl)
                      case' rcxr20 => simp only [Act.put, List.setIfInBounds_toArray, List.set_cons_zero, List.set_cons_succ]
                      refine take_at (i := 21) (d := 118) (v := ?rcxv21) rfl (by rfl) (by kernel_rfl) (by kernel_rfl) (by kernel_rfl) (fun _ _ _ h => h) (Or.inl ⟨by rfl, ?rcxy21⟩) (by assumption) ?rcxr21
                      case rcxy21 => intro w' hSw; obtain ⟨_, q1, q2, q3, q4⟩ := hSw; go_simp; (try with_reducible rfl)
                      case' rcxr21 => simp only [Act.put, List.setIfInBounds_toArray, List.set_cons_zero, List.set_cons_succ]
                      refine take_at (i := 22) (d := 119) (v := ?rcxv22) rfl (by rfl) (by kernel_rfl) (by kernel_rfl) (by kernel_rfl) (fun _ _ _ h => h) (Or.inl ⟨by rfl, ?rcxy22⟩) (by assumption) ?rcxr22
                      case rcxy22 => intro w' hSw; obtain ⟨_, q1, q2, q3, q4⟩ := hSw; go_simp; (try with_reducible rfl)
                      case' rcxr22 => simp only [Act.put, List.setIfInBounds_toArray, List.set_cons_zero, List.set_cons_succ]
                      refine take_at (i := 23) (d := 120) (v := ?rcxv23) rfl (by rfl) (by kernel_rfl) (by kernel_rfl) (by kernel_rfl) (fun _ _ _ h => h) (Or.inl ⟨by rfl, ?rcxy23⟩) (by assumption) ?rcxr23
                      case rcxy23 => intro w' hSw; obtain ⟨_, q1, q2, q3, q4⟩ := hSw; go_simp; (try with_reducible rfl)
                      case' rcxr23 => simp only [Act.put, List.setIfInBounds_toArray, List.set_cons_zero, List.set_cons_succ]
                      refine take_at (i := 24) (d := 121) (v := ?rcxv24) rfl (by rfl) (by kernel_rfl) (by kernel_rfl) (by kernel_rfl) (fun _ _ _ h => h) (Or.inl ⟨by rfl, ?rcxy24⟩) (by assumption) ?rcxr24
                      case rcxy24 => intro w' hSw; obtain ⟨_, q1, q2, q3, q4⟩ := hSw; go_simp; (try with_reducible rfl)
                      case' rcxr24 => simp only [Act.put, List.setIfInBounds_toArray, List.set_cons_zero, List.set_cons_succ]
                      refine wpAnyH_ready (rs := [25]) (by kernel_rfl) (by simp) ?rcxc25
                      refine AllReadyH.cons rfl (fun K hK => ?rcxb25) AllReadyH.nil
                      go_simp
                      go_at_call 43; refine (HWY1.out _ hHeld.1.1).mono ?_; rintro e w8 ⟨rfl, hb8⟩
                      refine hK.out _ _ ?rcxh25 (fun hHeld => ?rcxr25)
                      case rcxh25 => exact hkc hHeld hb8
                      case' rcxr25 => (clear hK K; try simp only [Act.put, List.setIfInBounds_toArray, List.set_cons_zero, List.set_cons_succ])
                      refine take_at (i := 26) (d := 123) (v := ?rcxv26) rfl (by rfl) (by kernel_rfl) (by kernel_rfl) (by kernel_rfl) (fun _ _ _ h => h) (Or.inl ⟨by rfl, ?rcxy26⟩) (by assumption) ?rcxr26
                      case rcxy26 => intro w' hSw; obtain ⟨_, q1, q2, q3, q4⟩ := hSw; go_simp; (try with_reducible rfl)
                      case' rcxr26 => simp only [Act.put, List.setIfInBounds_toArray, List.set_cons_zero, List.set_cons_succ]
                      refine pass_at (i := 27) (d := 124) rfl (by rfl) (by kernel_rfl) (by kernel_rfl) (by kernel_rfl) (fun _ _ _ h => h) (by rfl) (by assumption) ?rcxr27
                      case' rcxr27 => simp only [Act.put, List.setIfInBounds_toArray, List.set_cons_zero, List.set_cons_succ]
                      refine pass_at (i := 28) (d := 125) rfl (by rfl) (by kernel_rfl) (by kernel_rfl) (by kernel_rfl) (fun _ _ _ h => h) (by rfl) (by assumption) ?rcxr28
                      case' rcxr28 => simp only [Act.put, List.setIfInBounds_toArray, List.set_cons_zero, List.set_cons_succ]
                      refine pass_at (i := 29) (d := 126) rfl (by rfl) (by kernel_rfl) (by kernel_rfl) (by kernel_rfl) (fun _ _ _ h => h) (by rfl) (by assumption) ?rcxr29
                      case' rcxr29 => simp only [Act.put, List.setIfInBounds_toArray, List.set_cons_zero, List.set_cons_succ]
                      refine pass_at (i := 30) (d := 127) rfl (by rfl) (by kernel_rfl) (by kernel_rfl) (by kernel_rfl) (fun _ _ _ h => h) (by rfl) (by assumption) ?rcxr30
                      case' rcxr30 => simp only [Act.put, List.setIfInBounds_toArray, List.set_cons_zero, List.set_cons_succ]
                      refine take_at (i := 31) (d := 128) (v := ?rcxv31) rfl (by rfl) (by kernel_rfl) (by kernel_rfl) (by kernel_rfl) (fun _ _ _ h => h) (Or.inl ⟨by rfl, ?rcxy31⟩) (by assumption) ?rcxr31
                      case rcxy31 => intro w' hSw; obtain ⟨_, q1, q2, q3, q4⟩ := hSw; go_simp; (try with_reducible rfl)
                      case' rcxr31 => simp only [Act.put, List.setIfInBounds_toArray, List.set_cons_zero, List.set_cons_succ]
                      refine take_at (i := 32) (d := 129) (v := ?rcxv32) rfl (by rfl) (by kernel_rfl) (by kernel_rfl) (by kernel_rfl) (fun _ _ _ h => h) (Or.inl ⟨by rfl, ?rcxy32⟩) (by assumption) ?rcxr32
                      case rcxy32 => intro w' hSw; obtain ⟨_, q1, q2, q3, q4⟩ := hSw; go_simp; (try with_reducible rfl)
                      case' rcxr32 => simp only [Act.put, List.setIfInBounds_toArray, List.set_cons_zero, List.set_cons_succ]
                      refine take_at (i := 33) (d := 130) (v := ?rcxv33) rfl (by rfl) (by kernel_rfl) (by kernel_rfl) (by kernel_rfl) (fun _ _ _ h => h) (Or.inl ⟨by rfl, ?rcxy33⟩) (by assumption) ?rcxr33
                      case rcxy33 => intro w' hSw; obtain ⟨_, q1, q2, q3, q4⟩ := hSw; go_simp; (try with_reducible rfl)
                      case' rcxr33 => simp only [Act.put, List.setIfInBounds_toArray, List.set_cons_zero, List.set_cons_succ]
                      refine wpAnyH_done (by kernel_rfl) ?rcxz _
                      -- end rc
                      have HHB := Lib.hid hHeld.1.1
                      go_wp2
                      go_roundw
                      case rel => exact ⟨b + 1, by go_num, by omega, HBE2.out.trans (HHB.out.mono HBE2.out.size)⟩
                      case measure => simp [intOf]; omega
                  · have hge : ¬ (b : Int) < (k : Int) := by omega
                    have HBE2 := Lib.hid hbe
                    clear hbe hbe3 hgr
                    go_wp2
                    go_roundw
                    case rel => exact ⟨a + 1, by go_num, by omega, HBE2.out⟩
                    case measure => simp [intOf]; omega
              · have hge : ¬ (a : Int) < (k : Int) := by omega
                have HNW := Lib.hid (HNH.out.moves (Moves.of_new [] hbe) (by simp))
                have HBXW := Lib.hid (show BoxQ hb (i : Int) (quoE g 0) (.slice none 0 0) wr from ⟨(hbe.cell (p := ⟨hb, 0, none⟩) hbl).trans HBX.out.c0, (hbe.cell (p := ⟨hb, 1, none⟩) hbl).trans HBX.out.c1, (hbe.frozen (p := ⟨hb, 1, none⟩) hbl).trans HBX.out.z, own_mv HBX.out.own (Moves.of_new [] hbe) (by simp)⟩)
                have HBW3 := Lib.hid hbe3
                clear hbe hbe3 hgr hge
                go_wp2
                clear c0 c1
                obtain ⟨wl, hwl⟩ : ∃ wl : World, wl = wr := ⟨_, rfl⟩
                rw [← hwl] at HNW HBXW HBW3 ⊢
                clear hwl
                go_loopw [13] (fun x wr => ∃ (j : Nat) (v : Value), x = .int .i64 j ∧ j ≤ m ∧ BoxQ hb (i : Int) (quoE g j) v wr ∧ NumAt wr pb k (fun x => ofC g x) ∧ Below w3.heap.size w3 wr) (fun x _ => m - (intOf x).toNat)
                case atStart => exact ⟨0, _, rfl, by omega, HBXW.out, HNW.out, HBW3.out⟩
                case round =>
                  obtain ⟨j, v, rfl, hj, hbq, hnum, hbe⟩ := hrel
                  obtain ⟨c0, c1, hgr⟩ := HCL.out wr hbe
                  obtain ⟨Xh, ch, rfl, hrh, _, _⟩ := own_rowS hbq.own
                  have q0 := hbq.c0
                  have q1 := hbq.c1
                  have qz := hbq.z
                  have hql : (quoE g j).length ≤ 200 := by have := quoE_length (g := g) j; have := HM.out; omega
                  by_cases hltj : j < m
                  · have hj0 : (0 : Int) ≤ (j : Int) := by omega
                    have hj1 : (j : Int) < (m : Int) := by omega
                    have hjl : j < g.es.length := by have := HM.out; omega
                    obtain ⟨eb, eo, rfl, hel, ea, eb'⟩ := hgr.edge hjl
                    have hr := HGOOD.out.all _ (List.getElem_mem hjl)
                    have hsucc := quoE_succ hjl
                    obtain ⟨x, hx⟩ : ∃ x : Nat, g.es[j].1 = (x : Int) := ⟨g.es[j].1.toNat, by omega⟩
                    obtain ⟨y, hy⟩ : ∃ y : Nat, g.es[j].2 = (y : Int) := ⟨g.es[j].2.toNat, by omega⟩
                    rw [hx, hy] at hr hsucc
                    rw [hx] at ea
                    rw [hy] at eb'
                    have hxn : x < k := by have := HN.out; omega
                    have hyn : y < k := by have := HN.out; omega
                    have hx0 : (0 : Int) ≤ (x : Int) := by omega
                    have hx1 : (x : Int) < (k : Int) := by omega
                    have hy0 : (0 : Int) ≤ (y : Int) := by omega
                    have hy1 : (y : Int) < (k : Int) := by omega
                    have kx : wr.cell? ⟨pb, x, none⟩ = some (.int .i64 (ofC g x)) := hnum.2.1 x hxn
                    have ky : wr.cell? ⟨pb, y, none⟩ = some (.int .i64 (ofC g y)) := hnum.2.1 y hyn
                    obtain ⟨ox, hox⟩ : ∃ ox, ox = ofC g x := ⟨_, rfl⟩
                    obtain ⟨oy, hoy⟩ : ∃ oy, oy = ofC g y := ⟨_, rfl⟩
                    rw [← hox] at kx hsucc
                    rw [← hoy] at ky hsucc
                    have HSUCC := Lib.hid hsucc
                    have HNUM := Lib.hid hnum
                    have HBQ := Lib.hid hbq
                    have HBE := Lib.hid hbe
                    clear hnum hbq hbe hsucc hox hoy hx hy hr hjl hgr hrh
                    go_upto_region 35 with (fail)
                    go_quiet (fail)
                    go_upto_region 36 with (fail)
                    obtain ⟨wd, hwd⟩ : ∃ wd, wd = wr.drewN nq := ⟨_, rfl⟩
                    have hN := HNUM.out.drewN nq
                    have hQ := HBQ.out.drewN nq
                    have hB : Below w3.heap.size w3 (wr.drewN nq) := HBE.out.trans (below_drewN (Below.refl _ _) _)
                    rw [← hwd] at hN hQ hB ⊢
                    clear hwd c0 c1 q0 q1 qz HNUM HBQ HBE kx ky ea eb'
                    have q1 := hQ.c1
                    have qz := hQ.z
                    by_cases hne : ox = oy
                    · have hnb : (ox != oy) = false := by simp [hne]
                      rw [if_neg (fun h => h hne)] at HSUCC
                      have HN2 := Lib.hid hN
                      have HQ2 := Lib.hid hQ
                      have HB2' := Lib.hid hB
                      clear hne hN hQ hB
                      go_wp2
                      go_roundw
                      case rel => exact ⟨j + 1, _, by go_num, by omega, by rw [HSUCC.out]; exact HQ2.out, HN2.out, HB2'.out⟩
                      case measure => simp [intOf]; omega
                    · have hnb : (ox != oy) = true := by simp [hne]
                      rw [if_pos hne] at HSUCC
                      have hhl : hb < wd.heap.size := World.block_lt_of_cell? wd _ hQ.c0
                      have hno : hb ∉ (Value.slice Xh (quoE g j).length ch).ownBlock.toList := fun hk => by have := (hQ.own.lt hb (by simpa using hk)).1; omega
                      have hnp : pb ∉ (Value.slice Xh (quoE g j).length ch).ownBlock.toList := fun hk => by have := (hQ.own.lt pb (by simpa using hk)).1; omega
                      have hsz : hb + 1 ≤ wd.heap.size := hhl
                      have HN2 := Lib.hid hN
                      have HQ2 := Lib.hid hQ
                      have HB2' := Lib.hid hB
                      have HNO := Lib.hid hno
                      have HNP := Lib.hid hnp
                      clear hne hN hQ hB hno hnp
                      go_wp2_with (at_builtin; go_loud (refine app_newK (hb + 1) (by rfl) _ _ 22 51 (.agg #[.int .i64 0, .int .i64 0]) 2 16 (by rfl) Try.underlying22 info_edge rfl (by decide) _ (quoE g j).length (edgeCells (quoE g j)) [.int .i64 ox, .int .i64 oy] (by rfl) _ (by rfl) rfl rfl (by simp [Value.oneCell']) HQ2.out.own hsz (by omega) (by omega) ?_; intro v5 w5 ho5 hg5 hb5 hs5; have hm5 := Moves.of_grown (M := (Value.slice Xh (quoE g j).length ch).ownBlock.toList) hg5 (by intro k e; simp [e]); obtain ⟨X5, d5, rfl, _, _⟩ := own_rowS ho5; have r1 := (hm5.cell hhl HNO.out 1).trans q1; have rz := (hm5.frozen hhl HNO.out 1).trans qz; have HBQ5 := Lib.hid (HQ2.out.next ho5 hg5); have HN5 := Lib.hid ((HN2.out.moves hm5 HNP.out).moves (Moves.set (M := [hb]) w5 ⟨hb, 1, none⟩ (.slice X5 ((quoE g j).length + 1) d5) (by simp)) (by simp; omega)); have HB5 := Lib.hid ((HB2'.out.grown hg5 HB2'.out.size (fun q e => by have := (HQ2.out.own.lt q e).1; omega)).setCell (p := ⟨hb, 1, none⟩) h3b (.slice X5 ((quoE g j).length + 1) d5)); clear ho5 hg5 hb5 hs5 hm5))
                      go_roundw
                      case rel => exact ⟨j + 1, _, by go_num, by omega, by rw [HSUCC.out]; exact HBQ5.out, HN5.out, HB5.out⟩
                      case measure => simp [intOf]; omega
                  · have hge : ¬ (j : Int) < (m : Int) := by omega
                    obtain rfl : j = m := by omega
                    have hqe : quoE g j = (quoG g).es := by show quoE g j = quoE g g.es.length; rw [HM.out]
                    have hqn : (i : Int) = (quoG g).n := by show (i : Int) = ((compsF g).length : Int); rw [HNC.out]
                    have hgt : GAt wr Xh (quoG g) := by
                      have h := hrh
                      rw [hqe] at h
                      exact h
                    have hro := ground_c (quoG g) Xh ch wr hgt (by rw [← hqe]; omega)
                    have hqv : (quoG g).val Xh ch = .agg #[.int .i64 (i : Int), .slice Xh (quoE g j).length ch] := by unfold XG.val; rw [← hqe, ← hqn]
                    rw [hqv, quo_round HGOOD.out, chkF_good.2 (quo_good HGOOD.out)] at hro
                    have hbB := HB3.out.trans (hbe.mono HB3.out.size)
                    have HRO := Lib.hid hro
                    have HBB := Lib.hid hbB
                    clear hro hgt hqe hqn hqv hbB hbe hnum hbq hrh hgr
                    go_wp2_with fail
                    go_at_call 37
                    refine HRO.out.mono ?_
                    rintro e w9 ⟨P, dp, rfl, _, hb9⟩
                    have HE := Lib.hid (HBW.out.trans ((HBB.out.trans (hb9.mono HBB.out.size)).mono (Nat.le_of_lt HLT.out)))
                    clear hb9
                    go_wp2
                    go_ret
                    exact ⟨rfl, HE.out⟩
end Go.Proofs.Ytpdfcffeinbcaaa
