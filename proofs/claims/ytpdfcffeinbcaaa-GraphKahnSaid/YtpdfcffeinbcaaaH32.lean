/- Levels: the program's and the document's. -/
import Derived.Test.YtpdfcffeinbcaaaH30
import Derived.Test.YtpdfcffeinbcaaaH31
import Derived.StillTailTactics
namespace Go.Proofs.Ytpdfcffeinbcaaa
open Go.RowKit
set_option maxHeartbeats 4000000 in
set_option maxRecDepth 100000 in
theorem glevels_c (g : XG) (E : Option Addr) (d : Nat) (w : World) (h : GAt w E g) (hl : g.es.length ≤ 4611686018427387904) :
    Calls Try.prog 27 #[g.val E d] w (RowErr (levL g) (ordE g) w) := by
  have hor := fun W h => ordered_c g E d W h hl
  have hbx := box_at (w := w) (t := 24) g E d
  have hv : g.val E d = .agg #[.int .i64 g.n, .slice E g.es.length d] := rfl
  rw [hv] at hor ⊢
  have HOR := Lib.hid hor
  have HG := Lib.hid h
  obtain ⟨kk, hkk⟩ : ∃ kk, kk = ordE g := ⟨_, rfl⟩
  have HKK := Lib.hid hkk
  clear hor hv h hkk
  go_enter Try.func27, Try.ntmps27
  go_wp2_with fail
  go_at_call 56
  refine (HOR.out _ (HG.out.below hbx.bel)).mono ?_
  rintro e w1 ⟨vo, vl, rfl, _, hb1, ho1, hn1⟩
  rw [← HKK.out]
  have hbx1 := hbx.below hb1
  by_cases hk : kk = 0
  · subst hk
    obtain ⟨hgood, hfull, hno⟩ := ordE_zero HKK.out.symm
    have hL : ordL g = ordF (nxt g) g.n.toNat := by unfold ordL; rw [if_pos HKK.out.symm]
    have hnx := hn1 HKK.out.symm
    obtain ⟨n, hn⟩ : ∃ n : Nat, g.n = n := ⟨g.n.toNat, by have := hgood.n0; omega⟩
    have hnn : g.n.toNat = n := by omega
    have hn4 : n ≤ 4096 := by have := hgood.n1; omega
    have hbeg := ord_begun (nxt g) n
    rw [hL] at ho1
    rw [hnn] at hnx ho1 hfull
    obtain ⟨o, ho⟩ : ∃ o, o = ordF (nxt g) n := ⟨_, rfl⟩
    rw [← ho] at ho1 hfull hbeg
    have hmi : ∀ W : World, (Instr.makeSlice 25 (.int .i64 (n : Int)) (.int .i64 (n : Int))).run Try.prog W = .ok (.slice (some ⟨W.heap.size, 0, none⟩) n n) (W.alloc (.cells (madeCells #[.int .i64 0] n) 3)) :=
      fun W => run_make_row' 25 3 (.int .i64 0) 8 Try.underlying25 info_int rfl .i64 .i64 n (by omega) (by omega) W
    obtain ⟨Xo, co, hvo, hro, _⟩ := own_rowS ho1
    obtain ⟨lb, ld, hvl, _, hlbw, hrows⟩ := hnx
    have c0 : w1.cell? ⟨w.heap.size, 0, none⟩ = some (.int .i64 (n : Int)) := by rw [← hn]; exact hbx1.c0
    have hself := no_self hno
    subst hvo
    subst hvl
    have hol : o.length ≤ 4096 := by omega
    rw [hn]
    have HBX := Lib.hid hbx1
    have HRO := Lib.hid hro
    have HROWS := Lib.hid hrows
    have HN := Lib.hid hn
    have HNN := Lib.hid hnn
    have HO := Lib.hid ho
    have HGD := Lib.hid hgood
    have HSELF := Lib.hid hself
    have HBEG := Lib.hid hbeg
    have hbw : w.heap.size < w1.heap.size := hbx1.lt
    clear hro hrows hn hnn ho hgood hself hbeg hbx1 hbx hb1 ho1 hn1 hL hfull hno
    go_upto_region 5 with (fail)
    obtain ⟨w2, hw2⟩ : ∃ w2, w2 = w1.alloc (.cells (madeCells #[.int .i64 0] n) 3) := ⟨_, rfl⟩
    obtain ⟨ib, hib⟩ : ∃ ib, ib = w1.heap.size := ⟨_, rfl⟩
    have hn0 : NumAt w2 ib n (fun i => levF (nxt g) (o.take 0) i) := by
      rw [hw2, hib]; exact num_made w1 n _
    have hb2 : Below w1.heap.size w1 w2 := by rw [hw2]; exact (Below.refl _ _).alloc (Nat.le_refl _) _
    rw [← hw2, ← hib]
    have HN0 := Lib.hid hn0
    have HB2 := Lib.hid hb2
    have hibw : w1.heap.size ≤ ib := by omega
    clear hw2 hib hn0 hb2 c0
    go_wp2
    go_loopw [26] (fun i wr => ∃ j : Nat, i = .int .i64 j ∧ j ≤ o.length ∧ NumAt wr ib n (fun i => levF (nxt g) (o.take j) i) ∧ Below w1.heap.size w1 wr) (fun i _ => o.length - (intOf i).toNat)
    case atStart => exact ⟨0, rfl, by omega, HN0.out, HB2.out⟩
    case round =>
      obtain ⟨j, rfl, hj, hnum, hbel⟩ := hrel
      by_cases hlt : j < o.length
      · have hj0 : (0 : Int) ≤ (j : Int) := by omega
        have hj1 : (j : Int) < (o.length : Int) := by omega
        obtain ⟨b, off, rfl, hcj⟩ := (HRO.out.below hbel).int hlt
        have hvr := HBEG.out.rng _ (List.getElem_mem hlt)
        have hsn := levF_snoc (nxt g) (o.take j) o[j]
        rw [← List.take_succ_eq_append_getElem hlt] at hsn
        obtain ⟨v, hv⟩ : ∃ v : Nat, o[j] = (v : Int) := ⟨o[j].toNat, by omega⟩
        rw [hv] at hcj hvr hsn
        have hvn : v < n := by omega
        have hv0 : (0 : Int) ≤ (v : Int) := by omega
        have hv1 : (v : Int) < (n : Int) := by omega
        obtain ⟨Y, dY, hcY, hrY, _⟩ := HROWS.out v hvn
        have hcY' := (hbel.cell (p := ⟨lb, v, none⟩) hlbw).trans hcY
        obtain ⟨l, hl'⟩ : ∃ l, l = nxt g v := ⟨_, rfl⟩
        have hns := HSELF.out v
        have hll : l.length ≤ 16384 := by rw [hl']; have := nxt_length g v; have := HGD.out.len; omega
        have hlr : ∀ y ∈ l, 0 ≤ y ∧ y < (n : Int) := fun y hy => by rw [hl'] at hy; exact nxt_inN HGD.out HN.out v y hy
        rw [← hl'] at hcY' hrY hns hsn
        obtain ⟨f, hf⟩ : ∃ f, f = levF (nxt g) (o.take j) := ⟨_, rfl⟩
        have hfb : ∀ i, 0 ≤ f i ∧ f i ≤ 4096 := fun i => by
          have := levF_bound HSELF.out (o.take j) i
          rw [← hf] at this
          have : (o.take j).length ≤ 4096 := by rw [List.length_take]; omega
          omega
        rw [← hf] at hsn
        have hnum0 : NumAt wr ib n (fun i => levRow v (l.take 0) f i) := by rw [List.take_zero, levRow_nil, hf]; exact hnum
        have HNUM := Lib.hid hnum0
        have HBEL := Lib.hid hbel
        have HRY := Lib.hid hrY
        have HSN := Lib.hid hsn
        have HNS := Lib.hid hns
        have HLR := Lib.hid hlr
        have HFB := Lib.hid hfb
        clear hnum hnum0 hbel hrY hcY hsn hns hlr hfb hv hf hl'
        go_wp2
        go_loopw [35] (fun i wr => ∃ m : Nat, i = .int .i64 m ∧ m ≤ l.length ∧ NumAt wr ib n (fun i => levRow v (l.take m) f i) ∧ Below w1.heap.size w1 wr) (fun i _ => l.length - (intOf i).toNat)
        case atStart => exact ⟨0, rfl, by omega, HNUM.out, HBEL.out⟩
        case round =>
          obtain ⟨m, rfl, hm, hnum, hbel⟩ := hrel
          by_cases hlm : m < l.length
          · have hm0 : (0 : Int) ≤ (m : Int) := by omega
            have hm1 : (m : Int) < (l.length : Int) := by omega
            obtain ⟨b, off, rfl, hcm⟩ := (HRY.out.below hbel).int hlm
            have hxr := HLR.out _ (List.getElem_mem hlm)
            have hsx := levRow_snoc v (l.take m) l[m] f
            rw [← List.take_succ_eq_append_getElem hlm] at hsx
            obtain ⟨x, hx⟩ : ∃ x : Nat, l[m] = (x : Int) := ⟨l[m].toNat, by omega⟩
            rw [hx] at hcm hxr hsx
            have hxn : x < n := by omega
            have hx0 : (0 : Int) ≤ (x : Int) := by omega
            have hx1 : (x : Int) < (n : Int) := by omega
            have hbd := levRow_bound (ws := l.take m) (fun hm => HNS.out (List.mem_of_mem_take hm)) HFB.out
            obtain ⟨p, hp⟩ : ∃ p, p = levRow v (l.take m) f x := ⟨_, rfl⟩
            obtain ⟨q, hq⟩ : ∃ q, q = levRow v (l.take m) f v := ⟨_, rfl⟩
            have hcx : wr.cell? ⟨ib, x, none⟩ = some (.int .i64 p) := by rw [hp]; exact hnum.2.1 x hxn
            have hcv : wr.cell? ⟨ib, v, none⟩ = some (.int .i64 q) := by rw [hq]; exact hnum.2.1 v hvn
            have hfx := hnum.2.2 x
            have hp1 : 0 ≤ p ∧ p ≤ 4097 := by rw [hp]; exact hbd x
            have hq1 : 0 ≤ q ∧ q ≤ 4097 := by rw [hq]; exact hbd v
            obtain ⟨hp0, hp2⟩ := hp1
            obtain ⟨hq0, hq2⟩ := hq1
            have hput : NumAt (wr.drew.setCell ⟨ib, x, none⟩ (.int .i64 (max p (q + 1)))) ib n (fun i => levRow v (l.take (m + 1)) f i) := (hnum.drewN 1).put hxn (fun i _ => by
              rw [hsx, hp, hq]
              unfold levStep
              by_cases e : i = x
              · subst e; simp
              · rw [if_neg (by omega), if_neg e])
            have HPUT := Lib.hid hput
            have HBEL2 := Lib.hid hbel
            clear hput hbel hnum hp hq hbd hsx hx
            go_wp2_with fail
            go_still_tail 12, (by kernel_rfl)
            change wpList _ _ _ _ _ wr.drew
            have d1 : wr.drew.cell? ⟨ib, x, none⟩ = some (.int .i64 p) := hcx
            have d2 : wr.drew.frozen? ⟨ib, x, none⟩ = false := hfx
            have HB3 := Lib.hid (HBEL2.out.drew.setCell (p := ⟨ib, x, none⟩) hibw (.int .i64 (max p (q + 1))))
            obtain ⟨wd, hwd⟩ : ∃ wd, wd = wr.drew := ⟨_, rfl⟩
            rw [← hwd] at d1 d2 HPUT HB3 ⊢
            clear hwd hcx hcv hcm
            go_wp2
            go_roundw
            case rel => exact ⟨m + 1, by go_num, by omega, HPUT.out, HB3.out⟩
            case measure => simp [intOf]; omega
          · have hge : ¬ (m : Int) < (l.length : Int) := by omega
            rw [show l.take m = l from List.take_of_length_le (by omega)] at hnum
            have HNUM2 : Hid (NumAt wr ib n (fun i => levF (nxt g) (o.take (j + 1)) i)) := Lib.hid (by rw [HSN.out]; exact hnum)
            have HBEL2 := Lib.hid hbel
            clear hnum hbel
            go_wp2
            go_roundw
            case rel => exact ⟨j + 1, by go_num, by omega, HNUM2.out, HBEL2.out⟩
            case measure => simp [intOf]; omega
      · have hge : ¬ (j : Int) < (o.length : Int) := by omega
        rw [show o.take j = o from List.take_of_length_le (by omega)] at hnum
        have hrow := num_row (f := fun i => levF (nxt g) o i) hnum
        have hln : ((nodes n).map fun i => levF (nxt g) o i).length = n := by rw [List.length_map, nodes_length]
        have hlv : levL g = (nodes n).map fun i => levF (nxt g) o i := by unfold levL; rw [if_pos HKK.out.symm, HNN.out, ← HO.out]
        have HFIN : Hid (RowErr (levL g) (ordE g) w (.returned (.tuple #[.slice (some ⟨ib, 0, none⟩) n n, .int .i64 0])) wr) := Lib.hid (by
          rw [← HKK.out]
          exact ⟨some ⟨ib, 0, none⟩, n, by rw [hlv, hln], by rw [hlv]; exact hrow, HBX.out.bel.trans (hbel.mono (by omega))⟩)
        clear hrow hln hlv hnum hbel
        go_wp2
        go_ret2
        exact HFIN.out
  · have hkb : (kk != 0) = true := by simpa using hk
    have hlv : levL g = [] := by unfold levL; rw [if_neg (by rw [← HKK.out]; exact hk)]
    have HP : Hid (RowErr (levL g) (ordE g) w (.returned (.tuple #[.slice none 0 0, .int .i64 kk])) w1) := Lib.hid (by rw [hlv, ← HKK.out]; exact rowErr_no hbx1.bel)
    clear hbx1 hbx hb1 hlv ho1 hn1
    go_wp2
    go_ret2
    exact HP.out
set_option maxHeartbeats 4000000 in
set_option maxRecDepth 100000 in
theorem rlevels_c (g : XG) (E : Option Addr) (d : Nat) (w : World) (h : GAt w E g) (hl : g.es.length ≤ 4611686018427387904) :
    Calls Try.prog 28 #[g.val E d] w (RowErr (levL g) (ordE g) w) := by
  have hor := fun W h => rorder_c g E d W h hl
  have hbx := box_at (w := w) (t := 24) g E d
  have hv : g.val E d = .agg #[.int .i64 g.n, .slice E g.es.length d] := rfl
  rw [hv] at hor ⊢
  have HOR := Lib.hid hor
  have HG0 := Lib.hid h
  obtain ⟨kk, hkk⟩ : ∃ kk, kk = ordE g := ⟨_, rfl⟩
  have HKK := Lib.hid hkk
  clear hor hv h hkk
  go_enter Try.func28, Try.ntmps28
  go_wp2_with fail
  go_at_call 26
  refine (HOR.out _ (HG0.out.below hbx.bel)).mono ?_
  rintro e w1 ⟨Xo, co, rfl, hro, hb1⟩
  rw [← HKK.out]
  have hbx1 := hbx.below hb1
  by_cases hk : kk = 0
  · subst hk
    obtain ⟨hgood, hfull, hno⟩ := ordE_zero HKK.out.symm
    have hL : ordL g = ordF (nxt g) g.n.toNat := by unfold ordL; rw [if_pos HKK.out.symm]
    obtain ⟨n, hn⟩ : ∃ n : Nat, g.n = n := ⟨g.n.toNat, by have := hgood.n0; omega⟩
    have hnn : g.n.toNat = n := by omega
    have hn4 : n ≤ 4096 := by have := hgood.n1; omega
    have hlen := hgood.len
    have hbeg := ord_begun (nxt g) n
    rw [hL, hnn] at hro ⊢
    rw [hnn] at hfull
    obtain ⟨o, ho⟩ : ∃ o, o = ordF (nxt g) n := ⟨_, rfl⟩
    rw [← ho] at hro hfull hbeg ⊢
    have hmi : ∀ W : World, (Instr.makeSlice 25 (.int .i64 (n : Int)) (.int .i64 (n : Int))).run Try.prog W = .ok (.slice (some ⟨W.heap.size, 0, none⟩) n n) (W.alloc (.cells (madeCells #[.int .i64 0] n) 3)) :=
      fun W => run_make_row' 25 3 (.int .i64 0) 8 Try.underlying25 info_int rfl .i64 .i64 n (by omega) (by omega) W
    have c0 : w1.cell? ⟨w.heap.size, 0, none⟩ = some (.int .i64 (n : Int)) := by rw [← hn]; exact hbx1.c0
    have hself : ∀ v, v ∉ tgt g.es v := fun v h => hno v (.single (mem_tgt.1 h))
    have hboth := lev_both hno o
    have hol : o.length ≤ 4096 := by omega
    rw [hn]
    have HBX := Lib.hid hbx1
    have HG := Lib.hid (HG0.out.below hbx1.bel)
    have HRO := Lib.hid hro
    have HN := Lib.hid hn
    have HNN := Lib.hid hnn
    have HO := Lib.hid ho
    have HGD := Lib.hid hgood
    have HSELF := Lib.hid hself
    have HBEG := Lib.hid hbeg
    have HBOTH := Lib.hid hboth
    have hbw : w.heap.size < w1.heap.size := hbx1.lt
    clear hro hn hnn ho hgood hself hbeg hbx1 hbx hb1 hL hfull hno hboth
    go_upto_region 5 with (fail)
    obtain ⟨w2, hw2⟩ : ∃ w2, w2 = w1.alloc (.cells (madeCells #[.int .i64 0] n) 3) := ⟨_, rfl⟩
    obtain ⟨ib, hib⟩ : ∃ ib, ib = w1.heap.size := ⟨_, rfl⟩
    have hn0 : NumAt w2 ib n (fun i => levF (tgt g.es) (o.take 0) i) := by
      rw [hw2, hib]; exact num_made w1 n _
    have hb2 : Below w1.heap.size w1 w2 := by rw [hw2]; exact (Below.refl _ _).alloc (Nat.le_refl _) _
    rw [← hw2, ← hib]
    have HN0 := Lib.hid hn0
    have HB2 := Lib.hid hb2
    have hibw : w1.heap.size ≤ ib := by omega
    clear hw2 hib hn0 hb2 c0
    go_wp2
    go_loopw [7] (fun i wr => ∃ j : Nat, i = .int .i64 j ∧ j ≤ o.length ∧ NumAt wr ib n (fun i => levF (tgt g.es) (o.take j) i) ∧ Below w1.heap.size w1 wr) (fun i _ => o.length - (intOf i).toNat)
    case atStart => exact ⟨0, rfl, by omega, HN0.out, HB2.out⟩
    case round =>
      obtain ⟨j, rfl, hj, hnum, hbel⟩ := hrel
      by_cases hlt : j < o.length
      · have hj0 : (0 : Int) ≤ (j : Int) := by omega
        have hj1 : (j : Int) < (o.length : Int) := by omega
        obtain ⟨bo, oo, rfl, hcj⟩ := HRO.out.int hlt
        have hbo : bo < w1.heap.size := World.block_lt_of_cell? _ _ hcj
        have hvr := HBEG.out.rng _ (List.getElem_mem hlt)
        have hsn := levF_snoc (tgt g.es) (o.take j) o[j]
        rw [← List.take_succ_eq_append_getElem hlt] at hsn
        obtain ⟨v, hv⟩ : ∃ v : Nat, o[j] = (v : Int) := ⟨o[j].toNat, by omega⟩
        rw [hv] at hcj hvr hsn
        have hvn : v < n := by omega
        have hv0 : (0 : Int) ≤ (v : Int) := by omega
        have hv1 : (v : Int) < (n : Int) := by omega
        have hns := HSELF.out v
        obtain ⟨f, hf⟩ : ∃ f, f = levF (tgt g.es) (o.take j) := ⟨_, rfl⟩
        have hfb : ∀ i, 0 ≤ f i ∧ f i ≤ 4096 := fun i => by
          have := levF_bound HSELF.out (o.take j) i
          rw [← hf] at this
          have : (o.take j).length ≤ 4096 := by rw [List.length_take]; omega
          omega
        rw [← hf] at hsn
        have hnum0 : NumAt wr ib n (fun i => levRow v (tgt (g.es.take 0) v) f i) := by rw [List.take_zero, show tgt [] (v : Int) = [] from rfl, levRow_nil, hf]; exact hnum
        have HNUM := Lib.hid hnum0
        have HBEL := Lib.hid hbel
        have HSN := Lib.hid hsn
        have HNS := Lib.hid hns
        have HFB := Lib.hid hfb
        have HCJ := Lib.hid hcj
        clear hnum hnum0 hbel hsn hns hfb hv hf hcj
        go_wp2
        go_loopw [8] (fun i wr => ∃ m : Nat, i = .int .i64 m ∧ m ≤ g.es.length ∧ NumAt wr ib n (fun i => levRow v (tgt (g.es.take m) v) f i) ∧ Below w1.heap.size w1 wr) (fun i _ => g.es.length - (intOf i).toNat)
        case atStart => exact ⟨0, rfl, by omega, HNUM.out, HBEL.out⟩
        case round =>
          obtain ⟨m, rfl, hm, hnum, hbel⟩ := hrel
          have c1 := (hbel.cell (p := ⟨w.heap.size, 1, none⟩) hbw).trans HBX.out.c1
          have hcj := (hbel.cell (p := ⟨bo, oo + j, none⟩) hbo).trans HCJ.out
          by_cases hlm : m < g.es.length
          · have hm0 : (0 : Int) ≤ (m : Int) := by omega
            have hm1 : (m : Int) < (g.es.length : Int) := by omega
            obtain ⟨b, off, rfl, hbl, ha0, hb0⟩ := HG.out.edge hlm
            have ha := (hbel.cell (p := ⟨b, off + m * 2, none⟩) hbl).trans ha0
            have hb := (hbel.cell (p := ⟨b, off + m * 2 + 1, none⟩) hbl).trans hb0
            have hall := (HGD.out.all _ (List.getElem_mem hlm)).2
            have htn := tgt_next g.es m hlm (v : Int)
            obtain ⟨a, ha'⟩ : ∃ a, a = g.es[m].1 := ⟨_, rfl⟩
            obtain ⟨x, hx⟩ : ∃ x : Nat, g.es[m].2 = (x : Int) := ⟨g.es[m].2.toNat, by omega⟩
            rw [← ha'] at ha htn
            rw [hx] at hb hall htn
            have hxn : x < n := by have := HN.out; omega
            have hx0 : (0 : Int) ≤ (x : Int) := by omega
            have hx1 : (x : Int) < (n : Int) := by omega
            by_cases hav : a = (v : Int)
            · subst hav
              rw [if_pos rfl] at htn
              have hsx := levRow_snoc v (tgt (g.es.take m) v) x f
              rw [← htn] at hsx
              have hns2 : (v : Int) ∉ tgt (g.es.take m) v := fun h => HNS.out (mem_tgt.2 (List.mem_of_mem_take (mem_tgt.1 h)))
              have hbd := levRow_bound hns2 HFB.out
              obtain ⟨p, hp⟩ : ∃ p, p = levRow v (tgt (g.es.take m) v) f x := ⟨_, rfl⟩
              obtain ⟨q, hq⟩ : ∃ q, q = levRow v (tgt (g.es.take m) v) f v := ⟨_, rfl⟩
              have hcx : wr.cell? ⟨ib, x, none⟩ = some (.int .i64 p) := by rw [hp]; exact hnum.2.1 x hxn
              have hcv : wr.cell? ⟨ib, v, none⟩ = some (.int .i64 q) := by rw [hq]; exact hnum.2.1 v hvn
              have hfx := hnum.2.2 x
              have hp1 : 0 ≤ p ∧ p ≤ 4097 := by rw [hp]; exact hbd x
              have hq1 : 0 ≤ q ∧ q ≤ 4097 := by rw [hq]; exact hbd v
              obtain ⟨hp0, hp2⟩ := hp1
              obtain ⟨hq0, hq2⟩ := hq1
              have hput : ∀ k, NumAt ((wr.drewN k).setCell ⟨ib, x, none⟩ (.int .i64 (max p (q + 1)))) ib n (fun i => levRow v (tgt (g.es.take (m + 1)) v) f i) := fun k => (hnum.drewN k).put hxn (fun i _ => by
                rw [hsx, hp, hq]
                unfold levStep
                by_cases e : i = x
                · subst e; simp
                · rw [if_neg (by omega), if_neg e])
              have HPUT := Lib.hid hput
              have HBEL2 := Lib.hid hbel
              clear hput hbel hnum hp hq hbd hsx hx hns2 htn hall ha0 hb0 ha'
              go_wp2_with fail
              go_quiet (fail)
              go_wp2_with fail
              have k1 : (wr.drewN nq).cell? ⟨w.heap.size, 1, none⟩ = _ := c1
              have k2 : (wr.drewN nq).cell? ⟨bo, oo + j, none⟩ = _ := hcj
              have k3 : (wr.drewN nq).cell? ⟨b, off + m * 2 + 1, none⟩ = _ := hb
              have k4 : (wr.drewN nq).cell? ⟨ib, x, none⟩ = _ := hcx
              have k5 : (wr.drewN nq).cell? ⟨ib, v, none⟩ = _ := hcv
              have k6 : (wr.drewN nq).frozen? ⟨ib, x, none⟩ = false := hfx
              have HB3 := Lib.hid ((HBEL2.out.trans (below_drewN (Below.refl _ _) (nq + 1))).setCell (p := ⟨ib, x, none⟩) hibw (.int .i64 (max p (q + 1))))
              have hP := HPUT.out (nq + 1)
              have hdd : wr.drewN (nq + 1) = (wr.drewN nq).drew := rfl
              rw [hdd] at hP HB3
              obtain ⟨wq, hwq⟩ : ∃ wq, wq = wr.drewN nq := ⟨_, rfl⟩
              rw [← hwq] at k1 k2 k3 k4 k5 k6 hP HB3 ⊢
              have HP := Lib.hid hP
              clear hwq hcx hcv hb ha hcj c1 hdd hP hfx
              go_still_tail 25, (by kernel_rfl)
              change wpList _ _ _ _ _ wq.drew
              have d1 : wq.drew.cell? ⟨ib, x, none⟩ = _ := k4
              have d2 : wq.drew.frozen? ⟨ib, x, none⟩ = false := k6
              obtain ⟨wd, hwd⟩ : ∃ wd, wd = wq.drew := ⟨_, rfl⟩
              rw [← hwd] at d1 d2 HP HB3 ⊢
              clear hwd k1 k2 k3 k4 k5 k6
              go_wp2
              go_roundw
              case rel => exact ⟨m + 1, by go_num, by omega, HP.out, HB3.out⟩
              case measure => simp [intOf]; omega
            · have hne : (a == (v : Int)) = false := by simpa using hav
              rw [if_neg hav] at htn
              have HSAME : Hid (∀ k, NumAt (wr.drewN k) ib n (fun i => levRow v (tgt (g.es.take (m + 1)) v) f i)) := Lib.hid fun k => by rw [htn]; exact hnum.drewN k
              have HBEL2 := Lib.hid hbel
              clear hav htn hbel hnum hx hall ha0 hb0 ha'
              go_wp2_with fail
              go_quiet (fail)
              go_wp2
              go_roundw
              case rel => exact ⟨m + 1, by go_num, by omega, HSAME.out _, HBEL2.out.trans (below_drewN (Below.refl _ _) _)⟩
              case measure => simp [intOf]; omega
          · have hge : ¬ (m : Int) < (g.es.length : Int) := by omega
            rw [show g.es.take m = g.es from List.take_of_length_le (by omega)] at hnum
            have HNUM2 : Hid (NumAt wr ib n (fun i => levF (tgt g.es) (o.take (j + 1)) i)) := Lib.hid (by rw [HSN.out]; exact hnum)
            have HBEL2 := Lib.hid hbel
            clear hnum hbel
            go_wp2
            go_roundw
            case rel => exact ⟨j + 1, by go_num, by omega, HNUM2.out, HBEL2.out⟩
            case measure => simp [intOf]; omega
      · have hge : ¬ (j : Int) < (o.length : Int) := by omega
        rw [show o.take j = o from List.take_of_length_le (by omega), HBOTH.out] at hnum
        have hrow := num_row (f := fun i => levF (nxt g) o i) hnum
        have hln : ((nodes n).map fun i => levF (nxt g) o i).length = n := by rw [List.length_map, nodes_length]
        have hlv : levL g = (nodes n).map fun i => levF (nxt g) o i := by unfold levL; rw [if_pos HKK.out.symm, HNN.out, ← HO.out]
        have HFIN : Hid (RowErr (levL g) (ordE g) w (.returned (.tuple #[.slice (some ⟨ib, 0, none⟩) n n, .int .i64 0])) wr) := Lib.hid (by
          rw [← HKK.out]
          exact ⟨some ⟨ib, 0, none⟩, n, by rw [hlv, hln], by rw [hlv]; exact hrow, HBX.out.bel.trans (hbel.mono (by omega))⟩)
        clear hrow hln hlv hnum hbel
        go_wp2
        go_ret2
        exact HFIN.out
  · have hkb : (kk != 0) = true := by simpa using hk
    have hlv : levL g = [] := by unfold levL; rw [if_neg (by rw [← HKK.out]; exact hk)]
    have HP : Hid (RowErr (levL g) (ordE g) w (.returned (.tuple #[.slice none 0 0, .int .i64 kk])) w1) := Lib.hid (by rw [hlv, ← HKK.out]; exact rowErr_no hbx1.bel)
    clear hbx1 hbx hb1 hlv hro
    go_wp2
    go_ret2
    exact HP.out
end Go.Proofs.Ytpdfcffeinbcaaa
