/- The document's Circle. -/
import Derived.Test.YtpdfcffeinbcaaaH55
import Derived.Test.YtpdfcffeinbcaaaH17
import Derived.Test.YtpdfcffeinbcaaaH26
import Derived.Test.YtpdfcffeinbcaaaH10
namespace Go.Proofs.Ytpdfcffeinbcaaa
open Go.RowKit
set_option maxHeartbeats 8000000 in
set_option maxRecDepth 100000 in
theorem rcircle_c (g : XG) (E : Option Addr) (d : Nat) (x : Int) (w : World) (h : GAt w E g) (hl : g.es.length ≤ 4611686018427387904) :
    Calls Try.prog 40 #[g.val E d, .int .i64 x] w (RowErr (cirL g x) (cirE g x) w) := by
  have htn := fun W h => rTurn_c g E d W h hl
  have hnd := fun b W h => rnode_c (g := g) (x := x) (b := b) E d W h
  have hbx := box_at (w := w) (t := 24) g E d
  have hv : g.val E d = .agg #[.int .i64 g.n, .slice E g.es.length d] := rfl
  rw [hv] at htn hnd ⊢
  have HTN := Lib.hid htn
  have HND := Lib.hid hnd
  have HG := Lib.hid h
  obtain ⟨kk, hkk⟩ : ∃ kk, kk = cirE g x := ⟨_, rfl⟩
  obtain ⟨ll, hll⟩ : ∃ ll, ll = cirL g x := ⟨_, rfl⟩
  rw [← hkk, ← hll]
  have HKK := Lib.hid hkk
  have HLL := Lib.hid hll
  obtain ⟨ck, hck⟩ : ∃ ck, ck = chkF g := ⟨_, rfl⟩
  have HCK := Lib.hid hck
  clear htn hnd hv h hkk hll hck
  go_enter Try.func40, Try.ntmps40
  go_wp2_with fail
  go_at_call 22
  refine (HTN.out _ (HG.out.below hbx.bel)).mono ?_
  rintro e w1 ⟨E2, d2, rfl, hg2, hb1⟩
  rw [← HCK.out]
  have hbx1 := hbx.below hb1
  obtain ⟨tn, htn⟩ : ∃ tn, tn = (turnG g).n := ⟨_, rfl⟩
  obtain ⟨tm, htm⟩ : ∃ tm, tm = (turnG g).es.length := ⟨_, rfl⟩
  have hv2 : (turnG g).val E2 d2 = .agg #[.int .i64 tn, .slice E2 tm d2] := by rw [htn, htm]; rfl
  rw [hv2]
  obtain ⟨wz, hwz⟩ : ∃ wz, wz = w1.alloc (.cells #[.int .i64 tn, .slice E2 tm d2] 24) := ⟨_, rfl⟩
  obtain ⟨tb, htb⟩ : ∃ tb, tb = w1.heap.size := ⟨_, rfl⟩
  have t0 : wz.cell? ⟨tb, 0, none⟩ = some (.int .i64 tn) := by rw [hwz, htb, cell_new]; rfl
  have t1 : wz.cell? ⟨tb, 1, none⟩ = some (.slice E2 tm d2) := by rw [hwz, htb, cell_new]; rfl
  have hbz : Below w1.heap.size w1 wz := by rw [hwz]; exact (Below.refl _ _).alloc (Nat.le_refl _) _
  have hbxz := hbx1.below hbz
  have c0 := hbxz.c0
  have c1 := hbxz.c1
  have hg3 := hg2.below hbz
  have HBX := Lib.hid hbxz
  have HG3 := Lib.hid hg3
  have HT0 := Lib.hid t0
  have HT1 := Lib.hid t1
  have HTN2 := Lib.hid htn
  have HTM := Lib.hid htm
  have HWZ := Lib.hid hwz
  have HTB := Lib.hid htb
  clear hv2 hwz htb hbz hbxz hg3 hg2 htn htm hbx1 hb1 hbx t0 t1
  go_upto_region 2 with (fail)
  rw [← HWZ.out, ← HTB.out]
  have hbxl : w.heap.size < wz.heap.size := HBX.out.lt
  by_cases hk : ck = 0
  · subst hk
    have hgood := chkF_good.1 HCK.out.symm
    cases hnb : nodeB g.n x with
    | false =>
      have h1 : cirE g x = 1 := by unfold cirE; rw [if_pos HCK.out.symm, hnb]; rfl
      have h2 : cirL g x = [] := by unfold cirL; rw [h1]; rfl
      obtain rfl := HKK.out.trans h1
      obtain rfl := HLL.out.trans h2
      have HNB := Lib.hid hnb
      clear hnb h1 h2
      go_wp2_with (go_at_call 47; refine (HND.out _ _ HNB.out).mono ?_; rintro e w2 ⟨rfl, hb2⟩)
      go_ret2
      exact rowErr_no ((HBX.out.below hb2).bel)
    | true =>
      have h1 : cirE g x = if bestF (farG g x) (nxt g x) < 0 then 4 else 0 := by unfold cirE; rw [if_pos HCK.out.symm, hnb, if_pos rfl]
      rw [h1] at HKK
      have HE := Lib.hid h1
      have hxr := nodeB_iff.1 hnb
      have hbg := best_goes hgood hxr
      obtain ⟨y, rfl⟩ : ∃ y : Nat, x = y := ⟨x.toNat, by omega⟩
      obtain ⟨n, hn⟩ : ∃ n : Nat, g.n = n := ⟨g.n.toNat, by omega⟩
      have hnn : g.n.toNat = n := by omega
      have hn4 : n ≤ 4096 := by have := hgood.n1; omega
      obtain ⟨m, hm⟩ : ∃ m, m = g.es.length := ⟨_, rfl⟩
      have hlen := hgood.len
      have htg : turnG g = turnE g := by unfold turnG; rw [if_pos HCK.out.symm]; rfl
      obtain rfl : tn = (n : Int) := by rw [HTN2.out, htg]; exact hn
      obtain rfl : tm = m := by rw [HTM.out, htg, hm]; exact List.length_map _
      have hG3 : GAt wz E2 (turnE g) := by rw [← htg]; exact HG3.out
      have hyn : y < n := by omega
      have hy0 : (0 : Int) ≤ (y : Int) := by omega
      have hy1 : (y : Int) < (n : Int) := by omega
      have c0' : wz.cell? ⟨w.heap.size, 0, none⟩ = some (.int .i64 (n : Int)) := by rw [← hn]; exact c0
      have c1' : wz.cell? ⟨w.heap.size, 1, none⟩ = some (.slice E tm d) := by rw [hm]; exact c1
      rw [hn, ← hm]
      rw [hn, ← hm] at HND
      have hnx : ∀ W a, Below wz.heap.size wz W → Calls Try.prog 49 #[.agg #[.int .i64 (n : Int), .slice E tm d], .int .i64 a] W (OwnInts (nxt g a) W) := fun W a hb => by
        have h := rnext_c g E d a W (HG.out.below (HBX.out.bel.trans (hb.mono (Nat.le_of_lt hbxl)) |>.mono (Nat.le_refl _))) hlen
        unfold XG.val at h
        rwa [hn, ← hm] at h
      have hnt : ∀ W a, Below wz.heap.size wz W → Calls Try.prog 49 #[.agg #[.int .i64 (n : Int), .slice E2 tm d2], .int .i64 a] W (OwnInts (nxt (turnE g) a) W) := fun W a hb => by
        have h := rnext_c (turnE g) E2 d2 a W (hG3.below hb) (good_turn hgood).len
        have e1 : (turnE g).val E2 d2 = .agg #[.int .i64 (n : Int), .slice E2 tm d2] := by unfold XG.val turnE; rw [List.length_map, ← hm, hn]
        rwa [e1] at h
      have hways : ∀ W X, Below wz.heap.size wz W → RowAt W X (I [(y : Int)]) → Calls Try.prog 53 #[.agg #[.int .i64 (n : Int), .slice E tm d], .slice X 1 1, .int .i64 (-1)] W fun e w' => ∃ sb, e = .returned (.slice (some ⟨sb, 0, none⟩) n n) ∧ W.heap.size ≤ sb ∧ w'.cell? ⟨sb, y, none⟩ = some (.bool (decide (0 ≤ bestF (farG g y) (nxt g y)))) ∧ Below W.heap.size W w' := fun W X hb hr => by
        have h := ways_c g E d [(y : Int)] X 1 (-1) W (HG.out.below (HBX.out.bel.trans (hb.mono (Nat.le_of_lt hbxl)))) hgood hr (by simp) (fun x hx => by rw [List.mem_singleton.1 hx]; omega)
        unfold XG.val at h
        rw [hnn, hn, ← hm] at h
        refine h.mono ?_
        rintro e w' ⟨sb, S, rfl, h1, h2, h3, h4⟩
        refine ⟨sb, rfl, h1, ?_, h4⟩
        rw [h2.2.1 y hyn]
        have : ((y : Int) ∈ S) ↔ 0 ≤ bestF (farG g y) (nxt g y) := by rw [h3, way_tg hgood hy0, hbg]
        simp only [this]
      have hnb2 : nodeB (n : Int) (y : Int) = true := by rw [← hn]; exact hnb
      have HNB := Lib.hid hnb2
      have HGOOD := Lib.hid hgood
      have HXR := Lib.hid hxr
      have HN := Lib.hid hn
      have HNN := Lib.hid hnn
      have HM := Lib.hid hm
      have HNX := Lib.hid hnx
      have HNT := Lib.hid hnt
      have HWAYS := Lib.hid hways
      clear hnb hnb2 h1 hgood hxr hbg hn hnn hm htg hG3 hnx hnt hways c0 c1
      go_wp2_with fail
      go_at_call 47
      refine (HND.out _ _ HNB.out).mono ?_
      rintro e w2 ⟨rfl, hb2⟩
      have c0 := (hb2.cell (p := ⟨w.heap.size, 0, none⟩) hbxl).trans c0'
      have c1 := (hb2.cell (p := ⟨w.heap.size, 1, none⟩) hbxl).trans c1'
      have hb3 : Below w2.heap.size w2 (w2.alloc (.cells #[.int .i64 (y : Int)] 3)) := (Below.refl _ _).alloc (Nat.le_refl _) _
      have hb3z : Below wz.heap.size wz (w2.alloc (.cells #[.int .i64 (y : Int)] 3)) := hb2.trans (hb3.mono hb2.size)
      have HW := Lib.hid (HWAYS.out _ _ hb3z (row_lit 3 w2 [(y : Int)]))
      have HB3Z := Lib.hid hb3z
      clear hb3 hb3z hb2
      go_wp2_with fail
      go_at_call 53
      refine HW.out.mono ?_
      rintro e w4 ⟨sb, rfl, hsb, hcs, hb4⟩
      have hb4z := HB3Z.out.trans (hb4.mono HB3Z.out.size)
      have HB4 := Lib.hid hb4z
      clear hb4 hb4z c0 c1 hsb
      obtain ⟨b0, hb0⟩ : ∃ b0, b0 = bestF (farG g y) (nxt g y) := ⟨_, rfl⟩
      rw [← hb0] at HKK hcs
      by_cases hneg : 0 ≤ b0
      · rw [decide_eq_true hneg] at hcs
        have hlt : ¬ b0 < 0 := by omega
        have hk0 : kk = 0 := by rw [HKK.out, if_neg hlt]
        have hlle : ll = (y : Int) :: cirGo g (farG g y) b0.toNat y := by rw [HLL.out]; unfold cirL; rw [HE.out, ← hb0, if_neg hlt]; rfl
        subst hk0
        obtain ⟨f, hf⟩ : ∃ f, f = farG g y := ⟨_, rfl⟩
        obtain ⟨r, rfl⟩ : ∃ r : Nat, b0 = r := ⟨b0.toNat, by omega⟩
        rw [Int.toNat_natCast, ← hf] at hlle
        have hfo := farG_ok HGOOD.out HXR.out
        have hmin0 := (best_spec f (nxt g y)).resolve_left (fun h => by have := h.1; rw [hf, ← hb0] at this; omega)
        rw [hf, ← hb0, ← hf] at hmin0
        rw [← hf] at hfo
        have hr4 : r ≤ 4096 := by
          obtain ⟨_, ⟨u, _, h⟩, _⟩ := hmin0
          have := (hfo.bd u).2
          have := HN.out
          omega
        have htbl : tb < wz.heap.size := World.block_lt_of_cell? wz _ HT0.out
        have hcells : ∀ W, Below wz.heap.size wz W → W.cell? ⟨w.heap.size, 0, none⟩ = some (.int .i64 (n : Int)) ∧ W.cell? ⟨w.heap.size, 1, none⟩ = some (.slice E tm d) ∧ W.cell? ⟨tb, 0, none⟩ = some (.int .i64 (n : Int)) ∧ W.cell? ⟨tb, 1, none⟩ = some (.slice E2 tm d2) := fun W hb =>
          ⟨(hb.cell (p := ⟨w.heap.size, 0, none⟩) hbxl).trans c0', (hb.cell (p := ⟨w.heap.size, 1, none⟩) hbxl).trans c1', (hb.cell (p := ⟨tb, 0, none⟩) htbl).trans HT0.out, (hb.cell (p := ⟨tb, 1, none⟩) htbl).trans HT1.out⟩
        have hmk : ∀ W : World, (Instr.makeSlice 25 (.int .i64 (n : Int)) (.int .i64 (n : Int))).run Try.prog W = .ok (.slice (some ⟨W.heap.size, 0, none⟩) n n) (W.alloc (.cells (madeCells #[.int .i64 0] n) 3)) :=
          fun W => run_make_row' 25 3 (.int .i64 0) 8 Try.underlying25 info_int rfl .i64 .i64 n (by omega) (by omega) W
        have d0 := (hcells w4 HB4.out).1
        have HLLE := Lib.hid hlle
        have HMIN := Lib.hid hmin0
        have HFO := Lib.hid hfo
        have HF := Lib.hid hf
        have HCELLS := Lib.hid hcells
        clear hlt hb0 hlle hmin0 hf hfo hcells hneg c0' c1'
        go_upto_region 9 with (fail)
        obtain ⟨w5, hw5⟩ : ∃ w5, w5 = w4.alloc (.cells (madeCells #[.int .i64 0] n) 3) := ⟨_, rfl⟩
        obtain ⟨fb, hfb⟩ : ∃ fb, fb = w4.heap.size := ⟨_, rfl⟩
        have hf5 : NumAt w5 fb n (fun _ => 0) := by rw [hw5, hfb]; exact num_made w4 n _
        have hb5 : Below wz.heap.size wz w5 := by rw [hw5]; exact HB4.out.alloc HB4.out.size _
        have hfbz : wz.heap.size ≤ fb := by rw [hfb]; exact HB4.out.size
        rw [← hw5, ← hfb]
        have HF5 := Lib.hid hf5
        have HB5 := Lib.hid hb5
        clear hw5 hfb hf5 hb5 d0 hcs
        go_wp2
        go_loopw [9] (fun i wr => ∃ j : Nat, i = .int .i64 j ∧ j ≤ n ∧ NumAt wr fb n (fun i => if i < j then -1 else 0) ∧ Below wz.heap.size wz wr) (fun i _ => n - (intOf i).toNat)
        case atStart => exact ⟨0, rfl, by omega, HF5.out.congr (fun i _ => by simp), HB5.out⟩
        case round =>
          obtain ⟨j, rfl, hj, hnum, hbe⟩ := hrel
          have e0 := (HCELLS.out wr hbe).1
          by_cases hlt : j < n
          · have hj0 : (0 : Int) ≤ (j : Int) := by omega
            have hj1 : (j : Int) < (n : Int) := by omega
            have kj := hnum.2.1 j hlt
            have kz := hnum.2.2 j
            have hput : NumAt (wr.setCell ⟨fb, j, none⟩ (.int .i64 (-1))) fb n (fun i => if i < j + 1 then -1 else 0) := hnum.put hlt fun i _ => by
              by_cases e : i = j
              · subst e; simp
              · rw [if_neg e]
                by_cases h : i < j
                · rw [if_pos h, if_pos (by omega)]
                · rw [if_neg h, if_neg (by omega)]
            have HPUT := Lib.hid hput
            have HBE := Lib.hid (hbe.setCell (p := ⟨fb, j, none⟩) hfbz (.int .i64 (-1)))
            clear hnum hput hbe
            go_wp2
            go_roundw
            case rel => exact ⟨j + 1, by go_num, by omega, HPUT.out, HBE.out⟩
            case measure => simp [intOf]; omega
          · have hge : ¬ (j : Int) < (n : Int) := by omega
            obtain rfl : j = n := by omega
            have ky := hnum.2.1 y hyn
            have kz := hnum.2.2 y
            have hput : NumAt (wr.setCell ⟨fb, y, none⟩ (.int .i64 0)) fb j (fun i => far0 y i) := hnum.put hyn fun i hi => by
              unfold far0
              by_cases e : i = y
              · subst e; simp
              · rw [if_neg e, if_neg (by omega), if_pos hi]
            obtain ⟨wv, hwv⟩ : ∃ wv, wv = wr.setCell ⟨fb, y, none⟩ (.int .i64 0) := ⟨_, rfl⟩
            have hbv : Below wz.heap.size wz wv := by rw [hwv]; exact hbe.setCell (p := ⟨fb, y, none⟩) hfbz (.int .i64 0)
            rw [← hwv] at hput
            have HPUT := Lib.hid hput
            have HBV := Lib.hid hbv
            have HWV := Lib.hid hwv
            clear hnum hput hbe hwv hbv hge
            go_upto_region 14 with (fail)
            rw [← HWV.out]
            clear ky kz e0
            obtain ⟨adj, hadj⟩ : ∃ adj, adj = nxt (turnE g) := ⟨_, rfl⟩
            obtain ⟨wt, hwt⟩ : ∃ wt, wt = wv.alloc (.cells #[.int .i64 (y : Int)] 3) := ⟨_, rfl⟩
            have hfbv : fb < wv.heap.size := HPUT.out.1
            have hbvt : Below wv.heap.size wv wt := by rw [hwt]; exact (Below.refl _ _).alloc (Nat.le_refl _) _
            have hq0 : QueueAt wt (fb + 1) (.slice (some ⟨wv.heap.size, 0, none⟩) 1 1) (I [(y : Int)]) := by
              have h : wt.ownsRow (fb + 1) 3 1 (.slice (some ⟨wv.heap.size, 0, none⟩) 1 1) 1 [.int .i64 (y : Int)] := by rw [hwt]; exact own_one1 _ hfbv
              exact QueueAt.of_own h
            have hn0 : NumAt wt fb j (fun i => farF adj y ([(y : Int)].take 0) i) := HPUT.out.moves (Moves.of_new [] hbvt) (by simp)
            have hbt := HBV.out.trans (hbvt.mono HBV.out.size)
            have hpu : pushAll [] [(y : Int)] = [(y : Int)] := by simp [pushAll]
            have hbf0 := bfs_start (adj := adj) (n := j) (src := [(y : Int)]) (fun x hx => by rw [List.mem_singleton.1 hx]; omega)
            rw [hpu] at hbf0
            have hgo0 : bfsGo adj j [(y : Int)] 0 = bfsF adj j [(y : Int)] := by unfold bfsF; rw [hpu]
            have hadjr : ∀ x z : Int, 0 ≤ x → x < (j : Int) → z ∈ adj x → 0 ≤ z ∧ z < (j : Int) := fun x z _ _ hz => by
              rw [hadj] at hz
              have h := (HGOOD.out.all _ (mem_turnE.1 hz)).1
              simp only at h
              have := HN.out
              omega
            have hall : ∀ x, (adj x).length ≤ 16384 := fun x => by rw [hadj]; exact Nat.le_trans (nxt_length _ _) (good_turn HGOOD.out).len
            have hst0 := far_start adj y
            have hfbt : fb + 1 ≤ wt.heap.size := by have := hbvt.size; omega
            have HQ0 := Lib.hid hq0
            have HN0 := Lib.hid hn0
            have HBT := Lib.hid hbt
            have HBF0 := Lib.hid hbf0
            have HGO0 := Lib.hid hgo0
            have HADJR := Lib.hid hadjr
            have HALL := Lib.hid hall
            have HST0 := Lib.hid hst0
            have HADJ := Lib.hid hadj
            have HWT := Lib.hid hwt
            clear hq0 hn0 hbt hbf0 hgo0 hadjr hall hst0 hadj hwt hpu hbvt HPUT HBV
            go_wp2
            rw [← HWT.out]
            go_loopg [10] j (fun gk v wr => ∃ (all : List Int) (k : Nat), gk + k = j ∧ Bfs adj j [(y : Int)] all k ∧ FarInv adj y all k (farF adj y (all.take k)) ∧ Hid (bfsGo adj gk all k = bfsF adj j [(y : Int)]) ∧ QueueAt wr (fb + 1) v (I (all.drop k)) ∧ NumAt wr fb j (fun i => farF adj y (all.take k) i) ∧ Below wz.heap.size wz wr ∧ fb + 1 ≤ wr.heap.size)
            case atStart => exact ⟨[(y : Int)], 0, rfl, HBF0.out, HST0.out, HGO0, HQ0.out, HN0.out, HBT.out, hfbt⟩
            case round =>
              obtain ⟨all, k, hfk, hbfs, hfar, hgo, hq, hnum, hbe, hsz⟩ := hrel
              have hlenA := hbfs.len
              by_cases hlt : k < all.length
              · obtain ⟨f', rfl⟩ : ∃ f, gk = f + 1 := ⟨gk - 1, by omega⟩
                have hxr := hbfs.rng _ (List.getElem_mem hlt)
                have hdr : all.drop k = all[k] :: all.drop (k + 1) := List.drop_eq_getElem_cons hlt
                have hnxb := hbfs.next hlt HADJR.out
                have hfnx := hfar.next hlt hbfs.nod
                have hgo2 : bfsGo adj f' (pushAll all (adj all[k])) (k + 1) = bfsF adj j [(y : Int)] := by
                  have := hgo.out
                  unfold bfsGo at this
                  rw [if_pos hlt, List.getD_eq_getElem?_getD, List.getElem?_eq_getElem hlt] at this
                  exact this
                have htk : all.take (k + 1) = all.take k ++ [all[k]] := List.take_succ_eq_append_getElem hlt
                have hpart := hfar.part hlt
                have hfs : farF adj y (all.take (k + 1)) = farStep adj (farF adj y (all.take k)) all[k] := by rw [htk, farF_snoc]
                rw [← hfs] at hfnx
                unfold farStep at hfs
                obtain ⟨v, hv⟩ : ∃ v : Nat, (v : Int) = all[k] := ⟨all[k].toNat, by omega⟩
                rw [← hv] at hxr hdr hnxb hgo2 hfnx hpart hfs
                have hvn : v < j := by omega
                have hbd := farF_bound adj y (all.take k)
                have htl : (all.take k).length ≤ 4096 := by rw [List.length_take]; omega
                have hB : FarB ((all.take k).length : Int) v (farF adj y (all.take k)) := ⟨(hbd v).2, fun z => (hbd z).1, fun z => by have := (hbd z).2; omega⟩
                obtain ⟨f0, hf0⟩ : ∃ f0, f0 = farF adj y (all.take k) := ⟨_, rfl⟩
                rw [← hf0] at hB hfs hpart hnum
                obtain ⟨l, hl'⟩ : ∃ l, l = adj v := ⟨_, rfl⟩
                rw [← hl'] at hnxb hgo2 hfs hfnx
                have hlr : ∀ z ∈ l, 0 ≤ z ∧ z < (j : Int) := fun z hz => HADJR.out v z (by omega) (by omega) (by rw [← hl']; exact hz)
                have hl16 : l.length ≤ 16384 := by rw [hl']; exact HALL.out v
                have hrowl : l = nxt (turnE g) v := by rw [hl', HADJ.out]
                rw [hdr] at hq
                obtain ⟨gq, off, cap, rfl, hcap, hrl2, hc0, hgb, hgl, hq2⟩ := QueueAt.cut (x := .int .i64 (v : Int)) (xs := I (all.drop (k + 1))) hq
                obtain ⟨_, _, e0, e1⟩ := HCELLS.out wr hbe
                have hv0 : (0 : Int) ≤ (v : Int) := by omega
                have hv1 : (v : Int) < (j : Int) := by omega
                have hcall := HNT.out wr v hbe
                rw [← hrowl] at hcall
                have hcases : (cap = 0 ∧ Hid (QueueAt wr (fb + 1) (.slice (some ⟨gq, off, none⟩) (I (all.drop (k + 1))).length cap) (I (all.drop (k + 1))))) ∨ (¬ cap + 1 = 1 ∧ Hid (QueueAt wr (fb + 1) (.slice (some ⟨gq, off + 1, none⟩) (I (all.drop (k + 1))).length cap) (I (all.drop (k + 1))))) := by
                  by_cases hcp : cap = 0
                  · left; have := Lib.hid hq2; rw [if_pos hcp] at this; exact ⟨hcp, this⟩
                  · right; have := Lib.hid hq2; rw [if_neg hcp] at this; exact ⟨by omega, this⟩
                have HNXB := Lib.hid hnxb
                have HFNX := Lib.hid hfnx
                have HGO2 := Lib.hid hgo2
                have HPART := Lib.hid hpart
                have HFS := Lib.hid hfs
                have HB := Lib.hid hB
                have HLR := Lib.hid hlr
                have HNUM := Lib.hid hnum
                have HBE := Lib.hid hbe
                have HCALL := Lib.hid hcall
                have HBF := Lib.hid hbfs
                have HTL := Lib.hid htl
                clear hnxb hfnx hgo2 hpart hfs hB hlr hnum hbe hcall hdr htk hv hbd hf0 hl' hrowl hq hq2 hfar hgo hbfs htl hxr
                rcases hcases with ⟨hcp, HQ2⟩ | ⟨hcp, HQ2⟩
                all_goals
                  (try subst hcp)
                  go_wp2_with fail
                  go_at_call 49
                  refine HCALL.out.mono ?_
                  rintro e w6 ⟨Y, dY, rfl, ho6, hb6⟩
                  obtain ⟨wl, hwl⟩ : ∃ wl : World, wl = wr := ⟨_, rfl⟩
                  rw [← hwl] at ho6 hb6 HQ2 HNUM HBE hgl
                  clear hwl hc0 e0 e1
                  have hrY := OwnInts.row ho6
                  have hYb : ∀ b o, Y = some ⟨b, o, none⟩ → wl.heap.size ≤ b ∧ b < w6.heap.size := fun b o e => ho6.lt b (by rw [e]; rfl)
                  have hq6 := HQ2.out.moves (Moves.of_new [] hb6) (by simp)
                  have hqb := HQ2.out.lt
                  have hn6 := HNUM.out.moves (Moves.of_new [] hb6) (by simp)
                  have hbz6 := HBE.out.trans (hb6.mono HBE.out.size)
                  have hfbl : fb < wl.heap.size := HNUM.out.1
                  have hs6 : wl.heap.size ≤ w6.heap.size := hb6.size
                  rw [List.length_map, List.length_drop] at hq6 hqb
                  have HRY := Lib.hid hrY
                  have HYB := Lib.hid hYb
                  have HQ6 := Lib.hid hq6
                  have HQB := Lib.hid hqb
                  have HN6 := Lib.hid hn6
                  have HBZ6 := Lib.hid hbz6
                  clear hrY hYb hq6 hqb hn6 hbz6 ho6 hb6 HQ2 HNUM HCALL
                  go_wp2
                  go_loopw [10, 13] (fun tq i wr => ∃ m : Nat, i = .int .i64 m ∧ m ≤ l.length ∧ QueueAt wr (fb + 1) tq (I ((pushAll all (l.take m)).drop (k + 1))) ∧ NumAt wr fb j (fun i => (l.take m).foldl (farPut v) f0 i) ∧ RowAt wr Y (I l) ∧ (∀ g, tq.ownBlock = some g → g < wl.heap.size ∨ w6.heap.size ≤ g) ∧ Below wz.heap.size wz wr ∧ w6.heap.size ≤ wr.heap.size) (fun _ i _ => l.length - (intOf i).toNat)
                  case atStart => exact ⟨0, rfl, Nat.zero_le _, HQ6.out, HN6.out, HRY.out, fun g' e => .inl (HQB.out g' e).2, HBZ6.out, Nat.le_refl _⟩
                  case round =>
                    obtain ⟨m, rfl, hm, hq, hnum, hrY, hsep, hbe, hszr⟩ := hrel
                    obtain ⟨t, ht⟩ := pushAll_pre all (l.take m)
                    have hkl : k + 1 ≤ (pushAll all (l.take m)).length := by rw [ht, List.length_append]; omega
                    by_cases hlm : m < l.length
                    · have hm0 : (0 : Int) ≤ (m : Int) := by omega
                      have hm1 : (m : Int) < (l.length : Int) := by omega
                      obtain ⟨bY, oY, rfl, hcj⟩ := hrY.int hlm
                      have hzr := HLR.out _ (List.getElem_mem hlm)
                      have htk1 := List.take_succ_eq_append_getElem hlm
                      have hps := pushAll_snoc all (l.take m) l[m]
                      rw [← htk1] at hps
                      have hfsn : (l.take (m + 1)).foldl (farPut v) f0 = farPut v ((l.take m).foldl (farPut v) f0) l[m] := by rw [htk1, List.foldl_append]; rfl
                      have hpart := HPART.out (l.take m) l[m]
                      obtain ⟨z, hz⟩ : ∃ z : Nat, l[m] = (z : Int) := ⟨l[m].toNat, by omega⟩
                      rw [hz] at hcj hzr hps hfsn hpart
                      have hzn : z < j := by omega
                      have hz0 : (0 : Int) ≤ (z : Int) := by omega
                      have hz1 : (z : Int) < (j : Int) := by omega
                      have hB := HB.out.fold (by omega) (l.take m)
                      have hnl : (pushAll all (l.take m)).length ≤ 4096 := by
                        have h2 : ∀ z ∈ pushAll all (l.take m), 0 ≤ z ∧ z < (j : Int) := fun z hz => by
                          rcases mem_pushAll.1 hz with hz | hz
                          · exact HBF.out.rng z hz
                          · exact HLR.out z (List.mem_of_mem_take hz)
                        have := nodup_len j _ (pushAll_nodup HBF.out.nod) h2
                        omega
                      obtain ⟨fm, hfm⟩ : ∃ fm, fm = (l.take m).foldl (farPut v) f0 := ⟨_, rfl⟩
                      obtain ⟨A, hA⟩ : ∃ A, A = pushAll all (l.take m) := ⟨_, rfl⟩
                      rw [← hfm] at hnum hfsn hpart hB
                      rw [← hA] at hq hps hpart hkl hnl
                      have kz : wr.cell? ⟨fb, z, none⟩ = some (.int .i64 (fm z)) := hnum.2.1 z hzn
                      have kv : wr.cell? ⟨fb, v, none⟩ = some (.int .i64 (fm v)) := hnum.2.1 v hvn
                      have kf := hnum.2.2 z
                      have hbv0 := hB.lo v
                      have hbv1 := hB.at_
                      have htl := HTL.out
                      have hfp : farPut (v : Int) fm (z : Int) = if fm z < 0 then setI fm z (fm v + 1) else fm := rfl
                      rw [hfp] at hfsn
                      have hYbb := HYB.out bY oY rfl
                      by_cases hneg : fm z < 0
                      · rw [if_pos hneg] at hfsn
                        rw [if_neg (fun h => by have := hpart.2 h; omega)] at hps
                        have hput := num_set hnum hzn (y := fm v + 1)
                        obtain ⟨fv, hfv⟩ : ∃ fv, fv = fm v := ⟨_, rfl⟩
                        obtain ⟨fz, hfz⟩ : ∃ fz, fz = fm z := ⟨_, rfl⟩
                        rw [← hfv] at kv hput hfsn hbv0 hbv1
                        rw [← hfz] at kz hneg
                        have hset := Moves.set (M := [fb]) wr.drew ⟨fb, z, none⟩ (.int .i64 (fv + 1)) (by simp)
                        have hdr0 : Moves [fb] wr wr.drew := ⟨rfl, rfl, rfl, Nat.le_refl _, fun _ _ _ => rfl⟩
                        have hmd := Moves.trans hdr0 hset
                        have hszq : (wr.drew.setCell ⟨fb, z, none⟩ (.int .i64 (fv + 1))).heap.size = wr.heap.size := by simp [World.setCell]
                        have hqlt := hq.lt
                        have hq2 := hq.moves hmd (fun g e => by have := (hqlt g e).1; simp; omega)
                        have hr2 := hrY.moves hmd (fun b o e => by have := HYB.out b o e; simp; omega)
                        have hput2 : NumAt (wr.drew.setCell ⟨fb, z, none⟩ (.int .i64 (fv + 1))) fb j (fun i => setI fm z (fv + 1) i) := hput
                        have hbe2 := hbe.trans ((hmd.below (B := wz.heap.size) hbe.size (by simp; omega)))
                        have hcj2 : (wr.drew.setCell ⟨fb, z, none⟩ (.int .i64 (fv + 1))).cell? ⟨bY, oY + m, none⟩ = some (.int .i64 (z : Int)) := (World.cell?_setCell_other _ _ _ _ (by intro e; simp only [Addr.mk.injEq] at e; omega)).trans hcj
                        have hszd : fb + 1 ≤ (wr.drew.setCell ⟨fb, z, none⟩ (.int .i64 (fv + 1))).heap.size := by omega
                        have hszw : w6.heap.size ≤ (wr.drew.setCell ⟨fb, z, none⟩ (.int .i64 (fv + 1))).heap.size := by omega
                        have hil : (I (A.drop (k + 1))).length ≤ 4096 := by rw [List.length_map, List.length_drop]; omega
                        have hdA : (A ++ [(z : Int)]).drop (k + 1) = A.drop (k + 1) ++ [(z : Int)] := List.drop_append_of_le_length hkl
                        have HQS := Lib.hid hq2
                        have HR2 := Lib.hid hr2
                        have HPUT := Lib.hid hput2
                        have HBE2 := Lib.hid hbe2
                        have HCJ2 := Lib.hid hcj2
                        have HIL := Lib.hid hil
                        have HDA := Lib.hid hdA
                        have HSEP := Lib.hid hsep
                        have HPS := Lib.hid hps
                        have HFSN := Lib.hid hfsn
                        have HQLT := Lib.hid hqlt
                        clear hq hq2 hr2 hnum hrY hsep hbe hbe2 hps hfsn hfp hB hfm hA hpart htk1 hfz hfv ht hz hzr hput hput2 hset hmd hdr0 hszq hcj2 hil hdA hqlt
                        go_wp2_with fail
                        go_still_tail 11, (by kernel_rfl)
                        change wpList _ _ _ _ _ wr.drew
                        have d1 : wr.drew.cell? ⟨fb, z, none⟩ = some (.int .i64 fz) := kz
                        have d2 : wr.drew.frozen? ⟨fb, z, none⟩ = false := kf
                        obtain ⟨wd, hwd⟩ : ∃ wd, wd = wr.drew := ⟨_, rfl⟩
                        have hcj3 : wd.cell? ⟨bY, oY + m, none⟩ = some (.int .i64 (z : Int)) := by rw [hwd]; exact hcj
                        rw [← hwd] at d1 d2 HQS HR2 HPUT HBE2 HCJ2 hszd hszw ⊢
                        clear hwd kz kf kv hcj hcj3
                        go_upto_region 24 with (fail)
                        obtain ⟨ws, hws⟩ : ∃ ws, ws = wd.setCell ⟨fb, z, none⟩ (.int .i64 (fv + 1)) := ⟨_, rfl⟩
                        rw [← hws] at HQS HR2 HPUT HBE2 HCJ2 hszd hszw ⊢
                        have hcj4 := HCJ2.out
                        clear hws d1 d2
                        go_wp2_with (at_builtin; refine app_queue (fb + 1) (by rfl) _ _ 25 3 (.int .i64 0) 8 (by rfl) Try.underlying25 info_int rfl _ (I (A.drop (k + 1))) (.int .i64 (z : Int)) (by rfl) _ (by rfl) rfl rfl HQS.out hszd (by have := HIL.out; omega) (by have := HIL.out; omega) ?_; intro v7 w7 hq7 hg7 hb7 hs7; have HQ7 := Lib.hid hq7; have HG7 := Lib.hid hg7; have HB7 := Lib.hid hb7; have HS7 := Lib.hid hs7; clear hq7 hg7 hb7 hs7)
                        have hm7 := Moves.of_grown HG7.out (M := _) (fun k e => Option.mem_toList.2 e)
                        have hn7 := HPUT.out.moves hm7 (fun h => by have := (HQLT.out fb (Option.mem_toList.1 h)).1; omega)
                        have hr7 := HR2.out.moves hm7 (fun b o e h => by have h1 := HYB.out b o e; have h2 := HSEP.out b (Option.mem_toList.1 h); omega)
                        have hb7 := HBE2.out.grown HG7.out HBE2.out.size (fun g e => by have := (HQLT.out g e).1; omega)
                        have hsep7 : ∀ g, v7.ownBlock = some g → g < wl.heap.size ∨ w6.heap.size ≤ g := fun g e => by
                          rcases HB7.out g e with h | h
                          · exact HSEP.out g h
                          · right; omega
                        have hq7 : QueueAt w7 (fb + 1) v7 (I ((A ++ [(z : Int)]).drop (k + 1))) := by
                          rw [HDA.out, show I (A.drop (k + 1) ++ [(z : Int)]) = I (A.drop (k + 1)) ++ [.int .i64 (z : Int)] from List.map_append]
                          exact HQ7.out
                        have hs7 : w6.heap.size ≤ w7.heap.size := by have := HS7.out; omega
                        have HN7 := Lib.hid hn7
                        have HR7 := Lib.hid hr7
                        have HBE7 := Lib.hid hb7
                        have HSEP7 := Lib.hid hsep7
                        have HQQ := Lib.hid hq7
                        clear hm7 hn7 hr7 hb7 hsep7 hq7 hcj4
                        go_wp2
                        go_roundw
                        case rel => exact ⟨m + 1, by go_num, by omega, by rw [HPS.out]; exact HQQ.out, by rw [HFSN.out]; exact HN7.out, HR7.out, HSEP7.out, HBE7.out, hs7⟩
                        case measure => simp [intOf]; omega
                      · rw [if_neg hneg] at hfsn
                        rw [if_pos (hpart.1 (by omega))] at hps
                        obtain ⟨fz, hfz⟩ : ∃ fz, fz = fm z := ⟨_, rfl⟩
                        rw [← hfz] at kz hneg
                        have HQ := Lib.hid hq
                        have HN := Lib.hid hnum
                        have HR := Lib.hid hrY
                        have HSEP := Lib.hid hsep
                        have HBE2 := Lib.hid hbe
                        have HPS := Lib.hid hps
                        have HFSN := Lib.hid hfsn
                        clear hq hnum hrY hsep hbe hps hfsn hfp hB hfm hA hpart htk1 hfz ht hz hzr kv kf hbv0 hbv1
                        go_wp2
                        go_roundw
                        case rel => exact ⟨m + 1, by go_num, by omega, by rw [HPS.out]; exact HQ.out, by rw [HFSN.out]; exact HN.out, HR.out, HSEP.out, HBE2.out, hszr⟩
                        case measure => simp [intOf]; omega
                    · have hge2 : ¬ (m : Int) < (l.length : Int) := by omega
                      have hml : l.take m = l := List.take_of_length_le (by omega)
                      rw [hml] at hq hnum hkl ht
                      have hnum2 : NumAt wr fb j (fun i => farF adj y ((pushAll all l).take (k + 1)) i) := by
                        have e : (pushAll all l).take (k + 1) = all.take (k + 1) := by rw [ht, List.take_append_of_le_length (by omega)]
                        rw [e, HFS.out]; exact hnum
                      have hfar2 : FarInv adj y (pushAll all l) (k + 1) (farF adj y ((pushAll all l).take (k + 1))) := by
                        have e : (pushAll all l).take (k + 1) = all.take (k + 1) := by rw [ht, List.take_append_of_le_length (by omega)]
                        rw [e]; exact HFNX.out
                      have HQ := Lib.hid hq
                      have HN2 := Lib.hid hnum2
                      have HF2 := Lib.hid hfar2
                      have HBE2 := Lib.hid hbe
                      have hfw : fb + 1 ≤ wr.heap.size := by omega
                      clear hq hnum hnum2 hfar2 hbe hml hrY hsep ht
                      go_wp2
                      go_roundg f'
                      case measure => omega
                      case rel => exact ⟨pushAll all l, k + 1, by omega, HNXB.out, HF2.out, HGO2, HQ.out, HN2.out, HBE2.out, hfw⟩
              · have hkl : k = all.length := by have := hbfs.kle; omega
                obtain ⟨X9, c9, hf9⟩ := hq.form
                subst hf9
                have hres : bfsF adj j [(y : Int)] = all := by have := hgo.out; rw [hkl, bfsGo_done] at this; exact this.symm
                have hfg : farF adj y (all.take k) = f := by rw [hkl, List.take_length, ← hres, HF.out, HADJ.out]; unfold farG; rw [HNN.out]
                rw [hfg] at hnum
                have hln : (I (all.drop k)).length = 0 := by rw [hkl]; simp
                rw [hln]
                obtain ⟨wy, hwy⟩ : ∃ wy : World, wy = wr := ⟨_, rfl⟩
                rw [← hwy] at hnum hbe ⊢
                obtain ⟨wo, hwo⟩ : ∃ wo, wo = wy.alloc (.cells #[.int .i64 (y : Int)] 3) := ⟨_, rfl⟩
                have hown0 : wo.ownsRow wy.heap.size 3 1 (.slice (some ⟨wy.heap.size, 0, none⟩) 1 1) [(y : Int)].length (I [(y : Int)]) := by rw [hwo]; exact own_one1 _ (Nat.le_refl _)
                have hbo : Below wy.heap.size wy wo := by rw [hwo]; exact (Below.refl _ _).alloc (Nat.le_refl _) _
                have hBAF := HBX.out.bel.trans (hbe.mono (Nat.le_of_lt hbxl))
                have HWO := Lib.hid hwo
                have HOWN0 := Lib.hid hown0
                have HBO := Lib.hid hbo
                have HNY := Lib.hid hnum
                have HBY := Lib.hid hbe
                have HBAF := Lib.hid hBAF
                have HLL2 := Lib.hid (show ll.length = r + 1 by rw [HLLE.out, List.length_cons, cirGo_length])
                clear hwy hres hfg hnum hln hwo hown0 hbo hBAF hbe hq hfar hgo hbfs hkl hsz hfk
                go_wp2
                rw [← HWO.out]
                go_loopw [14, 15] (fun vo ta wr => ∃ (r' a : Nat) (pre : List Int), ta = .int .i64 a ∧ a < j ∧ MinOf f (nxt g a) r' ∧ pre ++ cirGo g f r' a = ll ∧ wr.ownsRow wy.heap.size 3 1 vo pre.length (I pre) ∧ Below wy.heap.size wy wr) (fun vo _ _ => ll.length + 1 - lenV vo)
                case atStart => exact ⟨r, y, [(y : Int)], rfl, hyn, HMIN.out, HLLE.out.symm, HOWN0.out, HBO.out⟩
                case round =>
                  obtain ⟨r', a, pre, rfl, han, hmin, hpre, hown, hbel⟩ := hrel
                  have hpl : pre.length + r' = r + 1 := by rw [← HLL2.out, ← hpre, List.length_append, cirGo_length]
                  have hbz := HBY.out.trans (hbel.mono HBY.out.size)
                  obtain ⟨e0, e1, _, _⟩ := HCELLS.out wr hbz
                  have hst := cir_step HGOOD.out HXR.out (a := (a : Int)) (r := r') (by rw [← HF.out]; exact hmin)
                  rw [← HF.out] at hst
                  obtain ⟨hst0, hst1⟩ := hst
                  have hlr : ∀ z ∈ nxt g a, 0 ≤ z ∧ z < (j : Int) := fun z hz => by
                    have h := (HGOOD.out.all _ (mem_nxt.1 hz)).2
                    simp only at h
                    have := HN.out
                    omega
                  have hfm := fmin_min (fun w hw => (hlr w hw).1) hmin
                  have hll : (nxt g a).length ≤ 16384 := Nat.le_trans (nxt_length _ _) hlen
                  have hcall := HNX.out wr a hbz
                  obtain ⟨l, hl'⟩ : ∃ l, l = nxt g a := ⟨_, rfl⟩
                  have hstr := hlr _ hfm.1
                  obtain ⟨st, hst⟩ : ∃ st, st = fminF f (nxt g a) := ⟨_, rfl⟩
                  rw [← hst] at hst0 hst1 hstr
                  rw [← hl'] at hcall hlr hll hst
                  obtain ⟨Xo, co, rfl, hro, _⟩ := own_rowS hown
                  have HST := Lib.hid hst
                  have HST0 := Lib.hid hst0
                  have HST1 := Lib.hid hst1
                  have HCALL := Lib.hid hcall
                  have HLR := Lib.hid hlr
                  have HPRE := Lib.hid hpre
                  have HPL := Lib.hid hpl
                  have HOWN := Lib.hid hown
                  have HBEL := Lib.hid hbel
                  have HL := Lib.hid hl'
                  have HSTR := Lib.hid hstr
                  clear hst hst0 hst1 hcall hlr hpre hpl hown hbel hl' hmin hfm hbz hro hstr
                  go_wp2_with fail
                  go_at_call 49
                  refine HCALL.out.mono ?_
                  rintro e w6 ⟨Y, dY, rfl, ho6, hb6⟩
                  clear e0 e1
                  have hrY := OwnInts.row ho6
                  have hn6 := HNY.out.moves (Moves.of_new [] (HBEL.out.trans (hb6.mono HBEL.out.size))) (by simp)
                  have how6 := own_mv HOWN.out (Moves.of_new [] hb6) (by simp)
                  have hb6y := HBEL.out.trans (hb6.mono HBEL.out.size)
                  have HRY := Lib.hid hrY
                  have HN6 := Lib.hid hn6
                  have HOW6 := Lib.hid how6
                  have HB6 := Lib.hid hb6y
                  clear hrY hn6 how6 hb6y ho6 hb6 HCALL
                  go_wp2
                  obtain ⟨wl, hwl⟩ : ∃ wl : World, wl = wr := ⟨_, rfl⟩
                  go_loopw [17, 18] (fun tb i wr => ∃ q : Nat, i = .int .i64 q ∧ q ≤ l.length ∧ tb = .int .i64 (fminF f (l.take q)) ∧ NumAt wr fb j (fun i => f i) ∧ RowAt wr Y (I l) ∧ wr.ownsRow wy.heap.size 3 1 (.slice Xo pre.length co) pre.length (I pre) ∧ Below wy.heap.size wy wr) (fun _ i _ => l.length - (intOf i).toNat)
                  case atStart => exact ⟨0, rfl, by omega, rfl, HN6.out, HRY.out, HOW6.out, HB6.out⟩
                  case round =>
                    obtain ⟨q, rfl, hq, rfl, hnq, hrq, how, hbq⟩ := hrel
                    by_cases hql : q < l.length
                    · have hj0 : (0 : Int) ≤ (q : Int) := by omega
                      have hj1 : (q : Int) < (l.length : Int) := by omega
                      have hrqr := hrq
                      obtain ⟨b, off, rfl, hcj⟩ := hrq.int hql
                      have hzr := HLR.out _ (List.getElem_mem hql)
                      have hsn := fminF_snoc f (l.take q) l[q]
                      rw [← List.take_succ_eq_append_getElem hql] at hsn
                      have hbs := fmin_to f l (fun w hw => (HLR.out w hw).1) q hq
                      obtain ⟨z, hz⟩ : ∃ z : Nat, l[q] = (z : Int) := ⟨l[q].toNat, by omega⟩
                      rw [hz] at hcj hzr hsn
                      have hzn : z < j := by omega
                      have hz0 : (0 : Int) ≤ (z : Int) := by omega
                      have hz1 : (z : Int) < (j : Int) := by omega
                      have kz : wr.cell? ⟨fb, z, none⟩ = some (.int .i64 (f z)) := hnq.2.1 z hzn
                      obtain ⟨fz, hfz⟩ : ∃ fz, fz = f z := ⟨_, rfl⟩
                      obtain ⟨b0, hb0⟩ : ∃ b0, b0 = fminF f (l.take q) := ⟨_, rfl⟩
                      rw [← hb0] at hsn hbs ⊢
                      rw [← hfz] at kz hsn
                      have hbr : b0 = -1 ∨ (0 ≤ b0 ∧ b0 < (j : Int)) := hbs.imp (fun h => h.1) (fun h => HLR.out _ (List.mem_of_mem_take h.1))
                      have HSN := Lib.hid hsn
                      have HNQ := Lib.hid hnq
                      have HRQ := Lib.hid hrqr
                      have HOWQ := Lib.hid how
                      have HBQ := Lib.hid hbq
                      clear hsn hbs hz hzr hfz hb0 hzn hnq hrqr how hbq hrq
                      by_cases h1 : 0 ≤ fz
                      · by_cases h2 : b0 < 0
                        · clear hbr
                          go_upto_region 32 with (fail)
                          go_quiet (fail)
                          go_wp2
                          go_roundw
                          case rel => exact ⟨q + 1, by go_num, by omega, by rw [HSN.out, if_pos ⟨h1, .inl h2⟩], HNQ.out.drewN _, HRQ.out.below (below_drewN (Below.refl _ _) _), HOWQ.out, HBQ.out.trans (below_drewN (Below.refl _ _) _)⟩
                          case measure => simp [intOf]; omega
                        · obtain ⟨bn, rfl⟩ : ∃ bn : Nat, b0 = bn := ⟨b0.toNat, by omega⟩
                          have hbn : bn < j := by omega
                          have hbn0 : (0 : Int) ≤ (bn : Int) := by omega
                          have hbn1 : (bn : Int) < (j : Int) := by omega
                          have kb : wr.cell? ⟨fb, bn, none⟩ = some (.int .i64 (f bn)) := HNQ.out.2.1 bn hbn
                          obtain ⟨fbn, hfbn⟩ : ∃ fbn, fbn = f bn := ⟨_, rfl⟩
                          rw [← hfbn] at kb HSN
                          clear hbr hfbn
                          by_cases h3 : fz < fbn
                          · go_upto_region 32 with (fail)
                            go_quiet (fail)
                            go_wp2
                            go_roundw
                            case rel => exact ⟨q + 1, by go_num, by omega, by rw [HSN.out, if_pos ⟨h1, .inr h3⟩], HNQ.out.drewN _, HRQ.out.below (below_drewN (Below.refl _ _) _), HOWQ.out, HBQ.out.trans (below_drewN (Below.refl _ _) _)⟩
                            case measure => simp [intOf]; omega
                          · go_upto_region 32 with (fail)
                            go_quiet (fail)
                            go_wp2
                            go_roundw
                            case rel => exact ⟨q + 1, by go_num, by omega, by rw [HSN.out, if_neg (fun h => h.2.elim h2 h3)], HNQ.out.drewN _, HRQ.out.below (below_drewN (Below.refl _ _) _), HOWQ.out, HBQ.out.trans (below_drewN (Below.refl _ _) _)⟩
                            case measure => simp [intOf]; omega
                      · clear hbr
                        go_upto_region 32 with (fail)
                        go_quiet (fail)
                        go_wp2
                        go_roundw
                        case rel => exact ⟨q + 1, by go_num, by omega, by rw [HSN.out, if_neg (fun h => h1 h.1)], HNQ.out.drewN _, HRQ.out.below (below_drewN (Below.refl _ _) _), HOWQ.out, HBQ.out.trans (below_drewN (Below.refl _ _) _)⟩
                        case measure => simp [intOf]; omega
                    · have hge : ¬ (q : Int) < (l.length : Int) := by omega
                      rw [List.take_of_length_le (by omega), ← HST.out]
                      obtain ⟨sn, hsn⟩ : ∃ sn : Nat, st = sn := ⟨st.toNat, by have := HSTR.out; omega⟩
                      have hsnr : sn < j := by have := HSTR.out; omega
                      rw [hsn]
                      rcases r' with _ | k'
                      · have hsy : sn = y := by have := HST0.out.2 rfl; omega
                        have hpe : pre = ll := by rw [← HPRE.out]; unfold cirGo; rw [List.append_nil]
                        rw [hpe] at how ⊢
                        have hro := OwnInts.row how
                        have HRO := Lib.hid hro
                        have HBE := Lib.hid (HBAF.out.trans (hbq.mono (by have := HBAF.out.size; exact this)))
                        subst hsy
                        clear hpe hro how hbq hnq hrq hsn hge
                        go_wp2
                        go_ret2
                        exact ⟨Xo, co, rfl, HRO.out, HBE.out⟩
                      · obtain ⟨h1, h2⟩ := HST1.out k' rfl
                        have hne : ((sn : Int) == (y : Int)) = false := by
                          rw [beq_eq_false_iff_ne]
                          intro e
                          have := HST0.out.1 (by rw [hsn]; exact e)
                          omega
                        have hil : (I pre).length = pre.length := List.length_map _
                        have hown2 : wr.ownsRow wy.heap.size 3 1 (.slice Xo pre.length co) (I pre).length (I pre) := by rw [hil]; exact how
                        have hszr : wy.heap.size ≤ wr.heap.size := hbq.size
                        rw [hsn] at h1 h2
                        have hpre2 : pre ++ [(sn : Int)] ++ cirGo g f k' sn = ll := by
                          rw [← HPRE.out]
                          show _ = pre ++ (stepTo g f a ((k' : Int) + 1) :: cirGo g f k' (stepTo g f a ((k' : Int) + 1)))
                          rw [h1]; simp
                        have HMIN2 := Lib.hid h2
                        have HPRE2 := Lib.hid hpre2
                        have HIL := Lib.hid hil
                        have HOWN2 := Lib.hid hown2
                        have HBE := Lib.hid hbq
                        clear h1 h2 hpre2 hil hown2 how hbq hnq hrq hsn hge
                        go_wp2_with (at_builtin; go_loud (refine app_new wy.heap.size (by rfl) _ _ 25 3 (.int .i64 0) 8 (by rfl) Try.underlying25 info_int rfl _ (I pre) (.int .i64 (sn : Int)) (by rfl) _ (by rfl) rfl rfl HOWN2.out hszr (by have := HIL.out; have := HPL.out; omega) (by have := HIL.out; have := HPL.out; omega) ?_; intro v5 w5 ho5 hg5 hb5 hs5; obtain ⟨X5, d5, rfl, _, _⟩ := own_rowS ho5; have HO5 := Lib.hid ho5; have HBE5 := Lib.hid (HBE.out.grown hg5 HBE.out.size (fun k e => (HOWN2.out.lt k e).1)); clear ho5 hg5 hb5 hs5))
                        go_roundw
                        case rel =>
                          refine ⟨k', sn, pre ++ [(sn : Int)], rfl, hsnr, HMIN2.out, HPRE2.out, ?_, HBE5.out⟩
                          rw [List.length_append, List.length_singleton, show I (pre ++ [(sn : Int)]) = I pre ++ [.int .i64 (sn : Int)] from List.map_append]
                          have h := HO5.out
                          rwa [HIL.out] at h
                        case measure =>
                          have := HIL.out
                          have := HPL.out
                          have := HLL2.out
                          simp only [lenV]
                          omega
      · rw [decide_eq_false hneg] at hcs
        have hlt : b0 < 0 := by omega
        have hk4 : kk = 4 := by rw [HKK.out, if_pos hlt]
        have hlle : ll = [] := by rw [HLL.out]; unfold cirL; rw [HE.out, ← hb0, if_pos hlt]; rfl
        subst hk4
        subst hlle
        have HBE := Lib.hid (HBX.out.bel.trans (HB4.out.mono (Nat.le_of_lt hbxl)))
        clear hb0 hlt
        go_wp2
        go_ret2
        exact rowErr_no HBE.out
  · have h1 : cirE g x = chkF g := by unfold cirE; rw [if_neg (by rw [← HCK.out]; exact hk)]
    have h2 : cirL g x = [] := by unfold cirL; rw [if_neg (by rw [h1, ← HCK.out]; exact hk)]
    have h3 := HKK.out.trans (h1.trans HCK.out.symm)
    obtain rfl := HLL.out.trans h2
    subst h3
    have hkb : (kk != 0) = true := by simpa using hk
    have HB1 := Lib.hid HBX.out.bel
    clear h1 h2
    go_wp2
    go_ret2
    exact rowErr_no HB1.out
end Go.Proofs.Ytpdfcffeinbcaaa
