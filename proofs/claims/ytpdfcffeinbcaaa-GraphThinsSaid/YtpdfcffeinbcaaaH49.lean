/- Who goes round: the program's Round, and its Components. -/
import Derived.Test.YtpdfcffeinbcaaaH47
import Derived.Test.YtpdfcffeinbcaaaH48
import Derived.Test.YtpdfcffeinbcaaaM2
import Derived.Test.YtpdfcffeinbcaaaH6
namespace Go.Proofs.Ytpdfcffeinbcaaa
open Go.RowKit
theorem contains_c {w : World} {X : Option Addr} {l : List Int} (d : Nat) (x : Int) (h : RowAt w X (I l)) (hl : l.length ≤ 9223372036854775807) :
    Calls Try.prog 83 #[.slice X l.length d, .int .i64 x] w fun e w' => e = .returned (.bool (l.contains x)) ∧ w' = w := by
  rcases h.ints with h | ⟨b, off, rfl, hb, hc⟩
  · subst h
    exact (Try.slices_Contains_int_empty X d x w).mono fun e w' h => by simpa using h
  · refine (Try.slices_Contains_int b off l.length d l x w (Nat.le_refl _) hl hc).mono fun e w' h => ?_
    rwa [List.take_length] at h
set_option maxHeartbeats 4000000 in
set_option maxRecDepth 100000 in
theorem round_c {g : XG} (hg : Good g) {w : World} {lo : Nat} {v : Value} (hl : NextAt w lo v g.n.toNat (fun i => nxt g i)) :
    Calls Try.prog 68 #[v] w fun e w' => ∃ X d, e = .returned (.slice X (roundL g).length d) ∧ RowAt w' X (I (roundL g)) ∧ Below w.heap.size w w' := by
  have hcm := comps_c hg hl
  have hl0 := hl
  obtain ⟨nb, dl, rfl, _, hnb, hrows⟩ := hl
  obtain ⟨n, hn⟩ : ∃ n : Nat, g.n.toNat = n := ⟨_, rfl⟩
  have hn4 : n ≤ 4096 := by have := hg.n1; have := hg.n0; omega
  rw [hn] at hcm hrows ⊢
  have HCM := Lib.hid hcm
  have HROWS := Lib.hid hrows
  have HN := Lib.hid hn
  clear hcm hrows hn hl0
  go_enter Try.func68, Try.ntmps68
  go_wp2_with fail
  go_at_call 67
  refine HCM.out.mono ?_
  rintro e w1 ⟨v1, rfl, hb1, X1, d1, rfl, hc1⟩
  have HB1 := Lib.hid hb1
  have HC1 := Lib.hid hc1
  obtain ⟨m, hm⟩ : ∃ m, m = (compsF g).length := ⟨_, rfl⟩
  have hm4 : m ≤ 4096 := by have := compsTo_length g g.n.toNat; have := HN.out; unfold compsF at hm; omega
  rw [← hm]
  have HM := Lib.hid hm
  clear hb1 hc1 hm
  go_wp2
  go_loopw [3, 9] (fun o i wr => ∃ j : Nat, i = .int .i64 j ∧ j ≤ m ∧ wr.ownsRow w1.heap.size 3 1 o (selTo g j).length (I (selTo g j)) ∧ Below w1.heap.size w1 wr) (fun _ i _ => m - (intOf i).toNat)
  case atStart => exact ⟨0, rfl, by omega, by simpa [selTo] using own_none _ _ _ _, Below.refl _ _⟩
  case round =>
    obtain ⟨j, rfl, hj, hown, hbe⟩ := hrel
    have hll := sel_length g j
    rw [HN.out] at hll
    by_cases hlt : j < m
    · have hj0 : (0 : Int) ≤ (j : Int) := by omega
      have hj1 : (j : Int) < (m : Int) := by omega
      have hjl : j < (compsF g).length := by have := HM.out; omega
      obtain ⟨cb, Y, dY, rfl, _, hcbl, hcY0, hrY0, _⟩ := HC1.out j hjl
      have hsucc := selTo_succ hjl
      have hgd : (compsF g).getD j [] = (compsF g)[j] := by simp [List.getD, hjl]
      obtain ⟨hbh, hnil, hhd⟩ := comp_by_head (List.getElem_mem hjl)
      clear hbh
      have hcl : ((compsF g)[j]).length ≤ n := by
        obtain ⟨i, _, _, e⟩ := mem_comps.1 (show (compsF g)[j] ∈ compsTo g g.n.toNat from List.getElem_mem hjl)
        rw [e]
        exact nodup_len n _ (rising_nodup (compRow_rising _ _)) (fun y hy => by have := (mem_compRow.1 hy).1; have := HN.out; omega)
      have hcY0 : w1.cell? ⟨cb, j, none⟩ = some (.slice Y ((compsF g)[j]).length dY) := by rw [← hgd]; exact hcY0
      have hrY0 : RowAt w1 Y (I (compsF g)[j]) := by rw [← hgd]; exact hrY0
      obtain ⟨c, hc⟩ : ∃ c, c = (compsF g)[j] := ⟨_, rfl⟩
      rw [← hc] at hsucc hnil hhd hcl hcY0 hrY0
      have hcY := (hbe.cell (p := ⟨cb, j, none⟩) hcbl).trans hcY0
      have hrY := hrY0.below hbe
      have hil : (I (selTo g j)).length = (selTo g j).length := List.length_map _
      have hown2 : wr.ownsRow w1.heap.size 3 1 u3 (I (selTo g j)).length (I (selTo g j)) := by rw [hil]; exact hown
      have hsz : w1.heap.size ≤ wr.heap.size := hbe.size
      have hone : ∀ u ∈ I c, u.oneCell' = true := fun u hu => by
        obtain ⟨x, _, rfl⟩ := List.mem_map.1 hu; rfl
      have HOWN := Lib.hid hown
      have HOWN2 := Lib.hid hown2
      have HBE := Lib.hid hbe
      have HSUCC := Lib.hid hsucc
      have HIL := Lib.hid hil
      have HRY := Lib.hid hrY
      have HNIL := Lib.hid hnil
      have HHD := Lib.hid hhd
      have HONE := Lib.hid hone
      have hci : c.length = (I c).length := (List.length_map _).symm
      have HCI := Lib.hid hci
      have HLL := Lib.hid hll
      have HCL := Lib.hid hcl
      clear hci hown hown2 hbe hsucc hil hrY hnil hhd hone hcY0 hrY0 hgd hjl hc hll hcl
      by_cases hlen : 1 < c.length
      · have hgt : (1 : Int) < (c.length : Int) := by omega
        have hsel : selC g c = true := by unfold selC; simp [hlen]
        have HSEL := Lib.hid hsel
        clear hsel
        go_upto_region 5 with (fail)
        go_quiet (fail)
        go_wp2_with (at_builtin; go_loud (refine app_row w1.heap.size (by rfl) _ _ 25 3 (.int .i64 0) 8 (by rfl) Try.underlying25 info_int rfl _ (I (selTo g j)) (by rfl) Y c.length dY (I c) (by rfl) HCI.out HRY.out HONE.out HOWN2.out hsz (by have := HIL.out; have := HLL.out; have := HCL.out; omega) (by have := HIL.out; have := HLL.out; have := HCL.out; omega) ?_; intro v5 w5 ho5 hg5 hb5; have HO5 := Lib.hid ho5; have HG5 := Lib.hid hg5; clear ho5 hg5 hb5))
        go_roundw
        case rel =>
          refine ⟨j + 1, by go_num, by omega, ?_, (HBE.out.trans (below_drewN (Below.refl _ _) _)).grown HG5.out HBE.out.size (fun k e => (HOWN.out.lt k e).1)⟩
          rw [HSUCC.out, if_pos HSEL.out, List.length_append, show I (selTo g j ++ c) = I (selTo g j) ++ I c from List.map_append]
          have h := HO5.out
          rwa [HIL.out] at h
        case measure => simp [intOf]; omega
      · obtain ⟨x, rfl⟩ : ∃ x, c = [x] := by
          cases c with
          | nil => exact absurd rfl HNIL.out
          | cons a l => exact ⟨a, by rw [List.eq_nil_of_length_eq_zero (show l.length = 0 by have : (a :: l).length = l.length + 1 := rfl; omega)]⟩
        obtain ⟨y, rfl⟩ : ∃ y : Nat, x = (y : Int) := ⟨x.toNat, by have := HHD.out; simp only [hd, List.headD_cons] at this; omega⟩
        have hyn : y < n := by have := HHD.out; have := HN.out; simp only [hd, List.headD_cons] at *; omega
        have hy0 : (0 : Int) ≤ (y : Int) := by omega
        have hy1 : (y : Int) < (n : Int) := by omega
        obtain ⟨bc, oc, rfl, hcy⟩ := HRY.out.int (show 0 < [(y : Int)].length by simp)
        simp only [List.getElem_cons_zero, Nat.add_zero] at hcy
        simp only [List.length_cons, List.length_nil, Nat.zero_add] at hcY
        obtain ⟨Z, dZ, hcZ0, hrZ0, _⟩ := HROWS.out y hyn
        have hbw : Below w.heap.size w wr := HB1.out.trans (HBE.out.mono HB1.out.size)
        have hcZ := (hbw.cell (p := ⟨nb, y, none⟩) hnb).trans hcZ0
        have hrZ := hrZ0.below hbw
        have hsel : selC g [(y : Int)] = (nxt g y).contains (y : Int) := by
          unfold selC
          simp [hd]
        have hnl := nxt_length g y
        have hlen2 := hg.len
        obtain ⟨b, hb⟩ : ∃ b, b = (nxt g y).contains (y : Int) := ⟨_, rfl⟩
        rw [← hb] at hsel
        have hcon : ∀ q, Calls Try.prog 83 #[.slice Z (nxt g y).length dZ, .int .i64 (y : Int)] (wr.drewN q) fun e w' => e = .returned (.bool b) ∧ w' = wr.drewN q := fun q => by
          rw [hb]
          exact contains_c dZ (y : Int) (hrZ.below (below_drewN (Below.refl _ _) _)) (by omega)
        have HCON := Lib.hid hcon
        have HSEL := Lib.hid hsel
        have HRZ := Lib.hid hrZ
        clear hcon hsel hrZ hcZ0 hrZ0 hb hnl hlen2 hbw hlen
        have hgt : ¬ (1 : Int) < 1 := by omega
        go_upto_region 5 with (fail)
        go_quiet ((first | (go_at_call 83; exact Calls.quiet_of_same (HCON.out _))))
        cases b with
        | true =>
          go_wp2_with (at_builtin; go_loud (refine app_row w1.heap.size (by rfl) _ _ 25 3 (.int .i64 0) 8 (by rfl) Try.underlying25 info_int rfl _ (I (selTo g j)) (by rfl) (some ⟨bc, oc, none⟩) 1 dY (I [(y : Int)]) (by rfl) HCI.out HRY.out HONE.out HOWN2.out hsz (by have := HIL.out; have := HLL.out; have := HCL.out; simp; omega) (by have := HIL.out; have := HLL.out; have := HCL.out; simp; omega) ?_; intro v5 w5 ho5 hg5 hb5; have HO5 := Lib.hid ho5; have HG5 := Lib.hid hg5; clear ho5 hg5 hb5))
          go_roundw
          case rel =>
            refine ⟨j + 1, by go_num, by omega, ?_, (HBE.out.trans (below_drewN (Below.refl _ _) _)).grown HG5.out HBE.out.size (fun k e => (HOWN.out.lt k e).1)⟩
            rw [HSUCC.out, if_pos HSEL.out, List.length_append, show I (selTo g j ++ [(y : Int)]) = I (selTo g j) ++ I [(y : Int)] from List.map_append]
            have h := HO5.out
            rwa [HIL.out] at h
          case measure => simp [intOf]; omega
        | false =>
          go_wp2
          go_roundw
          case rel => exact ⟨j + 1, by go_num, by omega, by rw [HSUCC.out, if_neg (by rw [HSEL.out]; simp)]; exact HOWN.out, HBE.out.trans (below_drewN (Below.refl _ _) _)⟩
          case measure => simp [intOf]; omega
    · have hge : ¬ (j : Int) < (m : Int) := by omega
      obtain rfl : j = m := by omega
      have hres := sel_round hg
      rw [← HM.out] at hres
      have hsort := sort_c hown (by omega)
      rw [hres] at hsort
      have hbw := HB1.out.trans (hbe.mono HB1.out.size)
      have hlen : (selTo g j).length = (roundL g).length := by rw [← hres, sortI_length]
      rw [hlen] at hsort
      have HSORT := Lib.hid hsort
      have HBW := Lib.hid hbw
      have HOWN := Lib.hid hown
      have HB1S := Lib.hid HB1.out.size
      clear hsort hbw hown hbe hres hlen hll
      go_wp2_with fail
      go_at_call 52
      refine HSORT.out.mono ?_
      rintro e ws ⟨rfl, ho, hgr⟩
      obtain ⟨X, d, rfl, hrX, _, _⟩ := own_rowS ho
      have HRX := Lib.hid hrX
      have HB9 := Lib.hid (HBW.out.grown hgr HBW.out.size (fun k e => by have := (HOWN.out.lt k e).1; have := HB1S.out; omega))
      clear ho hgr hrX
      go_wp2
      refine bodyPost_ret (v := .slice X (roundL g).length d) (by simp [results, Try.results68, go_sem]) rfl ?_
      exact ⟨X, d, rfl, HRX.out, HB9.out⟩
set_option maxHeartbeats 2000000 in
theorem ground_c (g : XG) (E : Option Addr) (d : Nat) (w : World) (h : GAt w E g) (hl : g.es.length ≤ 4611686018427387904) :
    Calls Try.prog 37 #[g.val E d] w (RowErr (roundL g) (chkF g) w) := by
  have hck := fun W h => check_c g E d W h hl
  have hnx := fun W h hg => next_c g E d W h hg
  have hbx := box_at (w := w) (t := 24) g E d
  have hv : g.val E d = .agg #[.int .i64 g.n, .slice E g.es.length d] := rfl
  rw [hv] at hck hnx ⊢
  have HCK := Lib.hid hck
  have HNX := Lib.hid hnx
  have HG := Lib.hid h
  obtain ⟨kk, hkk⟩ : ∃ kk, kk = chkF g := ⟨_, rfl⟩
  obtain ⟨rl, hrl⟩ : ∃ rl, rl = roundL g := ⟨_, rfl⟩
  rw [← hkk, ← hrl]
  have HKK := Lib.hid hkk
  have HRL := Lib.hid hrl
  clear hck hnx hv h hkk hrl
  go_enter Try.func37, Try.ntmps37
  go_wp2_with fail
  go_at_call 14
  refine (HCK.out _ (HG.out.below hbx.bel)).mono ?_
  rintro e w1 ⟨rfl, hb1⟩
  rw [← HKK.out]
  have hbx1 := hbx.below hb1
  have c0 := hbx1.c0
  have c1 := hbx1.c1
  have HBX1 := Lib.hid hbx1
  clear hbx1 hbx hb1
  by_cases hk : kk = 0
  · subst hk
    have hgood := chkF_good.1 HKK.out.symm
    have HGOOD := Lib.hid hgood
    clear hgood
    go_wp2_with fail
    go_at_call 48
    refine (HNX.out _ (HG.out.below HBX1.out.bel) HGOOD.out).mono ?_
    rintro e w3 ⟨v, rfl, hn3, hb3⟩
    have hin := round_c HGOOD.out hn3
    rw [← HRL.out] at hin
    have HB3 := Lib.hid (HBX1.out.below hb3).bel
    have HIN := Lib.hid hin
    have HSZ := Lib.hid (HBX1.out.below hb3).lt
    clear hn3 hb3 hin
    go_wp2_with fail
    go_at_call 68
    refine HIN.out.mono ?_
    rintro e w4 ⟨X, d4, rfl, hr4, hb4⟩
    have HR4 := Lib.hid hr4
    have HB4 := Lib.hid (HB3.out.trans (hb4.mono HB3.out.size))
    clear hr4 hb4
    go_wp2
    go_ret2
    exact ⟨X, d4, rfl, HR4.out, HB4.out⟩
  · have hkb : (kk != 0) = true := by simpa using hk
    go_wp2
    go_ret2
    have h0 : roundL g = [] := by unfold roundL; rw [if_neg (by rw [← HKK.out]; exact hk)]
    obtain rfl := HRL.out.trans h0
    exact rowErr_no HBX1.out.bel
def GComps (g : XG) (w : World) (e : Ending) (w' : World) : Prop := ∃ v, e = .returned (.tuple #[v, .int .i64 (chkF g)]) ∧ Below w.heap.size w w' ∧ (chkF g = 0 → RowsAt w' w.heap.size v (compsF g).length (fun i => (compsF g).getD i [])) ∧ (chkF g ≠ 0 → v = .slice none 0 0)
set_option maxHeartbeats 2000000 in
theorem gcomps_c (g : XG) (E : Option Addr) (d : Nat) (w : World) (h : GAt w E g) (hl : g.es.length ≤ 4611686018427387904) :
    Calls Try.prog 35 #[g.val E d] w (GComps g w) := by
  have hck := fun W h => check_c g E d W h hl
  have hnx := fun W h hg => next_c g E d W h hg
  have hbx := box_at (w := w) (t := 24) g E d
  have hv : g.val E d = .agg #[.int .i64 g.n, .slice E g.es.length d] := rfl
  rw [hv] at hck hnx ⊢
  have HCK := Lib.hid hck
  have HNX := Lib.hid hnx
  have HG := Lib.hid h
  obtain ⟨kk, hkk⟩ : ∃ kk, kk = chkF g := ⟨_, rfl⟩
  have HKK := Lib.hid hkk
  clear hck hnx hv h hkk
  go_enter Try.func35, Try.ntmps35
  go_wp2_with fail
  go_at_call 14
  refine (HCK.out _ (HG.out.below hbx.bel)).mono ?_
  rintro e w1 ⟨rfl, hb1⟩
  rw [← HKK.out]
  have hbx1 := hbx.below hb1
  have c0 := hbx1.c0
  have c1 := hbx1.c1
  have HBX1 := Lib.hid hbx1
  clear hbx1 hbx hb1
  by_cases hk : kk = 0
  · subst hk
    have hgood := chkF_good.1 HKK.out.symm
    have HGOOD := Lib.hid hgood
    clear hgood
    go_wp2_with fail
    go_at_call 48
    refine (HNX.out _ (HG.out.below HBX1.out.bel) HGOOD.out).mono ?_
    rintro e w3 ⟨v, rfl, hn3, hb3⟩
    have hin := comps_c HGOOD.out hn3
    have HB3 := Lib.hid (HBX1.out.below hb3).bel
    have HIN := Lib.hid hin
    have HSZ := Lib.hid (HBX1.out.below hb3).lt
    clear hn3 hb3 hin
    go_wp2_with fail
    go_at_call 67
    refine HIN.out.mono ?_
    rintro e w4 ⟨v4, rfl, hb4, hr4⟩
    have HR4 := Lib.hid hr4
    have HB4 := Lib.hid (HB3.out.trans (hb4.mono HB3.out.size))
    clear hr4 hb4
    go_wp2
    go_ret2
    obtain ⟨X, d, rfl, h⟩ := HR4.out
    refine ⟨_, by rw [← HKK.out]; rfl, HB4.out, fun _ => ?_, fun h => absurd HKK.out.symm h⟩
    refine ⟨X, d, rfl, fun i hi => ?_⟩
    obtain ⟨b, Y, d', h1, h2, h3, h4, h5, h6⟩ := h i hi
    have := HB3.out.size
    exact ⟨b, Y, d', h1, by omega, h3, h4, h5, fun b' o e => by have := h6 b' o e; omega⟩
  · have hkb : (kk != 0) = true := by simpa using hk
    go_wp2
    go_ret2
    exact ⟨_, by rw [← HKK.out]; rfl, HBX1.out.bel, fun h => absurd (HKK.out.trans h) hk, fun _ => rfl⟩
end Go.Proofs.Ytpdfcffeinbcaaa
