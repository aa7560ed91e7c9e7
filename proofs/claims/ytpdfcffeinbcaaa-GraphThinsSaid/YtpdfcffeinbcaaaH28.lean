/- Round: the document's. -/
import Derived.Test.YtpdfcffeinbcaaaH27
namespace Go.Proofs.Ytpdfcffeinbcaaa
open Go.RowKit
def rowB (l : List Int) (k : Nat) (x : Nat) : Bool := decide (1 < l.length) && decide ((x : Int) ∈ l.take k)
def anyB (cs : List (List Int)) (x : Nat) : Bool := cs.any fun l => rowB l l.length x
def selfB (es : List (Int × Int)) (x : Nat) : Bool := es.any fun e => decide (e.1 = e.2) && decide (e.1 = (x : Int))
theorem rowB_zero (l : List Int) (x : Nat) : rowB l 0 x = false := by unfold rowB; simp
theorem rowB_done {l : List Int} {k : Nat} (h : l.length ≤ k) (x : Nat) : rowB l k x = rowB l l.length x := by unfold rowB; rw [List.take_of_length_le h, List.take_of_length_le (Nat.le_refl _)]
theorem rowB_small {l : List Int} (h : ¬ 1 < l.length) (k : Nat) (x : Nat) : rowB l k x = false := by unfold rowB; simp [h]
theorem rowB_next {l : List Int} {k y : Nat} (h1 : 1 < l.length) (hk : k < l.length) (hy : l[k] = (y : Int)) (x : Nat) : rowB l (k + 1) x = if x = y then true else rowB l k x := by
  unfold rowB
  rw [List.take_succ_eq_append_getElem hk, hy]
  by_cases e : x = y
  · subst e; simp [h1]
  · have : ¬ (x : Int) = (y : Int) := by omega
    simp [e, h1, this]
theorem anyB_succ {cs : List (List Int)} {i : Nat} (hi : i < cs.length) (x : Nat) : anyB (cs.take (i + 1)) x = (anyB (cs.take i) x || rowB cs[i] cs[i].length x) := by
  unfold anyB
  rw [List.take_succ_eq_append_getElem hi, List.any_append]
  simp
theorem selfB_succ {es : List (Int × Int)} {j : Nat} (hj : j < es.length) (x : Nat) : selfB (es.take (j + 1)) x = (selfB (es.take j) x || (decide (es[j].1 = es[j].2) && decide (es[j].1 = (x : Int)))) := by
  unfold selfB
  rw [List.take_succ_eq_append_getElem hj, List.any_append]
  simp
theorem round_all {g : XG} (hg : Good g) : toldL (fun x => anyB (compsF g) x || selfB g.es x) g.n.toNat = roundL g := by
  refine rising_ext (toldL_rising _ _) ?_ (fun x => ?_)
  · unfold roundL; split
    · exact toldL_rising _ _
    · simp
  · rw [mem_roundL hg, mem_toldL]
    have key : ∀ y : Nat, (y : Int) < g.n → ((anyB (compsF g) y || selfB g.es y) = true ↔ TG g y y) := fun y hy => by
      rw [goes_iff hg ⟨by omega, hy⟩, Bool.or_eq_true]
      refine or_congr ?_ ?_
      · unfold anyB
        rw [List.any_eq_true]
        refine exists_congr fun l => and_congr Iff.rfl ?_
        unfold rowB
        rw [List.take_of_length_le (Nat.le_refl _), Bool.and_eq_true, decide_eq_true_eq, decide_eq_true_eq]
      · unfold selfB Edg
        rw [List.any_eq_true]
        constructor
        · rintro ⟨⟨a, b⟩, h1, h2⟩
          rw [Bool.and_eq_true, decide_eq_true_eq, decide_eq_true_eq] at h2
          obtain ⟨h3, h4⟩ := h2
          simp only at h3 h4
          rw [← h3, h4] at h1
          exact h1
        · intro h; exact ⟨_, h, by simp⟩
    constructor
    · rintro ⟨h0, h1, h2⟩
      have hn := hg.n0
      have := (key x.toNat (by omega)).1 h2
      rwa [Int.toNat_of_nonneg h0] at this
    · intro h
      have hr := (tg_in hg h).1
      refine ⟨hr.1, by omega, (key x.toNat (by omega)).2 ?_⟩
      rw [Int.toNat_of_nonneg hr.1]
      exact h
set_option maxHeartbeats 4000000 in
set_option maxRecDepth 100000 in
theorem rround_c (g : XG) (E : Option Addr) (d : Nat) (w : World) (h : GAt w E g) (hl : g.es.length ≤ 4611686018427387904) :
    Calls Try.prog 38 #[g.val E d] w (RowErr (roundL g) (chkF g) w) := by
  have hcm := fun W h => rcomps_c g E d W h hl
  have hbx := box_at (w := w) (t := 24) g E d
  have hv : g.val E d = .agg #[.int .i64 g.n, .slice E g.es.length d] := rfl
  rw [hv] at hcm ⊢
  have HCM := Lib.hid hcm
  have HG := Lib.hid h
  obtain ⟨kk, hkk⟩ : ∃ kk, kk = chkF g := ⟨_, rfl⟩
  have HKK := Lib.hid hkk
  clear hcm hv h
  rw [← hkk]
  clear hkk
  go_enter Try.func38, Try.ntmps38
  go_wp2_with fail
  go_at_call 36
  refine (HCM.out _ (HG.out.below hbx.bel)).mono ?_
  rintro e w1 ⟨v, rfl, hb1, hnx⟩
  rw [← HKK.out]
  have hbx1 := hbx.below hb1
  by_cases hk : kk = 0
  · subst hk
    have hgood := chkF_good.1 HKK.out.symm
    obtain ⟨n, hn⟩ : ∃ n : Nat, g.n = n := ⟨g.n.toNat, by have := hgood.n0; omega⟩
    have hnn : g.n.toNat = n := by omega
    have hn4 : n ≤ 4096 := by have := hgood.n1; omega
    have hlen := hgood.len
    obtain ⟨m, hm⟩ : ∃ m, m = (compsF g).length := ⟨_, rfl⟩
    have hmn : m ≤ n := by rw [hm, ← hnn]; exact compsTo_length g _
    obtain ⟨lb, ld, rfl, hlo, hlbw, hrows⟩ := hnx HKK.out.symm
    rw [← hm] at hrows ⊢
    have hmk : ∀ W : World, (Instr.makeSlice 49 (.int .i64 (n : Int)) (.int .i64 (n : Int))).run Try.prog W = .ok (.slice (some ⟨W.heap.size, 0, none⟩) n n) (W.alloc (.cells (madeCells #[.bool false] n) 4)) :=
      fun W => run_make_row' 49 4 (.bool false) 1 Try.underlying49 info_bool rfl .i64 .i64 n (by omega) (by omega) W
    have c0 : w1.cell? ⟨w.heap.size, 0, none⟩ = some (.int .i64 (n : Int)) := by rw [← hn]; exact hbx1.c0
    rw [hn]
    have HBX := Lib.hid hbx1
    have HROWS := Lib.hid hrows
    have HGOOD := Lib.hid hgood
    have HN := Lib.hid hn
    have HNN := Lib.hid hnn
    have HM := Lib.hid hm
    have hbw : w.heap.size < w1.heap.size := hbx1.lt
    clear hrows hgood hn hnn hm hnx hbx1 hbx hb1
    go_upto_region 5 with (fail)
    obtain ⟨w2, hw2⟩ : ∃ w2, w2 = w1.alloc (.cells (madeCells #[.bool false] n) 4) := ⟨_, rfl⟩
    obtain ⟨fb, hfb⟩ : ∃ fb, fb = w1.heap.size := ⟨_, rfl⟩
    have hf0 : FlagAt w2 fb n (fun x => anyB ((compsF g).take 0) x) := by
      rw [hw2, hfb]
      exact (flag_made w1 n _).congr (fun i _ => by simp [anyB])
    have hb2 : Below w1.heap.size w1 w2 := by rw [hw2]; exact (Below.refl _ _).alloc (Nat.le_refl _) _
    rw [← hw2, ← hfb]
    have HF0 := Lib.hid hf0
    have HB2 := Lib.hid hb2
    have hfbw : w1.heap.size ≤ fb := by omega
    have HFB := Lib.hid hfb
    clear hw2 hfb hf0 hb2
    go_wp2
    go_loopw [7] (fun i wr => ∃ j : Nat, i = .int .i64 j ∧ j ≤ m ∧ FlagAt wr fb n (fun x => anyB ((compsF g).take j) x) ∧ Below w1.heap.size w1 wr) (fun i _ => m - (intOf i).toNat)
    case atStart => exact ⟨0, rfl, by omega, HF0.out, HB2.out⟩
    case round =>
      obtain ⟨j, rfl, hj, hfl, hbel⟩ := hrel
      by_cases hlt : j < m
      · have hj0 : (0 : Int) ≤ (j : Int) := by omega
        have hj1 : (j : Int) < (m : Int) := by omega
        obtain ⟨Y, dY, hcY, hrY, _⟩ := HROWS.out j hlt
        have hjl : j < (compsF g).length := by have := HM.out; omega
        obtain ⟨l, hl'⟩ : ∃ l, l = (compsF g)[j] := ⟨_, rfl⟩
        have hgd : (compsF g).getD j [] = l := by rw [hl']; simp [List.getD, hjl]
        have hcY' : w1.cell? ⟨lb, j, none⟩ = some (.slice Y l.length dY) := by rw [← hgd]; exact hcY
        have hrY' : RowAt w1 Y (I l) := by rw [← hgd]; exact hrY
        have hlr : (∀ y ∈ l, 0 ≤ y ∧ y < (n : Int)) ∧ l.length ≤ n := by
          obtain ⟨i, _, _, e⟩ := mem_comps.1 (show l ∈ compsTo g g.n.toNat by rw [hl']; exact List.getElem_mem hjl)
          have h1 : ∀ y ∈ l, 0 ≤ y ∧ y < (n : Int) := fun y hy => by
            rw [e] at hy
            have := (mem_compRow.1 hy).1
            rwa [HNN.out] at this
          exact ⟨h1, nodup_len n l (by rw [e]; exact rising_nodup (compRow_rising _ _)) h1⟩
        have hll := hlr.2
        have hsucc := fun x => anyB_succ hjl x
        rw [← hl'] at hsucc
        have HRY := Lib.hid hrY'
        have HCY := Lib.hid hcY'
        have HLR := Lib.hid hlr.1
        have HSC := Lib.hid hsucc
        have HFL := Lib.hid hfl
        have HBEL := Lib.hid hbel
        clear hcY hrY hcY' hrY' hgd hl' hlr hsucc hfl hbel
        go_wp2
        go_loopw [8] (fun i wr => ∃ k : Nat, i = .int .i64 k ∧ k ≤ l.length ∧ FlagAt wr fb n (fun x => anyB ((compsF g).take j) x || rowB l k x) ∧ Below w1.heap.size w1 wr) (fun i _ => l.length - (intOf i).toNat)
        case atStart => exact ⟨0, rfl, by omega, HFL.out.congr (fun x _ => by rw [rowB_zero, Bool.or_false]), HBEL.out⟩
        case round =>
          obtain ⟨k, rfl, hk, hfl, hbel⟩ := hrel
          have hcY := (hbel.cell (p := ⟨lb, j, none⟩) hlbw).trans HCY.out
          have done : ∀ wq, FlagAt wq fb n (fun x => anyB ((compsF g).take j) x || rowB l k x) → (∀ x, rowB l k x = rowB l l.length x) → FlagAt wq fb n (fun x => anyB ((compsF g).take (j + 1)) x) := fun wq h1 h2 => h1.congr (fun x _ => by rw [HSC.out, h2])
          have DN := Lib.hid done
          have HFL := Lib.hid hfl
          have HBEL := Lib.hid hbel
          clear done
          have hk0 : (0 : Int) ≤ (k : Int) := by omega
          by_cases h1 : 1 < l.length
          · have h1i : (1 : Int) < (l.length : Int) := by omega
            by_cases hkl : k < l.length
            · have hk1 : (k : Int) < (l.length : Int) := by omega
              obtain ⟨b, off, rfl, hck⟩ := (HRY.out.below hbel).int hkl
              have hyr := HLR.out _ (List.getElem_mem hkl)
              obtain ⟨y, hy⟩ : ∃ y : Nat, l[k] = (y : Int) := ⟨l[k].toNat, by omega⟩
              have hnx := rowB_next h1 hkl hy
              rw [hy] at hck hyr
              have hyn : y < n := by omega
              have hy0 : (0 : Int) ≤ (y : Int) := by omega
              have hy1 : (y : Int) < (n : Int) := by omega
              have hcy : wr.cell? ⟨fb, y, none⟩ = some _ := hfl.2.1 y hyn
              have hfy := hfl.2.2 y
              have HPUT := Lib.hid (hfl.put (g := fun x => anyB ((compsF g).take j) x || rowB l (k + 1) x) (y := true) hyn (fun x _ => by rw [hnx]; split <;> simp))
              clear hy hnx hfl hbel
              go_wp2
              go_roundw
              case rel => exact ⟨k + 1, by go_num, by omega, HPUT.out, HBEL.out.setCell hfbw _⟩
              case measure => simp [intOf]; omega
            · have hge : ¬ (k : Int) < (l.length : Int) := by omega
              clear hfl hbel
              go_wp2
              go_roundw
              case rel => exact ⟨j + 1, by go_num, by omega, DN.out _ HFL.out (fun x => rowB_done (by omega) x), HBEL.out⟩
              case measure => simp [intOf]; omega
          · have h1i : ¬ (1 : Int) < (l.length : Int) := by omega
            have hend : ∀ x, rowB l k x = rowB l l.length x := fun x => by rw [rowB_small h1, rowB_small h1]
            have HE := Lib.hid hend
            clear hfl hbel hend
            by_cases hkl : k < l.length
            · have hk1 : (k : Int) < (l.length : Int) := by omega
              go_wp2
              go_roundw
              case rel => exact ⟨j + 1, by go_num, by omega, DN.out _ HFL.out HE.out, HBEL.out⟩
              case measure => simp [intOf]; omega
            · have hge : ¬ (k : Int) < (l.length : Int) := by omega
              go_wp2
              go_roundw
              case rel => exact ⟨j + 1, by go_num, by omega, DN.out _ HFL.out HE.out, HBEL.out⟩
              case measure => simp [intOf]; omega
      · have hge : ¬ (j : Int) < (m : Int) := by omega
        have hfin := hfl.congr (g := fun x => anyB (compsF g) x || selfB (g.es.take 0) x) (fun x _ => by rw [show (compsF g).take j = compsF g from List.take_of_length_le (by have := HM.out; omega)]; simp [selfB])
        have HFL := Lib.hid hfin
        have HBEL := Lib.hid hbel
        clear hfl hbel hfin
        go_wp2
        go_loopw [9] (fun i wr => ∃ j : Nat, i = .int .i64 j ∧ j ≤ g.es.length ∧ FlagAt wr fb n (fun x => anyB (compsF g) x || selfB (g.es.take j) x) ∧ Below w1.heap.size w1 wr) (fun i _ => g.es.length - (intOf i).toNat)
        case atStart => exact ⟨0, rfl, by omega, HFL.out, HBEL.out⟩
        case round =>
          obtain ⟨j, rfl, hj, hfl, hbel⟩ := hrel
          have c1 := (hbel.cell (p := ⟨w.heap.size, 1, none⟩) hbw).trans HBX.out.c1
          by_cases hlt : j < g.es.length
          · have hj0 : (0 : Int) ≤ (j : Int) := by omega
            have hj1 : (j : Int) < (g.es.length : Int) := by omega
            obtain ⟨b, off, rfl, hbl, ha, hb⟩ := (HG.out.below (HBX.out.bel.trans (hbel.mono (by omega)))).edge hlt
            have hall := HGOOD.out.all _ (List.getElem_mem hlt)
            have hss := selfB_succ hlt
            obtain ⟨x, hx⟩ : ∃ x : Nat, g.es[j].1 = (x : Int) := ⟨g.es[j].1.toNat, by omega⟩
            obtain ⟨y, hy⟩ : ∃ y, y = g.es[j].2 := ⟨_, rfl⟩
            rw [hx] at ha hall hss
            rw [← hy] at hb hss
            have hxn : x < n := by have := HN.out; omega
            have hx0 : (0 : Int) ≤ (x : Int) := by omega
            have hx1 : (x : Int) < (n : Int) := by omega
            have hcx : wr.cell? ⟨fb, x, none⟩ = some _ := hfl.2.1 x hxn
            have hfx := hfl.2.2 x
            have HFL := Lib.hid hfl
            have HBEL := Lib.hid hbel
            have HSS := Lib.hid hss
            clear hss hfl hbel hx hy hall
            by_cases hxy : (x : Int) = y
            · have hbb : ((x : Int) == y) = true := by rw [hxy]; simp
              have HPUT := Lib.hid fun q => ((HFL.out.drewN q).put (g := fun z => anyB (compsF g) z || selfB (g.es.take (j + 1)) z) (y := true) hxn (fun z _ => by
                rw [HSS.out, hxy]
                by_cases e : z = x
                · subst e; simp [hxy]
                · have : ¬ y = (z : Int) := by omega
                  simp [e, this]))
              clear hxy
              go_wp2_with fail
              go_quiet (fail)
              go_wp2
              go_roundw
              case rel => exact ⟨j + 1, by go_num, by omega, HPUT.out _, (HBEL.out.trans (below_drewN (Below.refl _ _) _)).setCell hfbw _⟩
              case measure => simp [intOf]; omega
            · have hbb : ((x : Int) == y) = false := by simpa using hxy
              have HSAME := Lib.hid fun q => ((HFL.out.drewN q).congr (g := fun z => anyB (compsF g) z || selfB (g.es.take (j + 1)) z) (fun z _ => by rw [HSS.out]; simp [hxy]))
              clear hxy
              go_wp2_with fail
              go_quiet (fail)
              go_wp2
              go_roundw
              case rel => exact ⟨j + 1, by go_num, by omega, HSAME.out _, HBEL.out.trans (below_drewN (Below.refl _ _) _)⟩
              case measure => simp [intOf]; omega
          · have hge : ¬ (j : Int) < (g.es.length : Int) := by omega
            rw [show g.es.take j = g.es from List.take_of_length_le (by omega)] at hfl
            have htd := told_c (d := n) hn4 hfl.1 hfl.2.1
            rw [← HNN.out, round_all HGOOD.out, HNN.out] at htd
            have HTD := Lib.hid htd
            have HB9 := Lib.hid (HBX.out.bel.trans (hbel.mono (by omega)))
            clear htd hfl hbel
            go_wp2_with (go_at_call 54; refine HTD.out.mono ?_; rintro e w4 ⟨Y, dY, rfl, ho4, hb4⟩)
            go_ret2
            exact ⟨Y, dY, rfl, OwnInts.row ho4, HB9.out.trans (hb4.mono HB9.out.size)⟩
  · have hkb : (kk != 0) = true := by simpa using hk
    have hL : roundL g = [] := by unfold roundL; rw [if_neg (by rw [← HKK.out]; exact hk)]
    have HP : Hid (RowErr (roundL g) kk w (.returned (.tuple #[.slice none 0 0, .int .i64 kk])) w1) := Lib.hid (by rw [hL]; exact rowErr_no hbx1.bel)
    clear hbx1 hbx hb1 hnx hL
    go_wp2
    go_ret2
    exact HP.out
end Go.Proofs.Ytpdfcffeinbcaaa
