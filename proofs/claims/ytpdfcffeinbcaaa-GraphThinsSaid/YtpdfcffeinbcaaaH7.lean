/- Reach: the program's. -/
import Derived.Test.YtpdfcffeinbcaaaH6
namespace Go.Proofs.Ytpdfcffeinbcaaa
open Go.RowKit
def reachE (g : XG) (src : List Int) : Int := if chkF g = 0 then if 4096 < src.length then 3 else if src.all (nodeB g.n) = true then 0 else 1 else chkF g
def reachL (g : XG) (src : List Int) : List Int := if reachE g src = 0 then sortI (bfsF (nxt g) g.n.toNat src) else []
theorem nxt_in {g : XG} (hg : Good g) : ∀ i, i < g.n.toNat → ∀ y ∈ nxt g i, 0 ≤ y ∧ y < (g.n.toNat : Int) := fun i _ y hy => by
  have := hg.all _ (mem_nxt.1 hy)
  have := hg.n0
  omega
theorem bfs_nxt {g : XG} (hg : Good g) {src : List Int} (hs : ∀ x ∈ src, 0 ≤ x ∧ x < g.n) : (bfsF (nxt g) g.n.toNat src).Nodup ∧ (∀ x ∈ bfsF (nxt g) g.n.toNat src, 0 ≤ x ∧ x < (g.n.toNat : Int)) ∧ ∀ x, x ∈ bfsF (nxt g) g.n.toNat src ↔ Rch (nxt g) src x :=
  bfsF_mem (fun x y h0 h1 hy => by have := hg.all _ (mem_nxt.1 hy); have := hg.n0; omega) (fun x hx => by have := hs x hx; omega)
set_option maxHeartbeats 2000000 in
set_option maxRecDepth 100000 in
theorem greach_c (g : XG) (E : Option Addr) (d : Nat) (src : List Int) (X : Option Addr) (dx : Nat) (w : World) (h : GAt w E g) (hl : g.es.length ≤ 4611686018427387904) (hr : RowAt w X (I src)) (hrl : src.length ≤ 4611686018427387904) :
    Calls Try.prog 19 #[g.val E d, .slice X src.length dx] w (RowErr (reachL g src) (reachE g src) w) := by
  have hck := fun W h => check_c g E d W h hl
  have hnd := fun x b W h => node_c (g := g) (x := x) (b := b) E d W h
  have hnx := fun W h1 h2 => next_c g E d W h1 h2
  have hbx := box_at (w := w) (t := 24) g E d
  have hv : g.val E d = .agg #[.int .i64 g.n, .slice E g.es.length d] := rfl
  rw [hv] at hck hnd hnx ⊢
  have HCK := Lib.hid hck
  have HND := Lib.hid hnd
  have HNX := Lib.hid hnx
  have HG := Lib.hid h
  have HR := Lib.hid hr
  obtain ⟨kk, hkk⟩ : ∃ kk, kk = reachE g src := ⟨_, rfl⟩
  obtain ⟨ll, hll⟩ : ∃ ll, ll = reachL g src := ⟨_, rfl⟩
  rw [← hkk, ← hll]
  have HKK := Lib.hid hkk
  have HLL := Lib.hid hll
  clear hck hnd hnx hv h hkk hll hr
  go_enter Try.func19, Try.ntmps19
  go_wp2_with fail
  go_at_call 14
  refine (HCK.out _ (HG.out.below hbx.bel)).mono ?_
  rintro e w1 ⟨rfl, hb1⟩
  have hbx1 := hbx.below hb1
  by_cases hk : chkF g = 0
  · have hgood := chkF_good.1 hk
    have c0 := hbx1.c0
    have c1 := hbx1.c1
    have HBX1 := Lib.hid hbx1
    rw [hk]
    by_cases hlong : 4096 < src.length
    · have h1 : reachE g src = 3 := by unfold reachE; rw [if_pos hk, if_pos hlong]
      have h2 : reachL g src = [] := by unfold reachL; rw [h1]; rfl
      obtain rfl := HKK.out.trans h1
      obtain rfl := HLL.out.trans h2
      have hli : (4096 : Int) < (src.length : Int) := by omega
      clear h1 h2 hk hbx1 hbx hb1
      go_wp2
      go_ret2
      exact rowErr_no HBX1.out.bel
    · have hli : ¬ (4096 : Int) < (src.length : Int) := by omega
      have HK := Lib.hid hk
      have HGOOD := Lib.hid hgood
      clear hk hbx1 hbx hb1 hgood
      go_wp2
      go_loopw [20] (fun i wr => ∃ j : Nat, i = .int .i64 j ∧ j ≤ src.length ∧ (∀ k (hk : k < src.length), k < j → nodeB g.n src[k] = true) ∧ BoxAt w wr w.heap.size g E d) (fun i _ => src.length - (intOf i).toNat)
      case atStart => exact ⟨0, rfl, by omega, by omega, HBX1.out⟩
      case round =>
        obtain ⟨j, rfl, hj, hall, hbox⟩ := hrel
        have HALL := Lib.hid hall
        have HBOX := Lib.hid hbox
        have d0 := hbox.c0
        have d1 := hbox.c1
        clear hall c0 c1
        by_cases hlt : j < src.length
        · have hj0 : (0 : Int) ≤ (j : Int) := by omega
          have hj1 : (j : Int) < (src.length : Int) := by omega
          obtain ⟨b, off, rfl, hcj⟩ := (HR.out.below hbox.bel).int hlt
          obtain ⟨x, hx⟩ : ∃ x, x = src[j] := ⟨_, rfl⟩
          rw [← hx] at hcj
          have HX := Lib.hid hx
          clear hx hbox
          cases hnb : nodeB g.n x with
          | false =>
            have h1 : reachE g src = 1 := by
              unfold reachE
              rw [if_pos HK.out, if_neg hlong, if_neg]
              intro hall
              have := List.all_eq_true.1 hall _ (List.getElem_mem hlt)
              rw [← HX.out, hnb] at this
              cases this
            have h2 : reachL g src = [] := by unfold reachL; rw [h1]; rfl
            obtain rfl := HKK.out.trans h1
            obtain rfl := HLL.out.trans h2
            have HNB := Lib.hid hnb
            clear h1 h2 hnb
            go_wp2_with (go_at_call 46; refine (HND.out _ _ _ HNB.out).mono ?_; rintro e w2 ⟨rfl, hb2⟩)
            go_ret2
            exact rowErr_no ((HBOX.out.below hb2).bel)
          | true =>
            have HNB := Lib.hid hnb
            clear hnb
            go_wp2_with (go_at_call 46; refine (HND.out _ _ _ HNB.out).mono ?_; rintro e w2 ⟨rfl, hb2⟩)
            have HB2 := Lib.hid hb2
            clear hb2
            go_roundw
            case rel =>
              refine ⟨j + 1, by go_num, by omega, fun k hk hkj => ?_, HBOX.out.below HB2.out⟩
              rcases Nat.lt_or_ge k j with c | c
              · exact HALL.out k hk c
              · obtain rfl : k = j := by omega
                rw [← HX.out]; exact HNB.out
            case measure => simp [intOf]; omega
        · have hge : ¬ (j : Int) < (src.length : Int) := by omega
          have hall2 : ∀ x ∈ src, 0 ≤ x ∧ x < g.n := fun x hx => by
            obtain ⟨i, hi, rfl⟩ := List.mem_iff_getElem.1 hx
            exact nodeB_iff.1 (HALL.out i hi (by omega))
          have h1 : reachE g src = 0 := by
            unfold reachE
            rw [if_pos HK.out, if_neg hlong, if_pos]
            rw [List.all_eq_true]
            exact fun x hx => nodeB_iff.2 (hall2 x hx)
          have h2 : reachL g src = sortI (bfsF (nxt g) g.n.toNat src) := by unfold reachL; rw [if_pos h1]
          obtain rfl := HKK.out.trans h1
          have HL2 := Lib.hid (HLL.out.trans h2)
          have HALL2 := Lib.hid hall2
          have hwo : w.heap.size < wr.heap.size := hbox.lt
          clear h1 h2 hall2 hbox
          have hba : Below wr.heap.size wr (wr.alloc (.cells #[.slice none 0 0] 25)) := (Below.refl _ _).alloc (Nat.le_refl _) _
          have hgw := HG.out.below (HBOX.out.below hba).bel
          have HGW := Lib.hid hgw
          have HBA := Lib.hid hba
          clear hgw hba
          go_wp2_with fail
          go_at_call 48
          refine (HNX.out _ HGW.out HGOOD.out).mono ?_
          rintro e w3 ⟨v, rfl, hn3, hb3⟩
          rw [al_size] at hn3 hb3
          have hk0 : OutK wr.heap.size [] [wr.heap.size] w3 := by
            refine ⟨.slice none 0 0, (hb3.cell (p := ⟨wr.heap.size, 0, none⟩) (by show wr.heap.size < _; omega)).trans (by rw [cell_new]; rfl), (hb3.frozen (p := ⟨wr.heap.size, 0, none⟩) (by show wr.heap.size < _; omega)).trans (frozen_new _ _ _ _), ⟨rfl, .inl ⟨rfl, rfl⟩⟩, rfl⟩
          have hb33 : Below wr.heap.size wr w3 := HBA.out.trans (hb3.mono (by omega))
          have hgn := HGOOD.out.n0
          have hgn1 := HGOOD.out.n1
          have hgl := HGOOD.out.len
          have hrow3 := HR.out.below (HBOX.out.bel.trans (hb33.mono (Nat.le_of_lt hwo)))
          have hreach := reach_c (see_c (ob := wr.heap.size) (n := g.n.toNat) (by omega)) dx (O0 := [wr.heap.size]) (adj := nxt g) (by omega) hn3 (by simp) (fun i hi => rfl) (nxt_in HGOOD.out) (fun i hi => Nat.le_trans (nxt_length g i) hgl) hrow3 (by omega)
            (fun x hx => by have := HALL2.out x hx; omega) hk0
          have HREACH := Lib.hid hreach
          have HB33 := Lib.hid hb33
          clear hreach hn3 hb3 hb33 hk0 hrow3
          go_wp2_with fail
          go_at_call 50
          refine HREACH.out.mono ?_
          rintro e w4 ⟨rfl, O4, ⟨v4, hc4, hz4, ho4, rfl⟩, hm4⟩
          have hbl := nodup_len _ _ (bfs_nxt HGOOD.out HALL2.out).1 (bfs_nxt HGOOD.out HALL2.out).2.1
          have hsort := sort_c ho4 (by omega)
          have HSORT := Lib.hid hsort
          have HO4 := Lib.hid ho4
          have HM4 := Lib.hid hm4
          have hob4 : wr.heap.size < w4.heap.size := World.block_lt_of_cell? w4 _ hc4
          clear hsort ho4 hm4
          go_wp2_with fail
          go_at_call 52
          refine HSORT.out.mono ?_
          rintro e w5 ⟨rfl, ho5, hg5⟩
          have hc5 : w5.cell? ⟨wr.heap.size, 0, none⟩ = some v4 := (World.cell?_of_block (a := ⟨wr.heap.size, 0, none⟩) (hg5.block wr.heap.size hob4 (fun e => by have := (HO4.out.lt _ e.symm).1; omega))).trans hc4
          obtain ⟨Y, dY, hvY, hrY, _, _⟩ := own_rowS ho5
          subst hvY
          have hbend : Below w.heap.size w w5 := by
            have h4 : Below wr.heap.size wr w4 := HB33.out.trans (HM4.out.below (B := wr.heap.size) HB33.out.size (by simp))
            exact HBOX.out.bel.trans ((h4.grown hg5 h4.size (fun k e => by have := (HO4.out.lt _ e).1; omega)).mono (Nat.le_of_lt hwo))
          have HRY := Lib.hid hrY
          have HBEND := Lib.hid hbend
          clear hrY hbend hg5 ho5
          go_wp2
          go_ret2
          exact ⟨Y, dY, by rw [HL2.out, sortI_length]; rfl, by rw [HL2.out]; exact HRY.out, HBEND.out⟩
  · have h1 : reachE g src = chkF g := by unfold reachE; rw [if_neg hk]
    have h2 : reachL g src = [] := by unfold reachL; rw [if_neg (by rw [h1]; exact hk)]
    have h3 := HKK.out.trans h1
    obtain rfl := HLL.out.trans h2
    rw [← h3] at hk ⊢
    have hkb : (kk != 0) = true := by simpa using hk
    have HB1 := Lib.hid hbx1.bel
    clear h1 h2 h3 hbx1 hb1 hbx
    go_wp2
    go_ret2
    exact rowErr_no HB1.out
end Go.Proofs.Ytpdfcffeinbcaaa
