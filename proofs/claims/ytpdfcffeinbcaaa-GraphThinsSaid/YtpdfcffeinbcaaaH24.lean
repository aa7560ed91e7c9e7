/- The walk of order. -/
import Derived.Test.YtpdfcffeinbcaaaH22
import Derived.Test.YtpdfcffeinbcaaaH23
import Derived.Test.YtpdfcffeinbcaaaH3
namespace Go.Proofs.Ytpdfcffeinbcaaa
open Go.RowKit
/-- One row more is counted. -/
def into2 (adj : Int → List Int) (j m : Nat) (i : Nat) : Int := (degL adj (nodes j) i : Int) + if (i : Int) ∈ (adj j).take m then 1 else 0
theorem into2_zero (adj : Int → List Int) (j i : Nat) : into2 adj j 0 i = degL adj (nodes j) i := by unfold into2; simp
theorem into2_done (adj : Int → List Int) (j m i : Nat) (hm : (adj j).length ≤ m) : into2 adj j m i = degL adj (nodes (j + 1)) i := by
  unfold into2; rw [List.take_of_length_le hm, degL_succ]; split <;> simp_all
theorem into2_next {adj : Int → List Int} {j m x : Nat} (hm : m < (adj j).length) (hn : (adj j).Nodup) (hx : (adj j)[m] = (x : Int)) (i : Nat) : into2 adj j (m + 1) i = if i = x then into2 adj j m x + 1 else into2 adj j m i := by
  unfold into2
  rw [List.take_succ_eq_append_getElem hm, hx]
  by_cases e : i = x
  · subst e
    have : (i : Int) ∉ (adj j).take m := fun h => by
      obtain ⟨k, hk, hk2⟩ := List.mem_take_iff_getElem.1 h
      have hkm : k < m := by omega
      have := (List.pairwise_iff_getElem.1 hn) k m (by omega) hm hkm
      exact this (by rw [hk2, hx])
    simp [this]
  · have : ¬ (i : Int) = (x : Int) := by omega
    simp [e, this]
theorem into2_bound (adj : Int → List Int) (j m i : Nat) : 0 ≤ into2 adj j m i ∧ into2 adj j m i ≤ j + 1 := by
  have := degL_le adj (nodes j) i
  rw [nodes_length] at this
  unfold into2
  split <;> omega
theorem ta_int (x : Int) (xT : TypeId) (w' : World) : (Instr.typeAssert (.iface 3 (.int .i64 x)) xT 3 false).run Try.prog w' = .ok (.int .i64 x) w' := by kernel_rfl
/-- The counts, the heap, what was handed out so far. -/
structure OSt (w wr : World) (n s : Nat) (D : Nat → Int) (L out : List Int) (v : Value) : Prop where
  num : NumAt wr w.heap.size n D
  lst : LstAt (w.heap.size + 1) s wr L
  heap : Heap ltI L L.length
  row : wr.ownsRow (w.heap.size + 1) 3 1 v out.length (I out)
  sep : ∀ g, v.ownBlock = some g → g ≠ s ∧ g ∉ blkAt s 0 wr
  bel : Below w.heap.size w wr
section
variable {w wr w' : World} {n s : Nat} {D D' : Nat → Int} {L L' out out' : List Int} {v v' : Value}
theorem OSt.slt (h : OSt w wr n s D L out v) : w.heap.size + 1 ≤ s := by obtain ⟨_, _, _, _, _, h⟩ := h.lst; exact h
theorem OSt.heapStep (h : OSt w wr n s D L out v) (hR : LstAt (w.heap.size + 1) s w' L') (hh : Heap ltI L' L'.length) (hm : HMoves s 0 wr w') : OSt w w' n s D L' out v := by
  have hs := h.slt
  have hb := h.lst.blk
  have hM : ∀ k ∈ s :: blkAt s 0 wr, w.heap.size + 1 ≤ k := fun k hk => by
    rcases List.mem_cons.1 hk with rfl | hk
    · exact hs
    · exact (hb k hk).1
  refine ⟨h.num.moves hm.1 (fun hk => by have := hM _ hk; omega), hR, hh, own_mv h.row hm.1 (fun g e hk => ?_), fun g e => ⟨(h.sep g e).1, fun hk => ?_⟩, h.bel.trans (hm.1.below h.bel.size (fun k hk => by have := hM k hk; omega))⟩
  · rcases List.mem_cons.1 hk with rfl | hk
    · exact (h.sep _ e).1 rfl
    · exact (h.sep _ e).2 hk
  · rcases hm.2 g hk with h1 | h1
    · exact (h.sep g e).2 h1
    · have := (h.row.lt g e).2; omega
theorem OSt.count (h : OSt w wr n s D L out v) {x : Nat} {y : Int} (hx : x < n) (hD : ∀ i, i < n → D' i = if i = x then y else D i) : OSt w (wr.setCell ⟨w.heap.size, x, none⟩ (.int .i64 y)) n s D' L out v := by
  have hs := h.slt
  have hb := h.lst.blk
  have hm := Moves.set (M := [w.heap.size]) wr ⟨w.heap.size, x, none⟩ (.int .i64 y) (by simp)
  obtain ⟨h1, h2⟩ := h.lst.moves hm (by simp; omega) (fun k hk => by have := (hb k hk).1; simp; omega)
  exact ⟨h.num.put hx hD, h1, h.heap, own_low h.row _ _ (by show w.heap.size < _; omega), fun g e => by rw [h2]; exact h.sep g e, h.bel.setCell (Nat.le_refl _) _⟩
theorem OSt.app (h : OSt w wr n s D L out v) (ho : w'.ownsRow (w.heap.size + 1) 3 1 v' out'.length (I out')) (hg : wr.grownBy w' v.ownBlock) (hb : ∀ g, v'.ownBlock = some g → v.ownBlock = some g ∨ wr.heap.size ≤ g) : OSt w w' n s D L out' v' := by
  have hm := Moves.of_grown (M := v.ownBlock.toList) hg (by intro k e; simp [e])
  have hlo : ∀ k ∈ v.ownBlock.toList, w.heap.size + 1 ≤ k ∧ k ≠ s ∧ k ∉ blkAt s 0 wr := fun k hk => by
    have hk' : v.ownBlock = some k := by simpa using hk
    exact ⟨(h.row.lt k hk').1, h.sep k hk'⟩
  obtain ⟨h1, h2⟩ := h.lst.moves hm (fun hk => (hlo s hk).2.1 rfl) (fun k hk hk2 => (hlo k hk2).2.2 hk)
  refine ⟨h.num.moves hm (fun hk => by have := (hlo _ hk).1; omega), h1, h.heap, ho, fun g e => ?_, h.bel.trans (hm.below h.bel.size (fun k hk => by have := (hlo k hk).1; omega))⟩
  rw [h2]
  rcases hb g e with h3 | h3
  · exact h.sep g h3
  · exact ⟨fun e => by have := h.lst.lt; omega, fun hk => by have := (h.lst.blk g hk).2.1; omega⟩
end
def down2 (adj : Int → List Int) (n : Nat) (out : List Int) (y : Int) (m : Nat) (i : Nat) : Int := (deg adj n out i : Int) - if (i : Int) ∈ (adj y).take m then 1 else 0
theorem down2_zero (adj : Int → List Int) (n : Nat) (out : List Int) (y : Int) (i : Nat) : down2 adj n out y 0 i = deg adj n out i := by unfold down2; simp
theorem nodup_take {l : List Int} (hn : l.Nodup) {m : Nat} (hm : m < l.length) : l[m] ∉ l.take m := fun h => by
  obtain ⟨k, hk, hk2⟩ := List.mem_take_iff_getElem.1 h
  exact (List.pairwise_iff_getElem.1 hn) k m (by omega) hm (by omega) hk2
theorem down2_next {adj : Int → List Int} {n : Nat} {out : List Int} {y : Int} {m x : Nat} (hm : m < (adj y).length) (hn : (adj y).Nodup) (hx : (adj y)[m] = (x : Int)) (i : Nat) : down2 adj n out y (m + 1) i = if i = x then down2 adj n out y m x - 1 else down2 adj n out y m i := by
  have hni := nodup_take hn hm
  unfold down2
  rw [List.take_succ_eq_append_getElem hm, hx]
  rw [hx] at hni
  by_cases e : i = x
  · subst e; simp [hni]
  · have : ¬ (i : Int) = (x : Int) := by omega
    simp [e, this]
theorem down2_here {adj : Int → List Int} {n : Nat} {out : List Int} {y : Int} {m x : Nat} (hy : 0 ≤ y ∧ y < (n : Int)) (ho : y ∉ out) (hm : m < (adj y).length) (hn : (adj y).Nodup) (hx : (adj y)[m] = (x : Int)) : down2 adj n out y m x = deg adj n (out ++ [y]) x + 1 := by
  have hni := nodup_take hn hm
  have hd := deg_step (adj := adj) hy ho (x : Int)
  have hmem : (x : Int) ∈ adj y := by rw [← hx]; exact List.getElem_mem hm
  rw [if_pos hmem] at hd
  rw [hx] at hni
  unfold down2
  rw [if_neg hni]
  omega
theorem down2_done {adj : Int → List Int} {n : Nat} {out : List Int} {y : Int} {m : Nat} (hy : 0 ≤ y ∧ y < (n : Int)) (ho : y ∉ out) (hm : (adj y).length ≤ m) (i : Nat) : down2 adj n out y m i = deg adj n (out ++ [y]) i := by
  have hd := deg_step (adj := adj) hy ho (i : Int)
  unfold down2
  rw [List.take_of_length_le hm]
  split <;> simp_all
theorem lenf_c (X : Option Addr) (n c : Nat) (w : World) : Calls Try.prog 96 #[.slice X n c] w fun e w' => e = .returned (.int .i64 (n : Int)) ∧ w = w' := by
  go_enter Try.func96, Try.ntmps96
  go_wp2
  go_ret
  exact ⟨rfl, rfl⟩
theorem OSt.sl {w wr : World} {n s : Nat} {D : Nat → Int} {L out : List Int} {v : Value} (h : OSt w wr n s D L out v) : ∃ X d, wr.cell? ⟨s, 0, none⟩ = some (.slice X L.length d) := by
  obtain ⟨v, hc, _, ho, _⟩ := h.lst
  obtain ⟨X, d, rfl, _⟩ := own_rowS ho
  exact ⟨X, d, hc⟩
theorem filter_snoc {p : Int → Bool} {l : List Int} {m : Nat} (h : m < l.length) : (l.take (m + 1)).filter p = (l.take m).filter p ++ if p l[m] = true then [l[m]] else [] := by
  rw [List.take_succ_eq_append_getElem h, List.filter_append]
  congr 1
  cases hp : p l[m] <;> simp [hp]
/-- What order answers. -/
def OrdPost (n : Nat) (out : List Int) (w : World) (e : Ending) (w' : World) : Prop :=
  ∃ v, e = .returned (.tuple #[v, .bool ((out.length : Int) == (n : Int))]) ∧ w'.ownsRow w.heap.size 3 1 v out.length (I out) ∧ Below w.heap.size w w'
set_option maxHeartbeats 4000000 in
set_option maxRecDepth 100000 in
theorem order_c {w : World} {lo n : Nat} {v : Value} {adj : Int → List Int} (hn : n ≤ 4096) (hl : NextAt w lo v n (fun i => adj i)) (hr : ∀ i : Nat, i < n → (adj i).Pairwise (· < ·)) (ha : ∀ i : Nat, i < n → ∀ y ∈ adj i, 0 ≤ y ∧ y < (n : Int)) :
    Calls Try.prog 75 #[v] w (OrdPost n (ordF adj n) w) := by
  have hmk : ∀ W : World, (Instr.makeSlice 25 (.int .i64 (n : Int)) (.int .i64 (n : Int))).run Try.prog W = .ok (.slice (some ⟨W.heap.size, 0, none⟩) n n) (W.alloc (.cells (madeCells #[.int .i64 0] n) 3)) :=
    fun W => run_make_row' 25 3 (.int .i64 0) 8 Try.underlying25 info_int rfl .i64 .i64 n (by omega) (by omega) W
  obtain ⟨lb, ld, rfl, hlo, hlbw, hnx⟩ := hl
  have hlen : ∀ i : Nat, i < n → (adj i).length ≤ n := fun i hi => nodup_len n _ (rising_nodup (hr i hi)) (ha i hi)
  have HNX := Lib.hid hnx
  have HR := Lib.hid hr
  have HA := Lib.hid ha
  have HLEN := Lib.hid hlen
  have hn0 := num_made w n 3
  clear hnx hr ha hlen hlo
  go_enter Try.func75, Try.ntmps75
  go_wp2
  obtain ⟨w0, hw0⟩ : ∃ w0, w0 = w.alloc (.cells (madeCells #[.int .i64 0] n) 3) := ⟨_, rfl⟩
  rw [← hw0] at hn0 ⊢
  have hb0 : Below w.heap.size w w0 := by rw [hw0]; exact (Below.refl _ _).alloc (Nat.le_refl _) _
  have HN0 := Lib.hid (hn0.congr (g := fun i => (degL adj (nodes 0) i : Int)) (fun i _ => by simp [nodes, degL]))
  have HB0 := Lib.hid hb0
  clear hw0 hn0 hb0
  go_loopw [21] (fun i wr => ∃ j : Nat, i = .int .i64 j ∧ j ≤ n ∧ NumAt wr w.heap.size n (fun i => (degL adj (nodes j) i : Int)) ∧ Below w.heap.size w wr) (fun i _ => n - (intOf i).toNat)
  case atStart => exact ⟨0, rfl, by omega, HN0.out, HB0.out⟩
  case round =>
    obtain ⟨j, rfl, hj, hnum, hbel⟩ := hrel
    by_cases hlt : j < n
    · have hj0 : (0 : Int) ≤ (j : Int) := by omega
      have hj1 : (j : Int) < (n : Int) := by omega
      obtain ⟨Y, dY, hcY, hrY, _⟩ := HNX.out j hlt
      have hcY' := (hbel.cell (p := ⟨lb, j, none⟩) hlbw).trans hcY
      have hlj := HLEN.out j hlt
      have haj := HA.out j hlt
      have hrj := HR.out j hlt
      have HNUM := Lib.hid hnum
      have HBEL := Lib.hid hbel
      have HRY := Lib.hid hrY
      have HAJ := Lib.hid haj
      have HRJ := Lib.hid hrj
      clear hcY hrY hnum hbel haj hrj
      go_wp2
      go_loopw [27] (fun i wr => ∃ m : Nat, i = .int .i64 m ∧ m ≤ (adj j).length ∧ NumAt wr w.heap.size n (into2 adj j m) ∧ Below w.heap.size w wr) (fun i _ => (adj j).length - (intOf i).toNat)
      case atStart => exact ⟨0, rfl, by omega, HNUM.out.congr (fun i _ => into2_zero adj j i), HBEL.out⟩
      case round =>
        obtain ⟨m, rfl, hm, hnum, hbel⟩ := hrel
        by_cases hlm : m < (adj j).length
        · have hm0 : (0 : Int) ≤ (m : Int) := by omega
          have hm1 : (m : Int) < ((adj j).length : Int) := by omega
          obtain ⟨b, off, rfl, hcm⟩ := (HRY.out.below hbel).int hlm
          have hxr := HAJ.out _ (List.getElem_mem hlm)
          obtain ⟨x, hx⟩ : ∃ x : Nat, (adj j)[m] = (x : Int) := ⟨(adj j)[m].toNat, by omega⟩
          have hnxt := into2_next hlm (rising_nodup HRJ.out) hx
          rw [hx] at hcm hxr
          have hxn : x < n := by omega
          have hx0 : (0 : Int) ≤ (x : Int) := by omega
          have hx1 : (x : Int) < (n : Int) := by omega
          have hcx := hnum.2.1 x hxn
          have hfx := hnum.2.2 x
          have hbd := into2_bound adj j m x
          obtain ⟨d, hd⟩ : ∃ d, d = into2 adj j m x := ⟨_, rfl⟩
          rw [← hd] at hcx hbd hnxt
          have hd0 : 0 ≤ d := hbd.1
          have hd1 : d ≤ 4097 := by omega
          have HNUM2 := Lib.hid (hnum.put hxn (fun i _ => hnxt i))
          have HBEL2 := Lib.hid hbel
          clear hx hnxt hd hnum hbel hbd
          go_wp2
          go_roundw
          case rel => exact ⟨m + 1, by go_num, by omega, HNUM2.out, HBEL2.out.setCell (Nat.le_refl _) _⟩
          case measure => simp [intOf]; omega
        · have hge : ¬ (m : Int) < ((adj j).length : Int) := by omega
          have HNUM2 := Lib.hid (hnum.congr (g := fun i => (degL adj (nodes (j + 1)) i : Int)) (fun i _ => (into2_done adj j m i (by omega)).symm))
          have HBEL2 := Lib.hid hbel
          clear hnum hbel
          go_wp2
          go_roundw
          case rel => exact ⟨j + 1, by go_num, by omega, HNUM2.out, HBEL2.out⟩
          case measure => simp [intOf]; omega
    · have hge : ¬ (j : Int) < (n : Int) := by omega
      obtain rfl : n = j := by omega
      have hsz : w.heap.size < wr.heap.size := hnum.1
      have HNUM := Lib.hid hnum
      have HBEL := Lib.hid hbel
      clear hnum hbel
      go_wp2
      obtain ⟨s, hs⟩ : ∃ s, s = wr.heap.size + 1 := ⟨_, rfl⟩
      obtain ⟨w1, hw1⟩ : ∃ w1, w1 = (wr.alloc (.cells #[] 3)).alloc (.cells #[.slice (some ⟨wr.heap.size, 0, none⟩) 0 0] 105) := ⟨_, rfl⟩
      have hst : OSt w w1 n s (fun i => (degL adj (nodes n) i : Int)) [] [] (.slice none 0 0) := by
        have hb1 : Below wr.heap.size wr w1 := by rw [hw1]; exact ((Below.refl _ _).alloc (Nat.le_refl _) _).alloc (by simp) _
        refine ⟨HNUM.out.moves (Moves.of_new [] hb1) (by simp), ?_, (fun k h0 h1 => by simp at h1), own_none _ _ _ _, (fun g e => by cases e), HBEL.out.trans (hb1.mono (by omega))⟩
        rw [hw1, hs]
        exact HRow.fresh (by omega)
      rw [← hs, ← hw1]
      have HST := Lib.hid hst
      clear hst hs hw1 hsz
      go_loopw [43] (fun i wr => ∃ (j : Nat) (L : List Int), i = .int .i64 j ∧ j ≤ n ∧ OSt w wr n s (fun i => (degL adj (nodes n) i : Int)) L [] (.slice none 0 0) ∧ L.Perm ((nodes j).filter (freeB adj n []))) (fun i _ => n - (intOf i).toNat)
      case atStart => exact ⟨0, [], rfl, by omega, HST.out, by simp [nodes]⟩
      case round =>
        obtain ⟨j, L, rfl, hj, hst, hp⟩ := hrel
        by_cases hlt : j < n
        · have hj0 : (0 : Int) ≤ (j : Int) := by omega
          have hj1 : (j : Int) < (n : Int) := by omega
          have hcj : wr.cell? ⟨w.heap.size, j, none⟩ = some (.int .i64 (degL adj (nodes n) j : Int)) := hst.num.2.1 j hlt
          have hbd := degL_le adj (nodes n) j
          rw [nodes_length] at hbd
          obtain ⟨d, hd⟩ : ∃ d, d = degL adj (nodes n) j := ⟨_, rfl⟩
          have hfr : freeB adj n [] j = decide (d = 0) := by unfold freeB deg; rw [left_nil, ← hd]; simp
          have hnj : (nodes (j + 1)).filter (freeB adj n []) = (nodes j).filter (freeB adj n []) ++ if d = 0 then [(j : Int)] else [] := by
            rw [nodes_succ, List.filter_append]
            congr 1
            by_cases h : d = 0 <;> simp [hfr, h]
          rw [← hd] at hcj hbd
          have hL : L.length < 1099511627776 := by
            have h1 := hp.length_eq
            have h2 := List.length_filter_le (freeB adj n []) (nodes j)
            rw [nodes_length] at h2
            omega
          have HST := Lib.hid hst
          have HP := Lib.hid hp
          have HNJ := Lib.hid hnj
          clear hst hp hfr hnj hd
          by_cases h0 : d = 0
          · have hb : ((d : Int) == 0) = true := by simpa using h0
            have hpush := push_c (lst_ops (w.heap.size + 1) s) (lst_ends (w.heap.size + 1) s) ordI (j : Int) HST.out.lst HST.out.heap hL
            have HPUSH := Lib.hid hpush
            have H0 := Lib.hid h0
            clear h0 hpush
            go_wp2_with fail
            go_at_call 95
            refine HPUSH.out.mono ?_
            rintro e w2 ⟨rfl, L2, hR2, hp2, hh2, hm2⟩
            have HST2 := Lib.hid (HST.out.heapStep hR2 hh2 hm2)
            have HP2 := Lib.hid hp2
            clear hR2 hp2 hh2 hm2
            go_wp2
            go_roundw
            case rel => exact ⟨j + 1, L2, by go_num, by omega, HST2.out, by rw [HNJ.out, if_pos H0.out]; exact HP2.out.trans (HP.out.append_right _)⟩
            case measure => simp [intOf]; omega
          · have hb : ((d : Int) == 0) = false := by simpa using h0
            have H0 := Lib.hid h0
            clear h0
            go_wp2
            go_roundw
            case rel => exact ⟨j + 1, L, by go_num, by omega, HST.out, by rw [HNJ.out, if_neg H0.out, List.append_nil]; exact HP.out⟩
            case measure => simp [intOf]; omega
        · have hge : ¬ (j : Int) < (n : Int) := by omega
          obtain rfl : n = j := by omega
          have hst1 : OSt w wr n s (fun i => (deg adj n [] i : Int)) L [] (.slice none 0 0) := by
            have : (fun i : Nat => (deg adj n [] i : Int)) = fun i : Nat => (degL adj (nodes n) i : Int) := by funext i; unfold deg; rw [left_nil]
            rw [this]; exact hst
          have HST := Lib.hid hst1
          have HP := Lib.hid (show L.Perm (avail adj n []) from hp)
          clear hst hst1 hp
          go_wp2
          go_loopg [12] n (fun f v wr => ∃ (out L : List Int), f + out.length = n ∧ Begun adj n out ∧ Hid (ordGo adj n f out = ordF adj n) ∧ OSt w wr n s (fun i => (deg adj n out i : Int)) L out v ∧ L.Perm (avail adj n out))
          case atStart => exact ⟨[], L, by simp, begun_nil adj n, Lib.hid rfl, HST.out, HP.out⟩
          case round =>
            obtain ⟨out, L, hfk, hbeg, hgo, hst, hp⟩ := hrel
            obtain ⟨Xh, dh, hch⟩ := hst.sl
            have hbl := hbeg.length
            obtain ⟨Xo, co, hvo, _⟩ := own_rowS hst.row
            by_cases hL0 : 0 < L.length
            · have hL1 : (0 : Int) < (L.length : Int) := by omega
              have hLl : L.length ≤ 1099511627776 := by
                have h1 := hp.length_eq
                have h2 := List.length_filter_le (freeB adj n out) (nodes n)
                rw [nodes_length] at h2
                have : (avail adj n out).length ≤ n := h2
                omega
              have hmin : ∀ x ∈ L, L[0]! ≤ x := fun x hx => by
                obtain ⟨k, hk, rfl⟩ := List.mem_iff_getElem.1 hx
                have := hst.heap.root ordI k hk
                rw [getElem!_pos L k hk] at this
                unfold ltI at this
                exact Int.not_lt.1 (of_decide_eq_false this)
              have hpop := pop_c (lst_ops (w.heap.size + 1) s) (lst_ends (w.heap.size + 1) s) ordI hst.lst hst.heap hL0 hLl
              have HPOP := Lib.hid hpop
              have HST := Lib.hid hst
              have HP := Lib.hid hp
              have HMIN := Lib.hid hmin
              have HBEG := Lib.hid hbeg
              clear hpop hst hp hmin hbeg hLl
              subst hvo
              go_wp2_with fail
              go_at_call 96
              refine (lenf_c Xh L.length dh wr).mono ?_
              rintro e w2 ⟨rfl, rfl⟩
              go_wp2_with fail
              go_at_call 97
              refine HPOP.out.mono ?_
              rintro e w2 ⟨rfl, L2, hR2, hp2, hh2, hm2⟩
              obtain ⟨rest, hav, hpr⟩ := heap_least HP.out HMIN.out hp2
              have hyr := (mem_avail.1 (show L[0]! ∈ avail adj n out by rw [hav]; simp))
              obtain ⟨y, hy⟩ : ∃ y : Nat, L[0]! = (y : Int) := ⟨L[0]!.toNat, by omega⟩
              rw [hy] at hav hyr
              have hyn : y < n := by omega
              have hbeg2 := HBEG.out.next (show (y : Int) ∈ avail adj n out by rw [hav]; simp)
              have hpn := avail_next HBEG.out hav (rising_nodup (HR.out y hyn)) (HA.out y hyn)
              obtain ⟨f, rfl⟩ : ∃ f, gk = f + 1 := ⟨gk - 1, by have := hbeg2.length; simp at this; omega⟩
              have hgo2 := (ordGo_next (k := f) hav).symm.trans hgo.out
              have hst2 := HST.out.heapStep hR2 hh2 hm2
              have HST2 := Lib.hid hst2
              have HPR := Lib.hid hpr
              have HPN := Lib.hid hpn
              have HYR := Lib.hid hyr
              have HBEG2 := Lib.hid hbeg2
              have HGO2 := Lib.hid hgo2
              have HAV := Lib.hid hav
              have hta := ta_int (y : Int)
              have he : encI L[0]! = .iface 3 (.int .i64 (y : Int)) := by unfold encI; rw [hy]
              rw [he]
              have hil : (I out).length = out.length := List.length_map _
              have ho2 : w2.ownsRow (w.heap.size + 1) 3 1 (.slice Xo out.length co) (I out).length (I out) := by rw [hil]; exact hst2.row
              have hB2 := hst2.bel.size
              have HO2 := Lib.hid ho2
              have HIL := Lib.hid hil
              have hb2 := hst2.bel
              obtain ⟨Y, dY, hcY, hrY, _⟩ := HNX.out y hyn
              have hly := HLEN.out y hyn
              have HCY := Lib.hid hcY
              have HRY := Lib.hid hrY
              have hy0 : (0 : Int) ≤ (y : Int) := by omega
              have hy1 : (y : Int) < (n : Int) := by omega
              have hsz2 : w.heap.size + 1 ≤ w2.heap.size := by have := hst2.num.1; omega
              clear hR2 hp2 hh2 hm2 hav hpr hpn hyr hbeg2 hgo2 hst2 hy he hil ho2 hgo hch hcY hrY hb2 hB2 hL1 hL0
              go_wp2_with (at_builtin; go_loud (refine app_new (w.heap.size + 1) (by rfl) _ _ 25 3 (.int .i64 0) 8 (by rfl) Try.underlying25 info_int rfl _ (I out) (.int .i64 (y : Int)) (by rfl) _ (by rfl) rfl rfl HO2.out hsz2 (by have := HIL.out; omega) (by have := HIL.out; omega) ?_; intro v5 w5 ho5 hg5 hb5 hs5; have hst5 : OSt w w5 n s (fun i => (deg adj n out i : Int)) L2 (out ++ [(y : Int)]) v5 := (HST2.out.app (by rw [HIL.out] at ho5; rw [show I (out ++ [(y : Int)]) = I out ++ [.int .i64 (y : Int)] from List.map_append, List.length_append]; exact ho5) hg5 (fun g e => hb5.imp (fun h => h.symm.trans e) (fun h => by rw [h] at e; cases e; omega))); have hcY5 := (hst5.bel.cell (p := ⟨lb, y, none⟩) hlbw).trans HCY.out; have HST5 := Lib.hid hst5; clear hst5 ho5 hg5 hb5 hs5 hta))
              obtain ⟨w9, rfl⟩ : ∃ w9 : World, w9 = w5 := ⟨_, rfl⟩
              go_loopw [74] (fun i wr => ∃ (m : Nat) (L : List Int), i = .int .i64 m ∧ m ≤ (adj y).length ∧ OSt w wr n s (down2 adj n out y m) L (out ++ [(y : Int)]) v5 ∧ L.Perm (rest ++ ((adj y).take m).filter fun x => decide (deg adj n (out ++ [(y : Int)]) x = 0))) (fun i _ => (adj y).length - (intOf i).toNat)
              case atStart =>
                have h0 : down2 adj n out y 0 = fun i : Nat => (deg adj n out (i : Int) : Int) := by funext i; exact down2_zero adj n out y i
                exact ⟨0, L2, rfl, by omega, by rw [h0]; exact HST5.out, by simpa using HPR.out⟩
              case round =>
                obtain ⟨m, L3, rfl, hm, hst, hp⟩ := hrel
                by_cases hlm : m < (adj y).length
                · have hm0 : (0 : Int) ≤ (m : Int) := by omega
                  have hm1 : (m : Int) < ((adj y).length : Int) := by omega
                  obtain ⟨b, off, rfl, hcm⟩ := (HRY.out.below hst.bel).int hlm
                  have hxr := HA.out y hyn _ (List.getElem_mem hlm)
                  obtain ⟨x, hx⟩ : ∃ x : Nat, (adj y)[m] = (x : Int) := ⟨(adj y)[m].toNat, by omega⟩
                  have hnd := rising_nodup (HR.out y hyn)
                  have hnxt := down2_next (n := n) (out := out) hlm hnd hx
                  have hhere := down2_here (n := n) HYR.out.1 HYR.out.2.1 hlm hnd hx
                  have hfs := filter_snoc (p := fun x => decide (deg adj n (out ++ [(y : Int)]) x = 0)) hlm
                  rw [hx] at hcm hxr hfs
                  have hxn : x < n := by omega
                  have hx0 : (0 : Int) ≤ (x : Int) := by omega
                  have hx1 : (x : Int) < (n : Int) := by omega
                  have hcx := hst.num.2.1 x hxn
                  have hfx := hst.num.2.2 x
                  have hbd : deg adj n (out ++ [(y : Int)]) x ≤ n := Nat.le_trans (degL_le _ _ _) (left_length _ _)
                  obtain ⟨d, hd⟩ : ∃ d, d = deg adj n (out ++ [(y : Int)]) x := ⟨_, rfl⟩
                  rw [← hd] at hhere hbd
                  rw [hhere] at hcx hnxt
                  have hd1 : ((d : Int) + 1) - 1 = (d : Int) := by omega
                  rw [hd1] at hnxt
                  have hfs2 : ((adj y).take (m + 1)).filter (fun x => decide (deg adj n (out ++ [(y : Int)]) x = 0)) = ((adj y).take m).filter (fun x => decide (deg adj n (out ++ [(y : Int)]) x = 0)) ++ if d = 0 then [(x : Int)] else [] := by
                    rw [hfs, ← hd]; simp
                  have hst2 := hst.count (y := (d : Int)) hxn (fun i _ => hnxt i)
                  have hL : L3.length < 1099511627776 := by
                    have h1 := hp.length_eq
                    have h3 := List.length_filter_le (fun x => decide (deg adj n (out ++ [(y : Int)]) x = 0)) ((adj y).take m)
                    have h4 : (rest ++ ((adj y).take m).filter fun x => decide (deg adj n (out ++ [(y : Int)]) x = 0)).length ≤ n + n := by
                      have h5 := List.length_filter_le (freeB adj n out) (nodes n)
                      rw [nodes_length] at h5
                      have h6 : (avail adj n out).length ≤ n := h5
                      rw [HAV.out] at h6
                      rw [List.length_append]
                      rw [List.length_take] at h3
                      simp at h6
                      omega
                    omega
                  have HST3 := Lib.hid hst2
                  have HP3 := Lib.hid hp
                  have HFS := Lib.hid hfs2
                  clear hx hnxt hhere hfs hfs2 hst hp hd hst2 hnd
                  by_cases h0 : d = 0
                  · have hb : ((d : Int) == 0) = true := by simpa using h0
                    have hpush := push_c (lst_ops (w.heap.size + 1) s) (lst_ends (w.heap.size + 1) s) ordI (x : Int) HST3.out.lst HST3.out.heap hL
                    have HPUSH := Lib.hid hpush
                    have H0 := Lib.hid h0
                    clear h0 hpush
                    go_wp2_with fail
                    go_at_call 95
                    refine HPUSH.out.mono ?_
                    rintro e w6 ⟨rfl, L6, hR6, hp6, hh6, hm6⟩
                    have HST6 := Lib.hid (HST3.out.heapStep hR6 hh6 hm6)
                    have HP6 := Lib.hid hp6
                    clear hR6 hp6 hh6 hm6
                    go_wp2
                    go_roundw
                    case rel => exact ⟨m + 1, L6, by go_num, by omega, HST6.out, by rw [HFS.out, if_pos H0.out, ← List.append_assoc]; exact HP6.out.trans (HP3.out.append_right _)⟩
                    case measure => simp [intOf]; omega
                  · have hb : ((d : Int) == 0) = false := by simpa using h0
                    have H0 := Lib.hid h0
                    clear h0
                    go_wp2
                    go_roundw
                    case rel => exact ⟨m + 1, L3, by go_num, by omega, HST3.out, by rw [HFS.out, if_neg H0.out, List.append_nil]; exact HP3.out⟩
                    case measure => simp [intOf]; omega
                · have hge : ¬ (m : Int) < ((adj y).length : Int) := by omega
                  have h1 : down2 adj n out y m = fun i : Nat => (deg adj n (out ++ [(y : Int)]) (i : Int) : Int) := by funext i; exact down2_done HYR.out.1 HYR.out.2.1 (by omega) i
                  rw [h1] at hst
                  rw [List.take_of_length_le (by omega)] at hp
                  have HST3 := Lib.hid hst
                  have HP3 := Lib.hid (hp.trans HPN.out)
                  clear hst hp h1
                  go_wp2
                  go_roundg f
                  case measure => omega
                  case rel => exact ⟨out ++ [(y : Int)], L3, by simp; omega, HBEG2.out, Lib.hid HGO2.out, HST3.out, HP3.out⟩
            · obtain rfl : L = [] := List.eq_nil_of_length_eq_zero (by omega)
              have hge : ¬ (0 : Int) < (([] : List Int).length : Int) := by simp
              have hav := hp.symm.eq_nil
              have hfin := (ordGo_done hav gk).symm.trans hgo.out
              have HST := Lib.hid hst
              have HFIN := Lib.hid hfin
              clear hst hp hbeg hgo hfin hav hfk
              subst hvo
              go_wp2_with fail
              go_at_call 96
              refine (lenf_c Xh _ dh wr).mono ?_
              rintro e w2 ⟨rfl, rfl⟩
              go_wp2
              go_ret2
              cases HFIN.out
              exact ⟨_, rfl, own_base HST.out.row (by omega), HST.out.bel⟩
end Go.Proofs.Ytpdfcffeinbcaaa
