/- The reference's PartsOf; SameInts; both Parts. -/
import Derived.Test.YtgopflklcfcocaaDoorA15
import Derived.Test.YtgopflklcfcocaaDoorA14
namespace Go.Proofs.YtgopflklcfcocaaDoor
open Go.RowKit

set_option maxHeartbeats 2000000 in
set_option maxRecDepth 100000 in
theorem partsOf_c (es : List XOp) (fr : List Nat) (b : Nat) (A : Option Addr) (c pos m : Nat) (w : World) (hx : OpsAt w A es) (hl : es.length ≤ 256) (ht : ∀ o ∈ es, o.text.size ≤ 140737488355328) (hbg : beginsF es = some (fr, [b])) (hp : pos < es.length) (hm : es[pos].n = (m : Int)) :
    Calls Tryd.prog 60 #[.slice A es.length c, .int .i64 pos] w fun e w' => ∃ v, e = .returned v ∧ w'.ownsRow w.heap.size 3 1 v m (ints (partsGo fr m pos)) ∧ Below w.heap.size w w' := by
  obtain ⟨hfl, _, hpos, hg⟩ := begins_good hbg
  have hW := whole_of hl hfl hg
  obtain ⟨m', hm', hm2, hch, _⟩ := hW.parts pos hp
  obtain rfl : m' = m := by omega
  have hfb := hW.fle
  have hmk : ∀ W : World, (Instr.makeSlice 38 (.int .i64 (m' : Int)) (.int .i64 (m' : Int))).run Tryd.prog W = .ok (.slice (some ⟨W.heap.size, 0, none⟩) m' m') (W.alloc (.cells (madeCells #[.int .i64 0] m') 3)) :=
    fun W => run_make_row' 38 3 (.int .i64 0) 8 Tryd.underlying38 info_int rfl .i64 .i64 m' (by omega) (by omega) W
  have HBG := Lib.hid hbg
  have HC := Lib.hid hch
  have HM := Lib.hid hm
  clear hbg hch hm hm' hW hg hfl
  go_enter Tryd.func60, Tryd.ntmps60
  go_upto_region 2 with (go_at_call 51; refine (beginsR_c es A c _ hx (by omega) ht).mono ?_; intro e w1 hp; obtain ⟨B, d, rfl, hn1, hb1⟩ := post_some HBG.out hp; have hx1 := hx.below hb1; clear hp)
  rcases hx1 with hx0 | ⟨b', off, rfl, hb', hc⟩
  · rw [hx0] at hp; simp at hp
  obtain ⟨_, h1, _, _⟩ := hc pos hp
  rw [HM.out] at h1
  clear hc
  have hs1 := hb1.size
  go_wp2
  go_loopw [8, 9] (fun vk vi wr => ∃ (r k : Nat) (tail : List Nat), r ≤ m' ∧ vi = .int .i64 ((r : Int) - 1) ∧ vk = .int .i64 ((k : Int) - 1) ∧ Hid (chainOk fr r k) ∧ Hid (partsGo fr r k ++ tail = partsGo fr m' pos) ∧ tail.length = m' - r ∧ k ≤ 256 ∧
      wr.ownsRow w.heap.size 3 1 (.slice (some ⟨w1.heap.size, 0, none⟩) m' m') m' (ints (List.replicate r 0 ++ tail)) ∧ Below w1.heap.size w1 wr) (fun _ vi _ => (intOf vi + 1).toNat)
  case atStart =>
    refine ⟨m', pos, [], Nat.le_refl _, by go_num, by go_num, HC.out, by simp [Hid], by simp, by omega, ?_, (Below.refl _ _).alloc (Nat.le_refl _) _⟩
    have := own_made_ints w1 w.heap.size 3 m' hs1 (by omega)
    simpa using this
  case round =>
    obtain ⟨r, k, tail, hr, rfl, rfl, hch, hpt, htl, hk, hown, hbel⟩ := hrel
    rcases r with _ | r
    · have hd0 : decide ((0 : Int) ≤ ((0 : Nat) : Int) - 1) = false := by simp
      have hd1 : ¬ (0 : Int) ≤ ((0 : Nat) : Int) - 1 := by omega
      go_wp2
      go_ret
      refine ⟨_, rfl, ?_, hb1.trans (hbel.mono hs1)⟩
      have h2 := hpt.out
      rw [partsGo] at h2
      rw [← h2]
      simpa using hown
    · have hcast : ((r + 1 : Nat) : Int) - 1 = (r : Int) := by omega
      obtain ⟨hk1, hk2, hch2⟩ := hch.out
      have HC2 := Lib.hid hch2
      clear hch2
      rcases hn1 with hf0 | ⟨b2, off2, rfl, hb2, hc2⟩
      · rw [hf0] at hk2; simp at hk2
      have hcf := (hbel.cell (p := ⟨b2, off2 + (k - 1), none⟩) hb2).trans (hc2 (k - 1) hk2)
      have hkk : (k : Int) - 1 = ((k - 1 : Nat) : Int) := by omega
      obtain ⟨v0, hck⟩ := own_cell_any hown r (by omega)
      have hfz := hown.frozenAt r
      have hne : b2 ≠ w1.heap.size := by omega
      clear hc2
      have hfk := hfb fr[k - 1] (List.getElem_mem hk2)
      go_wp2
      go_roundw
      case rel =>
        go_light
        refine ⟨r, fr[k - 1], (k - 1) :: tail, by omega, rfl, by go_num, ?_, ?_, by rw [List.length_cons]; omega, hfk, ?_, hbel.setCell (p := ⟨w1.heap.size, r, none⟩) (Nat.le_refl _) _⟩
        · have := HC2.out
          rw [List.getD_eq_getElem?_getD, List.getElem?_eq_getElem hk2] at this
          exact this
        · have h2 := hpt.out
          rw [partsGo, List.getD_eq_getElem?_getD, List.getElem?_eq_getElem hk2, List.append_assoc] at h2
          exact h2
        · have h2 := (hown.stored r (.int .i64 ((k - 1 : Nat) : Int))).1
          rw [ints_set, set_ahead] at h2
          exact h2
      case measure => simp [intOf]
end Go.Proofs.YtgopflklcfcocaaDoor
