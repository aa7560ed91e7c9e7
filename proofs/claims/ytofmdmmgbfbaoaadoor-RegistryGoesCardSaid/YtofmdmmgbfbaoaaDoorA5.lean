/- names.begins. -/
import Derived.Test.YtofmdmmgbfbaoaaDoorA4
import Derived.StillTailTactics
import Derived.Deep.OwnRows
namespace Go.Proofs.YtofmdmmgbfbaoaaDoor
open Go.RowKit

theorem info_int : (Tryd.prog.info? 3).map (fun i => (i.zero, i.size, i.bytes)) = some (some (.int .i64 0), 1, 8) := by kernel_rfl
/-- Where each part begins: how it goes on from operation i, with what was told and a stack. -/
def beginsFrom : List XOp → Nat → List Nat → List Nat → Option (List Nat × List Nat)
  | [], _, fr, st => some (fr, st)
  | o :: es, i, fr, st =>
    if wellF o = false ∨ (st.length : Int) < o.n then none
    else
      let k := st.length - o.n.toNat
      let b := if 0 < o.n then st.getD k 0 else i
      beginsFrom es (i + 1) (fr ++ [b]) (st.take k ++ [b])
theorem well_n {o : XOp} (h : wellF o = true) : 0 ≤ o.n := by
  unfold wellF at h
  split at h
  · cases h
  · omega
theorem beginsFrom_drop (es : List XOp) (k : Nat) (h : k < es.length) (fr st : List Nat) :
    beginsFrom (es.drop k) k fr st = if wellF es[k] = false ∨ (st.length : Int) < es[k].n then none
      else beginsFrom (es.drop (k + 1)) (k + 1) (fr ++ [if 0 < es[k].n then st.getD (st.length - es[k].n.toNat) 0 else k]) (st.take (st.length - es[k].n.toNat) ++ [if 0 < es[k].n then st.getD (st.length - es[k].n.toNat) 0 else k]) := by
  rw [List.drop_eq_getElem_cons h, beginsFrom]
theorem own_made_ints (W : World) (base : Nat) (e : TypeId) (m : Nat) (hb : base ≤ W.heap.size) (hm : m ≤ 9223372036854775807) :
    (W.alloc (.cells (madeCells #[.int .i64 0] m) e)).ownsRow base e 1 (.slice (some ⟨W.heap.size, 0, none⟩) m m) m (ints (List.replicate m 0)) := by
  have h := World.ownsRow_lit (size := 1) (e := e) W (madeCells #[.int .i64 0] m) m hb (by simpa [maxLen] using hm) (by simp [size_madeCells])
  rw [toList_madeCells_one] at h
  simpa [ints] using h
def beginsF (es : List XOp) : Option (List Nat × List Nat) := beginsFrom es 0 [] []

/-- What a call of begins comes to. -/
def BeginsPost (es : List XOp) (w : World) (e : Ending) (w' : World) : Prop := Below w.heap.size w w' ∧
  ((beginsF es = none ∧ e = .returned (.tuple #[.slice none 0 0, .bool false])) ∨
   ∃ fr st v, beginsF es = some (fr, st) ∧ e = .returned (.tuple #[v, .bool ((st.length : Int) == 1)]) ∧ w'.ownsRow w.heap.size 3 1 v es.length (ints fr))
set_option maxHeartbeats 2000000 in
set_option maxRecDepth 100000 in
theorem begins_c (es : List XOp) (A : Option Addr) (c : Nat) (w : World) (hx : OpsAt w A es) (hl : es.length * 40 ≤ 140737488355328) (hkeys : KeysIn w) (ht : ∀ o ∈ es, o.text.size ≤ 140737488355328) :
    Calls Tryd.prog 52 #[.slice A es.length c] w (BeginsPost es w) := by
  have hmk : ∀ W : World, (Instr.makeSlice 96 (.int .i64 (es.length : Int)) (.int .i64 (es.length : Int))).run Tryd.prog W = .ok (.slice (some ⟨W.heap.size, 0, none⟩) es.length es.length) (W.alloc (.cells (madeCells #[.int .i64 0] es.length) 3)) :=
    fun W => run_make_row' 96 3 (.int .i64 0) 8 Tryd.underlying96 info_int rfl .i64 .i64 es.length (by omega) (by omega) W
  obtain ⟨i0, hi0, hz0, hz1, hz2⟩ := info_parts info_int
  go_enter Tryd.func52, Tryd.ntmps52
  go_wp2
  go_loopw [5, 15] (fun v i wr => ∃ (k : Nat) (fr st : List Nat) (g cap : Nat), k ≤ es.length ∧ i = .int .i64 k ∧ Hid (beginsFrom (es.drop k) k fr st = beginsF es) ∧ fr.length = k ∧ st.length ≤ k ∧ v = .slice (some ⟨g, 0, none⟩) st.length cap ∧
      wr.ownsRow (w.heap.size + 1) 3 1 (.slice (some ⟨g, 0, none⟩) st.length cap) st.length (ints st) ∧
      wr.ownsRow w.heap.size 3 1 (.slice (some ⟨w.heap.size, 0, none⟩) es.length es.length) es.length (ints (fr ++ List.replicate (es.length - k) 0)) ∧ Below w.heap.size w wr ∧ w.heap.size + 2 ≤ wr.heap.size) (fun _ i _ => es.length - (intOf i).toNat)
  case atStart =>
    refine ⟨0, [], [], w.heap.size + 1, 0, by omega, rfl, rfl, rfl, by simp, rfl, ?_, ?_, ((Below.refl _ _).alloc (Nat.le_refl _) _).alloc (by simp) _, by simp⟩
    · have := World.ownsRow_made (size := 1) (e := 3) (base := w.heap.size + 1) (w.alloc (.cells (madeCells #[.int .i64 0] es.length) 3)) #[] 0 (by simp) (by simp [maxLen]) (by simp)
      simpa [ints] using this
    · exact (own_made_ints w w.heap.size 3 es.length (Nat.le_refl _) (by omega)).alloc _
  case round =>
    obtain ⟨k, fr, st, g, cap, hk, rfl, hr, hfr, hst, rfl, hown, hfrom, hbel, hsz⟩ := hrel
    by_cases hlt : k < es.length
    · rcases hx with rfl | ⟨b, off, rfl, hb, hc⟩
      · simp at hlt
      · obtain ⟨h0, h1, h2, h3⟩ := hc k hlt
        obtain ⟨hcc, hff⟩ := bcell hbel
        have g0 := (hcc b (off + k * 4) hb).trans h0
        have g1 := (hcc b (off + k * 4 + 1) hb).trans h1
        have g2 := (hcc b (off + k * 4 + 2) hb).trans h2
        have g3 := (hcc b (off + k * 4 + 3) hb).trans h3
        have hbr : b < wr.heap.size := Nat.lt_of_lt_of_le hb hbel.size
        have hkw : ∀ o : Obj, KeysIn (wr.alloc o) := fun o => (hkeys.below hbel).below ((Below.refl wr.heap.size wr).alloc (Nat.le_refl _) o)
        have htk := ht es[k] (List.getElem_mem hlt)
        clear hc h0 h1 h2 h3 hcc hff
        have hu := beginsFrom_drop es k hlt fr st
        have HU := Lib.hid hu
        clear hu
        by_cases hw : wellF es[k] = true
        · have hn0 := well_n hw
          obtain ⟨m, hm⟩ := Int.eq_ofNat_of_zero_le hn0
          rw [hm] at g1
          have HM := Lib.hid hm
          have HW := Lib.hid hw
          have hw' : wellF ⟨es[k].kind, m, es[k].int, es[k].text⟩ = true := by rw [← hm]; exact hw
          clear hm hn0 hw
          by_cases hlm : m ≤ st.length
          · have hd : decide ((st.length : Int) < (m : Int)) = false := by simp; omega
            have hkk : (st.length : Int) - (m : Int) = ((st.length - m : Nat) : Int) := by omega
            have hgw := own_blk hown
            have hcap := own_cap hown
            have hj0 : (0 : Int) ≤ ((st.length - m : Nat) : Int) := Int.natCast_nonneg _
            have hj1 : ((st.length - m : Nat) : Int) ≤ (cap : Int) := by omega
            have hj2 : st.length - m ≤ cap := by omega
            by_cases hm0 : m = 0
            · have hm1 : decide ((0 : Int) < (m : Int)) = false := by simp; omega
              have hm2 : decide (0 < m) = false := by simp; omega
              have hm3 : ¬ 0 < m := by omega
              have HM0 := Lib.hid hm0
              clear hm0
              go_wp2_with (go_at_call 67; refine (well_c _ _ _ _ _ (hkw _) htk).mono ?_; rintro e w1 ⟨rfl, hb1⟩; obtain ⟨hc1, hf1⟩ := bcell hb1; have o1 := own_below (hown.alloc _) hb1; have f1 := own_below (hfrom.alloc _) hb1; obtain ⟨v0, hck⟩ := own_cell_any f1 k (by omega); have hfz := f1.frozenAt k; have hs1 := hb1.size)
              have ob := own_blk o1
              have hne : w.heap.size ≠ g := by omega
              have bel1 := (hbel.alloc hbel.size _).trans (hb1.mono (Nat.le_trans hbel.size (by simp)))
              have hs0 : wr.heap.size + 1 ≤ w1.heap.size := by simpa using hs1
              obtain ⟨w2, hw2⟩ : ∃ w2 : World, w2 = w1.setCell ⟨w.heap.size, k, none⟩ (.int .i64 (k : Int)) := ⟨_, rfl⟩
              have o2 := own_take (own_far o1 ⟨w.heap.size, k, none⟩ (.int .i64 (k : Int)) hne) (k := st.length - m) (by omega)
              have f2 := (f1.stored k (.int .i64 (k : Int))).1
              have bel2 := bel1.setCell (p := ⟨w.heap.size, k, none⟩) (Nat.le_refl _) (.int .i64 (k : Int))
              rw [← hw2] at o2 f2 bel2
              rw [ints_take] at o2
              rw [ints_set, set_next fr 0 k es.length k hfr hlt] at f2
              have hs2 : w1.heap.size ≤ w2.heap.size := by rw [hw2]; simp [World.setCell]
              rw [← hw2]
              clear hw2
              have c2 : w2.cell? ⟨w.heap.size, k, none⟩ = some (.int .i64 (k : Int)) := by
                have := own_cell f2 k (by simp; omega)
                simpa [hfr] using this
              have hi0' : (0 : Int) ≤ (k : Int) := Int.natCast_nonneg _
              have hi1 : (k : Int) < (es.length : Int) := by omega
              go_region_held3 (fun w' => w'.cell? ⟨w.heap.size, k, none⟩ = some (.int .i64 (k : Int))) (first | go_keep | (rw [hgrow.cell_far _ (by simp; omega) (by simp [Value.ownBlock]; omega)]; assumption))
                ((refine step_append_lies _ (by rfl) _ _ _ (by rfl) (w.heap.size + 1) 3 i0 _ 1 8 Tryd.underlying96 hi0 hz0 hz1 hz2 rfl (by omega) (.slice (some ⟨g, 0, none⟩) (st.length - m) cap) (st.length - m) _ (by rfl) (o2.alloc _) ⟨w2.heap.size, 0, none⟩ 1 1 [.int .i64 (k : Int)] (by rfl) (by rfl) (World.news_of_block (cs := #[.int .i64 (k : Int)]) (t := 3) (fr := (0, 0)) (heap_alloc_new _ _)) (by simp [Value.oneCell']) (by omega) (by simp only [maxLen]; omega) (by omega) (by simp; omega) (w2.heap.size + 1) (by simp) ?_; intro g3 cap3 w3 o3 hgrow hat hlt3))
              go_wp2
              go_roundw
              case rel =>
                go_light
                refine ⟨k + 1, fr ++ [k], st.take (st.length - m) ++ [k], g3, cap3, by omega, by go_num, ?_, by simp; omega, by simp; omega, ?_, ?_, ?_, ?_, ?_⟩
                · have h1 : beginsFrom (es.drop (k + 1)) (k + 1) (fr ++ [k]) (st.take (st.length - m) ++ [k]) = beginsF es := by
                    rw [← hr.out, HU.out, if_neg (by rw [HM.out, HW.out]; simp; omega), HM.out]
                    simp only [Int.toNat_natCast]
                    rw [if_neg (by omega)]
                  exact h1
                · rw [show (st.take (st.length - m) ++ [k]).length = st.length - m + 1 by rw [List.length_append, List.length_take, List.length_singleton]; omega]
                · rw [show (st.take (st.length - m) ++ [k]).length = st.length - m + 1 by rw [List.length_append, List.length_take, List.length_singleton]; omega, ints_append]
                  have := o3
                  rw [Nat.mul_one] at this
                  exact this
                · exact (own_drew (f2.alloc _)).kept hgrow (.inr (by simp [Value.ownBlock]; omega))
                · exact ((bel2.alloc (by omega) _).drew).grown hgrow (by simp; omega) (fun q hq => by simp [Value.ownBlock] at hq; omega)
                · have := hgrow.size
                  simp at this
                  omega
              case measure => simp [intOf]; omega
            · have hm1 : decide ((0 : Int) < (m : Int)) = true := by simp; omega
              have hsm : st.length - m < st.length := by omega
              have hcs := own_cell hown _ hsm
              go_wp2_with (go_at_call 67; refine (well_c _ _ _ _ _ (hkw _) htk).mono ?_; rintro e w1 ⟨rfl, hb1⟩; obtain ⟨hc1, hf1⟩ := bcell hb1; have o1 := own_below (hown.alloc _) hb1; have f1 := own_below (hfrom.alloc _) hb1; obtain ⟨v0, hck⟩ := own_cell_any f1 k (by omega); have hfz := f1.frozenAt k; have hs1 := hb1.size)
              have ob := own_blk o1
              have hne : w.heap.size ≠ g := by omega
              have bel1 := (hbel.alloc hbel.size _).trans (hb1.mono (Nat.le_trans hbel.size (by simp)))
              have hs0 : wr.heap.size + 1 ≤ w1.heap.size := by simpa using hs1
              obtain ⟨w2, hw2⟩ : ∃ w2 : World, w2 = (w1.setCell ⟨w.heap.size, k, none⟩ (.int .i64 (k : Int))).setCell ⟨w.heap.size, k, none⟩ (.int .i64 (st[st.length - m] : Int)) := ⟨_, rfl⟩
              have o2 := own_take (own_far (own_far o1 ⟨w.heap.size, k, none⟩ (.int .i64 (k : Int)) hne) ⟨w.heap.size, k, none⟩ (.int .i64 (st[st.length - m] : Int)) hne) (k := st.length - m) (by omega)
              have f2 := ((f1.stored k (.int .i64 (k : Int))).1.stored k (.int .i64 (st[st.length - m] : Int))).1
              have bel2 := (bel1.setCell (p := ⟨w.heap.size, k, none⟩) (Nat.le_refl _) (.int .i64 (k : Int))).setCell (p := ⟨w.heap.size, k, none⟩) (Nat.le_refl _) (.int .i64 (st[st.length - m] : Int))
              rw [← hw2] at o2 f2 bel2
              rw [ints_take] at o2
              rw [ints_set, ints_set, List.set_set, set_next fr 0 st[st.length - m] es.length k hfr hlt] at f2
              have hs2 : w1.heap.size ≤ w2.heap.size := by rw [hw2]; simp [World.setCell]
              rw [← hw2]
              clear hw2
              have c2 : w2.cell? ⟨w.heap.size, k, none⟩ = some (.int .i64 (st[st.length - m] : Int)) := by
                have := own_cell f2 k (by simp; omega)
                simpa [hfr] using this
              have hi0' : (0 : Int) ≤ (k : Int) := Int.natCast_nonneg _
              have hi1 : (k : Int) < (es.length : Int) := by omega
              go_region_held3 (fun w' => w'.cell? ⟨w.heap.size, k, none⟩ = some (.int .i64 (st[st.length - m] : Int))) (first | go_keep | (rw [hgrow.cell_far _ (by simp; omega) (by simp [Value.ownBlock]; omega)]; assumption))
                ((refine step_append_lies _ (by rfl) _ _ _ (by rfl) (w.heap.size + 1) 3 i0 _ 1 8 Tryd.underlying96 hi0 hz0 hz1 hz2 rfl (by omega) (.slice (some ⟨g, 0, none⟩) (st.length - m) cap) (st.length - m) _ (by rfl) (o2.alloc _) ⟨w2.heap.size, 0, none⟩ 1 1 [.int .i64 (st[st.length - m] : Int)] (by rfl) (by rfl) (World.news_of_block (cs := #[.int .i64 (st[st.length - m] : Int)]) (t := 3) (fr := (0, 0)) (heap_alloc_new _ _)) (by simp [Value.oneCell']) (by omega) (by simp only [maxLen]; omega) (by omega) (by simp; omega) (w2.heap.size + 1) (by simp) ?_; intro g3 cap3 w3 o3 hgrow hat hlt3))
              go_wp2
              go_roundw
              case rel =>
                go_light
                refine ⟨k + 1, fr ++ [st[st.length - m]], st.take (st.length - m) ++ [st[st.length - m]], g3, cap3, by omega, by go_num, ?_, by simp; omega, by simp; omega, ?_, ?_, ?_, ?_, ?_⟩
                · have h1 : beginsFrom (es.drop (k + 1)) (k + 1) (fr ++ [st[st.length - m]]) (st.take (st.length - m) ++ [st[st.length - m]]) = beginsF es := by
                    rw [← hr.out, HU.out, if_neg (by rw [HM.out, HW.out]; simp; omega), HM.out]
                    simp only [Int.toNat_natCast]
                    rw [if_pos (by omega), List.getD_eq_getElem?_getD, List.getElem?_eq_getElem hsm]; rfl
                  exact h1
                · rw [show (st.take (st.length - m) ++ [st[st.length - m]]).length = st.length - m + 1 by rw [List.length_append, List.length_take, List.length_singleton]; omega]
                · rw [show (st.take (st.length - m) ++ [st[st.length - m]]).length = st.length - m + 1 by rw [List.length_append, List.length_take, List.length_singleton]; omega, ints_append]
                  have := o3
                  rw [Nat.mul_one] at this
                  exact this
                · exact (own_drew (f2.alloc _)).kept hgrow (.inr (by simp [Value.ownBlock]; omega))
                · exact ((bel2.alloc (by omega) _).drew).grown hgrow (by simp; omega) (fun q hq => by simp [Value.ownBlock] at hq; omega)
                · have := hgrow.size
                  simp at this
                  omega
              case measure => simp [intOf]; omega
          · have hd : decide ((st.length : Int) < (m : Int)) = true := by simp; omega
            go_wp2_with (go_at_call 67; refine (well_c _ _ _ _ _ (hkw _) htk).mono ?_; rintro e w1 ⟨rfl, hb1⟩; obtain ⟨hc1, hf1⟩ := bcell hb1)
            go_ret2
            refine ⟨(hbel.alloc hbel.size _).trans (hb1.mono (Nat.le_trans hbel.size (by simp))), .inl ⟨?_, rfl⟩⟩
            rw [← hr.out, HU.out, if_pos]
            right; rw [HM.out]; omega
        · have hw' : wellF ⟨es[k].kind, es[k].n, es[k].int, es[k].text⟩ = false := by simpa using hw
          have HW := Lib.hid hw
          clear hw
          go_wp2_with (go_at_call 67; refine (well_c _ _ _ _ _ (hkw _) htk).mono ?_; rintro e w1 ⟨rfl, hb1⟩; obtain ⟨hc1, hf1⟩ := bcell hb1)
          go_ret2
          refine ⟨(hbel.alloc hbel.size _).trans (hb1.mono (Nat.le_trans hbel.size (by simp))), .inl ⟨?_, rfl⟩⟩
          rw [← hr.out, HU.out, if_pos]
          left; simpa using HW.out
    · have hke : k = es.length := by omega
      have HK := Lib.hid hke
      clear hke
      go_wp2
      go_ret2
      refine ⟨hbel, .inr ⟨fr, st, _, ?_, rfl, ?_⟩⟩
      · rw [← hr.out, List.drop_of_length_le (by omega), beginsFrom]
      · have := hfrom
        rw [show es.length - k = 0 by omega] at this
        simpa using this
end Go.Proofs.YtofmdmmgbfbaoaaDoor
