/- A clock under calls. -/
import Derived.Test.YtjlapnnmdfdjdaaC20
import Derived.Test.YtjlapnnmdfdjdaaC50
namespace Go.Proofs.Ytjlapnnmdfdjdaa
open Go.RowKit
def play1 (c : Clk) (x : CallR) : Clk :=
  if x.k % 7 = 0 then (c.at_ x.a).1 else if x.k % 7 = 1 then (c.after x.a).1 else if x.k % 7 = 2 then (c.every x.a x.b).1 else if x.k % 7 = 3 then (c.stop x.a).1
  else if x.k % 7 = 4 then (c.move x.a x.b).1 else if x.k % 7 = 5 then (c.adv x.a).1 else c
def playF (xs : List CallR) : Clk := xs.foldl play1 clk0
theorem at_last (c : Clk) (a : Int) : (c.at_ a).1.last ≤ c.last + 1 := by unfold Clk.at_ Clk.set; split; simp only; omega; split; simp only; omega; simp only; omega
theorem after_last (c : Clk) (a : Int) : (c.after a).1.last ≤ c.last + 1 := by unfold Clk.after Clk.set; split; simp only; omega; split; simp only; omega; simp only; omega
theorem every_last (c : Clk) (a b : Int) : (c.every a b).1.last ≤ c.last + 1 := by unfold Clk.every Clk.set; split; simp only; omega; split; simp only; omega; simp only; omega
theorem stop_last (c : Clk) (a : Int) : (c.stop a).1.last = c.last := by unfold Clk.stop; split <;> rfl
theorem move_last (c : Clk) (a b : Int) : (c.move a b).1.last = c.last := by unfold Clk.move; split; rfl; split <;> rfl
theorem adv_last (c : Clk) (a : Int) : (c.adv a).1.last = c.last := by unfold Clk.adv; split; rfl; split <;> rfl
theorem play1_ok {c : Clk} (h : c.Ok) (x : CallR) : (play1 c x).Ok ∧ (play1 c x).last ≤ c.last + 1 := by
  have h0 := h.last0
  unfold play1
  split; exact ⟨h.at_ _, at_last _ _⟩
  split; exact ⟨h.after _, after_last _ _⟩
  split; exact ⟨h.every _ _, every_last _ _ _⟩
  split; exact ⟨h.stop _, by rw [stop_last]; omega⟩
  split; exact ⟨h.move _ _, by rw [move_last]; omega⟩
  split; exact ⟨h.adv _, by rw [adv_last]; omega⟩
  exact ⟨h, by omega⟩
theorem playF_ok (xs : List CallR) : (playF xs).Ok ∧ (playF xs).last ≤ xs.length := by
  have : ∀ (xs : List CallR) (c : Clk), c.Ok → (xs.foldl play1 c).Ok ∧ (xs.foldl play1 c).last ≤ c.last + xs.length := fun xs => by
    induction xs with
    | nil => intro c h; exact ⟨h, by simp⟩
    | cons x xs ih =>
      intro c h
      obtain ⟨h1, h2⟩ := play1_ok h x
      obtain ⟨h3, h4⟩ := ih _ h1
      exact ⟨h3, by rw [List.foldl_cons, List.length_cons]; omega⟩
  obtain ⟨h1, h2⟩ := this xs clk0 clk0_ok
  exact ⟨h1, by have e : clk0.last = 0 := rfl; unfold playF; omega⟩
theorem playF_fine {xs : List CallR} (h : xs.length ≤ 8796093022208) : (playF xs).Fine := ⟨(playF_ok xs).1, by have := (playF_ok xs).2; omega⟩
theorem playF_succ {xs : List CallR} {j : Nat} (h : j < xs.length) : playF (xs.take (j + 1)) = play1 (playF (xs.take j)) xs[j] := by
  unfold playF
  rw [List.take_succ_eq_append_getElem h, List.foldl_append]
  rfl
set_option maxRecDepth 100000 in
set_option maxHeartbeats 4000000 in
theorem played_c {w : World} {V : Option Addr} (d : Nat) {xs : List CallR} (hx : RowsIn w V 3 CallR.cells xs) (hl : xs.length ≤ 8796093022208) :
    Calls Try.prog 9 #[.slice V xs.length d] w fun e w' => ∃ B s, e = .returned (cV s) ∧ CAt B s w' (playF xs) ∧ Below w.heap.size w w' ∧ w.heap.size ≤ B := by
  have HN := Lib.hid (new_c w)
  have HX := Lib.hid hx
  clear hx
  go_enter Try.func9, Try.ntmps9
  go_wp2_with fail
  go_at_call 20
  refine HN.out.mono ?_
  rintro e w1 ⟨rfl, hc1, hb1, hz1⟩
  obtain ⟨s0, hs0⟩ : ∃ s, s = w.heap.size := ⟨_, rfl⟩
  rw [← hs0] at hc1
  have HC1 := Lib.hid hc1
  have HB1 := Lib.hid hb1
  have HS0 := Lib.hid hs0
  rw [← hs0]
  clear hc1 hb1 hz1 HN hs0
  go_wp2
  go_loopw [9, 3] (fun i p wr => ∃ (j s B : Nat), i = .int .i64 j ∧ p = cV s ∧ j ≤ xs.length ∧ CAt B s wr (playF (xs.take j)) ∧ Below w.heap.size w wr ∧ w.heap.size ≤ B) (fun i _ _ => xs.length - (intOf i).toNat)
  case atStart => exact ⟨0, s0, s0, rfl, rfl, Nat.zero_le _, HC1.out, HB1.out, Nat.le_of_eq HS0.out.symm⟩
  case round =>
    obtain ⟨j, s, B, rfl, rfl, hj, hc, hb, hB⟩ := hrel
    have HC := Lib.hid hc
    have HB := Lib.hid hb
    clear hc hb
    by_cases hlt : j < xs.length
    · obtain ⟨nb, off, rfl, hnb, hcells⟩ := HX.out.resolve_left (by intro h; rw [h] at hlt; simp at hlt)
      have hj0 : (0 : Int) ≤ (j : Int) := by omega
      have hj1 : (j : Int) < (xs.length : Int) := by omega
      have d1 := (HB.out.cell (p := ⟨nb, off + (j * 3 + 0), none⟩) hnb).trans (hcells j hlt 0 (by omega))
      have d2 := (HB.out.cell (p := ⟨nb, off + (j * 3 + 1), none⟩) hnb).trans (hcells j hlt 1 (by omega))
      have d3 := (HB.out.cell (p := ⟨nb, off + (j * 3 + 2), none⟩) hnb).trans (hcells j hlt 2 (by omega))
      have hsn := playF_succ hlt
      obtain ⟨x, hxj⟩ : ∃ x, x = xs[j] := ⟨_, rfl⟩
      rw [← hxj] at d1 d2 d3 hsn
      obtain ⟨k, a, b⟩ := x
      rw [show CallR.cells ⟨k, a, b⟩ = [.int .i64 k, .int .i64 a, .int .i64 b] from rfl] at d1 d2 d3
      simp only [List.getElem?_cons_zero, List.getElem?_cons_succ, Nat.add_zero] at d1 d2 d3
      rw [show off + (j * 3 + 1) = off + j * 3 + 1 by omega] at d2
      rw [show off + (j * 3 + 2) = off + j * 3 + 2 by omega] at d3
      have hfin : (playF (xs.take j)).Fine := playF_fine (by rw [List.length_take]; omega)
      obtain ⟨W, hW⟩ : ∃ W, W = wr.alloc (.cells #[.int .i64 k, .int .i64 a, .int .i64 b] 50) := ⟨_, rfl⟩
      have hbW : Below wr.heap.size wr W := by rw [hW]; exact (Below.refl _ _).alloc (Nat.le_refl _) _
      have hcW := (HC.out.below hbW).1
      have k0 : W.cell? ⟨wr.heap.size, 0, none⟩ = some (.int .i64 k) := by rw [hW]; exact cell_new _ _ _ _
      have k1 : W.cell? ⟨wr.heap.size, 1, none⟩ = some (.int .i64 a) := by rw [hW]; exact cell_new _ _ _ _
      have k2 : W.cell? ⟨wr.heap.size, 2, none⟩ = some (.int .i64 b) := by rw [hW]; exact cell_new _ _ _ _
      obtain ⟨c, hcc⟩ : ∃ c, c = playF (xs.take j) := ⟨_, rfl⟩
      rw [← hcc] at hsn hfin hcW
      have HBW : Hid (Below w.heap.size w W) := Lib.hid (HB.out.trans (hbW.mono HB.out.size))
      obtain ⟨m, hm⟩ : ∃ m, m = k % 7 := ⟨_, rfl⟩
      have hm7 : 0 ≤ m ∧ m < 7 := by omega
      have ham := among_c k 7 W (by omega)
      rw [← hm] at ham
      unfold play1 at hsn
      simp only [← hm] at hsn
      have HSN := Lib.hid hsn
      have HFN := Lib.hid hfin
      have HCW := Lib.hid hcW
      have HAM := Lib.hid ham
      have HW := Lib.hid hW
      have K0 := Lib.hid k0
      clear hcells hsn hxj hfin hW hbW hcW k0 hcc hm ham
      have hmm : m = 0 ∨ m = 1 ∨ m = 2 ∨ m = 3 ∨ m = 4 ∨ m = 5 ∨ m = 6 := by omega
      clear hm7
      rcases hmm with rfl | rfl | rfl | rfl | rfl | rfl | rfl
      · have HK := Lib.hid (at_c HCW.out HFN.out a)
        have k0 := K0.out
        go_wp2_with fail
        rw [← HW.out]
        go_wp2_with (first | (go_at_call 10; refine HAM.out.mono ?_; rintro e w2 ⟨rfl, rfl⟩) | (go_at_call 24; refine HK.out.mono ?_; rintro e w3 ⟨rfl, hc2, hm2⟩; unfold two))
        go_roundw
        case rel => exact ⟨j + 1, s, B, by go_num, rfl, by omega, by rw [HSN.out]; exact hc2, HBW.out.trans (hm2.below HCW.out hB), hB⟩
        case measure => simp [intOf]; omega
      · have HK := Lib.hid (after_c HCW.out HFN.out a)
        have k0 := K0.out
        go_wp2_with fail
        rw [← HW.out]
        go_wp2_with (first | (go_at_call 10; refine HAM.out.mono ?_; rintro e w2 ⟨rfl, rfl⟩) | (go_at_call 17; refine HK.out.mono ?_; rintro e w3 ⟨rfl, hc2, hm2⟩; unfold two))
        go_roundw
        case rel => exact ⟨j + 1, s, B, by go_num, rfl, by omega, by rw [HSN.out]; exact hc2, HBW.out.trans (hm2.below HCW.out hB), hB⟩
        case measure => simp [intOf]; omega
      · have HK := Lib.hid (every_c HCW.out HFN.out a b)
        have k0 := K0.out
        go_wp2_with fail
        rw [← HW.out]
        go_wp2_with (first | (go_at_call 10; refine HAM.out.mono ?_; rintro e w2 ⟨rfl, rfl⟩) | (go_at_call 25; refine HK.out.mono ?_; rintro e w3 ⟨rfl, hc2, hm2⟩; unfold two))
        go_roundw
        case rel => exact ⟨j + 1, s, B, by go_num, rfl, by omega, by rw [HSN.out]; exact hc2, HBW.out.trans (hm2.below HCW.out hB), hB⟩
        case measure => simp [intOf]; omega
      · have HK := Lib.hid (stop_c HCW.out HFN.out a)
        have k0 := K0.out
        go_wp2_with fail
        rw [← HW.out]
        go_wp2_with (first | (go_at_call 10; refine HAM.out.mono ?_; rintro e w2 ⟨rfl, rfl⟩) | (go_at_call 18; refine HK.out.mono ?_; rintro e w3 ⟨rfl, hc2, hm2⟩))
        go_roundw
        case rel => exact ⟨j + 1, s, B, by go_num, rfl, by omega, by rw [HSN.out]; exact hc2, HBW.out.trans (hm2.below HCW.out hB), hB⟩
        case measure => simp [intOf]; omega
      · have HK := Lib.hid (move_c HCW.out HFN.out a b)
        have k0 := K0.out
        go_wp2_with fail
        rw [← HW.out]
        go_wp2_with (first | (go_at_call 10; refine HAM.out.mono ?_; rintro e w2 ⟨rfl, rfl⟩) | (go_at_call 19; refine HK.out.mono ?_; rintro e w3 ⟨rfl, hc2, hm2⟩))
        go_roundw
        case rel => exact ⟨j + 1, s, B, by go_num, rfl, by omega, by rw [HSN.out]; exact hc2, HBW.out.trans (hm2.below HCW.out hB), hB⟩
        case measure => simp [intOf]; omega
      · have HK := Lib.hid (adv_c HCW.out HFN.out a)
        have k0 := K0.out
        go_wp2_with fail
        rw [← HW.out]
        go_wp2_with (first | (go_at_call 10; refine HAM.out.mono ?_; rintro e w2 ⟨rfl, rfl⟩) | (go_at_call 12; refine HK.out.mono ?_; rintro e w3 ⟨v2, rfl, _, hc2, hm2, _⟩))
        go_roundw
        case rel => exact ⟨j + 1, s, B, by go_num, rfl, by omega, by rw [HSN.out]; exact hc2, HBW.out.trans (hm2.below HCW.out hB), hB⟩
        case measure => simp [intOf]; omega
      · have HK := Lib.hid (cclone_c HCW.out HFN.out)
        have k0 := K0.out
        go_wp2_with fail
        rw [← HW.out]
        go_wp2_with (first | (go_at_call 10; refine HAM.out.mono ?_; rintro e w2 ⟨rfl, rfl⟩) | (go_at_call 11; refine HK.out.mono ?_; rintro e w3 ⟨s2, rfl, hc2, hb2, hs2⟩))
        go_roundw
        case rel => exact ⟨j + 1, s2, _, by go_num, rfl, by omega, by rw [HSN.out]; exact hc2, HBW.out.trans (hb2.mono HBW.out.size), HBW.out.size⟩
        case measure => simp [intOf]; omega
    · have hge : ¬ (j : Int) < (xs.length : Int) := by omega
      obtain rfl : j = xs.length := by omega
      have FIN : Hid (CAt B s wr (playF xs)) := Lib.hid (by have := HC.out; rwa [List.take_length] at this)
      go_wp2
      go_ret
      exact ⟨B, s, rfl, FIN.out, HB.out, hB⟩
end Go.Proofs.Ytjlapnnmdfdjdaa
