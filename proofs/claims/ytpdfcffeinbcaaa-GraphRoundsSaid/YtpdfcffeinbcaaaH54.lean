/- How far each node is: the function that is handed each node. -/
import Derived.Test.YtpdfcffeinbcaaaH51
import Derived.Test.YtpdfcffeinbcaaaH53
import Derived.Test.YtpdfcffeinbcaaaH44
import Derived.StillTailTactics
namespace Go.Proofs.Ytpdfcffeinbcaaa
open Go.RowKit
def FarK (fb n : Nat) (adj : Int → List Int) (x0 : Int) (ws : World) (l : List Int) (O : List Nat) (w' : World) : Prop := O = [fb] ∧ Moves [fb] ws w' ∧ NumAt w' fb n fun i => farF adj x0 l i
set_option maxHeartbeats 4000000 in
set_option maxRecDepth 100000 in
theorem see2_c {fb n p8 p9 bb bd : Nat} {adj : Int → List Int} {x0 : Int} {ws w6 : World} (hn : n ≤ 4096)
    (h8 : ws.cell? ⟨p8, 0, none⟩ = some (.slice (some ⟨bb, 0, none⟩) n bd)) (h9 : ws.cell? ⟨p9, 0, none⟩ = some (.slice (some ⟨fb, 0, none⟩) n n)) (ne8 : p8 ≠ fb) (ne9 : p9 ≠ fb)
    (hb6 : Below w6.heap.size w6 ws) (hfb6 : w6.heap.size ≤ fb) (hbb : bb < w6.heap.size)
    (hrows : ∀ i : Nat, i < n → ∃ Y d, w6.cell? ⟨bb, i, none⟩ = some (.slice Y (adj i).length d) ∧ RowAt w6 Y (I (adj i)))
    (hadj : ∀ i : Nat, i < n → ∀ y ∈ adj i, 0 ≤ y ∧ y < (n : Int)) (hal : ∀ i : Nat, i < n → (adj i).length ≤ 16384) :
    Sees2 69 (.pointer (some ⟨p8, 0, none⟩)) (.pointer (some ⟨p9, 0, none⟩)) n (FarK fb n adj x0 ws) [fb] ws := by
  have hp8 : p8 < ws.heap.size := World.block_lt_of_cell? ws _ h8
  have hp9 : p9 < ws.heap.size := World.block_lt_of_cell? ws _ h9
  refine ⟨fun x y z w => enters_of Try.func69 (by kernel_rfl) rfl _ _, fun h o ho => ?_, fun {l O w w'} h hs hm => ?_, fun l O x w hK hlen hx => ?_⟩
  · obtain ⟨rfl, _, h⟩ := h
    rw [List.mem_singleton.1 ho]; exact h.1
  · obtain ⟨rfl, _, h⟩ := h
    have hb := hs.2.2.2.2 fb (by simp) h.1
    refine ⟨rfl, hm, Nat.lt_of_lt_of_le h.1 hs.2.2.2.1, fun i hi => (World.cell?_of_block (a := ⟨fb, i, none⟩) hb).trans (h.2.1 i hi), fun j => ?_⟩
    have := h.2.2 j
    unfold World.frozen? at this ⊢
    rw [hb]; exact this
  · obtain ⟨rfl, hm, hN⟩ := hK
    have hbw : ∀ w', Moves [fb] ws w' → Below w6.heap.size w6 w' := fun w' h => hb6.trans (h.below hb6.size (by simpa using hfb6))
    obtain ⟨Y, dY, hcY0, hrY0⟩ := hrows x hx
    have hxr := hadj x hx
    have hxl := hal x hx
    have hfb := farF_bound adj x0 l
    have hstep := farF_snoc adj x0 l x
    unfold farStep at hstep
    obtain ⟨row, hrow⟩ : ∃ row, row = adj x := ⟨_, rfl⟩
    rw [← hrow] at hcY0 hrY0 hxr hxl hstep
    obtain ⟨f0, hf0⟩ : ∃ f0, f0 = farF adj x0 l := ⟨_, rfl⟩
    rw [← hf0] at hfb hstep hN
    have hB : FarB (l.length : Int) x f0 := ⟨(hfb x).2, fun y => (hfb y).1, fun y => by have := (hfb y).2; omega⟩
    have c8 := (hm.cell hp8 (by simpa using ne8) 0).trans h8
    have c9 := (hm.cell hp9 (by simpa using ne9) 0).trans h9
    have cY := ((hbw w hm).cell (p := ⟨bb, x, none⟩) hbb).trans hcY0
    have hx0 : (0 : Int) ≤ (x : Int) := by omega
    have hx1 : (x : Int) < (n : Int) := by omega
    have HBW := Lib.hid hbw
    have HRY := Lib.hid hrY0
    have HXR := Lib.hid hxr
    have HB := Lib.hid hB
    have HN := Lib.hid hN
    have HM := Lib.hid hm
    have HSTEP := Lib.hid hstep
    have HC8 := Lib.hid (fun w' (h : Moves [fb] ws w') => (h.cell hp8 (by simpa using ne8) 0).trans h8)
    have HC9 := Lib.hid (fun w' (h : Moves [fb] ws w') => (h.cell hp9 (by simpa using ne9) 0).trans h9)
    clear hrow hf0 hB hfb hN hm hstep hcY0 hrY0 hxr hbw hrows hadj hal h8 h9 hb6
    go_enter Try.func69, Try.ntmps69
    go_wp2
    go_loopw [11] (fun i wr => ∃ m : Nat, i = .int .i64 m ∧ m ≤ row.length ∧ Moves [fb] w wr ∧ NumAt wr fb n (fun i => (row.take m).foldl (farPut x) f0 i)) (fun i _ => row.length - (intOf i).toNat)
    case atStart => exact ⟨0, rfl, by omega, Moves.refl _ _, by simpa using HN.out⟩
    case round =>
      obtain ⟨m, rfl, hmr, hmv, hN⟩ := hrel
      have hms : Moves [fb] ws wr := HM.out.trans hmv
      by_cases hlt : m < row.length
      · have hj0 : (0 : Int) ≤ (m : Int) := by omega
        have hj1 : (m : Int) < (row.length : Int) := by omega
        obtain ⟨b, off, rfl, hcj⟩ := (HRY.out.below (HBW.out _ hms)).int hlt
        have hyr := HXR.out _ (List.getElem_mem hlt)
        have hB := HB.out.fold (by omega) (row.take m)
        have hsucc : (row.take (m + 1)).foldl (farPut x) f0 = farPut x ((row.take m).foldl (farPut x) f0) row[m] := by rw [List.take_succ_eq_append_getElem hlt, List.foldl_append]; rfl
        obtain ⟨y, hy⟩ : ∃ y : Nat, row[m] = (y : Int) := ⟨row[m].toNat, by omega⟩
        rw [hy] at hcj hyr hsucc
        have hyn : y < n := by omega
        have hy0 : (0 : Int) ≤ (y : Int) := by omega
        have hy1 : (y : Int) < (n : Int) := by omega
        obtain ⟨f, hf⟩ : ∃ f, f = (row.take m).foldl (farPut x) f0 := ⟨_, rfl⟩
        rw [← hf] at hN hsucc hB
        have c9r := HC9.out wr hms
        have ky : wr.cell? ⟨fb, y, none⟩ = some (.int .i64 (f y)) := hN.2.1 y hyn
        have kx : wr.cell? ⟨fb, x, none⟩ = some (.int .i64 (f x)) := hN.2.1 x hx
        have kz : wr.frozen? ⟨fb, y, none⟩ = false := hN.2.2 y
        have hbx1 := hB.at_
        have hbx0 := hB.lo x
        have hfp : farPut (x : Int) f (y : Int) = if f y < 0 then setI f y (f x + 1) else f := rfl
        rw [hfp] at hsucc
        clear hfp
        by_cases hneg : f y < 0
        · rw [if_pos hneg] at hsucc
          have hput := num_set hN hyn (y := f x + 1)
          obtain ⟨fx, hfx⟩ : ∃ fx, fx = f x := ⟨_, rfl⟩
          obtain ⟨fy, hfy⟩ : ∃ fy, fy = f y := ⟨_, rfl⟩
          rw [← hfx] at kx hput hsucc hbx1 hbx0
          rw [← hfy] at ky hneg
          have hput2 : NumAt (wr.drew.setCell ⟨fb, y, none⟩ (.int .i64 (fx + 1))) fb n (fun i => setI f y (fx + 1) i) := hput
          have HPUT := Lib.hid hput2
          have HSUCC := Lib.hid hsucc
          have HMV := Lib.hid (show Moves [fb] w (wr.drew.setCell ⟨fb, y, none⟩ (.int .i64 (fx + 1))) from (hmv.trans ⟨rfl, rfl, rfl, Nat.le_refl _, fun _ _ _ => rfl⟩).trans (Moves.set _ _ _ (by simp)))
          clear hput hput2 hsucc hmv hms hN hB hf hy hfx hfy hyr
          go_wp2_with fail
          go_still_tail 8, (by kernel_rfl)
          change wpList _ _ _ _ _ wr.drew
          have d1 : wr.drew.cell? ⟨fb, y, none⟩ = some (.int .i64 fy) := ky
          have d2 : wr.drew.frozen? ⟨fb, y, none⟩ = false := kz
          obtain ⟨wd, hwd⟩ : ∃ wd, wd = wr.drew := ⟨_, rfl⟩
          rw [← hwd] at d1 d2 HPUT HMV ⊢
          clear hwd ky kz kx
          go_wp2
          go_roundw
          case rel => exact ⟨m + 1, by go_num, by omega, HMV.out, by rw [HSUCC.out]; exact HPUT.out⟩
          case measure => simp [intOf]; omega
        · rw [if_neg hneg] at hsucc
          obtain ⟨fy, hfy⟩ : ∃ fy, fy = f y := ⟨_, rfl⟩
          rw [← hfy] at ky hneg
          have HSUCC := Lib.hid hsucc
          have HMV := Lib.hid hmv
          have HN2 := Lib.hid hN
          clear hsucc hmv hms hN hB hf hy hfy hyr kx kz hbx1 hbx0
          go_wp2
          go_roundw
          case rel => exact ⟨m + 1, by go_num, by omega, HMV.out, by rw [HSUCC.out]; exact HN2.out⟩
          case measure => simp [intOf]; omega
      · have hge : ¬ (m : Int) < (row.length : Int) := by omega
        rw [show row.take m = row from List.take_of_length_le (by omega)] at hN
        have HMV := Lib.hid hmv
        have HMS := Lib.hid hms
        have HN2 := Lib.hid hN
        clear hmv hms hN
        go_wp2
        go_end0
        exact ⟨rfl, [fb], ⟨rfl, HMS.out, by rw [HSTEP.out]; exact HN2.out⟩, HMV.out, by simp⟩
end Go.Proofs.Ytpdfcffeinbcaaa
