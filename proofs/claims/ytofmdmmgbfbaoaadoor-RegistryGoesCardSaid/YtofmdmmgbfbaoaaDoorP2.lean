/- The document's registry: Find, Names, Missing, Users. -/
import Derived.Test.YtofmdmmgbfbaoaaDoorP1
import Derived.Test.YtofmdmmgbfbaoaaDoorB4
namespace Go.Proofs.YtofmdmmgbfbaoaaDoor
open Go.RowKit Go.Maps Go.ChangeMaps Go.WideShapes

theorem find_of {N : List ByteArray} {s : ByteArray} {k : Nat} (h : idxFrom N s 0 = (k : Int)) : findAns N s = ((k : Int), 0) := by
  have hm := idx_mem N s
  rw [h] at hm
  unfold findAns
  rw [← hm, h]
  simp
theorem find_none {N : List ByteArray} {s : ByteArray} (h : idxFrom N s 0 = -1) : findAns N s = (0, 4) := by
  have hm := idx_mem N s
  rw [h] at hm
  unfold findAns
  rw [← hm]
  simp
set_option maxHeartbeats 2000000 in
theorem refFind_c (ys : List PRow) (V : Option Addr) (c : Nat) (fz : Bool) (s : ByteArray) (w : World) (hx : ProvsAt w V ys) (hl : ys.length ≤ 256) :
    Calls Tryd.prog 39 #[.agg #[.slice V ys.length c, .bool fz], .string s] w fun e w' => e = .returned (.tuple #[.int .i64 (findAns (namesL ys) s).1, .int .i64 (findAns (namesL ys) s).2]) ∧ Below w.heap.size w w' := by
  have hal : ∀ o, Below w.heap.size w (w.alloc o) := fun o => (Below.refl _ _).alloc (Nat.le_refl _) o
  go_enter Tryd.func39, Tryd.ntmps39
  go_wp2
  go_loop [6] (fun v => ∃ k : Nat, k ≤ ys.length ∧ v = .int .i64 k ∧ Hid (idxFrom (namesL ys) s k = idxFrom (namesL ys) s 0)) (fun v => ys.length - (intOf v).toNat)
  case atStart => exact ⟨0, by omega, rfl, rfl⟩
  case round =>
    obtain ⟨k, hk, rfl, hr⟩ := hrel
    by_cases hlt : k < ys.length
    · rcases hx.lies with h | ⟨b, off, rfl, hb, hc⟩
      · rw [h] at hlt; simp at hlt
      obtain ⟨g0, _⟩ := hc k hlt
      have hst := idx_step (namesL ys) s k (by rw [namesL_length]; exact hlt)
      rw [namesL_get ys k hlt] at hst
      have HST := Lib.hid hst
      have hi0 : (0 : Int) ≤ (k : Int) := Int.natCast_nonneg _
      have hi1 : (k : Int) < (ys.length : Int) := by omega
      clear hst hc
      by_cases he : ys[k].p.name = s
      · have h2 : (ys[k].p.name.toList == s.toList) = true := by rw [bytes_beq]; simpa using he
        have hF := find_of (N := namesL ys) (s := s) (k := k) (by rw [← hr.out, HST.out, if_pos he.symm])
        have HF := Lib.hid hF
        clear he hF
        go_wp2
        go_ret2
        rw [HF.out]
        exact ⟨rfl, hal _⟩
      · have h2 : (ys[k].p.name.toList == s.toList) = false := by rw [bytes_beq]; simpa using he
        have HE := Lib.hid he
        clear he
        go_wp2
        go_round
        case rel => exact ⟨k + 1, by omega, by go_num, by rw [← hr.out, HST.out, if_neg (fun e => HE.out e.symm)]; rfl⟩
        case measure => simp [intOf]; omega
    · have hF := find_none (N := namesL ys) (s := s) (by rw [← hr.out, idx_end _ _ _ (by rw [namesL_length]; omega)])
      have HF := Lib.hid hF
      clear hF
      go_wp2
      go_ret2
      rw [HF.out]
      exact ⟨rfl, hal _⟩
set_option maxHeartbeats 4000000 in
set_option maxRecDepth 100000 in
theorem refNames_c (ys : List PRow) (V : Option Addr) (c : Nat) (fz : Bool) (w : World) (hx : ProvsAt w V ys) (hl : ys.length ≤ 256) :
    Calls Tryd.prog 42 #[.agg #[.slice V ys.length c, .bool fz]] w (RowOnly (namesL ys) w) := by
  obtain ⟨w0, hw0⟩ : ∃ w0 : World, w0 = w.alloc (.cells #[.slice V ys.length c, .bool fz] 48) := ⟨_, rfl⟩
  have hb0 : Below w.heap.size w w0 := by rw [hw0]; exact (Below.refl _ _).alloc (Nat.le_refl _) _
  have hc0 : w0.cell? ⟨w.heap.size, 0, none⟩ = some (.slice V ys.length c) := by rw [hw0]; simp
  have hz0 : w.heap.size < w0.heap.size := by rw [hw0]; simp
  have hx0 := hx.below hb0
  have HW := Lib.hid hw0
  clear hw0 hx
  go_enter Tryd.func42, Tryd.ntmps42
  go_wp2
  go_loopw [3, 4] (fun v i wr => ∃ (k : Nat) (out : List ByteArray), k ≤ ys.length ∧ i = .int .i64 k ∧ out.length ≤ k ∧ Hid (out = (namesL ys).take k) ∧ wr.ownsRow w0.heap.size 9 1 v (out.map Value.string).length (out.map Value.string) ∧ Below w0.heap.size w0 wr) (fun _ i _ => ys.length - (intOf i).toNat)
  case atStart =>
    refine ⟨0, [], by omega, rfl, by simp, rfl, ?_, ?_⟩
    · have h := World.ownsRow_made (base := w0.heap.size) (e := 9) (size := 1) w0 #[] 0 (Nat.le_refl _) (by simp [maxLen]) (by simp)
      rw [HW.out] at h ⊢
      rw [al_size] at h ⊢
      exact h
    · rw [HW.out]; exact (Below.refl _ _).alloc (Nat.le_refl _) _
  case round =>
    obtain ⟨k, out, hk, rfl, ho, hr, hown, hbel⟩ := hrel
    have hbs := hbel.size
    have hcw := (hbel.cell (p := ⟨w.heap.size, 0, none⟩) hz0).trans hc0
    have hzr : w.heap.size < wr.heap.size := Nat.lt_of_lt_of_le hz0 hbs
    by_cases hlt : k < ys.length
    · rcases (hx0.below hbel).lies with h | ⟨b, off, rfl, hb, hc⟩
      · rw [h] at hlt; simp at hlt
      obtain ⟨g0, _⟩ := hc k hlt
      obtain ⟨A1, c1, hA1, hs, hl1⟩ := own_strs hown
      subst hA1
      have hnx : (namesL ys).take (k + 1) = (namesL ys).take k ++ [ys[k].p.name] := by rw [List.take_succ_eq_append_getElem (by rw [namesL_length]; exact hlt), namesL_get ys k hlt]
      have HNX := Lib.hid hnx
      have hi0 : (0 : Int) ≤ (k : Int) := Int.natCast_nonneg _
      have hi1 : (k : Int) < (ys.length : Int) := by omega
      clear hl1 hnx hc
      go_wp2_with (at_builtin; refine app_one (w0 := w0) w0.heap.size (by rfl) _ _ 38 9 (.string ⟨#[]⟩) 16 (by rfl) Tryd.underlying38 info_str rfl (.slice A1 out.length c1) (out.map Value.string) (.string ys[k].p.name) (by rfl) _ (by rfl) rfl rfl hown hbel hbs (by simp; omega) (by simp; omega) ?_; intro v1 w5 hown1 hbel1 _ _)
      go_roundw
      case rel => exact ⟨k + 1, out ++ [ys[k].p.name], by omega, by go_num, by simp; omega, by have := hr.out; show out ++ [_] = _; rw [HNX.out, this], by simpa using hown1, hbel1⟩
      case measure => simp [intOf]; omega
    · have hz : out = namesL ys := by rw [hr.out, List.take_of_length_le (by rw [namesL_length]; omega)]
      have HZ := Lib.hid hz
      obtain ⟨A1, c1, hA1, hs, hl1⟩ := own_strs hown
      subst hA1
      clear hz hl1
      go_wp2
      go_ret
      unfold RowOnly
      rw [← HZ.out]
      exact ⟨A1, c1, rfl, hs, hb0.trans (hbel.mono hb0.size)⟩
theorem refMissing_c (ys : List PRow) (V : Option Addr) (c : Nat) (fz : Bool) (w : World) (hx : ProvsAt w V ys) (hl : ys.length ≤ 256) (hcap : ys.length ≤ c) :
    Calls Tryd.prog 43 #[.agg #[.slice V ys.length c, .bool fz]] w (RowOnly (missAns (provsL ys)).1 w) := by
  have hal : ∀ o, Below w.heap.size w (w.alloc o) := fun o => (Below.refl _ _).alloc (Nat.le_refl _) o
  have hms := fun W h => missR_c ys V c W h (by omega) hcap
  generalize missAns (provsL ys) = ms at *
  obtain ⟨l, fa, fc⟩ := ms
  have HMS := Lib.hid hms
  have HAL := Lib.hid hal
  clear hms hal
  go_enter Tryd.func43, Tryd.ntmps43
  go_wp2_with (go_at_call 61; refine (HMS.out _ (hx.below (HAL.out _))).mono ?_; rintro e w1 ⟨v1, rfl, hown, hb1⟩; obtain ⟨X, d, rfl, hs1, hq⟩ := own_strs hown; clear hq)
  go_ret
  exact ⟨X, d, rfl, hs1.below ((Below.refl _ _).alloc (Nat.le_refl _) _), ((HAL.out _).trans (hb1.mono (HAL.out _).size)).alloc ((HAL.out _).trans (hb1.mono (HAL.out _).size)).size _⟩
end Go.Proofs.YtofmdmmgbfbaoaaDoor
