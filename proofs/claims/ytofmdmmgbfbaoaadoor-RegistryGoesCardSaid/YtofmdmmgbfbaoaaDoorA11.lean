/- The references' names: Word, Keys, In, Name. -/
import Derived.Test.YtofmdmmgbfbaoaaDoorA10
namespace Go.Proofs.YtofmdmmgbfbaoaaDoor
open Go.RowKit

theorem in_c (xs : List ByteArray) (s : ByteArray) (A : Option Addr) (c : Nat) (w : World) (hx : StrsAt w A xs) (hl : xs.length ≤ 140737488355328) :
    Calls Tryd.prog 63 #[.slice A xs.length c, .string s] w fun e w' => e = .returned (.bool (memB s xs)) ∧ w = w' := by
  go_enter Tryd.func63, Tryd.ntmps63
  go_wp2
  go_loop [5] (fun v => ∃ k : Nat, k ≤ xs.length ∧ v = .int .i64 k ∧ Hid (memB s (xs.take k) = false)) (fun v => xs.length - (intOf v).toNat)
  case atStart => exact ⟨0, by omega, rfl, rfl⟩
  case round =>
    obtain ⟨k, hk, rfl, hr⟩ := hrel
    by_cases hlt : k < xs.length
    · rcases hx with rfl | ⟨b, off, rfl, _, hc⟩
      · simp at hlt
      · have h1 := hc k hlt
        clear hc
        by_cases he : xs[k] = s
        · have h2 : (xs[k].toList == s.toList) = true := by rw [bytes_beq]; simpa using he
          have HE := Lib.hid he
          clear he
          go_wp2
          go_ret
          exact ⟨ret_bool (memB_iff.2 (HE.out ▸ List.getElem_mem hlt)).symm, rfl⟩
        · have h2 : (xs[k].toList == s.toList) = false := by rw [bytes_beq]; simpa using he
          have HE := Lib.hid he
          clear he
          go_wp2
          go_round
          case rel =>
            refine ⟨k + 1, by omega, by go_num, ?_⟩
            have h3 : ¬ s ∈ xs.take (k + 1) := by
              rw [List.take_succ_eq_append_getElem hlt, List.mem_append, List.mem_singleton]
              rintro (h | h)
              · exact memB_not.1 hr.out h
              · exact HE.out h.symm
            exact memB_not.2 h3
          case measure => simp [intOf]; omega
    · have h3 := hr.out
      rw [List.take_of_length_le (by omega)] at h3
      have HR := Lib.hid h3
      clear h3
      go_wp2
      go_ret
      exact ⟨ret_bool HR.out.symm, rfl⟩
theorem keys_c (w : World) :
    Calls Tryd.prog 71 #[] w fun e w' => ∃ A c, e = .returned (.slice A keyL.length c) ∧ StrsAt w' A keyL ∧ Below w.heap.size w w' := by
  go_enter Tryd.func71, Tryd.ntmps71
  go_wp2
  go_ret
  refine ⟨_, _, rfl, .inr ⟨_, _, rfl, by simp, fun i hi => ?_⟩, (Below.refl _ _).alloc (Nat.le_refl _) _⟩
  rw [← add_any]
  exact World.news_of_block (heap_alloc_new _ _) i _ (by show (keyL.map Value.string)[i]? = _; simp [hi])
def wordOk (s : ByteArray) : Bool := decide (s.size ≠ 0) && decide (wordEnd s 0 = s.size)
theorem wordB_if (c : Int) : wordB c = ((decide (97 ≤ c) && decide (c ≤ 122) || decide (48 ≤ c) && decide (c ≤ 57)) || c == 95) := by
  simp [wordB, letterB, digitB, Bool.decide_and]
theorem wordref_c (s : ByteArray) (w : World) (hs : s.size ≤ 140737488355328) :
    Calls Tryd.prog 70 #[.string s] w fun e w' => e = .returned (.bool (wordOk s)) ∧ w = w' := by
  by_cases h0 : s.size = 0
  · have he : s.toList.isEmpty = true := by rw [List.isEmpty_iff, size_zero]; exact h0
    go_enter Tryd.func70, Tryd.ntmps70
    go_wp2
    go_ret
    exact ⟨ret_bool (by simp [wordOk, h0]), rfl⟩
  · have he : s.toList.isEmpty = false := by rw [List.isEmpty_eq_false_iff, ne_eq, size_zero]; exact h0
    have h0' : 0 < s.size := by omega
    have hwe : wordEnd s 0 = if letterB (s[0].toNat : Int) then scanW s 1 else 0 := by
      rw [wordEnd, dif_pos h0']
      split
      · next h => rw [scanW, dif_pos h0', if_pos (by simp [wordB, h])]
      · rfl
    have HW := Lib.hid hwe
    clear hwe
    by_cases hlt : letterB (s[0].toNat : Int) = true
    · have h1 : 97 ≤ s[0].toNat ∧ s[0].toNat ≤ 122 := by simp [letterB] at hlt; omega
      have HL := Lib.hid hlt
      clear hlt
      obtain ⟨h1a, h1b⟩ := h1
      go_enter Tryd.func70, Tryd.ntmps70
      go_wp2
      go_loop [3] (fun v => ∃ k : Nat, 1 ≤ k ∧ k ≤ s.size ∧ v = .int .i64 k ∧ Hid (scanW s k = scanW s 1)) (fun v => s.size - (intOf v).toNat)
      case atStart => exact ⟨1, by omega, by omega, rfl, rfl⟩
      case round =>
        obtain ⟨k, hk1, hk, rfl, hr⟩ := hrel
        by_cases hlt : k < s.size
        · have hu : scanW s k = if wordB (s[k].toNat : Int) then scanW s (k + 1) else k := by rw [scanW, dif_pos hlt]
          have HU := Lib.hid hu
          clear hu
          go_wp2
          all_goals first
            | (go_round
               case rel =>
                 have hb : wordB (s[k].toNat : Int) = true := by rw [wordB_if]; first | (simp_all; done) | (simp_all; omega)
                 have h3 := hr.out
                 rw [HU.out, if_pos hb] at h3
                 exact ⟨k + 1, by omega, by omega, by go_num, h3⟩
               case measure => simp [intOf]; omega)
            | (go_ret
               have hb : wordB (s[k].toNat : Int) = false := by rw [wordB_if]; first | (simp_all; done) | (simp_all; omega)
               have h3 := hr.out
               rw [HU.out, hb] at h3
               refine ⟨ret_bool ?_, rfl⟩
               simp [wordOk, HW.out, HL.out, ← h3]
               omega)
        · go_wp2
          go_ret
          refine ⟨ret_bool ?_, rfl⟩
          obtain rfl : k = s.size := by omega
          have h3 := hr.out
          rw [scanW, dif_neg hlt] at h3
          simp [wordOk, HW.out, HL.out, ← h3, h0]
    · have h1 : ¬ (97 ≤ s[0].toNat ∧ s[0].toNat ≤ 122) := by simp [letterB] at hlt; omega
      have HL := Lib.hid hlt
      clear hlt
      have hz : wordOk s = false := by simp [wordOk, HW.out, HL.out]; omega
      have HZ := Lib.hid hz
      clear hz
      go_enter Tryd.func70, Tryd.ntmps70
      go_wp2
      all_goals (go_ret; exact ⟨ret_bool HZ.out.symm, rfl⟩)
theorem name_c (s : ByteArray) (w : World) (hs : s.size ≤ 140737488355328) :
    Calls Tryd.prog 56 #[.string s] w fun e w' => e = .returned (.bool (isName s)) ∧ Below w.heap.size w w' := by
  go_enter Tryd.func56, Tryd.ntmps56
  go_wp2_with (first | (go_at_call 70; refine (wordref_c s _ hs).mono ?_; rintro e w' ⟨rfl, rfl⟩) | (go_at_call 71; refine (keys_c _).mono ?_; rintro e w1 ⟨A1, c1, rfl, hs1, hb1⟩) | (go_at_call 63; refine (in_c keyL s _ _ _ hs1 (by decide)).mono ?_; rintro e w' ⟨rfl, rfl⟩))
  all_goals go_ret
  all_goals refine ⟨ret_bool ?_, by first | exact Below.refl _ _ | exact hb1⟩
  all_goals (simp only [isName, isKey, wordOk] at *; first | (simp_all; done) | (simp_all; omega))
end Go.Proofs.YtofmdmmgbfbaoaaDoor
