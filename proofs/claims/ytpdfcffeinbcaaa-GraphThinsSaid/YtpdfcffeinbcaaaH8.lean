/- Rows that rise, by insertion: Has, Rising; places that are true. -/
import Derived.Test.YtpdfcffeinbcaaaH2
namespace Go.Proofs.Ytpdfcffeinbcaaa
open Go.RowKit
theorem has_c {w : World} {X : Option Addr} (d : Nat) {l : List Int} (x : Int) (hr : RowAt w X (I l)) (hl : l.length ≤ 4611686018427387904) :
    Calls Try.prog 70 #[.slice X l.length d, .int .i64 x] w fun e w' => e = .returned (.bool (decide (x ∈ l))) ∧ w' = w := by
  have HR := Lib.hid hr
  obtain ⟨b, hb⟩ : ∃ b, b = decide (x ∈ l) := ⟨_, rfl⟩
  rw [← hb]
  have HB := Lib.hid hb
  clear hr hb
  go_enter Try.func70, Try.ntmps70
  go_wp2
  go_loopw [5] (fun i wr => wr = w ∧ ∃ j : Nat, i = .int .i64 j ∧ j ≤ l.length ∧ x ∉ l.take j) (fun i _ => l.length - (intOf i).toNat)
  case atStart => exact ⟨rfl, 0, rfl, by omega, by simp⟩
  case round =>
    obtain ⟨rfl, j, rfl, hj, hn⟩ := hrel
    have HN := Lib.hid hn
    clear hn
    by_cases hlt : j < l.length
    · have hj0 : (0 : Int) ≤ (j : Int) := by omega
      have hj1 : (j : Int) < (l.length : Int) := by omega
      obtain ⟨bb, off, rfl, hcj⟩ := HR.out.int hlt
      obtain ⟨m, hm⟩ : ∃ m, m = l[j] := ⟨_, rfl⟩
      rw [← hm] at hcj
      have HM := Lib.hid hm
      clear hm
      by_cases hmx : m = x
      · obtain rfl : b = true := by rw [HB.out, decide_eq_true_eq, ← hmx, HM.out]; exact List.getElem_mem hlt
        have hd : (m == x) = true := by simpa using hmx
        have HMX := Lib.hid hmx
        clear hmx
        go_wp2
        go_ret
        exact ⟨rfl, rfl⟩
      · have hd : (m == x) = false := by simpa using hmx
        have HMX := Lib.hid hmx
        clear hmx
        go_wp2
        go_roundw
        case rel =>
          refine ⟨trivial, j + 1, by go_num, by omega, ?_⟩
          rw [List.take_succ_eq_append_getElem hlt, List.mem_append, List.mem_singleton]
          rintro (h | h)
          · exact HN.out h
          · exact HMX.out (by rw [HM.out]; exact h.symm)
        case measure => simp [intOf]; omega
    · have hge : ¬ (j : Int) < (l.length : Int) := by omega
      have hm : l.take j = l := List.take_of_length_le (by omega)
      obtain rfl : b = false := by have := HN.out; rw [hm] at this; rw [HB.out, decide_eq_false_iff_not]; exact this
      clear hm
      go_wp2
      go_ret
      exact ⟨rfl, rfl⟩
/-- The row that rises with a row's numbers, each once. -/
def risF (l : List Int) : List Int := Lib.compact (sortI l)
theorem risF_spec (l : List Int) : (risF l).Pairwise (· < ·) ∧ ∀ x, x ∈ risF l ↔ x ∈ l := ⟨(compact_rising (sortI_le _)).1, fun x => by unfold risF; rw [(compact_rising (sortI_le _)).2, (sortI_perm _).mem_iff]⟩
theorem risF_len (l : List Int) : (risF l).length ≤ l.length := by unfold risF; exact Nat.le_trans (Lib.compact_length_le _) (by rw [sortI_length]; exact Nat.le_refl _)
/-- x laid into a row that rises, at its place. -/
theorem insert_rising {o : List Int} {x : Int} {p : Nat} (ho : o.Pairwise (· < ·)) (hx : x ∉ o) (hp : p ≤ o.length) (h1 : ∀ i (h : i < o.length), p ≤ i → x < o[i]) (h2 : ∀ i (h : i < o.length), i + 1 = p → o[i] ≤ x) :
    (o.take p ++ x :: o.drop p).Pairwise (· < ·) ∧ ∀ y, y ∈ o.take p ++ x :: o.drop p ↔ y ∈ o ∨ y = x := by
  have hsplit : o.take p ++ o.drop p = o := List.take_append_drop p o
  have hlow : ∀ i (h : i < o.length), i < p → o[i] < x := fun i h hip => by
    have hl : p - 1 < o.length := by omega
    have h3 := h2 (p - 1) hl (by omega)
    have hne : o[p - 1] ≠ x := fun e => hx (by rw [← e]; exact List.getElem_mem hl)
    rcases Nat.lt_or_ge i (p - 1) with c | c
    · have := List.pairwise_iff_getElem.1 ho i (p - 1) h hl c; omega
    · have : i = p - 1 := by omega
      subst this; omega
  constructor
  · rw [List.pairwise_append]
    have ho2 := ho
    rw [← hsplit, List.pairwise_append] at ho2
    refine ⟨ho2.1, ?_, fun a ha b hb => ?_⟩
    · rw [List.pairwise_cons]
      refine ⟨fun b hb => ?_, ho2.2.1⟩
      obtain ⟨i, hi, rfl⟩ := List.mem_iff_getElem.1 hb
      rw [List.getElem_drop]
      exact h1 _ (by simp at hi; omega) (by omega)
    · obtain ⟨i, hi, rfl⟩ := List.mem_iff_getElem.1 ha
      have hi2 : i < p ∧ i < o.length := by rw [List.length_take] at hi; omega
      have hax := hlow i hi2.2 hi2.1
      rw [List.getElem_take]
      rcases List.mem_cons.1 hb with rfl | hb
      · exact hax
      · exact ho2.2.2 _ (by rw [List.mem_take_iff_getElem]; exact ⟨i, by omega, rfl⟩) b hb
  · intro y
    conv => rhs; rw [← hsplit]
    rw [List.mem_append, List.mem_cons, List.mem_append]
    constructor
    · rintro (h | h | h)
      · exact .inl (.inl h)
      · exact .inr h
      · exact .inl (.inr h)
    · rintro ((h | h) | h)
      · exact .inl h
      · exact .inr (.inr h)
      · exact .inr (.inl h)
end Go.Proofs.Ytpdfcffeinbcaaa
