/- Weights: whether one is bad; the greatest of them, and where it stands first. -/
import Derived.Test.YtpdfcffeinbcaaaM1
import Derived.Test.YtpdfcffeinbcaaaH35
namespace Go.Proofs.Ytpdfcffeinbcaaa
open Go.RowKit
def badB (x : Int) : Bool := decide (x < 0) || decide (1099511627776 < x)
theorem longest1_c (x : Int) (w : World) : Calls Try.prog 58 #[.int .i64 x] w fun e w' => e = .returned (.bool (badB x)) ∧ w = w' := by
  by_cases h0 : x < 0
  · have hb : badB x = true := by unfold badB; simp [h0]
    rw [hb]
    clear hb
    go_enter Try.func58, Try.ntmps58
    go_wp2
    go_ret
    exact ⟨rfl, rfl⟩
  · by_cases h1 : 1099511627776 < x
    · have hb : badB x = true := by unfold badB; simp [h1]
      rw [hb]
      clear hb
      go_enter Try.func58, Try.ntmps58
      go_wp2
      go_ret
      exact ⟨rfl, rfl⟩
    · have hb : badB x = false := by unfold badB; simp [h0, h1]
      rw [hb]
      clear hb
      go_enter Try.func58, Try.ntmps58
      go_wp2
      go_ret
      exact ⟨rfl, rfl⟩
def IdxPost (xs : List Int) (w : World) (e : Ending) (w' : World) : Prop := ∃ i : Int, e = .returned (.int .i64 i) ∧ ((0 ≤ i ∧ xs.any badB = true) ∨ (i = -1 ∧ xs.any badB = false)) ∧ w = w'
theorem indexFunc_c {w : World} {X : Option Addr} (c : Nat) {xs : List Int} (hr : RowAt w X (I xs)) (hl : xs.length ≤ 4611686018427387904) :
    Calls Try.prog 76 #[.slice X xs.length c, .func (.func 58) #[] #[]] w (IdxPost xs w) := by
  have hcall : ∀ (x : Value) (w : World), (callFunc 58 #[x]).run Try.prog w = .ok (.enter 58 #[x]) w := fun x w => by kernel_rfl
  have HR := Lib.hid hr
  clear hr
  go_enter Try.func76, Try.ntmps76
  go_wp2
  go_loopw [8] (fun i wr => ∃ j : Nat, i = .int .i64 j ∧ j ≤ xs.length ∧ Hid ((xs.take j).any badB = false) ∧ w = wr) (fun i _ => xs.length - (intOf i).toNat)
  case atStart => exact ⟨0, rfl, by omega, Lib.hid rfl, rfl⟩
  case round =>
    obtain ⟨j, rfl, hj, hall, rfl⟩ := hrel
    by_cases hlt : j < xs.length
    · have hj0 : (0 : Int) ≤ (j : Int) := by omega
      have hj1 : (j : Int) < (xs.length : Int) := by omega
      obtain ⟨b, off, rfl, hcj⟩ := HR.out.int hlt
      have hsn : (xs.take (j + 1)).any badB = (badB xs[j] || false) := by
        rw [List.take_succ_eq_append_getElem hlt, List.any_append, hall.out]; simp
      have hin : badB xs[j] = true → xs.any badB = true := fun h => List.any_eq_true.2 ⟨_, List.getElem_mem hlt, h⟩
      obtain ⟨x, hx⟩ : ∃ x, x = xs[j] := ⟨_, rfl⟩
      rw [← hx] at hcj hsn hin
      have HSN := Lib.hid hsn
      have HIN := Lib.hid hin
      clear hx hsn hin
      have hlc := longest1_c x w
      cases hb : badB x with
      | true =>
        rw [hb] at hlc
        have HLC := Lib.hid hlc
        have HF : Hid (IdxPost xs w (.returned (.int .i64 (j : Int))) w) := Lib.hid ⟨j, rfl, .inl ⟨hj0, HIN.out hb⟩, rfl⟩
        clear hlc hb
        go_wp2_with fail
        refine Calls.mono HLC.out ?_
        rintro e w2 ⟨rfl, rfl⟩
        go_wp2
        go_ret
        exact HF.out
      | false =>
        rw [hb] at hlc
        have HLC := Lib.hid hlc
        have HA : Hid ((xs.take (j + 1)).any badB = false) := Lib.hid (by rw [HSN.out, hb]; rfl)
        clear hlc hb
        go_wp2_with fail
        refine Calls.mono HLC.out ?_
        rintro e w2 ⟨rfl, rfl⟩
        go_wp2
        go_roundw
        case rel => exact ⟨j + 1, by go_num, by omega, HA, trivial⟩
        case measure => simp [intOf]; omega
    · have hge : ¬ (j : Int) < (xs.length : Int) := by omega
      have HF : Hid (IdxPost xs w (.returned (.int .i64 (-1))) w) := Lib.hid ⟨-1, rfl, .inr ⟨rfl, by rw [← List.take_of_length_le (show xs.length ≤ j by omega)]; exact hall.out⟩, rfl⟩
      go_wp2
      go_ret
      exact HF.out
theorem containsFunc_c {w : World} {X : Option Addr} (c : Nat) {xs : List Int} (hr : RowAt w X (I xs)) (hl : xs.length ≤ 4611686018427387904) :
    Calls Try.prog 57 #[.slice X xs.length c, .func (.func 58) #[] #[]] w fun e w' => e = .returned (.bool (xs.any badB)) ∧ w = w' := by
  have HI := Lib.hid (indexFunc_c c hr hl)
  clear hr
  obtain ⟨bb, hbb⟩ : ∃ bb, bb = xs.any badB := ⟨_, rfl⟩
  rw [← hbb]
  have HB := Lib.hid hbb
  clear hbb
  go_enter Try.func57, Try.ntmps57
  go_wp2_with fail
  go_at_call 76
  refine HI.out.mono ?_
  rintro e w2 ⟨i, rfl, hi, rfl⟩
  rcases hi with ⟨h0, h1⟩ | ⟨rfl, h1⟩
  · obtain rfl : bb = true := HB.out.trans h1
    clear h1
    go_wp2
    go_ret
    exact ⟨rfl, rfl⟩
  · obtain rfl : bb = false := HB.out.trans h1
    clear h1
    go_wp2
    go_ret
    exact ⟨rfl, rfl⟩
/-- Clone, Max and Index of a row of numbers. -/
theorem clone_row {w : World} {X : Option Addr} (c : Nat) {xs : List Int} (hr : RowAt w X (I xs)) (h0 : 0 < xs.length) (hl : xs.length ≤ 1048576) :
    Calls Try.prog 59 #[.slice X xs.length c] w fun e w' => ∃ v, e = .returned v ∧ w'.ownsRow w.heap.size 3 1 v xs.length (I xs) ∧ Below w.heap.size w w' := by
  rcases hr.ints with h | ⟨b, off, rfl, hb, hc⟩
  · subst h; simp at h0
  · refine (Try.slices_Clone_int b off xs.length c xs w (Nat.le_refl _) (by omega) hc).mono ?_
    rintro e w' ⟨v', rfl, ho, _, hb'⟩
    rw [List.take_length] at ho
    exact ⟨v', rfl, ho, hb'⟩
theorem max_row {w : World} {X : Option Addr} (c : Nat) {xs : List Int} (hr : RowAt w X (I xs)) (h0 : 0 < xs.length) (hl : xs.length ≤ 1048576) :
    Calls Try.prog 61 #[.slice X xs.length c] w fun e w' => e = .returned (.int .i64 (Lib.maxOf xs)) ∧ w = w' := by
  rcases hr.ints with h | ⟨b, off, rfl, hb, hc⟩
  · subst h; simp at h0
  · refine (Try.slices_Max_int b off xs.length c xs w h0 (Nat.le_refl _) (by omega) hc).mono ?_
    rintro e w' ⟨rfl, rfl⟩
    rw [List.take_length]
    exact ⟨rfl, rfl⟩
theorem index_row {w : World} {X : Option Addr} (c : Nat) {xs : List Int} (x : Int) (hr : RowAt w X (I xs)) (h0 : 0 < xs.length) (hl : xs.length ≤ 1048576) :
    Calls Try.prog 62 #[.slice X xs.length c, .int .i64 x] w fun e w' => e = .returned (.int .i64 (Lib.idxOf xs x)) ∧ w = w' := by
  rcases hr.ints with h | ⟨b, off, rfl, hb, hc⟩
  · subst h; simp at h0
  · refine (Try.slices_Index_int b off xs.length c xs x w (Nat.le_refl _) (by omega) hc).mono ?_
    rintro e w' ⟨rfl, rfl⟩
    rw [List.take_length]
    exact ⟨rfl, rfl⟩
end Go.Proofs.Ytpdfcffeinbcaaa
