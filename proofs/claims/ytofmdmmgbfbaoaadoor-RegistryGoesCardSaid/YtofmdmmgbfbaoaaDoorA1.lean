/- The functions of package lex that tell names, and slices.Index, slices.Contains at strings. -/
import Derived.Test.YtofmdmmgbfbaoaaDoorProg
import Derived.Test.YtofmdmmgbfbaoaaDoorA0
namespace Go.Proofs.YtofmdmmgbfbaoaaDoor
open Go.RowKit

def letterB (c : Int) : Bool := decide (97 ≤ c ∧ c ≤ 122)
def digitB (c : Int) : Bool := decide (48 ≤ c ∧ c ≤ 57)

theorem letter_c (c : Int) (w : World) :
    Calls Tryd.prog 65 #[.int .u8 c] w fun e w' => e = .returned (.bool (letterB c)) ∧ w = w' := by
  go_enter Tryd.func65, Tryd.ntmps65
  go_wp2
  all_goals (go_ret; refine ⟨ret_bool ?_, rfl⟩; simp only [letterB]; congr 2; simp; omega)
theorem digit_c (c : Int) (w : World) :
    Calls Tryd.prog 66 #[.int .u8 c] w fun e w' => e = .returned (.bool (digitB c)) ∧ w = w' := by
  go_enter Tryd.func66, Tryd.ntmps66
  go_wp2
  all_goals (go_ret; refine ⟨ret_bool ?_, rfl⟩; simp only [digitB]; congr 2; simp; omega)
def wordB (c : Int) : Bool := letterB c || digitB c || c == 95
def scanW (s : ByteArray) (i : Nat) : Nat :=
  if h : i < s.size then (if wordB (s[i].toNat : Int) then scanW s (i + 1) else i) else i
termination_by s.size - i

theorem word_loop (s : ByteArray) (i : Nat) (w : World) (hs : s.size ≤ 140737488355328) (hi : i < s.size) (hl : letterB (s[i].toNat : Int) = true) :
    Calls Tryd.prog 50 #[.string s, .int .i64 i] w fun e w' => e = .returned (.int .i64 (scanW s i)) ∧ w = w' := by
  have hb : decide (s.size ≤ i) = false := by simp; omega
  go_enter Tryd.func50, Tryd.ntmps50
  go_wp2_with (first | (go_at_call 65; refine (letter_c _ _).mono ?_; rintro e w' ⟨rfl, rfl⟩) | (go_at_call 66; refine (digit_c _ _).mono ?_; rintro e w' ⟨rfl, rfl⟩))
  go_loop [1] (fun v => ∃ k : Nat, k ≤ s.size ∧ v = .int .i64 k ∧ scanW s k = scanW s i) (fun v => s.size - (intOf v).toNat)
  case atStart => exact ⟨i, by omega, rfl, rfl⟩
  case round =>
    obtain ⟨k, hk, rfl, hr⟩ := hrel
    have HR := Lib.hid hr
    clear hr
    by_cases hlt : k < s.size
    · have hu : scanW s k = if wordB (s[k].toNat : Int) then scanW s (k + 1) else k := by rw [scanW, dif_pos hlt]
      have HU := Lib.hid hu
      clear hu
      go_wp2_with (first | (go_at_call 65; refine (letter_c _ _).mono ?_; rintro e w' ⟨rfl, rfl⟩) | (go_at_call 66; refine (digit_c _ _).mono ?_; rintro e w' ⟨rfl, rfl⟩))
      iterate 3
        · go_round
          case rel => exact ⟨k + 1, by omega, by go_num, by rw [← HR.out, HU.out]; simp [wordB, *]⟩
          case measure => simp [intOf]; omega
      · go_ret
        refine ⟨?_, rfl⟩
        rw [← HR.out, HU.out]; simp [wordB, *]
    · go_wp2
      go_ret
      exact ⟨ret_nat (by rw [← HR.out, scanW, dif_neg hlt]), rfl⟩
theorem word_no (s : ByteArray) (i : Nat) (w : World) (hi : ∀ h : i < s.size, letterB (s[i].toNat : Int) = false) :
    Calls Tryd.prog 50 #[.string s, .int .i64 i] w fun e w' => e = .returned (.int .i64 i) ∧ w = w' := by
  by_cases hlt : i < s.size
  · have h1 := hi hlt
    clear hi
    go_enter Tryd.func50, Tryd.ntmps50
    go_wp2_with (first | (go_at_call 65; refine (letter_c _ _).mono ?_; rintro e w' ⟨rfl, rfl⟩) | (go_at_call 66; refine (digit_c _ _).mono ?_; rintro e w' ⟨rfl, rfl⟩))
    go_ret
    exact ⟨rfl, rfl⟩
  · clear hi
    go_enter Tryd.func50, Tryd.ntmps50
    go_wp2
    go_ret
    exact ⟨rfl, rfl⟩
def wordEnd (s : ByteArray) (i : Nat) : Nat := if h : i < s.size then (if letterB (s[i].toNat : Int) then scanW s i else i) else i
theorem word_c (s : ByteArray) (i : Nat) (w : World) (hs : s.size ≤ 140737488355328) :
    Calls Tryd.prog 50 #[.string s, .int .i64 i] w fun e w' => e = .returned (.int .i64 (wordEnd s i)) ∧ w = w' := by
  unfold wordEnd
  by_cases hlt : i < s.size
  · rw [dif_pos hlt]
    cases hl : letterB (s[i].toNat : Int)
    · exact word_no s i w (fun _ => hl)
    · exact word_loop s i w hs hlt hl
  · rw [dif_neg hlt]; exact word_no s i w (fun h => absurd h hlt)

/-- slices.Index -/
def idxFrom (xs : List ByteArray) (s : ByteArray) (k : Nat) : Int :=
  if h : k < xs.length then (if s = xs[k] then (k : Int) else idxFrom xs s (k + 1)) else -1
termination_by xs.length - k
theorem index_str (xs : List ByteArray) (s : ByteArray) (A : Option Addr) (c : Nat) (w : World) (hx : StrsAt w A xs) (hl : xs.length ≤ 140737488355328) :
    Calls Tryd.prog 64 #[.slice A xs.length c, .string s] w fun e w' => e = .returned (.int .i64 (idxFrom xs s 0)) ∧ w = w' := by
  go_enter Tryd.func64, Tryd.ntmps64
  go_wp2
  go_loop [8] (fun v => ∃ k : Nat, k ≤ xs.length ∧ v = .int .i64 k ∧ idxFrom xs s k = idxFrom xs s 0) (fun v => xs.length - (intOf v).toNat)
  case atStart => exact ⟨0, by omega, rfl, rfl⟩
  case round =>
    obtain ⟨k, hk, rfl, hr⟩ := hrel
    have HR := Lib.hid hr
    clear hr
    by_cases hlt : k < xs.length
    · rcases hx with rfl | ⟨b, off, rfl, _, hc⟩
      · simp at hlt
      · have hu : idxFrom xs s k = if s = xs[k] then (k : Int) else idxFrom xs s (k + 1) := by rw [idxFrom, dif_pos hlt]
        have HU := Lib.hid hu
        have h1 := hc k hlt
        clear hu hc
        by_cases he : s = xs[k]
        · have h2 : (s.toList == xs[k].toList) = true := by rw [bytes_beq]; simpa using he
          have HE := Lib.hid he
          clear he
          go_wp2
          go_ret
          exact ⟨ret_int (by rw [← HR.out, HU.out, if_pos HE.out]), rfl⟩
        · have h2 : (s.toList == xs[k].toList) = false := by rw [bytes_beq]; simpa using he
          have HE := Lib.hid he
          clear he
          go_wp2
          go_round
          case rel => exact ⟨k + 1, by omega, by go_num, by rw [← HR.out, HU.out, if_neg HE.out]⟩
          case measure => simp [intOf]; omega
    · go_wp2
      go_ret
      exact ⟨ret_int (by rw [← HR.out, idxFrom, dif_neg hlt]), rfl⟩
theorem idxFrom_nonneg (xs : List ByteArray) (s : ByteArray) (k : Nat) : (0 ≤ idxFrom xs s k) ↔ s ∈ xs.drop k := by
  induction hn : xs.length - k generalizing k with
  | zero =>
    rw [idxFrom, dif_neg (by omega), List.drop_of_length_le (by omega)]
    simp
  | succ n ih =>
    have hlt : k < xs.length := by omega
    rw [idxFrom, dif_pos hlt, List.drop_eq_getElem_cons hlt]
    by_cases he : s = xs[k]
    · rw [if_pos he, List.mem_cons]; exact ⟨fun _ => .inl he, fun _ => by omega⟩
    · rw [if_neg he, ih (k + 1) (by omega), List.mem_cons]; exact ⟨.inr, fun h => h.resolve_left he⟩
theorem contains_str (xs : List ByteArray) (s : ByteArray) (A : Option Addr) (c : Nat) (w : World) (hx : StrsAt w A xs) (hl : xs.length ≤ 140737488355328) :
    Calls Tryd.prog 49 #[.slice A xs.length c, .string s] w fun e w' => e = .returned (.bool (memB s xs)) ∧ w = w' := by
  have hi := idxFrom_nonneg xs s 0
  have HI := Lib.hid hi
  clear hi
  go_enter Tryd.func49, Tryd.ntmps49
  go_wp2_with (go_at_call 64; refine (index_str _ _ _ _ _ hx hl).mono ?_; rintro e w' ⟨rfl, rfl⟩)
  go_ret
  refine ⟨ret_bool ?_, rfl⟩
  have h := HI.out
  rw [List.drop_zero, ← memB_iff] at h
  rw [Bool.eq_iff_iff, ← h]; simp

/-- The keywords. -/
def keyL : List ByteArray := [⟨#[99, 101, 108, 108]⟩, ⟨#[97, 103, 97, 105, 110]⟩, ⟨#[116, 114, 105, 101, 115]⟩, ⟨#[98, 97, 115, 101]⟩, ⟨#[102, 97, 99, 116, 111, 114]⟩, ⟨#[99, 97, 112]⟩, ⟨#[99, 108, 111, 115, 101]⟩, ⟨#[102, 105, 110, 101]⟩, ⟨#[102, 97, 105, 108]⟩, ⟨#[112, 97, 110, 105, 99]⟩, ⟨#[105, 102]⟩, ⟨#[116, 104, 101, 110]⟩, ⟨#[101, 108, 115, 101]⟩, ⟨#[116, 114, 121]⟩, ⟨#[119, 97, 105, 116]⟩, ⟨#[108, 101, 116]⟩, ⟨#[105, 110]⟩, ⟨#[105, 116, 101, 109]⟩, ⟨#[115, 105, 122, 101]⟩]
/-- The variable lex.keys holds them. -/
def KeysIn (w : World) : Prop := StrsAt w (some ⟨0, 0, none⟩) keyL
theorem KeysIn.below {w w' : World} (h : KeysIn w) (hb : Below w.heap.size w w') : KeysIn w' := StrsAt.below h hb
def isKey (s : ByteArray) : Bool := memB s keyL
theorem isKey_c (s : ByteArray) (w : World) (hk : KeysIn w) :
    Calls Tryd.prog 51 #[.string s] w fun e w' => e = .returned (.bool (isKey s)) ∧ w = w' := by
  go_enter Tryd.func51, Tryd.ntmps51
  go_wp2_with (go_at_call 49; refine (contains_str keyL _ _ _ _ hk (by decide)).mono ?_; rintro e w' ⟨rfl, rfl⟩)
  go_ret
  exact ⟨rfl, rfl⟩
def isName (s : ByteArray) : Bool := decide (s.size ≠ 0) && (decide (s.size ≤ 24) && (decide (wordEnd s 0 = s.size) && !isKey s))
theorem isName_c (s : ByteArray) (w : World) (hk : KeysIn w) (hs : s.size ≤ 140737488355328) :
    Calls Tryd.prog 35 #[.string s] w fun e w' => e = .returned (.bool (isName s)) ∧ w = w' := by
  go_enter Tryd.func35, Tryd.ntmps35
  go_wp2_with (first | (go_at_call 50; refine (word_c s 0 _ hs).mono ?_; rintro e w' ⟨rfl, rfl⟩) | (go_at_call 51; refine (isKey_c _ _ hk).mono ?_; rintro e w' ⟨rfl, rfl⟩))
  all_goals (go_ret; refine ⟨ret_bool ?_, rfl⟩)
  all_goals simp only [isName, size_zero, Int.ofNat_inj] at *
  all_goals (rw [Bool.eq_iff_iff]; simp only [Bool.and_eq_true, Bool.not_eq_true', decide_eq_true_eq, List.isEmpty_eq_false_iff, ne_eq, size_zero, Bool.false_eq_true, false_iff, not_and])
  · omega
  · exact ⟨fun h => ⟨h.1, by omega, by assumption, h.2⟩, fun h => ⟨h.1, h.2.2.2⟩⟩
  · intro _ _ h; exact absurd h (by assumption)
  · intro _ h; omega
end Go.Proofs.YtofmdmmgbfbaoaaDoor
