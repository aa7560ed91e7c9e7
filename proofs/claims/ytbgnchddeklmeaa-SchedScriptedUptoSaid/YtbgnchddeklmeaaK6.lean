/- Fair's pick: the first place of the least number of some. -/
import Derived.Test.YtbgnchddeklmeaaK5
namespace Go.Proofs.Ytbgnchddeklmeaa
open Go.RowKit
theorem foldl_min_le (l : List Int) : ∀ a, l.foldl min a ≤ a ∧ ∀ x ∈ l, l.foldl min a ≤ x := by
  induction l with
  | nil => intro a; simp
  | cons b l ih =>
    intro a
    have h := ih (min a b)
    refine ⟨Int.le_trans h.1 (Int.min_le_left _ _), fun x hx => ?_⟩
    rcases List.mem_cons.1 hx with rfl | hx
    · exact Int.le_trans h.1 (Int.min_le_right _ _)
    · exact h.2 x hx
theorem foldl_min_mem (l : List Int) : ∀ a, l.foldl min a = a ∨ l.foldl min a ∈ l := by
  induction l with
  | nil => intro a; simp
  | cons b l ih =>
    intro a
    rcases ih (min a b) with h | h
    · rw [List.foldl_cons, h]
      rcases Int.le_total a b with c | c
      · left; exact Int.min_eq_left c
      · right; rw [Int.min_eq_right c]; simp
    · right; rw [List.foldl_cons]; exact List.mem_cons_of_mem _ h
theorem minOf_mem {l : List Int} (h : 0 < l.length) : Lib.minOf l ∈ l := by
  cases l with
  | nil => simp at h
  | cons a l =>
    show (a :: l).foldl min a ∈ a :: l
    rw [List.foldl_cons, Int.min_self]
    rcases foldl_min_mem l a with h | h
    · rw [h]; simp
    · exact List.mem_cons_of_mem _ h
theorem minOf_le {l : List Int} {x : Int} (h : x ∈ l) : Lib.minOf l ≤ x := (foldl_min_le l _).2 x h
theorem idxOf_at {l : List Int} {x : Int} (h : x ∈ l) : ∃ k, Lib.idxOf l x = (k : Nat) ∧ ∃ hk : k < l.length, l[k] = x ∧ ∀ j (hj : j < l.length), j < k → l[j] ≠ x := by
  have hk : l.findIdx (· == x) < l.length := List.findIdx_lt_length_of_exists ⟨x, h, by simp⟩
  have h1 : l[l.findIdx (· == x)] = x := by simpa using List.findIdx_getElem (p := (· == x)) (w := hk)
  have h2 : ∀ j (hj : j < l.length), j < l.findIdx (· == x) → l[j] ≠ x := fun j hj hjk => by simpa using List.not_of_lt_findIdx hjk
  refine ⟨_, ?_, hk, h1, h2⟩
  have h3 := Lib.idxOf_hit l l.length (l.findIdx (· == x)) x hk (Nat.le_refl _) (by rw [List.getD_eq_getElem?_getD, List.getElem?_eq_getElem hk]; exact h1) (fun j hj => by rw [List.getD_eq_getElem?_getD, List.getElem?_eq_getElem (by omega)]; exact h2 j (by omega) hj)
  rwa [List.take_length] at h3
def minAt (l : List Int) : Nat := (Lib.idxOf l (Lib.minOf l)).toNat
theorem minAt_spec {l : List Int} (h : 0 < l.length) : Lib.idxOf l (Lib.minOf l) = (minAt l : Nat) ∧ ∃ hk : minAt l < l.length, ∀ x ∈ l, l[minAt l] ≤ x := by
  obtain ⟨k, h1, hk, h2, _⟩ := idxOf_at (minOf_mem h)
  have h3 : minAt l = k := by unfold minAt; rw [h1]; simp
  refine ⟨by rw [h3, h1], by rw [h3]; exact hk, fun x hx => ?_⟩
  have h4 := minOf_le hx
  simp only [h3, h2]
  exact h4
theorem least_c {w : World} {B : Nat} {v : Value} {l : List Int} (ho : w.ownsRow B 3 1 v l.length (I l)) (hl0 : 0 < l.length) (hl : l.length ≤ 4096) :
    Calls Try.prog 23 #[v] w fun e w' => e = .returned (.int .i64 (minAt l : Nat)) ∧ w' = w := by
  obtain ⟨g, cap, rfl, hgl, hc⟩ := own_row2 ho hl0
  have hc2 : ∀ j, j < l.length → w.cell? ⟨g, 0 + j, none⟩ = some (.int .i64 (l.getD j 0)) := fun j h => by rw [Nat.zero_add, hc j h]; simp [List.getD, h]
  have HC := Lib.hid hc2
  have h1 := (minAt_spec hl0).1
  have m1 := Try.slices_Min_int g 0 l.length cap l w hl0 (Nat.le_refl _) (by omega) hc2
  have m2 := Try.slices_Index_int g 0 l.length cap l (Lib.minOf l) w (Nat.le_refl _) (by omega) hc2
  rw [List.take_length] at m1 m2
  have M1 := Lib.hid m1
  have M2 := Lib.hid m2
  have H1 := Lib.hid h1
  clear hc hc2 ho h1 m1 m2
  go_enter Try.func23, Try.ntmps23
  go_wp2_with (first | (go_at_call 39; refine M1.out.mono ?_; rintro e w' ⟨rfl, rfl⟩) | (go_at_call 38; refine M2.out.mono ?_; rintro e w' ⟨rfl, rfl⟩))
  go_ret
  exact ⟨by rw [← H1.out]; rfl, rfl⟩
theorem info_int : (Try.prog.info? 3).map (fun i => (i.zero, i.size, i.bytes)) = some (some (.int .i64 0), 1, 8) := by kernel_rfl
/-- How often each. -/
def oft (often : Nat → Int) (l : List Int) : List Int := l.map fun n => often n.toNat
theorem oft_length (often : Nat → Int) (l : List Int) : (oft often l).length = l.length := by unfold oft; simp
def fairK (often : Nat → Int) (l : List Int) : Nat := minAt (oft often l)
theorem oft_take (often : Nat → Int) (l : List Int) (j : Nat) (h : j < l.length) : I (oft often (l.take j)) ++ [.int .i64 (often (l[j]).toNat)] = I (oft often (l.take (j + 1))) := by
  unfold oft I
  rw [List.take_succ_eq_append_getElem h, List.map_append, List.map_append]
  rfl
set_option maxHeartbeats 1000000 in
theorem fair1_c {w : World} {s : Nat} {p : Value} {last count : Int} {often : Nat → Int} {g cap : Nat} {l : List Int} (hS : SchAt w s p last count often) (hgl : g < w.heap.size) (hc : ∀ j (h : j < l.length), w.cell? ⟨g, j, none⟩ = some (.int .i64 l[j])) (hl0 : 0 < l.length) (hl : l.length ≤ 128) (hlo : ∀ x ∈ l, 0 ≤ x ∧ x < 128) :
    Calls Try.prog 22 #[.pointer (some ⟨s, 0, none⟩), .slice (some ⟨g, 0, none⟩) l.length cap] w fun e w' => e = .returned (.int .i64 (fairK often l : Nat)) ∧ w.grownBy w' none := by
  have HC := Lib.hid hc
  have HS := Lib.hid hS
  have HLO := Lib.hid hlo
  clear hc hS hlo
  go_enter Try.func22, Try.ntmps22
  go_wp2
  go_loopw [5, 10] (fun v i wr => ∃ j : Nat, j ≤ l.length ∧ i = .int .i64 j ∧ wr.ownsRow w.heap.size 3 1 v (I (oft often (l.take j))).length (I (oft often (l.take j))) ∧ Below w.heap.size w wr) (fun _ i _ => l.length - (intOf i).toNat)
  case atStart => exact ⟨0, by omega, rfl, ⟨rfl, .inl ⟨rfl, rfl⟩⟩, Below.refl _ _⟩
  case round =>
    obtain ⟨j, hj, rfl, hown, hbel⟩ := hrel
    have hol : (I (oft often (l.take j))).length = j := by rw [List.length_map, oft_length]; simp; omega
    have hbs := hbel.size
    by_cases hlt : j < l.length
    · have hj0 : (0 : Int) ≤ (j : Int) := Int.natCast_nonneg _
      have hj1 : (j : Int) < (l.length : Int) := by omega
      have hcj := (hbel.cell (p := ⟨g, j, none⟩) hgl).trans (HC.out j hlt)
      obtain ⟨m, hm⟩ : ∃ m : Nat, (m : Int) = l[j] := ⟨(l[j]).toNat, by have := HLO.out _ (List.getElem_mem hlt); omega⟩
      have hm1 : (m : Int) < 128 := by have := HLO.out _ (List.getElem_mem hlt); omega
      have hm2 : m < 128 := by omega
      have hm0 : (0 : Int) ≤ (m : Int) := Int.natCast_nonneg _
      rw [← hm] at hcj
      have hom := ((HS.out.moves (Moves.of_new [] hbel) (by simp)).2.2.2.2.1 m hm2)
      have hapd : I (oft often (l.take j)) ++ [.int .i64 (often m)] = I (oft often (l.take (j + 1))) := by rw [← oft_take often l j hlt, ← hm]; rfl
      have HOL := Lib.hid hol
      have HAP := Lib.hid hapd
      clear hm hol hapd
      go_wp2_with (at_builtin; refine app_one (w0 := w) w.heap.size (by rfl) _ _ 30 3 (.int .i64 0) 8 (by rfl) Try.underlying30 info_int rfl _ (I (oft often (l.take j))) (.int .i64 (often m)) (by rfl) _ (by rfl) rfl rfl hown hbel hbs (by rw [HOL.out]; omega) (by rw [HOL.out]; omega) ?_; intro v5 w5 hown5 hb5 _ _)
      go_roundw
      case rel => exact ⟨j + 1, by omega, by go_num, by rw [HAP.out] at hown5; exact hown5, hb5⟩
      case measure => simp [intOf]; omega
    · have hjl : j = l.length := by omega
      subst hjl
      rw [List.take_length] at hown
      have HOWN := Lib.hid (by have h9 := hown; rwa [List.length_map] at h9 : wr.ownsRow w.heap.size 3 1 u5 (oft often l).length (I (oft often l)))
      have HBEL := Lib.hid hbel
      clear hown hbel hol
      go_wp2_with (go_at_call 23; refine (least_c HOWN.out (by rw [oft_length]; exact hl0) (by rw [oft_length]; omega)).mono ?_; rintro e w' ⟨rfl, rfl⟩)
      go_ret
      exact ⟨rfl, ⟨HBEL.out.os, HBEL.out.tape, HBEL.out.output, HBEL.out.size, fun k hk _ => HBEL.out.block k hk⟩⟩
theorem pick_fair {w : World} {s : Nat} {p : Value} {last count : Int} {often : Nat → Int} {B : Nat} {v : Value} {l : List Int} (hS : SchAt w s p last count often) (ho : w.ownsRow B 3 1 v l.length (I l)) (hl0 : 0 < l.length) (hl : l.length ≤ 128) (hlo : ∀ x ∈ l, 0 ≤ x ∧ x < 128) :
    Calls Try.prog 81 #[.func (Fn.func 22) #[] #[], .pointer (some ⟨s, 0, none⟩), v] w fun e w' => e = .returned (.int .i64 (fairK often l : Nat)) ∧ w.grownBy w' none ∧ True := by
  obtain ⟨g, cap, rfl, hgl, hc⟩ := own_row2 ho hl0
  have HS := Lib.hid hS
  have HC := Lib.hid hc
  have HLO := Lib.hid hlo
  clear hS ho hc hlo
  go_enter Try.func81, Try.ntmps81
  go_wp2_with (go_at_call 22; refine (fair1_c HS.out hgl HC.out hl0 hl HLO.out).mono ?_; rintro e w' ⟨rfl, hg⟩)
  go_ret
  exact ⟨rfl, hg, trivial⟩
end Go.Proofs.Ytbgnchddeklmeaa
