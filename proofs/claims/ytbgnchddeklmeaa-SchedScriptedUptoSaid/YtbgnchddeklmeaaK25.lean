/- Schedulers made: the plain ones, by a list, by weights, by chance. -/
import Derived.Test.YtbgnchddeklmeaaK24
namespace Go.Proofs.Ytbgnchddeklmeaa
open Go.RowKit
def polOf (k : Nat) (row : List Int) (c : Int) : Pol := ⟨k, row, c, fun _ => false, fun _ => 0⟩
/-- What a maker leaves. -/
def Fresh (w w' : World) (s : Nat) (p : Pol) : Prop := SAt w' w.heap.size (w'.heap.size - w.heap.size) s p (-1) 0 (fun _ => 0) ∧ Below w.heap.size w w'
theorem fresh_of {w w' : World} {s : Nat} {ty : TypeId} {pv : Value} {q : Option Nat} {p : Pol} (hs : w.heap.size ≤ s) (h : SchAt w' s (.iface ty pv) (-1) 0 (fun _ => 0)) (hp : PolAt w' w.heap.size (w'.heap.size - w.heap.size) s ty pv q p) (hb : Below w.heap.size w w') : Fresh w w' s p :=
  ⟨⟨hs, by have := h.1; omega, by have := hb.size; omega, ty, pv, q, h, hp⟩, hb⟩
theorem first_c (w : World) : Calls Try.prog 31 #[] w fun e w' => ∃ s, e = .returned (.pointer (some ⟨s, 0, none⟩)) ∧ Fresh w w' s (polOf 0 [] 0) := by
  go_enter Try.func31, Try.ntmps31
  go_wp2_with (go_at_call 18; refine (made_c _ _ _).mono ?_; rintro e w' ⟨s, rfl, hr⟩)
  go_ret
  exact ⟨s, rfl, fresh_of hr.1 hr.2.1 (.inl ⟨by decide, rfl, rfl, rfl⟩) hr.2.2⟩
theorem last_c (w : World) : Calls Try.prog 32 #[] w fun e w' => ∃ s, e = .returned (.pointer (some ⟨s, 0, none⟩)) ∧ Fresh w w' s (polOf 1 [] 0) := by
  go_enter Try.func32, Try.ntmps32
  go_wp2_with (go_at_call 18; refine (made_c _ _ _).mono ?_; rintro e w' ⟨s, rfl, hr⟩)
  go_ret
  exact ⟨s, rfl, fresh_of hr.1 hr.2.1 (.inl ⟨by decide, rfl, rfl, rfl⟩) hr.2.2⟩
theorem round_f (w : World) : Calls Try.prog 8 #[] w fun e w' => ∃ s, e = .returned (.pointer (some ⟨s, 0, none⟩)) ∧ Fresh w w' s (polOf 2 [] 0) :=
  (round_c w).mono (by rintro e w' ⟨s, rfl, hr⟩; exact ⟨s, rfl, fresh_of hr.1 hr.2.1 (.inl ⟨by decide, rfl, rfl, rfl⟩) hr.2.2⟩)
theorem fair_f (w : World) : Calls Try.prog 9 #[] w fun e w' => ∃ s, e = .returned (.pointer (some ⟨s, 0, none⟩)) ∧ Fresh w w' s (polOf 3 [] 0) :=
  (fair_c w).mono (by rintro e w' ⟨s, rfl, hr⟩; exact ⟨s, rfl, fresh_of hr.1 hr.2.1 (.inl ⟨by decide, rfl, rfl, rfl⟩) hr.2.2⟩)
/-- The first that is told, or -1. -/
def idxP (f : Int → Bool) (l : List Int) : Int := match l.findIdx? f with | some i => i | none => -1
theorem idxP_any (f : Int → Bool) (l : List Int) : decide (0 ≤ idxP f l) = l.any f := by
  unfold idxP
  cases h : l.findIdx? f with
  | none =>
    have := List.findIdx?_eq_none_iff.1 h
    have h2 : l.any f = false := by rw [List.any_eq_false]; intro x hx; rw [this x hx]; decide
    rw [h2]; rfl
  | some i =>
    obtain ⟨hi, h1, _⟩ := List.findIdx?_eq_some_iff_getElem.1 h
    have h2 : l.any f = true := List.any_eq_true.2 ⟨l[i], List.getElem_mem hi, h1⟩
    rw [h2]
    exact decide_eq_true (Int.natCast_nonneg i)
theorem RowAt.int {w : World} {X : Option Addr} {xs : List Int} (h : RowAt w X (I xs)) {j : Nat} (hj : j < xs.length) : ∃ b off, X = some ⟨b, off, none⟩ ∧ w.cell? ⟨b, off + j, none⟩ = some (.int .i64 (xs[j])) := by
  rcases h.ints with h | ⟨b, off, e, hl, hc⟩
  · subst h; simp at hj
  · exact ⟨b, off, e, by rw [hc j hj]; simp [List.getD, hj]⟩
theorem indexp_c {w : World} {F : FuncId} {f : Int → Bool} {X : Option Addr} {d : Nat} {l : List Int} (hF : ∀ x (w : World), (callFunc F #[x]).run Try.prog w = .ok (.enter F #[x]) w)
    (hf : ∀ n (w : World), Calls Try.prog F #[.int .i64 n] w fun e w' => e = .returned (.bool (f n)) ∧ w' = w) (hr : RowAt w X (I l)) (hlen : l.length ≤ 140737488355328) :
    Calls Try.prog 20 #[.slice X l.length d, .func (Fn.func F) #[] #[]] w fun e w' => e = .returned (.int .i64 (idxP f l)) ∧ w' = w := by
  have HR := Lib.hid hr
  have HFF := Lib.hid hf
  clear hr hf
  go_enter Try.func20, Try.ntmps20
  go_wp2
  go_loopw [8] (fun i wr => wr = w ∧ ∃ j : Nat, i = .int .i64 j ∧ j ≤ l.length ∧ ∀ m (h : m < j) (h2 : m < l.length), f l[m] = false) (fun i _ => l.length - (intOf i).toNat)
  case atStart => exact ⟨rfl, 0, rfl, by omega, by intro m h; omega⟩
  case round =>
    obtain ⟨rfl, j, rfl, hj, hall⟩ := hrel
    have HALL := Lib.hid hall
    clear hall
    by_cases hlt : j < l.length
    · have hlt2 : (j : Int) < (l.length : Int) := by omega
      have hj0 : (0 : Int) ≤ (j : Int) := by omega
      obtain ⟨b, off, rfl, hcj⟩ := HR.out.int hlt
      obtain ⟨m, hm⟩ : ∃ m, m = l[j] := ⟨_, rfl⟩
      rw [← hm] at hcj
      have HM := Lib.hid hm
      clear hm
      cases hgt : f m with
      | true =>
        have HG := Lib.hid hgt
        clear hgt
        go_wp2_with fail
        refine (HFF.out m _).mono ?_
        rintro e w' ⟨rfl, rfl⟩
        rw [HG.out]
        go_wp2
        go_ret
        refine ⟨?_, rfl⟩
        have : l.findIdx? f = some j := by
          rw [List.findIdx?_eq_some_iff_getElem]
          exact ⟨hlt, by rw [← HM.out]; exact HG.out, fun k hk => by rw [HALL.out k hk (by omega)]; decide⟩
        unfold idxP
        rw [this]
        rfl
      | false =>
        have HG := Lib.hid hgt
        clear hgt
        go_wp2_with fail
        refine (HFF.out m _).mono ?_
        rintro e w' ⟨rfl, rfl⟩
        rw [HG.out]
        go_wp2
        go_roundw
        case rel => exact ⟨trivial, j + 1, by go_num, by omega, fun k hk h2 => by rcases Nat.lt_or_ge k j with c | c; exact HALL.out k c h2; have : k = j := (by omega); subst this; rw [← HM.out]; exact HG.out⟩
        case measure => simp [intOf]; omega
    · have hjl : Hid (j = l.length) := Lib.hid (by omega)
      have hge : ¬ (j : Int) < (l.length : Int) := by omega
      go_wp2
      go_ret
      refine ⟨?_, rfl⟩
      have : l.findIdx? f = none := by
        rw [List.findIdx?_eq_none_iff]
        intro x hx
        obtain ⟨m, hm, rfl⟩ := List.mem_iff_getElem.1 hx
        exact HALL.out m (by have := hjl.out; omega) hm
      unfold idxP
      rw [this]
      rfl
theorem containsp_c {w : World} {F : FuncId} {f : Int → Bool} {X : Option Addr} {d : Nat} {l : List Int} (hF : ∀ x (w : World), (callFunc F #[x]).run Try.prog w = .ok (.enter F #[x]) w)
    (hf : ∀ n (w : World), Calls Try.prog F #[.int .i64 n] w fun e w' => e = .returned (.bool (f n)) ∧ w' = w) (hr : RowAt w X (I l)) (hlen : l.length ≤ 140737488355328) :
    Calls Try.prog 36 #[.slice X l.length d, .func (Fn.func F) #[] #[]] w fun e w' => e = .returned (.bool (l.any f)) ∧ w' = w := by
  have H := Lib.hid (indexp_c (d := d) hF hf hr hlen)
  have h1 := idxP_any f l
  have H1 := Lib.hid h1
  clear hr hf h1 hF
  go_enter Try.func36, Try.ntmps36
  go_wp2_with (go_at_call 20; refine H.out.mono ?_; rintro e w' ⟨rfl, rfl⟩)
  go_ret
  exact ⟨by rw [← H1.out]; rfl, rfl⟩
theorem neg1_c (n : Int) (w : World) : Calls Try.prog 37 #[.int .i64 n] w fun e w' => e = .returned (.bool (decide (n < 0))) ∧ w' = w := by
  go_enter Try.func37, Try.ntmps37
  go_wp2
  go_ret
  exact ⟨rfl, rfl⟩
theorem out1_c (n : Int) (w : World) : Calls Try.prog 44 #[.int .i64 n] w fun e w' => e = .returned (.bool (decide (n < 0) || decide (9007199254740992 < n))) ∧ w' = w := by
  rcases (show n < 0 ∨ (¬ n < 0 ∧ ¬ 9007199254740992 < n) ∨ (¬ n < 0 ∧ 9007199254740992 < n) by omega) with h | ⟨h, h2⟩ | ⟨h, h2⟩
  all_goals
    go_enter Try.func44, Try.ntmps44
    go_wp2
    go_ret
    exact ⟨by simp [*], rfl⟩
end Go.Proofs.Ytbgnchddeklmeaa
