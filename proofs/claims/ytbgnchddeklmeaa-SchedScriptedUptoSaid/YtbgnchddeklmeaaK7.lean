/- Round and Fair: made, picked by. -/
import Derived.Test.YtbgnchddeklmeaaK6
namespace Go.Proofs.Ytbgnchddeklmeaa
open Go.RowKit
theorem sortI_eq {xs l : List Int} (h : l.Pairwise (· < ·)) (hp : xs.Perm l) : sortI xs = l := by
  have tr : ∀ a b c : Int, decide (a ≤ b) = true → decide (b ≤ c) = true → decide (a ≤ c) = true := fun a b c h1 h2 => by simp only [decide_eq_true_eq] at *; omega
  have tot : ∀ a b : Int, (decide (a ≤ b) || decide (b ≤ a)) = true := fun a b => by simp only [Bool.or_eq_true, decide_eq_true_eq]; omega
  refine List.Perm.eq_of_pairwise (le := fun a b => decide (a ≤ b) = true) (fun a b _ _ h1 h2 => ?_) (List.pairwise_mergeSort tr tot xs) (h.imp (fun {a b} h => by simp only [decide_eq_true_eq]; omega)) ((List.mergeSort_perm xs _).trans hp)
  simp only [decide_eq_true_eq] at h1 h2
  omega
theorem compact_lt {l : List Int} (h : l.Pairwise (· < ·)) : Lib.compact l = l := by
  refine Lib.compact_all l (fun j hj => ?_)
  unfold Lib.keeps
  rw [decide_eq_true_eq]
  rcases Nat.eq_zero_or_pos j with h0 | h0
  · exact .inl h0
  · right
    have h1 := List.pairwise_iff_getElem.1 h (j - 1) j (by omega) hj (by omega)
    rw [getElem!_pos _ j (by simpa using hj), getElem!_pos _ (j - 1) (by simp; omega)]
    simp
    omega
abbrev roundP : Value := .func (Fn.func 19) #[] #[]
abbrev fairP : Value := .func (Fn.func 22) #[] #[]
theorem round_c (w : World) : Calls Try.prog 8 #[] w fun e w' => ∃ s, e = .returned (.pointer (some ⟨s, 0, none⟩)) ∧ w.heap.size ≤ s ∧ SchAt w' s (.iface 49 roundP) (-1) 0 (fun _ => 0) ∧ Below w.heap.size w w' := by
  go_enter Try.func8, Try.ntmps8
  go_wp2_with (go_at_call 18; refine (made_c _ _ _).mono ?_; rintro e w' ⟨s, rfl, hr⟩)
  go_ret
  exact ⟨s, rfl, hr⟩
theorem fair_c (w : World) : Calls Try.prog 9 #[] w fun e w' => ∃ s, e = .returned (.pointer (some ⟨s, 0, none⟩)) ∧ w.heap.size ≤ s ∧ SchAt w' s (.iface 49 fairP) (-1) 0 (fun _ => 0) ∧ Below w.heap.size w w' := by
  go_enter Try.func9, Try.ntmps9
  go_wp2_with (go_at_call 18; refine (made_c _ _ _).mono ?_; rintro e w' ⟨s, rfl, hr⟩)
  go_ret
  exact ⟨s, rfl, hr⟩
theorem meth_plain (v : Value) (w : World) : (method 221 49 v "onceweb/sched.pick").run Try.prog w = .ok (81, v) w := by kernel_rfl
theorem call_plain (x y z : Value) (w : World) : (callFunc 81 #[x, y, z]).run Try.prog w = .ok (.enter 81 #[x, y, z]) w := by kernel_rfl
/-- What is asked of those that are ready: l is them in order. -/
def Ready (xs l : List Int) : Prop := xs.Perm l ∧ l.Pairwise (· < ·) ∧ (∀ x ∈ l, 0 ≤ x ∧ x < 128) ∧ 0 < l.length ∧ l.length ≤ 128
/-- Behind a pick of n. -/
def Picked (s : Nat) (p : Value) (n count : Int) (often : Nat → Int) (w : World) (e : Ending) (w' : World) : Prop :=
  e = .returned (.tuple #[.int .i64 n, .int .i64 0]) ∧ SchAt w' s p n (count + 1) (fun i => if (i : Int) = n then often i + 1 else often i) ∧ Moves [s] w w'
theorem next_plain {w : World} {s : Nat} {pv : Value} {last count : Int} {often : Nat → Int} {X : Option Addr} {d : Nat} {xs l : List Int} {k : Nat}
    (hS : SchAt w s (.iface 49 pv) last count often) (hr : RowAt w X (I xs)) (hR : Ready xs l) (hk : k < l.length) (hc : 0 ≤ count ∧ count < 4611686018427387904) (ho : ∀ i, 0 ≤ often i ∧ often i < 4611686018427387904)
    (hpick : ∀ w1 v, Moves [] w w1 → w1.ownsRow w.heap.size 3 1 v l.length (I l) → Calls Try.prog 81 #[pv, .pointer (some ⟨s, 0, none⟩), v] w1 fun e w2 => e = .returned (.int .i64 k) ∧ w1.grownBy w2 none ∧ True) :
    Calls Try.prog 10 #[.pointer (some ⟨s, 0, none⟩), .slice X xs.length d] w (Picked s (.iface 49 pv) l[k] count often w) := by
  obtain ⟨hp, hlt, hlo, h0, h1⟩ := hR
  have hl := hp.length_eq
  refine (next_c (E := fun _ => True) (q := none) (meth_plain pv) call_plain hS hr (by omega) (by omega) (sortI_eq hlt hp) hlo (by rw [compact_lt hlt]) hk hc ho (by simp) hpick).mono ?_
  rintro e w' ⟨rfl, h2, w2, _, h3, h4⟩
  exact ⟨rfl, h2, (h4.mono (by simp)).trans h3⟩
theorem rndK_lt (last : Int) {l : List Int} (h : 0 < l.length) : rndK last l < l.length := by
  unfold rndK
  cases hf : l.findIdx? (fun n => decide (last < n)) with
  | none => exact h
  | some i => exact (List.findIdx?_eq_some_iff_getElem.1 hf).1
theorem fairK_lt (often : Nat → Int) {l : List Int} (h : 0 < l.length) : fairK often l < l.length := by
  obtain ⟨_, hk, _⟩ := minAt_spec (l := oft often l) (by rw [oft_length]; exact h)
  rw [oft_length] at hk
  exact hk
theorem next_round {w : World} {s : Nat} {last count : Int} {often : Nat → Int} {X : Option Addr} {xs l : List Int} (d : Nat)
    (hS : SchAt w s (.iface 49 roundP) last count often) (hr : RowAt w X (I xs)) (hR : Ready xs l) (hc : 0 ≤ count ∧ count < 4611686018427387904) (ho : ∀ i, 0 ≤ often i ∧ often i < 4611686018427387904) :
    Calls Try.prog 10 #[.pointer (some ⟨s, 0, none⟩), .slice X xs.length d] w (Picked s (.iface 49 roundP) (l[rndK last l]'(rndK_lt last hR.2.2.2.1)) count often w) :=
  next_plain hS hr hR (rndK_lt last hR.2.2.2.1) hc ho (fun _ _ hM ho1 => pick_round (hS.moves hM (by simp)) ho1 hR.2.2.2.1 hR.2.2.2.2)
theorem next_fair {w : World} {s : Nat} {last count : Int} {often : Nat → Int} {X : Option Addr} {xs l : List Int} (d : Nat)
    (hS : SchAt w s (.iface 49 fairP) last count often) (hr : RowAt w X (I xs)) (hR : Ready xs l) (hc : 0 ≤ count ∧ count < 4611686018427387904) (ho : ∀ i, 0 ≤ often i ∧ often i < 4611686018427387904) :
    Calls Try.prog 10 #[.pointer (some ⟨s, 0, none⟩), .slice X xs.length d] w (Picked s (.iface 49 fairP) (l[fairK often l]'(fairK_lt often hR.2.2.2.1)) count often w) :=
  next_plain hS hr hR (fairK_lt often hR.2.2.2.1) hc ho (fun _ _ hM ho1 => pick_fair (hS.moves hM (by simp)) ho1 hR.2.2.2.1 hR.2.2.2.2 hR.2.2.1)
end Go.Proofs.Ytbgnchddeklmeaa
