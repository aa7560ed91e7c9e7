/- The law SchedReady: words. -/
import Derived.Test.YtbgnchddeklmeaaK28
import Derived.Test.YtbgnchddeklmeaaK14
namespace Go.Proofs.Ytbgnchddeklmeaa
open Go.RowKit
theorem made15_c (x : XRule) (X : Option Addr) (d : Nat) (w : World) (hr : RowAt w X (I x.list)) (hl : x.list.length ≤ 17592186044416) :
    Calls Try.prog 15 #[x.val X d] w (Made x.k x.p w) := by
  by_cases h : x.pol % 8 = 4 ∨ x.pol % 8 = 5
  · exact made15_list x X d w h hr hl
  · exact made15_plain x X d w (by omega)
theorem count_c {w : World} {lo n s : Nat} {p : Pol} {last count : Int} {often : Nat → Int} (h : SAt w lo n s p last count often) :
    Calls Try.prog 16 #[.pointer (some ⟨s, 0, none⟩)] w fun e w' => e = .returned (.int .i64 count) ∧ w' = w := by
  obtain ⟨_, _, _, ty, pv, q, hS, _⟩ := h
  have hc := hS.2.2.2.1
  clear hS
  go_enter Try.func16, Try.ntmps16
  go_wp2
  go_ret
  exact ⟨rfl, rfl⟩
/-- Two schedulers that stand alike, with all that is their own in blocks B to T - 1. -/
def TwoAt (B T : Nat) (w : World) (s t : Nat) (C : Nat) : Prop := ∃ lo n lo2 n2 p last count often, B ≤ lo ∧ lo + n ≤ lo2 ∧ lo2 + n2 ≤ T ∧ SAt w lo n s p last count often ∧ SAt w lo2 n2 t p last count often ∧ OftOk often count ∧ count ≤ (C : Int)
theorem TwoAt.below {B T : Nat} {w w' : World} {s t C : Nat} (h : TwoAt B T w s t C) (hb : Below w.heap.size w w') : TwoAt B T w' s t C := by
  obtain ⟨lo, n, lo2, n2, p, last, count, often, h1, h2, hT, h3, h4, h5⟩ := h
  exact ⟨lo, n, lo2, n2, p, last, count, often, h1, h2, hT, h3.moves (Moves.of_new [] hb) (by simp), h4.moves (Moves.of_new [] hb) (by simp), h5⟩
theorem two_start {w w1 w2 w3 : World} {s t : Nat} {p : Pol} (hb : Below w.heap.size w w1) (h1 : Fresh w1 w2 s p) (h2 : Fresh w2 w3 t p) : TwoAt w.heap.size w3.heap.size w3 s t 0 :=
  ⟨_, _, _, _, p, -1, 0, _, hb.size, by have := h1.2.size; omega, by have := h2.2.size; omega, h1.1.moves (Moves.of_new [] h2.2) (by simp), h2.1, ok0, by simp⟩
/-- Both pick. -/
def OnePick (B T s t C : Nat) (l : List Int) (m : Int) (w : World) (e : Ending) (w' : World) : Prop :=
  e = .returned (.tuple #[.int .i64 m, .int .i64 0]) ∧ (∀ (Y : Option Addr) (xs : List Int) (d : Nat) (W : World), Below w'.heap.size w' W → RowAt W Y (I xs) → xs.Perm l →
    Calls Try.prog 10 #[.pointer (some ⟨t, 0, none⟩), .slice Y xs.length d] W fun e W' => e = .returned (.tuple #[.int .i64 m, .int .i64 0]) ∧ TwoAt B T W' s t (C + 1) ∧ Below B W W') ∧ ∃ M, Moves M w w' ∧ ∀ k ∈ M, B ≤ k ∧ k < T
theorem TwoAt.next {B T : Nat} {w : World} {s t C : Nat} {X : Option Addr} {l : List Int} (d : Nat) (h : TwoAt B T w s t C) (hr : RowAt w X (I l)) (hR : Ready l l) (hC : C < 4611686018427387904) :
    Calls Try.prog 10 #[.pointer (some ⟨s, 0, none⟩), .slice X l.length d] w fun e w' => ∃ m, m ∈ l ∧ OnePick B T s t C l m w e w' := by
  obtain ⟨lo, n, lo2, n2, p, last, count, often, h1, h2, hT, h3, h4, h5, h6⟩ := h
  have hc : 0 ≤ count ∧ count < 4611686018427387904 := ⟨h5.1, by omega⟩
  have ho : ∀ i, 0 ≤ often i ∧ often i < 4611686018427387904 := fun i => by have := h5.2 i; omega
  refine (next_any d h3 hr hR hc ho).mono ?_
  rintro e w' ⟨m, hm, rfl, hS, hM⟩
  have hlt := h4.2.2.1
  refine ⟨m, List.mem_of_getElem? hm, rfl, ?_, ring lo n, hM, fun k hk => by have := mem_ring.1 hk; omega⟩
  intro Y xs d2 W hW hrW hp
  have h4' := (h4.moves hM (fun k hk => by have := mem_ring.1 hk; omega)).moves (Moves.of_new [] hW) (by simp)
  have hS' := hS.moves (Moves.of_new [] hW) (by simp)
  refine (next_any d2 h4' hrW ⟨hp, hR.2⟩ hc ho).mono ?_
  rintro e w2 ⟨m2, hm2, rfl, hS2, hM2⟩
  rw [hm] at hm2
  cases hm2
  refine ⟨rfl, ⟨lo, n, lo2, n2, _, m, count + 1, _, h1, h2, hT, hS'.moves hM2 (fun k hk => by have := mem_ring.1 hk; omega), hS2, h5.bump m, by push_cast; omega⟩, hM2.below ?_ (fun k hk => by have := mem_ring.1 hk; omega)⟩
  have := h3.2.2.1
  have := hW.size
  have := hM.2.2.2.1
  omega
theorem count_two {B T : Nat} {w : World} {s t C : Nat} (h : TwoAt B T w s t C) : ∃ c : Int, 0 ≤ c ∧ c ≤ C ∧ (∀ w', w'.heap = w.heap → Calls Try.prog 16 #[.pointer (some ⟨s, 0, none⟩)] w' fun e w2 => e = .returned (.int .i64 c) ∧ w2 = w') ∧
    (∀ w', w'.heap = w.heap → Calls Try.prog 16 #[.pointer (some ⟨t, 0, none⟩)] w' fun e w2 => e = .returned (.int .i64 c) ∧ w2 = w') := by
  obtain ⟨lo, n, lo2, n2, p, last, count, often, h1, h2, hT, h3, h4, h5, h6⟩ := h
  have hm : ∀ w' : World, w'.heap = w.heap → ∀ lo n s, SAt w lo n s p last count often → SAt w' lo n s p last count often := by
    rintro w' e lo n s ⟨i1, i2, i3, ty, pv, q, hS, hP⟩
    have hc : ∀ a, w'.cell? a = w.cell? a := fun a => by unfold World.cell?; rw [e]
    have hf : ∀ a, w'.frozen? a = w.frozen? a := fun a => by unfold World.frozen?; rw [e]
    have hsz : w'.heap.size = w.heap.size := by rw [e]
    refine ⟨i1, i2, by omega, ty, pv, q, ⟨by have := hS.1; omega, by rw [hc]; exact hS.2.1, by rw [hc]; exact hS.2.2.1, by rw [hc]; exact hS.2.2.2.1, fun i hi => by rw [hc]; exact hS.2.2.2.2.1 i hi, fun j => by rw [hf]; exact hS.2.2.2.2.2 j⟩, ?_⟩
    have hri : ∀ bad X xs, RowIn w lo n bad X xs → RowIn w' lo n bad X xs := fun bad X xs h => by
      rcases h with h | ⟨b, off, e2, j1, j2, j3, j4, hcc⟩
      · exact .inl h
      · exact .inr ⟨b, off, e2, j1, j2, j3, by omega, fun j hj => by rw [hc]; exact hcc j hj⟩
    rcases hP with hP | ⟨j1, j2, j3, j4, j5, X, d, j6, j7⟩ | ⟨j1, j2, j3, j4, X, d, j6, j7⟩ | ⟨j1, j2, b, j3, j4, j5, j6, j7, j8, j9, j10⟩ | ⟨j1, j2, j3, b, X, d, j4, j5, j6, j7, j8, j9, j10, j11, j12, j13, j14, j15⟩
    · exact .inl hP
    · exact .inr (.inl ⟨j1, j2, j3, j4, j5, X, d, j6, hri _ _ _ j7⟩)
    · exact .inr (.inr (.inl ⟨j1, j2, j3, j4, X, d, j6, hri _ _ _ j7⟩))
    · exact .inr (.inr (.inr (.inl ⟨j1, j2, b, j3, j4, j5, j6, j7, by omega, by rw [hc]; exact j9, fun j => by rw [hf]; exact j10 j⟩)))
    · exact .inr (.inr (.inr (.inr ⟨j1, j2, j3, b, X, d, j4, j5, j6, j7, j8, by omega, by rw [hc]; exact j10, by rw [hc]; exact j11, hri _ _ _ j12, fun i hi => by rw [hc]; exact j13 i hi, fun i hi => by rw [hc]; exact j14 i hi, fun j => by rw [hf]; exact j15 j⟩)))
  exact ⟨count, h5.1, h6, fun w' e => count_c (hm w' e _ _ _ h3), fun w' e => count_c (hm w' e _ _ _ h4)⟩
theorem own_moves2 {M : List Nat} {w w1 : World} {B n : Nat} {v : Value} {e : TypeId} {xs : List Value} (h : w.ownsRow B e 1 v n xs) (hm : Moves M w w1) (hM : ∀ k ∈ M, k < B) : w1.ownsRow B e 1 v n xs := by
  rcases h with ⟨hl, ⟨rfl, h0⟩ | ⟨g, cap, cur, rfl, hB, hh, h1⟩⟩
  · exact ⟨hl, .inl ⟨rfl, h0⟩⟩
  · exact ⟨hl, .inr ⟨g, cap, cur, rfl, hB, (hm.2.2.2.2 g (Array.getElem?_eq_some_iff.1 hh).1 (fun hk => by have := hM g hk; omega)).trans hh, h1⟩⟩
theorem TwoAt.top {B T : Nat} {w : World} {s t C : Nat} (h : TwoAt B T w s t C) : B ≤ T := by
  obtain ⟨lo, n, lo2, n2, p, last, count, often, h1, h2, hT, _⟩ := h
  omega
theorem TwoAt.more {B T : Nat} {w : World} {s t C D : Nat} (h : TwoAt B T w s t C) (hD : C ≤ D) : TwoAt B T w s t D := by
  obtain ⟨lo, n, lo2, n2, p, last, count, often, h1, h2, hT, h3, h4, h5, h6⟩ := h
  exact ⟨lo, n, lo2, n2, p, last, count, often, h1, h2, hT, h3, h4, h5, by omega⟩
theorem rev_next (l : List Int) (j : Nat) (h : j < l.length) : I (l.reverse.take j) ++ [.int .i64 (l[l.length - 1 - j]'(by omega))] = I (l.reverse.take (j + 1)) := by
  unfold I
  rw [List.take_succ_eq_append_getElem (by simpa using h), List.map_append, List.getElem_reverse]
  rfl
end Go.Proofs.Ytbgnchddeklmeaa
