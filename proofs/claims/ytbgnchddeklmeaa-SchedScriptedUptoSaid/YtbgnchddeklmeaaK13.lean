/- The law SchedStarves: its states. -/
import Derived.Test.YtbgnchddeklmeaaK12
namespace Go.Proofs.Ytbgnchddeklmeaa
open Go.RowKit
def rfP (fair : Bool) : Value := if fair = true then fairP else roundP
def rfK (fair : Bool) (last : Int) (often : Nat → Int) (l : List Int) : Nat := if fair = true then fairK often l else rndK last l
theorem rfK_lt (fair : Bool) (last : Int) (often : Nat → Int) {l : List Int} (h : 0 < l.length) : rfK fair last often l < l.length := by
  unfold rfK
  split
  · exact fairK_lt often h
  · exact rndK_lt last h
theorem next_rf (fair : Bool) {w : World} {s : Nat} {last count : Int} {often : Nat → Int} {X : Option Addr} {xs l : List Int} (d : Nat)
    (hS : SchAt w s (.iface 49 (rfP fair)) last count often) (hr : RowAt w X (I xs)) (hR : Ready xs l) (hc : 0 ≤ count ∧ count < 4611686018427387904) (ho : ∀ i, 0 ≤ often i ∧ often i < 4611686018427387904) :
    Calls Try.prog 10 #[.pointer (some ⟨s, 0, none⟩), .slice X xs.length d] w (Picked s (.iface 49 (rfP fair)) (l[rfK fair last often l]'(rfK_lt fair last often hR.2.2.2.1)) count often w) := by
  cases fair with
  | true => exact next_fair d hS hr hR hc ho
  | false => exact next_round d hS hr hR hc ho
/-- Ahead. -/
def St1 (fair : Bool) (w : World) (s : Nat) (C : Nat) : Prop := ∃ last count often, SchAt w s (.iface 49 (rfP fair)) last count often ∧ OftOk often count ∧ count ≤ (C : Int) ∧ -1 ≤ last ∧ last < 12 ∧ (fair = true → count = 0)
/-- While a is always ready. -/
def St2 (fair : Bool) (a : Int) (w : World) (s : Nat) (C : Nat) (D : Int) : Prop := ∃ last count often, SchAt w s (.iface 49 (rfP fair)) last count often ∧ OftOk often count ∧ count ≤ (C : Int) ∧ Dist fair last count often a D
theorem St1.moves {fair : Bool} {w w' : World} {s C : Nat} {M : List Nat} (h : St1 fair w s C) (hm : Moves M w w') (hs : s ∉ M) : St1 fair w' s C := by
  obtain ⟨l, c, o, h1, h2⟩ := h
  exact ⟨l, c, o, h1.moves hm hs, h2⟩
theorem St2.moves {fair : Bool} {a : Int} {w w' : World} {s C : Nat} {D : Int} {M : List Nat} (h : St2 fair a w s C D) (hm : Moves M w w') (hs : s ∉ M) : St2 fair a w' s C D := by
  obtain ⟨l, c, o, h1, h2⟩ := h
  exact ⟨l, c, o, h1.moves hm hs, h2⟩
theorem St1.lt {fair : Bool} {w : World} {s C : Nat} (h : St1 fair w s C) : s < w.heap.size := by obtain ⟨l, c, o, h1, _⟩ := h; exact h1.1
theorem St2.lt {fair : Bool} {a : Int} {w : World} {s C : Nat} {D : Int} (h : St2 fair a w s C D) : s < w.heap.size := by obtain ⟨l, c, o, h1, _⟩ := h; exact h1.1
theorem st1_round {w : World} {s : Nat} (h : SchAt w s (.iface 49 roundP) (-1) 0 (fun _ => 0)) : St1 false w s 0 := ⟨-1, 0, _, h, ok0, by simp, by decide, by decide, fun h => by cases h⟩
theorem st1_fair {w : World} {s : Nat} (h : SchAt w s (.iface 49 fairP) (-1) 0 (fun _ => 0)) : St1 true w s 0 := ⟨-1, 0, _, h, ok0, by simp, by decide, by decide, fun _ => rfl⟩
theorem St1.st2 {fair : Bool} {w : World} {s C : Nat} (h : St1 fair w s C) (a : Int) : ∃ D, 0 ≤ D ∧ D ≤ 11 ∧ St2 fair a w s C D := by
  obtain ⟨l, c, o, h1, h2, h3, h4, h5, h6⟩ := h
  cases fair with
  | true =>
    obtain rfl := h6 rfl
    refine ⟨(a - 0) % 12, by omega, by omega, l, 0, o, h1, h2, h3, ?_⟩
    unfold Dist
    rw [if_pos rfl]
    exact ⟨rfl, by omega, fun i hi => by have := h2.2 i; omega⟩
  | false =>
    refine ⟨(a - l - 1) % 12, by omega, by omega, l, c, o, h1, h2, h3, ?_⟩
    unfold Dist
    rw [if_neg (by decide)]
    exact ⟨rfl, h4, h5⟩
/-- One call ahead. -/
theorem next_ahead {w : World} {s C : Nat} {X : Option Addr} (Y d : Nat) (hS : St1 false w s C) (hr : RowAt w X (I (someL Y 12))) (hC : C < 4611686018427387904) :
    Calls Try.prog 10 #[.pointer (some ⟨s, 0, none⟩), .slice X (someL Y 12).length d] w fun e w' => ∃ v, e = .returned v ∧ St1 false w' s (C + 1) ∧ Moves [s] w w' := by
  by_cases h0 : 0 < (someL Y 12).length
  · obtain ⟨last, count, often, h1, h2, h3, h4, h5, h6⟩ := hS
    refine (next_rf false d h1 hr (ready_some (by omega) h0) ⟨h2.1, by omega⟩ (fun i => by have := h2.2 i; omega)).mono ?_
    rintro e w' ⟨rfl, h7, h8⟩
    have h9 := mem_someL.1 (List.getElem_mem (rfK_lt false last often h0))
    exact ⟨_, rfl, ⟨_, _, _, h7, h2.bump _, by push_cast; omega, by omega, by omega, fun h => by cases h⟩, h8⟩
  · have h1 : (someL Y 12).length = 0 := by omega
    rw [h1]
    refine (next_none d).mono ?_
    rintro e w' ⟨rfl, hb⟩
    have hm : Moves [s] w w' := Moves.of_new _ hb
    obtain ⟨last, count, often, h1, h2, h3, h4⟩ := hS.moves (Moves.of_new [] hb) (by simp)
    exact ⟨_, rfl, ⟨last, count, often, h1, h2, by push_cast; omega, h4⟩, hm⟩
theorem next_always (fair : Bool) {w : World} {s C : Nat} {a D : Int} {X : Option Addr} (Y d : Nat) (hS : St2 fair a w s C D) (hr : RowAt w X (I (someL Y 12))) (hC : C < 4611686018427387904) (ha : a ∈ someL Y 12) (hf : fair = true → someL Y 12 = all12) :
    Calls Try.prog 10 #[.pointer (some ⟨s, 0, none⟩), .slice X (someL Y 12).length d] w fun e w' => ∃ n D', e = .returned (.tuple #[.int .i64 n, .int .i64 0]) ∧ St2 fair a w' s (C + 1) D' ∧ 0 ≤ D' ∧ D' ≤ 11 ∧ (n ≠ a → D' + 1 ≤ D) ∧ Moves [s] w w' := by
  have h0 : 0 < (someL Y 12).length := List.length_pos_of_mem ha
  obtain ⟨last, count, often, h1, h2, h3, h4⟩ := hS
  refine (next_rf fair d h1 hr (ready_some (by omega) h0) ⟨h2.1, by omega⟩ (fun i => by have := h2.2 i; omega)).mono ?_
  rintro e w' ⟨rfl, h7, h8⟩
  cases fair with
  | true =>
    have hfa := hf rfl
    have h00 : 0 < all12.length := by rw [all12_length]; omega
    obtain ⟨D', h9, h10, h11, h12⟩ := dist_fair h4 h00 (by have := mem_someL.1 ha; omega)
    have he : (someL Y 12)[rfK true last often (someL Y 12)]'(rfK_lt true last often h0) = all12[fairK often all12]'(fairK_lt often h00) := by simp only [hfa]; rfl
    rw [he] at h7 ⊢
    exact ⟨_, D', rfl, ⟨_, _, _, h7, h2.bump _, by push_cast; omega, h9⟩, h10, h11, h12, h8⟩
  | false =>
    obtain ⟨D', h9, h10, h11, h12⟩ := dist_round h4 h0 (someL_lt Y 12) ha (fun x hx => by have := mem_someL.1 hx; omega)
    exact ⟨_, D', rfl, ⟨_, _, _, h7, h2.bump _, by push_cast; omega, h9⟩, h10, h11, h12, h8⟩
end Go.Proofs.Ytbgnchddeklmeaa
