/- Heaps behind an interface: the walks of Push and Pop. -/
import Derived.Test.YtjlapnnmdfdjdaaV9
namespace Go.Proofs.Ytjlapnnmdfdjdaa
open Go.RowKit
structure HeapEnds {α : Type} [Inhabited α] (t : TypeId) (v : Value) (enc : α → Value) (R : World → List α → Prop) (F : World → World → Prop) (ok : α → Prop) : Prop where
  push : ∀ w L x, R w L → ok x → L.length < 1099511627776 → Meth t v "Push" [enc x] w fun e w' => e = .returned (.tuple #[]) ∧ R w' (L ++ [x]) ∧ F w w'
  pop : ∀ w L x, R w (L ++ [x]) → Meth t v "Pop" [] w fun e w' => e = .returned (enc x) ∧ R w' L ∧ F w w'
variable {α : Type} [Inhabited α] {t : TypeId} {v : Value} {enc : α → Value} {lt : α → α → Bool} {R : World → List α → Prop} {F : World → World → Prop} {ok : α → Prop}
def PushPost (lt : α → α → Bool) (R : World → List α → Prop) (F : World → World → Prop) (L : List α) (x : α) (w : World) (e : Ending) (w' : World) : Prop :=
  e = .returned (.tuple #[]) ∧ ∃ L', R w' L' ∧ L'.Perm (L ++ [x]) ∧ Heap lt L' L'.length ∧ F w w'
theorem push_c (H : HeapOps t v lt R F) (E : HeapEnds t v enc R F ok) (o : Ord lt) {w : World} {L : List α} (x : α) (hx : ok x) (hR : R w L) (hh : Heap lt L L.length) (hl : L.length < 1099511627776) :
    Calls Try.prog 47 #[.iface t v, enc x] w (PushPost lt R F L x w) := by
  obtain ⟨f, r, hm, hc, hcall⟩ := E.push w L x hR hx hl
  have HC := Lib.hid hcall
  have HH := Lib.hid hh
  clear hR hh hcall
  go_enter Try.func47, Try.ntmps47
  go_wp2_with fail
  refine Calls.mono HC.out ?_
  rintro e w1 ⟨rfl, hR1, hF1⟩
  have HF1 := Lib.hid hF1
  obtain ⟨f2, r2, hm2, hc2, hcall2⟩ := H.len w1 _ hR1
  have hlen : (L ++ [x]).length = L.length + 1 := by simp
  rw [hlen] at hcall2
  have HLEN := Lib.hid hlen
  have HC2 := Lib.hid hcall2
  clear hm hc hF1 hR1 hcall2 hlen HC
  go_wp2_with fail
  refine Calls.mono HC2.out ?_
  rintro e w2 ⟨rfl, hR2, hF2⟩
  have HR2 := Lib.hid hR2
  have HF2 := Lib.hid (H.trans _ _ _ HF1.out hF2)
  clear hm2 hc2 hF2 hR2 HC2
  have he : ((L.length + 1 : Nat) : Int) - 1 = (L.length : Int) := by omega
  go_wp2_with fail
  go_at_call 44
  have hup := up_c H o (j := L.length) HR2.out (HH.out.pushed x) (by omega) (by rw [HLEN.out]; omega) (by rw [HLEN.out]; omega)
  refine hup.mono ?_
  rintro e w3 ⟨rfl, L3, hR3, hp3, hh3, _, hF3⟩
  have hL3 := hp3.length_eq
  rw [HLEN.out] at hL3
  rw [← hL3] at hh3
  have HP3 : Hid (PushPost lt R F L x w (.returned (.tuple #[])) w3) := Lib.hid ⟨rfl, L3, hR3, hp3, hh3, H.trans _ _ _ HF2.out hF3⟩
  clear hR3 hp3 hh3 hF3 hL3 hup
  go_wp2
  go_end0
  exact HP3.out
def PopPost (lt : α → α → Bool) (enc : α → Value) (R : World → List α → Prop) (F : World → World → Prop) (L : List α) (w : World) (e : Ending) (w' : World) : Prop :=
  e = .returned (enc L[0]!) ∧ ∃ L', R w' L' ∧ (L[0]! :: L').Perm L ∧ Heap lt L' L'.length ∧ F w w'
theorem pop_c (H : HeapOps t v lt R F) (E : HeapEnds t v enc R F ok) (o : Ord lt) {w : World} {L : List α} (hR : R w L) (hh : Heap lt L L.length) (h0 : 0 < L.length) (hl : L.length ≤ 1099511627776) :
    Calls Try.prog 29 #[.iface t v] w (PopPost lt enc R F L w) := by
  obtain ⟨f, r, hm, hc, hcall⟩ := H.len w L hR
  obtain ⟨n, hn⟩ : ∃ n, n + 1 = L.length := ⟨L.length - 1, by omega⟩
  have he : ((L.length : Nat) : Int) - 1 = (n : Int) := by omega
  have HC := Lib.hid hcall
  have HH := Lib.hid hh
  have HN := Lib.hid hn
  have hnl : n < 1099511627776 := by omega
  clear hR hh hcall hn
  go_enter Try.func29, Try.ntmps29
  go_wp2_with fail
  refine Calls.mono HC.out ?_
  rintro e w1 ⟨rfl, hR1, hF1⟩
  have HF1 := Lib.hid hF1
  obtain ⟨f2, r2, hm2, hc2, hcall2⟩ := H.swap w1 L 0 n hR1 h0 (by have := HN.out; omega)
  have hz : ((0 : Nat) : Int) = 0 := rfl
  rw [hz] at hc2 hcall2
  have HC2 := Lib.hid hcall2
  clear hm hc hF1 hR1 hcall2 HC hz
  go_wp2_with fail
  refine Calls.mono HC2.out ?_
  rintro e w2 ⟨rfl, hR2, hF2⟩
  have HR2 := Lib.hid hR2
  have HF2 := Lib.hid (H.trans _ _ _ HF1.out hF2)
  clear hm2 hc2 hF2 hR2 HC2 he
  have hdn : Calls Try.prog 43 #[.iface t v, .int .i64 0, .int .i64 n] w2 fun e w3 => ∃ b L3, e = .returned (.bool b) ∧ R w3 (L3 ++ [L[0]!]) ∧ (L[0]! :: L3).Perm L ∧ Heap lt L3 L3.length ∧ F w w3 := by
    have hn := HN.out
    have hsl := swpL_length L 0 n
    have fin : ∀ (w3 : World) (M : List α), R w3 M → M.Perm (swpL L 0 n) → (∀ k, n ≤ k → M[k]! = (swpL L 0 n)[k]!) → Heap lt M n → F w w3 → ∃ L3, R w3 (L3 ++ [L[0]!]) ∧ (L[0]! :: L3).Perm L ∧ Heap lt L3 L3.length ∧ F w w3 := fun w3 M hR3 hp3 hk3 hh3 hF3 => by
      have hml := hp3.length_eq
      have hs := split_last (L := M) (n := n) (by omega)
      rw [hk3 n (Nat.le_refl _), swpL_last hn (by omega)] at hs
      have htl : (M.take n).length = n := by rw [List.length_take]; omega
      refine ⟨M.take n, by rw [← hs]; exact hR3, ?_, ?_, hF3⟩
      · have h1 : (L[0]! :: M.take n).Perm (M.take n ++ [L[0]!]) := (List.perm_append_singleton _ _).symm
        rw [← hs] at h1
        exact h1.trans (hp3.trans (swpL_perm h0 (by omega)))
      · rw [htl]
        exact (hh3.congr (fun k hk => get_take hk))
    rcases Nat.eq_zero_or_pos n with hz | hz
    · refine (down_c H o (i0 := 0) HR2.out ⟨fun k h0 h1 => by omega, fun k h0 h1 => by omega⟩ (by omega) (by omega) (by omega)).mono ?_
      rintro e w3 ⟨b, M, rfl, hR3, hp3, hk3, hF3, _, _⟩
      obtain ⟨L3, h⟩ := fin w3 M hR3 hp3 hk3 (fun k h0 h1 => by omega) (H.trans _ _ _ HF2.out hF3)
      exact ⟨b, L3, rfl, h⟩
    · have hnear := (show Heap lt L (n + 1) by rw [hn]; exact HH.out).swapped o hn hz
      refine (down_c H o (i0 := 0) HR2.out hnear (by omega) (by omega) (by omega)).mono ?_
      rintro e w3 ⟨b, M, rfl, hR3, hp3, hk3, hF3, hb1, hb2⟩
      obtain ⟨L3, h⟩ := fin w3 M hR3 hp3 hk3 (by
        cases b with
        | true => exact hb1 rfl
        | false =>
          obtain ⟨rfl, hu⟩ := hb2 rfl
          exact hu.heap (by omega)) (H.trans _ _ _ HF2.out hF3)
      exact ⟨b, L3, rfl, h⟩
  have HDN := Lib.hid hdn
  clear hdn
  go_wp2_with fail
  go_at_call 43
  refine HDN.out.mono ?_
  rintro e w3 ⟨b, L3, rfl, hR3, hp3, hh3, hF3⟩
  obtain ⟨f2, r2, hm2, hc2, hcall2⟩ := E.pop w3 L3 _ hR3
  have HC2 := Lib.hid hcall2
  have HP3 := Lib.hid hp3
  have HH3 := Lib.hid hh3
  have HF3 := Lib.hid hF3
  clear hcall2 hp3 hh3 hF3 hR3
  obtain ⟨x, hx⟩ : ∃ x, x = L[0]! := ⟨_, rfl⟩
  rw [← hx] at HC2
  have HX := Lib.hid hx
  clear hx
  go_wp2_with fail
  refine Calls.mono HC2.out ?_
  rintro e w4 ⟨rfl, hR4, hF4⟩
  have HP4 : Hid (PopPost lt enc R F L w (.returned (enc x)) w4) := Lib.hid ⟨by rw [HX.out], L3, hR4, HP3.out, HH3.out, H.trans _ _ _ HF3.out hF4⟩
  clear hR4 hF4 hm2 hc2
  go_wp2
  go_ret
  exact HP4.out
end Go.Proofs.Ytjlapnnmdfdjdaa
