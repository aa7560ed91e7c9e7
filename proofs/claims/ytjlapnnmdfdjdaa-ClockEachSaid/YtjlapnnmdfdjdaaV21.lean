/- Heaps behind an interface: the walks of Fix and Remove. -/
import Derived.Test.YtjlapnnmdfdjdaaV10
namespace Go.Proofs.Ytjlapnnmdfdjdaa
open Go.RowKit
variable {α : Type} [Inhabited α] {t : TypeId} {v : Value} {enc : α → Value} {lt : α → α → Bool} {R : World → List α → Prop} {F : World → World → Prop} {ok : α → Prop}
/-- down, then up where it did not move: the place is mended. -/
theorem mend_c (H : HeapOps t v lt R F) (o : Ord lt) {w : World} {L : List α} {n i : Nat} (hR : R w L) (hu : Near lt L n i) (hi : i < n) (hn : n ≤ L.length) (hl : L.length ≤ 1099511627776) :
    Calls Try.prog 43 #[.iface t v, .int .i64 i, .int .i64 n] w fun e w' => ∃ b L', e = .returned (.bool b) ∧ R w' L' ∧ L'.Perm L ∧ (∀ k, n ≤ k → L'[k]! = L[k]!) ∧ F w w' ∧ (b = true → Heap lt L' n) ∧
      (b = false → Calls Try.prog 44 #[.iface t v, .int .i64 i] w' fun e w2 => e = .returned (.tuple #[]) ∧ ∃ L2, R w2 L2 ∧ L2.Perm L ∧ Heap lt L2 n ∧ (∀ k, n ≤ k → L2[k]! = L[k]!) ∧ F w w2) := by
  refine (down_c H o hR hu hn (by omega) hl).mono ?_
  rintro e w1 ⟨b, L1, rfl, hR1, hp1, hk1, hF1, hb1, hb2⟩
  refine ⟨b, L1, rfl, hR1, hp1, hk1, hF1, hb1, fun hb => ?_⟩
  obtain ⟨rfl, hup⟩ := hb2 hb
  refine (up_c H o hR1 hup hi hn hl).mono ?_
  rintro e w2 ⟨rfl, L2, hR2, hp2, hh2, hk2, hF2⟩
  exact ⟨rfl, L2, hR2, hp2, hh2, hk2, H.trans _ _ _ hF1 hF2⟩
def FixPost (lt : α → α → Bool) (R : World → List α → Prop) (F : World → World → Prop) (L : List α) (w : World) (e : Ending) (w' : World) : Prop :=
  e = .returned (.tuple #[]) ∧ ∃ L', R w' L' ∧ L'.Perm L ∧ Heap lt L' L'.length ∧ F w w'
theorem fix_c (H : HeapOps t v lt R F) (o : Ord lt) {w : World} {L : List α} {i : Nat} (hR : R w L) (hu : Near lt L L.length i) (hi : i < L.length) (hl : L.length ≤ 1099511627776) :
    Calls Try.prog 28 #[.iface t v, .int .i64 i] w (FixPost lt R F L w) := by
  obtain ⟨f, r, hm, hc, hcall⟩ := H.len w L hR
  have HC := Lib.hid hcall
  have HU := Lib.hid hu
  clear hR hu hcall
  go_enter Try.func28, Try.ntmps28
  go_wp2_with fail
  refine Calls.mono HC.out ?_
  rintro e w1 ⟨rfl, hR1, hF1⟩
  have HF1 := Lib.hid hF1
  have hmend := mend_c H o hR1 HU.out hi (Nat.le_refl _) hl
  have HM := Lib.hid hmend
  clear hm hc hF1 hR1 HC hmend
  go_wp2_with fail
  go_at_call 43
  refine HM.out.mono ?_
  rintro e w2 ⟨b, L2, rfl, hR2, hp2, _, hF2, hb1, hb2⟩
  cases b with
  | true =>
    have hh := hb1 rfl
    rw [← hp2.length_eq] at hh
    have HP : Hid (FixPost lt R F L w (.returned (.tuple #[])) w2) := Lib.hid ⟨rfl, L2, hR2, hp2, hh, H.trans _ _ _ HF1.out hF2⟩
    clear hb1 hb2 hh hR2 hp2 hF2
    go_wp2
    go_end0
    exact HP.out
  | false =>
    have HUP := Lib.hid (hb2 rfl)
    clear hb1 hb2 hR2 hp2 hF2
    go_wp2_with fail
    go_at_call 44
    refine HUP.out.mono ?_
    rintro e w3 ⟨rfl, L3, hR3, hp3, hh3, _, hF3⟩
    rw [← hp3.length_eq] at hh3
    have HP : Hid (FixPost lt R F L w (.returned (.tuple #[])) w3) := Lib.hid ⟨rfl, L3, hR3, hp3, hh3, H.trans _ _ _ HF1.out hF3⟩
    clear hR3 hp3 hh3 hF3
    go_wp2
    go_end0
    exact HP.out
def RemPost (lt : α → α → Bool) (enc : α → Value) (R : World → List α → Prop) (F : World → World → Prop) (L : List α) (i : Nat) (w : World) (e : Ending) (w' : World) : Prop :=
  e = .returned (enc L[i]!) ∧ ∃ L', R w' L' ∧ (L[i]! :: L').Perm L ∧ Heap lt L' L'.length ∧ F w w'
theorem rem_fin {L M : List α} {n i : Nat} (hn : n + 1 = L.length) (hi : i ≤ n) (hp : M.Perm (swpL L i n)) (hk : ∀ k, n ≤ k → M[k]! = (swpL L i n)[k]!) (hh : Heap lt M n) : ∃ L3, M = L3 ++ [L[i]!] ∧ (L[i]! :: L3).Perm L ∧ Heap lt L3 L3.length := by
  have hsl := swpL_length L i n
  have hml := hp.length_eq
  have hs := split_last (L := M) (n := n) (by omega)
  rw [hk n (Nat.le_refl _), swpL_last hn hi] at hs
  have htl : (M.take n).length = n := by rw [List.length_take]; omega
  refine ⟨M.take n, hs, ?_, ?_⟩
  · have h1 : (L[i]! :: M.take n).Perm (M.take n ++ [L[i]!]) := (List.perm_append_singleton _ _).symm
    rw [← hs] at h1
    exact h1.trans (hp.trans (swpL_perm (by omega) (by omega)))
  · rw [htl]
    exact (hh.congr (fun k hk => get_take hk))
set_option maxRecDepth 100000 in
set_option maxHeartbeats 1000000 in
theorem remove_c (H : HeapOps t v lt R F) (E : HeapEnds t v enc R F ok) (o : Ord lt) {w : World} {L : List α} {i : Nat} (hR : R w L) (hh : Heap lt L L.length) (hi : i < L.length) (hl : L.length ≤ 1099511627776) :
    Calls Try.prog 34 #[.iface t v, .int .i64 i] w (RemPost lt enc R F L i w) := by
  obtain ⟨f, r, hm, hc, hcall⟩ := H.len w L hR
  obtain ⟨n, hn⟩ : ∃ n, n + 1 = L.length := ⟨L.length - 1, by omega⟩
  have he : ((L.length : Nat) : Int) - 1 = (n : Int) := by omega
  have HC := Lib.hid hcall
  have HH := Lib.hid hh
  have HN := Lib.hid hn
  have hnl : n < 1099511627776 := by omega
  have hin : i ≤ n := by omega
  clear hR hh hcall hn
  go_enter Try.func34, Try.ntmps34
  go_wp2_with fail
  refine Calls.mono HC.out ?_
  rintro e w1 ⟨rfl, hR1, hF1⟩
  have HR1 := Lib.hid hR1
  have HF1 := Lib.hid hF1
  clear hm hc hR1 hF1 HC
  go_upto_if 11 with (fail)
  go_cut [12] (fun _ w' => ∃ L3, R w' (L3 ++ [L[i]!]) ∧ (L[i]! :: L3).Perm L ∧ Heap lt L3 L3.length ∧ F w w')
  case first =>
    by_cases hc : i = n
    · have hb : ((n : Int) != (i : Int)) = false := by rw [hc]; simp
      have hs := split_last (L := L) (n := n) HN.out
      have hfin : ∃ L3, R w1 (L3 ++ [L[i]!]) ∧ (L[i]! :: L3).Perm L ∧ Heap lt L3 L3.length ∧ F w w1 := by
        refine ⟨L.take n, ?_, ?_, ?_, HF1.out⟩
        · rw [hc, ← hs]; exact HR1.out
        · have h1 : (L[i]! :: L.take n).Perm (L.take n ++ [L[i]!]) := (List.perm_append_singleton _ _).symm
          rw [hc, ← hs] at h1
          rw [hc]; exact h1
        · have htl : (L.take n).length = n := by rw [List.length_take]; have := HN.out; omega
          rw [htl]
          exact (HH.out.less (m := n) (by have := HN.out; omega)).congr (fun k hk => get_take hk)
      have HFIN := Lib.hid hfin
      clear hs hfin hc
      go_wp2
      go_meet
      case rel => exact HFIN.out
    · have hlt : i < n := by omega
      have hb : ((n : Int) != (i : Int)) = true := by rw [bne_iff_ne]; omega
      obtain ⟨f2, r2, hm2, hc2, hcall2⟩ := H.swap w1 L i n HR1.out hi (by have := HN.out; omega)
      have HC2 := Lib.hid hcall2
      clear hcall2 hc
      go_wp2_with fail
      refine Calls.mono HC2.out ?_
      rintro e w2 ⟨rfl, hR2, hF2⟩
      have hsl := swpL_length L i n
      have hnear := (show Heap lt L (n + 1) by rw [HN.out]; exact HH.out).swapped o HN.out hlt
      have hmend := mend_c H o hR2 hnear hlt (by rw [hsl]; have := HN.out; omega) (by rw [hsl]; omega)
      have HM := Lib.hid hmend
      have HF2 := Lib.hid (H.trans _ _ _ HF1.out hF2)
      clear hm2 hc2 hR2 hF2 hsl hnear hmend HC2
      go_wp2_with fail
      go_at_call 43
      refine HM.out.mono ?_
      rintro e w3 ⟨b, M, rfl, hR3, hp3, hk3, hF3, hb1, hb2⟩
      cases b with
      | true =>
        obtain ⟨L3, rfl, h1, h2⟩ := rem_fin HN.out hin hp3 hk3 (hb1 rfl)
        have HFIN : Hid (∃ L3, R w3 (L3 ++ [L[i]!]) ∧ (L[i]! :: L3).Perm L ∧ Heap lt L3 L3.length ∧ F w w3) := Lib.hid ⟨L3, hR3, h1, h2, H.trans _ _ _ HF2.out hF3⟩
        clear hb1 hb2 hR3 hp3 hk3 hF3 h1 h2
        go_wp2
        go_meet
        case rel => exact HFIN.out
      | false =>
        have HUP := Lib.hid (hb2 rfl)
        clear hb1 hb2 hR3 hp3 hk3 hF3
        go_wp2_with fail
        go_at_call 44
        refine HUP.out.mono ?_
        rintro e w4 ⟨rfl, M2, hR4, hp4, hh4, hk4, hF4⟩
        obtain ⟨L3, rfl, h1, h2⟩ := rem_fin HN.out hin hp4 hk4 hh4
        have HFIN : Hid (∃ L3, R w4 (L3 ++ [L[i]!]) ∧ (L[i]! :: L3).Perm L ∧ Heap lt L3 L3.length ∧ F w w4) := Lib.hid ⟨L3, hR4, h1, h2, H.trans _ _ _ HF2.out hF4⟩
        clear hR4 hp4 hh4 hk4 hF4 h1 h2
        go_wp2
        go_meet
        case rel => exact HFIN.out
  case rest =>
    obtain ⟨L3, hR3, hp3, hh3, hF3⟩ := hcut
    obtain ⟨f2, r2, hm2, hc2, hcall2⟩ := E.pop wc L3 _ hR3
    have HC2 := Lib.hid hcall2
    have HP3 := Lib.hid hp3
    have HH3 := Lib.hid hh3
    have HF3 := Lib.hid hF3
    obtain ⟨x, hx⟩ : ∃ x, x = L[i]! := ⟨_, rfl⟩
    rw [← hx] at HC2
    have HX := Lib.hid hx
    clear hcall2 hp3 hh3 hF3 hR3 hx
    go_wp2_with fail
    refine Calls.mono HC2.out ?_
    rintro e w4 ⟨rfl, hR4, hF4⟩
    have HP4 : Hid (RemPost lt enc R F L i w (.returned (enc x)) w4) := Lib.hid ⟨by rw [HX.out], L3, hR4, HP3.out, HH3.out, H.trans _ _ _ HF3.out hF4⟩
    clear hR4 hF4 hm2 hc2
    go_wp2
    go_ret
    exact HP4.out
end Go.Proofs.Ytjlapnnmdfdjdaa
