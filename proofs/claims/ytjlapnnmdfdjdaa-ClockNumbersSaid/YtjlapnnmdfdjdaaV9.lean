/- Heaps behind an interface: the walks of up, down, Push, Pop, Fix, Remove, by what is known of the five methods alone. -/
import Derived.Test.YtjlapnnmdfdjdaaV8
namespace Go.Proofs.Ytjlapnnmdfdjdaa
open Go.RowKit
/-- A method's call: the function that it comes to, and what that does. -/
def Meth (t : TypeId) (v : Value) (name : String) (xs : List Value) (w : World) (Q : Ending → World → Prop) : Prop :=
  ∃ f r, (method 232 t v name).run Try.prog w = .ok (f, r) w ∧ (callFunc f (r :: xs).toArray).run Try.prog w = .ok (.enter f (r :: xs).toArray) w ∧ Calls Try.prog f (r :: xs).toArray w Q
structure HeapOps {α : Type} [Inhabited α] (t : TypeId) (v : Value) (lt : α → α → Bool) (R : World → List α → Prop) (F : World → World → Prop) : Prop where
  refl : ∀ w, F w w
  trans : ∀ w w1 w2, F w w1 → F w1 w2 → F w w2
  len : ∀ w L, R w L → Meth t v "Len" [] w fun e w' => e = .returned (.int .i64 (L.length : Int)) ∧ R w' L ∧ F w w'
  less : ∀ w L (i j : Nat), R w L → i < L.length → j < L.length → Meth t v "Less" [.int .i64 i, .int .i64 j] w fun e w' => e = .returned (.bool (lt L[i]! L[j]!)) ∧ R w' L ∧ F w w'
  swap : ∀ w L (i j : Nat), R w L → i < L.length → j < L.length → Meth t v "Swap" [.int .i64 i, .int .i64 j] w fun e w' => e = .returned (.tuple #[]) ∧ R w' (swpL L i j) ∧ F w w'
variable {α : Type} [Inhabited α] {t : TypeId} {v : Value} {lt : α → α → Bool} {R : World → List α → Prop} {F : World → World → Prop}
set_option maxRecDepth 100000 in
theorem up_c (H : HeapOps t v lt R F) (o : Ord lt) {w : World} {L : List α} {n j : Nat} (hR : R w L) (hu : UpTo lt L n j) (hj : j < n) (hn : n ≤ L.length) (hl : L.length ≤ 1099511627776) :
    Calls Try.prog 44 #[.iface t v, .int .i64 j] w fun e w' => e = .returned (.tuple #[]) ∧ ∃ L', R w' L' ∧ L'.Perm L ∧ Heap lt L' n ∧ (∀ k, n ≤ k → L'[k]! = L[k]!) ∧ F w w' := by
  have HR := Lib.hid hR
  have HU := Lib.hid hu
  clear hR hu
  go_enter Try.func44, Try.ntmps44
  go_wp2
  go_loopw [1] (fun i wr => ∃ (j : Nat) (L' : List α), i = .int .i64 j ∧ j < n ∧ R wr L' ∧ L'.Perm L ∧ UpTo lt L' n j ∧ (∀ k, n ≤ k → L'[k]! = L[k]!) ∧ F w wr) (fun i _ => (intOf i).toNat)
  case atStart => exact ⟨j, L, rfl, hj, HR.out, .refl _, HU.out, fun _ _ => rfl, H.refl _⟩
  case round =>
    clear hj
    obtain ⟨j, L', rfl, hj, hR, hp, hu, hk, hF⟩ := hrel
    have hll := hp.length_eq
    have HU := Lib.hid hu
    have HP := Lib.hid hp
    have HK := Lib.hid hk
    have HF := Lib.hid hF
    clear hu hp hk hF
    by_cases h0 : j = 0
    · subst h0
      have HR := Lib.hid hR
      clear hR
      go_wp2
      go_end0
      exact ⟨rfl, L', HR.out, HP.out, HU.out.heap (by omega), HK.out, HF.out⟩
    · obtain ⟨p, hp⟩ : ∃ p, p = par j := ⟨_, rfl⟩
      have hj1 : ((j : Int) - 1).tdiv 2 = (p : Int) := by rw [Int.tdiv_eq_ediv_of_nonneg (by omega)]; unfold par at hp; omega
      have hpj : p < j := by rw [hp]; exact par_lt (by omega)
      have hjl : j ≤ 1099511627776 := by omega
      have hne : ¬ (p : Int) = (j : Int) := by omega
      obtain ⟨f, r, hm, hc, hcall⟩ := H.less wr L' j p hR (by omega) (by omega)
      have HC := Lib.hid hcall
      have HLL := Lib.hid hll
      have HPP := Lib.hid hp
      clear hcall hR hll hp
      obtain ⟨b, hb⟩ : ∃ b, b = lt L'[j]! L'[p]! := ⟨_, rfl⟩
      rw [← hb] at HC
      have HB := Lib.hid hb
      clear hb
      go_wp2_with fail
      refine Calls.mono HC.out ?_
      rintro e w1 ⟨rfl, hR1, hF1⟩
      have HR1 := Lib.hid hR1
      have HF1 := Lib.hid (H.trans _ _ _ HF.out hF1)
      clear hm hc hF1 hR1
      cases b with
      | false =>
        go_wp2
        go_end0
        refine ⟨rfl, L', HR1.out, HP.out, HU.out.heap (fun _ _ => ?_), HK.out, HF1.out⟩
        rw [← HPP.out]; exact HB.out.symm
      | true =>
        obtain ⟨f, r, hm, hc, hcall⟩ := H.swap w1 L' p j HR1.out (by have := HLL.out; omega) (by have := HLL.out; omega)
        have HC2 := Lib.hid hcall
        clear hcall
        go_wp2_with fail
        refine Calls.mono HC2.out ?_
        rintro e w2 ⟨rfl, hR2, hF2⟩
        have HR2 := Lib.hid hR2
        have HF2 := Lib.hid (H.trans _ _ _ HF1.out hF2)
        clear hm hc hF2 hR2
        go_wp2
        go_roundw
        case rel =>
          have hll := HLL.out
          refine ⟨p, swpL L' p j, rfl, by omega, HR2.out, (swpL_perm (by omega) (by omega)).trans HP.out, ?_, fun k hk => ?_, HF2.out⟩
          · rw [HPP.out]
            exact HU.out.step o (by omega) hj (by omega) (by rw [← HPP.out]; exact HB.out.symm)
          · rw [swpL_get (by omega) (by omega), if_neg (by omega), if_neg (by omega)]
            exact HK.out k hk
        case measure => simp [intOf]; omega
/-- What down leaves. -/
def DownPost (lt : α → α → Bool) (R : World → List α → Prop) (F : World → World → Prop) (L : List α) (n i : Nat) (w : World) (e : Ending) (w' : World) : Prop :=
  ∃ (b : Bool) (L' : List α), e = .returned (.bool b) ∧ R w' L' ∧ L'.Perm L ∧ (∀ k, n ≤ k → L'[k]! = L[k]!) ∧ F w w' ∧ (b = true → Heap lt L' n) ∧ (b = false → L' = L ∧ UpTo lt L n i)
set_option maxRecDepth 100000 in
set_option maxHeartbeats 1000000 in
theorem down_c (H : HeapOps t v lt R F) (o : Ord lt) {w : World} {L : List α} {n i0 : Nat} (hR : R w L) (hu : Near lt L n i0) (hn : n ≤ L.length) (hi0 : i0 ≤ L.length) (hl : L.length ≤ 1099511627776) :
    Calls Try.prog 43 #[.iface t v, .int .i64 i0, .int .i64 n] w (DownPost lt R F L n i0 w) := by
  have HR := Lib.hid hR
  have HU := Lib.hid hu
  clear hR hu
  go_enter Try.func43, Try.ntmps43
  go_wp2
  go_loopw [7] (fun i wr => ∃ (j : Nat) (L' : List α), i = .int .i64 j ∧ (i0 ≤ j ∧ j ≤ L.length) ∧ R wr L' ∧ L'.Perm L ∧ Near lt L' n j ∧ (∀ k, n ≤ k → L'[k]! = L[k]!) ∧ F w wr ∧ (i0 = j → L' = L) ∧ (i0 < j → j < n ∧ lt L'[j]! L'[par j]! = false)) (fun i _ => n - (intOf i).toNat)
  case atStart => exact ⟨i0, L, rfl, ⟨Nat.le_refl _, hi0⟩, HR.out, .refl _, HU.out, fun _ _ => rfl, H.refl _, fun _ => rfl, fun h => absurd h (Nat.lt_irrefl _)⟩
  case round =>
    obtain ⟨j, L', rfl, ⟨hj, hjl⟩, hR, hp, hu, hk, hF, hs, hup⟩ := hrel
    have hll := hp.length_eq
    have HU := Lib.hid hu
    have HP := Lib.hid hp
    have HK := Lib.hid hk
    have HF := Lib.hid hF
    have HS := Lib.hid hs
    have HUP := Lib.hid hup
    have HLL := Lib.hid hll
    have fin : ∀ w1, R w1 L' → F w w1 → (∀ k, 0 < k → k < n → par k = j → lt L'[k]! L'[j]! = false) → DownPost lt R F L n i0 w (.returned (.bool (decide (i0 < j)))) w1 := fun w1 h1 h2 hm => by
      have hd := HU.out.done hm
      refine ⟨_, L', rfl, h1, HP.out, HK.out, h2, fun hb => ?_, fun hb => ?_⟩
      · have : i0 < j := by simpa using hb
        exact hd.heap (fun _ _ => (HUP.out this).2)
      · have : i0 = j := by have : ¬ i0 < j := by simpa using hb
                            omega
        subst this
        have := HS.out rfl
        subst this
        exact ⟨rfl, hd⟩
    have FIN := Lib.hid fin
    clear hu hp hk hF hs hup fin hll
    by_cases h1 : 2 * j + 1 < n
    · have c1 : ¬ (n : Int) ≤ 2 * (j : Int) + 1 := by omega
      have c2 : ¬ 2 * (j : Int) + 1 < 0 := by omega
      have HR := Lib.hid hR
      clear hR
      -- begin printed
      obtain ⟨j1, hj1⟩ : ∃ j1 : Nat, 2 * (j : Int) + 1 = (j1 : Int) := ⟨2 * j + 1, by omega⟩
      obtain ⟨j2, hj2⟩ : ∃ j2 : Nat, (j1 : Int) + 1 = (j2 : Int) := ⟨j1 + 1, by omega⟩
      rw [hj1] at c1 c2
      have hbd : j1 < n := by omega
      have hbe : j2 ≤ n := by omega
      have e1 : j1 = 2 * j + 1 := by omega
      have e2 : j2 = 2 * j + 2 := by omega
      have E1 := Lib.hid e1
      have E2 := Lib.hid e2
      have hjj : 2 * j ≤ 2199023255552 := by omega
      clear h1 e1 e2
      by_cases h2 : j2 < n
      · have c3 : (j2 : Int) < (n : Int) := by omega
        obtain ⟨f, r, hm, hc, hcall⟩ := H.less wr L' j2 j1 HR.out (by have := HLL.out; omega) (by have := HLL.out; omega)
        have HC := Lib.hid hcall
        clear hcall
        obtain ⟨b, hb⟩ : ∃ b, b = lt L'[j2]! L'[j1]! := ⟨_, rfl⟩
        rw [← hb] at HC
        have HB := Lib.hid hb
        clear hb
        go_wp2_with fail
        refine Calls.mono HC.out ?_
        rintro e w1 ⟨rfl, hR1, hF1⟩
        have HR1 := Lib.hid hR1
        have HF1 := Lib.hid (H.trans _ _ _ HF.out hF1)
        clear hm hc hF1 hR1 HC
        cases b with
        | false =>
          have sm : ∀ k, 0 < k → k < n → par k = j → lt L'[k]! L'[j1]! = false := fun k k0 k1 kp => by
            have e1 := E1.out
            have e2 := E2.out
            rcases (par_child k0).1 kp with h | h
            · have e : k = j1 := by omega
              rw [e]; exact o.irrefl _
            · rw [show k = j2 by omega]; exact HB.out.symm
          have SM := Lib.hid sm
          clear sm
          obtain ⟨f, r, hm, hc, hcall⟩ := H.less w1 L' j1 j HR1.out (by have := HLL.out; omega) (by have := HLL.out; omega)
          have HC := Lib.hid hcall
          clear hcall
          obtain ⟨b2, hb2⟩ : ∃ b2, b2 = lt L'[j1]! L'[j]! := ⟨_, rfl⟩
          rw [← hb2] at HC
          have HB2 := Lib.hid hb2
          clear hb2
          go_wp2_with fail
          refine Calls.mono HC.out ?_
          rintro e w5 ⟨rfl, hR5, hF5⟩
          have HR5 := Lib.hid hR5
          have HF5 := Lib.hid (H.trans _ _ _ HF1.out hF5)
          clear hm hc hF5 hR5
          cases b2 with
          | false =>
            go_wp2
            go_ret
            exact FIN.out w5 HR5.out HF5.out (fun k k0 k1 kp => o.tr _ _ _ HB2.out.symm (SM.out k k0 k1 kp))
          | true =>
            obtain ⟨f, r, hm, hc, hcall⟩ := H.swap w5 L' j j1 HR5.out (by have := HLL.out; omega) (by have := HLL.out; omega)
            have HC2 := Lib.hid hcall
            clear hcall
            go_wp2_with fail
            refine Calls.mono HC2.out ?_
            rintro e w6 ⟨rfl, hR6, hF6⟩
            have HR6 := Lib.hid hR6
            have HF6 := Lib.hid (H.trans _ _ _ HF5.out hF6)
            clear hm hc hF6 hR6
            go_wp2
            go_roundw
            case rel =>
              have hll := HLL.out
              have hpj : par j1 = j := by unfold par; omega
              obtain ⟨q1, q2, q3⟩ := HU.out.step o (by omega) (by omega) (by omega) hpj HB2.out.symm SM.out
              refine ⟨j1, swpL L' j j1, rfl, ⟨by omega, by omega⟩, HR6.out, (swpL_perm (by omega) (by omega)).trans HP.out, q1, fun k hk => ?_, HF6.out, by omega, fun _ => ⟨by omega, q2⟩⟩
              rw [swpL_get (by omega) (by omega), if_neg (by omega), if_neg (by omega)]
              exact HK.out k hk
            case measure => simp [intOf]; omega
        | true =>
          have sm : ∀ k, 0 < k → k < n → par k = j → lt L'[k]! L'[j2]! = false := fun k k0 k1 kp => by
            have e1 := E1.out
            have e2 := E2.out
            rcases (par_child k0).1 kp with h | h
            · have e : k = j1 := by omega
              rw [e]; exact o.asym _ _ HB.out.symm
            · rw [show k = j2 by omega]; exact o.irrefl _
          have SM := Lib.hid sm
          clear sm
          obtain ⟨f, r, hm, hc, hcall⟩ := H.less w1 L' j2 j HR1.out (by have := HLL.out; omega) (by have := HLL.out; omega)
          have HC := Lib.hid hcall
          clear hcall
          obtain ⟨b2, hb2⟩ : ∃ b2, b2 = lt L'[j2]! L'[j]! := ⟨_, rfl⟩
          rw [← hb2] at HC
          have HB2 := Lib.hid hb2
          clear hb2
          go_wp2_with fail
          refine Calls.mono HC.out ?_
          rintro e w5 ⟨rfl, hR5, hF5⟩
          have HR5 := Lib.hid hR5
          have HF5 := Lib.hid (H.trans _ _ _ HF1.out hF5)
          clear hm hc hF5 hR5
          cases b2 with
          | false =>
            go_wp2
            go_ret
            exact FIN.out w5 HR5.out HF5.out (fun k k0 k1 kp => o.tr _ _ _ HB2.out.symm (SM.out k k0 k1 kp))
          | true =>
            obtain ⟨f, r, hm, hc, hcall⟩ := H.swap w5 L' j j2 HR5.out (by have := HLL.out; omega) (by have := HLL.out; omega)
            have HC2 := Lib.hid hcall
            clear hcall
            go_wp2_with fail
            refine Calls.mono HC2.out ?_
            rintro e w6 ⟨rfl, hR6, hF6⟩
            have HR6 := Lib.hid hR6
            have HF6 := Lib.hid (H.trans _ _ _ HF5.out hF6)
            clear hm hc hF6 hR6
            go_wp2
            go_roundw
            case rel =>
              have hll := HLL.out
              have hpj : par j2 = j := by unfold par; omega
              obtain ⟨q1, q2, q3⟩ := HU.out.step o (by omega) (by omega) (by omega) hpj HB2.out.symm SM.out
              refine ⟨j2, swpL L' j j2, rfl, ⟨by omega, by omega⟩, HR6.out, (swpL_perm (by omega) (by omega)).trans HP.out, q1, fun k hk => ?_, HF6.out, by omega, fun _ => ⟨by omega, q2⟩⟩
              rw [swpL_get (by omega) (by omega), if_neg (by omega), if_neg (by omega)]
              exact HK.out k hk
            case measure => simp [intOf]; omega
      · have c3 : ¬ (j2 : Int) < (n : Int) := by omega
        have sm : ∀ k, 0 < k → k < n → par k = j → lt L'[k]! L'[j1]! = false := fun k k0 k1 kp => by
          have e1 := E1.out
          have e2 := E2.out
          rcases (par_child k0).1 kp with h | h
          · have e : k = j1 := by omega
            rw [e]; exact o.irrefl _
          · omega
        have SM := Lib.hid sm
        clear sm
        obtain ⟨f, r, hm, hc, hcall⟩ := H.less wr L' j1 j HR.out (by have := HLL.out; omega) (by have := HLL.out; omega)
        have HC := Lib.hid hcall
        clear hcall
        obtain ⟨b2, hb2⟩ : ∃ b2, b2 = lt L'[j1]! L'[j]! := ⟨_, rfl⟩
        rw [← hb2] at HC
        have HB2 := Lib.hid hb2
        clear hb2
        go_wp2_with fail
        refine Calls.mono HC.out ?_
        rintro e w5 ⟨rfl, hR5, hF5⟩
        have HR5 := Lib.hid hR5
        have HF5 := Lib.hid (H.trans _ _ _ HF.out hF5)
        clear hm hc hF5 hR5
        cases b2 with
        | false =>
          go_wp2
          go_ret
          exact FIN.out w5 HR5.out HF5.out (fun k k0 k1 kp => o.tr _ _ _ HB2.out.symm (SM.out k k0 k1 kp))
        | true =>
          obtain ⟨f, r, hm, hc, hcall⟩ := H.swap w5 L' j j1 HR5.out (by have := HLL.out; omega) (by have := HLL.out; omega)
          have HC2 := Lib.hid hcall
          clear hcall
          go_wp2_with fail
          refine Calls.mono HC2.out ?_
          rintro e w6 ⟨rfl, hR6, hF6⟩
          have HR6 := Lib.hid hR6
          have HF6 := Lib.hid (H.trans _ _ _ HF5.out hF6)
          clear hm hc hF6 hR6
          go_wp2
          go_roundw
          case rel =>
            have hll := HLL.out
            have hpj : par j1 = j := by unfold par; omega
            obtain ⟨q1, q2, q3⟩ := HU.out.step o (by omega) (by omega) (by omega) hpj HB2.out.symm SM.out
            refine ⟨j1, swpL L' j j1, rfl, ⟨by omega, by omega⟩, HR6.out, (swpL_perm (by omega) (by omega)).trans HP.out, q1, fun k hk => ?_, HF6.out, by omega, fun _ => ⟨by omega, q2⟩⟩
            rw [swpL_get (by omega) (by omega), if_neg (by omega), if_neg (by omega)]
            exact HK.out k hk
          case measure => simp [intOf]; omega
    · have c1 : (n : Int) ≤ 2 * (j : Int) + 1 := by omega
      have HR := Lib.hid hR
      clear hR
      go_wp2
      go_ret
      exact FIN.out wr HR.out HF.out (fun k k0 k1 kp => by unfold par at kp; omega)
end Go.Proofs.Ytjlapnnmdfdjdaa
