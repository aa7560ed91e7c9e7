/- The law SchedStarves. -/
import Derived.Test.YtbgnchddeklmeaaK13
namespace Go.Proofs.Ytbgnchddeklmeaa
open Go.RowKit
/-- Words of 64 bits, as a row. -/
def U (xs : List Nat) : List Value := xs.map fun x => .int .u64 (Int.ofNat x)
theorem U_length (xs : List Nat) : (U xs).length = xs.length := List.length_map _
theorem U_get (xs : List Nat) (j : Nat) (h : j < xs.length) : (U xs)[j]'(by rw [U_length]; exact h) = .int .u64 (xs[j] : Nat) := List.getElem_map _
theorem RowAt.u64 {w : World} {X : Option Addr} {xs : List Nat} (h : RowAt w X (U xs)) {j : Nat} (hj : j < xs.length) : ∃ b off, X = some ⟨b, off, none⟩ ∧ b < w.heap.size ∧ w.cell? ⟨b, off + j, none⟩ = some (.int .u64 (xs[j] : Nat)) := by
  rcases h with h | ⟨b, off, e, hl, hc⟩
  · have := congrArg List.length h; rw [U_length] at this; simp at this; subst this; simp at hj
  · exact ⟨b, off, e, hl, by rw [hc j (by rw [U_length]; exact hj), U_get xs j hj]⟩
theorem or_bit {X a : Nat} (hX : X < 18446744073709551616) (ha : a < 12) : bits BinOp.or IntKind.u64 (X : Int) (IntKind.u64.wrap (2 ^ a)) = ((X ||| 2 ^ a : Nat) : Int) ∧ X ||| 2 ^ a < 18446744073709551616 := by
  have h1 : 2 ^ a < 4096 := Nat.pow_lt_pow_right (by omega) ha
  have h2 : IntKind.u64.wrap (2 ^ a) = ((2 ^ a : Nat) : Int) := by
    rw [IntKind.wrap_u64, show ((2 : Int) ^ a) = ((2 ^ a : Nat) : Int) by push_cast; rfl]
    generalize 2 ^ a = P at h1
    omega
  rw [h2]
  exact ⟨bits_or_u64_nat _ _ hX (by omega), Nat.or_lt_two_pow (n := 64) hX (by omega)⟩
theorem mem_or {X a : Nat} (ha : a < 12) : (a : Int) ∈ someL (X ||| 2 ^ a) 12 := by
  rw [mem_someL]
  exact ⟨by omega, by omega, by rw [Int.toNat_natCast, Nat.testBit_or, Nat.testBit_two_pow_self]; simp⟩
theorem all_or {a : Nat} (ha : a < 12) : someL (4095 ||| 2 ^ a) 12 = all12 := by
  have h : ∀ a : Fin 12, someL (4095 ||| 2 ^ a.val) 12 = all12 := by decide
  exact h ⟨a, ha⟩
set_option maxHeartbeats 2000000 in
theorem starves_false (au bs : List Nat) (Xa Xb : Option Addr) (da db : Nat) (x : Int) (w : World) (ha : RowAt w Xa (U au)) (hb : RowAt w Xb (U bs)) (hal : au.length ≤ 140737488355328) (hbl : bs.length ≤ 140737488355328) (hau : ∀ v ∈ au, v < 18446744073709551616) (hbu : ∀ v ∈ bs, v < 18446744073709551616) :
    Calls Try.prog 3 #[.bool false, .slice Xa au.length da, .int .i64 x, .slice Xb bs.length db] w fun e w' => e = .returned (.bool true) ∧ Below w.heap.size w w' := by
  have HA := Lib.hid ha
  have HB := Lib.hid hb
  have HAU := Lib.hid hau
  have HBU := Lib.hid hbu
  clear ha hb hau hbu
  go_enter Try.func3, Try.ntmps3
  go_wp2_with fail
  go_at_call 7
  refine (works_c _).mono ?_
  rintro e w1 ⟨rfl, hb1⟩
  go_wp2_with fail
  go_at_call 8
  refine (round_c _).mono ?_
  rintro e w2 ⟨s, rfl, hs, hS, hb2⟩
  have hM0 : Below w.heap.size w w2 := hb1.trans (hb2.mono hb1.size)
  have hsw : w.heap.size ≤ s := by have := hb1.size; omega
  have hSt := st1_round hS
  clear hS hb1 hb2 hs
  have HM0 := Lib.hid hM0
  have HST := Lib.hid hSt
  clear hM0 hSt
  go_wp2_with fail
  go_loopw [26] (fun i wr => ∃ j : Nat, i = .int .i64 j ∧ j ≤ au.length ∧ St1 false wr s j ∧ Below w.heap.size w wr) (fun i _ => au.length - (intOf i).toNat)
  case atStart => exact ⟨0, rfl, by omega, HST.out, HM0.out⟩
  case round =>
    obtain ⟨j, rfl, hj, hst, hbel⟩ := hrel
    by_cases hlt : j < au.length
    · have hlt2 : (j : Int) < (au.length : Int) := by omega
      have hj0 : (0 : Int) ≤ (j : Int) := by omega
      obtain ⟨b, off, rfl, _, hcj⟩ := (HA.out.below hbel).u64 hlt
      have hvj := HAU.out _ (List.getElem_mem hlt)
      obtain ⟨v, hv⟩ : ∃ v, v = au[j] := ⟨_, rfl⟩
      rw [← hv] at hcj hvj
      have HST2 := Lib.hid hst
      have HBEL := Lib.hid hbel
      clear hv hst hbel
      go_wp2_with fail
      go_at_call 11
      refine (some_c v 12 _ hvj (by omega)).mono ?_
      rintro e w5 ⟨Y, d5, rfl, hr5, hb5⟩
      have hst5 := HST2.out.moves (Moves.of_new [] hb5) (by simp)
      have hbel5 := HBEL.out.trans (hb5.mono HBEL.out.size)
      have HR5 := Lib.hid hr5
      have HST5 := Lib.hid hst5
      have HBEL5 := Lib.hid hbel5
      clear hr5 hst5 hb5 hbel5
      go_wp2_with fail
      go_at_call 10
      refine (next_ahead v d5 HST5.out HR5.out (by omega)).mono ?_
      rintro e w6 ⟨r, rfl, hst6, hm6⟩
      have hbel6 : Below w.heap.size w w6 := HBEL5.out.trans (hm6.below HBEL5.out.size (by simpa using hsw))
      have HST6 := Lib.hid hst6
      have HBEL6 := Lib.hid hbel6
      clear hst6 hbel6 hm6
      go_wp2
      go_roundw
      case rel => exact ⟨j + 1, by go_num, by omega, HST6.out, HBEL6.out⟩
      case measure => simp [intOf]; omega
    · have hge : ¬ (j : Int) < (au.length : Int) := by omega
      have hjC : j ≤ au.length := hj
      have HST2 := Lib.hid hst
      have HBEL := Lib.hid hbel
      clear hst hbel
      go_wp2_with fail
      go_at_call 12
      refine (among_c x 12 _ (by omega)).mono ?_
      rintro e w7 ⟨rfl, rfl⟩
      obtain ⟨a, ha⟩ : ∃ a : Nat, x % 12 = a := ⟨(x % 12).toNat, by omega⟩
      have ha12 : a < 12 := by omega
      rw [ha]
      clear ha
      obtain ⟨D0, hD0, hD1, hst2⟩ := HST2.out.st2 (a : Int)
      have HS2 := Lib.hid hst2
      clear hst2
      go_wp2_with fail
      have ha0 : (0 : Int) ≤ (a : Int) := by omega
      have ha64 : (a : Int) ≤ 64 := by omega
      go_loopw [12, 39] (fun c i wr => ∃ (j : Nat) (cn D : Int), i = .int .i64 j ∧ c = .int .i64 cn ∧ j ≤ bs.length ∧ 0 ≤ cn ∧ 0 ≤ D ∧ cn + D ≤ 11 ∧ St2 false a wr s (au.length + j) D ∧ Below w.heap.size w wr) (fun _ i _ => bs.length - (intOf i).toNat)
      case atStart => exact ⟨0, 0, D0, rfl, rfl, by omega, by omega, by omega, by omega, by obtain ⟨l, c, o, h1, h2, h3, h4⟩ := HS2.out; exact ⟨l, c, o, h1, h2, by omega, h4⟩, HBEL.out⟩
      case round =>
        obtain ⟨j, cn, D, rfl, rfl, hj, hcn, hD, hcD, hst, hbel⟩ := hrel
        by_cases hlt : j < bs.length
        · have hlt2 : (j : Int) < (bs.length : Int) := by omega
          have hj0 : (0 : Int) ≤ (j : Int) := by omega
          obtain ⟨b, off, rfl, _, hcj⟩ := (HB.out.below hbel).u64 hlt
          have hvj := HBU.out _ (List.getElem_mem hlt)
          obtain ⟨v, hv⟩ : ∃ v, v = bs[j] := ⟨_, rfl⟩
          rw [← hv] at hcj hvj
          obtain ⟨hor, hor2⟩ := or_bit hvj ha12
          obtain ⟨vv, hvv⟩ : ∃ vv, vv = v ||| 2 ^ a := ⟨_, rfl⟩
          rw [← hvv] at hor hor2
          have hmem : (a : Int) ∈ someL vv 12 := by rw [hvv]; exact mem_or ha12
          have hfa : True := by trivial
          have HOR := Lib.hid hor
          have HMEM := Lib.hid hmem
          have HFA := Lib.hid hfa
          have HOR2 := Lib.hid hor2
          have HST2 := Lib.hid hst
          have HBEL := Lib.hid hbel
          have HCD := Lib.hid hcD
          clear hv hst hbel hor2 hcD hvv hmem hfa hor
          go_wp2_with fail
          go_at_call 11
          refine (HOR.out ▸ some_c vv 12 _ HOR2.out (by omega) : Calls Try.prog 11 #[.int .u64 (bits BinOp.or IntKind.u64 v (IntKind.u64.wrap (2 ^ a))), .int .i64 12] wr _).mono ?_
          rintro e w5 ⟨Y, d5, rfl, hr5, hb5⟩
          have hst5 := HST2.out.moves (Moves.of_new [] hb5) (by simp)
          have hbel5 := HBEL.out.trans (hb5.mono HBEL.out.size)
          have HR5 := Lib.hid hr5
          have HST5 := Lib.hid hst5
          have HBEL5 := Lib.hid hbel5
          clear hr5 hst5 hb5 hbel5
          go_wp2_with fail
          go_at_call 10
          refine (next_always false vv d5 HST5.out HR5.out (by omega) HMEM.out (fun h => by cases h)).mono ?_
          rintro e w6 ⟨k, D6, rfl, hst6, hD6, hD7, hne, hm6⟩
          have hbel6 : Below w.heap.size w w6 := HBEL5.out.trans (hm6.below HBEL5.out.size (by simpa using hsw))
          have HST6 := Lib.hid hst6
          have HBEL6 := Lib.hid hbel6
          have HNE := Lib.hid hne
          clear hst6 hbel6 hm6 hne
          by_cases hka : k = (a : Int)
          · have HKA := Lib.hid hka
            have hkb : (k == (a : Int)) = true := by simpa using hka
            clear hka
            go_wp2
            go_roundw
            case rel => exact ⟨j + 1, 0, D6, by go_num, rfl, by omega, by omega, by omega, by omega, HST6.out, HBEL6.out⟩
            case measure => simp [intOf]; omega
          · have hkb : (k == (a : Int)) = false := by simpa using hka
            have hcn2 : cn + 1 < 12 := by have := HNE.out hka; have := HCD.out; omega
            have hcn3 : ¬ 12 ≤ cn + 1 := by omega
            have HD := Lib.hid (HNE.out hka)
            clear hka
            go_wp2
            go_roundw
            case rel => exact ⟨j + 1, cn + 1, D6, by go_num, by go_num, by omega, by omega, by omega, by have := HD.out; have := HCD.out; omega, HST6.out, HBEL6.out⟩
            case measure => simp [intOf]; omega
        · have hge2 : ¬ (j : Int) < (bs.length : Int) := by omega
          have HBEL := Lib.hid hbel
          clear hst hbel
          go_wp2
          go_ret
          exact ⟨rfl, HBEL.out⟩
set_option maxHeartbeats 2000000 in
theorem starves_true (au bs : List Nat) (Xa Xb : Option Addr) (da db : Nat) (x : Int) (w : World) (ha : RowAt w Xa (U au)) (hb : RowAt w Xb (U bs)) (hal : au.length ≤ 140737488355328) (hbl : bs.length ≤ 140737488355328) (hau : ∀ v ∈ au, v < 18446744073709551616) (hbu : ∀ v ∈ bs, v < 18446744073709551616) :
    Calls Try.prog 3 #[.bool true, .slice Xa au.length da, .int .i64 x, .slice Xb bs.length db] w fun e w' => e = .returned (.bool true) ∧ Below w.heap.size w w' := by
  have HA := Lib.hid ha
  have HB := Lib.hid hb
  have HAU := Lib.hid hau
  have HBU := Lib.hid hbu
  clear ha hb hau hbu
  go_enter Try.func3, Try.ntmps3
  go_wp2_with fail
  go_at_call 7
  refine (works_c _).mono ?_
  rintro e w1 ⟨rfl, hb1⟩
  go_wp2_with fail
  go_at_call 8
  refine (round_c _).mono ?_
  rintro e w2 ⟨s0, rfl, hs0, hS0, hb2⟩
  go_wp2_with fail
  go_at_call 9
  refine (fair_c _).mono ?_
  rintro e w3 ⟨s, rfl, hs, hS, hb3⟩
  have hM0 : Below w.heap.size w w3 := (hb1.trans (hb2.mono hb1.size)).trans (hb3.mono (by have := hb1.size; have := hb2.size; omega))
  have hsw : w.heap.size ≤ s := by have := hb1.size; have := hb2.size; omega
  have hSt := st1_fair hS
  clear hS hS0 hb1 hb2 hb3 hs0 hs
  have HM0 := Lib.hid hM0
  have HST := Lib.hid hSt
  clear hM0 hSt
  go_wp2_with fail
  go_loopw [26] (fun i wr => i = .int .i64 0 ∧ wr = w3) (fun _ _ => 0)
  case atStart => exact ⟨rfl, rfl⟩
  case round =>
    obtain ⟨rfl, rfl⟩ := hrel
    have j : Nat := 0
    by_cases hlt : False
    · exact hlt.elim
    · obtain ⟨j, hjC0⟩ : ∃ j : Nat, j = 0 := ⟨0, rfl⟩
      have hjC : j ≤ au.length := by omega
      have HST2 := Lib.hid (hjC0 ▸ HST.out : St1 true wr s j)
      have HBEL := HM0
      clear hjC0
      go_wp2_with fail
      go_at_call 12
      refine (among_c x 12 _ (by omega)).mono ?_
      rintro e w7 ⟨rfl, rfl⟩
      obtain ⟨a, ha⟩ : ∃ a : Nat, x % 12 = a := ⟨(x % 12).toNat, by omega⟩
      have ha12 : a < 12 := by omega
      rw [ha]
      clear ha
      obtain ⟨D0, hD0, hD1, hst2⟩ := HST2.out.st2 (a : Int)
      have HS2 := Lib.hid hst2
      clear hst2
      go_wp2_with fail
      have ha0 : (0 : Int) ≤ (a : Int) := by omega
      have ha64 : (a : Int) ≤ 64 := by omega
      go_loopw [12, 39] (fun c i wr => ∃ (j : Nat) (cn D : Int), i = .int .i64 j ∧ c = .int .i64 cn ∧ j ≤ bs.length ∧ 0 ≤ cn ∧ 0 ≤ D ∧ cn + D ≤ 11 ∧ St2 true a wr s (au.length + j) D ∧ Below w.heap.size w wr) (fun _ i _ => bs.length - (intOf i).toNat)
      case atStart => exact ⟨0, 0, D0, rfl, rfl, by omega, by omega, by omega, by omega, by obtain ⟨l, c, o, h1, h2, h3, h4⟩ := HS2.out; exact ⟨l, c, o, h1, h2, by omega, h4⟩, HBEL.out⟩
      case round =>
        obtain ⟨j, cn, D, rfl, rfl, hj, hcn, hD, hcD, hst, hbel⟩ := hrel
        by_cases hlt : j < bs.length
        · have hlt2 : (j : Int) < (bs.length : Int) := by omega
          have hj0 : (0 : Int) ≤ (j : Int) := by omega
          obtain ⟨b, off, rfl, _, hcj⟩ := (HB.out.below hbel).u64 hlt
          have hvj := HBU.out _ (List.getElem_mem hlt)
          obtain ⟨v, hv⟩ : ∃ v, v = bs[j] := ⟨_, rfl⟩
          rw [← hv] at hcj hvj
          obtain ⟨hor, hor2⟩ := or_bit (show 4095 < 18446744073709551616 by omega) ha12
          obtain ⟨vv, hvv⟩ : ∃ vv, vv = 4095 ||| 2 ^ a := ⟨_, rfl⟩
          rw [← hvv] at hor hor2
          have hmem : (a : Int) ∈ someL vv 12 := by rw [hvv]; exact mem_or ha12
          have hfa : someL vv 12 = all12 := by rw [hvv]; exact all_or ha12
          have HOR := Lib.hid hor
          have HMEM := Lib.hid hmem
          have HFA := Lib.hid hfa
          have HOR2 := Lib.hid hor2
          have HST2 := Lib.hid hst
          have HBEL := Lib.hid hbel
          have HCD := Lib.hid hcD
          clear hv hst hbel hor2 hcD hvv hmem hfa hor
          go_wp2_with fail
          go_at_call 11
          refine (HOR.out ▸ some_c vv 12 _ HOR2.out (by omega) : Calls Try.prog 11 #[.int .u64 (bits BinOp.or IntKind.u64 4095 (IntKind.u64.wrap (2 ^ a))), .int .i64 12] wr _).mono ?_
          rintro e w5 ⟨Y, d5, rfl, hr5, hb5⟩
          have hst5 := HST2.out.moves (Moves.of_new [] hb5) (by simp)
          have hbel5 := HBEL.out.trans (hb5.mono HBEL.out.size)
          have HR5 := Lib.hid hr5
          have HST5 := Lib.hid hst5
          have HBEL5 := Lib.hid hbel5
          clear hr5 hst5 hb5 hbel5
          go_wp2_with fail
          go_at_call 10
          refine (next_always true vv d5 HST5.out HR5.out (by omega) HMEM.out (fun _ => HFA.out)).mono ?_
          rintro e w6 ⟨k, D6, rfl, hst6, hD6, hD7, hne, hm6⟩
          have hbel6 : Below w.heap.size w w6 := HBEL5.out.trans (hm6.below HBEL5.out.size (by simpa using hsw))
          have HST6 := Lib.hid hst6
          have HBEL6 := Lib.hid hbel6
          have HNE := Lib.hid hne
          clear hst6 hbel6 hm6 hne
          by_cases hka : k = (a : Int)
          · have HKA := Lib.hid hka
            have hkb : (k == (a : Int)) = true := by simpa using hka
            clear hka
            go_wp2
            go_roundw
            case rel => exact ⟨j + 1, 0, D6, by go_num, rfl, by omega, by omega, by omega, by omega, HST6.out, HBEL6.out⟩
            case measure => simp [intOf]; omega
          · have hkb : (k == (a : Int)) = false := by simpa using hka
            have hcn2 : cn + 1 < 12 := by have := HNE.out hka; have := HCD.out; omega
            have hcn3 : ¬ 12 ≤ cn + 1 := by omega
            have HD := Lib.hid (HNE.out hka)
            clear hka
            go_wp2
            go_roundw
            case rel => exact ⟨j + 1, cn + 1, D6, by go_num, by go_num, by omega, by omega, by omega, by have := HD.out; have := HCD.out; omega, HST6.out, HBEL6.out⟩
            case measure => simp [intOf]; omega
        · have hge2 : ¬ (j : Int) < (bs.length : Int) := by omega
          have HBEL := Lib.hid hbel
          clear hst hbel
          go_wp2
          go_ret
          exact ⟨rfl, HBEL.out⟩
theorem law_starves (b : Bool) (au bs : List Nat) (Xa Xb : Option Addr) (da db : Nat) (x : Int) (w : World) (ha : RowAt w Xa (U au)) (hb : RowAt w Xb (U bs)) (hal : au.length ≤ 140737488355328) (hbl : bs.length ≤ 140737488355328) (hau : ∀ v ∈ au, v < 18446744073709551616) (hbu : ∀ v ∈ bs, v < 18446744073709551616) :
    Calls Try.prog 3 #[.bool b, .slice Xa au.length da, .int .i64 x, .slice Xb bs.length db] w fun e w' => e = .returned (.bool true) ∧ Below w.heap.size w w' := by
  cases b with
  | true => exact starves_true au bs Xa Xb da db x w ha hb hal hbl hau hbu
  | false => exact starves_false au bs Xa Xb da db x w ha hb hal hbl hau hbu
end Go.Proofs.Ytbgnchddeklmeaa
