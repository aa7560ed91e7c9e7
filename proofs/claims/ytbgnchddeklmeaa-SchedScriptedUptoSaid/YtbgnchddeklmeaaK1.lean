/- The throws of any seed. -/
import Derived.Test.YtbgnchddeklmeaaK0
namespace Go.Proofs.Ytbgnchddeklmeaa
open Go.RowKit

/-- A state's next one, and its throw. -/
def s1 (x : Int) : Int := bits BinOp.xor IntKind.u64 x (x / 4096)
def s2 (x : Int) : Int := bits BinOp.xor IntKind.u64 (s1 x) (IntKind.u64.wrap (s1 x * 33554432))
def nxS (x : Int) : Int := bits BinOp.xor IntKind.u64 (s2 x) (s2 x / 134217728)
def outS (x : Int) : Int := IntKind.u64.wrap (nxS x * 2685821657736338717)
def begS (x : Int) : Int := if x = 0 then 11400714819323198485 else x
def stN (x : Int) : Nat → Int
  | 0 => x
  | n + 1 => nxS (stN x n)
def thL (x : Int) : Nat → List Value
  | 0 => []
  | n + 1 => thL x n ++ [.int .u64 (outS (stN x n))]
theorem thL_length (x : Int) : ∀ n, (thL x n).length = n
  | 0 => rfl
  | n + 1 => by rw [thL, List.length_append, thL_length x n]; rfl
theorem throw_c (x : Int) (cb : Nat) (w : World) (hc : w.cell? ⟨cb, 0, none⟩ = some (.int .u64 x)) (hz : w.frozen? ⟨cb, 0, none⟩ = false) :
    Calls Try.prog 28 #[.pointer (some ⟨cb, 0, none⟩)] w fun e w' => e = .returned (.int .u64 (outS x)) ∧ w' = w.setCell ⟨cb, 0, none⟩ (.int .u64 (nxS x)) := by
  go_enter Try.func28, Try.ntmps28
  go_wp2
  go_ret
  exact ⟨rfl, rfl⟩
theorem thrown_c (x : Int) (w : World) :
    Calls Try.prog 30 #[.int .u64 x] w fun e w' => e = .returned (.tuple #[.int .u64 (nxS x), .int .u64 (outS x)]) ∧ w' = w := by
  go_enter Try.func30, Try.ntmps30
  go_wp2
  go_ret2
  exact ⟨rfl, rfl⟩
theorem seeded_c (x : Int) (w : World) : Calls Try.prog 27 #[.int .u64 x] w fun e w' => e = .returned (.int .u64 (begS x)) ∧ w' = w := by
  by_cases h : x = 0
  · subst h
    go_enter Try.func27, Try.ntmps27
    go_wp2
    go_ret
    exact ⟨rfl, rfl⟩
  · have hb : (x == 0) = false := by simpa using h
    have hB : begS x = x := by unfold begS; rw [if_neg h]
    rw [hB]
    clear hB
    go_enter Try.func27, Try.ntmps27
    go_wp2
    go_ret
    exact ⟨rfl, rfl⟩
theorem begun_c (x : Int) (w : World) : Calls Try.prog 29 #[.int .u64 x] w fun e w' => e = .returned (.int .u64 (begS x)) ∧ w' = w := by
  by_cases h : x = 0
  · subst h
    go_enter Try.func29, Try.ntmps29
    go_wp2
    go_ret
    exact ⟨rfl, rfl⟩
  · have hb : (x == 0) = false := by simpa using h
    have hB : begS x = x := by unfold begS; rw [if_neg h]
    rw [hB]
    clear hB
    go_enter Try.func29, Try.ntmps29
    go_wp2
    go_ret
    exact ⟨rfl, rfl⟩
theorem info_u64 : (Try.prog.info? 26).map (fun i => (i.zero, i.size, i.bytes)) = some (some (.int .u64 0), 1, 8) := by kernel_rfl
/-- A row that is read. -/
def RowAt (w : World) (X : Option Addr) (xs : List Value) : Prop := xs = [] ∨ ∃ b off, X = some ⟨b, off, none⟩ ∧ b < w.heap.size ∧ ∀ j (h : j < xs.length), w.cell? ⟨b, off + j, none⟩ = some xs[j]
theorem RowAt.below {w w' : World} {X : Option Addr} {xs : List Value} (h : RowAt w X xs) (hb : Below w.heap.size w w') : RowAt w' X xs :=
  h.imp id fun ⟨b, off, e, hl, hc⟩ => ⟨b, off, e, Nat.lt_of_lt_of_le hl hb.size, fun j hj => (hb.cell (p := ⟨b, off + j, none⟩) hl).trans (hc j hj)⟩
theorem own_row1 {w : World} {base : Nat} {e : TypeId} {v : Value} {n : Nat} {xs : List Value} (h : w.ownsRow base e 1 v n xs) : ∃ X d, v = .slice X xs.length d ∧ RowAt w X xs := by
  have hl : xs.length = n := by have := h.1; omega
  rcases h.2 with ⟨rfl, h0⟩ | ⟨g, cap, cur, rfl, _, hh, _, _, hsz, htk⟩
  · have h1 : xs = [] := List.eq_nil_of_length_eq_zero (by omega)
    subst h1
    exact ⟨none, 0, rfl, .inl rfl⟩
  · refine ⟨some ⟨g, 0, none⟩, cap, by rw [hl], .inr ⟨g, 0, rfl, (Array.getElem?_eq_some_iff.1 hh).1, fun j hj => ?_⟩⟩
    have h2 : xs[j]? = some xs[j] := List.getElem?_eq_getElem hj
    have h3 := h.cells (g := g) rfl j xs[j] h2
    rw [add_zero] at h3
    rw [Nat.zero_add]
    exact h3
/-- What a call leaves that answers with a row and a word. -/
def RowWord (xs : List Value) (k : Int) (w : World) (e : Ending) (w' : World) : Prop := ∃ X d, e = .returned (.tuple #[.slice X xs.length d, .int .i64 k]) ∧ RowAt w' X xs ∧ Below w.heap.size w w'
set_option maxHeartbeats 2000000 in
theorem throws_c (x n : Int) (w : World) : Calls Try.prog 13 #[.int .u64 x, .int .i64 n] w (if n < 0 ∨ 4096 < n then RowWord [] 1 w else RowWord (thL (begS x) n.toNat) 0 w) := by
  by_cases hn : n < 0 ∨ 4096 < n
  · rw [if_pos hn]
    rcases (show n < 0 ∨ (¬ n < 0 ∧ 4096 < n) by omega) with h | ⟨h, h2⟩
    all_goals
      go_enter Try.func13, Try.ntmps13
      go_wp2
      go_ret2
      exact ⟨none, 0, rfl, .inl rfl, Below.refl _ _⟩
  · rw [if_neg hn]
    obtain ⟨k, rfl⟩ : ∃ k : Nat, n = (k : Int) := ⟨n.toNat, by omega⟩
    have hk : k ≤ 4096 := by omega
    have h1 : ¬ (k : Int) < 0 := by omega
    have h2 : ¬ (4096 : Int) < k := by omega
    rw [Int.toNat_natCast]
    clear hn
    go_enter Try.func13, Try.ntmps13
    go_wp2_with (go_at_call 27; refine (seeded_c x _).mono ?_; rintro e w' ⟨rfl, rfl⟩)
    obtain ⟨cb, hcb⟩ : ∃ cb : Nat, cb = w'.heap.size := ⟨_, rfl⟩
    obtain ⟨w0, hw0⟩ : ∃ w0 : World, w0 = w'.alloc (.cells #[.int .u64 (begS x)] 60) := ⟨_, rfl⟩
    have hz0 : w0.heap.size = cb + 1 := by rw [hw0, hcb]; simp
    have hb0 : Below cb w' w0 := by rw [hw0, hcb]; exact (Below.refl _ _).alloc (Nat.le_refl _) _
    have hc0 : w0.cell? ⟨cb, 0, none⟩ = some (.int .u64 (begS x)) := by rw [hw0, hcb]; simp
    have hf0 : w0.frozen? ⟨cb, 0, none⟩ = false := by rw [hw0, hcb]; simp
    rw [← hw0, ← hcb]
    have HZ0 := Lib.hid hz0
    have HB0 := Lib.hid hb0
    have HC0 := Lib.hid hc0
    have HF0 := Lib.hid hf0
    have HCB := Lib.hid hcb
    clear hw0 hz0 hb0 hc0 hf0 hcb
    go_loopw [7, 17] (fun v i wr => ∃ j : Nat, j ≤ k ∧ i = .int .i64 j ∧ wr.ownsRow (cb + 1) 26 1 v (thL (begS x) j).length (thL (begS x) j) ∧ wr.cell? ⟨cb, 0, none⟩ = some (.int .u64 (stN (begS x) j)) ∧ wr.frozen? ⟨cb, 0, none⟩ = false ∧ Below cb w0 wr) (fun _ i _ => k - (intOf i).toNat)
    case atStart => exact ⟨0, by omega, rfl, ⟨rfl, .inl ⟨rfl, rfl⟩⟩, HC0.out, HF0.out, Below.refl _ _⟩
    case round =>
      obtain ⟨j, hj, rfl, hown, hc, hf, hbel⟩ := hrel
      have hbs := hbel.size
      by_cases hlt : j < k
      · have hi0 : (0 : Int) ≤ (j : Int) := Int.natCast_nonneg _
        have hi1 : (j : Int) < (k : Int) := by omega
        have hlj := thL_length (begS x) j
        have hown2 := own_low hown ⟨cb, 0, none⟩ (.int .u64 (nxS (stN (begS x) j))) (by show cb < cb + 1; omega)
        have hbel2 : Below (cb + 1) (wr.setCell ⟨cb, 0, none⟩ (.int .u64 (nxS (stN (begS x) j)))) (wr.setCell ⟨cb, 0, none⟩ (.int .u64 (nxS (stN (begS x) j)))) := Below.refl _ _
        have hsz2 : (wr.setCell ⟨cb, 0, none⟩ (.int .u64 (nxS (stN (begS x) j)))).heap.size = wr.heap.size := by simp [World.setCell]
        have hcs : (wr.setCell ⟨cb, 0, none⟩ (.int .u64 (nxS (stN (begS x) j)))).cell? ⟨cb, 0, none⟩ = some (.int .u64 (nxS (stN (begS x) j))) := World.cell?_setCell_same _ _ _ hc
        have hfs : (wr.setCell ⟨cb, 0, none⟩ (.int .u64 (nxS (stN (begS x) j)))).frozen? ⟨cb, 0, none⟩ = false := by rw [World.frozen?_setCell]; exact hf
        have hbsc : Below cb w0 (wr.setCell ⟨cb, 0, none⟩ (.int .u64 (nxS (stN (begS x) j)))) := hbel.setCell (p := ⟨cb, 0, none⟩) (Nat.le_refl _) _
        have HSZ := Lib.hid hsz2
        have HLJ := Lib.hid hlj
        have HCS := Lib.hid hcs
        have HFS := Lib.hid hfs
        have HBSC := Lib.hid hbsc
        have HOW2 := Lib.hid hown2
        have HZL := Lib.hid (show cb + 1 ≤ wr.heap.size by have := HZ0.out; omega)
        clear hsz2 hlj hcs hfs hbsc hown2 hbel2
        go_wp2_with (first | (go_at_call 28; refine (throw_c (stN (begS x) j) cb wr hc hf).mono ?_; rintro e w3 ⟨rfl, rfl⟩; generalize wr.setCell ⟨cb, 0, none⟩ (.int .u64 (nxS (stN (begS x) j))) = W3 at *) | (at_builtin; refine app_one (w0 := W3) (cb + 1) (by rfl) _ _ 22 26 (.int .u64 0) 8 (by rfl) Try.underlying22 info_u64 rfl _ (thL (begS x) j) (.int .u64 (outS (stN (begS x) j))) (by rfl) _ (by rfl) rfl rfl HOW2.out (Below.refl _ _) (by rw [HSZ.out]; exact HZL.out) (by rw [HLJ.out]; omega) (by rw [HLJ.out]; omega) ?_; intro v5 w5 hown5 hb5 _ _))
        refine ⟨⟨j + 1, by omega, by push_cast; rfl, ?_, ?_, ?_, ?_⟩, by simp [intOf]; omega⟩
        · rw [thL]; exact hown5
        · exact (hb5.cell (p := ⟨cb, 0, none⟩) (by show cb < cb + 1; omega)).trans HCS.out
        · exact (hb5.frozen (p := ⟨cb, 0, none⟩) (by show cb < cb + 1; omega)).trans HFS.out
        · exact HBSC.out.trans (hb5.mono (by omega))
      · obtain ⟨X, d, rfl, hr⟩ := own_row1 hown
        have hjk : j = k := by omega
        subst hjk
        have HBEL := Lib.hid hbel
        have HR := Lib.hid hr
        have HH := Lib.hid (HB0.out.trans hbel)
        clear hown hc hf hbel hr
        go_wp2
        go_ret2
        refine ⟨X, d, rfl, HR.out, ?_⟩
        have h9 := HH.out
        rw [HCB.out] at h9
        exact h9
set_option maxHeartbeats 2000000 in
theorem rthrows_c (x n : Int) (w : World) : Calls Try.prog 14 #[.int .u64 x, .int .i64 n] w (if n < 0 ∨ 4096 < n then RowWord [] 1 w else RowWord (thL (begS x) n.toNat) 0 w) := by
  by_cases hn : n < 0 ∨ 4096 < n
  · rw [if_pos hn]
    rcases (show n < 0 ∨ (¬ n < 0 ∧ 4096 < n) by omega) with h | ⟨h, h2⟩
    all_goals
      go_enter Try.func14, Try.ntmps14
      go_wp2
      go_ret2
      exact ⟨none, 0, rfl, .inl rfl, Below.refl _ _⟩
  · rw [if_neg hn]
    obtain ⟨k, rfl⟩ : ∃ k : Nat, n = (k : Int) := ⟨n.toNat, by omega⟩
    have hk : k ≤ 4096 := by omega
    have h1 : ¬ (k : Int) < 0 := by omega
    have h2 : ¬ (4096 : Int) < k := by omega
    rw [Int.toNat_natCast]
    clear hn
    go_enter Try.func14, Try.ntmps14
    go_wp2_with (go_at_call 29; refine (begun_c x _).mono ?_; rintro e w' ⟨rfl, rfl⟩)
    go_loopw [6, 7, 8] (fun v st i wr => ∃ j : Nat, j ≤ k ∧ i = .int .i64 j ∧ st = .int .u64 (stN (begS x) j) ∧ wr.ownsRow w'.heap.size 26 1 v (thL (begS x) j).length (thL (begS x) j) ∧ Below w'.heap.size w' wr) (fun _ _ i _ => k - (intOf i).toNat)
    case atStart => exact ⟨0, by omega, rfl, rfl, ⟨rfl, .inl ⟨rfl, rfl⟩⟩, Below.refl _ _⟩
    case round =>
      obtain ⟨j, hj, rfl, rfl, hown, hbel⟩ := hrel
      have hbs := hbel.size
      by_cases hlt : j < k
      · have hi0 : (0 : Int) ≤ (j : Int) := Int.natCast_nonneg _
        have hi1 : (j : Int) < (k : Int) := by omega
        have HLJ := Lib.hid (thL_length (begS x) j)
        go_wp2_with (first | (go_at_call 30; refine (thrown_c (stN (begS x) j) wr).mono ?_; rintro e w3 ⟨rfl, rfl⟩) | (at_builtin; refine app_one (w0 := w') w'.heap.size (by rfl) _ _ 22 26 (.int .u64 0) 8 (by rfl) Try.underlying22 info_u64 rfl _ (thL (begS x) j) (.int .u64 (outS (stN (begS x) j))) (by rfl) _ (by rfl) rfl rfl hown hbel hbs (by rw [HLJ.out]; omega) (by rw [HLJ.out]; omega) ?_; intro v5 w5 hown5 hb5 _ _))
        go_roundw
        case rel => exact ⟨j + 1, by omega, by go_num, rfl, by rw [thL]; exact hown5, hb5⟩
        case measure => simp [intOf]; omega
      · obtain ⟨X, d, rfl, hr⟩ := own_row1 hown
        have hjk : j = k := by omega
        subst hjk
        have HR := Lib.hid hr
        have HH := Lib.hid hbel
        clear hown hbel hr hbs
        go_wp2
        go_ret2
        exact ⟨X, d, rfl, HR.out, HH.out⟩
end Go.Proofs.Ytbgnchddeklmeaa
