/- The lean graph, bits, Lean walked, facts on the longest way: H65, H67, V20, H68, H66, H71, H73, H74, H69, H70 in one. -/
import Derived.Test.YtpdfcffeinbcaaaH60
import Derived.Laws.Bits64b
import Derived.Laws.Shifts
import Derived.Test.YtpdfcffeinbcaaaM1
import Derived.StillTailTactics
import Derived.Test.YtpdfcffeinbcaaaH37
import Derived.Test.YtpdfcffeinbcaaaH6
import Derived.Test.YtpdfcffeinbcaaaH59
import Derived.Test.YtpdfcffeinbcaaaH17
import Derived.Test.YtpdfcffeinbcaaaM2
import Derived.Test.YtpdfcffeinbcaaaH25
import Derived.Test.YtpdfcffeinbcaaaH31
import Derived.Test.YtpdfcffeinbcaaaH35
import Derived.Test.YtpdfcffeinbcaaaV19
/- PLAIN: the graph without edges for which there is another way. -/
namespace Go.Proofs.Ytpdfcffeinbcaaa
open Go.RowKit
open Classical in
noncomputable def leanR (g : XG) (v : Int) : List Int := (nxt g v).filter fun w => decide (¬ ∃ u ∈ nxt g v, TG g u w)
open Classical in
theorem mem_leanR {g : XG} {v w : Int} : w ∈ leanR g v ↔ Edg g v w ∧ ¬ ∃ u, Edg g v u ∧ TG g u w := by
  unfold leanR
  rw [List.mem_filter, decide_eq_true_eq, mem_nxt]
  refine and_congr_right fun _ => not_congr ⟨?_, ?_⟩
  · rintro ⟨u, h1, h2⟩; exact ⟨u, mem_nxt.1 h1, h2⟩
  · rintro ⟨u, h1, h2⟩; exact ⟨u, mem_nxt.2 h1, h2⟩
noncomputable def leanE (g : XG) (k : Nat) : List (Int × Int) := ((nodes k).map fun v => (leanR g v).map fun w => (v, w)).flatten
noncomputable def leanG (g : XG) : XG := ⟨g.n, leanE g g.n.toNat⟩
theorem lean_edge {g : XG} (hg : Good g) {a b : Int} : Edg (leanG g) a b ↔ Edg g a b ∧ ¬ ∃ u, Edg g a u ∧ TG g u b := by
  unfold Edg leanG leanE
  simp only [List.mem_flatten, List.mem_map]
  constructor
  · rintro ⟨_, ⟨v, hv, rfl⟩, h⟩
    obtain ⟨w, hw, e⟩ := List.mem_map.1 h
    cases e
    exact mem_leanR.1 hw
  · intro h
    have hr := (hg.all _ h.1).1
    simp only at hr
    exact ⟨_, ⟨a, mem_nodes.2 (by omega), rfl⟩, List.mem_map.2 ⟨b, mem_leanR.2 h, rfl⟩⟩
theorem lean_sub {g : XG} (hg : Good g) {a b : Int} (h : TG (leanG g) a b) : TG g a b := by
  induction h with
  | single h => exact .single ((lean_edge hg).1 h).1
  | tail _ h ih => exact .tail ih ((lean_edge hg).1 h).1
/-- Whoever can be come to is come to in the lean graph. -/
theorem lean_way {g : XG} (hg : Good g) (hno : ∀ x, ¬ TG g x x) {p : Int → Int} (hp : ∀ a b, TG g a b → p a < p b) : ∀ (d : Nat) (x y : Int), TG g x y → p y - p x ≤ d → TG (leanG g) x y
  | 0, x, y, h, hd => by have := hp _ _ h; omega
  | d + 1, x, y, h, hd => by
    cases h with
    | single h =>
      by_cases hc : ∃ u, Edg g x u ∧ TG g u y
      · obtain ⟨u, h1, h2⟩ := hc
        have e1 := hp _ _ (.single h1)
        have e2 := hp _ _ h2
        exact Relation.TransGen.trans (lean_way hg hno hp d x u (.single h1) (by omega)) (lean_way hg hno hp d u y h2 (by omega))
      · exact .single ((lean_edge hg).2 ⟨h, hc⟩)
    | tail h1 h2 =>
      rename_i c
      have e1 := hp _ _ h1
      have e2 := hp _ _ (.single h2)
      exact Relation.TransGen.trans (lean_way hg hno hp d x c h1 (by omega)) (lean_way hg hno hp d c y (.single h2) (by omega))
/-- Without an edge of the lean graph there is no way from where it leads to where it leads. -/
theorem lean_need {g less : XG} (hg : Good g) {a b : Int} (he : Edg (leanG g) a b) (hl : ∀ x y, Edg less x y → Edg (leanG g) x y ∧ ¬ (x = a ∧ y = b)) : ¬ TG less a b := by
  have hsub : ∀ {x y}, TG less x y → TG g x y := fun h => by
    induction h with
    | single h => exact .single ((lean_edge hg).1 (hl _ _ h).1).1
    | tail _ h ih => exact .tail ih ((lean_edge hg).1 (hl _ _ h).1).1
  have hfirst : ∀ {x y}, TG less x y → Edg less x y ∨ ∃ u, Edg less x u ∧ TG less u y := fun h => by
    induction h with
    | single h => exact .inl h
    | tail _ h ih =>
      rcases ih with h1 | ⟨u, h1, h2⟩
      · exact .inr ⟨_, h1, .single h⟩
      · exact .inr ⟨u, h1, .tail h2 h⟩
  intro h
  rcases hfirst h with h1 | ⟨u, h1, h2⟩
  · exact (hl _ _ h1).2 ⟨rfl, rfl⟩
  · exact ((lean_edge hg).1 he).2 ⟨u, ((lean_edge hg).1 (hl _ _ h1).1).1, hsub h2⟩
end Go.Proofs.Ytpdfcffeinbcaaa
/- Sets of nodes as rows of bits. -/
namespace Go.Proofs.Ytpdfcffeinbcaaa
open Go.RowKit
theorem and63 (n : Nat) (hn : n < 5000) : bits .and .i64 (n : Int) 63 = ((n % 64 : Nat) : Int) := by
  have h1 : (BitVec.ofInt 64 (n : Int)).toNat = n := by
    rw [BitVec.ofInt_natCast, BitVec.toNat_ofNat]; exact Nat.mod_eq_of_lt (by omega)
  have h2 : (BitVec.ofInt 64 (63 : Int)).toNat = 63 := rfl
  show IntKind.i64.wrap ((BitVec.ofInt 64 (n : Int) &&& BitVec.ofInt 64 (63 : Int)).toNat : Int) = _
  rw [BitVec.toNat_and, h1, h2, show (63 : Nat) = 2 ^ 6 - 1 from rfl, Nat.and_two_pow_sub_one_eq_mod]
  simp [IntKind.wrap, IntKind.bits, IntKind.signed]
  omega
theorem bit_at (X i : Nat) (hX : X < 18446744073709551616) : bits BinOp.and IntKind.u64 ((X : Int) / 2 ^ i) 1 = if X.testBit i then 1 else 0 := by
  have h1 : ((X : Int) / 2 ^ i) = ((X / 2 ^ i : Nat) : Int) := by push_cast; rfl
  have h2 : (X / 2 ^ i) < 18446744073709551616 := Nat.lt_of_le_of_lt (Nat.div_le_self _ _) hX
  rw [h1, show bits BinOp.and IntKind.u64 ((X / 2 ^ i : Nat) : Int) 1 = ((X / 2 ^ i &&& 1 : Nat) : Int) from bits_and_u64_nat _ 1 h2 (by omega), Nat.and_one_is_mod, Nat.testBit_eq_decide_div_mod_eq]
  by_cases h : X / 2 ^ i % 2 = 1
  · rw [if_pos (by simpa using h), h]; rfl
  · rw [if_neg (by simpa using h)]
    omega
theorem shl_one (i : Nat) (hi : i < 64) : IntKind.u64.wrap (1 * 2 ^ i) = ((2 ^ i : Nat) : Int) := by
  have h : (2 : Nat) ^ i < 2 ^ 64 := Nat.pow_lt_pow_right (by omega) hi
  rw [IntKind.wrap_u64, Int.one_mul, show (2 : Int) ^ i = ((2 ^ i : Nat) : Int) by push_cast; rfl]
  revert h
  generalize (2 : Nat) ^ i = y
  intro h
  omega
theorem or_lt {x y : Nat} (hx : x < 18446744073709551616) (hy : y < 18446744073709551616) : x ||| y < 18446744073709551616 := Nat.or_lt_two_pow (n := 64) hx hy
/-- The first nw cells of block b are the words f, and may be written. -/
def WordAt (w : World) (b nw : Nat) (f : Nat → Nat) : Prop := b < w.heap.size ∧ (∀ i, i < nw → f i < 18446744073709551616 ∧ w.cell? ⟨b, i, none⟩ = some (.int .u64 (f i))) ∧ ∀ j, w.frozen? ⟨b, j, none⟩ = false
theorem WordAt.moves {M : List Nat} {w w1 : World} {b n : Nat} {f : Nat → Nat} (h : WordAt w b n f) (hm : Moves M w w1) (hM : b ∉ M) : WordAt w1 b n f :=
  ⟨Nat.lt_of_lt_of_le h.1 hm.2.2.2.1, fun i hi => ⟨(h.2.1 i hi).1, (hm.cell h.1 hM _).trans (h.2.1 i hi).2⟩, fun j => (hm.frozen h.1 hM j).trans (h.2.2 j)⟩
theorem WordAt.congr {w : World} {b n : Nat} {f g : Nat → Nat} (h : WordAt w b n f) (he : ∀ i, i < n → g i = f i) : WordAt w b n g :=
  ⟨h.1, fun i hi => by rw [he i hi]; exact h.2.1 i hi, h.2.2⟩
theorem WordAt.put {w : World} {b n x : Nat} {f g : Nat → Nat} {y : Nat} (h : WordAt w b n f) (hx : x < n) (hy : y < 18446744073709551616) (hg : ∀ i, i < n → g i = if i = x then y else f i) : WordAt (w.setCell ⟨b, x, none⟩ (.int .u64 y)) b n g := by
  refine ⟨by simpa [World.setCell] using h.1, fun i hi => ?_, fun j => by rw [World.frozen?_setCell]; exact h.2.2 j⟩
  rw [hg i hi]
  by_cases e : i = x
  · subst e; rw [if_pos rfl]; exact ⟨hy, set_here _ _ _ _ _ (h.2.1 i hi).2⟩
  · rw [if_neg e, set_far _ _ _ _ _ (fun c => e c.symm)]; exact h.2.1 i hi
theorem WordAt.drewN {w : World} {b n : Nat} {f : Nat → Nat} (q : Nat) (h : WordAt w b n f) : WordAt (w.drewN q) b n f := h
theorem word_made (w : World) (n : Nat) (t : TypeId) : WordAt (w.alloc (.cells (madeCells #[.int .u64 0] n) t)) w.heap.size n (fun _ => 0) := by
  refine ⟨by rw [al_size]; omega, fun i hi => ⟨by show (0 : Nat) < _; omega, ?_⟩, fun j => frozen_new _ _ _ _⟩
  rw [cell_new, ← Array.getElem?_toList, toList_madeCells_one]
  simp [hi]
/-- Is x in the set that the words are? -/
def hasW (f : Nat → Nat) (x : Nat) : Bool := (f (x / 64)).testBit (x % 64)
def putW (f : Nat → Nat) (n : Nat) : Nat → Nat := fun i => if i = n / 64 then f i ||| 2 ^ (n % 64) else f i
def joinW (f g : Nat → Nat) : Nat → Nat := fun i => f i ||| g i
theorem hasW_zero (x : Nat) : hasW (fun _ => 0) x = false := by simp [hasW]
theorem hasW_put (f : Nat → Nat) (n x : Nat) : hasW (putW f n) x = (hasW f x || decide (x = n)) := by
  unfold hasW putW
  by_cases h : x / 64 = n / 64
  · rw [if_pos h, Nat.testBit_or, Nat.testBit_two_pow]
    congr 1
    by_cases e : x = n
    · simp [e]
    · rw [decide_eq_false e, decide_eq_false (by omega)]
  · rw [if_neg h, decide_eq_false (show ¬ x = n from fun e => h (by rw [e]))]
    simp
theorem hasW_join (f g : Nat → Nat) (x : Nat) : hasW (joinW f g) x = (hasW f x || hasW g x) := by
  unfold hasW joinW
  rw [Nat.testBit_or]
set_option maxHeartbeats 1000000 in
theorem has_bits {w : World} {b nw c n : Nat} {f : Nat → Nat} (h : WordAt w b nw f) (hn : n / 64 < nw) (hn2 : n < 5000) :
    Calls Try.prog 65 #[.slice (some ⟨b, 0, none⟩) nw c, .int .i64 n] w fun e w' => e = .returned (.bool (hasW f n)) ∧ w' = w := by
  obtain ⟨hx, hcx⟩ := h.2.1 (n / 64) hn
  obtain ⟨x, hxe⟩ : ∃ x, x = f (n / 64) := ⟨_, rfl⟩
  obtain ⟨hv, hhv⟩ : ∃ hv, hv = hasW f n := ⟨_, rfl⟩
  have hb := bit_at x (n % 64) (by rw [hxe]; exact hx)
  have hbb : x.testBit (n % 64) = hv := by rw [hhv, hxe]; rfl
  rw [hbb] at hb
  rw [← hxe] at hcx
  rw [← hhv]
  have h63 := and63 n hn2
  have h0 : (0 : Int) ≤ ((n / 64 : Nat) : Int) := by omega
  have h1 : ((n / 64 : Nat) : Int) < (nw : Int) := by omega
  have h2 : (0 : Int) ≤ ((n % 64 : Nat) : Int) := by omega
  have h3 : min ((n % 64 : Nat) : Int).toNat IntKind.u64.bits = n % 64 := by
    have : IntKind.u64.bits = 64 := rfl
    rw [this]
    omega
  clear h hx hxe hhv hbb
  go_enter Try.func65, Try.ntmps65
  cases hv with
  | true =>
    rw [if_pos rfl] at hb
    go_wp2
    go_ret
    exact ⟨rfl, rfl⟩
  | false =>
    rw [if_neg (by simp)] at hb
    go_wp2
    go_ret
    exact ⟨rfl, rfl⟩
set_option maxHeartbeats 1000000 in
set_option maxRecDepth 100000 in
theorem put_bits {w : World} {b nw c n B : Nat} {f : Nat → Nat} (h : WordAt w b nw f) (hB : B ≤ b) (hn : n / 64 < nw) (hn2 : n < 5000) :
    Calls Try.prog 63 #[.slice (some ⟨b, 0, none⟩) nw c, .int .i64 n] w fun e w' => e = .returned (.tuple #[]) ∧ WordAt w' b nw (putW f n) ∧ Below B w w' ∧ Moves [b] w w' ∧ w'.heap.size = w.heap.size := by
  obtain ⟨hx, hcx⟩ := h.2.1 (n / 64) hn
  have hfz := h.2.2 (n / 64)
  have hp : (2 : Nat) ^ (n % 64) < 18446744073709551616 := Nat.pow_lt_pow_right (n := 64) (by omega) (by omega)
  have hput : WordAt (w.drew.setCell ⟨b, n / 64, none⟩ (.int .u64 ((f (n / 64) ||| 2 ^ (n % 64) : Nat) : Int))) b nw (putW f n) := (h.drewN 1).put hn (or_lt hx hp) (fun i _ => by unfold putW; by_cases e : i = n / 64 <;> simp [e])
  have hor : bits .or .u64 ((f (n / 64) : Nat) : Int) ((2 ^ (n % 64) : Nat) : Int) = ((f (n / 64) ||| 2 ^ (n % 64) : Nat) : Int) := bits_or_u64_nat _ _ hx hp
  have hsh := shl_one (n % 64) (by omega)
  obtain ⟨x, hxe⟩ : ∃ x, x = f (n / 64) := ⟨_, rfl⟩
  rw [← hxe] at hx hcx hput hor
  have HPUT := Lib.hid hput
  have HB := Lib.hid (((Below.refl B w).drew).setCell (p := ⟨b, n / 64, none⟩) hB (.int .u64 ((x ||| 2 ^ (n % 64) : Nat) : Int)))
  have HM : Hid (Moves [b] w (w.drew.setCell ⟨b, n / 64, none⟩ (.int .u64 ((x ||| 2 ^ (n % 64) : Nat) : Int)))) := Lib.hid ((Moves.of_new _ ((Below.refl _ _).drew)).trans (Moves.set (M := [b]) w.drew ⟨b, n / 64, none⟩ _ (by simp)))
  have h63 := and63 n hn2
  have h0 : (0 : Int) ≤ (n : Int) / 64 := by omega
  have h1 : (n : Int) / 64 < (nw : Int) := by omega
  have h4 : ((n : Int) / 64).toNat = n / 64 := by omega
  have h2 : (0 : Int) ≤ ((n % 64 : Nat) : Int) := by omega
  have h3 : min ((n % 64 : Nat) : Int).toNat IntKind.u64.bits = n % 64 := by
    have : IntKind.u64.bits = 64 := rfl
    rw [this]
    omega
  have hv : bits .or .u64 ((x : Nat) : Int) (IntKind.u64.wrap (2 ^ ((n : Int) % 64).toNat)) = ((x ||| 2 ^ (n % 64) : Nat) : Int) := by
    rw [show ((n : Int) % 64).toNat = n % 64 by omega, ← hor, ← hsh, Int.one_mul]
  have HV := Lib.hid hv
  clear h hxe hput hv hor hsh
  have hz : (w.drew.setCell ⟨b, n / 64, none⟩ (.int .u64 ((x ||| 2 ^ (n % 64) : Nat) : Int))).heap.size = w.heap.size := by simp
  have HZ := Lib.hid hz
  clear hz
  go_enter Try.func63, Try.ntmps63
  go_wp2_with fail
  -- begin put
  refine region_heldL (L := 10) (S := (fun w' => w'.heap = w.heap ∧ w'.cell? ⟨b, n / 64, none⟩ = some (.int .u64 x))) (by kernel_rfl) ?xs (fun hHeld => ?xr)
  case xs => exact ⟨rfl, hcx⟩
  refine takeL (i := 0) (d := 4) (v := ?xv0) rfl (by rfl) (by kernel_rfl) (by kernel_rfl) (by kernel_rfl) (by kernel_rfl) (by rfl) (fun _ _ _ h => h) (Or.inl ⟨by rfl, ?xy0⟩) (by assumption) ?xr0
  case xy0 => intro w' hSw; obtain ⟨_, q1⟩ := hSw; go_simp; (try with_reducible rfl)
  case' xr0 => simp only [Act.put, List.setIfInBounds_toArray, List.set_cons_zero, List.set_cons_succ]
  refine takeL (i := 1) (d := 5) (v := ?xv1) rfl (by rfl) (by kernel_rfl) (by kernel_rfl) (by kernel_rfl) (by kernel_rfl) (by rfl) (fun _ _ _ h => h) (Or.inl ⟨by rfl, ?xy1⟩) (by assumption) ?xr1
  case xy1 => intro w' hSw; obtain ⟨_, q1⟩ := hSw; go_simp; (try with_reducible rfl)
  case' xr1 => simp only [Act.put, List.setIfInBounds_toArray, List.set_cons_zero, List.set_cons_succ]
  refine takeL (i := 2) (d := 6) (v := ?xv2) rfl (by rfl) (by kernel_rfl) (by kernel_rfl) (by kernel_rfl) (by kernel_rfl) (by rfl) (fun _ _ _ h => h) (Or.inl ⟨by rfl, ?xy2⟩) (by assumption) ?xr2
  case xy2 => intro w' hSw; obtain ⟨_, q1⟩ := hSw; go_simp; (try with_reducible rfl)
  case' xr2 => simp only [Act.put, List.setIfInBounds_toArray, List.set_cons_zero, List.set_cons_succ]
  refine takeL (i := 3) (d := 7) (v := ?xv3) rfl (by rfl) (by kernel_rfl) (by kernel_rfl) (by kernel_rfl) (by kernel_rfl) (by rfl) (fun _ _ _ h => h) (Or.inl ⟨by rfl, ?xy3⟩) (by assumption) ?xr3
  case xy3 => intro w' hSw; obtain ⟨_, q1⟩ := hSw; go_simp; (try with_reducible rfl)
  case' xr3 => simp only [Act.put, List.setIfInBounds_toArray, List.set_cons_zero, List.set_cons_succ]
  refine takeL (i := 4) (d := 8) (v := ?xv4) rfl (by rfl) (by kernel_rfl) (by kernel_rfl) (by kernel_rfl) (by kernel_rfl) (by rfl) (fun _ _ _ h => h) (Or.inl ⟨by rfl, ?xy4⟩) (by assumption) ?xr4
  case xy4 => intro w' hSw; obtain ⟨_, q1⟩ := hSw; go_simp; (try with_reducible rfl)
  case' xr4 => simp only [Act.put, List.setIfInBounds_toArray, List.set_cons_zero, List.set_cons_succ]
  refine takeL (i := 5) (d := 9) (v := ?xv5) rfl (by rfl) (by kernel_rfl) (by kernel_rfl) (by kernel_rfl) (by kernel_rfl) (by rfl) (fun _ _ _ h => h) (Or.inl ⟨by rfl, ?xy5⟩) (by assumption) ?xr5
  case xy5 => intro w' hSw; obtain ⟨_, q1⟩ := hSw; go_simp; (try with_reducible rfl)
  case' xr5 => simp only [Act.put, List.setIfInBounds_toArray, List.set_cons_zero, List.set_cons_succ]
  refine takeL (i := 6) (d := 10) (v := ?xv6) rfl (by rfl) (by kernel_rfl) (by kernel_rfl) (by kernel_rfl) (by kernel_rfl) (by rfl) (fun _ _ _ h => h) (Or.inl ⟨by rfl, ?xy6⟩) (by assumption) ?xr6
  case xy6 => intro w' hSw; obtain ⟨_, q1⟩ := hSw; go_simp; (try with_reducible rfl)
  case' xr6 => simp only [Act.put, List.setIfInBounds_toArray, List.set_cons_zero, List.set_cons_succ]
  refine takeL (i := 7) (d := 11) (v := ?xv7) rfl (by rfl) (by kernel_rfl) (by kernel_rfl) (by kernel_rfl) (by kernel_rfl) (by rfl) (fun _ _ _ h => h) (Or.inl ⟨by rfl, ?xy7⟩) (by assumption) ?xr7
  case xy7 => intro w' hSw; obtain ⟨_, q1⟩ := hSw; go_simp; (try with_reducible rfl)
  case' xr7 => simp only [Act.put, List.setIfInBounds_toArray, List.set_cons_zero, List.set_cons_succ]
  refine takeL (i := 8) (d := 12) (v := ?xv8) rfl (by rfl) (by kernel_rfl) (by kernel_rfl) (by kernel_rfl) (by kernel_rfl) (by rfl) (fun _ _ _ h => h) (Or.inl ⟨by rfl, ?xy8⟩) (by assumption) ?xr8
  case xy8 => intro w' hSw; obtain ⟨_, q1⟩ := hSw; go_simp; (try with_reducible rfl)
  case' xr8 => simp only [Act.put, List.setIfInBounds_toArray, List.set_cons_zero, List.set_cons_succ]
  refine takeL (i := 9) (d := 13) (v := ?xv9) rfl (by rfl) (by kernel_rfl) (by kernel_rfl) (by kernel_rfl) (by kernel_rfl) (by rfl) (fun _ _ _ h => h) (Or.inl ⟨by rfl, ?xy9⟩) (by assumption) ?xr9
  case xy9 => intro w' hSw; obtain ⟨_, q1⟩ := hSw; go_simp; (try with_reducible rfl)
  case' xr9 => simp only [Act.put, List.setIfInBounds_toArray, List.set_cons_zero, List.set_cons_succ]
  refine lastL (by kernel_rfl) rfl (by kernel_rfl) (fun K hK => ?xb10)
  go_simp
  refine hK.out _ _ ?xz
  -- end put
  rw [HV.out]
  go_end0
  exact ⟨rfl, HPUT.out, HB.out, HM.out, HZ.out⟩
set_option maxHeartbeats 1000000 in
set_option maxRecDepth 100000 in
theorem join_bits {w : World} {b b2 nw c c2 B : Nat} {f g : Nat → Nat} (h : WordAt w b nw f) (h2 : WordAt w b2 nw g) (hB : B ≤ b) (hne : b2 ≠ b) (hn2 : nw < 5000) :
    Calls Try.prog 64 #[.slice (some ⟨b, 0, none⟩) nw c, .slice (some ⟨b2, 0, none⟩) nw c2] w fun e w' => e = .returned (.tuple #[]) ∧ WordAt w' b nw (joinW f g) ∧ Below B w w' ∧ Moves [b] w w' ∧ w'.heap.size = w.heap.size := by
  have H := Lib.hid h
  have H2 := Lib.hid h2
  clear h h2
  go_enter Try.func64, Try.ntmps64
  go_wp2
  go_loopw [7] (fun v wr => ∃ i : Nat, v = .int .i64 i ∧ i ≤ nw ∧ WordAt wr b nw (fun k => if k < i then f k ||| g k else f k) ∧ Moves [b] w wr ∧ wr.heap.size = w.heap.size) (fun v _ => nw - (intOf v).toNat)
  case atStart => exact ⟨0, rfl, by omega, H.out.congr (fun i _ => by simp), Moves.refl _ _, rfl⟩
  case round =>
    obtain ⟨i, rfl, hi, hwd, hmv, hsz⟩ := hrel
    by_cases hlt : i < nw
    · have hj0 : (0 : Int) ≤ (i : Int) := by omega
      have hj1 : (i : Int) < (nw : Int) := by omega
      obtain ⟨hx, hcx⟩ := hwd.2.1 i hlt
      have hfz := hwd.2.2 i
      obtain ⟨hy, hcy⟩ := (H2.out.moves hmv (by simpa using hne)).2.1 i hlt
      have hcx' : wr.cell? ⟨b, i, none⟩ = some (.int .u64 (f i)) := by rw [hcx]; simp
      have hx' : f i < 18446744073709551616 := by simpa using hx
      have hor : bits .or .u64 ((f i : Nat) : Int) ((g i : Nat) : Int) = ((f i ||| g i : Nat) : Int) := bits_or_u64_nat _ _ hx' hy
      have hput : WordAt (wr.drew.setCell ⟨b, i, none⟩ (.int .u64 ((f i ||| g i : Nat) : Int))) b nw (fun k => if k < i + 1 then f k ||| g k else f k) := (hwd.drewN 1).put hlt (or_lt hx' hy) (fun k _ => by
        by_cases e : k = i
        · subst e; simp
        · rw [if_neg e]
          by_cases h : k < i
          · rw [if_pos h, if_pos (by omega)]
          · rw [if_neg h, if_neg (by omega)])
      have hz : (wr.drew.setCell ⟨b, i, none⟩ (.int .u64 ((f i ||| g i : Nat) : Int))).heap.size = w.heap.size := by simp [hsz]
      have hm2 : Moves [b] w (wr.drew.setCell ⟨b, i, none⟩ (.int .u64 ((f i ||| g i : Nat) : Int))) := hmv.trans ((Moves.of_new _ ((Below.refl _ _).drew)).trans (Moves.set (M := [b]) wr.drew ⟨b, i, none⟩ _ (by simp)))
      obtain ⟨x, hxe⟩ : ∃ x, x = f i := ⟨_, rfl⟩
      obtain ⟨y, hye⟩ : ∃ y, y = g i := ⟨_, rfl⟩
      rw [← hxe] at hcx' hor
      rw [← hye] at hcy hor
      simp only [← hxe, ← hye] at hput hz hm2
      have HOR := Lib.hid hor
      have HPUT := Lib.hid hput
      have HZ := Lib.hid hz
      have HM := Lib.hid hm2
      have hcx := hcx'
      clear hput hz hm2 hor hx hx' hy hwd hmv hsz hxe hye hcx'
      go_wp2_with fail
      -- begin join
      refine region_heldL (L := 10) (S := (fun w' => w'.heap = wr.heap ∧ w'.cell? ⟨b, i, none⟩ = some (.int .u64 x) ∧ w'.cell? ⟨b2, i, none⟩ = some (.int .u64 y))) (by kernel_rfl) ?xs (fun hHeld => ?xr)
      case xs => exact ⟨rfl, hcx, hcy⟩
      refine takeL (i := 0) (d := 10) (v := ?xv0) rfl (by rfl) (by kernel_rfl) (by kernel_rfl) (by kernel_rfl) (by kernel_rfl) (by rfl) (fun _ _ _ h => h) (Or.inl ⟨by rfl, ?xy0⟩) (by assumption) ?xr0
      case xy0 => intro w' hSw; obtain ⟨_, q1, q2⟩ := hSw; go_simp; (try with_reducible rfl)
      case' xr0 => simp only [Act.put, List.setIfInBounds_toArray, List.set_cons_zero, List.set_cons_succ]
      refine takeL (i := 1) (d := 11) (v := ?xv1) rfl (by rfl) (by kernel_rfl) (by kernel_rfl) (by kernel_rfl) (by kernel_rfl) (by rfl) (fun _ _ _ h => h) (Or.inl ⟨by rfl, ?xy1⟩) (by assumption) ?xr1
      case xy1 => intro w' hSw; obtain ⟨_, q1, q2⟩ := hSw; go_simp; (try with_reducible rfl)
      case' xr1 => simp only [Act.put, List.setIfInBounds_toArray, List.set_cons_zero, List.set_cons_succ]
      refine takeL (i := 2) (d := 12) (v := ?xv2) rfl (by rfl) (by kernel_rfl) (by kernel_rfl) (by kernel_rfl) (by kernel_rfl) (by rfl) (fun _ _ _ h => h) (Or.inl ⟨by rfl, ?xy2⟩) (by assumption) ?xr2
      case xy2 => intro w' hSw; obtain ⟨_, q1, q2⟩ := hSw; go_simp; (try with_reducible rfl)
      case' xr2 => simp only [Act.put, List.setIfInBounds_toArray, List.set_cons_zero, List.set_cons_succ]
      refine takeL (i := 3) (d := 13) (v := ?xv3) rfl (by rfl) (by kernel_rfl) (by kernel_rfl) (by kernel_rfl) (by kernel_rfl) (by rfl) (fun _ _ _ h => h) (Or.inl ⟨by rfl, ?xy3⟩) (by assumption) ?xr3
      case xy3 => intro w' hSw; obtain ⟨_, q1, q2⟩ := hSw; go_simp; (try with_reducible rfl)
      case' xr3 => simp only [Act.put, List.setIfInBounds_toArray, List.set_cons_zero, List.set_cons_succ]
      refine takeL (i := 4) (d := 14) (v := ?xv4) rfl (by rfl) (by kernel_rfl) (by kernel_rfl) (by kernel_rfl) (by kernel_rfl) (by rfl) (fun _ _ _ h => h) (Or.inl ⟨by rfl, ?xy4⟩) (by assumption) ?xr4
      case xy4 => intro w' hSw; obtain ⟨_, q1, q2⟩ := hSw; go_simp; (try with_reducible rfl)
      case' xr4 => simp only [Act.put, List.setIfInBounds_toArray, List.set_cons_zero, List.set_cons_succ]
      refine takeL (i := 5) (d := 15) (v := ?xv5) rfl (by rfl) (by kernel_rfl) (by kernel_rfl) (by kernel_rfl) (by kernel_rfl) (by rfl) (fun _ _ _ h => h) (Or.inl ⟨by rfl, ?xy5⟩) (by assumption) ?xr5
      case xy5 => intro w' hSw; obtain ⟨_, q1, q2⟩ := hSw; go_simp; (try with_reducible rfl)
      case' xr5 => simp only [Act.put, List.setIfInBounds_toArray, List.set_cons_zero, List.set_cons_succ]
      refine takeL (i := 6) (d := 16) (v := ?xv6) rfl (by rfl) (by kernel_rfl) (by kernel_rfl) (by kernel_rfl) (by kernel_rfl) (by rfl) (fun _ _ _ h => h) (Or.inl ⟨by rfl, ?xy6⟩) (by assumption) ?xr6
      case xy6 => intro w' hSw; obtain ⟨_, q1, q2⟩ := hSw; go_simp; (try with_reducible rfl)
      case' xr6 => simp only [Act.put, List.setIfInBounds_toArray, List.set_cons_zero, List.set_cons_succ]
      refine takeL (i := 7) (d := 17) (v := ?xv7) rfl (by rfl) (by kernel_rfl) (by kernel_rfl) (by kernel_rfl) (by kernel_rfl) (by rfl) (fun _ _ _ h => h) (Or.inl ⟨by rfl, ?xy7⟩) (by assumption) ?xr7
      case xy7 => intro w' hSw; obtain ⟨_, q1, q2⟩ := hSw; go_simp; (try with_reducible rfl)
      case' xr7 => simp only [Act.put, List.setIfInBounds_toArray, List.set_cons_zero, List.set_cons_succ]
      refine takeL (i := 8) (d := 18) (v := ?xv8) rfl (by rfl) (by kernel_rfl) (by kernel_rfl) (by kernel_rfl) (by kernel_rfl) (by rfl) (fun _ _ _ h => h) (Or.inl ⟨by rfl, ?xy8⟩) (by assumption) ?xr8
      case xy8 => intro w' hSw; obtain ⟨_, q1, q2⟩ := hSw; go_simp; (try with_reducible rfl)
      case' xr8 => simp only [Act.put, List.setIfInBounds_toArray, List.set_cons_zero, List.set_cons_succ]
      refine takeL (i := 9) (d := 19) (v := ?xv9) rfl (by rfl) (by kernel_rfl) (by kernel_rfl) (by kernel_rfl) (by kernel_rfl) (by rfl) (fun _ _ _ h => h) (Or.inl ⟨by rfl, ?xy9⟩) (by assumption) ?xr9
      case xy9 => intro w' hSw; obtain ⟨_, q1, q2⟩ := hSw; go_simp; (try with_reducible rfl)
      case' xr9 => simp only [Act.put, List.setIfInBounds_toArray, List.set_cons_zero, List.set_cons_succ]
      refine lastL (by kernel_rfl) rfl (by kernel_rfl) (fun K hK => ?xb10)
      go_simp
      refine hK.out _ _ ?xz
      -- end join
      rw [HOR.out]
      go_wp2
      go_roundw
      case rel => exact ⟨i + 1, by go_num, by omega, HPUT.out, HM.out, HZ.out⟩
      case measure => simp [intOf]; omega
    · have hge : ¬ (i : Int) < (nw : Int) := by omega
      obtain rfl : i = nw := by omega
      have HW := Lib.hid (hwd.congr (g := joinW f g) (fun k hk => by rw [if_pos hk]; rfl))
      have HM := Lib.hid hmv
      have HZ := Lib.hid hsz
      have HB := Lib.hid (hmv.below (B := B) (by have := H.out.1; omega) (fun k hk => by simp at hk; subst hk; exact hB))
      clear hwd hmv hsz
      go_wp2
      go_end0
      exact ⟨rfl, HW.out, HB.out, HM.out, HZ.out⟩
end Go.Proofs.Ytpdfcffeinbcaaa
/- A range over a function whose rounds make cells of their own that all rounds keep: what the range itself writes is no cells (after V13, V14). -/
namespace Go.Proofs.Ytpdfcffeinbcaaa
open Go.RowKit Go.Shelf
theorem range_roundsC {P : Program} {n : Nat} {g : Operand} {ps : Array Tmp} {assign body : Code} {Q : Exit → Act → World → Prop} {a : Act} {w : World}
    {gf : Nat} {lb : Array Value} (hg : a.eval g = .func (.func gf) #[] lb) (eg : ∀ args w, (callFunc gf args).run P w = .ok (.enter gf args) w)
    (n₀ N : Nat) (hn0 : n₀ ≤ w.heap.size) (R : Nat → World → Array Value → Prop) (K : Nat → World → Prop) (Ax : Nat → Act → World → Prop) (Inv : World → Prop) (hInv : ∀ k W, K k W → Inv W)
    (hRs : ∀ k W args, R k W args → args.size = ps.size)
    (hK : ∀ k A B row, K k A → A.grownBy B row → (∀ r, row = some r → w.heap.size ≤ r ∧ ∃ o : Obj, A.heap[r]? = some o ∧ o.isCells = false) → K k B)
    (hAx : ∀ k a' A B l, Ax k a' A → A.grownBy B (some l) → (∃ o : Obj, A.heap[l]? = some o ∧ o.isCells = false) → Ax k a' B)
    (hiter : ∀ (l : Nat) (J : Nat → World → Prop) (W : World), Below w.heap.size w W → (∀ k A B, J k A → A.grownBy B none → J k B) → (∀ k A, J k A → Inv A) →
      (∀ k W1 args, k < N → J k W1 → R k W1 args → YieldAt Fence.wide (n - 1 - 1) P l args W1 fun e W' => e = .returned (.bool true) ∧ J (k + 1) W' ∧ Below n₀ W1 W') → J 0 W →
      CallsIn Fence.wide (n - 1) P gf (#[.func (.yield l) #[] #[]] ++ lb) W fun e W' => (∃ v, e = .returned v) ∧ J N W')
    (hassign : ∀ (l k : Nat) (W : World) (args : Array Value) (K' : Act → World → Prop), K k W → R k W args → (∀ a' W', Below W.heap.size W W' → Ax k a' W' → K' a' W') →
      assign.wpIn (Fence.wide.inRound l) (n - 1 - 1) P (Exit.then K' (fun _ _ _ => False)) { tmps := (ps.zip args).foldl (fun t (p, v) => t.setIfInBounds p v) a.tmps, defers := [] } W)
    (hbody : ∀ (l k : Nat) (W : World) (a' : Act), k < N → K k W → Ax k a' W →
      body.wpIn (Fence.wide.inRound l) (n - 1 - 1) P (fun e _ W' => e = .normal ∧ K (k + 1) W' ∧ Below n₀ W W' ∧ Rest w.heap.size W W') a' W)
    (h0 : K 0 w)
    (hdone : ∀ (D : Nat) (W : World), w.heap.size ≤ D → K N W → W.heap[D]? = some (.deferred (some [])) → Q .normal { a with defers := { target := .collected D, args := #[] } :: a.defers } W) :
    (Code.rangeFunc g ps assign body).wpIn Fence.wide n P Q a w := by
  refine wpIn_rangeFunc fun fn hfn => ?_
  -- the record, ready or busy
  obtain ⟨rc, hrc⟩ : ∃ rc : LoopState → Loop, rc = fun st => { state := st, pending := none, fn, tmps := a.tmps, params := ps, assign, body, defers := w.heap.size } := ⟨_, rfl⟩
  obtain ⟨W1, hW1⟩ : ∃ W1, W1 = (w.alloc (.deferred (some []))).alloc (.loop (rc .ready)) := ⟨_, rfl⟩
  have hz1 : (w.alloc (.deferred (some []))).heap.size = w.heap.size + 1 := World.size_alloc _ _
  have hrec1 : W1.heap[w.heap.size + 1]? = some (.loop (rc .ready)) := by
    rw [hW1, ← hz1]; exact World.alloc_heap_new _ _
  have hdef1 : W1.heap[w.heap.size]? = some (.deferred (some [])) := by
    rw [hW1, Below.heap_alloc _ _ _ (by rw [hz1]; omega)]; exact World.alloc_heap_new _ _
  have hbel1 : Below w.heap.size w W1 := by
    rw [hW1]; exact ((Below.refl _ w).alloc (Nat.le_refl _) _).alloc (by rw [hz1]; omega) _
  have hK1 : K 0 W1 := hK 0 w W1 none h0 (grown_none hbel1) (fun r e => by cases e)
  refine ⟨w.heap.size + 1, [{ target := .collected w.heap.size, args := #[] }], W1, { target := .fn (.func gf) lb, args := #[.func (.yield (w.heap.size + 1)) #[] #[]] }, W1, gf, #[.func (.yield (w.heap.size + 1)) #[] #[]] ++ lb, W1, ?_, ?_, fun _ _ => trivial, ?_, fun h => (by cases h), ?_⟩
  · rw [hW1, hrc]
    exact run_enterLoop_outer _ _ _ _ _
  · simp only [resolve, hg]
    simp [go_sem]
  · simp [invoke, go_sem, eg]
  · refine (hiter (w.heap.size + 1) (fun k W => K k W ∧ W.heap[w.heap.size + 1]? = some (.loop (rc .ready)) ∧ W.heap[w.heap.size]? = some (.deferred (some []))) W1 hbel1 ?_ (fun k A h => hInv k A h.1) ?_ ⟨hK1, hrec1, hdef1⟩).mono ?_
    · rintro k A B ⟨h1, h2, h3⟩ hgr
      exact ⟨hK k A B none h1 hgr (fun r e => by cases e), (hgr.block _ (Array.getElem?_eq_some_iff.1 h2).1 (by simp)).trans h2, (hgr.block _ (Array.getElem?_eq_some_iff.1 h3).1 (by simp)).trans h3⟩
    · -- one round
      rintro k W args hkN ⟨hKk, hr, hd⟩ hR
      have hy := run_yield (P := P) (args := args) hr (by rw [hrc]; exact hRs k W args hR)
      rw [hrc] at hy
      refine ⟨fn, _, assign, body, hy, roundIn_of_wpIn hfn (hassign _ k W args _ hKk hR fun a' W2 hb2 hax => ?_)⟩
      have hr2 : W2.heap[w.heap.size + 1]? = some (.loop (rc .ready)) := (hb2.block _ (Array.getElem?_eq_some_iff.1 hr).1).trans hr
      have hd2 : W2.heap[w.heap.size]? = some (.deferred (some [])) := (hb2.block _ (Array.getElem?_eq_some_iff.1 hd).1).trans hd
      have hK2 : K k W2 := hK k W W2 none hKk (grown_none hb2) (fun r e => by cases e)
      refine ⟨_, run_beginRound hr2 (by rw [hrc]), ?_⟩
      have hg3 := grownBy_putObj' W2 (w.heap.size + 1) (.loop { rc .ready with state := .busy })
      have hK3 := hK k W2 _ _ hK2 hg3 (fun r e => by cases e; exact ⟨by omega, _, hr2, rfl⟩)
      have hax3 := hAx k a' W2 _ _ hax hg3 ⟨_, hr2, rfl⟩
      have hl3 : (W2.putObj (w.heap.size + 1) (.loop { rc .ready with state := .busy })).heap[w.heap.size + 1]? = some (.loop { rc .ready with state := .busy }) := World.putObj_heap_same (Array.getElem?_eq_some_iff.1 hr2).1
      have hd3 : (W2.putObj (w.heap.size + 1) (.loop { rc .ready with state := .busy })).heap[w.heap.size]? = some (.deferred (some [])) := (World.putObj_heap_other (by omega)).trans hd2
      have hb3 : Below n₀ W2 (W2.putObj (w.heap.size + 1) (.loop { rc .ready with state := .busy })) := (Below.refl n₀ W2).grown hg3 (by have := (Array.getElem?_eq_some_iff.1 hr2).1; omega) (fun r e => by cases e; omega)
      refine wpIn_mono (hbody (w.heap.size + 1) k _ a' hkN hK3 hax3) ?_
      rintro e a4 W4 ⟨rfl, hK4, hb4, hrest⟩
      have hl4 := hrest _ _ (by omega) hl3 rfl
      have hd4 := hrest _ _ (Nat.le_refl _) hd3 rfl
      have hend := run_endRound (P := P) none hl4
      have hg5 := grownBy_putObj' W4 (w.heap.size + 1) (.loop { ({ rc .ready with state := .busy } : Loop) with state := if (none : Option Code).isNone then .ready else .done, pending := none })
      refine ⟨_, _, hend, rfl, ⟨hK (k + 1) W4 _ _ hK4 hg5 (fun r e => by cases e; exact ⟨by omega, _, hl4, rfl⟩), ?_, (World.putObj_heap_other (by omega)).trans hd4⟩, ?_⟩
      · rw [World.putObj_heap_same (Array.getElem?_eq_some_iff.1 hl4).1, hrc]
        rfl
      · exact (((hb2.mono (by have := (Array.getElem?_eq_some_iff.1 hd).1; omega)).trans hb3).trans hb4).grown hg5 (by have := (Array.getElem?_eq_some_iff.1 hl4).1; omega) (fun r e => by cases e; omega)
    · -- behind the iterator
      rintro e W2 ⟨⟨v, rfl⟩, hKN, hr, hd⟩
      have hend := run_endLoop (P := P) hr (by rw [hrc]; simp)
      have hg5 := grownBy_putObj' W2 (w.heap.size + 1) (.loop { (rc .ready) with state := .exhausted })
      refine ⟨none, _, ?_, hdone w.heap.size _ (Nat.le_refl _) (hK N W2 _ _ hKN hg5 (fun r e => by cases e; exact ⟨by omega, _, hr, by rfl⟩)) ((World.putObj_heap_other (by omega)).trans hd)⟩
      rw [hrc] at hend ⊢
      exact hend
/-- The whole range: Kd m: m are still to come. -/
theorem range_backC {n : Nat} {g : Operand} {ps : Array Tmp} {assign body : Code} {Q : Exit → Act → World → Prop} {a : Act} {w : World} {B c : Nat} {X : Option Addr} {o : List Int}
    (hn : 2 ≤ n) (hg : a.eval g = .func (.func 77) #[] #[.pointer (some ⟨B, 0, none⟩)]) (hps : ps.size = 2) (hl : o.length ≤ 4611686018427387904)
    (Kd : Nat → World → Prop) (fT : Nat → Int → Array Value → Array Value)
    (hInv : ∀ m W, Kd m W → W.cell? ⟨B, 0, none⟩ = some (.slice X o.length c) ∧ RowAt W X (I o))
    (hK : ∀ m A B' row, Kd m A → A.grownBy B' row → (∀ r, row = some r → w.heap.size ≤ r ∧ ∃ o : Obj, A.heap[r]? = some o ∧ o.isCells = false) → Kd m B')
    (hassign : ∀ (l m : Nat) (hm : m < o.length) (W : World) (K' : Act → World → Prop), Kd (m + 1) W → (∀ a' W', Below W.heap.size W W' → a' = { tmps := fT m o[m] a.tmps, defers := [] } → K' a' W') →
      assign.wpIn (Fence.wide.inRound l) (n - 1 - 1) Try.prog (Exit.then K' (fun _ _ _ => False)) { tmps := (ps.zip #[.int .i64 (m : Int), .int .i64 o[m]]).foldl (fun t (p, v) => t.setIfInBounds p v) a.tmps, defers := [] } W)
    (hbody : ∀ (l m : Nat) (hm : m < o.length) (W : World), Kd (m + 1) W → body.wpIn (Fence.wide.inRound l) (n - 1 - 1) Try.prog (fun e _ W' => e = .normal ∧ Kd m W' ∧ Below 0 W W' ∧ Rest w.heap.size W W') { tmps := fT m o[m] a.tmps, defers := [] } W)
    (h0 : Kd o.length w)
    (hdone : ∀ (D : Nat) (W : World), w.heap.size ≤ D → Kd 0 W → W.heap[D]? = some (.deferred (some [])) → Q .normal { a with defers := { target := .collected D, args := #[] } :: a.defers } W) :
    (Code.rangeFunc g ps assign body).wpIn Fence.wide n Try.prog Q a w := by
  refine range_roundsC (gf := 77) (lb := #[.pointer (some ⟨B, 0, none⟩)]) hg (enters_of Try.func77 (by kernel_rfl) rfl) 0 o.length (Nat.zero_le _)
    (fun k W1 args => ∃ (m : Nat) (hm : m < o.length), k = o.length - (m + 1) ∧ args = #[.int .i64 (m : Int), .int .i64 o[m]])
    (fun k W => Kd (o.length - k) W) (fun k a' W => ∃ (m : Nat) (hm : m < o.length), k = o.length - (m + 1) ∧ a' = { tmps := fT m o[m] a.tmps, defers := [] })
    (fun W => W.cell? ⟨B, 0, none⟩ = some (.slice X o.length c) ∧ RowAt W X (I o)) (fun k W h => hInv _ W h) ?hRs ?hK ?hAx ?hiter ?hassign ?hbody ?h0 ?hdone
  case hRs => rintro k W args ⟨m, hm, _, rfl⟩; rw [hps]; rfl
  case hK => intro k A B' row h hgr hr; exact hK _ A B' row h hgr hr
  case hAx => rintro k a' A B' l h _ _; exact h
  case hiter =>
    intro l J W _ hJ hJI hY hJ0
    refine (back_iter (n - 1) l B c (by omega) J W hl hJI ?_ hJ0)
    intro m W1 hm hJm
    have := hY (o.length - (m + 1)) W1 #[.int .i64 (m : Int), .int .i64 o[m]] (by omega) hJm ⟨m, hm, rfl, rfl⟩
    rw [show o.length - (m + 1) + 1 = o.length - m by omega] at this
    exact this
  case hassign =>
    rintro l k W args K' hk ⟨m, hm, rfl, rfl⟩ hK'
    rw [show o.length - (o.length - (m + 1)) = m + 1 by omega] at hk
    exact hassign l m hm W K' hk (fun a' W' hb he => hK' a' W' hb ⟨m, hm, rfl, he⟩)
  case hbody =>
    rintro l k W a' hkN hk ⟨m, hm, rfl, rfl⟩
    rw [show o.length - (o.length - (m + 1)) = m + 1 by omega] at hk
    have := hbody l m hm W hk
    rw [show o.length - (o.length - (m + 1) + 1) = m by omega]
    exact this
  case h0 => rw [Nat.sub_zero]; exact h0
  case hdone =>
    intro D W hD hk hd
    rw [Nat.sub_self] at hk
    exact hdone D W hD hk hd
/-- What lies in cells stays, where what is written is no cells. -/
theorem cell_grownC {A B : World} {row : Option Nat} {b j : Nat} {v : Value} (hg : A.grownBy B row) (hr : ∀ r, row = some r → ∃ o : Obj, A.heap[r]? = some o ∧ o.isCells = false) (hc : A.cell? ⟨b, j, none⟩ = some v) :
    B.heap[b]? = A.heap[b]? ∧ b < A.heap.size := by
  have hb : b < A.heap.size := World.block_lt_of_cell? A _ hc
  refine ⟨hg.block b hb (fun e => ?_), hb⟩
  obtain ⟨o, ho, hn⟩ := hr b e.symm
  unfold World.cell? at hc
  simp only [ho] at hc
  cases o <;> simp_all [Obj.isCells]
end Go.Proofs.Ytpdfcffeinbcaaa
/- Whom each node comes to, as rows of bits: where they lie, what they say. -/
namespace Go.Proofs.Ytpdfcffeinbcaaa
open Go.RowKit
/-- Of the nodes of p the words of those that they come to. -/
structure FarAt (g : XG) (w : World) (T n nw B : Nat) (p : List Int) : Prop where
  t : ∀ v, v < n → (∃ u, w.cell? ⟨T, v, none⟩ = some u) ∧ w.frozen? ⟨T, v, none⟩ = false
  r : ∀ v : Nat, v < n → (v : Int) ∈ p → ∃ b c f, w.cell? ⟨T, v, none⟩ = some (.slice (some ⟨b, 0, none⟩) nw c) ∧ b ≠ T ∧ b < B ∧ WordAt w b nw f ∧ ∀ x : Nat, x < n → (hasW f x = true ↔ TG g v x)
theorem FarAt.moves {g : XG} {w w1 : World} {T n nw B : Nat} {p : List Int} {M : List Nat} (h : FarAt g w T n nw B p) (hm : Moves M w w1) (hT : T ∉ M) (hM : ∀ k ∈ M, B ≤ k) : FarAt g w1 T n nw B p := by
  have ht : ∀ v, v < n → T < w.heap.size := fun v hv => by
    obtain ⟨⟨u, hu⟩, _⟩ := h.t v hv
    exact World.block_lt_of_cell? w _ hu
  refine ⟨fun v hv => ?_, fun v hv hp => ?_⟩
  · obtain ⟨⟨u, hu⟩, hf⟩ := h.t v hv
    exact ⟨⟨u, (hm.cell (ht v hv) hT v).trans hu⟩, (hm.frozen (ht v hv) hT v).trans hf⟩
  · obtain ⟨b, c, f, h1, h2, h3, h4, h5⟩ := h.r v hv hp
    exact ⟨b, c, f, (hm.cell (ht v hv) hT v).trans h1, h2, h3, h4.moves hm (fun hk => by have := hM b hk; omega), h5⟩
theorem FarAt.up {g : XG} {w : World} {T n nw B B' : Nat} {p : List Int} (h : FarAt g w T n nw B p) (hB : B ≤ B') : FarAt g w T n nw B' p :=
  ⟨h.t, fun v hv hp => by obtain ⟨b, c, f, h1, h2, h3, h4, h5⟩ := h.r v hv hp; exact ⟨b, c, f, h1, h2, by omega, h4, h5⟩⟩
theorem FarAt.grown {g : XG} {w w1 : World} {T n nw B : Nat} {p : List Int} {row : Option Nat} (h : FarAt g w T n nw B p) (hw : 0 < nw) (hg : w.grownBy w1 row) (hr : ∀ r, row = some r → ∃ o : Obj, w.heap[r]? = some o ∧ o.isCells = false) : FarAt g w1 T n nw B p := by
  refine ⟨fun v hv => ?_, fun v hv hp => ?_⟩
  · obtain ⟨⟨u, hu⟩, hf⟩ := h.t v hv
    have hb := (cell_grownC hg hr hu).1
    exact ⟨⟨u, (World.cell?_of_block (a := ⟨T, v, none⟩) hb).trans hu⟩, (frozen_block (a := ⟨T, v, none⟩) hb).trans hf⟩
  · obtain ⟨b, c, f, h1, h2, h3, h4, h5⟩ := h.r v hv hp
    have hb := (cell_grownC hg hr h1).1
    have hb2 := (cell_grownC hg hr (h4.2.1 0 hw).2).1
    exact ⟨b, c, f, (World.cell?_of_block (a := ⟨T, v, none⟩) hb).trans h1, h2, h3, ⟨Nat.lt_of_lt_of_le h4.1 hg.size, fun i hi => ⟨(h4.2.1 i hi).1, (World.cell?_of_block (a := ⟨b, i, none⟩) hb2).trans (h4.2.1 i hi).2⟩, fun j => (frozen_block (a := ⟨b, j, none⟩) hb2).trans (h4.2.2 j)⟩, h5⟩
theorem FarAt.put {g : XG} {w : World} {T n nw B v : Nat} {p : List Int} (h : FarAt g w T n nw B p) (hv : v < n) (hp : (v : Int) ∉ p) (u : Value) : FarAt g (w.setCell ⟨T, v, none⟩ u) T n nw B p := by
  have hm : Moves [T] w (w.setCell ⟨T, v, none⟩ u) := Moves.set w ⟨T, v, none⟩ u (by simp)
  refine ⟨fun i hi => ?_, fun i hi hip => ?_⟩
  · obtain ⟨⟨u', hu⟩, hf⟩ := h.t i hi
    refine ⟨?_, by rw [World.frozen?_setCell]; exact hf⟩
    by_cases e : i = v
    · subst e; exact ⟨u, set_here _ _ _ _ _ hu⟩
    · exact ⟨u', (set_far _ _ _ _ _ (fun c => e c.symm)).trans hu⟩
  · obtain ⟨b, c, f, h1, h2, h3, h4, h5⟩ := h.r i hi hip
    have e : i ≠ v := fun e => hp (by rw [← e]; exact hip)
    exact ⟨b, c, f, (set_far _ _ _ _ _ (fun c => e c.symm)).trans h1, h2, h3, h4.moves hm (by simpa using h2), h5⟩
theorem FarAt.snoc {g : XG} {w : World} {T n nw B v b c : Nat} {p : List Int} {f : Nat → Nat} (h : FarAt g w T n nw B p) (h1 : w.cell? ⟨T, v, none⟩ = some (.slice (some ⟨b, 0, none⟩) nw c)) (h2 : b ≠ T) (h3 : B ≤ b) (h4 : WordAt w b nw f) (h5 : ∀ x : Nat, x < n → (hasW f x = true ↔ TG g v x)) : FarAt g w T n nw (b + 1) (p ++ [(v : Int)]) := by
  refine ⟨h.t, fun i hi hip => ?_⟩
  rcases List.mem_append.1 hip with hip | hip
  · obtain ⟨b', c', f', k1, k2, k3, k4, k5⟩ := h.r i hi hip
    exact ⟨b', c', f', k1, k2, by omega, k4, k5⟩
  · have e : i = v := by have := List.mem_singleton.1 hip; omega
    subst e
    exact ⟨b, c, f, h1, h2, by omega, h4, h5⟩
/-! PLAIN: what the rounds gather. -/
def farTo (g : XG) (own : Prop) (t : List Int) (x : Int) : Prop := ∃ u ∈ t, (own ∧ x = u) ∨ TG g u x
theorem farTo_nil (g : XG) (own : Prop) (x : Int) : ¬ farTo g own [] x := by rintro ⟨u, h, _⟩; cases h
theorem farTo_snoc (g : XG) (own : Prop) (t : List Int) (u x : Int) : farTo g own (t ++ [u]) x ↔ farTo g own t x ∨ ((own ∧ x = u) ∨ TG g u x) := by
  unfold farTo
  constructor
  · rintro ⟨y, hy, h⟩
    rcases List.mem_append.1 hy with hy | hy
    · exact .inl ⟨y, hy, h⟩
    · simp at hy; subst hy; exact .inr h
  · rintro (⟨y, hy, h⟩ | h)
    · exact ⟨y, List.mem_append_left _ hy, h⟩
    · exact ⟨u, by simp, h⟩
theorem farTo_all {g : XG} {v x : Int} : farTo g True (nxt g v) x ↔ TG g v x := by
  unfold farTo
  constructor
  · rintro ⟨u, hu, h⟩
    have he : Edg g v u := mem_nxt.1 hu
    rcases h with ⟨_, rfl⟩ | h
    · exact .single he
    · exact Relation.TransGen.trans (.single he) h
  · intro h
    induction h with
    | single h => exact ⟨_, mem_nxt.2 h, .inl ⟨trivial, rfl⟩⟩
    | tail _ h2 ih =>
      obtain ⟨u, hu, h⟩ := ih
      rcases h with ⟨_, rfl⟩ | h
      · exact ⟨_, hu, .inr (.single h2)⟩
      · exact ⟨_, hu, .inr (.tail h h2)⟩
/-- The words say whom the nodes of t come to. -/
def FarBits (g : XG) (own : Prop) (t : List Int) (n : Nat) (f : Nat → Nat) : Prop := ∀ x : Nat, x < n → (hasW f x = true ↔ farTo g own t x)
theorem bits_nil (g : XG) (own : Prop) (n : Nat) : FarBits g own [] n (fun _ => 0) := fun x _ => by
  rw [hasW_zero]
  exact ⟨fun h => (by cases h), fun h => (farTo_nil g own x h).elim⟩
/-- A round with the node itself. -/
theorem bit_far {g : XG} {n : Nat} {t : List Int} {f fu : Nat → Nat} {u : Nat} (h : FarBits g True t n f) (hu : ∀ x : Nat, x < n → (hasW fu x = true ↔ TG g u x)) : FarBits g True (t ++ [(u : Int)]) n (joinW (putW f u) fu) := fun x hx => by
  rw [hasW_join, hasW_put, Bool.or_eq_true, Bool.or_eq_true, h x hx, hu x hx, farTo_snoc, decide_eq_true_eq]
  constructor
  · rintro ((h | rfl) | h)
    · exact .inl h
    · exact .inr (.inl ⟨trivial, rfl⟩)
    · exact .inr (.inr h)
  · rintro (h | ⟨_, h⟩ | h)
    · exact .inl (.inl h)
    · exact .inl (.inr (by omega))
    · exact .inr h
/-- A round without it. -/
theorem bit_behind {g : XG} {n : Nat} {t : List Int} {f fu : Nat → Nat} {u : Nat} (h : FarBits g False t n f) (hu : ∀ x : Nat, x < n → (hasW fu x = true ↔ TG g u x)) : FarBits g False (t ++ [(u : Int)]) n (joinW f fu) := fun x hx => by
  rw [hasW_join, Bool.or_eq_true, h x hx, hu x hx, farTo_snoc]
  constructor
  · rintro (h | h)
    · exact .inl h
    · exact .inr (.inr h)
  · rintro (h | ⟨h, _⟩ | h)
    · exact .inl h
    · exact h.elim
    · exact .inr h
/-! PLAIN: the edges, one by one. -/
open Classical in
/-- The edges told up to node v, and of v's up to the j-th. -/
noncomputable def leanTo (g : XG) (v j : Nat) : List (Int × Int) := leanE g v ++ (((nxt g v).take j).filter fun w => decide (¬ farTo g False (nxt g v) w)).map fun w => ((v : Int), w)
theorem leanTo_zero (g : XG) (v : Nat) : leanTo g v 0 = leanE g v := by simp [leanTo]
open Classical in
theorem leanTo_succ {g : XG} {v j : Nat} (hj : j < (nxt g v).length) : leanTo g v (j + 1) = if farTo g False (nxt g v) (nxt g v)[j] then leanTo g v j else leanTo g v j ++ [((v : Int), (nxt g v)[j])] := by
  unfold leanTo
  rw [List.take_succ_eq_append_getElem hj, List.filter_append, List.map_append]
  by_cases h : farTo g False (nxt g v) (nxt g v)[j]
  · rw [if_pos h]; simp [h]
  · rw [if_neg h]; simp [h]
theorem leanTo_bit {g : XG} {v n j u : Nat} {l : List Int} {f : Nat → Nat} (hl : l = nxt g v) (hb : FarBits g False l n f) (hj : j < l.length) (hu : l[j] = (u : Int)) (hun : u < n) : leanTo g v (j + 1) = if hasW f u = true then leanTo g v j else leanTo g v j ++ [((v : Int), (u : Int))] := by
  subst hl
  rw [leanTo_succ hj, hu]
  by_cases h : hasW f u = true
  · rw [if_pos h, if_pos ((hb u hun).1 h)]
  · rw [if_neg h, if_neg (fun c => h ((hb u hun).2 c))]
theorem leanTo_all {g : XG} {v j : Nat} (hj : (nxt g v).length ≤ j) : leanTo g v j = leanE g (v + 1) := by
  unfold leanTo leanE
  rw [List.take_of_length_le hj, nodes_succ, List.map_append, List.flatten_append]
  congr 1
  rw [List.map_singleton, List.flatten_singleton]
  congr 1
  unfold leanR
  refine List.filter_congr fun w hw => ?_
  congr 1
  apply propext
  refine not_congr ⟨?_, ?_⟩
  · rintro ⟨u, hu, ⟨h, _⟩ | h⟩
    · exact h.elim
    · exact ⟨u, hu, h⟩
  · rintro ⟨u, hu, h⟩; exact ⟨u, hu, .inr h⟩
open Classical in
theorem leanTo_length (g : XG) (v j : Nat) : (leanTo g v j).length ≤ (leanE g v).length + (nxt g v).length := by
  unfold leanTo
  rw [List.length_append, List.length_map]
  have h1 := List.length_filter_le (fun w => decide (¬ farTo g False (nxt g v) w)) ((nxt g v).take j)
  have h2 : ((nxt g v).take j).length ≤ (nxt g v).length := by rw [List.length_take]; omega
  omega
theorem leanE_length (g : XG) : ∀ k : Nat, (leanE g k).length ≤ k * g.es.length
  | 0 => by simp [leanE, nodes]
  | k + 1 => by
    rw [← leanTo_all (g := g) (v := k) (Nat.le_refl _)]
    have h1 := leanTo_length g k (nxt g k).length
    have h2 := leanE_length g k
    have h3 := nxt_length g k
    have h4 : (k + 1) * g.es.length = k * g.es.length + g.es.length := by rw [Nat.add_mul, Nat.one_mul]
    omega
end Go.Proofs.Ytpdfcffeinbcaaa
/- PLAIN: the longest way is a way; its weights; what it is at least, and at most. -/
namespace Go.Proofs.Ytpdfcffeinbcaaa
open Go.RowKit
def sumL (f : Int → Int) (l : List Int) : Int := l.foldl (fun s x => s + f x) 0
theorem sumL_acc (f : Int → Int) : ∀ (l : List Int) (a : Int), l.foldl (fun s x => s + f x) a = a + sumL f l
  | [], a => by simp [sumL]
  | x :: l, a => by
    unfold sumL
    rw [List.foldl_cons, List.foldl_cons, sumL_acc f l (a + f x), sumL_acc f l (0 + f x)]
    omega
theorem sumL_cons (f : Int → Int) (x : Int) (l : List Int) : sumL f (x :: l) = f x + sumL f l := by
  unfold sumL
  rw [List.foldl_cons, sumL_acc]
  unfold sumL
  omega
theorem sumL_snoc (f : Int → Int) (l : List Int) (x : Int) : sumL f (l ++ [x]) = sumL f l + f x := by
  unfold sumL
  rw [List.foldl_append]
  rfl
theorem sumL_perm {f : Int → Int} {a b : List Int} (h : a.Perm b) : sumL f a = sumL f b := by
  induction h with
  | nil => rfl
  | cons x _ ih => rw [sumL_cons, sumL_cons, ih]
  | swap x y l => rw [sumL_cons, sumL_cons, sumL_cons, sumL_cons]; omega
  | trans _ _ h1 h2 => rw [h1, h2]
theorem sumL_nonneg {f : Int → Int} (hf : ∀ x, 0 ≤ f x) : ∀ l : List Int, 0 ≤ sumL f l
  | [] => Int.le_refl _
  | x :: l => by rw [sumL_cons]; have := hf x; have := sumL_nonneg hf l; omega
/-- Some of a row's numbers, each once, sum to no more than all. -/
theorem sumL_sub {f : Int → Int} (hf : ∀ x, 0 ≤ f x) : ∀ (a b : List Int), a.Nodup → (∀ x ∈ a, x ∈ b) → sumL f a ≤ sumL f b
  | [], b, _, _ => sumL_nonneg hf b
  | x :: a, b, hn, hs => by
    obtain ⟨hx, hn2⟩ := List.nodup_cons.1 hn
    have hp := List.perm_cons_erase (hs x List.mem_cons_self)
    rw [sumL_perm hp, sumL_cons, sumL_cons]
    have := sumL_sub hf a (b.erase x) hn2 fun y hy => by
      have hne : y ≠ x := fun e => by rw [e] at hy; exact hx hy
      exact (List.mem_erase_of_ne hne).2 (hs y (List.mem_cons_of_mem _ hy))
    omega
section
variable {g : XG} {wts : List Int}
theorem way_sum (hl : LonOk g wts) : ∀ (k : Nat) (t : List Int) (v : Int), OnWay g wts t v k → sumL (wtF wts) (pathGo (lonX g wts) k v) = lonT g wts v
  | k, t, v, h => by
    have hrec := hl.recur h.at_
    have hge := (maxs_ge (lonT g wts) (nxt g v) 0).1
    by_cases hp : 0 < maxs (lonT g wts) 0 (nxt g v)
    · obtain ⟨k', rfl, h2⟩ := h.step hl hp
      obtain ⟨_, he, _⟩ := hl.next hp
      rw [pathGo_step (hl.goes.1 hp), sumL_cons, way_sum hl k' _ _ h2, he, hrec]
    · have hx : lonX g wts v < 0 := by
        apply Classical.byContradiction
        intro hn
        exact hp (hl.goes.2 hn)
      rw [pathGo_stop hx, sumL_cons, hrec]
      show _ + 0 = _
      omega
/-- Each leads to the next by an edge. -/
def Steps (g : XG) : List Int → Prop
  | [] => True
  | [_] => True
  | a :: b :: l => Edg g a b ∧ Steps g (b :: l)
theorem way_edges (hl : LonOk g wts) : ∀ (k : Nat) (t : List Int) (v : Int), OnWay g wts t v k → (∃ r, pathGo (lonX g wts) k v = v :: r) ∧ Steps g (pathGo (lonX g wts) k v)
  | k, t, v, h => by
    by_cases hp : 0 < maxs (lonT g wts) 0 (nxt g v)
    · obtain ⟨k', rfl, h2⟩ := h.step hl hp
      obtain ⟨he, _, _⟩ := hl.next hp
      obtain ⟨⟨r, hr⟩, hs⟩ := way_edges hl k' _ _ h2
      rw [pathGo_step (hl.goes.1 hp), hr]
      rw [hr] at hs
      exact ⟨⟨_, rfl⟩, he, hs⟩
    · have hx : lonX g wts v < 0 := by
        apply Classical.byContradiction
        intro hn
        exact hp (hl.goes.2 hn)
      rw [pathGo_stop hx]
      exact ⟨⟨_, rfl⟩, trivial⟩
end
end Go.Proofs.Ytpdfcffeinbcaaa
/- PLAIN: what is said of the longest way; is there an edge? -/
namespace Go.Proofs.Ytpdfcffeinbcaaa
open Go.RowKit
theorem sumL_map (f : Int → Int) : ∀ l : List Int, sumL f l = sumL id (l.map f)
  | [] => rfl
  | x :: l => by rw [List.map_cons, sumL_cons, sumL_cons, sumL_map f l]; rfl
theorem nodes_wt {wts : List Int} : (nodes wts.length).map (wtF wts) = wts := by
  apply List.ext_getElem
  · simp [nodes]
  · intro i h1 h2
    simp only [nodes, List.map_map, List.getElem_map, List.getElem_range]
    exact wtF_get h2
theorem Steps.at_ {g : XG} : ∀ {l : List Int}, Steps g l → ∀ (i : Nat) (h : i + 1 < l.length), Edg g l[i] l[i + 1]
  | [], _, i, h => by simp at h
  | [_], _, i, h => by simp at h
  | a :: b :: l, hs, 0, _ => hs.1
  | a :: b :: l, hs, i + 1, h => Steps.at_ (l := b :: l) hs.2 i (by simp at h ⊢; omega)
/-- What is said of the longest way. -/
structure LonFacts (g : XG) (wts : List Int) (s : Int) (l : List Int) : Prop where
  len : wts.length = g.n.toNat
  fine : ∀ x ∈ wts, 0 ≤ x ∧ x ≤ 1099511627776
  each : ∀ x ∈ wts, x ≤ s
  rng : ∀ x ∈ l, 0 ≤ x ∧ x < g.n
  step : ∀ (i : Nat) (h : i + 1 < l.length), Edg g l[i] l[i + 1]
  own : sumL (wtF wts) l = s
  most : s ≤ sumL id wts
  short : l.length ≤ g.n.toNat
section
variable {g : XG} {wts : List Int}
theorem way_end (hl : LonOk g wts) : ∀ (k : Nat) (t : List Int) (v : Int), OnWay g wts t v k → ∃ t' v' k', OnWay g wts t' v' k' ∧ t' ++ [v'] = lonWay g wts
  | k, t, v, h => by
    by_cases hp : 0 < maxs (lonT g wts) 0 (nxt g v)
    · obtain ⟨k', rfl, h2⟩ := h.step hl hp
      exact way_end hl k' _ _ h2
    · exact ⟨t, v, k, h, h.done hl hp⟩
theorem lon_facts (h : lonE g wts = 0) : LonFacts g wts (lonSum g wts) (lonWay g wts) := by
  have hk : chkF g = 0 := by
    apply Classical.byContradiction
    intro hc
    unfold lonE at h
    rw [if_pos hc] at h
    exact hc h
  have hg := chkF_good.1 hk
  have hlb : ¬ (wts.length ≠ g.n.toNat ∨ wts.any badB = true) := by
    intro hc
    unfold lonE at h
    rw [if_neg (by simp [hk]), if_pos hc] at h
    cases h
  have hlen : wts.length = g.n.toNat := Classical.byContradiction fun c => hlb (.inl c)
  have hbad : wts.any badB = false := by
    cases hb : wts.any badB with
    | false => rfl
    | true => exact absurd (.inr hb) hlb
  have hfine : ∀ x ∈ wts, 0 ≤ x ∧ x ≤ 1099511627776 := fun x hx => by
    obtain ⟨i, hi, rfl⟩ := List.mem_iff_getElem.1 hx
    have := wtF_bound hbad (i : Int)
    rwa [wtF_get hi] at this
  by_cases hp : 0 < g.n
  · have hok : lonOk g wts := ⟨h, hp⟩
    have L := lonOk_is hok
    have hst := L.start hok
    have hs : lonSum g wts = lonT g wts (fstF (lonT g wts) g.n.toNat) := by unfold lonSum; rw [if_pos hok]
    have hw : lonWay g wts = pathGo (lonX g wts) g.n.toNat (fstF (lonT g wts) g.n.toNat) := by unfold lonWay; rw [if_pos hok]
    obtain ⟨t, v, k, ho, he⟩ := way_end L _ _ _ hst
    have hsum := way_sum L _ _ _ hst
    have hnd : (lonWay g wts).Nodup := by
      rw [← he]
      exact ho.chain.imp (fun {a b} hab e => by subst e; exact L.no _ hab)
    have hr : ∀ x ∈ lonWay g wts, 0 ≤ x ∧ x < g.n := by rw [← he]; exact ho.rng
    have hown : sumL (wtF wts) (lonWay g wts) = lonSum g wts := by rw [hw, hsum, hs]
    obtain ⟨_, hfst, _⟩ := fstF_is (lonT g wts) g.n.toNat (by omega)
    refine ⟨hlen, hfine, fun x hx => ?_, hr, ?_, hown, ?_, ?_⟩
    · obtain ⟨i, hi, rfl⟩ := List.mem_iff_getElem.1 hx
      have h1 := L.recur (v := (i : Int)) (by omega)
      have h2 := hfst i (by omega)
      have h3 := (maxs_ge (lonT g wts) (nxt g (i : Int)) 0).1
      rw [wtF_get hi] at h1
      rw [hs]
      omega
    · rw [hw]
      exact (way_edges L _ _ _ hst).2.at_
    · rw [← hown]
      have h1 := sumL_sub (f := wtF wts) (fun x => (wtF_bound hbad x).1) (lonWay g wts) (nodes wts.length) hnd (fun x hx => mem_nodes.2 (by have := hr x hx; omega))
      rw [sumL_map (wtF wts) (nodes wts.length), nodes_wt] at h1
      exact h1
    · rw [← he]; exact ho.short L
  · have hno : ¬ lonOk g wts := fun c => hp c.2
    have hs : lonSum g wts = 0 := by unfold lonSum; rw [if_neg hno]
    have hw : lonWay g wts = [] := by unfold lonWay; rw [if_neg hno]
    have hn := hg.n0
    have hw0 : wts = [] := List.eq_nil_of_length_eq_zero (by omega)
    rw [hs, hw, hw0]
    exact ⟨by simp; omega, by simp, by simp, by simp, by intro i h; simp at h, rfl, by simp [sumL], by simp⟩
end
theorem sum_take {f : Int → Int} {M : Int} (h : ∀ x, 0 ≤ f x ∧ f x ≤ M) : ∀ l : List Int, 0 ≤ sumL f l ∧ sumL f l ≤ l.length * M
  | [] => by simp [sumL]
  | x :: l => by
    rw [sumL_cons]
    have h1 := h x
    have h2 := sum_take h l
    have e : ((x :: l).length : Int) * M = (l.length : Int) * M + M := by rw [List.length_cons]; push_cast; rw [Int.add_mul, Int.one_mul]
    omega
theorem sumL_wts (wts : List Int) : ∀ i : Nat, i ≤ wts.length → sumL id (wts.take i) = sumL (wtF wts) (nodes i)
  | 0, _ => rfl
  | i + 1, h => by
    rw [List.take_succ_eq_append_getElem (by omega), sumL_snoc, nodes_succ, sumL_snoc, sumL_wts wts i (by omega), wtF_get (by omega)]
    rfl
def edgeB (g : XG) (a b : Int) : Bool := decide ((a, b) ∈ g.es)
set_option maxHeartbeats 1000000 in
theorem edge_c (g : XG) (E : Option Addr) (d : Nat) (a b : Int) (w : World) (h : GAt w E g) (hl : g.es.length ≤ 4611686018427387904) :
    Calls Try.prog 44 #[g.val E d, .int .i64 a, .int .i64 b] w fun e w' => e = .returned (.bool (edgeB g a b)) ∧ Below w.heap.size w w' := by
  obtain ⟨m, hm⟩ : ∃ m, m = g.es.length := ⟨_, rfl⟩
  have hbx := box_at (w := w) (t := 24) g E d
  have hv : g.val E d = .agg #[.int .i64 g.n, .slice E m d] := by rw [hm]; rfl
  rw [hv]
  obtain ⟨r, hr⟩ : ∃ r, r = edgeB g a b := ⟨_, rfl⟩
  rw [← hr]
  have HR := Lib.hid hr
  clear hr
  obtain ⟨wB, hwB⟩ : ∃ wB, wB = w.alloc (.cells #[.int .i64 g.n, .slice E m d] 24) := ⟨_, rfl⟩
  rw [← hm, ← hwB] at hbx
  have c1 := hbx.c1
  have hG := h.below hbx.bel
  have hbel := hbx.bel
  have hlt := hbx.lt
  rw [← hm] at c1
  have HG := Lib.hid hG
  have HB := Lib.hid hbel
  have HM := Lib.hid hm
  have HWB := Lib.hid hwB
  clear hbx hv hm h hG hbel hwB
  go_enter Try.func44, Try.ntmps44
  go_wp2
  rw [← HWB.out]
  go_loopw [7] (fun i wr => ∃ j : Nat, i = .int .i64 j ∧ j ≤ m ∧ (∀ k (hk : k < g.es.length), k < j → g.es[k] ≠ (a, b)) ∧ Below wB.heap.size wB wr) (fun i _ => m - (intOf i).toNat)
  case atStart => exact ⟨0, rfl, by omega, by omega, Below.refl _ _⟩
  case round =>
    obtain ⟨j, rfl, hj, hall, hbr⟩ := hrel
    have d1 := (hbr.cell (p := ⟨w.heap.size, 1, none⟩) hlt).trans c1
    by_cases hlj : j < m
    · have hj0 : (0 : Int) ≤ (j : Int) := by omega
      have hj1 : (j : Int) < (m : Int) := by omega
      have hjl : j < g.es.length := by have := HM.out; omega
      obtain ⟨eb, eo, rfl, hel, ea, eb'⟩ := (HG.out.below hbr).edge hjl
      obtain ⟨x, hx⟩ : ∃ x, x = g.es[j].1 := ⟨_, rfl⟩
      obtain ⟨y, hy⟩ : ∃ y, y = g.es[j].2 := ⟨_, rfl⟩
      have hxy : g.es[j] = (x, y) := by rw [hx, hy]
      rw [← hx] at ea
      rw [← hy] at eb'
      have HBR := Lib.hid hbr
      have HALL := Lib.hid hall
      have HXY := Lib.hid hxy
      clear hx hy hxy hall hbr
      by_cases hxa : x = a
      · by_cases hyb : y = b
        · subst hxa
          subst hyb
          obtain rfl : r = true := HR.out.trans (decide_eq_true (by rw [← HXY.out]; exact List.getElem_mem hjl))
          have HE := Lib.hid (HB.out.trans (HBR.out.mono (Nat.le_of_lt hlt)))
          go_wp2
          go_ret
          exact ⟨rfl, HE.out⟩
        · have hb1 : (y == b) = false := by simpa using hyb
          subst hxa
          have hnew : ∀ k (hk : k < g.es.length), k < j + 1 → g.es[k] ≠ (x, b) := fun k hk hkj => by
            rcases Nat.lt_or_ge k j with c | c
            · exact HALL.out k hk c
            · obtain rfl : k = j := by omega
              rw [HXY.out]; intro e; cases e; exact hyb rfl
          have HNEW := Lib.hid hnew
          clear hnew hyb
          go_wp2
          go_roundw
          case rel => exact ⟨j + 1, by go_num, by omega, HNEW.out, HBR.out⟩
          case measure => simp [intOf]; omega
      · have ha1 : (x == a) = false := by simpa using hxa
        have hnew : ∀ k (hk : k < g.es.length), k < j + 1 → g.es[k] ≠ (a, b) := fun k hk hkj => by
          rcases Nat.lt_or_ge k j with c | c
          · exact HALL.out k hk c
          · obtain rfl : k = j := by omega
            rw [HXY.out]; intro e; cases e; exact hxa rfl
        have HNEW := Lib.hid hnew
        clear hnew hxa
        go_wp2
        go_roundw
        case rel => exact ⟨j + 1, by go_num, by omega, HNEW.out, HBR.out⟩
        case measure => simp [intOf]; omega
    · have hge : ¬ (j : Int) < (m : Int) := by omega
      have hfin : r = false := HR.out.trans (decide_eq_false (fun hm => by
        obtain ⟨k, hk, e⟩ := List.mem_iff_getElem.1 hm
        exact hall k hk (by have := HM.out; omega) e))
      subst hfin
      have HE := Lib.hid (HB.out.trans (hbr.mono (Nat.le_of_lt hlt)))
      clear hall hbr
      go_wp2
      go_ret
      exact ⟨rfl, HE.out⟩
theorem edgeB_iff {g : XG} {a b : Int} : edgeB g a b = true ↔ Edg g a b := by
  unfold edgeB
  rw [decide_eq_true_eq]
  exact Iff.rfl
end Go.Proofs.Ytpdfcffeinbcaaa
/- PLAIN: the lean graph reaches what the graph reaches; less without any of its edges. -/
namespace Go.Proofs.Ytpdfcffeinbcaaa
open Go.RowKit
theorem leanE_of {g : XG} (hg : Good g) {e : Int × Int} (h : e ∈ (leanG g).es) : e ∈ g.es := by
  obtain ⟨a, b⟩ := e
  exact ((lean_edge hg).1 h).1
theorem lean_good {g : XG} (hg : Good g) (hs : g.n.toNat * g.es.length ≤ 16384) : Good (leanG g) :=
  ⟨hg.n0, hg.n1, Nat.le_trans (leanE_length g g.n.toNat) hs, fun e he => hg.all e (leanE_of hg he)⟩
theorem lean_rise {g : XG} (h : ordE g = 0) : ∃ p : Int → Int, ∀ a b, TG g a b → p a < p b := by
  obtain ⟨hg, _, _⟩ := ordE_zero h
  obtain ⟨o, f, hk, _, _⟩ := KahnOk.of h
  refine ⟨plF o g.n.toNat, fun a b ht => ?_⟩
  induction ht with
  | single he => exact hk.place hg he
  | tail _ he ih => have := hk.place hg he; omega
theorem lean_rc {g : XG} (h : ordE g = 0) (a b : Int) : Rc (leanG g) a b ↔ Rc g a b := by
  obtain ⟨hg, _, hno⟩ := ordE_zero h
  obtain ⟨p, hp⟩ := lean_rise h
  constructor
  · rintro (h | h)
    · exact .inl h
    · exact .inr (lean_sub hg h)
  · rintro (h | h)
    · exact .inl h
    · exact .inr (lean_way hg hno hp (p b - p a).toNat a b h (by omega))
theorem reach_one {g : XG} (hg : Good g) {i : Int} (hi : 0 ≤ i ∧ i < g.n) : reachE g [i] = 0 := by
  unfold reachE
  rw [if_pos (chkF_good.2 hg), if_neg (by simp), if_pos (by simpa using nodeB_iff.2 hi)]
theorem reach_rising {g : XG} (hg : Good g) {i : Int} (hi : 0 ≤ i ∧ i < g.n) : (reachL g [i]).Pairwise (· < ·) ∧ ∀ x, x ∈ reachL g [i] ↔ Rc g i x := by
  obtain ⟨h1, _, h3⟩ := bfs_nxt hg (src := [i]) (fun x hx => by rw [List.mem_singleton.1 hx]; exact hi)
  unfold reachL
  rw [if_pos (reach_one hg hi)]
  refine ⟨?_, fun x => by rw [(sortI_perm _).mem_iff, h3, rch_fwd]⟩
  have hn : (sortI (bfsF (nxt g) g.n.toNat [i])).Nodup := (sortI_perm _).nodup_iff.2 h1
  exact ((sortI_le _).and hn).imp (fun {a b} h => by have h1 := h.1; have h2 := h.2; omega)
theorem lean_reachL {g : XG} (h : ordE g = 0) (hl : Good (leanG g)) {i : Int} (hi : 0 ≤ i ∧ i < g.n) : reachL (leanG g) [i] = reachL g [i] := by
  obtain ⟨hg, _, _⟩ := ordE_zero h
  obtain ⟨a1, a2⟩ := reach_rising hl (i := i) hi
  obtain ⟨b1, b2⟩ := reach_rising hg hi
  exact rising_ext a1 b1 (fun x => by rw [a2, b2, lean_rc h])
theorem leanE_nodup (g : XG) : ∀ k, (leanE g k).Nodup
  | 0 => by simp [leanE, nodes]
  | k + 1 => by
    have e : leanE g (k + 1) = leanE g k ++ (leanR g k).map fun w => ((k : Int), w) := by
      unfold leanE
      rw [nodes_succ, List.map_append, List.flatten_append, List.map_singleton, List.flatten_singleton]
    rw [e, List.nodup_append]
    refine ⟨leanE_nodup g k, ?_, ?_⟩
    · refine List.Pairwise.map (R := (· ≠ ·)) _ (fun a b hab e => hab (by cases e; rfl)) ?_
      unfold leanR
      exact (rising_nodup (nxt_rising g k)).filter _
    · rintro ⟨a, b⟩ ha ⟨c, d⟩ hc e
      cases e
      unfold leanE at ha
      obtain ⟨l, hl, hm⟩ := List.mem_flatten.1 ha
      obtain ⟨v, hv, rfl⟩ := List.mem_map.1 hl
      obtain ⟨w, _, e⟩ := List.mem_map.1 hm
      obtain ⟨w', _, e'⟩ := List.mem_map.1 hc
      have := mem_nodes.1 hv
      cases e
      have h := congrArg Prod.fst e'
      simp only at h
      omega
/-- The graph without one of its edges. -/
def lessG (h : XG) (k : Nat) : XG := ⟨h.n, h.es.take k ++ h.es.drop (k + 1)⟩
theorem less_mem {h : XG} (hn : h.es.Nodup) {k : Nat} (hk : k < h.es.length) {e : Int × Int} (he : e ∈ (lessG h k).es) : e ∈ h.es ∧ e ≠ h.es[k] := by
  have hs : h.es = h.es.take k ++ h.es[k] :: h.es.drop (k + 1) := by
    rw [List.getElem_cons_drop, List.take_append_drop]
  obtain ⟨x, hx⟩ : ∃ x, x = h.es[k] := ⟨_, rfl⟩
  rw [← hx] at hs ⊢
  rw [hs, List.nodup_append] at hn
  obtain ⟨_, h2, h3⟩ := hn
  unfold lessG at he
  rcases List.mem_append.1 he with he | he
  · exact ⟨List.mem_of_mem_take he, h3 e he x List.mem_cons_self⟩
  · refine ⟨List.mem_of_mem_drop he, fun c => ?_⟩
    subst c
    exact (List.nodup_cons.1 h2).1 he
theorem less_good {h : XG} (hg : Good h) (hn : h.es.Nodup) {k : Nat} (hk : k < h.es.length) : Good (lessG h k) :=
  ⟨hg.n0, hg.n1, by
    have := hg.len
    show (h.es.take k ++ h.es.drop (k + 1)).length ≤ _
    rw [List.length_append, List.length_take, List.length_drop]
    omega, fun e he => hg.all e (less_mem hn hk he).1⟩
/-- What the law asks of one edge. -/
theorem lean_last {g : XG} (h : ordE g = 0) (hl : Good (leanG g)) {k : Nat} (hk : k < (leanG g).es.length) : Edg g (leanG g).es[k].1 (leanG g).es[k].2 ∧ wayB (lessG (leanG g) k) (leanG g).es[k].1 (leanG g).es[k].2 = false := by
  obtain ⟨hg, _, hno⟩ := ordE_zero h
  have hm : Edg (leanG g) (leanG g).es[k].1 (leanG g).es[k].2 := List.getElem_mem hk
  have he := ((lean_edge hg).1 hm).1
  have hnd := leanE_nodup g g.n.toNat
  refine ⟨he, ?_⟩
  cases hw : wayB (lessG (leanG g) k) (leanG g).es[k].1 (leanG g).es[k].2 with
  | false => rfl
  | true =>
    have hr := (hg.all _ he).1
    rcases (wayB_iff (less_good hl hnd hk) (a := (leanG g).es[k].1) hr).1 hw with c | c
    · exact (hno (leanG g).es[k].1 (.single (by rw [← c] at he; exact he))).elim
    · exact (lean_need hg hm (fun x y hxy => by
        obtain ⟨h1, h2⟩ := less_mem hnd hk hxy
        refine ⟨h1, fun ⟨e1, e2⟩ => h2 ?_⟩
        rw [e1, e2]) c).elim
theorem ordE_150 {g : XG} (hk : chkF g = 0) (h : ordE g ≠ 0) : ordE g = 150 := by
  unfold ordE at h ⊢
  rw [if_pos hk] at h ⊢
  split at h
  · exact (h rfl).elim
  · rename_i hc; rw [if_neg hc]
end Go.Proofs.Ytpdfcffeinbcaaa
/- A graph made of two parts of another's edges: what is made, in any order. -/
namespace Go.Proofs.Ytpdfcffeinbcaaa
open Go.RowKit
/-- A row of edges made behind wr. -/
structure Made (wr : World) (v : Value) (n : Nat) (xs : List Value) (W : World) : Prop where
  own : W.ownsRow wr.heap.size 51 2 v n xs
  bel : Below wr.heap.size wr W
theorem Made.void {wr W : World} (h : Below wr.heap.size wr W) : Made wr (.slice (some ⟨W.heap.size, 0, none⟩) 0 0) 0 [] (W.alloc (.cells #[] 51)) :=
  ⟨own_base (own_void W 51 2) h.size, h.alloc h.size _⟩
theorem Made.alloc {wr W : World} {v : Value} {n : Nat} {xs : List Value} (h : Made wr v n xs W) (o : Obj) : Made wr v n xs (W.alloc o) := ⟨h.own.alloc o, h.bel.alloc h.bel.size o⟩
theorem Made.app {wr W w' : World} {v v' : Value} {n m : Nat} {xs ys : List Value} (h : Made wr v n xs W) (ho : w'.ownsRow wr.heap.size 51 2 v' (n + m) (xs ++ ys)) (hg : W.grownBy w' v.ownBlock) : Made wr v' (n + m) (xs ++ ys) w' :=
  ⟨ho, h.bel.grown hg h.bel.size (fun k e => (h.own.lt k e).1)⟩
/-- A new graph's room. -/
structure Bx0 (p : Nat) (W : World) : Prop where
  c0 : W.cell? ⟨p, 0, none⟩ = some (.int .i64 0)
  c1 : W.cell? ⟨p, 1, none⟩ = some (.slice none 0 0)
  z : ∀ o, W.frozen? ⟨p, o, none⟩ = false
  lt : p < W.heap.size
theorem Bx0.new (W : World) : Bx0 W.heap.size (W.alloc (.cells #[.int .i64 0, .slice none 0 0] 24)) :=
  ⟨by rw [cell_new]; rfl, by rw [cell_new]; rfl, fun o => frozen_new _ _ _ _, by rw [al_size]; omega⟩
theorem Bx0.alloc {p : Nat} {W : World} (h : Bx0 p W) (o : Obj) : Bx0 p (W.alloc o) := by
  have hb : Below W.heap.size W (W.alloc o) := (Below.refl _ _).alloc (Nat.le_refl _) o
  exact ⟨kept_cell h.c0 hb, kept_cell h.c1 hb, fun q => (hb.frozen (p := ⟨p, q, none⟩) h.lt).trans (h.z q), by rw [al_size]; have := h.lt; omega⟩
theorem Bx0.grown {p : Nat} {W W' : World} {r : Option Nat} (h : Bx0 p W) (hg : W.grownBy W' r) (hr : r ≠ some p) : Bx0 p W' := by
  have hb := hg.block p h.lt (fun e => hr e.symm)
  exact ⟨(World.cell?_of_block (a := ⟨p, 0, none⟩) hb).trans h.c0, (World.cell?_of_block (a := ⟨p, 1, none⟩) hb).trans h.c1, fun q => (frozen_block (a := ⟨p, q, none⟩) hb).trans (h.z q), Nat.lt_of_lt_of_le h.lt hg.size⟩
theorem Made.apart {wr W : World} {v : Value} {n : Nat} {xs : List Value} (h : Made wr v n xs W) : v.ownBlock ≠ some W.heap.size := fun e => by have := (h.own.lt _ e).2; omega
theorem void_apart {p : Nat} {W : World} (h : Bx0 p W) : (Value.slice (some ⟨W.heap.size, 0, none⟩) 0 0).ownBlock ≠ some p := fun e => by
  have := h.lt
  simp [Value.ownBlock] at e
  omega
theorem app_apart {p : Nat} {W : World} {v v' : Value} (hb : Bx0 p W) (h : v.ownBlock ≠ some p) (ha : v'.ownBlock = v.ownBlock ∨ v'.ownBlock = some W.heap.size) : v'.ownBlock ≠ some p := fun e => by
  rcases ha with ha | ha
  · exact h (ha ▸ e)
  · rw [ha] at e
    cases e
    exact absurd hb.lt (by omega)
/-- What is made at last. -/
structure MadeG (wr : World) (g : XG) (N : Nat) (s : Value) (W : World) : Prop where
  it : ∃ p X c, s = .pointer (some ⟨p, 0, none⟩) ∧ W.cell? ⟨p, 0, none⟩ = some (.int .i64 g.n) ∧ W.cell? ⟨p, 1, none⟩ = some (.slice X N c) ∧ GAt W X g
  bel : Below wr.heap.size wr W
theorem made_done {wr W : World} {X : Option Addr} {N c p : Nat} {es : List (Int × Int)} {n : Int} (h : Made wr (.slice X N c) N (edgeCells es) W) (hb : Bx0 p W) (ha : (Value.slice X N c).ownBlock ≠ some p) (hp : wr.heap.size ≤ p) : MadeG wr ⟨n, es⟩ N (.pointer (some ⟨p, 0, none⟩)) ((W.setCell ⟨p, 0, none⟩ (.int .i64 n)).setCell ⟨p, 1, none⟩ (.slice X N c)) := by
  obtain ⟨f0, f1⟩ := two_at (x := .int .i64 n) (y := .slice X N c) hb.c0 hb.c1
  have hm : Moves [p] W ((W.setCell ⟨p, 0, none⟩ (.int .i64 n)).setCell ⟨p, 1, none⟩ (.slice X N c)) := (Moves.set W ⟨p, 0, none⟩ _ (by simp)).trans (Moves.set _ ⟨p, 1, none⟩ _ (by simp))
  have ho := own_mv h.own hm (fun k e => by simp; intro c; subst c; exact ha e)
  obtain ⟨X', c', e', hr, _⟩ := own_rowS ho
  cases e'
  exact ⟨⟨p, X, c, rfl, f0, f1, hr⟩, (h.bel.setCell (p := ⟨p, 0, none⟩) hp _).setCell (p := ⟨p, 1, none⟩) hp _⟩
theorem edgeCells_app (a b : List (Int × Int)) : edgeCells (a ++ b) = edgeCells a ++ edgeCells b := by unfold edgeCells; rw [List.flatMap_append]
/-- Some of a graph's edges, to be appended. -/
theorem part_reads {W : World} {b off : Nat} {es : List (Int × Int)} (h : RowAt W (some ⟨b, off, none⟩) (edgeCells es)) (i m : Nat) (hm : i + m ≤ es.length) (A : Option Addr) (hA : 0 < m → A = some ⟨b, off + i * 2, none⟩) : Reads W W.heap.size 2 A m (edgeCells ((es.drop i).take m)) := by
  refine ⟨by rw [edgeCells_length, List.length_take, List.length_drop]; omega, fun hp => ⟨_, hA hp, ?_, fun j u hu => ?_⟩⟩
  · rcases h with h | ⟨b', o', e, hl, _⟩
    · have := congrArg List.length h
      rw [edgeCells_length, List.length_nil] at this
      omega
    · cases e; exact hl
  · have e0 : (⟨b, off + i * 2, none⟩ : Addr).add j = ⟨b, off + i * 2 + j, none⟩ := by
      unfold Addr.add; split <;> simp_all
    have hj : j < m * 2 := by
      have := (List.getElem?_eq_some_iff.1 hu).1
      rw [edgeCells_length, List.length_take, List.length_drop] at this
      omega
    have hes : edgeCells es = edgeCells (es.take i) ++ (edgeCells ((es.drop i).take m) ++ edgeCells ((es.drop i).drop m)) := by
      rw [← edgeCells_app, List.take_append_drop, ← edgeCells_app, List.take_append_drop]
    have hli : (edgeCells (es.take i)).length = i * 2 := by rw [edgeCells_length, List.length_take]; omega
    have hu2 : (edgeCells es)[i * 2 + j]? = some u := by
      rw [hes, List.getElem?_append_right (by omega), hli, show i * 2 + j - i * 2 = j by omega, List.getElem?_append_left (by rw [edgeCells_length, List.length_take, List.length_drop]; omega)]
      exact hu
    obtain ⟨hlt, he⟩ := List.getElem?_eq_some_iff.1 hu2
    rcases h with h | ⟨b', o', e, _, hc⟩
    · have := congrArg List.length h
      rw [List.length_nil] at this
      omega
    · cases e
      rw [e0, ← he, ← hc _ hlt, Nat.add_assoc]
theorem edgeCells_one (es : List (Int × Int)) : ∀ u ∈ edgeCells es, u.oneCell' = true := by
  intro u hu
  unfold edgeCells at hu
  obtain ⟨e, _, h⟩ := List.mem_flatMap.1 hu
  rcases List.mem_cons.1 h with rfl | h
  · rfl
  · rw [List.mem_singleton.1 h]; rfl
theorem wrap_succ (k : Nat) (hk : k ≤ 16384) : IntKind.i64.wrap ((k : Int) + 1) = (k : Int) + 1 := by
  rw [IntKind.wrap_i64]
  omega
end Go.Proofs.Ytpdfcffeinbcaaa
/- Lean: the program's. -/
namespace Go.Proofs.Ytpdfcffeinbcaaa
open Go.RowKit Go.Shelf
attribute [local go_sem] Oper.semAt_some
/-- A boxed graph whose edges are appended to. -/
structure BoxE (hb : Nat) (N : Int) (l : List (Int × Int)) (v : Value) (W : World) : Prop where
  c0 : W.cell? ⟨hb, 0, none⟩ = some (.int .i64 N)
  c1 : W.cell? ⟨hb, 1, none⟩ = some v
  z : W.frozen? ⟨hb, 1, none⟩ = false
  own : W.ownsRow (hb + 1) 51 2 v l.length (edgeCells l)
theorem BoxE.next {hb : Nat} {N : Int} {l : List (Int × Int)} {v v1 : Value} {W w1 : World} {x y : Int} (h : BoxE hb N l v W) (ho : w1.ownsRow (hb + 1) 51 2 v1 (l.length + 1) (edgeCells l ++ [.int .i64 x, .int .i64 y])) (hg : W.grownBy w1 v.ownBlock) :
    BoxE hb N (l ++ [(x, y)]) v1 (w1.setCell ⟨hb, 1, none⟩ v1) := by
  have hl : hb < W.heap.size := World.block_lt_of_cell? W _ h.c0
  have hne : v.ownBlock ≠ some hb := fun e => by have := (h.own.lt hb e).1; omega
  have hb1 := hg.block hb hl (fun e => hne e.symm)
  refine ⟨?_, ?_, ?_, ?_⟩
  · rw [set_far _ _ _ _ _ (by omega)]; exact (World.cell?_of_block (a := ⟨hb, 0, none⟩) hb1).trans h.c0
  · exact set_here _ _ _ _ v ((World.cell?_of_block (a := ⟨hb, 1, none⟩) hb1).trans h.c1)
  · rw [World.frozen?_setCell, frozen_block (a := ⟨hb, 1, none⟩) hb1]; exact h.z
  · rw [edgeCells_snoc, List.length_append, List.length_singleton]
    exact own_low ho _ _ (by show hb < hb + 1; omega)
theorem BoxE.moves {hb : Nat} {N : Int} {l : List (Int × Int)} {v : Value} {W w1 : World} {M : List Nat} (h : BoxE hb N l v W) (hm : Moves M W w1) (h1 : hb ∉ M) (h2 : ∀ k, v.ownBlock = some k → k ∉ M) : BoxE hb N l v w1 := by
  have hl : hb < W.heap.size := World.block_lt_of_cell? W _ h.c0
  exact ⟨(hm.cell hl h1 0).trans h.c0, (hm.cell hl h1 1).trans h.c1, (hm.frozen hl h1 1).trans h.z, own_mv h.own hm h2⟩
def LeanPost (g : XG) (w : World) (e : Ending) (w' : World) : Prop := Below w.heap.size w w' ∧ ((ordE g ≠ 0 ∧ e = .returned (.tuple #[.agg #[.int .i64 0, .slice none 0 0], .int .i64 (ordE g)])) ∨ (ordE g = 0 ∧ ∃ X c, e = .returned (.tuple #[(leanG g).val X c, .int .i64 0]) ∧ GAt w' X (leanG g) ∧ (leanG g).es.length ≤ c ∧ c ≤ 9223372036854775807))
set_option maxHeartbeats 2000000 in
set_option maxRecDepth 100000 in
theorem lean_no (g : XG) (E : Option Addr) (d : Nat) (w : World) (h : GAt w E g) (hl : g.es.length ≤ 4611686018427387904) (hno : ordE g ≠ 0) :
    Calls Try.prog 31 #[g.val E d] w (LeanPost g w) := by
  have hor := fun W h => ordered_c g E d W h hl
  have hrb := rb_start w g E d (t := 24) (t' := 24)
  have hv : g.val E d = .agg #[.int .i64 g.n, .slice E g.es.length d] := rfl
  rw [hv] at hor ⊢
  have HOR := Lib.hid hor
  have HG := Lib.hid h
  obtain ⟨ke, hke⟩ : ∃ ke, ke = ordE g := ⟨_, rfl⟩
  have HKE := Lib.hid hke
  clear hor hv h hke
  go_enter Try.func31, Try.ntmps31
  obtain ⟨wB, hwB⟩ : ∃ wB, wB = (w.alloc (.cells #[.int .i64 g.n, .slice E g.es.length d] 24)).alloc (.cells #[.int .i64 0, .slice none 0 0] 24) := ⟨_, rfl⟩
  rw [← hwB] at hrb
  have c0 := hrb.c0
  have c1 := hrb.c1
  have HRB := Lib.hid hrb
  have HWB := Lib.hid hwB
  clear hrb hwB
  go_upto_region 1 with (fail)
  rw [← HWB.out]
  go_wp2_with fail
  go_at_call 56
  refine (HOR.out _ (HG.out.below HRB.out.bel)).mono ?_
  rintro e w1 ⟨vo, vl, rfl, ⟨Yl, ml, dl, rfl⟩, hb1, _, _⟩
  rw [← HKE.out]
  have hal : Below w1.heap.size w1 (w1.alloc (.cells #[.slice Yl ml dl] 45)) := (Below.refl _ _).alloc (Nat.le_refl _) _
  have hrb2 := (HRB.out.below hb1).below hal
  have r0 := hrb2.r0
  have r1 := hrb2.r1
  have rz := hrb2.rz 0
  have rz1 := hrb2.rz 1
  have hkb : (ke != 0) = true := by have := HKE.out; simpa [this] using hno
  have HP : Hid (LeanPost g w (.returned (.tuple #[.agg #[.int .i64 0, .slice none 0 0], .int .i64 ke])) (((w1.alloc (.cells #[.slice Yl ml dl] 45)).setCell ⟨w.heap.size + 1, 0, none⟩ (.int .i64 0)).setCell ⟨w.heap.size + 1, 1, none⟩ (.slice none 0 0))) := Lib.hid ⟨hrb2.wrote _ _, .inl ⟨hno, by rw [HKE.out]⟩⟩
  obtain ⟨f0, f1⟩ := hrb2.reads (.int .i64 0) (.slice none 0 0)
  clear hal hrb2 hb1 c0 c1 hno
  go_wp2
  refine bodyPost_ret (v := .tuple #[.agg #[.int .i64 0, .slice none 0 0], .int .i64 ke]) (by simp [results, Try.results31, go_sem, f0, f1]; try rfl) rfl ?_
  exact HP.out
end Go.Proofs.Ytpdfcffeinbcaaa
/- Lean: the program's: where it answers. -/
namespace Go.Proofs.Ytpdfcffeinbcaaa
open Go.RowKit Go.Shelf
attribute [local go_sem] Oper.semAt_some
theorem wrap_nw (n : Nat) (hn : n ≤ 4096) : IntKind.i64.wrap (IntKind.i64.wrap ((n : Int) / 64) + 1) = ((n / 64 + 1 : Nat) : Int) := by
  have h : IntKind.i64.wrap ((n : Int) / 64) = ((n / 64 : Nat) : Int) := by
    rw [IntKind.wrap_i64]
    omega
  rw [h, IntKind.wrap_i64]
  omega
set_option maxHeartbeats 4000000 in
set_option maxRecDepth 100000 in
theorem lean_yes (g : XG) (E : Option Addr) (d : Nat) (w : World) (h : GAt w E g) (hl : g.es.length ≤ 4611686018427387904) (hok : ordE g = 0) :
    Calls Try.prog 31 #[g.val E d] w (LeanPost g w) := by
  obtain ⟨hgood, hfull, hnoR⟩ := ordE_zero hok
  obtain ⟨n, hn⟩ : ∃ n : Nat, g.n = n := ⟨g.n.toNat, by have := hgood.n0; omega⟩
  have hnn : g.n.toNat = n := by omega
  have hn4 : n ≤ 4096 := by have := hgood.n1; omega
  have hback := back_order hgood hfull
  rw [hnn] at hfull hback
  have hor := fun W h => ordered_c g E d W h hl
  have hrb := rb_start w g E d (t := 24) (t' := 24)
  have hv : g.val E d = .agg #[.int .i64 g.n, .slice E g.es.length d] := rfl
  rw [hv, hn] at hor ⊢
  obtain ⟨wB, hwB⟩ : ∃ wB, wB = (w.alloc (.cells #[.int .i64 g.n, .slice E g.es.length d] 24)).alloc (.cells #[.int .i64 0, .slice none 0 0] 24) := ⟨_, rfl⟩
  rw [← hwB] at hrb
  rw [hn] at hwB
  have c0 := hrb.c0
  have c1 := hrb.c1
  rw [hn] at c0
  have HOR := Lib.hid hor
  have HG := Lib.hid h
  have HN := Lib.hid hn
  have HNN := Lib.hid hnn
  have HGD := Lib.hid hgood
  have HFULL := Lib.hid hfull
  have HNO := Lib.hid hnoR
  have HBACK := Lib.hid hback
  have HOK := Lib.hid hok
  have HRB := Lib.hid hrb
  have HWB := Lib.hid hwB
  clear hor hv h hn hnn hgood hfull hnoR hback hok hrb hwB
  refine (callsIn_wide (n := 9)).1 ?_
  refine callsIn_of_wp_marks Try.func31 rfl trivial ?_ rfl
  simp only [Try.ntmps31, List.size_toArray, List.length_cons, List.length_nil, Nat.reduceAdd, Nat.reduceSub, Array.replicate_succ, Array.replicate_zero, List.push_toArray, List.append_toArray, List.nil_append, List.cons_append]
  gi_wp2_with fail
  rw [← HWB.out]
  refine ⟨trivial, (callsIn_wide.2 (HOR.out _ (HG.out.below HRB.out.bel))).mono ?_⟩
  rintro e w3 ⟨vo, vl, rfl, ⟨Yl, ml, dl, rfl⟩, hb3, ho3, hnx3⟩
  rw [HOK.out]
  have hoL : ordL g = ordF (nxt g) n := by unfold ordL; rw [if_pos HOK.out, HNN.out]
  rw [hoL] at ho3
  have hnx := hnx3 HOK.out
  rw [HNN.out] at hnx
  obtain ⟨lb, ld, hvl, hlo, hlbw, hrows⟩ := hnx
  cases hvl
  obtain ⟨o, ho⟩ : ∃ o, o = ordF (nxt g) n := ⟨_, rfl⟩
  rw [← ho] at ho3
  obtain ⟨Xo, co, hvo, hro, _⟩ := own_rowS ho3
  subst hvo
  obtain ⟨lx, hlx⟩ : ∃ lx, lx = w3.heap.size := ⟨_, rfl⟩
  obtain ⟨w4, hw4⟩ : ∃ w4, w4 = w3.alloc (.cells #[.slice (some ⟨lb, 0, none⟩) n dl] 45) := ⟨_, rfl⟩
  have hrb4 := (HRB.out.below hb3).below (W' := w4) (by rw [hw4]; exact (Below.refl _ _).alloc (Nat.le_refl _) _)
  have HW4 := Lib.hid hw4
  have HLX := Lib.hid hlx
  have HB3 := Lib.hid hb3
  have HRO := Lib.hid hro
  have HROWS := Lib.hid hrows
  have HO := Lib.hid ho
  have HRB4 := Lib.hid hrb4
  have d0 := hrb4.c0
  rw [HN.out, hw4] at d0
  have hmk : ∀ W : World, (Instr.makeSlice 72 (.int .i64 (n : Int)) (.int .i64 (n : Int))).run Try.prog W = .ok (.slice (some ⟨W.heap.size, 0, none⟩) n n) (W.alloc (.cells (madeCells #[.slice none 0 0] n) 74)) :=
    fun W => run_make_row' 72 74 (.slice none 0 0) 24 (by rfl) (by rfl) rfl .i64 .i64 n (by omega) (by omega) W
  clear c0 c1 hb3 hro hrows ho hrb4 ho3 hnx3 hw4 hlx hoL
  gi_wp2_with fail
  rw [← HW4.out, ← HLX.out]
  clear hmk d0
  obtain ⟨nw, hnw⟩ : ∃ nw, nw = n / 64 + 1 := ⟨_, rfl⟩
  obtain ⟨w5, hw5⟩ : ∃ w5, w5 = w4.alloc (.cells (madeCells #[.slice none 0 0] n) 74) := ⟨_, rfl⟩
  obtain ⟨w6, hw6⟩ : ∃ w6, w6 = w5.alloc (.cells #[.slice (some ⟨(lx + 1), 0, none⟩) n n] 72) := ⟨_, rfl⟩
  have hz4 : w4.heap.size = (lx + 1) := by rw [HW4.out, al_size, HLX.out]
  have hz5 : w5.heap.size = (lx + 1 + 1) := by rw [hw5, al_size, hz4]
  have hz6 : w6.heap.size = (lx + 1 + 1) + 1 := by rw [hw6, al_size, hz5]
  have hb45 : Below w4.heap.size w4 w5 := by rw [hw5]; exact (Below.refl _ _).alloc (Nat.le_refl _) _
  have hb56 : Below w5.heap.size w5 w6 := by rw [hw6]; exact (Below.refl _ _).alloc (Nat.le_refl _) _
  have hb46 : Below w4.heap.size w4 w6 := hb45.trans (hb56.mono hb45.size)
  have hc6 : w6.cell? ⟨(lx + 1 + 1), 0, none⟩ = some (.slice (some ⟨(lx + 1), 0, none⟩) n n) := by rw [hw6, ← hz5, cell_new]; rfl
  have hlx4 : w4.cell? ⟨lx, 0, none⟩ = some (.slice (some ⟨lb, 0, none⟩) n dl) := by rw [HW4.out, HLX.out, cell_new]; rfl
  have hfar6 : FarAt g w6 (lx + 1) n nw (lx + 1) [] := by
    refine ⟨fun v hv => ?_, fun v hv hp => (by cases hp)⟩
    refine ⟨⟨.slice none 0 0, ?_⟩, ?_⟩
    · rw [hb56.cell (p := ⟨(lx + 1), v, none⟩) (by show (lx + 1) < w5.heap.size; omega), hw5, ← hz4, cell_new, ← Array.getElem?_toList, toList_madeCells_one]
      simp [hv]
    · rw [hb56.frozen (p := ⟨(lx + 1), v, none⟩) (by show (lx + 1) < w5.heap.size; omega), hw5, ← hz4]
      exact frozen_new _ _ _ _
  have HW5 := Lib.hid hw5
  have HW6 := Lib.hid hw6
  have HZ6 := Lib.hid hz6
  have HZ4 := Lib.hid hz4
  have HB46 := Lib.hid hb46
  have HC6 := Lib.hid hc6
  have HLX4 := Lib.hid hlx4
  have HFAR6 := Lib.hid hfar6
  have HNW := Lib.hid hnw
  rw [← hw5, ← hw6]
  clear hz5 hb45 hb56 hb46 hc6 hlx4 hfar6 hw5 hw6 hz4 hz6
  refine ⟨trivial, (callsIn_wide.2 (backward_c Xo o.length co w6)).mono ?_⟩
  rintro e w7 ⟨rfl, hc7, hz7, hb7⟩
  have hz67 : w6.heap.size ≤ w7.heap.size := Nat.le_of_lt hz7
  have hz6 := HZ6.out
  have hb47 : Below w4.heap.size w4 w7 := HB46.out.trans (hb7.mono HB46.out.size)
  have hallb : ∀ W, Moves [(lx + 1)] w7 W → Below w4.heap.size w4 W := fun W hm => hb47.trans (hm.below hb47.size (fun k hk => by simp at hk; subst hk; have := HZ4.out; omega))
  have hfar7 : FarAt g w7 (lx + 1) n nw (lx + 1) [] := HFAR6.out.moves (Moves.of_new [] hb7) (by simp) (by simp)
  have hfxc : ∀ W, Moves [(lx + 1)] w7 W → W.cell? ⟨(lx + 1 + 1), 0, none⟩ = some (.slice (some ⟨(lx + 1), 0, none⟩) n n) := fun W hm => ((hm.cell (by omega) (by simp) 0).trans (hb7.cell (p := ⟨(lx + 1 + 1), 0, none⟩) (by show (lx + 1 + 1) < w6.heap.size; omega))).trans HC6.out
  have hlft : ∀ W, Below w4.heap.size w4 W → W.cell? ⟨lx, 0, none⟩ = some (.slice (some ⟨lb, 0, none⟩) n dl) ∧ RB w W g E d ∧ RowAt W Xo (I o) ∧ (∀ v : Nat, v < n → ∃ Y dY, W.cell? ⟨lb, v, none⟩ = some (.slice Y (nxt g v).length dY) ∧ RowAt W Y (I (nxt g v))) := fun W hb => by
    have h34 : Below w3.heap.size w3 w4 := by rw [HW4.out]; exact (Below.refl _ _).alloc (Nat.le_refl _) _
    have h3 : Below w3.heap.size w3 W := h34.trans (hb.mono h34.size)
    refine ⟨(hb.cell (p := ⟨lx, 0, none⟩) (by show lx < _; have := HZ4.out; omega)).trans HLX4.out, HRB4.out.below hb, HRO.out.below h3, fun v hv => ?_⟩
    obtain ⟨Y, dY, hcY, hrY, _⟩ := HROWS.out v hv
    exact ⟨Y, dY, (h3.cell (p := ⟨lb, v, none⟩) hlbw).trans hcY, hrY.below h3⟩
  have hol : o.length = n := by have := HFULL.out; rw [← HO.out] at this; exact this
  have HALLB := Lib.hid hallb
  have HFAR7 := Lib.hid hfar7
  have HFXC := Lib.hid hfxc
  have HLFT := Lib.hid hlft
  have HC7 := Lib.hid hc7
  have HOL := Lib.hid hol
  have HHZ := Lib.hid hz7
  clear hallb hfar7 hfxc hlft hc7 hol hb47 hb7 hz6 hz67
  gi_wp2_with fail
  refine range_backC (by omega) rfl rfl (by rw [HOL.out]; omega) (fun m W => Moves [(lx + 1)] w7 W ∧ ∃ B, B ≤ W.heap.size ∧ FarAt g W (lx + 1) n nw B (o.reverse.take (o.length - m)))
    (fun m x TT => ((TT.setIfInBounds 34 (Value.int .i64 (m : Int))).setIfInBounds 35 (Value.int .i64 x)).setIfInBounds 9 (Value.int .i64 x)) (B := w6.heap.size) (c := co) (X := Xo) (o := o) ?hInv ?hK ?hassign ?hbody ?h0 ?hdone
  case hInv =>
    rintro m W ⟨hm, _⟩
    exact ⟨(hm.cell (by have := HHZ.out; omega) (by simp; have := HZ6.out; omega) 0).trans HC7.out, (HLFT.out W (HALLB.out W hm)).2.2.1⟩
  case hK =>
    rintro m A B' row ⟨h1, B, hB, h2⟩ hg hr
    have hm := Moves.of_grown (M := row.toList) hg (by intro k e; simp [e])
    exact ⟨h1.onto hm (fun k hk => .inr (hr k (by simpa using hk)).1), B, Nat.le_trans hB hg.size, h2.grown (by omega) hg (fun r e => (hr r e).2)⟩
  case hassign =>
    intro l m hm W K' hk hK'
    obtain ⟨x, hx⟩ : ∃ x, x = o[m] := ⟨_, rfl⟩
    rw [← hx] at hK' ⊢
    clear hx hk
    gi_wp2
    refine hK' _ _ (Below.refl _ _) ?_
    rfl
  case h0 => exact ⟨Moves.refl _ _, (lx + 1), by have := HHZ.out; have := HZ6.out; omega, by rw [Nat.sub_self, List.take_zero]; exact HFAR7.out⟩
  case hbody =>
    rintro l m hm W ⟨hmv, B, hB, hfar⟩
    simp only [List.setIfInBounds_toArray, List.set_cons_succ, List.set_cons_zero]
    obtain ⟨p1, hp1⟩ : ∃ p1, p1 = o.reverse.take (o.length - (m + 1)) := ⟨_, rfl⟩
    have hnext : o.reverse.take (o.length - m) = p1 ++ [o[m]] := by
      rw [show o.length - m = (o.length - (m + 1)) + 1 by omega, List.take_succ_eq_append_getElem (by rw [List.length_reverse]; omega), hp1, List.getElem_reverse]
      congr 3
      omega
    have hback := HBACK.out
    rw [← HO.out] at hback
    have hrv : ∀ (hk : o.length - (m + 1) < o.reverse.length), o.reverse[o.length - (m + 1)] = o[m] := fun hk => by
      rw [List.getElem_reverse]
      have e : o.length - 1 - (o.length - (m + 1)) = m := by omega
      simp only [e]
    have hkr : o.length - (m + 1) < o.reverse.length := by rw [List.length_reverse]; omega
    have hvp : o[m] ∉ p1 := by
      have := nodup_take hback.nod (m := o.length - (m + 1)) hkr
      rw [hrv hkr, ← hp1] at this
      exact this
    have hahead : ∀ x ∈ nxt g o[m], x ∈ p1 := fun x hx => by
      rw [hp1]
      exact hback.ahead _ hkr x (by rw [hrv hkr]; exact hx)
    have hvr : 0 ≤ o[m] ∧ o[m] < (n : Int) := (ord_begun (nxt g) n).rng o[m] (by rw [← HO.out]; exact List.getElem_mem hm)
    rw [← hp1] at hfar
    rw [hnext]
    obtain ⟨v, hv⟩ : ∃ v : Nat, o[m] = (v : Int) := ⟨o[m].toNat, by omega⟩
    rw [hv] at hvp hvr hahead ⊢
    have hvn : v < n := by omega
    have hv0 : (0 : Int) ≤ (v : Int) := by omega
    have hv1 : (v : Int) < (n : Int) := by omega
    have hTz : (lx + 1) < w7.heap.size := by have := HHZ.out; have := HZ6.out; omega
    have hwz : w7.heap.size ≤ W.heap.size := hmv.2.2.2.1
    obtain ⟨nb, hnb⟩ : ∃ nb, nb = W.heap.size := ⟨_, rfl⟩
    obtain ⟨W0, hW0⟩ : ∃ W0, W0 = W.drew.alloc (.cells (madeCells #[.int .u64 0] nw) 53) := ⟨_, rfl⟩
    obtain ⟨W1, hW1⟩ : ∃ W1, W1 = W0.setCell ⟨(lx + 1), v, none⟩ (.slice (some ⟨nb, 0, none⟩) nw nw) := ⟨_, rfl⟩
    have hb0 : Below W.heap.size W W0 := by rw [hW0]; exact ((Below.refl _ W).drew).alloc (Nat.le_refl _) _
    have hm0 : Moves [(lx + 1)] W0 W1 := by rw [hW1]; exact Moves.set W0 ⟨(lx + 1), v, none⟩ _ (by simp)
    have hm1 : Moves [(lx + 1)] W W1 := (Moves.of_new _ hb0).trans hm0
    have hTnb : (lx + 1) ≠ nb := by omega
    have hfar1 : FarAt g W1 (lx + 1) n nw nb p1 := by
      rw [hW1]
      exact FarAt.put ((hfar.up (by omega : B ≤ nb)).moves (Moves.of_new [] hb0) (by simp) (by simp)) hvn hvp _
    have hwd1 : WordAt W1 nb nw (fun _ => 0) := by
      refine WordAt.moves ?_ hm0 (by simp; omega)
      rw [hW0, hnb]
      exact word_made W.drew nw _
    have hcv1 : W1.cell? ⟨(lx + 1), v, none⟩ = some (.slice (some ⟨nb, 0, none⟩) nw nw) := by
      obtain ⟨⟨u, hu⟩, _⟩ := hfar.t v hvn
      rw [hW1]
      exact set_here _ _ _ _ u ((hb0.cell (p := ⟨(lx + 1), v, none⟩) (by show (lx + 1) < _; omega)).trans hu)
    have hfz : W.frozen? ⟨(lx + 1), v, none⟩ = false := (hfar.t v hvn).2
    have hfz0 : W0.frozen? ⟨(lx + 1), v, none⟩ = false := (hb0.frozen (p := ⟨(lx + 1), v, none⟩) (by show (lx + 1) < _; omega)).trans hfz
    obtain ⟨⟨u0, hu0⟩, _⟩ := hfar.t v hvn
    have hs0 : W0.cell? ⟨lx + 1, v, none⟩ = some u0 := (hb0.cell (p := ⟨(lx + 1), v, none⟩) (by show (lx + 1) < _; omega)).trans hu0
    have hs1 := hfz0
    rw [hW0] at hs0 hs1
    replace hs0 : (W.alloc (.cells (madeCells #[.int .u64 0] nw) 53)).cell? ⟨lx + 1, v, none⟩ = some u0 := hs0
    replace hs1 : (W.alloc (.cells (madeCells #[.int .u64 0] nw) 53)).frozen? ⟨lx + 1, v, none⟩ = false := hs1
    have hm71 : Moves [(lx + 1)] w7 W1 := hmv.trans hm1
    have k1 := HFXC.out W hmv
    obtain ⟨_, hrbW, _, _⟩ := HLFT.out W (HALLB.out W hmv)
    have k2 := hrbW.c0
    rw [HN.out] at k2
    have hmk : ∀ W : World, (Instr.makeSlice 74 (.int .i64 (IntKind.i64.wrap (IntKind.i64.wrap ((n : Int) / 64) + 1))) (.int .i64 (IntKind.i64.wrap (IntKind.i64.wrap ((n : Int) / 64) + 1)))).run Try.prog W = .ok (.slice (some ⟨W.heap.size, 0, none⟩) nw nw) (W.alloc (.cells (madeCells #[.int .u64 0] nw) 53)) :=
      fun W => by rw [wrap_nw n hn4, ← hnw]; exact run_make_row' 74 53 (.int .u64 0) 8 Try.underlying74 (by rfl) rfl .i64 .i64 nw (by omega) (by omega) W
    obtain ⟨l, hl'⟩ : ∃ l, l = nxt g v := ⟨_, rfl⟩
    have hns : (v : Int) ∉ l := by rw [hl']; exact no_self HNO.out v
    have hll : l.length ≤ 16384 := by rw [hl']; have := nxt_length g v; have := HGD.out.len; omega
    have hlr : ∀ y ∈ l, 0 ≤ y ∧ y < (n : Int) := fun y hy => by rw [hl'] at hy; exact nxt_inN HGD.out HN.out v y hy
    rw [← hl'] at hahead
    have hzf : lx + 1 + 1 < W.heap.size := by have := HHZ.out; have := HZ6.out; omega
    have hzb : w.heap.size < W.heap.size := by have := hrbW.lt; omega
    clear hnw
    gi_wp2_with fail
    -- begin ra
    refine region_in_roundL 8 (fun w' => w'.cell? ⟨(lx + 1 + 1), 0, none⟩ = some (.slice (some ⟨(lx + 1), 0, none⟩) n n) ∧ w'.cell? ⟨w.heap.size, 0, none⟩ = some (.int .i64 (n : Int))) (by kernel_rfl) (by kernel_rfl) ?raxno ?raxsq (fun hHeld => ?raxr)
    case raxno =>
      rintro ⟨a, w, h⟩
      exact absurd h.1 (by simp)
    case raxsq => exact ⟨k1, k2⟩
    refine takeL (i := 0) (d := 36) (v := ?raxv0) rfl (by rfl) (by kernel_rfl) (by kernel_rfl) (by kernel_rfl) (by kernel_rfl) (by rfl) (fun _ _ _ h => h) (Or.inl ⟨by rfl, ?raxy0⟩) (by assumption) ?raxr0
    case raxy0 => intro w' hSw; obtain ⟨q1, q2⟩ := hSw; go_simp; (try with_reducible rfl)
    case' raxr0 => simp only [Act.put, List.setIfInBounds_toArray, List.set_cons_zero, List.set_cons_succ]
    refine takeL (i := 1) (d := 37) (v := ?raxv1) rfl (by rfl) (by kernel_rfl) (by kernel_rfl) (by kernel_rfl) (by kernel_rfl) (by rfl) (fun _ _ _ h => h) (Or.inl ⟨by rfl, ?raxy1⟩) (by assumption) ?raxr1
    case raxy1 => intro w' hSw; obtain ⟨q1, q2⟩ := hSw; go_simp; (try with_reducible rfl)
    case' raxr1 => simp only [Act.put, List.setIfInBounds_toArray, List.set_cons_zero, List.set_cons_succ]
    refine takeL (i := 2) (d := 38) (v := ?raxv2) rfl (by rfl) (by kernel_rfl) (by kernel_rfl) (by kernel_rfl) (by kernel_rfl) (by rfl) (fun _ _ _ h => h) (Or.inl ⟨by rfl, ?raxy2⟩) (by assumption) ?raxr2
    case raxy2 => intro w' hSw; obtain ⟨q1, q2⟩ := hSw; go_simp; (try with_reducible rfl)
    case' raxr2 => simp only [Act.put, List.setIfInBounds_toArray, List.set_cons_zero, List.set_cons_succ]
    refine takeL (i := 3) (d := 39) (v := ?raxv3) rfl (by rfl) (by kernel_rfl) (by kernel_rfl) (by kernel_rfl) (by kernel_rfl) (by rfl) (fun _ _ _ h => h) (Or.inl ⟨by rfl, ?raxy3⟩) (by assumption) ?raxr3
    case raxy3 => intro w' hSw; obtain ⟨q1, q2⟩ := hSw; go_simp; (try with_reducible rfl)
    case' raxr3 => simp only [Act.put, List.setIfInBounds_toArray, List.set_cons_zero, List.set_cons_succ]
    refine takeL (i := 4) (d := 40) (v := ?raxv4) rfl (by rfl) (by kernel_rfl) (by kernel_rfl) (by kernel_rfl) (by kernel_rfl) (by rfl) (fun _ _ _ h => h) (Or.inl ⟨by rfl, ?raxy4⟩) (by assumption) ?raxr4
    case raxy4 => intro w' hSw; obtain ⟨q1, q2⟩ := hSw; go_simp; (try with_reducible rfl)
    case' raxr4 => simp only [Act.put, List.setIfInBounds_toArray, List.set_cons_zero, List.set_cons_succ]
    refine takeL (i := 5) (d := 41) (v := ?raxv5) rfl (by rfl) (by kernel_rfl) (by kernel_rfl) (by kernel_rfl) (by kernel_rfl) (by rfl) (fun _ _ _ h => h) (Or.inl ⟨by rfl, ?raxy5⟩) (by assumption) ?raxr5
    case raxy5 => intro w' hSw; obtain ⟨q1, q2⟩ := hSw; go_simp; (try with_reducible rfl)
    case' raxr5 => simp only [Act.put, List.setIfInBounds_toArray, List.set_cons_zero, List.set_cons_succ]
    refine stepL (i := 6) (by kernel_rfl) rfl (fun K hK => ?raxb6)
    go_simp
    refine hK.out _ _ ?raxh6 (fun hHeld => ?raxr6)
    case raxh6 => exact ⟨(World.cell?_alloc_lt _ _ _ (by show lx + 1 + 1 < W.heap.size; omega)).trans k1, (World.cell?_alloc_lt _ _ _ (by show w.heap.size < W.heap.size; omega)).trans k2⟩
    case' raxr6 => (clear hK K; try simp only [Act.put, List.setIfInBounds_toArray, List.set_cons_zero, List.set_cons_succ])
    refine takeL (i := 7) (d := 43) (v := ?raxv7) rfl (by rfl) (by kernel_rfl) (by kernel_rfl) (by kernel_rfl) (by kernel_rfl) (by rfl) (fun _ _ _ h => h) (Or.inl ⟨by rfl, ?raxy7⟩) (by assumption) ?raxr7
    case raxy7 => intro w' hSw; obtain ⟨q1, q2⟩ := hSw; go_simp; (try with_reducible rfl)
    case' raxr7 => simp only [Act.put, List.setIfInBounds_toArray, List.set_cons_zero, List.set_cons_succ]
    refine lastL (by kernel_rfl) rfl (by kernel_rfl) (fun K hK => ?raxb8)
    go_simp
    refine hK.out _ _ ?raxz
    -- end ra
    have hWq : ((W.alloc (.cells (madeCells #[.int .u64 0] nw) 53)).setCell ⟨lx + 1, v, none⟩ (.slice (some ⟨W.heap.size, 0, none⟩) nw nw)).drew = W1 := by rw [hW1, hW0, hnb]; rfl
    rw [hWq]
    subst hnb
    have HCV1 := Lib.hid hcv1
    have HFAR1 := Lib.hid hfar1
    have HWD1 := Lib.hid hwd1
    have HM71 := Lib.hid hm71
    have HM1 := Lib.hid hm1
    have HNS := Lib.hid hns
    have HLR := Lib.hid hlr
    have HAH := Lib.hid hahead
    have HL' := Lib.hid hl'
    have HFW := Lib.hid hfar
    have hnb1 : W.heap.size < W1.heap.size := hwd1.1
    have HNB1 := Lib.hid hnb1
    obtain ⟨Y, dY, hcY3, hrY3, _⟩ := HROWS.out v hvn
    rw [← hl'] at hcY3 hrY3
    have hrw : ∀ wr, Moves [lx + 1] w7 wr → wr.cell? ⟨lx, 0, none⟩ = some (.slice (some ⟨lb, 0, none⟩) n dl) ∧ wr.cell? ⟨lb, v, none⟩ = some (.slice Y l.length dY) ∧ RowAt wr Y (I l) := fun wr hm => by
      have hb := HALLB.out wr hm
      have h34 : Below w3.heap.size w3 w4 := by rw [HW4.out]; exact (Below.refl _ _).alloc (Nat.le_refl _) _
      have h3 : Below w3.heap.size w3 wr := h34.trans (hb.mono h34.size)
      exact ⟨(HLFT.out wr hb).1, (h3.cell (p := ⟨lb, v, none⟩) hlbw).trans hcY3, hrY3.below h3⟩
    obtain ⟨hlx1, hcY, _⟩ := hrw W1 hm71
    have HRW := Lib.hid hrw
    clear hWq hK hHeld hW0 hW1 hb0 hm0 hm1 hfar1 hwd1 hcv1 hfz hfz0 hs0 hs1 hm71 k1 k2 hmk hns hlr hahead hl' hfar hp1 hnext hback hrv hkr hvp hvr hu0 hrbW hrw hcY3 hrY3 hv
    gi_wp2
    gi_loopw [49] (fun i wr => ∃ (j : Nat) (f : Nat → Nat), i = .int .i64 j ∧ j ≤ l.length ∧ Moves [W.heap.size] W1 wr ∧ WordAt wr W.heap.size nw f ∧ FarBits g True (l.take j) n f) (fun i _ => l.length - (intOf i).toNat)
    case atStart => exact ⟨0, _, rfl, by omega, Moves.refl _ _, HWD1.out, bits_nil _ _ _⟩
    case round =>
      obtain ⟨j, f, rfl, hj, hmr, hwd, hbits⟩ := hrel
      have hm7 : Moves [lx + 1] w7 wr := HM71.out.onto hmr (fun k hk => by simp at hk; subst hk; omega)
      by_cases hlj : j < l.length
      · have hj0 : (0 : Int) ≤ (j : Int) := by omega
        have hj1 : (j : Int) < (l.length : Int) := by omega
        have k1 := HFXC.out wr hm7
        have hT1 : lx + 1 < W1.heap.size := by omega
        have kv : wr.cell? ⟨lx + 1, v, none⟩ = some (.slice (some ⟨W.heap.size, 0, none⟩) nw nw) := (hmr.cell hT1 (by simp; omega) v).trans HCV1.out
        obtain ⟨_, _, hrY⟩ := HRW.out wr hm7
        obtain ⟨b, off, rfl, hcj⟩ := hrY.int hlj
        have hsn := List.take_succ_eq_append_getElem hlj
        have hur := HLR.out _ (List.getElem_mem hlj)
        have hup := HAH.out _ (List.getElem_mem hlj)
        obtain ⟨u, hu⟩ : ∃ u : Nat, l[j] = (u : Int) := ⟨l[j].toNat, by omega⟩
        rw [hu] at hcj hur hup hsn
        have hun : u < n := by omega
        have hu0 : (0 : Int) ≤ (u : Int) := by omega
        have hu1 : (u : Int) < (n : Int) := by omega
        have hfw : FarAt g wr (lx + 1) n nw W.heap.size p1 := HFAR1.out.moves hmr (by simp; omega) (by simp)
        obtain ⟨b2, c2, f2, hcu, hb2T, hb2B, hw2, hbits2⟩ := hfw.r u hun hup
        have hput := put_bits (c := nw) (B := 0) hwd (Nat.zero_le _) (show u / 64 < nw by have := HNW.out; omega) (by omega)
        have HPUT := Lib.hid hput
        have HBITS := Lib.hid hbits
        have HBITS2 := Lib.hid hbits2
        have HMR := Lib.hid hmr
        have HSN := Lib.hid hsn
        have HW2 := Lib.hid hw2
        have KV := Lib.hid kv
        have K1 := Lib.hid k1
        have KU := Lib.hid hcu
        clear hput hbits hbits2 hmr hsn hw2 hfw hwd hur hup hu hrY
        gi_wp2_with fail
        refine ⟨trivial, (CallsIn.inRound _ (callsIn_wide.2 HPUT.out)).mono ?_⟩
        rintro e w2 ⟨rfl, hwd2, _, hm2, _⟩
        have hl1 : lx + 1 < wr.heap.size := by have := HMR.out.2.2.2.1; omega
        have hl2 : lx + 1 + 1 < wr.heap.size := by have := HMR.out.2.2.2.1; omega
        have p1c := (hm2.cell hl2 (by simp; omega) 0).trans K1.out
        have p2c := (hm2.cell hl1 (by simp; omega) v).trans KV.out
        have p3c := (hm2.cell hl1 (by simp; omega) u).trans KU.out
        have hjn := join_bits (w := w2.drew) (c := nw) (c2 := c2) (B := 0) (hwd2.drewN 1) ((HW2.out.moves hm2 (by simp; omega)).drewN 1) (Nat.zero_le _) (by omega) (by have := HNW.out; omega)
        have HJN := Lib.hid hjn
        have hl1' : lx + 1 < w2.drew.heap.size := by have := hm2.2.2.2.1; show lx + 1 < w2.heap.size; omega
        have hl2' : lx + 1 + 1 < w2.drew.heap.size := by have := hm2.2.2.2.1; show lx + 1 + 1 < w2.heap.size; omega
        have HM2 := Lib.hid hm2
        clear hjn hm2 hwd2 k1 kv hcu hcj hlx1 hcY
        gi_wp2_with fail
        -- begin rb
        refine region_in_round 9 (by rfl) (fun w' => w'.cell? ⟨lx + 1 + 1, 0, none⟩ = some (.slice (some ⟨lx + 1, 0, none⟩) n n) ∧ w'.cell? ⟨lx + 1, v, none⟩ = some (.slice (some ⟨W.heap.size, 0, none⟩) nw nw) ∧ w'.cell? ⟨lx + 1, u, none⟩ = some (.slice (some ⟨b2, 0, none⟩) nw c2)) (by kernel_rfl) (by kernel_rfl) ?rbxno ?rbxsq (fun hHeld => ?rbxr)
        case rbxno =>
          rintro ⟨a, w, h⟩
          exact absurd h.1 (by simp)
        case rbxsq => exact ⟨p1c, p2c, p3c⟩
        refine take_at (i := 0) (d := 59) (v := ?rbxv0) rfl (by rfl) (by kernel_rfl) (by kernel_rfl) (by kernel_rfl) (fun _ _ _ h => h) (Or.inl ⟨by rfl, ?rbxy0⟩) (by assumption) ?rbxr0
        case rbxy0 => intro w' hSw; obtain ⟨q1, q2, q3⟩ := hSw; go_simp; (try with_reducible rfl)
        case' rbxr0 => simp only [Act.put, List.setIfInBounds_toArray, List.set_cons_zero, List.set_cons_succ]
        refine take_at (i := 1) (d := 60) (v := ?rbxv1) rfl (by rfl) (by kernel_rfl) (by kernel_rfl) (by kernel_rfl) (fun _ _ _ h => h) (Or.inl ⟨by rfl, ?rbxy1⟩) (by assumption) ?rbxr1
        case rbxy1 => intro w' hSw; obtain ⟨q1, q2, q3⟩ := hSw; go_simp; (try with_reducible rfl)
        case' rbxr1 => simp only [Act.put, List.setIfInBounds_toArray, List.set_cons_zero, List.set_cons_succ]
        refine take_at (i := 2) (d := 61) (v := ?rbxv2) rfl (by rfl) (by kernel_rfl) (by kernel_rfl) (by kernel_rfl) (fun _ _ _ h => h) (Or.inl ⟨by rfl, ?rbxy2⟩) (by assumption) ?rbxr2
        case rbxy2 => intro w' hSw; obtain ⟨q1, q2, q3⟩ := hSw; go_simp; (try with_reducible rfl)
        case' rbxr2 => simp only [Act.put, List.setIfInBounds_toArray, List.set_cons_zero, List.set_cons_succ]
        refine take_at (i := 3) (d := 62) (v := ?rbxv3) rfl (by rfl) (by kernel_rfl) (by kernel_rfl) (by kernel_rfl) (fun _ _ _ h => h) (Or.inl ⟨by rfl, ?rbxy3⟩) (by assumption) ?rbxr3
        case rbxy3 => intro w' hSw; obtain ⟨q1, q2, q3⟩ := hSw; go_simp; (try with_reducible rfl)
        case' rbxr3 => simp only [Act.put, List.setIfInBounds_toArray, List.set_cons_zero, List.set_cons_succ]
        refine take_at (i := 4) (d := 63) (v := ?rbxv4) rfl (by rfl) (by kernel_rfl) (by kernel_rfl) (by kernel_rfl) (fun _ _ _ h => h) (Or.inl ⟨by rfl, ?rbxy4⟩) (by assumption) ?rbxr4
        case rbxy4 => intro w' hSw; obtain ⟨q1, q2, q3⟩ := hSw; go_simp; (try with_reducible rfl)
        case' rbxr4 => simp only [Act.put, List.setIfInBounds_toArray, List.set_cons_zero, List.set_cons_succ]
        refine take_at (i := 5) (d := 64) (v := ?rbxv5) rfl (by rfl) (by kernel_rfl) (by kernel_rfl) (by kernel_rfl) (fun _ _ _ h => h) (Or.inl ⟨by rfl, ?rbxy5⟩) (by assumption) ?rbxr5
        case rbxy5 => intro w' hSw; obtain ⟨q1, q2, q3⟩ := hSw; go_simp; (try with_reducible rfl)
        case' rbxr5 => simp only [Act.put, List.setIfInBounds_toArray, List.set_cons_zero, List.set_cons_succ]
        refine take_at (i := 6) (d := 65) (v := ?rbxv6) rfl (by rfl) (by kernel_rfl) (by kernel_rfl) (by kernel_rfl) (fun _ _ _ h => h) (Or.inl ⟨by rfl, ?rbxy6⟩) (by assumption) ?rbxr6
        case rbxy6 => intro w' hSw; obtain ⟨q1, q2, q3⟩ := hSw; go_simp; (try with_reducible rfl)
        case' rbxr6 => simp only [Act.put, List.setIfInBounds_toArray, List.set_cons_zero, List.set_cons_succ]
        refine take_at (i := 7) (d := 66) (v := ?rbxv7) rfl (by rfl) (by kernel_rfl) (by kernel_rfl) (by kernel_rfl) (fun _ _ _ h => h) (Or.inl ⟨by rfl, ?rbxy7⟩) (by assumption) ?rbxr7
        case rbxy7 => intro w' hSw; obtain ⟨q1, q2, q3⟩ := hSw; go_simp; (try with_reducible rfl)
        case' rbxr7 => simp only [Act.put, List.setIfInBounds_toArray, List.set_cons_zero, List.set_cons_succ]
        refine wpAnyH_ready (rs := [8]) (by kernel_rfl) (by simp) ?rbxc8
        refine AllReadyH.cons rfl (fun K hK => ?rbxb8) AllReadyH.nil
        go_simp
        go_at_call 64; refine HJN.out.mono ?_; rintro e w9 ⟨rfl, hwd9, _, hm9, _⟩
        refine hK.out _ _ ?rbxh8 (fun hHeld => ?rbxr8)
        case rbxh8 => exact ⟨(hm9.cell hl2' (by simp; omega) 0).trans p1c, (hm9.cell hl1' (by simp; omega) v).trans p2c, (hm9.cell hl1' (by simp; omega) u).trans p3c⟩
        case' rbxr8 => (clear hK K; try simp only [Act.put, List.setIfInBounds_toArray, List.set_cons_zero, List.set_cons_succ])
        refine wpAnyH_done (by kernel_rfl) ?rbxz _
        -- end rb
        have hdr : Moves [W.heap.size] w2 w2.drew := Moves.of_new _ ((Below.refl _ _).drew)
        have HM9 := Lib.hid (HMR.out.trans (HM2.out.trans (hdr.trans hm9)))
        have HW9 := Lib.hid hwd9
        have HB9 : Hid (FarBits g True (l.take (j + 1)) n (joinW (putW f u) f2)) := Lib.hid (by rw [HSN.out]; exact bit_far HBITS.out HBITS2.out)
        clear hdr hm9 hwd9 p1c p2c p3c hHeld hm7
        gi_wp2
        go_roundw
        case rel => exact ⟨j + 1, _, by go_num, by omega, HM9.out, HW9.out, HB9.out⟩
        case measure => simp [intOf]; omega
      · have hge : ¬ (j : Int) < (l.length : Int) := by omega
        rw [List.take_of_length_le (by omega)] at hbits
        have hT1 : lx + 1 < W1.heap.size := by omega
        have kv : wr.cell? ⟨lx + 1, v, none⟩ = some (.slice (some ⟨W.heap.size, 0, none⟩) nw nw) := (hmr.cell hT1 (by simp; omega) v).trans HCV1.out
        have hfw : FarAt g wr (lx + 1) n nw W.heap.size p1 := HFAR1.out.moves hmr (by simp; omega) (by simp)
        have hfin := hfw.snoc kv (by omega) (Nat.le_refl _) hwd (fun x hx => by
          have := hbits x hx
          rw [HL'.out] at this
          exact this.trans farTo_all)
        have hmW : Moves [lx + 1] W wr := HM1.out.onto hmr (fun k hk => .inr (by simp at hk; omega))
        have hsz : W.heap.size + 1 ≤ wr.heap.size := by have := HNB1.out; have := hmr.2.2.2.1; omega
        have HFIN := Lib.hid hfin
        have HM7 := Lib.hid hm7
        have HBL := Lib.hid (hmW.below (B := 0) (Nat.zero_le _) (fun k _ => Nat.zero_le _))
        have HRS : Hid (Rest w7.heap.size W wr) := Lib.hid fun i o hi hh hc => (hmW.2.2.2.2 i (Array.getElem?_eq_some_iff.1 hh).1 (by simp; omega)).trans hh
        clear hbits kv hfw hfin hmW hmr hwd hm7 hlx1 hcY
        gi_wp2
        exact ⟨⟨HM7.out, _, hsz, HFIN.out⟩, HBL.out, HRS.out⟩
  case hdone =>
    intro D W hD hkd hdef
    obtain ⟨hmv, B, hB, hfar⟩ := hkd
    rw [Nat.sub_zero, show o.length = o.reverse.length by simp, List.take_length] at hfar
    have hmem : ∀ u : Nat, u < n → (u : Int) ∈ o.reverse := fun u hu => by
      rw [List.mem_reverse, HO.out]
      have := ord_all (g := g) (by rw [HNN.out]; exact HFULL.out) (x := (u : Int)) (by rw [HNN.out]; omega)
      rwa [HNN.out] at this
    have hbW := HALLB.out W hmv
    have hwz : w7.heap.size ≤ W.heap.size := hmv.2.2.2.1
    have hz7' := HHZ.out
    have hz6' := HZ6.out
    have hz4' := HZ4.out
    have hlf : ∀ wr, Below W.heap.size W wr → wr.cell? ⟨lx + 1 + 1, 0, none⟩ = some (.slice (some ⟨lx + 1, 0, none⟩) n n) ∧ wr.cell? ⟨lx, 0, none⟩ = some (.slice (some ⟨lb, 0, none⟩) n dl) ∧ wr.cell? ⟨w.heap.size, 0, none⟩ = some (.int .i64 (n : Int)) ∧ RB w wr g E d ∧
        (∀ (v : Nat) (Y : Option Addr) (dY : Nat) (xs : List Int), v < n → w3.cell? ⟨lb, v, none⟩ = some (.slice Y xs.length dY) → RowAt w3 Y (I xs) → wr.cell? ⟨lb, v, none⟩ = some (.slice Y xs.length dY) ∧ RowAt wr Y (I xs)) ∧
        (∀ u : Nat, u < n → ∃ b c f, wr.cell? ⟨lx + 1, u, none⟩ = some (.slice (some ⟨b, 0, none⟩) nw c) ∧ b < W.heap.size ∧ WordAt wr b nw f ∧ ∀ x : Nat, x < n → (hasW f x = true ↔ TG g u x)) := fun wr hm => by
      have hb := hbW.trans (hm.mono hbW.size)
      obtain ⟨q1, q2, _, _⟩ := HLFT.out wr hb
      refine ⟨(hm.cell (p := ⟨lx + 1 + 1, 0, none⟩) (by show lx + 1 + 1 < _; omega)).trans (HFXC.out W hmv), q1, by rw [← HN.out]; exact q2.c0, q2, fun v Y dY xs hv hc hr => ?_, fun u hu => ?_⟩
      · have h34 : Below w3.heap.size w3 w4 := by rw [HW4.out]; exact (Below.refl _ _).alloc (Nat.le_refl _) _
        have h3 : Below w3.heap.size w3 wr := h34.trans (hb.mono h34.size)
        exact ⟨(h3.cell (p := ⟨lb, v, none⟩) hlbw).trans hc, hr.below h3⟩
      obtain ⟨b, c, f, h1, _, h3, h4, h5⟩ := (hfar.moves (Moves.of_new [] hm) (by simp) (by simp)).r u hu (hmem u hu)
      exact ⟨b, c, f, h1, by omega, h4, h5⟩
    have HLF := Lib.hid hlf
    have HDEF := Lib.hid hdef
    obtain ⟨_, _, c0, _, _, _⟩ := hlf W (Below.refl _ _)
    obtain ⟨wh, hwh⟩ : ∃ wh, wh = W.alloc (.cells #[.int .i64 (n : Int), .slice none 0 0] 24) := ⟨_, rfl⟩
    have hbh : Below W.heap.size W wh := by rw [hwh]; exact (Below.refl _ _).alloc (Nat.le_refl _) _
    have hbx0 : BoxE W.heap.size (n : Int) (leanE g 0) (.slice none 0 0) wh := by
      rw [hwh]
      exact ⟨by rw [cell_new]; rfl, by rw [cell_new]; rfl, frozen_new _ _ _ _, ⟨rfl, .inl ⟨rfl, rfl⟩⟩⟩
    have HBH := Lib.hid hbh
    have HBX := Lib.hid hbx0
    have HWH := Lib.hid hwh
    clear hlf hdef hfar hmem hbW hmv hbh hbx0 hwh hB hz7' hz6' hz4'
    gi_step
    gi_step
    refine wpIn_wide.2 ?_
    go_upto_region 15 with (fail)
    rw [← HWH.out]
    have h3b : W.heap.size < wh.heap.size := by rw [HWH.out, al_size]; omega
    have d0 := (HLF.out wh HBH.out).2.2.1
    clear c0
    go_wp2
    clear d0
    obtain ⟨wk, hwk⟩ : ∃ wk : World, wk = wh := ⟨_, rfl⟩
    have HBX1 : Hid (BoxE W.heap.size (n : Int) (leanE g 0) (.slice none 0 0) wk) := Lib.hid (by rw [hwk]; exact HBX.out)
    have HBH1 : Hid (Below W.heap.size W wk) := Lib.hid (by rw [hwk]; exact HBH.out)
    rw [← hwk]
    clear hwk
    go_loopw [74] (fun i wr => ∃ (v : Nat) (vv : Value), i = .int .i64 v ∧ v ≤ n ∧ BoxE W.heap.size (n : Int) (leanE g v) vv wr ∧ Below W.heap.size W wr) (fun i _ => n - (intOf i).toNat)
    case atStart => exact ⟨0, _, rfl, by omega, HBX1.out, HBH1.out⟩
    case round =>
      obtain ⟨v, vv, rfl, hv, hbq, hbe⟩ := hrel
      obtain ⟨wv, rfl⟩ : ∃ wv : World, wv = wr := ⟨_, rfl⟩
      obtain ⟨k1, k2, k3, hrb, _, _⟩ := HLF.out wv hbe
      have hel := leanE_length g v
      have hgl := HGD.out.len
      have helb : (leanE g v).length ≤ 67108864 := Nat.le_trans hel (Nat.le_trans (Nat.mul_le_mul hv hgl) (by have : n * 16384 ≤ 4096 * 16384 := Nat.mul_le_mul_right _ hn4; omega))
      by_cases hlt : v < n
      · have hv0 : (0 : Int) ≤ (v : Int) := by omega
        have hv1 : (v : Int) < (n : Int) := by omega
        have hmk : ∀ W : World, (Instr.makeSlice 74 (.int .i64 ((n : Int) / 64 + 1)) (.int .i64 ((n : Int) / 64 + 1))).run Try.prog W = .ok (.slice (some ⟨W.heap.size, 0, none⟩) nw nw) (W.alloc (.cells (madeCells #[.int .u64 0] nw) 53)) :=
          fun W => by rw [show (n : Int) / 64 + 1 = (nw : Int) by omega]; exact run_make_row' 74 53 (.int .u64 0) 8 Try.underlying74 (by rfl) rfl .i64 .i64 nw (by omega) (by omega) W
        obtain ⟨w2, hw2⟩ : ∃ w2, w2 = wv.alloc (.cells (madeCells #[.int .u64 0] nw) 53) := ⟨_, rfl⟩
        have hb2 : Below wv.heap.size wv w2 := by rw [hw2]; exact (Below.refl _ _).alloc (Nat.le_refl _) _
        have hbe2 := hbe.trans (hb2.mono hbe.size)
        have hwd2 : WordAt w2 wv.heap.size nw (fun _ => 0) := by rw [hw2]; exact word_made wv nw _
        have hbq2 : BoxE W.heap.size (n : Int) (leanE g v) vv w2 := hbq.moves (Moves.of_new [] hb2) (by simp) (by simp)
        have hvb : ∀ k, vv.ownBlock = some k → k < wv.heap.size := fun k e => (hbq.own.lt k e).2
        obtain ⟨l, hl'⟩ : ∃ l, l = nxt g v := ⟨_, rfl⟩
        have hll : l.length ≤ 16384 := by rw [hl']; have := nxt_length g v; omega
        have hlr : ∀ y ∈ l, 0 ≤ y ∧ y < (n : Int) := fun y hy => by rw [hl'] at hy; exact nxt_inN HGD.out HN.out v y hy
        obtain ⟨Y, dY, hcY3, hrY3, _⟩ := HROWS.out v hlt
        rw [← hl'] at hcY3 hrY3
        have HRW : Hid (∀ wr, Below W.heap.size W wr → wr.cell? ⟨lb, v, none⟩ = some (.slice Y l.length dY) ∧ RowAt wr Y (I l)) := Lib.hid fun wr hm => (HLF.out wr hm).2.2.2.2.1 v Y dY l hlt hcY3 hrY3
        obtain ⟨j1, j2, j3, _, _, _⟩ := HLF.out w2 hbe2
        obtain ⟨hcY, _⟩ := HRW.out w2 hbe2
        have hwvW : W.heap.size < wv.heap.size := World.block_lt_of_cell? wv _ hbq.c0
        have HW2 := Lib.hid hw2
        have HWD2 := Lib.hid hwd2
        have HBQ2 := Lib.hid hbq2
        have HBE2 := Lib.hid hbe2
        have HVB := Lib.hid hvb
        have HL' := Lib.hid hl'
        have HLR := Lib.hid hlr
        clear hnw hw2 hwd2 hbq2 hbe2 hvb hl' hlr hb2 hrb hbe hbq hcY3 hrY3 hel hgl
        go_upto_region 19 with (fail)
        rw [← HW2.out]
        clear k1 k2 k3 hmk
        go_wp2
        obtain ⟨wl, hwl⟩ : ∃ wl : World, wl = w2 := ⟨_, rfl⟩
        rw [← hwl]
        rw [← hwl] at HWD2 HBQ2 HBE2
        clear hwl j1 j2 j3 hcY
        go_loopw [87] (fun i wr => ∃ (j : Nat) (f : Nat → Nat), i = .int .i64 j ∧ j ≤ l.length ∧ Moves [wv.heap.size] wl wr ∧ WordAt wr wv.heap.size nw f ∧ FarBits g False (l.take j) n f) (fun i _ => l.length - (intOf i).toNat)
        case atStart => exact ⟨0, _, rfl, by omega, Moves.refl _ _, HWD2.out, bits_nil _ _ _⟩
        case round =>
          obtain ⟨j, f, rfl, hj, hmr, hwd, hbits⟩ := hrel
          have hbr : Below W.heap.size W wr := HBE2.out.trans (hmr.below HBE2.out.size (by simp; omega))
          by_cases hlj : j < l.length
          · have hj0 : (0 : Int) ≤ (j : Int) := by omega
            have hj1 : (j : Int) < (l.length : Int) := by omega
            obtain ⟨k1, _, _, _, _, hfr⟩ := HLF.out wr hbr
            obtain ⟨_, hrY⟩ := HRW.out wr hbr
            obtain ⟨b, off, rfl, hcj⟩ := hrY.int hlj
            have hsn := List.take_succ_eq_append_getElem hlj
            have hur := HLR.out _ (List.getElem_mem hlj)
            obtain ⟨u, hu⟩ : ∃ u : Nat, l[j] = (u : Int) := ⟨l[j].toNat, by omega⟩
            rw [hu] at hcj hur hsn
            have hun : u < n := by omega
            have hu0 : (0 : Int) ≤ (u : Int) := by omega
            have hu1 : (u : Int) < (n : Int) := by omega
            obtain ⟨b2, c2, f2, hcu, hb2W, hw2, hbits2⟩ := hfr u hun
            have hjn := join_bits (w := wr) (c := nw) (c2 := c2) (B := 0) hwd hw2 (Nat.zero_le _) (by omega) (by have := HNW.out; omega)
            have HJN := Lib.hid hjn
            have HMR := Lib.hid hmr
            have HB9 : Hid (FarBits g False (l.take (j + 1)) n (joinW f f2)) := Lib.hid (by rw [hsn]; exact bit_behind hbits hbits2)
            clear hjn hmr hwd hw2 hbits hbits2 hsn hur hu hfr hrY hbr
            go_wp2_with fail
            go_at_call 64
            refine HJN.out.mono ?_
            rintro e w9 ⟨rfl, hwd9, _, hm9, _⟩
            have HM9 := Lib.hid (HMR.out.trans hm9)
            have HW9 := Lib.hid hwd9
            clear hm9 hwd9 k1 hcj hcu
            go_wp2
            go_roundw
            case rel => exact ⟨j + 1, _, by go_num, by omega, HM9.out, HW9.out, HB9.out⟩
            case measure => simp [intOf]; omega
          · have hge : ¬ (j : Int) < (l.length : Int) := by omega
            rw [List.take_of_length_le (by omega)] at hbits
            obtain ⟨k1, k2, k3, _, _, _⟩ := HLF.out wr hbr
            obtain ⟨hcY, _⟩ := HRW.out wr hbr
            have hbqr : BoxE W.heap.size (n : Int) (leanE g v) vv wr := HBQ2.out.moves hmr (by simp; omega) (fun k e => by have := HVB.out k e; simp; omega)
            have HBQR := Lib.hid hbqr
            have HBER := Lib.hid hbr
            have HWDR := Lib.hid hwd
            have HBITS := Lib.hid hbits
            clear hbqr hbr hwd hbits hmr HBQ2 HWD2
            go_wp2
            obtain ⟨wq, hwq⟩ : ∃ wq : World, wq = wr := ⟨_, rfl⟩
            rw [← hwq]
            rw [← hwq] at HBQR HBER HWDR
            clear hwq k1 k2 k3 hcY
            go_loopw [103] (fun i wr => ∃ (j : Nat) (vq : Value), i = .int .i64 j ∧ j ≤ l.length ∧ BoxE W.heap.size (n : Int) (leanTo g v j) vq wr ∧ (∀ k, vq.ownBlock = some k → k ≠ wv.heap.size) ∧ WordAt wr wv.heap.size nw f ∧ Below W.heap.size W wr) (fun i _ => l.length - (intOf i).toNat)
            case atStart => exact ⟨0, vv, rfl, by omega, by rw [leanTo_zero]; exact HBQR.out, fun k e => by have := HVB.out k e; omega, HWDR.out, HBER.out⟩
            case round =>
              obtain ⟨j', vq, rfl, hj', hbq, hno, hwd, hbe⟩ := hrel
              obtain ⟨Xq, cq, rfl, hrq, _, _⟩ := own_rowS hbq.own
              have q0 := hbq.c0
              have q1 := hbq.c1
              have qz := hbq.z
              have hql : (leanTo g v j').length ≤ 67108864 + 16384 := by
                have := leanTo_length g v j'
                rw [← HL'.out] at this
                omega
              by_cases hlj : j' < l.length
              · have hj0 : (0 : Int) ≤ (j' : Int) := by omega
                have hj1 : (j' : Int) < (l.length : Int) := by omega
                obtain ⟨_, hrY⟩ := HRW.out wr hbe
                obtain ⟨b, off, rfl, hcj⟩ := hrY.int hlj
                have hur := HLR.out _ (List.getElem_mem hlj)
                obtain ⟨u, hu⟩ : ∃ u : Nat, l[j'] = (u : Int) := ⟨l[j'].toNat, by omega⟩
                rw [hu] at hcj hur
                have hun : u < n := by omega
                have hu0 : (0 : Int) ≤ (u : Int) := by omega
                have hu1 : (u : Int) < (n : Int) := by omega
                have hsucc := leanTo_bit HL'.out HBITS.out hlj hu hun
                have hhas := has_bits (c := nw) hwd (show u / 64 < nw by have := HNW.out; omega) (by omega)
                obtain ⟨hh, hhh⟩ : ∃ hh, hh = hasW f u := ⟨_, rfl⟩
                rw [← hhh] at hsucc hhas
                have HSUCC := Lib.hid hsucc
                have HHAS := Lib.hid hhas
                have HWD3 := Lib.hid hwd
                have HBQ3 := Lib.hid hbq
                have HBE3 := Lib.hid hbe
                have HNO3 := Lib.hid hno
                clear hsucc hhas hhh hu hur hwd hbq hbe hno hrY hrq
                go_wp2_with fail
                go_at_call 65
                refine HHAS.out.mono ?_
                rintro e w9 ⟨rfl, rfl⟩
                clear hcj
                cases hh with
                | true =>
                  have hs := HSUCC.out
                  rw [if_pos rfl] at hs
                  have HS := Lib.hid hs
                  clear hs
                  go_wp2
                  go_roundw
                  case rel => exact ⟨j' + 1, _, by go_num, by omega, by rw [HS.out]; exact HBQ3.out, HNO3.out, HWD3.out, HBE3.out⟩
                  case measure => simp [intOf]; omega
                | false =>
                  have hs := HSUCC.out
                  rw [if_neg (by simp)] at hs
                  have HS := Lib.hid hs
                  have hhl : W.heap.size < w9.heap.size := World.block_lt_of_cell? w9 _ q0
                  have hvl : wv.heap.size < w9.heap.size := HWD3.out.1
                  have hno : W.heap.size ∉ (Value.slice Xq (leanTo g v j').length cq).ownBlock.toList := fun hk => by have := (HBQ3.out.own.lt W.heap.size (by simpa using hk)).1; omega
                  have hnv : wv.heap.size ∉ (Value.slice Xq (leanTo g v j').length cq).ownBlock.toList := fun hk => HNO3.out wv.heap.size (by simpa using hk) rfl
                  have HNO4 := Lib.hid hno
                  have HNV4 := Lib.hid hnv
                  have hsz : W.heap.size + 1 ≤ w9.heap.size := hhl
                  clear hs hno hnv q0
                  go_wp2_with (at_builtin; go_loud (refine app_newK (W.heap.size + 1) (by rfl) _ _ 22 51 (.agg #[.int .i64 0, .int .i64 0]) 2 16 (by rfl) Try.underlying22 info_edge rfl (by decide) _ (leanTo g v j').length (edgeCells (leanTo g v j')) [.int .i64 (v : Int), .int .i64 (u : Int)] (by rfl) _ (by rfl) rfl rfl (by simp [Value.oneCell']) HBQ3.out.own hsz (by omega) (by omega) ?_; intro v5 w5 ho5 hg5 hb5 hs5; have hm5 := Moves.of_grown (M := (Value.slice Xq (leanTo g v j').length cq).ownBlock.toList) hg5 (by intro k e; simp [e]); obtain ⟨X5, d5, rfl, _, _⟩ := own_rowS ho5; have r1 := (hm5.cell hhl HNO4.out 1).trans q1; have rz := (hm5.frozen hhl HNO4.out 1).trans qz; have HBQ5 := Lib.hid (HBQ3.out.next ho5 hg5); have HWD5 := Lib.hid ((HWD3.out.moves hm5 HNV4.out).moves (Moves.set (M := [W.heap.size]) w5 ⟨W.heap.size, 1, none⟩ (.slice X5 ((leanTo g v j').length + 1) d5) (by simp)) (by simp; omega)); have HBE5 := Lib.hid ((HBE3.out.grown hg5 HBE3.out.size (fun q e => by have := (HBQ3.out.own.lt q e).1; omega)).setCell (p := ⟨W.heap.size, 1, none⟩) (Nat.le_refl _) (.slice X5 ((leanTo g v j').length + 1) d5)); have HNO5 : Hid (∀ k, (Value.slice X5 ((leanTo g v j').length + 1) d5).ownBlock = some k → k ≠ wv.heap.size) := Lib.hid (fun k e => by rcases hb5 with h | h; exact HNO3.out k (h ▸ e); rw [h] at e; cases e; omega); clear ho5 hg5 hb5 hs5 hm5))
                  go_roundw
                  case rel => exact ⟨j' + 1, _, by go_num, by omega, by rw [HS.out]; exact HBQ5.out, HNO5.out, HWD5.out, HBE5.out⟩
                  case measure => simp [intOf]; omega
              · have hge : ¬ (j' : Int) < (l.length : Int) := by omega
                have hall : leanTo g v j' = leanE g (v + 1) := leanTo_all (by rw [← HL'.out]; omega)
                rw [hall] at hbq
                have HBQ4 := Lib.hid hbq
                have HBE4 := Lib.hid hbe
                clear hbq hbe hwd hno hrq hall q0 q1 qz hql
                go_wp2
                go_roundw
                case rel => exact ⟨v + 1, _, by go_num, by omega, HBQ4.out, HBE4.out⟩
                case measure => simp [intOf]; omega
      · have hge : ¬ (v : Int) < (n : Int) := by omega
        obtain rfl : v = n := by omega
        obtain ⟨Xq, cq, rfl, hrq, hc1, hc2⟩ := own_rowS hbq.own
        have q0 := hbq.c0
        have q1 := hbq.c1
        have r0 := hrb.r0
        have r1 := hrb.r1
        have rz := hrb.rz 0
        have rz1 := hrb.rz 1
        obtain ⟨wz, hwz⟩ : ∃ wz, wz = (wv.setCell ⟨w.heap.size + 1, 0, none⟩ (.int .i64 (v : Int))).setCell ⟨w.heap.size + 1, 1, none⟩ (.slice Xq (leanE g v).length cq) := ⟨_, rfl⟩
        have hbz : Below w.heap.size w wz := by rw [hwz]; exact hrb.wrote _ _
        obtain ⟨g0, g1⟩ := hrb.reads (.int .i64 (v : Int)) (.slice Xq (leanE g v).length cq)
        rw [← hwz] at g0 g1
        have hrmD : w.heap.size + 1 < D := by have := (HRB4.out).lt; have := HZ4.out; have := HZ6.out; omega
        have hDW : D < W.heap.size := (Array.getElem?_eq_some_iff.1 HDEF.out).1
        have hdz : wz.heap[D]? = some (.deferred (some [])) := by
          rw [hwz, Below.heap_setCell _ _ _ D (by show D ≠ w.heap.size + 1; omega), Below.heap_setCell _ _ _ D (by show D ≠ w.heap.size + 1; omega), hbe.block D hDW]
          exact HDEF.out
        have hmz : Moves [w.heap.size + 1] wv wz := by
          rw [hwz]
          exact (Moves.set wv ⟨w.heap.size + 1, 0, none⟩ _ (by simp)).trans (Moves.set _ ⟨w.heap.size + 1, 1, none⟩ _ (by simp))
        have hwvW : W.heap.size < wv.heap.size := World.block_lt_of_cell? wv _ q0
        have hownz := own_mv hbq.own hmz (fun k e => by have := (hbq.own.lt k e).1; simp; omega)
        have hgp := grownBy_putObj' wz D (.deferred none)
        have hmp := Moves.of_grown (M := [D]) hgp (by simp)
        have hownp := own_mv hownz hmp (fun k e => by have := (hownz.lt k e).1; simp; omega)
        obtain ⟨X9, c9, hv9, hr9, _⟩ := own_rowS hownp
        cases hv9
        have hgt : GAt (wz.putObj D (.deferred none)) Xq (leanG g) := by
          show RowAt _ Xq (edgeCells (leanE g g.n.toNat))
          rw [HNN.out]
          exact hr9
        have hzw : w.heap.size + 1 < wz.heap.size := World.block_lt_of_cell? wz _ g0
        have f0 := (hmp.cell hzw (by simp; omega) 0).trans g0
        have f1 := (hmp.cell hzw (by simp; omega) 1).trans g1
        have hbp : Below w.heap.size w (wz.putObj D (.deferred none)) := hbz.grown hgp hbz.size (fun r e => by cases e; omega)
        have hval : (leanG g).val Xq cq = .agg #[.int .i64 (v : Int), .slice Xq (leanE g v).length cq] := by
          unfold XG.val leanG
          simp only [HN.out]
          rw [show ((v : Int)).toNat = v by omega]
        have HPOST : Hid (LeanPost g w (.returned (.tuple #[.agg #[.int .i64 (v : Int), .slice Xq (leanE g v).length cq], .int .i64 0])) (wz.putObj D (.deferred none))) := Lib.hid ⟨hbp, .inr ⟨HOK.out, Xq, cq, by rw [hval], hgt, by show (leanE g g.n.toNat).length ≤ cq; rw [HNN.out]; exact hc1, hc2⟩⟩
        have HDZ := Lib.hid hdz
        have HWZ := Lib.hid hwz
        clear hbz hdz hmz hownz hgp hmp hownp hr9 hgt hbp hval hrq hbq hbe hrb hel hgl helb k1 k2 k3 hwz g0 g1
        go_wp2
        rw [← HWZ.out]
        refine ⟨by simp, .inl ⟨_, _, rfl, run_takeDeferred HDZ.out, ?_⟩⟩
        exact ⟨.tuple #[.agg #[.int .i64 (v : Int), .slice Xq (leanE g v).length cq], .int .i64 0], by simp [results, Try.results31, go_sem, f0, f1]; try rfl, HPOST.out⟩
end Go.Proofs.Ytpdfcffeinbcaaa
