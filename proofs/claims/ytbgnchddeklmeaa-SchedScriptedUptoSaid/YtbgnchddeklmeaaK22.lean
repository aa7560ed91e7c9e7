/- The first place of the greatest weight; picks by weights. -/
import Derived.Test.YtbgnchddeklmeaaK21
namespace Go.Proofs.Ytbgnchddeklmeaa
open Go.RowKit
theorem map_take (f : Int → Int) (l : List Int) (j : Nat) (h : j < l.length) : I ((l.take j).map f) ++ [.int .i64 (f l[j])] = I ((l.take (j + 1)).map f) := by
  unfold I
  rw [List.take_succ_eq_append_getElem h, List.map_append, List.map_append]
  rfl
set_option maxHeartbeats 1000000 in
theorem heavy_c {w : World} {F : FuncId} {b : Value} {f : Int → Int} {g cap : Nat} {l : List Int} (hF : ∀ x y (w : World), (callFunc F #[x, y]).run Try.prog w = .ok (.enter F #[x, y]) w)
    (hf : ∀ w1 n, Below w.heap.size w w1 → n ∈ l → Calls Try.prog F #[b, .int .i64 n] w1 fun e w2 => e = .returned (.int .i64 (f n)) ∧ w2 = w1)
    (hgl : g < w.heap.size) (hc : ∀ j (h : j < l.length), w.cell? ⟨g, j, none⟩ = some (.int .i64 l[j])) (hl0 : 0 < l.length) (hl : l.length ≤ 128) :
    Calls Try.prog 87 #[.slice (some ⟨g, 0, none⟩) l.length cap, .func (Fn.func F) #[b] #[]] w fun e w' => e = .returned (.int .i64 (heavyK f l : Nat)) ∧ w.grownBy w' none := by
  have HC := Lib.hid hc
  have HF := Lib.hid hf
  clear hc hf
  go_enter Try.func87, Try.ntmps87
  go_wp2
  go_loopw [5, 10] (fun v i wr => ∃ j : Nat, j ≤ l.length ∧ i = .int .i64 j ∧ wr.ownsRow w.heap.size 3 1 v (I ((l.take j).map f)).length (I ((l.take j).map f)) ∧ Below w.heap.size w wr) (fun _ i _ => l.length - (intOf i).toNat)
  case atStart => exact ⟨0, by omega, rfl, ⟨rfl, .inl ⟨rfl, rfl⟩⟩, Below.refl _ _⟩
  case round =>
    obtain ⟨j, hj, rfl, hown, hbel⟩ := hrel
    have hol : (I ((l.take j).map f)).length = j := by rw [List.length_map, List.length_map]; simp; omega
    have hbs := hbel.size
    by_cases hlt : j < l.length
    · have hj0 : (0 : Int) ≤ (j : Int) := Int.natCast_nonneg _
      have hj1 : (j : Int) < (l.length : Int) := by omega
      have hcj := (hbel.cell (p := ⟨g, j, none⟩) hgl).trans (HC.out j hlt)
      obtain ⟨m, hm⟩ : ∃ m, m = l[j] := ⟨_, rfl⟩
      have hmm : m ∈ l := by rw [hm]; exact List.getElem_mem hlt
      rw [← hm] at hcj
      have hapd : I ((l.take j).map f) ++ [.int .i64 (f m)] = I ((l.take (j + 1)).map f) := by rw [← map_take f l j hlt, ← hm]
      have HOL := Lib.hid hol
      have HAP := Lib.hid hapd
      have HCM := Lib.hid (HF.out wr m hbel hmm)
      clear hm hol hapd hmm
      go_wp2_with fail
      refine HCM.out.mono ?_
      rintro e w3 ⟨rfl, rfl⟩
      go_wp2_with (at_builtin; refine app_one (w0 := w) w.heap.size (by rfl) _ _ 30 3 (.int .i64 0) 8 (by rfl) Try.underlying30 info_int rfl _ (I ((l.take j).map f)) (.int .i64 (f m)) (by rfl) _ (by rfl) rfl rfl hown hbel hbs (by rw [HOL.out]; omega) (by rw [HOL.out]; omega) ?_; intro v5 w5 hown5 hb5 _ _)
      go_roundw
      case rel => exact ⟨j + 1, by omega, by go_num, by rw [HAP.out] at hown5; exact hown5, hb5⟩
      case measure => simp [intOf]; omega
    · have hjl : j = l.length := by omega
      subst hjl
      rw [List.take_length] at hown
      have HOWN := Lib.hid (by have h9 := hown; rwa [List.length_map] at h9 : wr.ownsRow w.heap.size 3 1 u5 (l.map f).length (I (l.map f)))
      have HBEL := Lib.hid hbel
      have hml : 0 < (l.map f).length := by rw [List.length_map]; exact hl0
      obtain ⟨g2, cap2, rfl, hgl2, hc2⟩ := own_row2 HOWN.out hml
      have hc3 : ∀ j, j < (l.map f).length → wr.cell? ⟨g2, 0 + j, none⟩ = some (.int .i64 ((l.map f).getD j 0)) := fun j h => by rw [Nat.zero_add, hc2 j h]; simp only [List.getD_eq_getElem?_getD, List.getElem?_eq_getElem h]; rfl
      have h1 := (maxAt_spec hml).1
      have hmb : (l.map f).length ≤ 9223372036854775807 := by rw [List.length_map]; omega
      have m1 := Try.slices_Max_int g2 0 (l.map f).length cap2 (l.map f) wr hml (Nat.le_refl _) hmb hc3
      have m2 := Try.slices_Index_int g2 0 (l.map f).length cap2 (l.map f) (Lib.maxOf (l.map f)) wr (Nat.le_refl _) hmb hc3
      rw [List.take_length, List.length_map] at m1 m2
      have M1 := Lib.hid m1
      have M2 := Lib.hid m2
      have H1 := Lib.hid h1
      clear hown hbel hol hc2 hc3 m1 m2 h1 hml hmb
      go_wp2_with (first | (go_at_call 88; refine M1.out.mono ?_; rintro e w' ⟨rfl, rfl⟩) | (go_at_call 38; refine M2.out.mono ?_; rintro e w' ⟨rfl, rfl⟩))
      go_ret
      refine ⟨?_, ⟨HBEL.out.os, HBEL.out.tape, HBEL.out.output, HBEL.out.size, fun k hk _ => HBEL.out.block k hk⟩⟩
      unfold heavyK
      rw [← H1.out]
      rfl
theorem wof_c {w : World} {lo n : Nat} {bad : List Nat} {X : Option Addr} {d : Nat} {ws : List Int} (hr : RowIn w lo n bad X ws) (m : Int) (hm : 0 ≤ m) :
    Calls Try.prog 85 #[.slice X ws.length d, .int .i64 m] w fun e w' => e = .returned (.int .i64 (wOf ws m)) ∧ w' = w := by
  obtain ⟨k, rfl⟩ : ∃ k : Nat, m = k := ⟨m.toNat, by omega⟩
  unfold wOf
  by_cases hlt : k < ws.length
  · have hlt2 : (k : Int) < (ws.length : Int) := by omega
    obtain ⟨b, off, rfl, hcj⟩ := hr.at hlt
    rw [if_pos hlt2, Int.toNat_natCast]
    obtain ⟨v, hv⟩ : ∃ v, v = ws.getD k 0 := ⟨_, rfl⟩
    rw [← hv] at hcj ⊢
    clear hr hv
    go_enter Try.func85, Try.ntmps85
    go_wp2
    go_ret
    exact ⟨rfl, rfl⟩
  · have hge : ¬ (k : Int) < (ws.length : Int) := by omega
    rw [if_neg hge]
    clear hr
    go_enter Try.func85, Try.ntmps85
    go_wp2
    go_ret
    exact ⟨rfl, rfl⟩
theorem call_wof (x y : Value) (w : World) : (callFunc 85 #[x, y]).run Try.prog w = .ok (.enter 85 #[x, y]) w := by kernel_rfl
theorem call_pof (x y : Value) (w : World) : (callFunc 92 #[x, y]).run Try.prog w = .ok (.enter 92 #[x, y]) w := by kernel_rfl
theorem pick_weights {w : World} {lo n : Nat} {bad : List Nat} {X : Option Addr} {d : Nat} {ws : List Int} (z : Value) {g cap : Nat} {l : List Int} (hr : RowIn w lo n bad X ws) (hgl : g < w.heap.size) (hc : ∀ j (h : j < l.length), w.cell? ⟨g, j, none⟩ = some (.int .i64 l[j])) (hl0 : 0 < l.length) (hl : l.length ≤ 128) (hlo : ∀ x ∈ l, 0 ≤ x ∧ x < 128) :
    Calls Try.prog 86 #[.slice X ws.length d, z, .slice (some ⟨g, 0, none⟩) l.length cap] w fun e w' => e = .returned (.int .i64 (heavyK (wOf ws) l : Nat)) ∧ w.grownBy w' none := by
  have H := Lib.hid (heavy_c (cap := cap) call_wof (fun w1 m hb hm => wof_c (d := d) (hr.moves (Moves.of_new [] hb) (by simp)) m (hlo m hm).1) hgl hc hl0 hl)
  clear hr hc hlo
  go_enter Try.func86, Try.ntmps86
  go_wp2_with (go_at_call 87; refine H.out.mono ?_; rintro e w' ⟨rfl, hg⟩)
  go_ret
  exact ⟨rfl, hg⟩
/-- A policy of changing weights in block b. -/
def PctAt (w : World) (b : Nat) (Xv : Value) (p : Pol) : Prop := b < w.heap.size ∧ w.cell? ⟨b, 0, none⟩ = some (.int .u64 p.c) ∧ w.cell? ⟨b, 1, none⟩ = some Xv ∧ (∀ i, i < 128 → w.cell? ⟨b, 2 + i, none⟩ = some (.bool (p.has i))) ∧ (∀ i, i < 128 → w.cell? ⟨b, 130 + i, none⟩ = some (.int .i64 (p.wt i))) ∧ ∀ j, w.frozen? ⟨b, j, none⟩ = false
theorem PctAt.below {w w' : World} {b : Nat} {Xv : Value} {p : Pol} (h : PctAt w b Xv p) (hb : Below w.heap.size w w') : PctAt w' b Xv p :=
  ⟨Nat.lt_of_lt_of_le h.1 hb.size, (hb.cell (p := ⟨b, 0, none⟩) h.1).trans h.2.1, (hb.cell (p := ⟨b, 1, none⟩) h.1).trans h.2.2.1, fun i hi => (hb.cell (p := ⟨b, 2 + i, none⟩) h.1).trans (h.2.2.2.1 i hi), fun i hi => (hb.cell (p := ⟨b, 130 + i, none⟩) h.1).trans (h.2.2.2.2.1 i hi), fun j => (hb.frozen (p := ⟨b, j, none⟩) h.1).trans (h.2.2.2.2.2 j)⟩
theorem pof_c {w : World} {b : Nat} {Xv : Value} {p : Pol} (h : PctAt w b Xv p) (m : Int) (hm : 0 ≤ m ∧ m < 128) :
    Calls Try.prog 92 #[.pointer (some ⟨b, 0, none⟩), .int .i64 m] w fun e w' => e = .returned (.int .i64 (p.wt m.toNat)) ∧ w' = w := by
  obtain ⟨k, rfl⟩ : ∃ k : Nat, m = k := ⟨m.toNat, by omega⟩
  have hcw := h.2.2.2.2.1 k (by omega)
  have hk0 : (0 : Int) ≤ (k : Int) := by omega
  have hk1 : (k : Int) < 128 := by omega
  rw [Int.toNat_natCast]
  clear h hm
  go_enter Try.func92, Try.ntmps92
  go_wp2
  go_ret
  exact ⟨rfl, rfl⟩
end Go.Proofs.Ytbgnchddeklmeaa
