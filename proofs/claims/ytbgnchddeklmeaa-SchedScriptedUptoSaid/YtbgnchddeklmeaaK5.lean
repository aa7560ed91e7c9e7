/- Round and Fair: their picks. -/
import Derived.Test.YtbgnchddeklmeaaK4
namespace Go.Proofs.Ytbgnchddeklmeaa
open Go.RowKit
theorem rgt_c (n last : Int) (s cb : Nat) (w : World) (hb : w.cell? ⟨cb, 0, none⟩ = some (.pointer (some ⟨s, 0, none⟩))) (hl : w.cell? ⟨s, 1, none⟩ = some (.int .i64 last)) :
    Calls Try.prog 21 #[.int .i64 n, .pointer (some ⟨cb, 0, none⟩)] w fun e w' => e = .returned (.bool (decide (last < n))) ∧ w' = w := by
  go_enter Try.func21, Try.ntmps21
  go_wp2
  go_ret
  exact ⟨rfl, rfl⟩
/-- The place that a turn picks. -/
def rndI (last : Int) (l : List Int) : Int := match l.findIdx? (fun n => decide (last < n)) with | some i => i | none => -1
def rndK (last : Int) (l : List Int) : Nat := (l.findIdx? (fun n => decide (last < n))).getD 0
theorem rnd_max (last : Int) (l : List Int) : max 0 (rndI last l) = (rndK last l : Int) := by
  unfold rndI rndK
  cases l.findIdx? (fun n => decide (last < n)) with
  | none => rfl
  | some i => simp
theorem indexf_c (last : Int) (s cb : Nat) (w : World) (hb : w.cell? ⟨cb, 0, none⟩ = some (.pointer (some ⟨s, 0, none⟩))) (hl : w.cell? ⟨s, 1, none⟩ = some (.int .i64 last)) (g cap : Nat) (l : List Int) (hc : ∀ j (h : j < l.length), w.cell? ⟨g, j, none⟩ = some (.int .i64 l[j])) (hlen : l.length ≤ 4096) :
    Calls Try.prog 20 #[.slice (some ⟨g, 0, none⟩) l.length cap, .func (Fn.func 21) #[] #[.pointer (some ⟨cb, 0, none⟩)]] w fun e w' => e = .returned (.int .i64 (rndI last l)) ∧ w' = w := by
  go_enter Try.func20, Try.ntmps20
  go_wp2
  go_loopw [8] (fun i wr => wr = w ∧ ∃ j : Nat, i = .int .i64 j ∧ j ≤ l.length ∧ ∀ m (h : m < j) (h2 : m < l.length), l[m] ≤ last) (fun i _ => l.length - (intOf i).toNat)
  case atStart => exact ⟨rfl, 0, rfl, by omega, by intro m h; omega⟩
  case round =>
    obtain ⟨rfl, j, rfl, hj, hall⟩ := hrel
    have HALL := Lib.hid hall
    clear hall
    by_cases hlt : j < l.length
    · have hlt2 : (j : Int) < (l.length : Int) := by omega
      have hj0 : (0 : Int) ≤ (j : Int) := by omega
      have hcj := hc j hlt
      by_cases hgt : last < l[j]
      · go_wp2_with (go_at_call 21; refine (rgt_c _ last s cb _ hb hl).mono ?_; rintro e w' ⟨rfl, rfl⟩; rw [decide_eq_true hgt])
        go_ret
        refine ⟨?_, rfl⟩
        have : l.findIdx? (fun n => decide (last < n)) = some j := by
          rw [List.findIdx?_eq_some_iff_getElem]
          exact ⟨hlt, by simpa using hgt, fun m hm => by simpa using HALL.out m hm (by omega)⟩
        unfold rndI
        rw [this]
        rfl
      · go_wp2_with (go_at_call 21; refine (rgt_c _ last s cb _ hb hl).mono ?_; rintro e w' ⟨rfl, rfl⟩; rw [decide_eq_false hgt])
        go_roundw
        case rel => exact ⟨trivial, j + 1, by go_num, by omega, fun m hm h2 => by rcases Nat.lt_or_ge m j with c | c; exact HALL.out m c h2; have : m = j := (by omega); subst this; first | exact hgt | exact Int.not_lt.1 hgt⟩
        case measure => simp [intOf]; omega
    · have hjl : Hid (j = l.length) := Lib.hid (by omega)
      have hge : ¬ (j : Int) < (l.length : Int) := by omega
      go_wp2
      go_ret
      refine ⟨?_, rfl⟩
      have : l.findIdx? (fun n => decide (last < n)) = none := by
        rw [List.findIdx?_eq_none_iff]
        intro x hx
        obtain ⟨m, hm, rfl⟩ := List.mem_iff_getElem.1 hx
        simpa using HALL.out m (by have := hjl.out; omega) hm
      unfold rndI
      rw [this]
      rfl
theorem own_row2 {w : World} {B : Nat} {v : Value} {l : List Int} (ho : w.ownsRow B 3 1 v l.length (I l)) (hl : 0 < l.length) : ∃ g cap, v = .slice (some ⟨g, 0, none⟩) l.length cap ∧ g < w.heap.size ∧ ∀ j (h : j < l.length), w.cell? ⟨g, j, none⟩ = some (.int .i64 l[j]) := by
  rcases own_ints_cases ho with ⟨_, h0, _⟩ | ⟨g, cap, cur, rfl, _, hB, hg, _⟩
  · omega
  · exact ⟨g, cap, rfl, hg, fun j h => by have h3 := ho.cells (g := g) rfl j (.int .i64 l[j]) (by simp [h]); rwa [add_zero] at h3⟩
theorem round1_c {w : World} {s : Nat} {p : Value} {last count : Int} {often : Nat → Int} {g cap : Nat} {l : List Int} (hS : SchAt w s p last count often) (hgl : g < w.heap.size) (hc : ∀ j (h : j < l.length), w.cell? ⟨g, j, none⟩ = some (.int .i64 l[j])) (hl : l.length ≤ 128) :
    Calls Try.prog 19 #[.pointer (some ⟨s, 0, none⟩), .slice (some ⟨g, 0, none⟩) l.length cap] w fun e w' => e = .returned (.int .i64 (rndK last l : Nat)) ∧ w.grownBy w' none := by
  have h1 := rnd_max last l
  obtain ⟨hs, _, hla, _⟩ := hS
  obtain ⟨w1, hw1⟩ : ∃ w1, w1 = w.alloc (.cells #[.pointer (some ⟨s, 0, none⟩)] 24) := ⟨_, rfl⟩
  have hb0 : Below w.heap.size w w1 := by rw [hw1]; exact (Below.refl _ _).alloc (Nat.le_refl _) _
  have hb : w1.cell? ⟨w.heap.size, 0, none⟩ = some (.pointer (some ⟨s, 0, none⟩)) := by rw [hw1]; simp
  have hla1 := (hb0.cell (p := ⟨s, 1, none⟩) hs).trans hla
  have hc1 : ∀ j (h : j < l.length), w1.cell? ⟨g, j, none⟩ = some (.int .i64 l[j]) := fun j h => (hb0.cell (p := ⟨g, j, none⟩) hgl).trans (hc j h)
  have hg0 : w.grownBy w1 none := ⟨hb0.os, hb0.tape, hb0.output, hb0.size, fun k hk _ => hb0.block k hk⟩
  have HC := Lib.hid hc1
  have HB := Lib.hid hb
  have HLA := Lib.hid hla1
  have HG := Lib.hid hg0
  have HW := Lib.hid hw1
  have H1 := Lib.hid h1
  clear hc hc1 hb hla hla1 hg0 hb0 hw1 h1
  go_enter Try.func19, Try.ntmps19
  go_wp2_with (go_at_call 20; rw [← HW.out]; refine (indexf_c last s w.heap.size w1 HB.out HLA.out g cap l HC.out (by omega)).mono ?_; rintro e w' ⟨rfl, rfl⟩)
  go_ret
  exact ⟨by rw [← H1.out]; rfl, HG.out⟩
theorem pick_round {w : World} {s : Nat} {p : Value} {last count : Int} {often : Nat → Int} {B : Nat} {v : Value} {l : List Int} (hS : SchAt w s p last count often) (ho : w.ownsRow B 3 1 v l.length (I l)) (hl0 : 0 < l.length) (hl : l.length ≤ 128) :
    Calls Try.prog 81 #[.func (Fn.func 19) #[] #[], .pointer (some ⟨s, 0, none⟩), v] w fun e w' => e = .returned (.int .i64 (rndK last l : Nat)) ∧ w.grownBy w' none ∧ True := by
  obtain ⟨g, cap, rfl, hgl, hc⟩ := own_row2 ho hl0
  have HS := Lib.hid hS
  have HC := Lib.hid hc
  clear hS ho hc
  go_enter Try.func81, Try.ntmps81
  go_wp2_with (go_at_call 19; refine (round1_c HS.out hgl HC.out hl).mono ?_; rintro e w' ⟨rfl, hg⟩)
  go_ret
  exact ⟨rfl, hg, trivial⟩
end Go.Proofs.Ytbgnchddeklmeaa
