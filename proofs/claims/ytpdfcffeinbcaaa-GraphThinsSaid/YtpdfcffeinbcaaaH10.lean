/- The document's next, Next; places that are true. -/
import Derived.Test.YtpdfcffeinbcaaaH9
import Derived.Test.YtpdfcffeinbcaaaH6
namespace Go.Proofs.Ytpdfcffeinbcaaa
open Go.RowKit
/-- A row of numbers of one's own, as a result. -/
def OwnInts (l : List Int) (w : World) (e : Ending) (w' : World) : Prop := ∃ Y dY, e = .returned (.slice Y l.length dY) ∧ w'.ownsRow w.heap.size 3 1 (.slice Y l.length dY) l.length (I l) ∧ Below w.heap.size w w'
theorem OwnInts.row {w' : World} {l : List Int} {Y : Option Addr} {dY B : Nat} (h : w'.ownsRow B 3 1 (.slice Y l.length dY) l.length (I l)) : RowAt w' Y (I l) := by
  obtain ⟨Y2, d2, hv, hr⟩ := own_row1 h
  obtain rfl := (Value.slice.inj hv).1
  exact hr
set_option maxHeartbeats 1000000 in
theorem rnext_c (g : XG) (E : Option Addr) (d : Nat) (x : Int) (w : World) (h : GAt w E g) (hl : g.es.length ≤ 16384) :
    Calls Try.prog 49 #[g.val E d, .int .i64 x] w (OwnInts (nxt g x) w) := by
  have hbx := box_at (w := w) (t := 24) g E d
  have hv : g.val E d = .agg #[.int .i64 g.n, .slice E g.es.length d] := rfl
  rw [hv]
  have HG := Lib.hid h
  clear hv h
  go_enter Try.func49, Try.ntmps49
  go_wp2
  obtain ⟨w0, hw0⟩ : ∃ w0, w0 = w.alloc (.cells #[.int .i64 g.n, .slice E g.es.length d] 24) := ⟨_, rfl⟩
  rw [← hw0] at hbx ⊢
  have hz0 : w0.heap.size = w.heap.size + 1 := by rw [hw0, al_size]
  have hown0 : (w0.alloc (.cells #[] 3)).ownsRow (w.heap.size + 1) 3 1 (.slice (some ⟨w0.heap.size, 0, none⟩) 0 0) 0 [] := World.ownsRow_made w0 #[] 0 (by omega) (by simp [maxLen]) (by simp)
  have hbx1 := hbx.below ((Below.refl w0.heap.size w0).alloc (Nat.le_refl _) (.cells #[] 3))
  rw [hz0] at hown0
  have HBX1 := Lib.hid hbx1
  have HOWN0 := Lib.hid hown0
  have HZ0 := Lib.hid hz0
  clear hw0 hz0 hown0 hbx1 hbx
  go_loopw [5, 6] (fun v i wr => ∃ j : Nat, i = .int .i64 j ∧ j ≤ g.es.length ∧ wr.ownsRow (w.heap.size + 1) 3 1 v (tgt (g.es.take j) x).length (I (tgt (g.es.take j) x)) ∧ BoxAt w wr w.heap.size g E d) (fun _ i _ => g.es.length - (intOf i).toNat)
  case atStart => exact ⟨0, rfl, by omega, HOWN0.out, HBX1.out⟩
  case round =>
    obtain ⟨j, rfl, hj, hown, hbox⟩ := hrel
    have d0 := hbox.c0
    have d1 := hbox.c1
    by_cases hlt : j < g.es.length
    · have hj0 : (0 : Int) ≤ (j : Int) := by omega
      have hj1 : (j : Int) < (g.es.length : Int) := by omega
      obtain ⟨b, off, rfl, hbl, ha, hb⟩ := (HG.out.below hbox.bel).edge hlt
      have htn : tgt (g.es.take (j + 1)) x = if g.es[j].1 = x then tgt (g.es.take j) x ++ [g.es[j].2] else tgt (g.es.take j) x := tgt_next g.es j hlt x
      have htl := tgt_length (g.es.take j) x
      rw [List.length_take] at htl
      obtain ⟨a, hea⟩ : ∃ a, a = g.es[j].1 := ⟨_, rfl⟩
      obtain ⟨y, hey⟩ : ∃ y, y = g.es[j].2 := ⟨_, rfl⟩
      rw [← hea] at ha htn
      rw [← hey] at hb htn
      have hil : (I (tgt (g.es.take j) x)).length = (tgt (g.es.take j) x).length := List.length_map _
      have hown2 : wr.ownsRow (w.heap.size + 1) 3 1 u5 (I (tgt (g.es.take j) x)).length (I (tgt (g.es.take j) x)) := by rw [hil]; exact hown
      have hbs : w.heap.size + 1 ≤ wr.heap.size := hbox.lt
      have HTN := Lib.hid htn
      have HIL := Lib.hid hil
      have HOWN := Lib.hid hown
      have HOWN2 := Lib.hid hown2
      have HBX := Lib.hid hbox
      clear htn hil hown hown2 hbox hea hey
      by_cases hax : a = x
      · have hd : (a == x) = true := by simpa using hax
        have HAX := Lib.hid hax
        clear hax
        go_wp2_with (at_builtin; refine app_new (w.heap.size + 1) (by rfl) _ _ 25 3 (.int .i64 0) 8 (by rfl) Try.underlying25 info_int rfl _ (I (tgt (g.es.take j) x)) (.int .i64 y) (by rfl) _ (by rfl) rfl rfl HOWN2.out hbs (by have := HIL.out; omega) (by have := HIL.out; omega) ?_; intro v5 w5 ho5 hg5 hb5 hs5)
        have hbx5 : BoxAt w w5 w.heap.size g (some ⟨b, off, none⟩) d := HBX.out.grown hg5 (fun k e => by have := (HOWN.out.lt k e).1; omega)
        have HBX5 := Lib.hid hbx5
        rw [HIL.out] at ho5
        clear hbx5 hg5 hb5
        go_roundw
        case rel =>
          refine ⟨j + 1, by go_num, by omega, ?_, HBX5.out⟩
          rw [HTN.out, if_pos HAX.out]
          have e : I (tgt (g.es.take j) x ++ [y]) = I (tgt (g.es.take j) x) ++ [.int .i64 y] := List.map_append
          rw [e, List.length_append]
          exact ho5
        case measure => simp [intOf]; omega
      · have hd : (a == x) = false := by simpa using hax
        have HAX := Lib.hid hax
        clear hax
        go_wp2
        go_roundw
        case rel => exact ⟨j + 1, by go_num, by omega, by rw [HTN.out, if_neg HAX.out]; exact HOWN.out, HBX.out⟩
        case measure => simp [intOf]; omega
    · have hge : ¬ (j : Int) < (g.es.length : Int) := by omega
      rw [show g.es.take j = g.es from List.take_of_length_le (by omega)] at hown
      obtain ⟨Y, dY, hvY, hrY⟩ := own_row1 hown
      rw [List.length_map] at hvY
      subst hvY
      have htl := tgt_length g.es x
      have hris := rising_c dY hrY (by omega)
      have HRIS := Lib.hid hris
      have HBX := Lib.hid hbox
      have hbs := hbox.bel.size
      clear hris hown hbox hrY
      go_wp2_with (go_at_call 72; refine HRIS.out.mono ?_; rintro e w1 ⟨Z, dZ, rfl, ho1, hb1⟩)
      go_ret
      exact ⟨Z, dZ, rfl, own_base ho1 hbs, HBX.out.bel.trans (hb1.mono hbs)⟩
end Go.Proofs.Ytpdfcffeinbcaaa
