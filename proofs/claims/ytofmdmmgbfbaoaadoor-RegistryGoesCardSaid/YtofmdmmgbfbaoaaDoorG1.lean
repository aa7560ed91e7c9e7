/- Going over a registry: the iterator. -/
import Derived.Test.YtofmdmmgbfbaoaaDoorP11
import Derived.RangeFuncNested
import Derived.RangeFuncBound
import Derived.RangeFuncCalls
import Derived.RangeFuncLeaves
import Derived.OwnWalkIn
import Derived.TacticsInMore
import Derived.LoopNIn
import Derived.LoopIn
import Derived.Shelf.RegionOpen
namespace Go.Proofs.YtofmdmmgbfbaoaaDoor
open Go.RowKit Go.Maps Go.ChangeMaps Go.WideShapes Go.Shelf

attribute [local go_sem] Oper.semAt_some
/-- What Each's region keeps. -/
def SD (w : World) (rb : Nat) (V : Option Addr) (n c : Nat) (w' : World) : Prop := Below w.heap.size w w' ∧ w'.cell? ⟨rb, 0, none⟩ = some (.slice V n c)
theorem SD.drew {w W : World} {rb : Nat} {V : Option Addr} {n c : Nat} (h : SD w rb V n c W) : SD w rb V n c W.drew := ⟨h.1.trans ((Below.refl _ _).drew.mono h.1.size), h.2⟩
theorem SD.alloc {w W : World} {rb : Nat} {V : Option Addr} {n c : Nat} (h : SD w rb V n c W) (hr : rb < w.heap.size) (o : Obj) : SD w rb V n c (W.alloc o) := ⟨h.1.alloc h.1.size o, (((Below.refl _ W).alloc (Nat.le_refl _) o).cell (p := ⟨rb, 0, none⟩) (Nat.lt_of_lt_of_le hr h.1.size)).trans h.2⟩
/-- Each hands back what goes over the row as it stands. -/
theorem eachM_c (w : World) (base rb mb : Nat) (v : Value) (gs : List PRow) {fz : Bool} (V : Option Addr) (c : Nat) (hv : v = .slice V gs.length c) (h : RegF w base rb mb v gs fz) :
    Calls Tryd.prog 17 #[.pointer (some ⟨rb, 0, none⟩)] w fun e w' => ∃ c', e = .returned (.func (.func 31) #[] #[.pointer (some ⟨w.heap.size, 0, none⟩)]) ∧ w'.cell? ⟨w.heap.size, 0, none⟩ = some (.slice V gs.length c') ∧ w.heap.size < w'.heap.size ∧ Below w.heap.size w w' := by
  subst hv
  have q0 := h.c0
  have hcap : gs.length ≤ c := own_cap9 h.own
  have hc0 : (0 : Int) ≤ (gs.length : Int) := Int.natCast_nonneg _
  have hc1 : (gs.length : Int) ≤ (c : Int) := by omega
  have hal : ∀ o, Below w.heap.size w (w.alloc o) := fun o => (Below.refl _ _).alloc (Nat.le_refl _) o
  have HAL := Lib.hid hal
  have hrb := h.rbl
  have H0 := Lib.hid (show SD w rb V gs.length c w from ⟨Below.refl _ _, h.c0⟩)
  clear h hal
  go_enter Tryd.func17, Tryd.ntmps17
  go_wp2_with fail
  go_region_held3 (fun w' => Below w.heap.size w w' ∧ w'.cell? ⟨rb, 0, none⟩ = some (.slice V gs.length c))
    (first | (show SD w rb V gs.length c _; repeat (first | with_reducible exact H0.out | exact H0.out | with_reducible refine SD.drew ?_ | with_reducible refine SD.alloc ?_ hrb _)))
    (fail)
  go_wp2
  refine bodyPost_ret (v := .func (.func 31) #[] #[.pointer (some ⟨w.heap.size, 0, none⟩)]) (by simp [results, Tryd.results17, go_sem]; try rfl) rfl ?_
  exact ⟨gs.length, rfl, by show (w.alloc (.cells #[.slice V gs.length gs.length] 22)).cell? _ = _; rw [cell_new]; rfl, by show _ < (w.alloc _).heap.size; rw [al_size]; omega, (HAL.out _).trans (Below.refl _ _).drew⟩
set_option maxHeartbeats 4000000 in
set_option maxRecDepth 100000 in
/-- What goes over a row: each provider, its expression one's own. -/
theorem iter_c (n l Bs n₀ B1 : Nat) (hn : 1 ≤ n) (gs : List PRow) (V : Option Addr) (c : Nat) (J : Nat → World → Prop) (W : World) (hl : gs.length ≤ 256) (hB : Bs < n₀) (hnB : n₀ ≤ B1) (hnW : B1 ≤ W.heap.size) (hBs : W.cell? ⟨Bs, 0, none⟩ = some (.slice V gs.length c)) (hps : ProvsAt W V gs) (hlow : gs = [] ∨ ∀ g o, V = some ⟨g, o, none⟩ → g < n₀) (hex : ∀ q ∈ gs, q.p.expr = [] ∨ ∀ g o, q.A = some ⟨g, o, none⟩ → g < n₀)
    (hJ : ∀ k A B, J k A → A.grownBy B none → J k B)
    (hY : ∀ (k : Nat) (W1 : World) (A : Option Addr) (d : Nat) (hk : k < gs.length), J k W1 → B1 ≤ W1.heap.size → W1.ownsRow B1 58 4 (.slice A gs[k].p.expr.length d) gs[k].p.expr.length (opCells gs[k].p.expr) → YieldAt Fence.wide (n - 1) Tryd.prog l #[.int .i64 (k : Int), gs[k].p.val A d] W1 fun e W' => e = .returned (.bool true) ∧ J (k + 1) W' ∧ Below n₀ W1 W')
    (h0 : J 0 W) :
    CallsIn Fence.wide n Tryd.prog 31 #[.func (.yield l) #[] #[], .pointer (some ⟨Bs, 0, none⟩)] W fun e W' => (∃ v, e = .returned v) ∧ J gs.length W' ∧ Below n₀ W W' := by
  refine callsIn_of_wp Tryd.func31 rfl trivial ?_ rfl
  simp only [Tryd.ntmps31, List.size_toArray, List.length_cons, List.length_nil, Nat.reduceAdd, Nat.reduceSub, Array.replicate_succ, Array.replicate_zero, List.push_toArray, List.append_toArray, List.nil_append, List.cons_append]
  gi_wp2
  gi_loopw [7] (fun i wr => ∃ k : Nat, k ≤ gs.length ∧ i = .int .i64 k ∧ J k wr ∧ Below n₀ W wr) (fun i _ => gs.length - (intOf i).toNat)
  case atStart => exact ⟨0, Nat.zero_le _, rfl, h0, Below.refl _ _⟩
  case round =>
    obtain ⟨k, hk, rfl, hJs, hnx⟩ := hrel
    by_cases hlt : k < gs.length
    · rcases hps.lies with h | ⟨b, off, rfl, hb, hc⟩
      · rw [h] at hlt; simp at hlt
      have hbn : b < n₀ := by
        rcases hlow with h | h
        · rw [h] at hlt; simp at hlt
        · exact h b off rfl
      obtain ⟨g0, g1, g2, g3, g4, g5, g6, g7, g8⟩ := (hc k hlt).same fun o => hnx.cell (p := ⟨b, o, none⟩) hbn
      have hpk := hps.each gs[k] (List.getElem_mem hlt)
      have hxk := hex gs[k] (List.getElem_mem hlt)
      have hi0 : (0 : Int) ≤ (k : Int) := Int.natCast_nonneg _
      have hi1 : (k : Int) < (gs.length : Int) := by omega
      have hYk := fun W1 A d => hY k W1 A d hlt
      generalize gs[k] = r at *
      obtain ⟨⟨nm, es, ag, p1, p2, p3, p4, ck, ct⟩, A, ca⟩ := r
      have hops : OpsAt wr A es := by
        rcases hpk.ops with h1 | ⟨b', off', e, _, hcc⟩
        · exact .inl h1
        · rcases hxk with h2 | h2
          · exact .inl h2
          · have hb' := h2 b' off' e
            have hbk := hnx.block b' hb'
            have hs := hnx.size
            refine .inr ⟨b', off', e, by omega, fun i hi => ?_⟩
            have h3 := hcc i hi
            simp only [World.cell?_of_block (a := ⟨b', _, none⟩) hbk]
            exact h3
      have hws : B1 ≤ wr.heap.size := Nat.le_trans hnW hnx.size
      have hcc := fun W h => copied_own ⟨nm, es, ag, p1, p2, p3, p4, ck, ct⟩ A ca W h hpk.len
      have hal : ∀ o, Below wr.heap.size wr (wr.alloc o) := fun o => (Below.refl _ _).alloc (Nat.le_refl _) o
      have HCC := Lib.hid hcc
      have HAL := Lib.hid hal
      have HYK := Lib.hid hYk
      have HOPS := Lib.hid hops
      clear hcc hal hYk hY hops hpk hc hxk hex hlow
      simp only [XProv.val] at *
      gi_wp2_with (refine ⟨trivial, ?_⟩; gi_at_call 22; refine (callsIn_wide.2 (HCC.out _ (HOPS.out.below (HAL.out _)))).mono ?_; rintro e w3 ⟨A3, c3, rfl, hown3, hb3⟩; simp only [XProv.val] at hown3 ⊢; have hb13 := (HAL.out _).trans (hb3.mono (HAL.out _).size); have hJ3 := hJ k wr w3 hJs ⟨hb13.os, hb13.tape, hb13.output, hb13.size, fun i hi _ => hb13.block i hi⟩; obtain ⟨fn, tmps, assign, body, hy, hR⟩ := HYK.out w3 A3 c3 hJ3 (Nat.le_trans hws hb13.size) (hown3.mono (Nat.le_trans hws (HAL.out _).size)); have HB13 := Lib.hid hb13; clear hb13 hown3 hb3 hJ3)
      refine hR.mono ?_
      rintro e W3 ⟨rfl, hJ4, hk4⟩
      gi_wp2
      go_roundw
      case rel => exact ⟨k + 1, by omega, by go_num, hJ4, (hnx.trans (HB13.out.mono (Nat.le_trans (Nat.le_trans hnB hnW) hnx.size))).trans hk4⟩
      case measure => simp [intOf]; omega
    · obtain rfl : k = gs.length := by omega
      gi_wp2
      go_end0
      exact ⟨⟨_, rfl⟩, hJs, hnx⟩
end Go.Proofs.YtofmdmmgbfbaoaaDoor
