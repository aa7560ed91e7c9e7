/- The registry's Add. -/
import Derived.Test.YtofmdmmgbfbaoaaDoorR3
import Derived.StillTailTactics
namespace Go.Proofs.YtofmdmmgbfbaoaaDoor
open Go.RowKit Go.Maps Go.ChangeMaps Go.WideShapes

/-- v, ok := m[s], run. -/
theorem tab_look {w : World} {b n : Nat} {F : ByteArray → Option Int} {s : ByteArray} (h : TabIs w b n F) (hs : s.size ≤ 140737488355328) : (Instr.lookup 61 (.map (some b)) (.string s) true).run Tryd.prog w = .ok (.tuple #[.int .i64 ((F s).getD 0), .bool (F s).isSome]) w := by
  obtain ⟨D, hD, hDs⟩ := h
  obtain ⟨v, ps, hrun, hv⟩ := hD.look_ok keyed Tryd.underlying61 (zeroI _) (zd := .lit (.int .i64 0)) (zp := []) (plainElem_int Tryd.underlying3 (by decide)) (kl_of s hs)
  rw [(hDs s).2] at hv
  obtain ⟨a, rfl, hz, _⟩ := plainElem_int_inv Tryd.underlying3 hv
  rw [hrun, (hDs s).1]
  have h2 : a = (F s).getD 0 := by
    have := congrArg Prod.fst hz
    simp only [DataW.lit.injEq, Lit.int.injEq, true_and] at this
    exact this.symm
  rw [h2]
theorem TabIs.drewN {w : World} {b n : Nat} {F : ByteArray → Option Int} (h : TabIs w b n F) (k : Nat) : TabIs (w.drewN k) b n F := h
/-- The answer of Add: number, word. -/
def addAns (N : List ByteArray) (p : XProv) : Int × Int :=
  if provF p ≠ 0 then (0, provF p) else if memB p.name N = true then (0, 6) else if 256 ≤ N.length then (0, 3) else ((N.length : Int), 0)
/-- What Add leaves where it is refused. -/
def AddNo (N : List ByteArray) (p : XProv) (w : World) (e : Ending) (w' : World) : Prop := e = .returned (.tuple #[.int .i64 0, .int .i64 (addAns N p).2]) ∧ Below w.heap.size w w'
/-- What Add leaves where it is taken. -/
def AddYes (base rb mb : Nat) (v : Value) (rs : List PRow) (p : XProv) (w : World) (e : Ending) (w' : World) : Prop :=
  e = .returned (.tuple #[.int .i64 (rs.length : Int), .int .i64 0]) ∧ ∃ v' A' c', RegAt w' base rb mb v' (rs ++ [⟨p, A', c'⟩]) ∧ Fresh w.heap.size w'.heap.size A' ∧ (∀ i, i < w.heap.size → ¬ RegT rb mb v i → w'.heap[i]? = w.heap[i]?) ∧ Below base w w' ∧ (v'.ownBlock = v.ownBlock ∨ ∃ g, v'.ownBlock = some g ∧ w.heap.size ≤ g)
set_option maxHeartbeats 4000000 in
set_option maxRecDepth 100000 in
theorem add_no (w : World) (base rb mb : Nat) (v : Value) (rs : List PRow) (p : XProv) (A : Option Addr) (c : Nat) (h : RegAt w base rb mb v rs) (hp : ProvAt w A p) (hkeys : KeysIn w) (hno : (addAns (namesL rs) p).2 ≠ 0) :
    Calls Tryd.prog 8 #[.pointer (some ⟨rb, 0, none⟩), p.val A c] w (AddNo (namesL rs) p w) := by
  have hal : ∀ o, Below w.heap.size w (w.alloc o) := fun o => (Below.refl _ _).alloc (Nat.le_refl _) o
  have hcp := fun W h1 h2 => checkProv_c p A c W h1 h2
  by_cases h0 : provF p = 0
  · have b0 : (provF p != 0) = false := by simpa using h0
    have hns := hp.name
    have hkl := kl_of p.name hns
    cases hM : memB p.name (namesL rs)
    · have hl3 : 256 ≤ (namesL rs).length := by
        apply Classical.byContradiction
        intro hc
        apply hno
        unfold addAns
        rw [if_neg (by simpa using h0), if_neg (by rw [hM]; simp), if_neg hc]
      have hA : addAns (namesL rs) p = (0, 3) := by unfold addAns; rw [if_neg (by simpa using h0), if_neg (by rw [hM]; simp), if_pos hl3]
      rw [namesL_length] at hl3
      have hli : (256 : Int) ≤ (rs.length : Int) := by omega
      obtain ⟨V, cv, hv, _⟩ := h.row
      subst hv
      have hq := fun o => (h.below (hal o)).c2
      have HAL := Lib.hid hal
      have HA := Lib.hid hA
      have HCP := Lib.hid hcp
      have HKL := Lib.hid hkl
      have HM := Lib.hid hM
      have HR := Lib.hid h
      have H0 := Lib.hid h0
      clear hA h0 hal hcp hno h hkl hM
      obtain ⟨nm, es, ag, p1, p2, p3, p4, ck, ct⟩ := p
      simp only [XProv.val] at *
      go_enter Tryd.func8, Tryd.ntmps8
      go_wp2_with (go_at_call 21; refine (HCP.out _ (hp.below (HAL.out _)) (hkeys.below (HAL.out _))).mono ?_; rintro e w1 ⟨rfl, hb1⟩; have hbw1 := (HAL.out _).trans (hb1.mono (HAL.out _).size); have q0 : w1.cell? ⟨w.heap.size, 0, none⟩ = some (.string nm) := (hb1.cell (p := ⟨w.heap.size, 0, none⟩) (by simp)).trans (by simp))
      have hr1 := (HR.out.below hbw1)
      have c1 := hr1.c1
      have c0 := hr1.c0
      obtain ⟨n, F, hn, htab, hF⟩ := hr1.tab
      have hlk := fun k => tab_look (htab.drewN k) hns
      have hio : (F nm).isSome = false := by rw [hF, idxO_some]; exact HM.out
      rw [hio] at hlk
      generalize (F nm).getD 0 = fi at *
      clear htab hF hr1 hio
      go_quiet (fail)
      go_wp2
      go_ret2
      unfold AddNo
      rw [HA.out]
      exact ⟨rfl, below_drewN hbw1 _⟩
    · have hA : addAns (namesL rs) p = (0, 6) := by unfold addAns; rw [if_neg (by simpa using h0), if_pos hM]
      have hq := fun o => (h.below (hal o)).c2
      have HAL := Lib.hid hal
      have HA := Lib.hid hA
      have HCP := Lib.hid hcp
      have HKL := Lib.hid hkl
      have HM := Lib.hid hM
      have HR := Lib.hid h
      have H0 := Lib.hid h0
      clear hA h0 hal hcp hno h hkl hM
      obtain ⟨nm, es, ag, p1, p2, p3, p4, ck, ct⟩ := p
      simp only [XProv.val] at *
      go_enter Tryd.func8, Tryd.ntmps8
      go_wp2_with (go_at_call 21; refine (HCP.out _ (hp.below (HAL.out _)) (hkeys.below (HAL.out _))).mono ?_; rintro e w1 ⟨rfl, hb1⟩; have hbw1 := (HAL.out _).trans (hb1.mono (HAL.out _).size); have q0 : w1.cell? ⟨w.heap.size, 0, none⟩ = some (.string nm) := (hb1.cell (p := ⟨w.heap.size, 0, none⟩) (by simp)).trans (by simp))
      have hr1 := (HR.out.below hbw1)
      have c1 := hr1.c1
      obtain ⟨n, F, hn, htab, hF⟩ := hr1.tab
      have hlk := fun k => tab_look (htab.drewN k) hns
      have hio : (F nm).isSome = true := by rw [hF, idxO_some]; exact HM.out
      rw [hio] at hlk
      generalize (F nm).getD 0 = fi at *
      clear htab hF hr1 hio
      go_quiet (fail)
      go_wp2
      go_ret2
      unfold AddNo
      rw [HA.out]
      exact ⟨rfl, below_drewN hbw1 _⟩
  · have hA : addAns (namesL rs) p = (0, provF p) := by unfold addAns; rw [if_pos h0]
    have b0 : (provF p != 0) = true := by simpa using h0
    have hq := fun o => (h.below (hal o)).c2
    have HAL := Lib.hid hal
    have HA := Lib.hid hA
    have HCP := Lib.hid hcp
    clear hA h0 hal hcp hno h
    obtain ⟨n, es, ag, p1, p2, p3, p4, ck, ct⟩ := p
    simp only [XProv.val] at *
    go_enter Tryd.func8, Tryd.ntmps8
    go_wp2_with (go_at_call 21; refine (HCP.out _ (hp.below (HAL.out _)) (hkeys.below (HAL.out _))).mono ?_; rintro e w1 ⟨rfl, hb1⟩; have hbw1 := (HAL.out _).trans (hb1.mono (HAL.out _).size))
    go_ret2
    unfold AddNo
    rw [HA.out]
    exact ⟨rfl, hbw1⟩
end Go.Proofs.YtofmdmmgbfbaoaaDoor
