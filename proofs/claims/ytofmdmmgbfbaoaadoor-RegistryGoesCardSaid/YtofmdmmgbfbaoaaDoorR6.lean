/- The registry's Add, taken. -/
import Derived.Test.YtofmdmmgbfbaoaaDoorR5
import Derived.Deep.RegionLaw
namespace Go.Proofs.YtofmdmmgbfbaoaaDoor
open Go.RowKit Go.Maps Go.ChangeMaps Go.WideShapes

theorem ops_drewN {w : World} {A : Option Addr} {es : List XOp} (h : OpsAt w A es) (n : Nat) : OpsAt (w.drewN n) A es := h
theorem reads_new (w : World) (news : List Value) (t : TypeId) (size : Nat) (h : news.length = size) : Reads (w.alloc (.cells news.toArray t)) (w.alloc (.cells news.toArray t)).heap.size size (some ⟨w.heap.size, 0, none⟩) 1 news :=
  ⟨by omega, fun _ => ⟨_, rfl, by rw [al_size]; show w.heap.size < w.heap.size + 1; omega, fun j u hu => by rw [add_zero, cell_new]; simpa using hu⟩⟩
set_option maxHeartbeats 4000000 in
set_option maxRecDepth 100000 in
theorem add_yes (w : World) (base rb mb : Nat) (v : Value) (rs : List PRow) (p : XProv) (A : Option Addr) (c : Nat) (h : RegAt w base rb mb v rs) (hp : ProvAt w A p) (hkeys : KeysIn w) (h0 : provF p = 0) (hM : memB p.name (namesL rs) = false) (hlt : rs.length < 256) :
    Calls Tryd.prog 8 #[.pointer (some ⟨rb, 0, none⟩), p.val A c] w (AddYes base rb mb v rs p w) := by
  have hal : ∀ o, Below w.heap.size w (w.alloc o) := fun o => (Below.refl _ _).alloc (Nat.le_refl _) o
  have hcp := fun W h1 h2 => checkProv_c p A c W h1 h2
  have hcc := fun W h1 => copied_c p A c W h1 hp.len
  have b0 : (provF p != 0) = false := by simpa using h0
  have hns := hp.name
  have hli : (rs.length : Int) < 256 := by omega
  obtain ⟨V, cv, hv, _⟩ := h.row
  subst hv
  have hq := fun o => (h.below (hal o)).c2
  have HAL := Lib.hid hal
  have HCP := Lib.hid hcp
  have HCC := Lib.hid hcc
  have HM := Lib.hid hM
  have HR := Lib.hid h
  have H0 := Lib.hid h0
  have hPE := hp
  clear h0 hal hcp h hM hcc
  obtain ⟨nm, es, ag, p1, p2, p3, p4, ck, ct⟩ := p
  simp only [XProv.val] at *
  go_enter Tryd.func8, Tryd.ntmps8
  go_wp2_with (go_at_call 21; refine (HCP.out _ (hp.below (HAL.out _)) (hkeys.below (HAL.out _))).mono ?_; rintro e w1 ⟨rfl, hb1⟩; have hbw1 := (HAL.out _).trans (hb1.mono (HAL.out _).size); have q0 : w1.cell? ⟨w.heap.size, 0, none⟩ = some (.string nm) := (hb1.cell (p := ⟨w.heap.size, 0, none⟩) (by simp)).trans (by simp); have q1 : w1.cell? ⟨w.heap.size, 1, none⟩ = some (.slice A es.length c) := (hb1.cell (p := ⟨w.heap.size, 1, none⟩) (by simp)).trans (by simp); have q2 : w1.cell? ⟨w.heap.size, 2, none⟩ = some (.bool ag) := (hb1.cell (p := ⟨w.heap.size, 2, none⟩) (by simp)).trans (by simp); have q3 : w1.cell? ⟨w.heap.size, 3, none⟩ = some (.int .i64 p1) := (hb1.cell (p := ⟨w.heap.size, 3, none⟩) (by simp)).trans (by simp); have q4 : w1.cell? ⟨w.heap.size, 4, none⟩ = some (.int .i64 p2) := (hb1.cell (p := ⟨w.heap.size, 4, none⟩) (by simp)).trans (by simp); have q5 : w1.cell? ⟨w.heap.size, 5, none⟩ = some (.int .i64 p3) := (hb1.cell (p := ⟨w.heap.size, 5, none⟩) (by simp)).trans (by simp); have q6 : w1.cell? ⟨w.heap.size, 6, none⟩ = some (.int .i64 p4) := (hb1.cell (p := ⟨w.heap.size, 6, none⟩) (by simp)).trans (by simp); have q7 : w1.cell? ⟨w.heap.size, 7, none⟩ = some (.int .i64 ck) := (hb1.cell (p := ⟨w.heap.size, 7, none⟩) (by simp)).trans (by simp); have q8 : w1.cell? ⟨w.heap.size, 8, none⟩ = some (.string ct) := (hb1.cell (p := ⟨w.heap.size, 8, none⟩) (by simp)).trans (by simp); have hsz1 : w.heap.size < w1.heap.size := Nat.lt_of_lt_of_le (by simp) hb1.size)
  have hr1 := (HR.out.below hbw1)
  have c1 := hr1.c1
  have c0 := hr1.c0
  have z0 := hr1.z0
  obtain ⟨n, F, hn, htab, hF⟩ := hr1.tab
  have hlk := fun k => tab_look (htab.drewN k) hns
  have hio : (F nm).isSome = false := by rw [hF, idxO_some]; exact HM.out
  rw [hio] at hlk
  generalize (F nm).getD 0 = fi at *
  have HR1 := Lib.hid hr1
  clear htab hF hr1 hio
  obtain ⟨i0, hi, hzz⟩ := Option.map_eq_some_iff.1 info_prov
  simp only [Prod.mk.injEq] at hzz
  have HI := Lib.hid hi
  have HZ := Lib.hid hzz
  clear hi hzz
  go_quiet (fail)
  go_wp2
  go_region_law (first
    | (go_simp; go_at_call 22; refine (HCC.out _ (ops_drewN (hp.ops.below hbw1) _)).mono ?_; rintro e w3 ⟨A3, c3, rfl, hx3, hf3, hb3'⟩; have hb3 : Below w1.heap.size w1 w3 := (below_drewN (Below.refl w1.heap.size w1) _).trans hb3'; clear hb3'; have c03 := (HR1.out.below hb3).c0; have l03 := (HR1.out.below hb3).rbl)
    | (refine step_append_any _ (by rfl) _ _ 22 (by rfl) base 36 i0 _ 9 104 Tryd.underlying22 HI.out HZ.out.1 HZ.out.2.1 HZ.out.2.2 (by decide) (by omega) (.slice V rs.length cv) rs.length (rowCells rs) (by rfl) ((own_below HR1.out.own hb3).alloc _) _ (some ⟨w3.heap.size, 0, none⟩) 1 1 (PRow.cells ⟨⟨nm, es, ag, p1, p2, p3, p4, ck, ct⟩, A3, c3⟩) (by rfl) (reads_new w3 _ _ 9 rfl) (by simp [PRow.cells, Value.oneCell']) (by simp only [maxLen]; omega) (by omega) (by have h1 := HR1.out.lo; have h2 := HR1.out.rbl; have h3 := hb3.size; rw [al_size]; have h4 : w1.heap.size ≤ w3.heap.size := h3; omega) ?_; intro v5 w5 hown5 hg5 hat5; obtain ⟨g5, cap5, hv5, _, _⟩ := hown5.form (by omega); subst hv5; have h2 := HR1.out.below (hb3.alloc hb3.size (.cells (PRow.cells ⟨⟨nm, es, ag, p1, p2, p3, p4, ck, ct⟩, A3, c3⟩).toArray 36)); have hrb5 := hg5.block rb h2.rbl (fun e => h2.ne.2.1 e.symm); have c5 : w5.cell? ⟨rb, 0, none⟩ = some (.slice V rs.length cv) := (World.cell?_of_block (a := ⟨rb, 0, none⟩) hrb5).trans h2.c0; have z5 : w5.frozen? ⟨rb, 0, none⟩ = false := (by have h3 := h2.z0; unfold World.frozen? at h3 ⊢; rw [hrb5]; exact h3); clear h2 hrb5))
  all_goals
    have hb03 : Below w.heap.size w w3 := hbw1.trans (hb3.mono hbw1.size)
    have hm := mid_of (r := ⟨⟨nm, es, ag, p1, p2, p3, p4, ck, ct⟩, A3, c3⟩) HR.out hb03 ⟨hx3, hp.len, hp.name, hp.ct, hp.text⟩ (hf3.more hbw1.size (Nat.le_refl _)) hown5 hg5 hat5
    have q06 := (mid_new (v5 := .slice (some ⟨g5, 0, none⟩) (rs.length + 1) cap5) HR.out hg5 w.heap.size (Nat.le_refl _) (Nat.lt_of_lt_of_le hsz1 hb3.size) 0).trans ((hb3.cell (p := ⟨w.heap.size, 0, none⟩) hsz1).trans q0)
    generalize w5.setCell ⟨rb, 0, none⟩ (.slice (some ⟨g5, 0, none⟩) (rs.length + 1) cap5) = W6 at *
    have m1 := hm.c1
    obtain ⟨n6, F6, hn6, ⟨D6, hD6, hDs6⟩, hF6⟩ := hm.tab
    have hkl := kl_of nm hns
    have HM6 := Lib.hid hm
    have HDS := Lib.hid hDs6
    have HF6 := Lib.hid hF6
    have HKL := Lib.hid hkl
    clear hm hDs6 hF6 hkl c5 z5 hown5 hg5 hat5 hx3 hf3 c03 l03 hb3 q0 q1 q2 q3 q4 q5 q6 q7 q8 c0 c1 z0 hlk
    go_wp2
    go_still_tail 7, (by kernel_rfl)
    change wpList _ _ _ _ _ (World.drew W6)
    have hD6' : (World.drew W6).ownsMap Tryd.prog 9 (plainElem Tryd.prog 3) mb n6 D6 := hD6
    have hgr : ∀ w7, (World.drew W6).grownBy w7 (some mb) → W6.grownBy w7 (some mb) := fun w7 h => ⟨h.os, h.tape, h.output, h.size, h.block⟩
    generalize World.drew W6 = W7 at *
    go_wp2_with (at_mapUpdate; refine wpList_mapUpdate_own _ (by rfl) _ _ _ 61 (by rfl) 9 3 keyed Tryd.underlying61 (plainElem Tryd.prog 3) mb n6 D6 (by rfl) hD6' (by simp only [maxLen]; omega) (.string nm) (.int .i64 (rs.length : Int)) (kl nm) (by rfl) (by rfl) HKL.out (.lit (.int .i64 (rs.length : Int))) [] (plainElem_int Tryd.underlying3 (int_wf (by omega) (by omega))) ?_; intro w8 hD8 hg8; go_frame)
    go_ret2
    exact ⟨rfl, _, A3, c3, reg_of_mid HR.out HM6.out hlt HM.out hn6 (TabIs.put hD6 HDS.out hns hD8) HF6.out (hgr _ hg8)⟩
end Go.Proofs.YtofmdmmgbfbaoaaDoor
