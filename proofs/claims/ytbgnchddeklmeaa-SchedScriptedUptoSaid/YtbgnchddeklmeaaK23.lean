/- The pick by changing weights. -/
import Derived.Deep.RegionWith
import Derived.Test.YtbgnchddeklmeaaK22
namespace Go.Proofs.Ytbgnchddeklmeaa
open Go.RowKit
theorem pctAll_step (p : Pol) (l : List Int) (j : Nat) (h : j < l.length) : pctAll p (l.take (j + 1)) = pctStep (pctAll p (l.take j)) l[j] := by
  unfold pctAll
  rw [List.take_succ_eq_append_getElem h, List.foldl_append]
  rfl
theorem set_far (w : World) (b o o' : Nat) (u : Value) (h : o' ≠ o) : (w.setCell ⟨b, o', none⟩ u).cell? ⟨b, o, none⟩ = w.cell? ⟨b, o, none⟩ := World.cell?_setCell_other _ _ _ _ (fun e => h (congrArg Addr.off e))
theorem set_here (w : World) (b o : Nat) (u v : Value) (h : w.cell? ⟨b, o, none⟩ = some v) : (w.setCell ⟨b, o, none⟩ u).cell? ⟨b, o, none⟩ = some u := World.cell?_setCell_same _ _ _ h
theorem PctAt.step {w : World} {b : Nat} {Xv : Value} {p : Pol} {m : Nat} (h : PctAt w b Xv p) (hm : m < 128) (hh : p.has m = false) :
    PctAt (((w.setCell ⟨b, 2 + m, none⟩ (.bool true)).setCell ⟨b, 0, none⟩ (.int .u64 (nxS p.c))).setCell ⟨b, 130 + m, none⟩ (.int .i64 (outS p.c / 8589934592))) b Xv (pctStep p (m : Int)) := by
  obtain ⟨h1, h2, h3, h4, h5, h6⟩ := h
  have hs : pctStep p (m : Int) = { p with c := nxS p.c, has := fun i => if i = m then true else p.has i, wt := fun i => if i = m then outS p.c / 8589934592 else p.wt i } := by
    unfold pctStep
    rw [if_neg (by rw [Int.toNat_natCast, hh]; decide)]
    rfl
  rw [hs]
  refine ⟨by simpa [World.setCell] using h1, ?_, ?_, fun i hi => ?_, fun i hi => ?_, fun j => by rw [World.frozen?_setCell, World.frozen?_setCell, World.frozen?_setCell]; exact h6 j⟩
  · rw [set_far _ _ _ _ _ (by omega)]
    exact set_here _ _ _ _ _ ((set_far _ _ _ _ _ (by omega)).trans h2)
  · rw [set_far _ _ _ _ _ (by omega), set_far _ _ _ _ _ (by omega), set_far _ _ _ _ _ (by omega)]
    exact h3
  · rw [set_far _ _ _ _ _ (by omega), set_far _ _ _ _ _ (by omega)]
    show _ = some (Value.bool (if i = m then true else p.has i))
    by_cases hi2 : i = m
    · subst hi2
      rw [if_pos rfl]
      exact set_here _ _ _ _ _ (h4 i hi)
    · rw [if_neg hi2, set_far _ _ _ _ _ (by omega)]
      exact h4 i hi
  · show _ = some (Value.int .i64 (if i = m then outS p.c / 8589934592 else p.wt i))
    by_cases hi2 : i = m
    · subst hi2
      rw [if_pos rfl]
      exact set_here _ _ _ _ _ ((set_far _ _ _ _ _ (by omega)).trans ((set_far _ _ _ _ _ (by omega)).trans (h5 i hi)))
    · rw [if_neg hi2, set_far _ _ _ _ _ (by omega), set_far _ _ _ _ _ (by omega), set_far _ _ _ _ _ (by omega)]
      exact h5 i hi
theorem PctAt.wt {w : World} {b : Nat} {Xv : Value} {p : Pol} {m : Nat} (v : Int) (h : PctAt w b Xv p) (hm : m < 128) :
    PctAt (w.setCell ⟨b, 130 + m, none⟩ (.int .i64 v)) b Xv { p with wt := fun i => if i = m then v else p.wt i } := by
  obtain ⟨h1, h2, h3, h4, h5, h6⟩ := h
  refine ⟨by simpa [World.setCell] using h1, ?_, ?_, fun i hi => ?_, fun i hi => ?_, fun j => by rw [World.frozen?_setCell]; exact h6 j⟩
  · rw [set_far _ _ _ _ _ (by omega)]; exact h2
  · rw [set_far _ _ _ _ _ (by omega)]; exact h3
  · rw [set_far _ _ _ _ _ (by omega)]; exact h4 i hi
  · show _ = some (Value.int .i64 (if i = m then v else p.wt i))
    by_cases hi2 : i = m
    · subst hi2
      rw [if_pos rfl]
      exact set_here _ _ _ _ _ (h5 i hi)
    · rw [if_neg hi2, set_far _ _ _ _ _ (by omega)]
      exact h5 i hi
theorem PctAt.heap {w w' : World} {b : Nat} {Xv : Value} {p : Pol} (h : PctAt w b Xv p) (e : w'.heap = w.heap) : PctAt w' b Xv p := by
  have hc : ∀ a, w'.cell? a = w.cell? a := fun a => by unfold World.cell?; rw [e]
  have hf : ∀ a, w'.frozen? a = w.frozen? a := fun a => by unfold World.frozen?; rw [e]
  obtain ⟨h1, h2, h3, h4, h5, h6⟩ := h
  exact ⟨by rw [e]; exact h1, by rw [hc]; exact h2, by rw [hc]; exact h3, fun i hi => by rw [hc]; exact h4 i hi, fun i hi => by rw [hc]; exact h5 i hi, fun j => by rw [hf]; exact h6 j⟩
theorem pctAll_row (l : List Int) : ∀ p : Pol, (pctAll p l).row = p.row ∧ (pctAll p l).kind = p.kind := by
  induction l with
  | nil => intro p; exact ⟨rfl, rfl⟩
  | cons n l ih =>
    intro p
    have h := ih (pctStep p n)
    have h2 : (pctStep p n).row = p.row ∧ (pctStep p n).kind = p.kind := by unfold pctStep; split <;> exact ⟨rfl, rfl⟩
    exact ⟨h.1.trans h2.1, h.2.trans h2.2⟩
theorem Moves.grown1 {w w' : World} {b : Nat} (h : Moves [b] w w') : w.grownBy w' (some b) := ⟨h.1, h.2.1, h.2.2.1, h.2.2.2.1, fun k hk hne => h.2.2.2.2 k hk (by simp; rintro rfl; exact hne rfl)⟩
theorem Moves.heap_eq {M : List Nat} {w w1 w2 : World} (h : Moves M w w1) (e : w2.heap = w1.heap) (e2 : w2.os = w1.os) (e3 : w2.tape = w1.tape) (e4 : w2.output = w1.output) : Moves M w w2 := ⟨e2.trans h.1, e3.trans h.2.1, e4.trans h.2.2.1, by rw [e]; exact h.2.2.2.1, fun k hk hm => by rw [e]; exact h.2.2.2.2 k hk hm⟩
theorem PctAt.grown {w w' : World} {b : Nat} {Xv : Value} {p : Pol} (h : PctAt w b Xv p) (hg : w.grownBy w' none) : PctAt w' b Xv p :=
  h.below ⟨hg.os, hg.tape, hg.output, hg.size, fun k hk => hg.block k hk (by simp)⟩
theorem idxOf_cases (xs : List Int) (x : Int) : Lib.idxOf xs x = -1 ∨ ∃ k : Nat, Lib.idxOf xs x = k ∧ k < xs.length := by
  by_cases h : x ∈ xs
  · obtain ⟨k, h1, h2, _⟩ := idxOf_at h
    exact .inr ⟨k, h1, h2⟩
  · left
    have := Lib.idxOf_miss xs xs.length x (fun j hj e => h (by rw [List.getD_eq_getElem?_getD, List.getElem?_eq_getElem hj] at e; have e2 : xs[j] = x := e; rw [← e2]; exact List.getElem_mem hj))
    rwa [List.take_length] at this
theorem ix_c {w : World} {lo n : Nat} {bad : List Nat} {X : Option Addr} {xs : List Int} (d : Nat) (x : Int) (hr : RowIn w lo n bad X xs) (hx : xs.length ≤ 4096) :
    Calls Try.prog 38 #[.slice X xs.length d, .int .i64 x] w fun e w' => e = .returned (.int .i64 (Lib.idxOf xs x)) ∧ w' = w := by
  rcases hr with rfl | ⟨b, off, rfl, _, _, _, _, hc⟩
  · exact Try.slices_Index_int_empty X d x w
  · have := Try.slices_Index_int b off xs.length d xs x w (Nat.le_refl _) (by omega) hc
    rwa [List.take_length] at this
set_option maxHeartbeats 4000000 in
theorem pick_pct {w : World} {lo n s b : Nat} {bad : List Nat} {ph : Value} {last count : Int} {often : Nat → Int} {X : Option Addr} {d : Nat} {p : Pol} {g cap : Nat} {l : List Int}
    (hS : SchAt w s ph last count often) (hP : PctAt w b (.slice X p.row.length d) p) (hr : RowIn w lo n bad X p.row) (hbb : b ∈ bad) (hsb : s ≠ b) (hgb : g ≠ b) (hp : p.row.length ≤ 4096)
    (hgl : g < w.heap.size) (hc : ∀ j (h : j < l.length), w.cell? ⟨g, j, none⟩ = some (.int .i64 l[j])) (hl0 : 0 < l.length) (hl : l.length ≤ 128) (hlo : ∀ x ∈ l, 0 ≤ x ∧ x < 128) :
    Calls Try.prog 93 #[.pointer (some ⟨b, 0, none⟩), .pointer (some ⟨s, 0, none⟩), .slice (some ⟨g, 0, none⟩) l.length cap] w fun e w' => e = .returned (.int .i64 (pctK p l : Nat)) ∧ w.grownBy w' (some b) ∧ PctAt w' b (.slice X p.row.length d) (pctEnd p count l) := by
  have HS := Lib.hid hS
  have HP := Lib.hid hP
  have HR := Lib.hid hr
  have HC := Lib.hid hc
  have HLO := Lib.hid hlo
  clear hS hP hr hc hlo
  go_enter Try.func93, Try.ntmps93
  go_wp2
  go_loopw [13] (fun i wr => ∃ j : Nat, j ≤ l.length ∧ i = .int .i64 j ∧ PctAt wr b (.slice X p.row.length d) (pctAll p (l.take j)) ∧ Moves [b] w wr) (fun i _ => l.length - (intOf i).toNat)
  case atStart => exact ⟨0, by omega, rfl, HP.out, Moves.refl _ _⟩
  case round =>
    obtain ⟨j, hj, rfl, hpt, hmv⟩ := hrel
    by_cases hlt : j < l.length
    · have hj0 : (0 : Int) ≤ (j : Int) := Int.natCast_nonneg _
      have hj1 : (j : Int) < (l.length : Int) := by omega
      have hcj := (hmv.cell hgl (by simpa using hgb) j).trans (HC.out j hlt)
      have hln := HLO.out _ (List.getElem_mem hlt)
      obtain ⟨m, hm⟩ : ∃ m : Nat, (m : Int) = l[j] := ⟨(l[j]).toNat, by omega⟩
      have hst := pctAll_step p l j hlt
      rw [← hm] at hcj hln hst
      clear hm
      have hm1 : (m : Int) < 128 := hln.2
      have hm2 : m < 128 := by omega
      have hm0 : (0 : Int) ≤ (m : Int) := hln.1
      obtain ⟨p1, hp1⟩ : ∃ p1, p1 = pctAll p (l.take j) := ⟨_, rfl⟩
      rw [← hp1] at hpt hst
      have HST := Lib.hid hst
      have HPT := Lib.hid hpt
      have HMV := Lib.hid hmv
      have hch := hpt.2.2.2.1 m hm2
      have hcf := hpt.2.2.2.2.2 (2 + m)
      have hcc := hpt.2.1
      have hcw := hpt.2.2.2.2.1 m hm2
      have hcg := hpt.2.2.2.2.2 (130 + m)
      have hc0 := hpt.2.2.2.2.2 0
      clear hp1 hst hpt hmv hln
      cases hh : p1.has m with
      | true =>
        rw [hh] at hch
        have HH := Lib.hid hh
        clear hh
        go_wp2
        go_roundw
        case rel => exact ⟨j + 1, by omega, by go_num, by rw [HST.out]; unfold pctStep; rw [if_pos (by rw [Int.toNat_natCast]; exact HH.out)]; exact HPT.out, HMV.out⟩
        case measure => simp [intOf]; omega
      | false =>
        rw [hh] at hch
        have HH := Lib.hid hh
        clear hh
        obtain ⟨c, hcd⟩ : ∃ c, c = p1.c := ⟨_, rfl⟩
        rw [← hcd] at hcc
        obtain ⟨W1, hW1⟩ : ∃ W1, W1 = wr.setCell ⟨b, 2 + m, none⟩ (.bool true) := ⟨_, rfl⟩
        have h1 : W1.cell? ⟨b, 0, none⟩ = some (.int .u64 c) := by rw [hW1, set_far _ _ _ _ _ (by omega)]; exact hcc
        have h2 : W1.frozen? ⟨b, 0, none⟩ = false := by rw [hW1, World.frozen?_setCell]; exact hc0
        obtain ⟨W2, hW2⟩ : ∃ W2, W2 = W1.drew.setCell ⟨b, 0, none⟩ (.int .u64 (nxS c)) := ⟨_, rfl⟩
        have h3 : W2.cell? ⟨b, 130 + m, none⟩ = some (.int .i64 (p1.wt m)) := by rw [hW2, set_far _ _ _ _ _ (by omega), hW1]; exact (set_far _ _ _ _ _ (by omega)).trans hcw
        have h4 : W2.frozen? ⟨b, 130 + m, none⟩ = false := by rw [hW2, World.frozen?_setCell, hW1]; exact (World.frozen?_setCell ..).trans hcg
        have h5 : wrap64 (outS c / 8589934592) = outS c / 8589934592 := by have := outS_range c; unfold wrap64; omega
        have H5 := Lib.hid h5
        have HW1 := Lib.hid hW1
        have HW2 := Lib.hid hW2
        have HCD := Lib.hid hcd
        clear hcc hc0 hcw hcg hcd hW1 hW2 h5
        go_wp2_with fail
        rw [← HW1.out]
        clear hch hcf hcj
        go_region_with (go_at_call 28; refine (throw_c c b W1.drew h1 h2).mono ?_; rintro e w3 ⟨rfl, rfl⟩; rw [← HW2.out])
        all_goals go_wp2
        all_goals go_roundw
        case rel =>
          refine ⟨j + 1, by omega, by go_num, ?_, ?_⟩
          · rw [HST.out, HW2.out, HW1.out, H5.out, HCD.out]
            exact (HPT.out.step hm2 HH.out).heap rfl
          · rw [HW2.out, HW1.out]
            refine HMV.out.trans ((Moves.set (M := [b]) wr ⟨b, 2 + m, none⟩ (.bool true) (by simp)).trans ?_)
            exact Moves.trans (Moves.set (M := [b]) _ ⟨b, 0, none⟩ (.int .u64 (nxS c)) (by simp)) (Moves.set (M := [b]) _ ⟨b, 130 + m, none⟩ _ (by simp))
        case measure => simp [intOf]; omega
    · have hge : ¬ (j : Int) < (l.length : Int) := by omega
      have hjl : j = l.length := by omega
      subst hjl
      rw [List.take_length] at hpt
      obtain ⟨p1, hp1⟩ : ∃ p1, p1 = pctAll p l := ⟨_, rfl⟩
      have hpr : p1.row = p.row := by rw [hp1]; exact (pctAll_row l p).1
      rw [← hp1] at hpt
      have HPT := Lib.hid hpt
      have HMV := Lib.hid hmv
      have HP1 := Lib.hid hp1
      have hgl2 : g < wr.heap.size := Nat.lt_of_lt_of_le hgl hmv.2.2.2.1
      have hcl : ∀ j (h : j < l.length), wr.cell? ⟨g, j, none⟩ = some (.int .i64 l[j]) := fun j h => (hmv.cell hgl (by simpa using hgb) j).trans (HC.out j h)
      have HH := Lib.hid (heavy_c (cap := cap) call_pof (fun w1 m hb hm => pof_c (HPT.out.below hb) m (HLO.out m hm)) hgl2 hcl hl0 hl)
      clear hpt hmv hp1 hcl
      go_wp2_with (go_at_call 87; refine HH.out.mono ?_; rintro e w5 ⟨rfl, hg5⟩)
      have hM5 : Moves [b] w w5 := HMV.out.trans (Moves.of_grown (M := [b]) hg5 (by simp))
      have hP5 := HPT.out.grown hg5
      have hx5 := hP5.2.2.1
      have hs5 := (HS.out.moves hM5 (by simpa using hsb)).2.2.2.1
      obtain ⟨ix, hix⟩ : ∃ ix, ix = Lib.idxOf p.row count := ⟨_, rfl⟩
      obtain ⟨K, hK⟩ : ∃ K, K = heavyK (fun m => p1.wt m.toNat) l := ⟨_, rfl⟩
      have hKl : K < l.length := by rw [hK]; exact heavyK_lt _ hl0
      have hr5 : RowIn w5 lo n bad X p.row := HR.out.moves hM5 (fun k hk => by simp at hk; subst hk; exact .inl hbb)
      have HIX := Lib.hid (fun k => hix ▸ (ix_c d count (hr5.moves (M := []) (w' := w5.drewN k) ⟨rfl, rfl, rfl, Nat.le_refl _, fun _ _ _ => rfl⟩ (by simp)) hp) : ∀ k, Calls Try.prog 38 #[.slice X p.row.length d, .int .i64 count] (w5.drewN k) fun e w' => e = .returned (.int .i64 ix) ∧ w' = w5.drewN k)
      have hix2 : ix = -1 ∨ (0 ≤ ix ∧ ix < 4096) := by rcases idxOf_cases p.row count with h | ⟨k, h, h2⟩ <;> omega
      have hcK := (hM5.cell hgl (by simpa using hgb) K).trans (HC.out K hKl)
      obtain ⟨m, hm⟩ : ∃ m : Nat, (m : Int) = l[K] := ⟨(l[K]).toNat, by have := HLO.out _ (List.getElem_mem hKl); omega⟩
      have hm1 : m < 128 := by have := HLO.out _ (List.getElem_mem hKl); omega
      have hm0 : (0 : Int) ≤ (m : Int) := by omega
      have hm2 : (m : Int) < 128 := by omega
      rw [← hm] at hcK
      have hcw := hP5.2.2.2.2.1 m hm1
      have hcf := hP5.2.2.2.2.2 (130 + m)
      have hend : pctK p l = K ∧ (0 ≤ ix → pctEnd p count l = { p1 with wt := fun i => if i = m then -(ix + 1) else p1.wt i }) ∧ (ix = -1 → pctEnd p count l = p1) := by
        have h1 : pctK p l = K := by unfold pctK; rw [← HP1.out, ← hK]
        have h2 : l.getD K 0 = m := by rw [List.getD_eq_getElem?_getD, List.getElem?_eq_getElem hKl, hm]; rfl
        refine ⟨h1, fun h => ?_, fun h => ?_⟩
        · unfold pctEnd
          rw [← hix, if_pos h, h1, h2, ← HP1.out, Int.toNat_natCast]
        · unfold pctEnd
          rw [← hix, if_neg (by omega), ← HP1.out]
      rw [← hK]
      have HEND := Lib.hid hend
      have HM5 := Lib.hid hM5
      have HP5 := Lib.hid hP5
      clear hend hM5 hP5 hix hK hm hr5 hg5
      have hK1 : (K : Int) < (l.length : Int) := by omega
      have hK0 : (0 : Int) ≤ (K : Int) := by omega
      go_quiet ((first | (go_at_call 38; exact Calls.quiet_of_same (HIX.out _))))
      rcases hix2 with h | ⟨h, h2⟩
      · have hno : ¬ 0 ≤ ix := by omega
        have HI := Lib.hid h
        clear h
        go_wp2
        go_ret
        refine ⟨by rw [HEND.out.1]; rfl, (HM5.out.heap_eq (w2 := w5.drewN nq) rfl rfl rfl rfl).grown1, ?_⟩
        rw [HEND.out.2.2 HI.out]
        exact HP5.out.heap rfl
      · obtain ⟨V, hV⟩ : ∃ V, V = w5.drewN nq := ⟨_, rfl⟩
        rw [← hV]
        have hcK2 : V.cell? ⟨g, K, none⟩ = some (.int .i64 m) := by rw [hV]; exact hcK
        have hcw2 : V.cell? ⟨b, 130 + m, none⟩ = some (.int .i64 (p1.wt m)) := by rw [hV]; exact hcw
        have hcf2 : V.frozen? ⟨b, 130 + m, none⟩ = false := by rw [hV]; exact hcf
        have HV := Lib.hid hV
        clear hV hcK hcw hcf hx5 hs5
        go_wp2_with fail
        go_region
        all_goals go_wp2
        all_goals go_ret
        refine ⟨by rw [HEND.out.1]; rfl, ?_, ?_⟩
        · rw [HV.out]
          exact (HM5.out.trans ((Moves.set (M := [b]) w5 ⟨b, 130 + m, none⟩ (.int .i64 (-(ix + 1))) (by simp)).heap_eq (w2 := ((w5.drewN nq).setCell ⟨b, 130 + m, none⟩ (.int .i64 (-(ix + 1)))).drew) rfl rfl rfl rfl)).grown1
        · rw [HEND.out.2.1 h, HV.out]
          exact (HP5.out.wt (-(ix + 1)) hm1).heap rfl
end Go.Proofs.Ytbgnchddeklmeaa
