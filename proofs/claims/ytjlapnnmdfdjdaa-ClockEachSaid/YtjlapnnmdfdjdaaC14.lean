/- A clock in memory: Move, Next, Clone, Pending. -/
import Derived.Test.YtjlapnnmdfdjdaaC13
namespace Go.Proofs.Ytjlapnnmdfdjdaa
open Go.RowKit
theorem find_none {k : Int} {L : List Tm} (h : ∀ t ∈ L, t.n ≠ k) : L.find? (fun t => decide (t.n = k)) = none := List.find?_eq_none.2 fun t ht => by simpa using h t ht
theorem find_it {k : Int} {L : List Tm} {x : Tm} (hn : (L.map (·.n)).Nodup) (hx : x ∈ L) (e : x.n = k) : L.find? (fun t => decide (t.n = k)) = some x := by
  cases h : L.find? (fun t => decide (t.n = k)) with
  | none => exact absurd (List.find?_eq_none.1 h x hx) (by simp [e])
  | some y =>
    have h1 := List.mem_of_find?_eq_some h
    have h2 : y.n = k := by simpa using List.find?_some h
    rw [tm_uniq hn h1 hx (h2.trans e.symm)]
set_option maxRecDepth 100000 in
theorem move_c {B s : Nat} {w : World} {c : Clk} (h : CAt B s w c) (hf : c.Fine) (k a : Int) :
    Calls Try.prog 19 #[cV s, .int .i64 k, .int .i64 a] w (ClkPost B s w (.int .i64 (c.move k a).2) (c.move k a).1) := by
  have h' := h
  obtain ⟨c0, c1, H, ⟨hq, hfi⟩, hh⟩ := h
  have hl : H.length ≤ 1024 := by rw [hh.length]; exact hf.ok.len
  have HP := Lib.hid (place_c hq k hl)
  have HL := Lib.hid hl
  have HC := Lib.hid h'
  have HH := Lib.hid hh
  have HQ := Lib.hid hq
  have HFI := Lib.hid hfi
  have HND := Lib.hid hf.ok.fit.nod
  have HN0 := Lib.hid hf.ok.now0
  clear h' c0 c1 hq hfi hh hl hf
  go_enter Try.func19, Try.ntmps19
  go_wp2_with fail
  go_at_call 33
  refine HP.out.mono ?_
  rintro e w1 ⟨i, rfl, hb, ⟨rfl, hno⟩ | ⟨j, rfl, hj, hk⟩⟩
  · have e1 : c.move k a = (c, 4) := by
      unfold Clk.move
      rw [find_none fun t ht => hno t (HH.out.perm.mem_iff.2 ht)]
    have E1 := Lib.hid e1
    have FIN := Lib.hid (HC.out.below hb)
    clear hb hno e1
    go_wp2
    go_ret
    rw [E1.out]
    exact ⟨rfl, FIN.out⟩
  · have hj0 : ¬ (j : Int) < 0 := by omega
    have hq1 := HQ.out.below hb
    have hc1 := HC.out.below hb
    have hmem : H[j]! ∈ c.L := HH.out.perm.mem_iff.1 (by rw [getElem!_pos H j hj]; exact List.getElem_mem hj)
    have hmv := find_it HND.out hmem hk
    have hmay := may_c hc1.1 a
    by_cases hm : a < c.now ∨ 1099511627776 < a
    · have e1 : c.move k a = (c, 1) := by
        unfold Clk.move
        rw [hmv]
        simp only
        rw [if_pos hm]
      have hd : decide (¬ (a < c.now ∨ 1099511627776 < a)) = false := by simp; omega
      rw [hd] at hmay
      have E1 := Lib.hid e1
      have HMAY := Lib.hid hmay
      have FIN := Lib.hid hc1
      clear hb e1 hq1 hc1 hmem hmv hmay hm hd hk hj
      go_wp2_with (go_at_call 35; refine HMAY.out.mono ?_; rintro e w2 ⟨rfl, rfl⟩)
      go_ret
      rw [E1.out]
      exact ⟨rfl, FIN.out⟩
    · have e1 : c.move k a = (⟨c.now, c.last, laid ⟨H[j]!.n, a, H[j]!.e⟩ (without k c.L)⟩, 0) := by
        unfold Clk.move
        rw [hmv]
        simp only
        rw [if_neg hm]
      have hd : decide (¬ (a < c.now ∨ 1099511627776 < a)) = true := by simp; omega
      rw [hd] at hmay
      have E1 := Lib.hid e1
      have HMAY := Lib.hid hmay
      obtain ⟨v, c2, hz, ho, hne, hB⟩ := hq1.1
      obtain ⟨g, cap, rfl, _, _⟩ := ho.form (by omega : 0 < H.length)
      obtain ⟨d1, d2, d3⟩ := own_tm ho hj
      have hzg : w1.frozen? ⟨g, j * 3 + 1, none⟩ = false := own_frozen ho _
      have hj1 : (j : Int) < (H.length : Int) := by omega
      have hj2 : (0 : Int) ≤ (j : Int) := by omega
      have hgs : g ≠ s := fun e => hne (by rw [e]; rfl)
      obtain ⟨W, hW⟩ : ∃ W, W = w1.setCell ⟨g, j * 3 + 1, none⟩ (.int .i64 a) := ⟨_, rfl⟩
      obtain ⟨t, ht⟩ : ∃ t : Tm, t = ⟨H[j]!.n, a, H[j]!.e⟩ := ⟨_, rfl⟩
      rw [← ht] at E1
      have hw : QR B s W (H.set j t) ∧ QMoves s w1 W := by
        have hmv2 : Moves [g] w1 W := by rw [hW]; exact Moves.set _ _ _ (by simp)
        have ho2 : W.ownsRow B 39 3 (.slice (some ⟨g, 0, none⟩) H.length cap) H.length (tmCells (H.set j t)) := by
          have h3 := own_set (k := j * 3 + 1) ho (.int .i64 a)
          have e2 : (tmCells H).set (j * 3 + 1) (.int .i64 a) = tmCells (H.set j t) := by
            rw [← tmCells_set H j t hj, ht]
            obtain ⟨q1, q2, q3⟩ := tmCells_get hj
            have s1 : (tmCells H).set (j * 3) (.int .i64 H[j]!.n) = tmCells H := by
              have hlt : j * 3 < (tmCells H).length := by rw [tmCells_length]; omega
              rw [List.getElem?_eq_getElem hlt] at q1
              rw [← Option.some.inj q1, List.set_getElem_self]
            simp only
            rw [s1, List.set_comm _ _ (by omega)]
            have hlt : j * 3 + 2 < (tmCells H).length := by rw [tmCells_length]; omega
            have s2 : (tmCells H).set (j * 3 + 2) (.int .i64 H[j]!.e) = tmCells H := by
              rw [List.getElem?_eq_getElem hlt] at q3
              rw [← Option.some.inj q3, List.set_getElem_self]
            rw [s2]
          rw [e2] at h3
          rw [hW]
          exact h3
        have hr := HRow.wrote c2 hz hne hB hmv2 ho2
        refine ⟨⟨by unfold QAt; rw [List.length_set]; exact hr.1, fun x hx => ?_⟩, hr.2, fun q _ => hmv2.cell (World.block_lt_of_cell? w1 _ c2) (by simpa using fun e => hgs e.symm) q⟩
        rcases List.mem_or_eq_of_mem_set hx with hx | rfl
        · exact HFI.out x hx
        · have := HFI.out H[j]! (by rw [getElem!_pos H j hj]; exact List.getElem_mem hj)
          have hn0 := HN0.out
          rw [ht]
          unfold Fine at this ⊢
          simp only
          omega
      have hfix := fix_c (q_ops B s) tm_ord (i := j) hw.1 (HH.out.near hj t) (by rw [List.length_set]; exact hj) (by rw [List.length_set]; have := HL.out; omega)
      have FIN : Hid (∀ w', FixPost Tm.lt (QR B s) (QMoves s) (H.set j t) W (.returned (.tuple #[])) w' → CAt B s w' ⟨c.now, c.last, laid t (without k c.L)⟩ ∧ HMoves s 2 w w') := Lib.hid fun w' h => by
        obtain ⟨_, H', hr, hp, hhp, hm⟩ := h
        have hm2 := hw.2.trans hm
        refine ⟨⟨(hm2.2 0 (by omega)).trans hc1.1.now, (hm2.2 1 (by omega)).trans hc1.1.last, H', hr, ?_⟩, hc1.2.trans hm2.1⟩
        have := HH.out.fixed HND.out hj hp hhp
        rw [hk] at this
        exact this
      have HFIX := Lib.hid hfix
      have HW := Lib.hid hW
      clear hb e1 hq1 hc1 hmem hmv hmay hm hd hk hj ho hz hne hw hfix hW ht
      go_wp2_with (go_at_call 35; refine HMAY.out.mono ?_; rintro e w2 ⟨rfl, rfl⟩)
      rw [← HW.out]
      go_wp2_with (go_at_call 28; refine HFIX.out.mono ?_; rintro e w2 ⟨rfl, hr⟩)
      go_ret
      rw [E1.out]
      exact ⟨rfl, FIN.out _ ⟨rfl, hr⟩⟩
end Go.Proofs.Ytjlapnnmdfdjdaa
