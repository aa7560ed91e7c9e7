/- The reference's begins. -/
import Derived.Test.YtofmdmmgbfbaoaaDoorA12
namespace Go.Proofs.YtofmdmmgbfbaoaaDoor
open Go.RowKit

/-- append(v, x) of one cell, the new cell boxed ahead; where the row lies then is told. -/
theorem app_row2 {P : Program} {ops : Array Oper} {rest : List Oper} {o : Oper} {a : Act} {Q : Exit → Act → World → Prop} {W : World} (base : Nat) (hgd : o.guard = none) (s x : Operand) (t e : TypeId) (z : Value) (bytes : Nat)
    (ho : o.op = .call { callee := .builtin .append, args := #[s, x], argTypes := #[t, t] })
    (ht : P.underlying t = some (.slice e)) (hinfo : (P.info? e).map (fun i => (i.zero, i.size, i.bytes)) = some (some z, 1, bytes)) (hz : z.cells.size = 1)
    (v : Value) (n : Nat) (xs : List Value) (y : Value) (hs : a.eval s = v) (nb : Nat) (hx : a.eval x = .slice (some ⟨nb, 0, none⟩) 1 1) (hnb : nb = W.heap.size) (h1 : y.oneCell' = true)
    (HO : W.ownsRow base e 1 v n xs) (hbase : base ≤ W.heap.size) (hlen : n + 1 ≤ 140737488355328) (hl : (n + 1) * bytes ≤ 140737488355328)
    (h : ∀ g cap w1, w1.ownsRow base e 1 (.slice (some ⟨g, 0, none⟩) (n + 1) cap) (n + 1) (xs ++ [y]) → W.grownBy w1 v.ownBlock → W.heap.size ≤ w1.heap.size → (v.ownBlock = some g ∨ g = W.heap.size + 1) → wpList P ops Q rest (a.put o.dst (.slice (some ⟨g, 0, none⟩) (n + 1) cap)) w1) :
    wpList P ops Q (o :: rest) a (W.alloc (.cells #[y] e)) := by
  obtain ⟨i0, hi, hzz⟩ := Option.map_eq_some_iff.1 hinfo
  simp only [Prod.mk.injEq] at hzz
  obtain ⟨hz0, hz1, hz2⟩ := hzz
  subst hnb
  refine wpList_append_own_at (W.alloc (.cells #[y] e)) hgd s x t ho base e i0 z 1 bytes ht hi hz0 hz1 hz2 hz (by omega) v n xs hs (HO.alloc _) ⟨W.heap.size, 0, none⟩ 1 1 [y] hx rfl
    (cell_one_new _ _ _) (by simpa using h1) (by simp only [maxLen]; omega) hl (by simp; omega) ?_
  intro v1 w1 hown hg _ hat
  obtain ⟨g, cap, rfl, _, _⟩ := hown.form (by omega)
  refine h g cap w1 hown (World.grownBy.trans (World.grownBy_alloc W _ _) hg) (Nat.le_trans (by simp) hg.size) ?_
  rcases hat with h | h
  · exact .inl h.symm
  · right; simpa [Value.ownBlock] using h

set_option maxHeartbeats 4000000 in
set_option maxRecDepth 100000 in
theorem beginsR_c (es : List XOp) (A : Option Addr) (c : Nat) (w : World) (hx : OpsAt w A es) (hl : es.length * 40 ≤ 140737488355328) (ht : ∀ o ∈ es, o.text.size ≤ 140737488355328) :
    Calls Tryd.prog 72 #[.slice A es.length c] w (BeginsPost es w) := by
  obtain ⟨i0, hi0, hz0, hz1, hz2⟩ := info_parts info_int
  go_enter Tryd.func72, Tryd.ntmps72
  go_wp2
  go_loopw [4, 5, 6] (fun vf vs i wr => ∃ (k : Nat) (fr st : List Nat) (gf cf g cap : Nat), k ≤ es.length ∧ i = .int .i64 k ∧ Hid (beginsFrom (es.drop k) k fr st = beginsF es) ∧ fr.length = k ∧ st.length ≤ k ∧ vs = .slice (some ⟨g, 0, none⟩) st.length cap ∧ vf = .slice (some ⟨gf, 0, none⟩) k cf ∧ gf ≠ g ∧
      wr.ownsRow w.heap.size 3 1 (.slice (some ⟨g, 0, none⟩) st.length cap) st.length (ints st) ∧
      wr.ownsRow w.heap.size 3 1 (.slice (some ⟨gf, 0, none⟩) k cf) k (ints fr) ∧ Below w.heap.size w wr) (fun _ _ i _ => es.length - (intOf i).toNat)
  case atStart =>
    refine ⟨0, [], [], w.heap.size, 0, w.heap.size + 1, 0, by omega, rfl, rfl, rfl, by simp, rfl, rfl, by omega, ?_, ?_, ((Below.refl _ _).alloc (Nat.le_refl _) _).alloc (by simp) _⟩
    · have := World.ownsRow_made (size := 1) (e := 3) (base := w.heap.size) (w.alloc (.cells #[] 3)) #[] 0 (by simp) (by simp [maxLen]) (by simp)
      simpa [ints] using this
    · have := World.ownsRow_made (size := 1) (e := 3) (base := w.heap.size) w #[] 0 (by simp) (by simp [maxLen]) (by simp)
      simpa [ints] using this.alloc _
  case round =>
    obtain ⟨k, fr, st, gf, cf, g, cap, hk, rfl, hr, hfr, hst, rfl, rfl, hne, hown, hfrom, hbel⟩ := hrel
    by_cases hlt : k < es.length
    · rcases hx with rfl | ⟨b, off, rfl, hb, hc⟩
      · simp at hlt
      · obtain ⟨h0, h1, h2, h3⟩ := hc k hlt
        obtain ⟨hcc, hff⟩ := bcell hbel
        have g0 := (hcc b (off + k * 4) hb).trans h0
        have g1 := (hcc b (off + k * 4 + 1) hb).trans h1
        have g2 := (hcc b (off + k * 4 + 2) hb).trans h2
        have g3 := (hcc b (off + k * 4 + 3) hb).trans h3
        have hbr : b < wr.heap.size := Nat.lt_of_lt_of_le hb hbel.size
        have htk := ht es[k] (List.getElem_mem hlt)
        clear hc h0 h1 h2 h3 hcc hff
        have hu := beginsFrom_drop es k hlt fr st
        have HU := Lib.hid hu
        clear hu
        by_cases hw : wellF es[k] = true
        · have hn0 := well_n hw
          obtain ⟨m, hm⟩ := Int.eq_ofNat_of_zero_le hn0
          rw [hm] at g1
          have HM := Lib.hid hm
          have HW := Lib.hid hw
          have hw' : wellF ⟨es[k].kind, m, es[k].int, es[k].text⟩ = true := by rw [← hm]; exact hw
          clear hm hn0 hw
          by_cases hlm : m ≤ st.length
          · have hd : decide ((st.length : Int) < (m : Int)) = false := by simp; omega
            have hkk : (st.length : Int) - (m : Int) = ((st.length - m : Nat) : Int) := by omega
            have hgw := own_blk hown
            have hgf := own_blk hfrom
            have hcap := own_cap hown
            have hj0 : (0 : Int) ≤ ((st.length - m : Nat) : Int) := Int.natCast_nonneg _
            have hj1 : ((st.length - m : Nat) : Int) ≤ (cap : Int) := by omega
            have hj2 : st.length - m ≤ cap := by omega
            by_cases hm0 : m = 0
            · have hm1 : decide ((0 : Int) < (m : Int)) = false := by simp; omega
              have hm2 : decide (0 < m) = false := by simp; omega
              have hm3 : ¬ 0 < m := by omega
              have HM0 := Lib.hid hm0
              clear hm0
              go_wp2_with (first | (go_at_call 79; refine (wellR_c _ _ _ _ _ htk).mono ?_; rintro e w1 ⟨rfl, hb1⟩; obtain ⟨hc1, hf1⟩ := bcell hb1; have o1 := own_below hown hb1; have f1 := own_below hfrom hb1; have hs1 := hb1.size; have bel1 := hbel.trans (hb1.mono hbel.size)) | (at_builtin; refine app_row2 w.heap.size (by rfl) _ _ 96 3 (.int .i64 0) 8 (by rfl) Tryd.underlying96 info_int rfl (.slice (some ⟨g, 0, none⟩) st.length cap) st.length _ (.int .i64 (k : Int)) (by rfl) w1.heap.size (by rfl) (by simp) rfl o1 (by omega) (by omega) (by omega) ?_; intro g3 cap3 w3 o3 hgrow hs3 hat; have f3 := f1.kept hgrow (.inr (by simp [Value.ownBlock]; omega)); have bel3 := bel1.grown hgrow (by omega) (fun q hq => by simp [Value.ownBlock] at hq; omega)) | (at_builtin; refine app_row2 w.heap.size (by rfl) _ _ 96 3 (.int .i64 0) 8 (by rfl) Tryd.underlying96 info_int rfl (.slice (some ⟨gf, 0, none⟩) k cf) k _ (.int .i64 (k : Int)) (by rfl) w3.heap.size (by rfl) (by simp) rfl f3 (by omega) (by omega) (by omega) ?_; intro g4 cap4 w4 f4 hgrow4 hs4 hat4; have o4 := o3.kept hgrow4 (.inr (by simp [Value.ownBlock] at hat ⊢; omega)); have bel4 := bel3.grown hgrow4 (by omega) (fun q hq => by simp [Value.ownBlock] at hq; omega)))
              go_roundw
              case rel =>
                go_light
                have hln : (st ++ [k]).length = st.length + 1 := by rw [List.length_append, List.length_singleton]
                refine ⟨k + 1, fr ++ [k], st ++ [k], g4, cap4, g3, cap3, by omega, by go_num, ?_, by rw [List.length_append, hfr]; rfl, by omega, by rw [hln], rfl, ?_, by rw [hln, ints_append]; exact o4, by rw [ints_append]; exact f4, bel4⟩
                · have h1 : beginsFrom (es.drop (k + 1)) (k + 1) (fr ++ [k]) (st ++ [k]) = beginsF es := by
                    rw [← hr.out, HU.out, if_neg (by rw [HM.out, HW.out]; simp; omega), HM.out, HM0.out]
                    simp
                  exact h1
                · have hb4 := own_blk o3
                  simp [Value.ownBlock] at hat hat4
                  omega
              case measure => simp [intOf]; omega
            · have hm1 : decide ((0 : Int) < (m : Int)) = true := by simp; omega
              have hsm : st.length - m < st.length := by omega
              have hcs := own_cell hown _ hsm
              go_wp2_with (first | (go_at_call 79; refine (wellR_c _ _ _ _ _ htk).mono ?_; rintro e w1 ⟨rfl, hb1⟩; obtain ⟨hc1, hf1⟩ := bcell hb1; have o1 := own_take (own_below hown hb1) (k := st.length - m) (by omega); rw [ints_take, Nat.mul_one] at o1; have f1 := own_below hfrom hb1; have hs1 := hb1.size; have bel1 := hbel.trans (hb1.mono hbel.size)) | (at_builtin; refine app_row2 w.heap.size (by rfl) _ _ 96 3 (.int .i64 0) 8 (by rfl) Tryd.underlying96 info_int rfl (.slice (some ⟨g, 0, none⟩) (st.length - m) cap) (st.length - m) _ (.int .i64 (st[st.length - m] : Int)) (by rfl) w1.heap.size (by rfl) (by simp) rfl o1 (by omega) (by omega) (by omega) ?_; intro g3 cap3 w3 o3 hgrow hs3 hat; have f3 := f1.kept hgrow (.inr (by simp [Value.ownBlock]; omega)); have bel3 := bel1.grown hgrow (by omega) (fun q hq => by simp [Value.ownBlock] at hq; omega)) | (at_builtin; refine app_row2 w.heap.size (by rfl) _ _ 96 3 (.int .i64 0) 8 (by rfl) Tryd.underlying96 info_int rfl (.slice (some ⟨gf, 0, none⟩) k cf) k _ (.int .i64 (st[st.length - m] : Int)) (by rfl) w3.heap.size (by rfl) (by simp) rfl f3 (by omega) (by omega) (by omega) ?_; intro g4 cap4 w4 f4 hgrow4 hs4 hat4; have o4 := o3.kept hgrow4 (.inr (by simp [Value.ownBlock] at hat ⊢; omega)); have bel4 := bel3.grown hgrow4 (by omega) (fun q hq => by simp [Value.ownBlock] at hq; omega)))
              go_roundw
              case rel =>
                go_light
                have hln : (st.take (st.length - m) ++ [st[st.length - m]]).length = st.length - m + 1 := by rw [List.length_append, List.length_take, List.length_singleton]; omega
                refine ⟨k + 1, fr ++ [st[st.length - m]], st.take (st.length - m) ++ [st[st.length - m]], g4, cap4, g3, cap3, by omega, by go_num, ?_, by rw [List.length_append, hfr]; rfl, by omega, by rw [hln], rfl, ?_, by rw [hln, ints_append]; exact o4, by rw [ints_append]; exact f4, bel4⟩
                · have h1 : beginsFrom (es.drop (k + 1)) (k + 1) (fr ++ [st[st.length - m]]) (st.take (st.length - m) ++ [st[st.length - m]]) = beginsF es := by
                    rw [← hr.out, HU.out, if_neg (by rw [HM.out, HW.out]; simp; omega), HM.out]
                    simp only [Int.toNat_natCast]
                    rw [if_pos (by omega), List.getD_eq_getElem?_getD, List.getElem?_eq_getElem hsm]; rfl
                  exact h1
                · have hb4 := own_blk o3
                  simp [Value.ownBlock] at hat hat4
                  omega
              case measure => simp [intOf]; omega
          · have hd : decide ((st.length : Int) < (m : Int)) = true := by simp; omega
            go_wp2_with (go_at_call 79; refine (wellR_c _ _ _ _ _ htk).mono ?_; rintro e w1 ⟨rfl, hb1⟩; obtain ⟨hc1, hf1⟩ := bcell hb1)
            go_ret2
            refine ⟨hbel.trans (hb1.mono hbel.size), .inl ⟨?_, rfl⟩⟩
            rw [← hr.out, HU.out, if_pos]
            right; rw [HM.out]; omega
        · have hw' : wellF ⟨es[k].kind, es[k].n, es[k].int, es[k].text⟩ = false := by simpa using hw
          have HW := Lib.hid hw
          clear hw
          go_wp2_with (go_at_call 79; refine (wellR_c _ _ _ _ _ htk).mono ?_; rintro e w1 ⟨rfl, hb1⟩; obtain ⟨hc1, hf1⟩ := bcell hb1)
          go_ret2
          refine ⟨hbel.trans (hb1.mono hbel.size), .inl ⟨?_, rfl⟩⟩
          rw [← hr.out, HU.out, if_pos]
          left; simpa using HW.out
    · have hke : k = es.length := by omega
      have HK := Lib.hid hke
      clear hke
      go_wp2
      go_ret2
      refine ⟨hbel, .inr ⟨fr, st, _, ?_, rfl, ?_⟩⟩
      · rw [← hr.out, List.drop_of_length_le (by omega), beginsFrom]
      · have := hfrom
        rw [← HK.out]
        exact this
end Go.Proofs.YtofmdmmgbfbaoaaDoor
