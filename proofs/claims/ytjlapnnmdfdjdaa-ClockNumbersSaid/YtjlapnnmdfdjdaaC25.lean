/- Numbers rise, and none is given twice; what is stopped fires no more, and can not be stopped again. -/
import Derived.Test.YtjlapnnmdfdjdaaC23
namespace Go.Proofs.Ytjlapnnmdfdjdaa
open Go.RowKit
theorem after0 {c : Clk} (h : c.Ok) : c.after 0 = (c, 0, 3) ∨ c.after 0 = (⟨c.now, c.last + 1, laid ⟨c.last + 1, c.now, 0⟩ c.L⟩, c.last + 1, 0) := by
  have h0 := h.now0
  have h1 := h.now1
  unfold Clk.after Clk.set
  rw [if_neg (by omega), Int.add_zero]
  split
  · exact .inl rfl
  · exact .inr rfl
/-- Two timers more, the first of them stopped. -/
structure Stopped (c2 c3 : Clk) (a : Int) : Prop where
  s1 : c2.stop a = (c3, 0)
  s2 : c3.stop a = (c3, 4)
  mv : ∀ t, c3.move a t = (c3, 4)
  no : ∀ t ∈ c3.L, t.n ≤ a + 1 ∧ t.n ≠ a
theorem stop_it {d : Clk} {a : Int} (h : ∃ x ∈ d.L, x.n = a) : d.stop a = (⟨d.now, d.last, without a d.L⟩, 0) := by
  unfold Clk.stop
  rw [if_pos (hasN_iff.2 h)]
theorem stop_no {d : Clk} {a : Int} (h : ∀ x ∈ d.L, x.n ≠ a) : d.stop a = (d, 4) := by
  unfold Clk.stop
  rw [if_neg]
  rw [hasN_iff]
  rintro ⟨t, ht, e⟩
  exact h t ht e
theorem move_no {d : Clk} {a : Int} (h : ∀ x ∈ d.L, x.n ≠ a) (t : Int) : d.move a t = (d, 4) := by
  unfold Clk.move
  rw [find_none h]
theorem stopped {c c1 c2 : Clk} {a b : Int} (h : c.Ok) (h1 : c.after 0 = (c1, a, 0)) (h2 : c1.after 0 = (c2, b, 0)) : b = a + 1 ∧ a = c.last + 1 ∧ ∃ c3, Stopped c2 c3 a ∧ c3.Ok ∧ c3.last = c2.last := by
  rcases after0 h with e | e
  · rw [e] at h1; cases h1
  · rw [e] at h1
    have hk : c1.Ok := by have := h.after 0; rw [e] at this; cases h1; exact this
    rcases after0 hk with e2 | e2
    · rw [e2] at h2; cases h2
    · rw [e2] at h2
      have hk2 : c2.Ok := by have := hk.after 0; rw [e2] at this; cases h2; exact this
      have hin : ∃ x ∈ c2.L, x.n = c.last + 1 := by
        cases h1
        cases h2
        exact ⟨_, mem_laid.2 (.inr (mem_laid.2 (.inl rfl))), rfl⟩
      have hl : c2.last = c.last + 1 + 1 ∧ b = c.last + 1 + 1 := by cases h1; cases h2; exact ⟨rfl, rfl⟩
      obtain rfl : a = c.last + 1 := by cases h1; rfl
      have hno : ∀ x ∈ without (c.last + 1) c2.L, x.n ≠ c.last + 1 := without_no
      have hk3 := hk2.stop (c.last + 1)
      rw [stop_it hin] at hk3
      exact ⟨hl.2, rfl, _, ⟨stop_it hin, stop_no hno, move_no hno, fun t ht => ⟨by have := (hk3.num t ht).2; simp only at this; omega, hno t ht⟩⟩, hk3, rfl⟩
theorem after_err {c c1 : Clk} {a e : Int} (h : c.Ok) (h1 : c.after 0 = (c1, a, e)) : e = 0 ∨ e = 3 := by
  rcases after0 h with q | q <;> rw [q] at h1 <;> cases h1
  · exact .inr rfl
  · exact .inl rfl
set_option maxRecDepth 100000 in
set_option maxHeartbeats 4000000 in
theorem law_numbers (xs : List CallR) (V : Option Addr) (d0 : Nat) (t : Int) (w : World) (hx : RowsIn w V 3 CallR.cells xs) (hl : xs.length ≤ 8796093022208) :
    Calls Try.prog 5 #[.slice V xs.length d0, .int .i64 t] w fun e w' => e = .returned (.bool true) ∧ Below w.heap.size w w' := by
  have HW := Lib.hid (works_c w)
  have HX := Lib.hid hx
  clear hx
  go_enter Try.func5, Try.ntmps5
  go_wp2_with fail
  go_at_call 8
  refine HW.out.mono ?_
  rintro e w1 ⟨rfl, hb1⟩
  have HP := Lib.hid (played_c d0 (HX.out.keep hb1) hl)
  have HB1 := Lib.hid hb1
  clear hb1 HW
  go_wp2_with fail
  go_at_call 9
  refine HP.out.mono ?_
  rintro e w2 ⟨B, s, rfl, hc2, hb2, hB2⟩
  have hfin := playF_fine hl
  have hlast := (playF_ok xs).2
  obtain ⟨c, hcc⟩ : ∃ c, c = playF xs := ⟨_, rfl⟩
  rw [← hcc] at hc2 hfin hlast
  have HC2 := Lib.hid hc2
  have HF := Lib.hid hfin
  have HBL : Hid (Below w.heap.size w w2) := Lib.hid (HB1.out.trans (hb2.mono HB1.out.size))
  have hBw : w.heap.size ≤ B := by have := HB1.out.size; omega
  have HLS : Hid (c.last ≤ 8796093022208) := Lib.hid (by omega)
  clear hb2 hcc HP hB2 HB1 hlast
  have HA1 := Lib.hid (after_c hc2 hfin 0)
  have hf1 := hfin.after 0 (by have := HLS.out; omega)
  have hl1 := after_last c 0
  clear hc2 hfin
  go_wp2_with fail
  go_at_call 17
  refine HA1.out.mono ?_
  rintro e w3 ⟨rfl, hc3, hm3⟩
  obtain ⟨⟨c1, a, e1⟩, hp1⟩ : ∃ p, p = c.after 0 := ⟨_, rfl⟩
  rw [← hp1] at hc3 hf1 hl1
  simp only at hc3 hf1 hl1
  simp only [← hp1]
  have HP1 := Lib.hid hp1
  have HA2 := Lib.hid (after_c hc3 hf1 0)
  have HC3 := Lib.hid hc3
  have HM3 := Lib.hid hm3
  have HF1 := Lib.hid hf1
  have hf2 := hf1.after 0 (by have := HLS.out; omega)
  clear hc3 hm3 hf1 hp1 HA1 hl1
  unfold two
  go_wp2_with fail
  go_at_call 17
  refine HA2.out.mono ?_
  rintro e w4 ⟨rfl, hc4, hm4⟩
  obtain ⟨⟨c2, b, e2⟩, hp2⟩ : ∃ p, p = c1.after 0 := ⟨_, rfl⟩
  rw [← hp2] at hc4 hf2
  simp only at hc4 hf2
  simp only [← hp2]
  have HBL4 : Hid (Below w.heap.size w w4) := Lib.hid (HBL.out.trans ((HM3.out.trans hm4).below HC2.out hBw))
  have he1 := after_err HF.out.ok HP1.out.symm
  have he2 := after_err HF1.out.ok hp2.symm
  by_cases hall : e1 = 0 ∧ e2 = 0
  · obtain ⟨rfl, rfl⟩ := hall
    obtain ⟨rfl, ha, c3, hst, hok3, hl3⟩ := stopped HF.out.ok HP1.out.symm hp2.symm
    have hf3 : c3.Fine := ⟨hok3, by rw [hl3]; exact hf2.top⟩
    have hab : 0 ≤ a ∧ a ≤ 8796093022209 := by have := HLS.out; have := HF.out.ok.last0; omega
    have HST := Lib.hid hst
    have HF3 := Lib.hid hf3
    have hs1 := stop_c hc4 hf2 a
    rw [hst.s1] at hs1
    have HS1 := Lib.hid hs1
    have HC4 := Lib.hid hc4
    clear hc4 hm4 hf2 hp2 he1 he2 ha hst hok3 hl3 hf3 hs1 HA2 HP1 HF1 HC3 HM3
    unfold two
    go_wp2_with fail
    go_at_call 18
    refine HS1.out.mono ?_
    rintro e w5 ⟨rfl, hc5, hm5⟩
    have hs2 := stop_c hc5 HF3.out a
    rw [HST.out.s2] at hs2
    have HS2 := Lib.hid hs2
    have HBL5 : Hid (Below w.heap.size w w5) := Lib.hid (HBL4.out.trans (hm5.below HC4.out hBw))
    have HC5 := Lib.hid hc5
    clear hc5 hm5 hs2 HS1
    go_wp2_with fail
    go_at_call 18
    refine HS2.out.mono ?_
    rintro e w6 ⟨rfl, hc6, hm6⟩
    have HN6 := Lib.hid (now_c hc6)
    have hmv := move_c hc6 HF3.out a c3.now
    rw [HST.out.mv] at hmv
    have HMV := Lib.hid hmv
    have HBL6 : Hid (Below w.heap.size w w6) := Lib.hid (HBL5.out.trans (hm6.below HC5.out hBw))
    have HC6 := Lib.hid hc6
    clear hc6 hm6 hmv HS2
    go_wp2_with (go_at_call 14; refine HN6.out.mono ?_; rintro e w7 ⟨rfl, rfl⟩)
    go_at_call 19
    refine HMV.out.mono ?_
    rintro e w7 ⟨rfl, hc7, hm7⟩
    have HBL7 : Hid (Below w.heap.size w w7) := Lib.hid (HBL6.out.trans (hm7.below HC6.out hBw))
    have HC7 := Lib.hid hc7
    have HPD := Lib.hid (pending_c hc7 HF3.out)
    clear hc7 hm7 HMV HN6
    go_wp2_with fail
    go_at_call 16
    refine HPD.out.mono ?_
    rintro e w8 ⟨v8, rfl, ho8, hb8⟩
    obtain ⟨X8, d8, rfl, _⟩ := own_rowS ho8
    have HC8 := Lib.hid (HC7.out.below hb8).1
    have HBL8 : Hid (Below w.heap.size w w8) := Lib.hid (HBL7.out.trans (hb8.mono HBL7.out.size))
    have HO8 := Lib.hid ho8
    have hll : c3.L.length ≤ 1024 := HF3.out.ok.len
    clear ho8 hb8 HPD HC7
    go_wp2
    go_loopw [71] (fun i wr => ∃ j : Nat, i = .int .i64 j ∧ j ≤ c3.L.length ∧ Below w8.heap.size w8 wr) (fun i _ => c3.L.length - (intOf i).toNat)
    case atStart => exact ⟨0, rfl, Nat.zero_le _, Below.refl _ _⟩
    case round =>
      obtain ⟨j, rfl, hj, hb⟩ := hrel
      have HB := Lib.hid hb
      clear hb
      by_cases hlt : j < c3.L.length
      · obtain ⟨g, cap', hv, _, _⟩ := HO8.out.form (by omega : 0 < c3.L.length)
        cases hv
        obtain ⟨q1, q2, q3⟩ := own_tm HO8.out hlt
        have hg : g < w8.heap.size := World.block_lt_of_cell? w8 _ q1
        rw [← HB.out.cell hg] at q1 q2 q3
        obtain ⟨x, hx⟩ : ∃ x, x = c3.L[j]! := ⟨_, rfl⟩
        have hxm := HST.out.no x (by rw [hx, getElem!_pos c3.L j hlt]; exact List.getElem_mem hlt)
        rw [← hx] at q1 q2 q3
        obtain ⟨xn, xa, xe⟩ := x
        simp only at q1 q2 q3 hxm
        have hj0 : (0 : Int) ≤ (j : Int) := by omega
        have hj1 : (j : Int) < (c3.L.length : Int) := by omega
        obtain ⟨hx1, hx2⟩ := hxm
        have HBW : Hid (Below w8.heap.size w8 (wr.alloc (.cells #[.int .i64 xn, .int .i64 xa, .int .i64 xe] 39))) := Lib.hid (HB.out.alloc HB.out.size _)
        have hx3 : ¬ a + 1 < xn := by omega
        have hx4 : (xn == a) = false := by simpa using hx2
        clear hx hx1 hx2 hg
        go_wp2
        go_roundw
        case rel => exact ⟨j + 1, by go_num, by omega, HBW.out⟩
        case measure => simp [intOf]; omega
      · have hge : ¬ (j : Int) < (c3.L.length : Int) := by omega
        obtain ⟨hc9, _⟩ := HC8.out.below HB.out
        have HBL9 : Hid (Below w.heap.size w wr) := Lib.hid (HBL8.out.trans (HB.out.mono HBL8.out.size))
        obtain ⟨w9, rfl⟩ : ∃ wl : World, wl = wr := ⟨_, rfl⟩
        obtain ⟨t', ht'⟩ : ∃ q, q = t % 1000 := ⟨_, rfl⟩
        have ham := among_c t 1000 w9 (by omega)
        rw [← ht'] at ham
        have HAM := Lib.hid ham
        have HV := Lib.hid (adv_c hc9 HF3.out t')
        have HC9 := Lib.hid hc9
        have hnoa : ∀ x ∈ (c3.adv t').2.1, x.1 ≠ a := fun x hx => by
          by_cases e : (c3.adv t').2.2 = 0
          · obtain ⟨_, _, y, hy, e2⟩ := (HF3.out.ok.adv_ok e).1.rng x hx
            rw [← e2]
            exact (HST.out.no y hy).2
          · rw [(Clk.adv_no e).2.1] at hx
            cases hx
        have hfew := (adv_few HF3.out t').1
        have HNA := Lib.hid hnoa
        clear hc9 ham ht' hnoa HB HC8
        go_wp2_with (go_at_call 10; refine HAM.out.mono ?_; rintro e w10 ⟨rfl, rfl⟩)
        go_at_call 12
        refine HV.out.mono ?_
        rintro e w10 ⟨v10, rfl, ho10, hc10, hm10, hdis10⟩
        obtain ⟨l, hll2⟩ : ∃ l, l = (c3.adv t').2.1 := ⟨_, rfl⟩
        obtain ⟨er, her⟩ : ∃ l, l = (c3.adv t').2.2 := ⟨_, rfl⟩
        rw [← hll2] at ho10 HNA hfew
        simp only [← her]
        obtain ⟨X10, d10, rfl, _⟩ := own_rowS ho10
        have HO10 := Lib.hid ho10
        have HBL10 : Hid (Below w.heap.size w w10) := Lib.hid (HBL9.out.trans (hm10.below HC9.out hBw))
        clear ho10 hc10 hm10 hdis10 hll2 her HV HAM
        go_wp2
        go_loopw [95] (fun i wr => ∃ j : Nat, i = .int .i64 j ∧ j ≤ l.length ∧ Below w10.heap.size w10 wr) (fun i _ => l.length - (intOf i).toNat)
        case atStart => exact ⟨0, rfl, Nat.zero_le _, Below.refl _ _⟩
        case round =>
          obtain ⟨j, rfl, hj, hb⟩ := hrel
          have HB := Lib.hid hb
          clear hb
          by_cases hlt : j < l.length
          · obtain ⟨g, cap', hv, _, _⟩ := HO10.out.form (by omega : 0 < l.length)
            cases hv
            obtain ⟨q1, q2⟩ := frC_get hlt
            replace q1 := HO10.out.cells (g := g) rfl _ _ q1
            replace q2 := HO10.out.cells (g := g) rfl _ _ q2
            rw [add_zero] at q1 q2
            have hg : g < w10.heap.size := World.block_lt_of_cell? w10 _ q1
            rw [← HB.out.cell hg] at q1 q2
            have hxm := HNA.out _ (List.getElem_mem hlt)
            obtain ⟨x, hx⟩ : ∃ x, x = l[j] := ⟨_, rfl⟩
            rw [← hx] at q1 q2 hxm
            obtain ⟨xn, xa⟩ := x
            simp only at q1 q2 hxm
            have hj0 : (0 : Int) ≤ (j : Int) := by omega
            have hj1 : (j : Int) < (l.length : Int) := by omega
            have hx4 : (xn == a) = false := by simpa using hxm
            have HBW : Hid (Below w10.heap.size w10 (wr.alloc (.cells #[.int .i64 xn, .int .i64 xa] 41))) := Lib.hid (HB.out.alloc HB.out.size _)
            clear hx hxm hg
            go_wp2
            go_roundw
            case rel => exact ⟨j + 1, by go_num, by omega, HBW.out⟩
            case measure => simp [intOf]; omega
          · have hge : ¬ (j : Int) < (l.length : Int) := by omega
            have FIN : Hid (Below w.heap.size w wr) := Lib.hid (HBL10.out.trans (HB.out.mono HBL10.out.size))
            go_wp2
            go_ret
            exact ⟨rfl, FIN.out⟩
  · clear hc4 hm4 hf2 hp2 HA2 HP1 HF1 HC3 HM3
    unfold two
    rcases he1 with rfl | rfl <;> rcases he2 with rfl | rfl
    · exact absurd ⟨rfl, rfl⟩ hall
    all_goals
      clear hall
      go_wp2
      go_ret
      exact ⟨rfl, HBL4.out⟩
end Go.Proofs.Ytjlapnnmdfdjdaa
