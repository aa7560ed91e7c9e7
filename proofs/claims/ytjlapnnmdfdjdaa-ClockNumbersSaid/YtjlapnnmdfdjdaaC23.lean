/- Time that goes by in two steps tells what it tells in one. -/
import Derived.Test.YtjlapnnmdfdjdaaC22
namespace Go.Proofs.Ytjlapnnmdfdjdaa
open Go.RowKit
theorem adv_few {c : Clk} (h : c.Fine) (t : Int) : (c.adv t).2.1.length ≤ 4096 ∧ ((c.adv t).2.2 = 0 ∨ ((c.adv t).2.2 ≠ 0 ∧ (c.adv t).2.1 = [])) := by
  by_cases e : (c.adv t).2.2 = 0
  · exact ⟨(h.ok.adv_ok e).1.few, .inl e⟩
  · have := (Clk.adv_no e).2.1
    exact ⟨by rw [this]; simp, .inr ⟨e, this⟩⟩
set_option maxRecDepth 100000 in
set_option maxHeartbeats 4000000 in
theorem law_splits (xs : List CallR) (V : Option Addr) (d0 : Nat) (a b : Int) (w : World) (hx : RowsIn w V 3 CallR.cells xs) (hl : xs.length ≤ 8796093022208) :
    Calls Try.prog 3 #[.slice V xs.length d0, .int .i64 a, .int .i64 b] w fun e w' => e = .returned (.bool true) ∧ Below w.heap.size w w' := by
  have HW := Lib.hid (works_c w)
  have HX := Lib.hid hx
  clear hx
  go_enter Try.func3, Try.ntmps3
  go_wp2_with fail
  go_at_call 8
  refine HW.out.mono ?_
  rintro e w1 ⟨rfl, hb1⟩
  have HP := Lib.hid (played_c d0 (HX.out.keep hb1) hl)
  have HB1 := Lib.hid hb1
  clear hb1 HW
  go_wp2_with fail
  go_at_call 9
  refine HP.out.mono ?_
  rintro e w2 ⟨B, s, rfl, hc2, hb2, hB2⟩
  have hfin := playF_fine hl
  obtain ⟨c, hcc⟩ : ∃ c, c = playF xs := ⟨_, rfl⟩
  rw [← hcc] at hc2 hfin
  have HC2 := Lib.hid hc2
  have HF := Lib.hid hfin
  have HBL : Hid (Below w.heap.size w w2) := Lib.hid (HB1.out.trans (hb2.mono HB1.out.size))
  have HA1 := Lib.hid (among_c a 1048576 w2 (by omega))
  have HA2 := Lib.hid (among_c b 1048576 w2 (by omega))
  have HCL := Lib.hid (cclone_c hc2 hfin)
  have hBw : w.heap.size ≤ B := by have := HB1.out.size; omega
  clear hc2 hfin hb2 hcc HP hB2
  obtain ⟨a', ha'⟩ : ∃ q, q = a % 1048576 := ⟨_, rfl⟩
  obtain ⟨b', hb'⟩ : ∃ q, q = b % 1048576 := ⟨_, rfl⟩
  have ha0 : 0 ≤ a' ∧ a' < 1048576 := by omega
  have hb0 : 0 ≤ b' ∧ b' < 1048576 := by omega
  rw [← ha'] at HA1
  rw [← hb'] at HA2
  clear ha' hb'
  go_wp2_with fail
  go_at_call 10
  refine HA1.out.mono ?_
  rintro e w3 ⟨rfl, rfl⟩
  go_wp2_with fail
  go_at_call 10
  refine HA2.out.mono ?_
  rintro e w3 ⟨rfl, rfl⟩
  clear HA1 HA2
  go_wp2_with fail
  go_at_call 11
  refine HCL.out.mono ?_
  rintro e w3 ⟨s2, rfl, hd3, hb3, hs2⟩
  obtain ⟨hc3, hap3⟩ := apart_clone HC2.out hb3 hd3
  have HB3 := Lib.hid hb3
  have HAP3 := Lib.hid hap3
  have HD3 := Lib.hid hd3
  have HC3 := Lib.hid hc3
  have HV1 := Lib.hid (adv_c hc3 HF.out a')
  clear hc3 hap3 hd3 hb3 HCL hs2
  go_wp2_with fail
  go_at_call 12
  refine HV1.out.mono ?_
  rintro e w4 ⟨v1, rfl, ho1, hc4, hm4, hdis1⟩
  obtain ⟨hd4, hap4, hbk4⟩ := HAP3.out.moves HD3.out hm4
  have hot1 : OutAt w3.heap.size s w4 v1 := ⟨HC3.out.blk.2.1, hdis1⟩
  have hov1 : OutAt w3.heap.size s2 w4 v1 := OutAt.old HD3.out (Nat.le_refl _) ho1 hbk4
  have HM4 := Lib.hid hm4
  have HAP4 := Lib.hid hap4
  have HD4 := Lib.hid hd4
  have HC4 := Lib.hid hc4
  have HBK4 := Lib.hid hbk4
  have HO1 := Lib.hid ho1
  have HT1 := Lib.hid hot1
  have HU1 := Lib.hid hov1
  have hf1 := HF.out.adv a'
  have hfe1 := adv_few HF.out a'
  have hsp := HF.out.ok.split (a := a') (b := b') hb0.1
  obtain ⟨⟨c1, l1, e1⟩, hp1⟩ : ∃ p, p = c.adv a' := ⟨_, rfl⟩
  rw [← hp1] at HC4 HO1 hf1 hfe1 hsp
  simp only at HC4 HO1 hf1 hfe1 hsp
  simp only [← hp1]
  have HF1 := Lib.hid hf1
  have HFE1 := Lib.hid hfe1
  have HSP := Lib.hid hsp
  have HV2 := Lib.hid (adv_c HC4.out hf1 b')
  clear hm4 hap4 hd4 hc4 hbk4 ho1 hot1 hov1 hdis1 hf1 hfe1 hsp hp1 HV1
  go_wp2_with fail
  go_at_call 12
  refine HV2.out.mono ?_
  rintro e w5 ⟨v2, rfl, ho2, hc5, hm5, hdis2⟩
  obtain ⟨hd5, hap5, hbk5⟩ := HAP4.out.moves HD4.out hm5
  obtain ⟨ho1, ht1⟩ := HT1.out.moves HO1.out hm5
  have hot2 : OutAt w4.heap.size s w5 v2 := ⟨HC4.out.blk.2.1, hdis2⟩
  have hov2 : OutAt w4.heap.size s2 w5 v2 := OutAt.old HD4.out (Nat.le_refl _) ho2 hbk5
  have hov1 : OutAt w3.heap.size s2 w5 v1 := HU1.out.same hbk5
  have HM5 := Lib.hid hm5
  have HAP5 := Lib.hid hap5
  have HD5 := Lib.hid hd5
  have HC5 := Lib.hid hc5
  have HBK5 := Lib.hid hbk5
  have HO1' := Lib.hid ho1
  have HO2 := Lib.hid ho2
  have HU1' := Lib.hid hov1
  have HU2 := Lib.hid hov2
  have hf2 := HF1.out.adv b'
  have hfe2 := adv_few HF1.out b'
  have hsp := HSP.out
  obtain ⟨⟨c2, l2, e2⟩, hp2⟩ : ∃ p, p = c1.adv b' := ⟨_, rfl⟩
  rw [← hp2] at HC5 HO2 hf2 hfe2 hsp
  simp only at HC5 HO2 hf2 hfe2 hsp
  simp only [← hp2]
  have HF2 := Lib.hid hf2
  have HFE2 := Lib.hid hfe2
  have HSP2 := Lib.hid hsp
  have HV3 := Lib.hid (adv_c HD5.out HF.out (a' + b'))
  clear hm5 hap5 hd5 hc5 hbk5 ho1 ho2 ht1 hot2 hov1 hov2 hdis2 hf2 hfe2 hsp hp2 HV2 HSP HU1 HO1 HT1
  obtain ⟨X1, d1, rfl, _⟩ := own_rowS HO1'.out
  obtain ⟨X2, d2, rfl, _⟩ := own_rowS HO2.out
  go_wp2_with fail
  go_at_call 12
  refine HV3.out.mono ?_
  rintro e w6 ⟨v3, rfl, ho3, hd6, hm6, hdis3⟩
  obtain ⟨hc6, hap6, _⟩ := HAP5.out.symm.moves HC5.out hm6
  obtain ⟨ho1, _⟩ := HU1'.out.moves HO1'.out hm6
  obtain ⟨ho2, _⟩ := HU2.out.moves HO2.out hm6
  have hf3 := HF.out.adv (a' + b')
  have hfe3 := adv_few HF.out (a' + b')
  have hsp := HSP2.out
  obtain ⟨⟨c3, l3, e3⟩, hp3⟩ : ∃ p, p = c.adv (a' + b') := ⟨_, rfl⟩
  rw [← hp3] at hd6 ho3 hf3 hfe3 hsp
  simp only at hd6 ho3 hf3 hfe3 hsp
  simp only [← hp3]
  obtain ⟨X3, d3, rfl, _⟩ := own_rowS ho3
  have HBF : Hid (Below w.heap.size w w6) := Lib.hid (by
    have h1 := (HM4.out.trans HM5.out).below HC3.out hBw
    have h2 := hm6.below HD5.out (D := w.heap.size) HBL.out.size
    exact ((HBL.out.trans (HB3.out.mono HBL.out.size)).trans h1).trans h2)
  obtain ⟨hl1, hz1⟩ := HFE1.out
  obtain ⟨hl2, hz2⟩ := HFE2.out
  obtain ⟨hl3, hz3⟩ := hfe3
  have HC6 := Lib.hid hc6
  have HD6 := Lib.hid hd6
  have HO1 := Lib.hid ho1
  have HO2'' := Lib.hid ho2
  have HO3 := Lib.hid ho3
  have HF3 := Lib.hid hf3
  have HSP3 := Lib.hid hsp
  have HL1 := Lib.hid hl1
  have HL2 := Lib.hid hl2
  have HL3 := Lib.hid hl3
  clear hc6 hd6 ho1 ho2 ho3 hf3 hsp hp3 hm6 hap6 hdis3 HFE1 HFE2 HV3 HAP3 HAP4 HAP5 HM4 HM5 HD3 HD4 HD5 HC3 HC4 HC5 HBK4 HBK5 HU1' HU2 HO1' HO2 HSP2 hl1 hl2 hl3
  by_cases hall : e1 = 0 ∧ e2 = 0 ∧ e3 = 0
  · obtain ⟨rfl, rfl, rfl⟩ := hall
    obtain ⟨q3, q4⟩ := HSP3.out rfl rfl rfl
    subst q4
    obtain ⟨i0, hi, hzz⟩ := Option.map_eq_some_iff.1 info_fr
    simp only [Prod.mk.injEq] at hzz
    have HI := Lib.hid hi
    have HZ := Lib.hid hzz
    have H1 : Hid (∀ l : List (Int × Int), ∀ u ∈ frC l, u.oneCell' = true) := Lib.hid fun l u hu => by
      obtain ⟨t, _, hu⟩ := List.mem_flatMap.1 hu
      simp at hu
      rcases hu with rfl | rfl <;> rfl
    have HR1 := Lib.hid (Reads.of_own HO1.out)
    have HR2 := Lib.hid (Reads.of_own HO2''.out)
    have hk1 := HL1.out
    have hk2 := HL2.out
    have HL : Hid (l1.length ≤ 4096 ∧ l2.length ≤ 4096) := Lib.hid ⟨hk1, hk2⟩
    -- behind the first append
    have HP7 : Hid (∀ v7 w7, w7.ownsRow w6.heap.size 41 2 v7 (0 + l1.length) ([] ++ frC l1) → (w6.alloc (.cells #[] 41)).grownBy w7 (Value.slice (some ⟨w6.heap.size, 0, none⟩) 0 0).ownBlock → w7.ownsRow w6.heap.size 41 2 v7 l1.length (frC l1) ∧ Below w6.heap.size w6 w7) := Lib.hid fun v7 w7 h1 h2 => by
      rw [Nat.zero_add, List.nil_append] at h1
      refine ⟨h1, ?_⟩
      have hb : Below w6.heap.size w6 (w6.alloc (.cells #[] 41)) := (Below.refl _ _).alloc (Nat.le_refl _) _
      exact hb.grown h2 (by rw [al_size]; omega) (fun k hk => by cases hk; exact Nat.le_refl _)
    have HP8 : Hid (∀ v7 w7 v8 w8, Below w6.heap.size w6 w7 → w7.ownsRow w6.heap.size 41 2 v7 l1.length (frC l1) → w8.ownsRow w6.heap.size 41 2 v8 (l1.length + l2.length) (frC l1 ++ frC l2) → w7.grownBy w8 v7.ownBlock → w8.ownsRow w6.heap.size 41 2 v8 l3.length (frC l3) ∧ Below w6.heap.size w6 w8) := Lib.hid fun v7 w7 v8 w8 h0 h1 h2 h3 => by
      rw [q3, frC_app, List.length_append]
      exact ⟨h2, h0.grown h3 h0.size (fun k hk => (h1.lt k hk).1)⟩
    have HP9 : Hid (∀ w8, Below w6.heap.size w6 w8 → CAt B s w8 c3 ∧ (∃ B', CAt B' s2 w8 c3) ∧ w8.ownsRow w5.heap.size 41 2 (.slice X3 l3.length d3) l3.length (frC l3) ∧ Below w.heap.size w w8) := Lib.hid fun w8 h => ⟨(HC6.out.below h).1, ⟨_, (HD6.out.below h).1⟩, own_mv HO3.out (Moves.of_new [] h) (by simp), HBF.out.trans (h.mono HBF.out.size)⟩
    have HNL : Hid (l3.length ≤ 1099511627776) := Lib.hid (by rw [q3, List.length_append]; omega)
    clear hi hzz q3 HSP3 HL1 HL2 HL3 hk1 hk2 hz1 hz2 hz3
    go_wp2_with (first | (at_builtin; (refine wpList_append_any _ (by rfl) _ _ 28 (by rfl) w6.heap.size 41 i0 (.agg #[.int .i64 0, .int .i64 0]) 2 16 Try.underlying28 HI.out HZ.out.1 HZ.out.2.1 HZ.out.2.2 rfl (by decide) _ 0 [] (by rfl) (own_void w6 41 2) w6.heap.size X1 l1.length d1 (frC l1) (by rfl) (HR1.out.alloc (Nat.le_refl _) _) (H1.out _) (by have := HL.out; simp only [maxLen]; omega) (by have := HL.out; omega) (by rw [al_size]; omega) ?_; intro v7 w7 ho7 hg7 hb7; obtain ⟨hq7, hbl7⟩ := HP7.out v7 w7 ho7 hg7; clear ho7 hg7 hb7; obtain ⟨X7, d7, rfl, _⟩ := own_rowS hq7; have HQ7 := Lib.hid hq7; have HBL7 := Lib.hid hbl7; clear hq7 hbl7)) | (at_builtin; go_loud (refine wpList_append_any _ (by rfl) _ _ 28 (by rfl) w6.heap.size 41 i0 (.agg #[.int .i64 0, .int .i64 0]) 2 16 Try.underlying28 HI.out HZ.out.1 HZ.out.2.1 HZ.out.2.2 rfl (by decide) _ l1.length (frC l1) (by rfl) HQ7.out w6.heap.size X2 l2.length d2 (frC l2) (by rfl) (HR2.out.below HBL7.out) (H1.out _) (by have := HL.out; simp only [maxLen]; omega) (by have := HL.out; omega) (HBL7.out.size) ?_; intro v8 w8 ho8 hg8 hb8; obtain ⟨hq8, hbl8⟩ := HP8.out _ _ v8 w8 HBL7.out HQ7.out ho8 hg8; clear ho8 hg8 hb8; obtain ⟨hc8, ⟨B', hd8⟩, ho83, hb8⟩ := HP9.out w8 hbl8; have HSM := Lib.hid (firings_same (CellsAt.of_own hq8) (CellsAt.of_own ho83) HNL.out); have HC8 := Lib.hid hc8; have HD8 := Lib.hid hd8; have HB8 := Lib.hid hb8; obtain ⟨X8, d8, rfl, _⟩ := own_rowS hq8; clear hq8 hbl8 hc8 hd8 ho83 hb8)) | (go_at_call 13; refine HSM.out.mono ?_; rintro e w9 ⟨rfl, q, rfl⟩) | (go_at_call 14; refine (now_c (w := w8.drewN q) (c := c3) ⟨HC8.out.now, HC8.out.last, HC8.out.q⟩).mono ?_; rintro e w9 ⟨rfl, rfl⟩) | (go_at_call 14; refine (now_c (w := w8.drewN q) (c := c3) ⟨HD8.out.now, HD8.out.last, HD8.out.q⟩).mono ?_; rintro e w9 ⟨rfl, rfl⟩))
    have hcq : CAt B s (w8.drewN q) c3 := ⟨HC8.out.now, HC8.out.last, HC8.out.q⟩
    have hdq : CAt B' s2 (w8.drewN q) c3 := ⟨HD8.out.now, HD8.out.last, HD8.out.q⟩
    have hbq : Below w.heap.size w (w8.drewN q) := ⟨HB8.out.os, HB8.out.tape, HB8.out.output, HB8.out.size, HB8.out.block⟩
    refine (pending_c hcq HF3.out).mono ?_
    rintro e w9 ⟨v9, rfl, ho9, hb9⟩
    have hd9 := (hdq.below hb9).1
    have HP9' := Lib.hid (pending_c hd9 HF3.out)
    have HO9 := Lib.hid ho9
    have HB9 := Lib.hid (hbq.trans (hb9.mono hbq.size))
    clear hcq hdq hbq hd9 ho9 hb9
    go_wp2_with fail
    go_at_call 16
    refine HP9'.out.mono ?_
    rintro e w10 ⟨v10, rfl, ho10, hb10⟩
    have ho9' := own_mv HO9.out (Moves.of_new [] hb10) (by simp)
    have HT := Lib.hid (timers_same (CellsAt.of_own ho9') (CellsAt.of_own ho10) (by have := HF3.out.ok.len; omega))
    have HB10 := Lib.hid (HB9.out.trans (hb10.mono HB9.out.size))
    clear ho9' ho10 hb10
    go_wp2_with (go_at_call 15; refine HT.out.mono ?_; rintro e w11 ⟨rfl, q2, rfl⟩)
    go_ret
    exact ⟨rfl, HB10.out.os, HB10.out.tape, HB10.out.output, HB10.out.size, HB10.out.block⟩
  · rcases hz1 with rfl | ⟨hn1, rfl⟩ <;> rcases hz2 with rfl | ⟨hn2, rfl⟩ <;> rcases hz3 with rfl | ⟨hn3, rfl⟩
    · exact absurd ⟨rfl, rfl, rfl⟩ hall
    all_goals
      clear hall
      simp only [List.length_nil]
      go_wp2
      go_ret
      exact ⟨rfl, HBF.out⟩
end Go.Proofs.Ytjlapnnmdfdjdaa
