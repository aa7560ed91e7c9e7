/- names.sure. -/
import Derived.Test.YtgopflklcfcocaaDoorA29
namespace Go.Proofs.YtgopflklcfcocaaDoor
open Go.RowKit Go.Maps Go.ChangeMaps Go.WideShapes

theorem NatsAt.take {w : World} {A : Option Addr} {l : List Nat} (h : NatsAt w A l) (k : Nat) : NatsAt w A (l.take k) := by
  rcases h with rfl | ⟨b, off, e, hl, hc⟩
  · exact .inl (by simp)
  · exact .inr ⟨b, off, e, hl, fun i hi => by
      have hi' : i < l.length := by rw [List.length_take] at hi; omega
      rw [List.getElem_take]; exact hc i hi'⟩
theorem NatsAt.apart {w w' : World} {A : Option Addr} {l : List Nat} {b : Nat} (h : NatsAt w A l) (hk : ∀ i, i < w.heap.size → i ≠ b → w'.heap[i]? = w.heap[i]?) (hb : ∀ g o, A = some ⟨g, o, none⟩ → g ≠ b) (hs : w.heap.size ≤ w'.heap.size) : NatsAt w' A l := by
  rcases h with h | ⟨g, off, e, hl, hc⟩
  · exact .inl h
  · exact .inr ⟨g, off, e, Nat.lt_of_lt_of_le hl hs, fun i hi => (World.cell?_of_block (a := ⟨g, off + i, none⟩) (hk g hl (hb g off e))).trans (hc i hi)⟩
theorem own_cap2 {w : World} {base : Nat} {e : TypeId} {size cap k n : Nat} {V : Option Addr} {xs : List Value} (h : w.ownsRow base e size (.slice V k cap) n xs) : n ≤ cap := by
  rcases h.2 with ⟨h0, h1⟩ | ⟨g', cap', cur, hv, _, _, hn, _⟩
  · cases h0; omega
  · cases hv; exact hn
theorem sum_take (l : List Nat) (k : Nat) : (l.take k).sum ≤ l.sum := by
  induction l generalizing k with
  | nil => simp
  | cons a l ih =>
    rcases k with _ | k
    · simp
    · have := ih k; simp; omega
theorem take_one (l : List Nat) (h : 1 ≤ l.length) : l.take 1 = [l.getD 0 0] := by
  rcases l with _ | ⟨a, l⟩
  · simp at h
  · rfl
/-- What the drawn region keeps: two numbers of a row. -/
def SV (w : World) (g o : Nat) (x y : Nat) (w' : World) : Prop := Below w.heap.size w w' ∧ w'.cell? ⟨g, o + 1, none⟩ = some (.int .i64 (x : Int)) ∧ w'.cell? ⟨g, o + 2, none⟩ = some (.int .i64 (y : Int))
theorem SV.below {w W W' : World} {g o x y : Nat} (h : SV w g o x y W) (hg : g < w.heap.size) (hb : Below W.heap.size W W') : SV w g o x y W' :=
  ⟨h.1.trans (hb.mono h.1.size), (hb.cell (p := ⟨g, o + 1, none⟩) (Nat.lt_of_lt_of_le hg h.1.size)).trans h.2.1, (hb.cell (p := ⟨g, o + 2, none⟩) (Nat.lt_of_lt_of_le hg h.1.size)).trans h.2.2⟩
theorem SV.drew {w W : World} {g o x y : Nat} (h : SV w g o x y W) : SV w g o x y W.drew := ⟨h.1.trans ((Below.refl _ _).drew.mono h.1.size), h.2.1, h.2.2⟩
theorem three {l : List Nat} {x1 x2 : Nat} (hl : l.length = 3) (h1 : l[1]'(by omega) = x1) (h2 : l[2]'(by omega) = x2) : l = [l.getD 0 0, x1, x2] := by
  match l, hl with
  | [a, b, c], _ =>
    simp at h1 h2
    subst h1 h2
    rfl
/-- What is known behind the switch: the set so far, and the parts still to come. -/
def SureMid (es : List XOp) (fr : List Nat) (f pos : Nat) (w : World) (s7 s8 : Value) (w' : World) : Prop :=
  ∃ (b n0 c : Nat) (ql : List Nat) (V : Option Addr) (S0 : ByteArray → Bool), s7 = .map (some b) ∧ s8 = .slice V ql.length c ∧ NatsAt w' V ql ∧ (∀ g o, V = some ⟨g, o, none⟩ → g ≠ b) ∧ w.heap.size ≤ b ∧ SetIs w' b n0 S0 ∧ Below w.heap.size w w' ∧
    (∀ x, sureF es fr (f + 1) pos x = (S0 x || ql.any fun p => sureF es fr f p x)) ∧ n0 + (ql.map (spanN fr)).sum ≤ spanN fr pos ∧ (∀ p ∈ ql, p < pos) ∧ ql.length ≤ 256

set_option maxHeartbeats 4000000 in
set_option maxRecDepth 100000 in
theorem sure_c (es : List XOp) (fr : List Nat) (hW : Whole es fr) (hg : ∀ pos, pos < es.length → GoodAt es fr pos) (ht : ∀ o ∈ es, o.text.size ≤ 140737488355328) : ∀ (n pos f : Nat) (A B : Option Addr) (c d : Nat) (w : World), pos < n → pos < es.length → pos < f → OpsAt w A es → NatsAt w B fr →
    Calls Tryd.prog 64 #[.slice A es.length c, .slice B fr.length d, .int .i64 pos] w fun e w' => ∃ b, e = .returned (.map (some b)) ∧ w.heap.size ≤ b ∧ SetIs w' b (spanN fr pos) (sureF es fr f pos) ∧ Below w.heap.size w w' := by
  intro n
  induction n with
  | zero => intro pos f A B c d w h; omega
  | succ n ih =>
    intro pos f A B c d w hpn hp hf hx hfr
    obtain ⟨f, rfl⟩ : ∃ q, f = q + 1 := ⟨f - 1, by omega⟩
    have hu := sureF_unfold (fr := fr) (f := f) hp
    obtain ⟨_, m, b0, hm, e0, htile, hwell⟩ := hg pos hp
    have hsum := tile_sum htile
    have hb0 := getD_of e0 0
    have htl := tile_le htile
    obtain ⟨hch, hpl⟩ := tile_chain htile
    have hpm := partsGo_length fr m pos
    have hlen := hW.len
    have hflen := hW.flen
    rw [hm, Int.toNat_natCast] at hu
    have HU := Lib.hid hu
    have HM := Lib.hid hm
    have HP := Lib.hid hpm
    have HPL := Lib.hid hpl
    have HC := Lib.hid hch
    have HS := Lib.hid hsum
    have HB0 := Lib.hid hb0
    have IH := Lib.hid ih
    have HW := Lib.hid hW
    have HF := Lib.hid hflen
    have HWL := Lib.hid hwell
    have htk := ht es[pos] (List.getElem_mem hp)
    clear hu hm hpm hpl hch hsum hb0 ih hW hflen hg hwell
    rcases hx with hx0 | ⟨bx, off, rfl, hbx, hcx⟩
    · rw [hx0] at hp; simp at hp
    obtain ⟨h0, h1, h2, h3⟩ := hcx pos hp
    have hx : OpsAt w (some ⟨bx, off, none⟩) es := .inr ⟨bx, off, rfl, hbx, hcx⟩
    clear hcx
    have hal : Below w.heap.size w (w.alloc (.map #[] 0)) := (Below.refl _ _).alloc (Nat.le_refl _) _
    have hasz : (w.alloc (.map #[] 0)).heap.size = w.heap.size + 1 := by simp
    have HAL := Lib.hid hal
    have HASZ := Lib.hid hasz
    clear hal hasz
    have hmm := @run_makeMap Tryd.prog
    go_enter Tryd.func64, Tryd.ntmps64
    go_upto_block 0 with (go_at_call 59; refine (parts_c es fr _ B c d pos m _ (hx.below HAL.out) (hfr.below HAL.out) hlen (by rw [HF.out]; exact hlen) hp HM.out (by omega) HC.out HW.out.fle).mono ?_; rintro e w1 ⟨v, rfl, hown, hb1⟩; obtain ⟨V, cv, rfl, hvn, hvl⟩ := own_nats hown; have hcap := own_cap2 hown; have hVf := own_fresh hown; have g0 : w1.cell? ⟨bx, off + pos * 4, none⟩ = some (.int .i64 es[pos].kind) := (hb1.cell (p := ⟨bx, off + pos * 4, none⟩) (Nat.lt_of_lt_of_eq (Nat.lt_succ_of_lt hbx) HASZ.out.symm)).trans ((HAL.out.cell (p := ⟨bx, off + pos * 4, none⟩) hbx).trans h0); have g3 : w1.cell? ⟨bx, off + pos * 4 + 3, none⟩ = some (.string es[pos].text) := (hb1.cell (p := ⟨bx, off + pos * 4 + 3, none⟩) (Nat.lt_of_lt_of_eq (Nat.lt_succ_of_lt hbx) HASZ.out.symm)).trans ((HAL.out.cell (p := ⟨bx, off + pos * 4 + 3, none⟩) hbx).trans h3))
    have bw1 : Below w.heap.size w w1 := HAL.out.trans (hb1.mono (by rw [HASZ.out]; omega))
    have hset : SetIs w1 w.heap.size 0 (fun _ => false) := (SetIs.new w).below hb1
    have hs1 := hset.lt
    go_cut [7, 8] (fun s7 s8 w' => SureMid es fr f pos w s7 s8 w')
    case first =>
      have hVb : ∀ g o, V = some ⟨g, o, none⟩ → g ≠ w.heap.size := fun g o h => by have h2 := (hVf g o h).1; rw [HASZ.out] at h2; omega
      have hspan : spanN fr pos = pos + 1 - b0 := by unfold spanN; rw [HB0.out]
      have hsum' := HS.out
      have hpl256 : (partsGo fr m pos).length ≤ 256 := by rw [HP.out]; omega
      have HSP := Lib.hid hspan
      have HSUM := Lib.hid hsum'
      have HL := Lib.hid hpl256
      clear hspan hsum' hpl256
      by_cases k3 : es[pos].kind = 3
      · have d3 : (es[pos].kind == 3) = true := by simpa using k3
        have hn0 := arity_name k3 HWL.out
        have hm0 : m = 0 := by have := HM.out; omega
        have K3 := Lib.hid k3
        have HM0 := Lib.hid hm0
        have hkl := kl_of es[pos].text htk
        have HKL := Lib.hid hkl
        clear k3 hn0 hm0 hkl
        obtain ⟨D0, hD0, hS0⟩ := hset
        have HS0 := Lib.hid hS0
        clear hS0
        go_wp2_with (at_mapUpdate; refine wpList_mapUpdate_own _ (by rfl) _ _ _ 80 (by rfl) 9 82 keyed Tryd.underlying80 unitElem w.heap.size 0 D0 (by rfl) hD0 (by simp [maxLen]) (.string es[pos].text) (.agg #[]) (kl es[pos].text) (by rfl) (by rfl) HKL.out (.agg []) [] unitElem_mk ?_; intro w2 hD2 hg2; go_frame)
        go_meet
        refine ⟨w.heap.size, 1, cv, partsGo fr m pos, V, _, rfl, by rw [HP.out], ?_, hVb, Nat.le_refl _, SetIs.put hD0 HS0.out htk hD2, bw1.grown hg2 (by omega) (fun k hk => by cases hk; exact Nat.le_refl _), fun x => ?_, ?_, HPL.out, HL.out⟩
        · exact hvn.apart (b := w.heap.size) (fun i hi hib => hg2.block i hi (fun e => hib (Option.some.inj e))) hVb hg2.size
        · rw [HU.out, if_pos K3.out, HM0.out]
          simp [partsGo]
        · rw [HSUM.out, HSP.out]; omega
      · by_cases k15 : es[pos].kind = 15
        · have d3 : (es[pos].kind == 3) = false := by simpa using k3
          have d15 : (es[pos].kind == 15) = true := by simpa using k15
          have hn0 := arity_try k15 HWL.out
          have hm0 : m = 2 := by have := HM.out; omega
          have K3 := Lib.hid k3
          have K15 := Lib.hid k15
          have hto := take_one (partsGo fr m pos) (by rw [HP.out]; omega)
          have HTO := Lib.hid hto
          have hv1 := hvn.take 1
          have hv2 : ∃ bv ov, V = some ⟨bv, ov, none⟩ := by
            rcases hvn with h | ⟨bv, ov, h, _⟩
            · have := HP.out; rw [h] at this; simp at this; omega
            · exact ⟨bv, ov, h⟩
          obtain ⟨bv, ov, rfl⟩ := hv2
          have HM0 := Lib.hid hm0
          have hc1 : (1 : Int) ≤ (cv : Int) := by omega
          have hc2 : 1 ≤ cv := by omega
          clear k3 k15 hn0 hto hm0
          go_wp2
          go_meet
          refine ⟨w.heap.size, 0, cv, (partsGo fr m pos).take 1, _, _, rfl, by rw [List.length_take, HP.out, HM0.out]; rfl, hv1, hVb, Nat.le_refl _, hset, bw1, fun x => ?_, ?_, fun p hp => HPL.out p (List.mem_of_mem_take hp), by rw [List.length_take, HP.out, HM0.out]; decide⟩
          · rw [HU.out, if_neg K3.out, if_pos K15.out, HTO.out]
            simp
          · rw [List.map_take]
            have h2 := sum_take ((partsGo fr m pos).map (spanN fr)) 1
            rw [HSUM.out] at h2
            rw [HSP.out]; omega
        · by_cases k14 : es[pos].kind = 14
          · have d3 : (es[pos].kind == 3) = false := by simpa using k3
            have d15 : (es[pos].kind == 15) = false := by simpa using k15
            have d14 : (es[pos].kind == 14) = true := by simpa using k14
            have hn0 := arity_if k14 HWL.out
            have hm0 : m = 3 := by have := HM.out; omega
            have K3 := Lib.hid k3
            have K15 := Lib.hid k15
            have K14 := Lib.hid k14
            have hto := take_one (partsGo fr m pos) (by rw [HP.out]; omega)
            have HTO := Lib.hid hto
            have hv1 := hvn.take 1
            have hp1l : 1 < (partsGo fr m pos).length := by rw [HP.out]; omega
            have hp2l : 2 < (partsGo fr m pos).length := by rw [HP.out]; omega
            rcases hvn with h | ⟨bv, ov, rfl, hbv, hcv⟩
            · rw [h] at hp1l; simp at hp1l
            have hcv1 := hcv 1 hp1l
            have hcv2 := hcv 2 hp2l
            have hq1 := HPL.out (partsGo fr m pos)[1] (List.getElem_mem hp1l)
            have hq2 := HPL.out (partsGo fr m pos)[2] (List.getElem_mem hp2l)
            generalize hx1 : (partsGo fr m pos)[1] = x1 at *
            generalize hx2 : (partsGo fr m pos)[2] = x2 at *
            have HX1 := Lib.hid hx1
            have HX2 := Lib.hid hx2
            have HM0 := Lib.hid hm0
            have hc1 : (1 : Int) ≤ (cv : Int) := by omega
            have hc2 : 1 ≤ cv := by omega
            have hi1 : (1 : Int) < (m : Int) := by omega
            have hi2 : (2 : Int) < (m : Int) := by omega
            have hj1 : 1 < m := by omega
            have hj2 : 2 < m := by omega
            have h0 : SV w1 bv ov x1 x2 w1 := ⟨Below.refl _ _, hcv1, hcv2⟩
            have H0 := Lib.hid h0
            have hfr1 := hfr.below bw1
            have hxx1 := hx.below bw1
            clear k3 k15 k14 hn0 hto hm0 hcv hx1 hx2 h0
            go_wp2_with fail
            go_region_held3 (fun w' => Below w1.heap.size w1 w' ∧ w'.cell? ⟨bv, ov + 1, none⟩ = some (.int .i64 (x1 : Int)) ∧ w'.cell? ⟨bv, ov + 2, none⟩ = some (.int .i64 (x2 : Int)))
              (first | (show SV w1 bv ov x1 x2 _; first | with_reducible exact H0.out.drew | with_reducible exact HS.out | with_reducible exact HS.out.drew))
              ((first | (go_at_call_of 64 (Value.int .i64 (x1 : Int)); have qq : SV w1 bv ov x1 x2 _ := ‹Below _ _ _ ∧ _ ∧ _›; refine (IH.out x1 f _ B c d _ (by omega) (by omega) (by omega) (hxx1.below qq.1) (hfr1.below qq.1)).mono ?_; rintro e w2 ⟨ba, rfl, hba, hsa, hbA⟩; have HS := Lib.hid (qq.below hbv hbA); have hz2 := HS.out.1.size; clear qq) | (go_at_call_of 64 (Value.int .i64 (x2 : Int)); have qq : SV w1 bv ov x1 x2 _ := ‹Below _ _ _ ∧ _ ∧ _›; refine (IH.out x2 f _ B c d _ (by omega) (by omega) (by omega) (hxx1.below qq.1) (hfr1.below qq.1)).mono ?_; rintro e w3 ⟨bb, rfl, hbb, hsb, hbB⟩; have HS := Lib.hid (qq.below hbv hbB); clear qq)))
            have hb3 := HS.out.1
            have hz3 := hb3.size
            have hal := hsa.lt
            obtain ⟨Do, hDo, hSo⟩ := hset.below hb3
            obtain ⟨Da, hDa, hSa⟩ := hsa.below hbB
            obtain ⟨Db, hDb, hSb⟩ := hsb
            have hsz := hDa.size_le
            have HSO := Lib.hid hSo
            have HSA := Lib.hid hSa
            have HSB := Lib.hid hSb
            have hba' : w1.heap.size ≤ ba := hba
            have hbb' : w1.heap.size ≤ bb := Nat.le_trans hz2 hbb
            have hbw3 := bw1.trans (hb3.mono (Nat.le_of_lt hs1))
            have hspa : spanN fr x1 ≤ 300 := by unfold spanN; omega
            have hna : ba ≠ w.heap.size := by omega
            have hnb : bb ≠ w.heap.size := by omega
            clear hSo hSa hSb hset hsa HS H0
            go_wp2_with (at_range; refine wpList_range_own _ (by rfl) _ 80 (by rfl) 9 82 keyed Tryd.underlying80 unitElem ba _ Da (by rfl) hDa ?_; intro w4 hrg0 hg0 hs0)
            try go_frame
            go_loopw [] (fun wr => ∃ (left : Lit → Bool) (cnt k1 : Nat) (D : DataW Unit), wr.ranges Tryd.prog 9 unitElem ba w3.heap.size (spanN fr x1) Da left cnt ∧ wr.ownsMap Tryd.prog 9 unitElem w.heap.size k1 D ∧ wr.ownsMap Tryd.prog 9 unitElem bb (spanN fr x2) Db ∧ Hid (∀ s, Maps.has D (kl s) = (sureF es fr f x1 s && (sureF es fr f x2 s && !left (kl s)))) ∧ k1 + cnt ≤ spanN fr x1 ∧ Below w.heap.size w wr ∧ w3.heap.size < wr.heap.size ∧ ∀ i, i < w3.heap.size → i ≠ w.heap.size → wr.heap[i]? = w3.heap[i]?) (fun wr => wr.rangeLeft ba w3.heap.size)
            case atStart =>
              refine ⟨Maps.has Da, Maps.size Da, 0, Do, hrg0, hDo.kept hg0 (by simp), hDb.kept hg0 (by simp), fun s => ?_, by omega, hbw3.grown hg0 (by have := hbw3.size; omega) (fun k hk => by cases hk), by omega, fun i hi _ => hg0.block i hi (by simp)⟩
              rw [HSO.out, HSA.out]
              cases sureF es fr f x1 s <;> simp
            case round =>
              obtain ⟨left, cnt, k1, D, hrg, hDm, hDb1, hh, hcnt, hbel, hsz2, hap⟩ := hrel
              have hle := hrg.left_eq
              go_wp2_with (first | (at_next; refine wpList_next_ranges _ (by rfl) _ (by rfl) 9 keyed unitElem Value.string (fun _ : Unit => .agg #[]) (fun key l h => (by obtain ⟨s, h1, _⟩ := key_inv h; exact ⟨s, h1⟩)) (fun v y h => ⟨(), (unitElem_inv h).1⟩) ba w3.heap.size (spanN fr x1) Da left cnt (by rfl) hrg ?_ ?_))
              · intro hc0 hl0
                have hfin : SetIs wr w.heap.size (spanN fr x1) (fun x => sureF es fr f x1 x && sureF es fr f x2 x) := ⟨D, hDm.mono (by omega), fun s => by rw [hh.out, hl0]; simp⟩
                have h3 := three (by rw [HP.out, HM0.out]) HX1.out HX2.out
                have H3 := Lib.hid h3
                have hv4 : NatsAt wr (some ⟨bv, ov, none⟩) ((partsGo fr m pos).take 1) := (hv1.below hb3).apart hap hVb (Nat.le_of_lt hsz2)
                clear hle h3
                go_wp2
                go_meet
                refine ⟨w.heap.size, _, cv, (partsGo fr m pos).take 1, _, _, rfl, by rw [List.length_take, HP.out, HM0.out]; rfl, hv4, hVb, Nat.le_refl _, hfin, hbel, fun x => ?_, ?_, fun p hp => HPL.out p (List.mem_of_mem_take hp), by rw [List.length_take, HP.out, HM0.out]; decide⟩
                · rw [HU.out, if_neg K3.out, if_neg K15.out, if_pos K14.out, HTO.out]
                  have e1 : (partsGo fr m pos).getD 1 0 = x1 := by rw [H3.out]; rfl
                  have e2 : (partsGo fr m pos).getD 2 0 = x2 := by rw [H3.out]; rfl
                  rw [e1, e2]
                  simp [Bool.or_comm]
                · have h9 := HSUM.out
                  rw [H3.out] at h9
                  rw [HTO.out, HSP.out]
                  simp only [List.map_cons, List.map_nil, List.sum_cons, List.sum_nil] at h9 ⊢
                  omega
              · intro x c l y w5 cnt1 hkx hlx hy hat hrg1 hlt hg1 hs1 hen
                obtain ⟨s', e1, rfl⟩ := key_inv hkx
                cases e1
                have hkey := keyed.key hkx
                have hTx : sureF es fr f x1 x = true := by rw [← HSA.out]; exact has_true_of_atKey hat
                have HK := Lib.hid hkey
                have HT := Lib.hid hTx
                have HKX := Lib.hid hkx
                have hne3 : w3.heap.size ≠ w.heap.size := by omega
                have hbl3 := hDb.lt
                clear hkey hTx hkx hy hat hle
                have hD1 := (hDm.kept hg1 (fun e => hne3 (Option.some.inj e).symm)).alloc (.cells #[] 82)
                have hB0 := hDb1.kept hg1 (fun e => by have := Option.some.inj e; omega)
                have hr1 := hrg1.alloc (.cells #[] 82)
                have hb1' := (hbel.grown hg1 (by have := hbel.size; omega) (fun k hk => by cases hk; omega)).alloc (by have := hbel.size; omega) (.cells #[] 82)
                have hz1 : (w5.alloc (.cells #[] 82)).heap.size = w5.heap.size + 1 := by simp
                have HZ1 := Lib.hid hz1
                have hap1 : ∀ i, i < w3.heap.size → i ≠ w.heap.size → (w5.alloc (.cells #[] 82)).heap[i]? = w3.heap[i]? := fun i hi hib => by
                  rw [World.heap_alloc_lt' w5 _ (by omega), hg1.block i (by omega) (fun e => by have := Option.some.inj e; omega)]
                  exact hap i hi hib
                clear hz1
                cases hT2 : sureF es fr f x2 x
                · have hh2 : Maps.has Db (kl x) = false := by rw [HSB.out]; exact hT2
                  have HT2 := Lib.hid hT2
                  clear hT2
                  go_wp2_with (at_lookup; refine wpList_lookup_own_unit _ (by rfl) _ _ 80 (by rfl) 9 82 keyed Tryd.underlying80 (zeroU _) bb (spanN fr x2) Db (by rfl) hB0 (.string x) (kl x) (by rfl) HKX.out ?_; rw [hh2])
                  go_roundw
                  case rel =>
                    refine ⟨_, cnt1, k1, D, hr1, hD1, hB0.alloc _, fun s => ?_, by omega, hb1', by rw [HZ1.out]; omega, hap1⟩
                    rw [hh.out, same_iff x s HK.out]
                    by_cases hsx : s = x
                    · subst hsx
                      rw [HT2.out]; simp
                    · simp [hsx]
                  case measure => rw [hr1.left_eq, hrg.left_eq]; exact hlt
                · have hh2 : Maps.has Db (kl x) = true := by rw [HSB.out]; exact hT2
                  have HT2 := Lib.hid hT2
                  clear hT2
                  go_wp2_with (first | (at_lookup; refine wpList_lookup_own_unit _ (by rfl) _ _ 80 (by rfl) 9 82 keyed Tryd.underlying80 (zeroU _) bb (spanN fr x2) Db (by rfl) hB0 (.string x) (kl x) (by rfl) HKX.out ?_; rw [hh2]) | (at_mapUpdate; refine wpList_mapUpdate_own _ (by rfl) _ _ _ 80 (by rfl) 9 82 keyed Tryd.underlying80 unitElem w.heap.size k1 D (by rfl) hD1 (by simp only [maxLen]; omega) (.string x) (.agg #[]) (kl x) (by rfl) (by rfl) HKX.out (.agg []) [] unitElem_mk ?_; intro w6 hD2 hg2; go_frame))
                  have hr2 := hr1.kept hg2 (fun e => hna (Option.some.inj e)) (fun e => hne3 (Option.some.inj e))
                  go_roundw
                  case rel =>
                    refine ⟨_, cnt1, k1 + 1, _, hr2, hD2, (hB0.alloc _).kept hg2 (fun e => hnb (Option.some.inj e)), fun s => ?_, by omega, hb1'.grown hg2 (by rw [HZ1.out]; have := hbel.size; omega) (fun k hk => by cases hk; exact Nat.le_refl _), ?_, fun i hi hib => ?_⟩
                    · rw [has_put2 D hDm.isMap x s HK.out, hh.out, same_iff x s HK.out]
                      by_cases hsx : s = x
                      · subst hsx
                        rw [HT.out, HT2.out]; simp
                      · simp [hsx]
                    · have := hg2.size
                      rw [HZ1.out] at this
                      omega
                    · rw [hg2.block i (by rw [HZ1.out]; omega) (fun e => hib (Option.some.inj e))]
                      exact hap1 i hi hib
                  case measure => rw [hr2.left_eq, hrg.left_eq]; exact hlt
          · have d3 : (es[pos].kind == 3) = false := by simpa using k3
            have d15 : (es[pos].kind == 15) = false := by simpa using k15
            have d14 : (es[pos].kind == 14) = false := by simpa using k14
            have K3 := Lib.hid k3
            have K15 := Lib.hid k15
            have K14 := Lib.hid k14
            clear k3 k15 k14
            go_wp2
            go_meet
            refine ⟨w.heap.size, 0, cv, partsGo fr m pos, V, _, rfl, by rw [HP.out], hvn, hVb, Nat.le_refl _, hset, bw1, fun x => ?_, by rw [HSUM.out, HSP.out]; omega, HPL.out, HL.out⟩
            rw [HU.out, if_neg K3.out, if_neg K15.out, if_neg K14.out]
            simp
    case rest =>
      obtain ⟨b, n0, cq, ql, Vq, S0, rfl, rfl, hvq, hvb, hwb, hset, hbw, hall, hcnt, hqp, hq256⟩ := hcut
      have HALL := Lib.hid hall
      have HCNT := Lib.hid hcnt
      have HQP := Lib.hid hqp
      clear hall hcnt hqp
      go_wp2
      go_loopw [73] (fun i wr => ∃ (k n1 : Nat) (S1 : ByteArray → Bool), k ≤ ql.length ∧ i = .int .i64 k ∧ SetIs wr b n1 S1 ∧ Hid (∀ x, S1 x = (S0 x || (ql.take k).any fun p => sureF es fr f p x)) ∧ Hid (n1 + ((ql.drop k).map (spanN fr)).sum ≤ spanN fr pos) ∧ Below w.heap.size w wr ∧ NatsAt wr Vq ql) (fun i _ => ql.length - (intOf i).toNat)
      case atStart => exact ⟨0, n0, S0, by omega, rfl, hset, fun x => by simp, by have := HCNT.out; simpa [Hid] using this, hbw, hvq⟩
      case round =>
        obtain ⟨k, n1, S1, hk, rfl, hset1, hs1x, hcnt1, hbel, hvr⟩ := hrel
        by_cases hlt : k < ql.length
        · rcases hvr with hv0 | ⟨bv, ov, hVe, hbv, hcv⟩
          · rw [hv0] at hlt; simp at hlt
          have hcvk := hcv k hlt
          have hvr : NatsAt wr Vq ql := .inr ⟨bv, ov, hVe, hbv, hcv⟩
          clear hcv
          subst hVe
          have hpk := HQP.out ql[k] (List.getElem_mem hlt)
          have hxr := hx.below hbel
          have hfrr := hfr.below hbel
          have hbl := hset1.lt
          have hws := hbel.size
          have hsp : n1 + spanN fr ql[k] ≤ spanN fr pos := by
            have h2 := hcnt1.out
            rw [List.drop_eq_getElem_cons hlt, List.map_cons, List.sum_cons] at h2
            omega
          have hspos : spanN fr pos ≤ 257 := by unfold spanN; omega
          have hk1 : k + 1 ≤ ql.length := hlt
          have hms : ql.length - (k + 1) < ql.length - k := by omega
          have HK1 := Lib.hid hk1
          have HMS := Lib.hid hms
          clear hk1 hms
          go_wp2_with (first | (go_at_call 64; refine (IH.out ql[k] f _ B c d _ (by omega) (by omega) (by omega) hxr hfrr).mono ?_; rintro e w2 ⟨b2, rfl, hb2w, hset2, hb2⟩) | (go_at_call 84; refine (copySet_c b b2 n1 (spanN fr ql[k]) w.heap.size S1 _ _ (hset1.below hb2) hset2 (by omega) (by omega) hwb (Nat.le_trans hws hb2.size)).mono ?_; rintro e w3 ⟨rfl, hset3, hb3, hap3⟩))
          go_roundw
          case rel =>
            refine ⟨k + 1, n1 + spanN fr ql[k], _, HK1.out, by go_num, hset3, fun x => ?_, ?_, (hbel.trans (hb2.mono hws)).trans hb3, (hvr.below hb2).apart hap3 hvb hb3.size⟩
            · rw [hs1x.out, List.take_succ_eq_append_getElem hlt, List.any_append]
              simp only [List.any_cons, List.any_nil, Bool.or_false, Bool.or_assoc]
              rfl
            · have h2 := hcnt1.out
              rw [List.drop_eq_getElem_cons hlt, List.map_cons, List.sum_cons] at h2
              show n1 + spanN fr ql[k] + ((ql.drop (k + 1)).map (spanN fr)).sum ≤ spanN fr pos
              omega
          case measure => have h9 := HMS.out; simp [intOf]; omega
        · have hfin : SetIs wr b (spanN fr pos) (sureF es fr (f + 1) pos) := by
            refine (hset1.mono ?_).same (fun x => ?_)
            · have h2 := hcnt1.out; omega
            · rw [hs1x.out, HALL.out, List.take_of_length_le (by omega)]
          go_wp2
          go_ret
          exact ⟨b, rfl, hwb, hfin, hbel⟩
end Go.Proofs.YtgopflklcfcocaaDoor
