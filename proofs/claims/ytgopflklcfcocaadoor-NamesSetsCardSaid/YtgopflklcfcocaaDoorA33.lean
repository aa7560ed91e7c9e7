/- The reference's sure: the walk. -/
import Derived.Test.YtgopflklcfcocaaDoorA32
namespace Go.Proofs.YtgopflklcfcocaaDoor
open Go.RowKit

/-- append(v, x) of one cell, boxed ahead; where the row lies is told too. -/
theorem app_two {P : Program} {ops : Array Oper} {rest : List Oper} {o : Oper} {a : Act} {Q : Exit → Act → World → Prop} {w0 W : World} (base : Nat) (hgd : o.guard = none) (s x : Operand) (t e : TypeId) (z : Value) (bytes : Nat)
    (ho : o.op = .call { callee := .builtin .append, args := #[s, x], argTypes := #[t, t] })
    (ht : P.underlying t = some (.slice e)) (hinfo : (P.info? e).map (fun i => (i.zero, i.size, i.bytes)) = some (some z, 1, bytes)) (hz : z.cells.size = 1)
    (v : Value) (xs : List Value) (y : Value) (hs : a.eval s = v) (nb : Nat) (hx : a.eval x = .slice (some ⟨nb, 0, none⟩) 1 1) (hnb : nb = W.heap.size) (h1 : y.oneCell' = true)
    (HO : W.ownsRow base e 1 v xs.length xs) (HB : Below base w0 W) (hbase : base ≤ W.heap.size) (hlen : xs.length + 1 ≤ 140737488355328) (hl : (xs.length + 1) * bytes ≤ 140737488355328)
    (h : ∀ v1 w1, w1.ownsRow base e 1 v1 (xs ++ [y]).length (xs ++ [y]) → Below base w0 w1 → W.grownBy w1 v.ownBlock → w1.heap.size ≥ W.heap.size → (∀ g, g < W.heap.size → v.ownBlock ≠ some g → v1.ownBlock ≠ some g) → wpList P ops Q rest (a.put o.dst v1) w1) :
    wpList P ops Q (o :: rest) a (W.alloc (.cells #[y] e)) := by
  obtain ⟨i0, hi, hzz⟩ := Option.map_eq_some_iff.1 hinfo
  simp only [Prod.mk.injEq] at hzz
  obtain ⟨hz0, hz1, hz2⟩ := hzz
  subst hnb
  refine wpList_append_own_at (W.alloc (.cells #[y] e)) hgd s x t ho base e i0 z 1 bytes ht hi hz0 hz1 hz2 hz (by omega) v xs.length xs hs (HO.alloc _) ⟨W.heap.size, 0, none⟩ 1 1 [y] hx rfl
    (cell_one_new _ _ _) (by simpa using h1) (by simp only [maxLen]; omega) hl (by simp; omega) ?_
  intro v1 w1 hown hg _ hwhere
  refine h v1 w1 (by simpa using hown) ((HB.alloc hbase _).grown hg (by simp; omega) (fun k hk => (HO.lt k hk).1)) (World.grownBy.trans (World.grownBy_alloc W _ _) hg) (Nat.le_trans (by simp) hg.size) (fun g hgl hne => ?_)
  rcases hwhere with h | h
  · rw [h]; exact hne
  · rw [h]
    intro e1
    have e2 := Option.some.inj e1
    have e3 : (W.alloc (.cells #[y] e)).heap.size = W.heap.size + 1 := by simp
    omega
theorem StrsAt.grown {w w' : World} {A : Option Addr} {xs : List ByteArray} {row : Option Nat} (h : StrsAt w A xs) (hg : w.grownBy w' row) (hne : ∀ g o, A = some ⟨g, o, none⟩ → row ≠ some g) : StrsAt w' A xs := by
  rcases h with h | ⟨b, off, e, hl, hc⟩
  · exact .inl h
  · exact .inr ⟨b, off, e, Nat.lt_of_lt_of_le hl hg.size, fun i hi => (World.cell?_of_block (a := ⟨b, off + i, none⟩) (hg.block b hl (fun k => hne b off e k.symm))).trans (hc i hi)⟩
theorem strs_drewN {w : World} {A : Option Addr} {xs : List ByteArray} (h : StrsAt w A xs) (n : Nat) : StrsAt (w.drewN n) A xs := h
/-- What the drawn region keeps: the kind, the third part, the name at hand. -/
def SU (w : World) (bx ok : Nat) (kind : Int) (bv ov x2 : Nat) (bl ol : Nat) (s : ByteArray) (w' : World) : Prop := Below w.heap.size w w' ∧ w'.cell? ⟨bx, ok, none⟩ = some (.int .i64 kind) ∧ w'.cell? ⟨bv, ov + 2, none⟩ = some (.int .i64 (x2 : Int)) ∧ w'.cell? ⟨bl, ol, none⟩ = some (.string s)
theorem SU.below {w W W' : World} {bx ok bv ov x2 bl ol : Nat} {kind : Int} {s : ByteArray} (h : SU w bx ok kind bv ov x2 bl ol s W) (h1 : bx < w.heap.size) (h2 : bv < w.heap.size) (h3 : bl < w.heap.size) (hb : Below W.heap.size W W') : SU w bx ok kind bv ov x2 bl ol s W' :=
  ⟨h.1.trans (hb.mono h.1.size), (hb.cell (p := ⟨bx, ok, none⟩) (Nat.lt_of_lt_of_le h1 h.1.size)).trans h.2.1, (hb.cell (p := ⟨bv, ov + 2, none⟩) (Nat.lt_of_lt_of_le h2 h.1.size)).trans h.2.2.1, (hb.cell (p := ⟨bl, ol, none⟩) (Nat.lt_of_lt_of_le h3 h.1.size)).trans h.2.2.2⟩
theorem SU.drew {w W : World} {bx ok bv ov x2 bl ol : Nat} {kind : Int} {s : ByteArray} (h : SU w bx ok kind bv ov x2 bl ol s W) : SU w bx ok kind bv ov x2 bl ol s W.drew := ⟨h.1.trans ((Below.refl _ _).drew.mono h.1.size), h.2.1, h.2.2.1, h.2.2.2⟩
theorem anyEq (x : ByteArray) (l : List ByteArray) : (l.any fun y => decide (x = y)) = memB x l := rfl
theorem memB_app (x : ByteArray) (a b : List ByteArray) : memB x (a ++ b) = (memB x a || memB x b) := by unfold memB; rw [List.any_append]
theorem memB_take (x : ByteArray) (l : List ByteArray) (j : Nat) (h : j < l.length) : memB x (l.take (j + 1)) = (memB x (l.take j) || decide (x = l[j])) := by
  rw [List.take_succ_eq_append_getElem h, memB_app]; simp [memB]
set_option maxHeartbeats 4000000 in
set_option maxRecDepth 100000 in
theorem sureR_c (es : List XOp) (fr : List Nat) (b0 : Nat) (hbg : beginsF es = some (fr, [b0])) (hlen : es.length ≤ 256) (ht : ∀ o ∈ es, o.text.size ≤ 140737488355328) : ∀ (n pos f : Nat) (A : Option Addr) (c : Nat) (w : World), pos < n → pos < es.length → pos < f → OpsAt w A es →
    Calls Tryd.prog 65 #[.slice A es.length c, .int .i64 pos] w fun e w' => ∃ (v : Value) (l : List ByteArray), e = .returned v ∧ w'.ownsRow w.heap.size 9 1 v (l.map Value.string).length (l.map Value.string) ∧ (∀ x, memB x l = sureF es fr f pos x) ∧ l.length ≤ spanN fr pos ∧ Below w.heap.size w w' := by
  obtain ⟨_, _, _, hg⟩ := begins_good hbg
  intro n
  induction n with
  | zero => intro pos f A c w h; omega
  | succ n ih =>
    intro pos f A c w hpn hp hf hx
    obtain ⟨f, rfl⟩ : ∃ q, f = q + 1 := ⟨f - 1, by omega⟩
    obtain ⟨_, m, bp, hm, e0, htile, hwell⟩ := hg pos hp
    have hsum := tile_sum htile
    have htl := tile_le htile
    have hb0 := getD_of e0 0
    rcases hx with hx0 | ⟨bx, off, rfl, hbx, hcx⟩
    · rw [hx0] at hp; simp at hp
    obtain ⟨h0, h1, h2, h3⟩ := hcx pos hp
    have hx : OpsAt w (some ⟨bx, off, none⟩) es := .inr ⟨bx, off, rfl, hbx, hcx⟩
    clear hcx
    by_cases k3 : es[pos].kind = 3
    · have d3 : (es[pos].kind == 3) = true := by simpa using k3
      have hu := sureF_unfold (fr := fr) (f := f) hp
      have hsp : 1 ≤ spanN fr pos := by unfold spanN; rw [hb0]; omega
      have HU := Lib.hid hu
      have K3 := Lib.hid k3
      clear hu k3 hm hsum hb0 hwell ih hg hbg
      go_enter Tryd.func65, Tryd.ntmps65
      go_wp2
      go_ret
      refine ⟨_, [es[pos].text], rfl, ?_, fun x => ?_, hsp, (Below.refl _ _).alloc (Nat.le_refl _) _⟩
      · have := World.ownsRow_lit (size := 1) (e := 9) (base := w.heap.size) w #[.string es[pos].text] 1 (Nat.le_refl _) (by simp [maxLen]) (by simp)
        simpa using this
      · rw [HU.out, if_pos K3.out]
        simp [memB]
    · have d3 : (es[pos].kind == 3) = false := by simpa using k3
      have hca := fun x => contrib_all (fr := fr) (f := f) hp hm hwell k3 x
      have hpm := partsGo_length fr m pos
      obtain ⟨hch, hpl⟩ := tile_chain htile
      have HCA := Lib.hid hca
      have HM := Lib.hid hm
      have HP := Lib.hid hpm
      have HPL := Lib.hid hpl
      have HS := Lib.hid hsum
      have HB0 := Lib.hid hb0
      have IH := Lib.hid ih
      have K3 := Lib.hid k3
      have HWL := Lib.hid hwell
      have HBG := Lib.hid hbg
      clear hca hm hpm hpl hsum hb0 ih k3 hwell hch hg hbg
      go_enter Tryd.func65, Tryd.ntmps65
      go_wp2_with (go_at_call 60; refine (partsOf_c es fr b0 _ c pos m _ hx hlen ht HBG.out hp HM.out).mono ?_; rintro e w1 ⟨v, rfl, hown, hb1⟩; obtain ⟨V, cv, rfl, hvn, hvl⟩ := own_nats hown; have hs1 := hb1.size)
      go_loopw [6, 7] (fun v i wr => ∃ (k : Nat) (out : List ByteArray), k ≤ m ∧ i = .int .i64 k ∧ wr.ownsRow w1.heap.size 9 1 v (out.map Value.string).length (out.map Value.string) ∧ Hid (∀ x, memB x out = anyTo (fun j => contrib es fr f es[pos].kind (partsGo fr m pos) j x) k) ∧ Hid (out.length ≤ (((partsGo fr m pos).take k).map (spanN fr)).sum) ∧ Below w1.heap.size w1 wr) (fun _ i _ => m - (intOf i).toNat)
      case atStart => exact ⟨0, [], by omega, rfl, World.ownsRow_made w1 #[] 0 (Nat.le_refl _) (by simp [maxLen]) (by simp), fun x => rfl, by simp [Hid], (Below.refl _ _).alloc (Nat.le_refl _) _⟩
      case round =>
        obtain ⟨k, out, hk, rfl, hown2, hmem, hlo, hbel⟩ := hrel
        by_cases hlt : k < m
        · have hw1 := Below.trans hb1 (hbel.mono hs1)
          have g0 : wr.cell? ⟨bx, off + pos * 4, none⟩ = some (.int .i64 es[pos].kind) := (hw1.cell (p := ⟨bx, off + pos * 4, none⟩) hbx).trans h0
          have hbxr : bx < wr.heap.size := Nat.lt_of_lt_of_le hbx hw1.size
          have hnxt : ∀ x, anyTo (fun j => contrib es fr f es[pos].kind (partsGo fr m pos) j x) (k + 1) = (anyTo (fun j => contrib es fr f es[pos].kind (partsGo fr m pos) j x) k || contrib es fr f es[pos].kind (partsGo fr m pos) k x) := fun x => rfl
          have hsumk : (((partsGo fr m pos).take k).map (spanN fr)).sum ≤ (((partsGo fr m pos).take (k + 1)).map (spanN fr)).sum := by
            rw [List.take_succ_eq_append_getElem (by rw [HP.out]; exact hlt), List.map_append, List.sum_append]; omega
          have HNXT := Lib.hid hnxt
          have HSUMK := Lib.hid hsumk
          clear hnxt hsumk
          by_cases k15 : es[pos].kind = 15 ∧ k = 1
          · have d15 : (es[pos].kind == 15) = true := by simpa using k15.1
            have dk1 : ((k : Int) == 1) = true := by simp; omega
            have K15 := Lib.hid k15
            clear k15
            go_wp2
            go_roundw
            case rel => exact ⟨k + 1, out, by omega, by go_num, hown2, fun x => by rw [HNXT.out, hmem.out]; unfold contrib; rw [if_pos K15.out]; simp, Nat.le_trans hlo.out HSUMK.out, hbel⟩
            case measure => simp [intOf]; omega
          · by_cases k14 : es[pos].kind = 14 ∧ k = 2
            · have d15 : (es[pos].kind == 15) = false := by simp [k14.1]
              have d14 : (es[pos].kind == 14) = true := by simpa using k14.1
              have dk2 : ((k : Int) == 2) = true := by simp; omega
              have K15 := Lib.hid k15
              have K14 := Lib.hid k14
              clear k15 k14
              go_wp2
              go_roundw
              case rel => exact ⟨k + 1, out, by omega, by go_num, hown2, fun x => by rw [HNXT.out, hmem.out]; unfold contrib; rw [if_neg K15.out, if_pos K14.out]; simp, Nat.le_trans hlo.out HSUMK.out, hbel⟩
              case measure => simp [intOf]; omega
            · --BODY
              have hkp : k < (partsGo fr m pos).length := by rw [HP.out]; exact hlt
              rcases hvn with h | ⟨bv, ov, rfl, hbv, hcv⟩
              · rw [h] at hkp; simp at hkp
              have hcvk := (hbel.cell (p := ⟨bv, ov + k, none⟩) hbv).trans (hcv k hkp)
              have hpk := HPL.out _ (List.getElem_mem hkp)
              have hol : out.length ≤ 257 := by
                have h1 := hlo.out
                have h2 := sum_take ((partsGo fr m pos).map (spanN fr)) k
                rw [← List.map_take, HS.out] at h2
                omega
              have hgd : (partsGo fr m pos).getD k 0 = (partsGo fr m pos)[k] := by rw [List.getD_eq_getElem?_getD, List.getElem?_eq_getElem hkp]; rfl
              have hsq : (((partsGo fr m pos).take (k + 1)).map (spanN fr)).sum = (((partsGo fr m pos).take k).map (spanN fr)).sum + spanN fr (partsGo fr m pos)[k] := by
                rw [List.take_succ_eq_append_getElem hkp, List.map_append, List.sum_append]; simp
              generalize hxk : (partsGo fr m pos)[k] = xk at *
              have hxr := hx.below hw1
              have hspk : spanN fr xk ≤ 257 := by unfold spanN; omega
              have hgr := Lib.hid hgd
              have HSQ := Lib.hid hsq
              have HXK := Lib.hid hxk
              have hbw := hw1.size
              clear hgd hsq hxk HSUMK
              by_cases hk1 : es[pos].kind = 14 ∧ k = 1
              · have d15 : (es[pos].kind == 15) = false := by simp [hk1.1]
                have d14 : (es[pos].kind == 14) = true := by simpa using hk1.1
                have dk1 : ((k : Int) == 1) = true := by simp; omega
                have dk2 : ((k : Int) == 2) = false := by simp; omega
                have hm3 : m = 3 := by have h1 := arity_if hk1.1 HWL.out; have h2 := HM.out; omega
                have hp2 : 2 < (partsGo fr m pos).length := by rw [HP.out, hm3]; decide
                have hcv2 := hcv 2 hp2
                have hpk2 := HPL.out _ (List.getElem_mem hp2)
                have hgd2 : (partsGo fr m pos).getD 2 0 = (partsGo fr m pos)[2] := by rw [List.getD_eq_getElem?_getD, List.getElem?_eq_getElem hp2]; rfl
                have hi2 : (2 : Int) < (m : Int) := by omega
                generalize hx2 : (partsGo fr m pos)[2] = x2 at *
                have hsp2 : spanN fr x2 ≤ 257 := by unfold spanN; omega
                have hgr2 := Lib.hid hgd2
                have HX2 := Lib.hid hx2
                have K15 := Lib.hid k15
                have K14 := Lib.hid k14
                have K1 := Lib.hid hk1
                clear k15 k14 hk1 hgd2 hx2 hm3 hcv
                go_wp2_with (go_at_call 65; refine (IH.out xk f _ c _ (by omega) (by omega) (by omega) hxr).mono ?_; rintro e w2 ⟨v2, l, rfl, hownl, hml, hll, hb2⟩; obtain ⟨L, cl, rfl, hls, hl1⟩ := own_strs hownl; clear hl1; have hLf := own_fresh hownl; have HML := Lib.hid hml; have HLL := Lib.hid hll; clear hml hownl hll)
                have hown3 := own_below hown2 hb2
                have hbel2 : Below w1.heap.size w1 w2 := hbel.trans (hb2.mono hbel.size)
                have hLne : ∀ g o, L = some ⟨g, o, none⟩ → Value.ownBlock _ ≠ some g := fun g o h e => by have a1 := (hLf g o h).1; have a2 := (hown2.lt g e).2; omega
                have hl300 : l.length ≤ 257 := Nat.le_trans HLL.out hspk
                clear hLf hown2
                obtain ⟨wo, hwo⟩ : ∃ wo : World, wo = wr := ⟨_, rfl⟩
                subst hwo
                go_loopw [6, 9] (fun v' i' wr' => ∃ (j : Nat) (out' : List ByteArray), j ≤ l.length ∧ i' = .int .i64 j ∧ wr'.ownsRow w1.heap.size 9 1 v' (out'.map Value.string).length (out'.map Value.string) ∧ Hid (∀ x, memB x out' = (memB x out || (memB x (l.take j) && sureF es fr f x2 x))) ∧ out'.length ≤ out.length + j ∧ Below w1.heap.size w1 wr' ∧ StrsAt wr' L l ∧ (∀ g o, L = some ⟨g, o, none⟩ → v'.ownBlock ≠ some g)) (fun _ i' _ => l.length - (intOf i').toNat)
                case atStart => exact ⟨0, out, by omega, rfl, hown3, fun x => by simp [memB], by omega, hbel2, hls, hLne⟩
                case round =>
                  obtain ⟨j, out', hj, rfl, hown4, hmem4, hlo4, hbel4, hls4, hne4⟩ := hrel
                  by_cases hlj : j < l.length
                  · rcases hls4 with h | ⟨bl, ol, rfl, hbl, hcl⟩
                    · rw [h] at hlj; simp at hlj
                    have hclj := hcl j hlj
                    have hls4 : StrsAt _ (some ⟨bl, ol, none⟩) l := .inr ⟨bl, ol, rfl, hbl, hcl⟩
                    have hw14 := hb1.trans (hbel4.mono hs1)
                    have g4 := (hw14.cell (p := ⟨bx, off + pos * 4, none⟩) hbx).trans h0
                    have hb4s := hbel4.size
                    have htn := fun x => memB_take x l j hlj
                    have HTN := Lib.hid htn
                    clear hcl htn
                    obtain ⟨A1, c1, hA1, hs6, hl1⟩ := own_strs hown4
                    subst hA1
                    clear hl1
                    have hkind4 : SU wr bx (off + pos * 4) es[pos].kind bv ov x2 bl (ol + j) l[j] wr := ⟨Below.refl _ _, g4, (hbel4.cell (p := ⟨bv, ov + 2, none⟩) hbv).trans hcv2, hclj⟩
                    have H0 := Lib.hid hkind4
                    have hxr4 := hx.below hw14
                    have hbx4 : bx < wr.heap.size := Nat.lt_of_lt_of_le hbx hw14.size
                    have hbv4 : bv < wr.heap.size := Nat.lt_of_lt_of_le hbv hb4s
                    clear hkind4
                    go_wp2_with fail
                    go_region_held3 (fun w' => Below wr.heap.size wr w' ∧ w'.cell? ⟨bx, off + pos * 4, none⟩ = some (.int .i64 es[pos].kind) ∧ w'.cell? ⟨bv, ov + 2, none⟩ = some (.int .i64 (x2 : Int)) ∧ w'.cell? ⟨bl, ol + j, none⟩ = some (.string l[j]))
                      (first | (show SU wr bx (off + pos * 4) es[pos].kind bv ov x2 bl (ol + j) l[j] _; first | with_reducible exact H0.out | with_reducible exact H0.out.drew | with_reducible exact HS5.out | with_reducible exact HS5.out.drew))
                      (first | (go_at_call 65; have qq : SU wr bx (off + pos * 4) es[pos].kind bv ov x2 bl (ol + j) l[j] _ := ‹Below _ _ _ ∧ _ ∧ _ ∧ _›; refine (IH.out x2 f _ c _ (by omega) (by omega) (by omega) (hxr4.below qq.1)).mono ?_; rintro e w5 ⟨v5, l5, rfl, hown5, hm5, hll5, hb5⟩; obtain ⟨L5, c5, rfl, hls5, hl5⟩ := own_strs hown5; clear hl5; have HS5 := Lib.hid (qq.below hbx4 hbv4 hbl hb5); have HM5 := Lib.hid hm5; clear qq hm5 hown5) | (go_at_call 32; refine (in_c l5 l[j] L5 c5 _ hls5 (by omega)).mono ?_; rintro e w' ⟨rfl, rfl⟩; rw [HM5.out]))
                    have hb5 := HS5.out.1
                    have g5 := HS5.out.2.2.2
                    have hown6 := own_below hown4 hb5
                    have hbel6 := hbel4.trans (hb5.mono hb4s)
                    have hls6 := hls4.below hb5
                    have hb6s := hbel6.size
                    have hbl6 : bl < w5.heap.size := Nat.lt_of_lt_of_le hbl hb5.size
                    clear hls4 HS5 H0 hown4 hbel4
                    cases hF : sureF es fr f x2 l[j]
                    · have HF := Lib.hid hF
                      clear hF
                      go_wp2
                      go_roundw
                      case rel =>
                        refine ⟨j + 1, out', by omega, by go_num, hown6, fun x => ?_, by omega, hbel6, hls6, hne4⟩
                        rw [hmem4.out, HTN.out]
                        by_cases hxl : x = l[j]
                        · subst hxl; rw [HF.out]; simp
                        · simp [hxl]
                      case measure => simp [intOf]; omega
                    · have HF := Lib.hid hF
                      clear hF
                      go_wp2_with (at_builtin; refine app_two (w0 := w1) w1.heap.size (by rfl) _ _ 47 9 (.string ⟨#[]⟩) 16 (by rfl) Tryd.underlying47 info_str rfl (.slice A1 out'.length c1) (out'.map Value.string) (.string l[j]) (by rfl) _ (by rfl) rfl rfl hown6 hbel6 hb6s (by simp; omega) (by simp; omega) ?_; intro v7 w7 hown7 hbel7 hg7 _ hne7)
                      go_roundw
                      case rel =>
                        refine ⟨j + 1, out' ++ [l[j]], by omega, by go_num, by simpa using hown7, fun x => ?_, by simp; omega, hbel7, hls6.grown hg7 (fun g o h => hne4 g o h), fun g o h => hne7 g (by cases h; exact hbl6) (hne4 g o h)⟩
                        rw [memB_app, hmem4.out, HTN.out]
                        by_cases hxl : x = l[j]
                        · subst hxl; rw [HF.out]; simp [memB]
                        · simp [memB, hxl]
                      case measure => simp [intOf]; omega
                  · have hje : j = l.length := by omega
                    have hmf : ∀ x, memB x out' = (memB x out || (memB x l && sureF es fr f x2 x)) := fun x => by have := hmem4.out x; rw [hje, List.take_length] at this; exact this
                    have HMF := Lib.hid hmf
                    have hlo5 : out'.length ≤ out.length + spanN fr xk := by have := HLL.out; omega
                    clear hmf hje
                    go_wp2
                    go_roundw
                    case rel => exact ⟨k + 1, out', by omega, by go_num, hown4, fun x => by rw [HNXT.out, HMF.out, hmem.out, HML.out]; unfold contrib; have e1 := hgr.out; rw [K1.out.2] at e1; rw [if_neg K15.out, if_neg K14.out, if_pos K1.out, e1, hgr2.out], by show out'.length ≤ _; rw [HSQ.out]; have := hlo.out; omega, hbel4⟩
                    case measure => simp [intOf]; omega
              · by_cases e15 : es[pos].kind = 15
                · have d15 : (es[pos].kind == 15) = true := by simpa using e15
                  have d14 : (es[pos].kind == 14) = false := by simp [e15]
                  have dk1 : ((k : Int) == 1) = false := by
                    have : ¬ k = 1 := fun h => k15 ⟨e15, h⟩
                    simp; omega
                  have K15 := Lib.hid k15
                  have K14 := Lib.hid k14
                  have K1 := Lib.hid hk1
                  clear k15 k14 hk1 e15 hcv
                  go_wp2_with (go_at_call 65; refine (IH.out xk f _ c _ (by omega) (by omega) (by omega) hxr).mono ?_; rintro e w2 ⟨v2, l, rfl, hownl, hml, hll, hb2⟩; obtain ⟨L, cl, rfl, hls, hl1⟩ := own_strs hownl; clear hl1; have hLf := own_fresh hownl; have HML := Lib.hid hml; have HLL := Lib.hid hll; clear hml hownl hll)
                  have hown3 := own_below hown2 hb2
                  have hbel2 : Below w1.heap.size w1 w2 := hbel.trans (hb2.mono hbel.size)
                  have hLne : ∀ g o, L = some ⟨g, o, none⟩ → Value.ownBlock _ ≠ some g := fun g o h e => by have a1 := (hLf g o h).1; have a2 := (hown2.lt g e).2; omega
                  have hl300 : l.length ≤ 257 := Nat.le_trans HLL.out hspk
                  clear hLf hown2
                  obtain ⟨wo, hwo⟩ : ∃ wo : World, wo = wr := ⟨_, rfl⟩
                  subst hwo
                  go_loopw [6, 9] (fun v' i' wr' => ∃ (j : Nat) (out' : List ByteArray), j ≤ l.length ∧ i' = .int .i64 j ∧ wr'.ownsRow w1.heap.size 9 1 v' (out'.map Value.string).length (out'.map Value.string) ∧ Hid (∀ x, memB x out' = (memB x out || memB x (l.take j))) ∧ out'.length ≤ out.length + j ∧ Below w1.heap.size w1 wr' ∧ StrsAt wr' L l ∧ (∀ g o, L = some ⟨g, o, none⟩ → v'.ownBlock ≠ some g)) (fun _ i' _ => l.length - (intOf i').toNat)
                  case atStart => exact ⟨0, out, by omega, rfl, hown3, fun x => by simp [memB], by omega, hbel2, hls, hLne⟩
                  case round =>
                    obtain ⟨j, out', hj, rfl, hown4, hmem4, hlo4, hbel4, hls4, hne4⟩ := hrel
                    by_cases hlj : j < l.length
                    · rcases hls4 with h | ⟨bl, ol, rfl, hbl, hcl⟩
                      · rw [h] at hlj; simp at hlj
                      have hclj := hcl j hlj
                      have hls4 : StrsAt _ (some ⟨bl, ol, none⟩) l := .inr ⟨bl, ol, rfl, hbl, hcl⟩
                      have hw14 := hb1.trans (hbel4.mono hs1)
                      have g4 := (hw14.cell (p := ⟨bx, off + pos * 4, none⟩) hbx).trans h0
                      have hb4s := hbel4.size
                      have htn := fun x => memB_take x l j hlj
                      have HTN := Lib.hid htn
                      clear hcl htn
                      obtain ⟨A1, c1, hA1, hs6, hl1⟩ := own_strs hown4
                      subst hA1
                      clear hl1
                      go_wp2_with fail
                      go_quiet (fail)
                      go_wp2_with (at_builtin; refine app_two (w0 := w1) w1.heap.size (by rfl) _ _ 47 9 (.string ⟨#[]⟩) 16 (by rfl) Tryd.underlying47 info_str rfl (.slice A1 out'.length c1) (out'.map Value.string) (.string l[j]) (by rfl) _ (by rfl) rfl rfl hown4 (below_drewN hbel4 _) hb4s (by simp; omega) (by simp; omega) ?_; intro v5 w5 hown5 hbel5 hg5 _ hne5)
                      go_roundw
                      case rel =>
                        refine ⟨j + 1, out' ++ [l[j]], by omega, by go_num, by simpa using hown5, fun x => ?_, by simp; omega, hbel5, (strs_drewN hls4 _).grown hg5 (fun g o h => hne4 g o h), fun g o h => hne5 g (by cases h; exact hbl) (hne4 g o h)⟩
                        rw [memB_app, hmem4.out, HTN.out]
                        simp [memB, Bool.or_assoc]
                      case measure => simp [intOf]; omega
                    · have hje : j = l.length := by omega
                      have hmf : ∀ x, memB x out' = (memB x out || memB x l) := fun x => by have := hmem4.out x; rw [hje, List.take_length] at this; exact this
                      have HMF := Lib.hid hmf
                      have hlo5 : out'.length ≤ out.length + spanN fr xk := by have := HLL.out; omega
                      clear hmf hje
                      go_wp2
                      go_roundw
                      case rel => exact ⟨k + 1, out', by omega, by go_num, hown4, fun x => by rw [HNXT.out, HMF.out, hmem.out, HML.out]; unfold contrib; rw [if_neg K15.out, if_neg K14.out, if_neg K1.out, hgr.out, Bool.or_comm (anyTo _ _)] <;> simp [Bool.or_comm], by show out'.length ≤ _; rw [HSQ.out]; have := hlo.out; omega, hbel4⟩
                      case measure => simp [intOf]; omega
                · by_cases e14 : es[pos].kind = 14
                  · have d15 : (es[pos].kind == 15) = false := by simp [e14]
                    have d14 : (es[pos].kind == 14) = true := by simpa using e14
                    have dk1 : ((k : Int) == 1) = false := by
                      have : ¬ k = 1 := fun h => hk1 ⟨e14, h⟩
                      simp; omega
                    have dk2 : ((k : Int) == 2) = false := by
                      have : ¬ k = 2 := fun h => k14 ⟨e14, h⟩
                      simp; omega
                    have K15 := Lib.hid k15
                    have K14 := Lib.hid k14
                    have K1 := Lib.hid hk1
                    clear k15 k14 hk1 e14 e15 hcv
                    go_wp2_with (go_at_call 65; refine (IH.out xk f _ c _ (by omega) (by omega) (by omega) hxr).mono ?_; rintro e w2 ⟨v2, l, rfl, hownl, hml, hll, hb2⟩; obtain ⟨L, cl, rfl, hls, hl1⟩ := own_strs hownl; clear hl1; have hLf := own_fresh hownl; have HML := Lib.hid hml; have HLL := Lib.hid hll; clear hml hownl hll)
                    have hown3 := own_below hown2 hb2
                    have hbel2 : Below w1.heap.size w1 w2 := hbel.trans (hb2.mono hbel.size)
                    have hLne : ∀ g o, L = some ⟨g, o, none⟩ → Value.ownBlock _ ≠ some g := fun g o h e => by have a1 := (hLf g o h).1; have a2 := (hown2.lt g e).2; omega
                    have hl300 : l.length ≤ 257 := Nat.le_trans HLL.out hspk
                    clear hLf hown2
                    obtain ⟨wo, hwo⟩ : ∃ wo : World, wo = wr := ⟨_, rfl⟩
                    subst hwo
                    go_loopw [6, 9] (fun v' i' wr' => ∃ (j : Nat) (out' : List ByteArray), j ≤ l.length ∧ i' = .int .i64 j ∧ wr'.ownsRow w1.heap.size 9 1 v' (out'.map Value.string).length (out'.map Value.string) ∧ Hid (∀ x, memB x out' = (memB x out || memB x (l.take j))) ∧ out'.length ≤ out.length + j ∧ Below w1.heap.size w1 wr' ∧ StrsAt wr' L l ∧ (∀ g o, L = some ⟨g, o, none⟩ → v'.ownBlock ≠ some g)) (fun _ i' _ => l.length - (intOf i').toNat)
                    case atStart => exact ⟨0, out, by omega, rfl, hown3, fun x => by simp [memB], by omega, hbel2, hls, hLne⟩
                    case round =>
                      obtain ⟨j, out', hj, rfl, hown4, hmem4, hlo4, hbel4, hls4, hne4⟩ := hrel
                      by_cases hlj : j < l.length
                      · rcases hls4 with h | ⟨bl, ol, rfl, hbl, hcl⟩
                        · rw [h] at hlj; simp at hlj
                        have hclj := hcl j hlj
                        have hls4 : StrsAt _ (some ⟨bl, ol, none⟩) l := .inr ⟨bl, ol, rfl, hbl, hcl⟩
                        have hw14 := hb1.trans (hbel4.mono hs1)
                        have g4 := (hw14.cell (p := ⟨bx, off + pos * 4, none⟩) hbx).trans h0
                        have hb4s := hbel4.size
                        have htn := fun x => memB_take x l j hlj
                        have HTN := Lib.hid htn
                        clear hcl htn
                        obtain ⟨A1, c1, hA1, hs6, hl1⟩ := own_strs hown4
                        subst hA1
                        clear hl1
                        go_wp2_with fail
                        go_quiet (fail)
                        go_wp2_with (at_builtin; refine app_two (w0 := w1) w1.heap.size (by rfl) _ _ 47 9 (.string ⟨#[]⟩) 16 (by rfl) Tryd.underlying47 info_str rfl (.slice A1 out'.length c1) (out'.map Value.string) (.string l[j]) (by rfl) _ (by rfl) rfl rfl hown4 (below_drewN hbel4 _) hb4s (by simp; omega) (by simp; omega) ?_; intro v5 w5 hown5 hbel5 hg5 _ hne5)
                        go_roundw
                        case rel =>
                          refine ⟨j + 1, out' ++ [l[j]], by omega, by go_num, by simpa using hown5, fun x => ?_, by simp; omega, hbel5, (strs_drewN hls4 _).grown hg5 (fun g o h => hne4 g o h), fun g o h => hne5 g (by cases h; exact hbl) (hne4 g o h)⟩
                          rw [memB_app, hmem4.out, HTN.out]
                          simp [memB, Bool.or_assoc]
                        case measure => simp [intOf]; omega
                      · have hje : j = l.length := by omega
                        have hmf : ∀ x, memB x out' = (memB x out || memB x l) := fun x => by have := hmem4.out x; rw [hje, List.take_length] at this; exact this
                        have HMF := Lib.hid hmf
                        have hlo5 : out'.length ≤ out.length + spanN fr xk := by have := HLL.out; omega
                        clear hmf hje
                        go_wp2
                        go_roundw
                        case rel => exact ⟨k + 1, out', by omega, by go_num, hown4, fun x => by rw [HNXT.out, HMF.out, hmem.out, HML.out]; unfold contrib; rw [if_neg K15.out, if_neg K14.out, if_neg K1.out, hgr.out, Bool.or_comm (anyTo _ _)] <;> simp [Bool.or_comm], by show out'.length ≤ _; rw [HSQ.out]; have := hlo.out; omega, hbel4⟩
                        case measure => simp [intOf]; omega
                  · have d15 : (es[pos].kind == 15) = false := by simpa using e15
                    have d14 : (es[pos].kind == 14) = false := by simpa using e14
                    have K15 := Lib.hid k15
                    have K14 := Lib.hid k14
                    have K1 := Lib.hid hk1
                    clear k15 k14 hk1 e14 e15 hcv
                    go_wp2_with (go_at_call 65; refine (IH.out xk f _ c _ (by omega) (by omega) (by omega) hxr).mono ?_; rintro e w2 ⟨v2, l, rfl, hownl, hml, hll, hb2⟩; obtain ⟨L, cl, rfl, hls, hl1⟩ := own_strs hownl; clear hl1; have hLf := own_fresh hownl; have HML := Lib.hid hml; have HLL := Lib.hid hll; clear hml hownl hll)
                    have hown3 := own_below hown2 hb2
                    have hbel2 : Below w1.heap.size w1 w2 := hbel.trans (hb2.mono hbel.size)
                    have hLne : ∀ g o, L = some ⟨g, o, none⟩ → Value.ownBlock _ ≠ some g := fun g o h e => by have a1 := (hLf g o h).1; have a2 := (hown2.lt g e).2; omega
                    have hl300 : l.length ≤ 257 := Nat.le_trans HLL.out hspk
                    clear hLf hown2
                    obtain ⟨wo, hwo⟩ : ∃ wo : World, wo = wr := ⟨_, rfl⟩
                    subst hwo
                    go_loopw [6, 9] (fun v' i' wr' => ∃ (j : Nat) (out' : List ByteArray), j ≤ l.length ∧ i' = .int .i64 j ∧ wr'.ownsRow w1.heap.size 9 1 v' (out'.map Value.string).length (out'.map Value.string) ∧ Hid (∀ x, memB x out' = (memB x out || memB x (l.take j))) ∧ out'.length ≤ out.length + j ∧ Below w1.heap.size w1 wr' ∧ StrsAt wr' L l ∧ (∀ g o, L = some ⟨g, o, none⟩ → v'.ownBlock ≠ some g)) (fun _ i' _ => l.length - (intOf i').toNat)
                    case atStart => exact ⟨0, out, by omega, rfl, hown3, fun x => by simp [memB], by omega, hbel2, hls, hLne⟩
                    case round =>
                      obtain ⟨j, out', hj, rfl, hown4, hmem4, hlo4, hbel4, hls4, hne4⟩ := hrel
                      by_cases hlj : j < l.length
                      · rcases hls4 with h | ⟨bl, ol, rfl, hbl, hcl⟩
                        · rw [h] at hlj; simp at hlj
                        have hclj := hcl j hlj
                        have hls4 : StrsAt _ (some ⟨bl, ol, none⟩) l := .inr ⟨bl, ol, rfl, hbl, hcl⟩
                        have hw14 := hb1.trans (hbel4.mono hs1)
                        have g4 := (hw14.cell (p := ⟨bx, off + pos * 4, none⟩) hbx).trans h0
                        have hb4s := hbel4.size
                        have htn := fun x => memB_take x l j hlj
                        have HTN := Lib.hid htn
                        clear hcl htn
                        obtain ⟨A1, c1, hA1, hs6, hl1⟩ := own_strs hown4
                        subst hA1
                        clear hl1
                        go_wp2_with fail
                        go_quiet (fail)
                        go_wp2_with (at_builtin; refine app_two (w0 := w1) w1.heap.size (by rfl) _ _ 47 9 (.string ⟨#[]⟩) 16 (by rfl) Tryd.underlying47 info_str rfl (.slice A1 out'.length c1) (out'.map Value.string) (.string l[j]) (by rfl) _ (by rfl) rfl rfl hown4 (below_drewN hbel4 _) hb4s (by simp; omega) (by simp; omega) ?_; intro v5 w5 hown5 hbel5 hg5 _ hne5)
                        go_roundw
                        case rel =>
                          refine ⟨j + 1, out' ++ [l[j]], by omega, by go_num, by simpa using hown5, fun x => ?_, by simp; omega, hbel5, (strs_drewN hls4 _).grown hg5 (fun g o h => hne4 g o h), fun g o h => hne5 g (by cases h; exact hbl) (hne4 g o h)⟩
                          rw [memB_app, hmem4.out, HTN.out]
                          simp [memB, Bool.or_assoc]
                        case measure => simp [intOf]; omega
                      · have hje : j = l.length := by omega
                        have hmf : ∀ x, memB x out' = (memB x out || memB x l) := fun x => by have := hmem4.out x; rw [hje, List.take_length] at this; exact this
                        have HMF := Lib.hid hmf
                        have hlo5 : out'.length ≤ out.length + spanN fr xk := by have := HLL.out; omega
                        clear hmf hje
                        go_wp2
                        go_roundw
                        case rel => exact ⟨k + 1, out', by omega, by go_num, hown4, fun x => by rw [HNXT.out, HMF.out, hmem.out, HML.out]; unfold contrib; rw [if_neg K15.out, if_neg K14.out, if_neg K1.out, hgr.out, Bool.or_comm (anyTo _ _)] <;> simp [Bool.or_comm], by show out'.length ≤ _; rw [HSQ.out]; have := hlo.out; omega, hbel4⟩
                        case measure => simp [intOf]; omega
        · have hke : k = m := by omega
          have hm2 := hmem.out
          have hl2 := hlo.out
          rw [hke] at hm2 hl2
          rw [List.take_of_length_le (by rw [HP.out]; exact Nat.le_refl _), HS.out] at hl2
          have HM2 := Lib.hid hm2
          have HL2 := Lib.hid hl2
          clear hm2 hl2 hmem hlo hke
          go_wp2
          go_ret
          refine ⟨_, out, rfl, hown2.mono hs1, fun x => ?_, ?_, hb1.trans (hbel.mono hs1)⟩
          · rw [HM2.out, HCA.out]
          · have := HL2.out
            unfold spanN; rw [HB0.out]; omega
end Go.Proofs.YtgopflklcfcocaaDoor
