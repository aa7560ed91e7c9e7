/- Add: the old row stays. -/
import Derived.Test.YtofmdmmgbfbaoaaDoorP9
namespace Go.Proofs.YtofmdmmgbfbaoaaDoor
open Go.RowKit Go.Maps Go.ChangeMaps Go.WideShapes

/-- An append either writes its own row's block, or lays a new one and leaves all that was. -/
theorem append_old {P : Program} (w : World) (base : Nat) (t ty e : TypeId) (i : TypeInfo) (z : Value) (size bytes : Nat) (ht : P.underlying t = some (.slice e)) (hi : P.info? e = some i) (hz : i.zero = some z)
    (hsize : i.size = size) (hby : i.bytes = bytes) (v : Value) (n : Nat) (xs : List Value) (hown : w.ownsRow base e size v n xs)
    (B : Nat) (A : Option Addr) (m c : Nat) (news : List Value) (hr : Reads w B size A m news) (h1 : ∀ u ∈ news, u.oneCell' = true)
    (h63 : n + m ≤ maxLen) (hbytes : (n + m) * bytes ≤ 140737488355328) {v' : Value} {w' : World} (hrun : (Builtin.append_ #[t, t] ty #[v, .slice A m c]).run P w = .ok v' w') :
    v'.ownBlock = v.ownBlock ∨ w.grownBy w' none := by
  subst hsize
  subst hby
  have hsmall : n + m ≤ 9223372036854775807 := by simp only [maxLen] at h63; omega
  rcases A with _ | ad
  · have hm : m = 0 := by
      rcases Nat.eq_zero_or_pos m with h0 | h0
      · exact h0
      · obtain ⟨ad, h, _⟩ := hr.2 h0
        cases h
    subst hm
    rw [run_append_of_nil w base t ty e i i.size ht hi v n xs hown c] at hrun
    cases hrun
    exact .inl rfl
  · have hnews : ∀ j u, news[j]? = some u → w.cell? (ad.add j) = some u := by
      intro j u hu
      rcases Nat.eq_zero_or_pos m with h0 | h0
      · subst h0
        have hn : news = [] := List.eq_nil_of_length_eq_zero (by simpa using hr.1)
        subst hn
        simp at hu
      · obtain ⟨ad', h, _, hc⟩ := hr.2 h0
        injection h with h
        subst h
        exact hc j u hu
    have hgr : ∀ o, w.grownBy (w.drew.alloc o) none := fun o => ⟨rfl, rfl, rfl, by simp, fun k hk _ => heap_alloc_old w.drew _ hk⟩
    rcases hown.2 with ⟨rfl, rfl⟩ | ⟨g, cap, cur, rfl, hbg, hg, hnc, hcm, hcs, htake⟩
    · by_cases hm : m = 0
      · subst hm
        have hn : news = [] := List.eq_nil_of_length_eq_zero (by simpa using hr.1)
        subst hn
        have hz0 : (Builtin.append_ #[t, t] ty #[.slice none 0 0, .slice (some ad) 0 c]).run P w = .ok (.slice none 0 0) w := by
          simp [Builtin.append_, run_underlying ht, sizeOf, typeInfo, hi, Builtin.lenOf, Builtin.firstCells, loadCells, loadCellsFrom]
        rw [hz0] at hrun
        cases hrun
        exact .inl rfl
      · rw [run_append_nil (P := P) w t ty e i z ht hi hz ad m c news hr.1 hnews (by omega) (by omega) (by have hb := hbytes; simp only [Nat.zero_add] at hb; omega)] at hrun
        cases hrun
        exact .inr (hgr _)
    · by_cases hroom : n + m ≤ cap
      · have hfit : n * i.size + news.length ≤ cur.size := by rw [hr.1, hcs, ← Nat.add_mul]; exact Nat.mul_le_mul_right _ hroom
        rw [run_append_room (P := P) w t ty e i ht hi g n cap cur hg ad m c news hr.1 hnews h1 hroom hfit] at hrun
        cases hrun
        exact .inl rfl
      · have holds : ∀ j u, xs[j]? = some u → w.cell? ((⟨g, 0, none⟩ : Addr).add j) = some u := hown.cells (g := g) rfl
        rw [run_append_grow (P := P) w t ty e i z ht hi hz ⟨g, 0, none⟩ n cap xs hown.1 holds ad m c news hr.1 hnews (by omega) (by omega) (growslice_fits (by omega) hbytes)] at hrun
        cases hrun
        exact .inr (hgr _)
theorem step_append_old {P : Program} (w : World) {ops : Array Oper} {o : Oper} {a : Act} {K : Act → World → Prop} {Q : Exit → Act → World → Prop} {E : Prop} (hgd : o.guard = none) (s x : Operand) (t : TypeId)
    (ho : o.op = .call { callee := .builtin .append, args := #[s, x], argTypes := #[t, t] })
    (base : Nat) (e : TypeId) (i : TypeInfo) (z : Value) (size bytes : Nat) (ht : P.underlying t = some (.slice e)) (hi : P.info? e = some i) (hz : i.zero = some z)
    (hsize : i.size = size) (hby : i.bytes = bytes) (hzs : z.cells.size = size) (hsz : 0 < size)
    (v : Value) (n : Nat) (xs : List Value) (hs : a.eval s = v) (hown : w.ownsRow base e size v n xs)
    (B : Nat) (A : Option Addr) (m c : Nat) (news : List Value) (hx : a.eval x = .slice A m c) (hr : Reads w B size A m news) (h1 : ∀ u ∈ news, u.oneCell' = true)
    (h63 : n + m ≤ maxLen) (hbytes : (n + m) * bytes ≤ 140737488355328) (hbase : base ≤ w.heap.size)
    (h : ∀ v' w', w'.ownsRow base e size v' (n + m) (xs ++ news) → w.grownBy w' v.ownBlock → (v'.ownBlock = v.ownBlock ∨ v'.ownBlock = some w.heap.size) → (v'.ownBlock = v.ownBlock ∨ w.grownBy w' none) → K (a.put o.dst v') w') :
    if Region.wanted o (yielded ops a.tmps) = true then Oper.wp P o a w K Q else E := by
  have hw : Region.wanted o (yielded ops a.tmps) = true := by simp [Region.wanted, hgd]
  rw [if_pos hw]
  obtain ⟨v', w', hrun, h2, h3, h4⟩ := run_append_any (P := P) w base t o.type e i z size bytes ht hi hz hsize hby hzs hsz v n xs hown B A m c news hr h1 h63 hbytes hbase
  have h5 := append_old (P := P) w base t o.type e i z size bytes ht hi hz hsize hby v n xs hown B A m c news hr h1 h63 hbytes hrun
  unfold Oper.wp execOp
  simp only [ho, resolve, invoke, builtin, Sem.run_bind, Sem.run_pure, Result.andThen_ok, List.map_toArray, List.map_cons, List.map_nil, hs, hx, hrun]
  exact h v' w' h2 h3 h4 h5
/-- What Add leaves where it is taken: the old row too. -/
def AddOld (base rb mb : Nat) (v : Value) (rs : List PRow) (p : XProv) (w : World) (e : Ending) (w' : World) : Prop :=
  AddYes base rb mb v rs p w e w' ∧ ∀ g, v.ownBlock = some g → (∃ v', w'.cell? ⟨rb, 0, none⟩ = some v' ∧ v'.ownBlock = some g) ∨ w'.heap[g]? = w.heap[g]?
set_option maxHeartbeats 4000000 in
set_option maxRecDepth 100000 in
theorem add_old (w : World) (base rb mb : Nat) (v : Value) (rs : List PRow) (p : XProv) (A : Option Addr) (c : Nat) (h : RegAt w base rb mb v rs) (hp : ProvAt w A p) (hkeys : KeysIn w) (h0 : provF p = 0) (hM : memB p.name (namesL rs) = false) (hlt : rs.length < 256) :
    Calls Tryd.prog 8 #[.pointer (some ⟨rb, 0, none⟩), p.val A c] w (AddOld base rb mb v rs p w) := by
  have hal : ∀ o, Below w.heap.size w (w.alloc o) := fun o => (Below.refl _ _).alloc (Nat.le_refl _) o
  have hcp := fun W h1 h2 => checkProv_c p A c W h1 h2
  have hcc := fun W h1 => copied_c p A c W h1 hp.len
  have b0 : (provF p != 0) = false := by simpa using h0
  have hns := hp.name
  have hli : (rs.length : Int) < 256 := by omega
  obtain ⟨V, cv, hv, _⟩ := h.row
  subst hv
  have hq := fun o => (h.below (hal o)).c2
  have HAL := Lib.hid hal
  have HCP := Lib.hid hcp
  have HCC := Lib.hid hcc
  have HM := Lib.hid hM
  have HR := Lib.hid h
  have H0 := Lib.hid h0
  have hPE := hp
  clear h0 hal hcp h hM hcc
  obtain ⟨nm, es, ag, p1, p2, p3, p4, ck, ct⟩ := p
  simp only [XProv.val] at *
  go_enter Tryd.func8, Tryd.ntmps8
  go_wp2_with (go_at_call 21; refine (HCP.out _ (hp.below (HAL.out _)) (hkeys.below (HAL.out _))).mono ?_; rintro e w1 ⟨rfl, hb1⟩; have hbw1 := (HAL.out _).trans (hb1.mono (HAL.out _).size); have q0 : w1.cell? ⟨w.heap.size, 0, none⟩ = some (.string nm) := (hb1.cell (p := ⟨w.heap.size, 0, none⟩) (by simp)).trans (by simp); have q1 : w1.cell? ⟨w.heap.size, 1, none⟩ = some (.slice A es.length c) := (hb1.cell (p := ⟨w.heap.size, 1, none⟩) (by simp)).trans (by simp); have q2 : w1.cell? ⟨w.heap.size, 2, none⟩ = some (.bool ag) := (hb1.cell (p := ⟨w.heap.size, 2, none⟩) (by simp)).trans (by simp); have q3 : w1.cell? ⟨w.heap.size, 3, none⟩ = some (.int .i64 p1) := (hb1.cell (p := ⟨w.heap.size, 3, none⟩) (by simp)).trans (by simp); have q4 : w1.cell? ⟨w.heap.size, 4, none⟩ = some (.int .i64 p2) := (hb1.cell (p := ⟨w.heap.size, 4, none⟩) (by simp)).trans (by simp); have q5 : w1.cell? ⟨w.heap.size, 5, none⟩ = some (.int .i64 p3) := (hb1.cell (p := ⟨w.heap.size, 5, none⟩) (by simp)).trans (by simp); have q6 : w1.cell? ⟨w.heap.size, 6, none⟩ = some (.int .i64 p4) := (hb1.cell (p := ⟨w.heap.size, 6, none⟩) (by simp)).trans (by simp); have q7 : w1.cell? ⟨w.heap.size, 7, none⟩ = some (.int .i64 ck) := (hb1.cell (p := ⟨w.heap.size, 7, none⟩) (by simp)).trans (by simp); have q8 : w1.cell? ⟨w.heap.size, 8, none⟩ = some (.string ct) := (hb1.cell (p := ⟨w.heap.size, 8, none⟩) (by simp)).trans (by simp); have hsz1 : w.heap.size < w1.heap.size := Nat.lt_of_lt_of_le (by simp) hb1.size)
  have hr1 := (HR.out.below hbw1)
  have c1 := hr1.c1
  have c0 := hr1.c0
  have z0 := hr1.z0
  obtain ⟨n, F, hn, htab, hF⟩ := hr1.tab
  have hlk := fun k => tab_look (htab.drewN k) hns
  have hio : (F nm).isSome = false := by rw [hF, idxO_some]; exact HM.out
  rw [hio] at hlk
  generalize (F nm).getD 0 = fi at *
  have HR1 := Lib.hid hr1
  clear htab hF hr1 hio
  obtain ⟨i0, hi, hzz⟩ := Option.map_eq_some_iff.1 info_prov
  simp only [Prod.mk.injEq] at hzz
  have HI := Lib.hid hi
  have HZ := Lib.hid hzz
  clear hi hzz
  go_quiet (fail)
  go_wp2
  go_region_law (first
    | (go_simp; go_at_call 22; refine (HCC.out _ (ops_drewN (hp.ops.below hbw1) _)).mono ?_; rintro e w3 ⟨A3, c3, rfl, hx3, hf3, hb3'⟩; have hb3 : Below w1.heap.size w1 w3 := (below_drewN (Below.refl w1.heap.size w1) _).trans hb3'; clear hb3'; have c03 := (HR1.out.below hb3).c0; have l03 := (HR1.out.below hb3).rbl)
    | (refine step_append_old _ (by rfl) _ _ 22 (by rfl) base 36 i0 _ 9 104 Tryd.underlying22 HI.out HZ.out.1 HZ.out.2.1 HZ.out.2.2 (by decide) (by omega) (.slice V rs.length cv) rs.length (rowCells rs) (by rfl) ((own_below HR1.out.own hb3).alloc _) _ (some ⟨w3.heap.size, 0, none⟩) 1 1 (PRow.cells ⟨⟨nm, es, ag, p1, p2, p3, p4, ck, ct⟩, A3, c3⟩) (by rfl) (reads_new w3 _ _ 9 rfl) (by simp [PRow.cells, Value.oneCell']) (by simp only [maxLen]; omega) (by omega) (by have h1 := HR1.out.lo; have h2 := HR1.out.rbl; have h3 := hb3.size; rw [al_size]; have h4 : w1.heap.size ≤ w3.heap.size := h3; omega) ?_; intro v5 w5 hown5 hg5 hat5 hnew5; obtain ⟨g5, cap5, hv5, _, _⟩ := hown5.form (by omega); subst hv5; have h2 := HR1.out.below (hb3.alloc hb3.size (.cells (PRow.cells ⟨⟨nm, es, ag, p1, p2, p3, p4, ck, ct⟩, A3, c3⟩).toArray 36)); have hrb5 := hg5.block rb h2.rbl (fun e => h2.ne.2.1 e.symm); have c5 : w5.cell? ⟨rb, 0, none⟩ = some (.slice V rs.length cv) := (World.cell?_of_block (a := ⟨rb, 0, none⟩) hrb5).trans h2.c0; have z5 : w5.frozen? ⟨rb, 0, none⟩ = false := (by have h3 := h2.z0; unfold World.frozen? at h3 ⊢; rw [hrb5]; exact h3); clear h2 hrb5))
  all_goals
    have hb03 : Below w.heap.size w w3 := hbw1.trans (hb3.mono hbw1.size)
    have hm := mid_of (r := ⟨⟨nm, es, ag, p1, p2, p3, p4, ck, ct⟩, A3, c3⟩) HR.out hb03 ⟨hx3, hp.len, hp.name, hp.ct, hp.text⟩ (hf3.more hbw1.size (Nat.le_refl _)) hown5 hg5 hat5
    have q06 := (mid_new (v5 := .slice (some ⟨g5, 0, none⟩) (rs.length + 1) cap5) HR.out hg5 w.heap.size (Nat.le_refl _) (Nat.lt_of_lt_of_le hsz1 hb3.size) 0).trans ((hb3.cell (p := ⟨w.heap.size, 0, none⟩) hsz1).trans q0)
    have hneR := HR.out.ne
    have hrlt := HR.out.own
    have hkp : (Value.slice (some ⟨g5, 0, none⟩) (rs.length + 1) cap5).ownBlock = (Value.slice V rs.length cv).ownBlock ∨ ∀ g, (Value.slice V rs.length cv).ownBlock = some g → (w5.setCell ⟨rb, 0, none⟩ (.slice (some ⟨g5, 0, none⟩) (rs.length + 1) cap5)).heap[g]? = w.heap[g]? := by
      rcases hnew5 with h | h
      · exact .inl h
      · refine .inr fun g hg => ?_
        have hlt := (hrlt.lt g hg).2
        have hne : g ≠ rb := fun e => hneR.2.1 (by rw [hg, e])
        have hs3 : w.heap.size ≤ w3.heap.size := hb03.size
        rw [Below.heap_setCell w5 ⟨rb, 0, none⟩ _ g hne, h.block g (by rw [al_size]; omega) (by simp)]
        exact (hb03.alloc hs3 _).block g hlt
    have HKP := Lib.hid hkp
    clear hkp hneR hrlt hnew5
    generalize w5.setCell ⟨rb, 0, none⟩ (.slice (some ⟨g5, 0, none⟩) (rs.length + 1) cap5) = W6 at *
    have m1 := hm.c1
    obtain ⟨n6, F6, hn6, ⟨D6, hD6, hDs6⟩, hF6⟩ := hm.tab
    have hkl := kl_of nm hns
    have HM6 := Lib.hid hm
    have HDS := Lib.hid hDs6
    have HF6 := Lib.hid hF6
    have HKL := Lib.hid hkl
    clear hm hDs6 hF6 hkl c5 z5 hown5 hg5 hat5 hx3 hf3 c03 l03 hb3 q0 q1 q2 q3 q4 q5 q6 q7 q8 c0 c1 z0 hlk
    go_wp2
    go_still_tail 7, (by kernel_rfl)
    change wpList _ _ _ _ _ (World.drew W6)
    have hD6' : (World.drew W6).ownsMap Tryd.prog 9 (plainElem Tryd.prog 3) mb n6 D6 := hD6
    have hgr : ∀ w7, (World.drew W6).grownBy w7 (some mb) → W6.grownBy w7 (some mb) := fun w7 h => ⟨h.os, h.tape, h.output, h.size, h.block⟩
    generalize World.drew W6 = W7 at *
    go_wp2_with (at_mapUpdate; refine wpList_mapUpdate_own _ (by rfl) _ _ _ 61 (by rfl) 9 3 keyed Tryd.underlying61 (plainElem Tryd.prog 3) mb n6 D6 (by rfl) hD6' (by simp only [maxLen]; omega) (.string nm) (.int .i64 (rs.length : Int)) (kl nm) (by rfl) (by rfl) HKL.out (.lit (.int .i64 (rs.length : Int))) [] (plainElem_int Tryd.underlying3 (int_wf (by omega) (by omega))) ?_; intro w8 hD8 hg8; go_frame)
    go_ret2
    have hreg := reg_of_mid HR.out HM6.out hlt HM.out hn6 (TabIs.put hD6 HDS.out hns hD8) HF6.out (hgr _ hg8)
    refine ⟨⟨rfl, _, A3, c3, hreg⟩, ?_⟩
    intro g hg
    rcases HKP.out with h | h
    · exact .inl ⟨_, hreg.1.c0, h.trans hg⟩
    · refine .inr ?_
      have hne : g ≠ mb := fun e => HR.out.ne.2.2 (by rw [hg, e])
      have hlt := (HR.out.own.lt g hg).2
      rw [(hgr _ hg8).block g (Nat.lt_of_lt_of_le hlt HM6.out.sz) (fun e => hne (Option.some.inj e))]
      exact h g hg
/-- What Add leaves of what was there. -/
def AddKeep (gs : List PRow) (V : Option Addr) (rb mb : Nat) (v : Value) (w : World) (w' : World) : Prop := ProvsAt w' V gs ∧ (∀ i, i < w.heap.size → ¬ RegT rb mb v i → w'.heap[i]? = w.heap[i]?)
theorem add_keep (w : World) (base rb mb : Nat) (v : Value) (gs : List PRow) (fz : Bool) (V : Option Addr) (cv : Nat) (hv : v = .slice V gs.length cv) (p : XProv) (A : Option Addr) (c : Nat) (h : RegF w base rb mb v gs fz) (hp : ProvAt w A p) (hkeys : KeysIn w) :
    Calls Tryd.prog 8 #[.pointer (some ⟨rb, 0, none⟩), p.val A c] w fun e w' => (∃ u, e = .returned u) ∧ AddKeep gs V rb mb v w w' ∧ Below base w w' ∧ w.heap.size ≤ w'.heap.size := by
  have hbl : base ≤ w.heap.size := by have := h.lo; have := h.rbl; omega
  have hps : ProvsAt w V gs := by
    obtain ⟨V', c', e', hps⟩ := h.row
    rw [hv] at e'
    rw [(Value.slice.inj e').1]
    exact hps
  have hno : ∀ (e : Ending) (w' : World) (u : Value), Below w.heap.size w w' → e = .returned u → (∃ u, e = .returned u) ∧ AddKeep gs V rb mb v w w' ∧ Below base w w' ∧ w.heap.size ≤ w'.heap.size := fun e w' u hb he => ⟨⟨u, he⟩, ⟨hps.below hb, fun i hi _ => hb.block i hi⟩, hb.mono hbl, hb.size⟩
  rcases radd_split fz gs p with ⟨rfl, h0, hM, hl, _⟩ | ⟨hn, _⟩
  · refine (add_old w base rb mb v gs p A c h hp hkeys h0 hM hl).mono ?_
    rintro e w' ⟨⟨he, v', A', c', hr, hf, hfr, hb, hat⟩, hold⟩
    refine ⟨⟨_, he⟩, ⟨⟨?_, fun r hr' => (hr.each r (List.mem_append_left _ hr')).1⟩, hfr⟩, hb, hb.size⟩
    rcases hps.lies with h1 | ⟨b, off, e', hl', hc⟩
    · exact .inl h1
    · have hown := h.own
      rw [hv, e'] at hown
      rcases hown.2 with ⟨hv0, h00⟩ | ⟨g, cap, cur, hv0, _, _, _⟩
      · cases (Value.slice.inj hv0).1
      · have hg := Option.some.inj (Value.slice.inj hv0).1
        cases hg
        rcases hold b (by rw [hv, e']; rfl) with ⟨v2, hc2, ho2⟩ | hk
        · rw [hr.c0] at hc2
          have hv2 := Option.some.inj hc2
          obtain ⟨V2, c2, e2, hps2⟩ := hr.row
          rw [← hv2, e2] at ho2
          rcases hps2.lies with h3 | ⟨b3, off3, e3, hl3, hc3⟩
          · simp at h3
          · have hr2 := hr.own
            rw [e2, e3] at hr2
            rcases hr2.2 with ⟨hv4, _⟩ | ⟨g4, _, _, hv4, _, _, _⟩
            · cases (Value.slice.inj hv4).1
            · have hg4 := Option.some.inj (Value.slice.inj hv4).1
              cases hg4
              rw [e3] at ho2
              have hb3 : b3 = b := by simpa [Value.ownBlock] using ho2
              subst hb3
              refine .inr ⟨b3, 0, e', hl3, fun i hi => ?_⟩
              have := hc3 i (by rw [List.length_append]; omega)
              rw [List.getElem_append_left hi] at this
              exact this
        · exact .inr ⟨b, 0, e', Nat.lt_of_lt_of_le hl' hb.size, fun i hi => (hc i hi).same fun o => World.cell?_of_block (a := ⟨b, o, none⟩) hk⟩
  · cases fz
    · have h2 : (raddAns false (namesL gs) p).2 = (addAns (namesL gs) p).2 := rfl
      refine (add_no w base rb mb v gs p A c h hp hkeys (by rw [← h2]; exact hn)).mono ?_
      rintro e w' ⟨he, hb⟩
      exact hno e w' _ hb he
    · refine (add_fz w base rb mb v gs p A c h).mono ?_
      rintro e w' ⟨he, hb⟩
      exact hno e w' _ hb he
end Go.Proofs.YtofmdmmgbfbaoaaDoor
