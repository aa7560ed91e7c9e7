/- Rows of providers; a name's place; copies. -/
import Derived.Test.YtgopflklcfcocaaDoorA36
namespace Go.Proofs.YtgopflklcfcocaaDoor
open Go.RowKit

/-- A provider, and where its expression lies. -/
structure PRow where
  p : XProv
  A : Option Addr
  c : Nat
def PRow.cells (r : PRow) : List Value := [.string r.p.name, .slice r.A r.p.expr.length r.c, .bool r.p.again, .int .i64 r.p.p1, .int .i64 r.p.p2, .int .i64 r.p.p3, .int .i64 r.p.p4, .int .i64 r.p.ck, .string r.p.ct]
def rowCells (rs : List PRow) : List Value := rs.flatMap PRow.cells
theorem rowCells_length (rs : List PRow) : (rowCells rs).length = rs.length * 9 := by
  unfold rowCells
  induction rs with
  | nil => rfl
  | cons r rs ih => rw [List.flatMap_cons, List.length_append, ih]; simp [PRow.cells]; omega
theorem rowCells_app (a b : List PRow) : rowCells (a ++ b) = rowCells a ++ rowCells b := by unfold rowCells; rw [List.flatMap_append]
theorem rowCells_one (r : PRow) : rowCells [r] = r.cells := by simp [rowCells]
theorem rowCells_get (rs : List PRow) (i j : Nat) (h : i < rs.length) (hj : j < 9) : (rowCells rs)[i * 9 + j]? = some (rs[i].cells[j]'hj) := by
  induction rs generalizing i with
  | nil => simp at h
  | cons r rs ih =>
    have hc : rowCells (r :: rs) = r.cells ++ rowCells rs := rfl
    have hl : r.cells.length = 9 := rfl
    rw [hc]
    rcases i with _ | i
    · rw [List.getElem?_append_left (by rw [hl]; omega)]
      simp only [Nat.zero_mul, Nat.zero_add, List.getElem_cons_zero]
      exact List.getElem?_eq_getElem hj
    · rw [List.getElem?_append_right (by rw [hl]; omega), hl, show (i + 1) * 9 + j - 9 = i * 9 + j by omega]
      exact ih i (by simpa using h)
/-- The cells of a provider that lies at block b from o on. -/
def ProvOn (w : World) (b o : Nat) (r : PRow) : Prop :=
  w.cell? ⟨b, o, none⟩ = some (.string r.p.name) ∧ w.cell? ⟨b, o + 1, none⟩ = some (.slice r.A r.p.expr.length r.c) ∧ w.cell? ⟨b, o + 2, none⟩ = some (.bool r.p.again) ∧ w.cell? ⟨b, o + 3, none⟩ = some (.int .i64 r.p.p1) ∧ w.cell? ⟨b, o + 4, none⟩ = some (.int .i64 r.p.p2) ∧ w.cell? ⟨b, o + 5, none⟩ = some (.int .i64 r.p.p3) ∧ w.cell? ⟨b, o + 6, none⟩ = some (.int .i64 r.p.p4) ∧ w.cell? ⟨b, o + 7, none⟩ = some (.int .i64 r.p.ck) ∧ w.cell? ⟨b, o + 8, none⟩ = some (.string r.p.ct)
theorem ProvOn.same {w w' : World} {b o : Nat} {r : PRow} (h : ProvOn w b o r) (hk : ∀ o, w'.cell? ⟨b, o, none⟩ = w.cell? ⟨b, o, none⟩) : ProvOn w' b o r := by
  unfold ProvOn at *
  simp only [hk]
  exact h
/-- A row of providers that is read. -/
structure ProvsAt (w : World) (V : Option Addr) (rs : List PRow) : Prop where
  lies : rs = [] ∨ ∃ b off, V = some ⟨b, off, none⟩ ∧ b < w.heap.size ∧ ∀ i (h : i < rs.length), ProvOn w b (off + i * 9) rs[i]
  each : ∀ r ∈ rs, ProvAt w r.A r.p
theorem ProvAt.below {w w' : World} {A : Option Addr} {p : XProv} (h : ProvAt w A p) (hb : Below w.heap.size w w') : ProvAt w' A p := ⟨h.ops.below hb, h.len, h.name, h.ct, h.text⟩
theorem ProvsAt.below {w w' : World} {V : Option Addr} {rs : List PRow} (h : ProvsAt w V rs) (hb : Below w.heap.size w w') : ProvsAt w' V rs := by
  refine ⟨?_, fun r hr => (h.each r hr).below hb⟩
  rcases h.lies with h | ⟨b, off, e, hl, hc⟩
  · exact .inl h
  · exact .inr ⟨b, off, e, Nat.lt_of_lt_of_le hl hb.size, fun i hi => (hc i hi).same fun o => hb.cell (p := ⟨b, o, none⟩) hl⟩
theorem ProvsAt.drewN {w : World} {V : Option Addr} {rs : List PRow} (h : ProvsAt w V rs) (n : Nat) : ProvsAt (w.drewN n) V rs :=
  ⟨h.lies, fun r hr => ⟨(h.each r hr).ops, (h.each r hr).len, (h.each r hr).name, (h.each r hr).ct, (h.each r hr).text⟩⟩
theorem ProvsAt.take {w : World} {V : Option Addr} {rs : List PRow} (h : ProvsAt w V rs) (k : Nat) : ProvsAt w V (rs.take k) := by
  refine ⟨?_, fun r hr => h.each r (List.mem_of_mem_take hr)⟩
  rcases h.lies with rfl | ⟨b, off, e, hl, hc⟩
  · exact .inl (by simp)
  · exact .inr ⟨b, off, e, hl, fun i hi => by
      have hi' : i < rs.length := by rw [List.length_take] at hi; omega
      rw [List.getElem_take]; exact hc i hi'⟩
/-- What a row of the call's own reads as: providers. -/
theorem own_provs {w : World} {base n : Nat} {e : TypeId} {v : Value} {rs : List PRow} (h : w.ownsRow base e 9 v n (rowCells rs)) (he : ∀ r ∈ rs, ProvAt w r.A r.p) : ∃ V c, v = .slice V rs.length c ∧ ProvsAt w V rs := by
  have hl : rs.length = n := by have := h.1; rw [rowCells_length] at this; omega
  rcases h.2 with ⟨rfl, h0⟩ | ⟨g, cap, cur, rfl, _, hh, _⟩
  · have h1 : rs = [] := List.eq_nil_of_length_eq_zero (by omega)
    subst h1
    exact ⟨none, 0, rfl, .inl rfl, he⟩
  · refine ⟨some ⟨g, 0, none⟩, cap, by rw [hl], .inr ⟨g, 0, rfl, (Array.getElem?_eq_some_iff.1 hh).1, fun i hi => ?_⟩, he⟩
    have hc := fun j (hj : j < 9) => h.cells (g := g) rfl (i * 9 + j) _ (rowCells_get rs i j hi hj)
    simp only [add_any] at hc
    exact ⟨hc 0 (by omega), hc 1 (by omega), hc 2 (by omega), hc 3 (by omega), hc 4 (by omega), hc 5 (by omega), hc 6 (by omega), hc 7 (by omega), hc 8 (by omega)⟩
/-- append(v, x) of one struct, boxed ahead; where the row lies is told too. -/
theorem app_struct {P : Program} {ops : Array Oper} {rest : List Oper} {o : Oper} {a : Act} {Q : Exit → Act → World → Prop} {w0 W : World} (base : Nat) (hgd : o.guard = none) (s x : Operand) (t e : TypeId) (z : Value) (size bytes : Nat)
    (ho : o.op = .call { callee := .builtin .append, args := #[s, x], argTypes := #[t, t] })
    (ht : P.underlying t = some (.slice e)) (hinfo : (P.info? e).map (fun i => (i.zero, i.size, i.bytes)) = some (some z, size, bytes)) (hz : z.cells.size = size) (hsz : 0 < size)
    (v : Value) (n : Nat) (xs news : List Value) (hs : a.eval s = v) (nb : Nat) (hx : a.eval x = .slice (some ⟨nb, 0, none⟩) 1 1) (hnb : nb = W.heap.size) (hnl : news.length = size) (h1 : ∀ u ∈ news, u.oneCell' = true)
    (HO : W.ownsRow base e size v n xs) (HB : Below base w0 W) (hbase : base ≤ W.heap.size) (hlen : n + 1 ≤ 140737488355328) (hl : (n + 1) * bytes ≤ 140737488355328)
    (h : ∀ v1 w1, w1.ownsRow base e size v1 (n + 1) (xs ++ news) → Below base w0 w1 → W.grownBy w1 v.ownBlock → (∀ g, g < W.heap.size → v.ownBlock ≠ some g → v1.ownBlock ≠ some g) → wpList P ops Q rest (a.put o.dst v1) w1) :
    wpList P ops Q (o :: rest) a (W.alloc (.cells news.toArray e)) := by
  obtain ⟨i0, hi, hzz⟩ := Option.map_eq_some_iff.1 hinfo
  simp only [Prod.mk.injEq] at hzz
  obtain ⟨hz0, hz1, hz2⟩ := hzz
  subst hnb
  refine wpList_append_own_at (W.alloc (.cells news.toArray e)) hgd s x t ho base e i0 z size bytes ht hi hz0 hz1 hz2 hz hsz v n xs hs (HO.alloc _) ⟨W.heap.size, 0, none⟩ 1 1 news hx (by rw [hnl]; omega)
    (fun j u hu => by rw [add_zero, cell_new]; simpa using hu) h1 (by simp only [maxLen]; omega) hl (by simp; omega) ?_
  intro v1 w1 hown hg _ hwhere
  refine h v1 w1 hown ((HB.alloc hbase _).grown hg (by simp; omega) (fun k hk => (HO.lt k hk).1)) (World.grownBy.trans (World.grownBy_alloc W _ _) hg) (fun g hgl hne => ?_)
  rcases hwhere with h | h
  · rw [h]; exact hne
  · rw [h]
    intro e1
    have e2 := Option.some.inj e1
    have e3 : (W.alloc (.cells news.toArray e)).heap.size = W.heap.size + 1 := by simp
    omega
/-- An expression apart from a row. -/
def Apart (v : Value) (r : PRow) : Prop := r.p.expr = [] ∨ ∀ g o, r.A = some ⟨g, o, none⟩ → v.ownBlock ≠ some g
theorem ops_grown {w w' : World} {A : Option Addr} {es : List XOp} {row : Option Nat} (h : OpsAt w A es) (hg : w.grownBy w' row) (hne : es = [] ∨ ∀ g o, A = some ⟨g, o, none⟩ → row ≠ some g) : OpsAt w' A es := by
  rcases h with h | ⟨b, off, e, hl, hc⟩
  · exact .inl h
  · rcases hne with h | hne
    · exact .inl h
    · have hk : ∀ o, w'.cell? ⟨b, o, none⟩ = w.cell? ⟨b, o, none⟩ := fun o => World.cell?_of_block (a := ⟨b, o, none⟩) (hg.block b hl (fun k => hne b off e k.symm))
      exact .inr ⟨b, off, e, Nat.lt_of_lt_of_le hl hg.size, fun i hi => by simp only [hk]; exact hc i hi⟩
theorem apart_next {w w' : World} {v v1 : Value} {r : PRow} (h : ProvAt w r.A r.p) (ha : Apart v r) (hg : w.grownBy w' v.ownBlock) (hn : ∀ g, g < w.heap.size → v.ownBlock ≠ some g → v1.ownBlock ≠ some g) : ProvAt w' r.A r.p ∧ Apart v1 r := by
  refine ⟨⟨ops_grown h.ops hg ha, h.len, h.name, h.ct, h.text⟩, ?_⟩
  rcases ha with ha | ha
  · exact .inl ha
  · rcases h.ops with h1 | ⟨b, off, e, hl, _⟩
    · exact .inl h1
    · refine .inr fun g o h2 => ?_
      rw [e] at h2
      cases h2
      exact hn b hl (ha b off e)
theorem info_prov : (Tryd.prog.info? 29).map (fun i => (i.zero, i.size, i.bytes)) = some (some (.agg #[.string ⟨#[]⟩, .slice none 0 0, .bool false, .int .i64 0, .int .i64 0, .int .i64 0, .int .i64 0, .int .i64 0, .string ⟨#[]⟩]), 9, 104) := by kernel_rfl

/-- What a copy of a row leaves. -/
def CopyPost (rs : List PRow) (w : World) (e : Ending) (w' : World) : Prop := ∃ V' c' rs', e = .returned (.slice V' rs.length c') ∧ ProvsAt w' V' rs' ∧ rs'.map (·.p) = rs.map (·.p) ∧ Below w.heap.size w w'
set_option maxHeartbeats 2000000 in
set_option maxRecDepth 100000 in
theorem copyProvs_c (rs : List PRow) (V : Option Addr) (c : Nat) (w : World) (hx : ProvsAt w V rs) (hl : rs.length * 104 ≤ 140737488355328) :
    Calls Tryd.prog 33 #[.slice V rs.length c] w (CopyPost rs w) := by
  go_enter Tryd.func33, Tryd.ntmps33
  go_wp2
  go_loopw [3, 4] (fun v i wr => ∃ (k : Nat) (out : List PRow), k ≤ rs.length ∧ i = .int .i64 k ∧ out.length = k ∧ Hid (out.map (·.p) = (rs.take k).map (·.p)) ∧ wr.ownsRow w.heap.size 29 9 v k (rowCells out) ∧ Below w.heap.size w wr ∧ Hid (∀ r ∈ out, ProvAt wr r.A r.p ∧ Apart v r)) (fun _ i _ => rs.length - (intOf i).toNat)
  case atStart => exact ⟨0, [], by omega, rfl, rfl, rfl, World.ownsRow_made w #[] 0 (Nat.le_refl _) (by simp [maxLen]) (by simp), (Below.refl _ _).alloc (Nat.le_refl _) _, fun r hr => by simp at hr⟩
  case round =>
    obtain ⟨k, out, hk, rfl, hol, hmap, hown, hbel, heach⟩ := hrel
    have hbs := hbel.size
    have HOL := Lib.hid hol
    clear hol
    by_cases hlt : k < rs.length
    · rcases (hx.below hbel).lies with h | ⟨b, off, rfl, hb, hc⟩
      · rw [h] at hlt; simp at hlt
      obtain ⟨g0, g1, g2, g3, g4, g5, g6, g7, g8⟩ := hc k hlt
      have hpk := (hx.below hbel).each rs[k] (List.getElem_mem hlt)
      clear hc
      go_wp2_with (first | (go_at_call 12; refine (copyProv_c rs[k].p rs[k].A rs[k].c _ hpk.ops hpk.len).mono ?_; rintro e w2 ⟨A2, c2, rfl, hx2, hf2, hb2⟩; have hown2 := own_below hown hb2; have hbel2 := hbel.trans (hb2.mono hbs); have hbs2 := hbel2.size; simp only [XProv.val]) | (at_builtin; refine app_struct (w0 := w) w.heap.size (by rfl) _ _ 55 29 _ 9 104 (by rfl) Tryd.underlying55 info_prov rfl (by decide) _ k (rowCells out) (PRow.cells ⟨rs[k].p, A2, c2⟩) (by rfl) _ (by rfl) rfl rfl (by simp [PRow.cells, Value.oneCell']) hown2 hbel2 hbs2 (by omega) (by omega) ?_; intro v3 w3 hown3 hbel3 hg3 hn3))
      go_roundw
      case rel =>
        refine ⟨k + 1, out ++ [⟨rs[k].p, A2, c2⟩], by omega, by go_num, by rw [List.length_append, HOL.out]; rfl, ?_, by rw [rowCells_app, rowCells_one]; exact hown3, hbel3, ?_⟩
        · show _ = _
          rw [List.map_append, hmap.out, List.take_succ_eq_append_getElem hlt, List.map_append]
          rfl
        · intro r hr
          rw [List.mem_append, List.mem_singleton] at hr
          rcases hr with hr | rfl
          · obtain ⟨h1, h2⟩ := heach.out r hr
            exact apart_next (h1.below hb2) h2 hg3 hn3
          · refine apart_next (v := u3) ⟨hx2, hpk.len, hpk.name, hpk.ct, hpk.text⟩ ?_ hg3 hn3
            refine .inr fun g o h1 h2 => ?_
            have a1 := (hf2 g o h1).1
            have a2 := (hown.lt g h2).2
            omega
      case measure => simp [intOf]; omega
    · have hke : k = rs.length := by omega
      have HKE := Lib.hid hke
      clear hke hk
      obtain ⟨V', c', hv, hps⟩ := own_provs hown (fun r hr => (heach.out r hr).1)
      subst hv
      go_wp2
      go_ret
      refine ⟨V', c', out, ?_, hps, ?_, hbel⟩
      · show Ending.returned (Value.slice V' out.length c') = _
        rw [HOL.out, HKE.out]
      · rw [hmap.out, HKE.out, List.take_length]
end Go.Proofs.YtgopflklcfcocaaDoor
