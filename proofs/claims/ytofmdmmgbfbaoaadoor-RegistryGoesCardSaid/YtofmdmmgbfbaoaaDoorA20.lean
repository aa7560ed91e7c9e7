/- Words for the rows: arguments opened; the keywords out of the row's list; a row's last step. -/
import Derived.Test.YtofmdmmgbfbaoaaDoorA0
import Derived.Test.YtofmdmmgbfbaoaaDoorA1
import Derived.Test.YtofmdmmgbfbaoaaDoorA16
import Derived.Test.YtofmdmmgbfbaoaaDoorTie
import Derived.WalkKit
import Derived.ProofKit
import Derived.OpenShut
import Derived.Below
import Derived.Carry
import Derived.ChangeSame
import Derived.SizedLaws
import Derived.Deep.Slices
import Derived.Deep.Fields
import Derived.Deep.DeepHandedRow
import Derived.Lib.LaidTab
namespace Go.Proofs.YtofmdmmgbfbaoaaDoor
open Go.ChangeShapes Go.WideShapes Go.ChangeAt Go.RowKit Go.Deep

section
variable {H : Type} {enc : TypeId × Value → H} {P : Program} {w : World} {base : Nat} {spare : Nat → Bool} {held : Bool}
theorem open_slice_fields {t e : TypeId} {fs : Array Field} {fuel : Nat} {cs : List Value} {x : DataW H × List MemPlace} (ht : P.underlying t = some (.slice e)) (he : P.underlying e = some (.struct fs))
    (hone : oneCellFields P fs = true) (hC : P.cellsOf e = fs.size) (h : DataW.trod enc P w base spare held fuel t cs = some x) :
    (cs = [.slice none 0 0] ∧ x = (.nil, [])) ∨
    ∃ (a : Addr) (len cap m : Nat) (D : Nat → DataW H) (Pl : Nat → List MemPlace), cs = [.slice (some a) len cap] ∧ base ≤ a.block ∧ len ≤ cap ∧ cap ≤ maxLen ∧ m = (if spare a.block then cap else len) ∧
      x = (.slice ((List.range len).map D) ((List.range (m - len)).map fun j => D (len + j)), MemPlace.row a (m * fs.size) ++ (List.range m).flatMap Pl) ∧
      ∀ i, i < m → ∃ (ys : List (DataW H × List MemPlace)) (n : Nat), D i = .agg (ys.map (·.1)) ∧ Pl i = ys.flatMap (·.2) ∧ ys.length = fs.size ∧
        ∀ (j : Nat) (f : Field), fs[j]? = some f → ∃ (v : Value) (y : DataW H × List MemPlace), w.cell? (a.add (i * fs.size + j)) = some v ∧ ys[j]? = some y ∧ DataW.trod enc P w base spare held n f.type [v] = some y := by
  rcases open_slice ht h with h0 | ⟨a, len, cap, m, n, D, Pl, hcs, hb, hl, hm, hmm, hx, hi⟩
  · exact .inl h0
  · refine .inr ⟨a, len, cap, m, D, Pl, hcs, hb, hl, hm, hmm, by rw [hC] at hx; exact hx, fun i him => ?_⟩
    obtain ⟨cs', hc, ht'⟩ := hi i him
    rw [hC] at hc
    obtain ⟨ys, n', hn', hy, hlen, hyl, hf⟩ := DataW.trod_struct he ht'
    obtain ⟨_, hcl, hat⟩ := World.cells?_some hc
    simp only [Prod.mk.injEq] at hy
    refine ⟨ys, n', hy.1, hy.2, hyl, fun j f hj => ?_⟩
    obtain ⟨ho, hk⟩ := hone_of hone j f hj
    have hjl : j < fs.size := (Array.getElem?_eq_some_iff.1 hj).1
    have hcell := hat j hjl
    have hv : cs'[j]? = some (cs'[j]'(by omega)) := List.getElem?_eq_getElem (by omega)
    have h1 := hf j f hj
    rw [ho, hk] at h1
    have hone' : (cs'.drop j).take 1 = [cs'[j]'(by omega)] := by
      rw [List.drop_eq_getElem_cons (by omega)]
      rfl
    rw [hone'] at h1
    have hys : ys[j]? = some (ys[j]'(by omega)) := List.getElem?_eq_getElem (by omega)
    refine ⟨_, _, ?_, hys, h1.trans hys⟩
    rw [← Go.Deep.add_add, hcell, hv]
theorem post_of_below {f : Func} {s : ChangeSpec} {apart fresh handsOn again : Bool} {W W' : World} {args : Array Value} {v : Value} {ds gs : List (DataW H)} {before pa pv : List MemPlace}
    (hW : DataW.Whole enc P f.params.toList s.vars apart W args.toList ds gs before)
    (hres : ∀ (b : Nat) (sp : Nat → Bool) (hd : Bool), DataW.TrodAll enc P W' b sp hd f.resultTypes.toList (v.resultList f.resultTypes.size) (s.fn H (ds ++ gs)).results [])
    (hargs : ∀ sp : Nat → Bool, (∀ p ∈ before, sp p.block = true) → DataW.TrodAll enc P W' 0 sp true f.params.toList args.toList (s.fn H (ds ++ gs)).args pa)
    (hvars : ∀ sp : Nat → Bool, (∀ p ∈ before, sp p.block = true) → DataW.TrodVars enc P W' sp s.vars (s.fn H (ds ++ gs)).vars pv)
    (hps : before = pa ++ pv) (hb : Below W.heap.size W W')
    (hok : ∀ (j : Nat) (t : TypeId) (r : Value), f.resultTypes[j]? = some t → (v.resultList f.resultTypes.size)[j]? = some r → Value.okWide P W' .any 0 t r) :
    s.post enc P f apart fresh handsOn again W args v W' := by
  have hlt : ∀ p ∈ before, p.block < W.heap.size := fun p hp => hW.lt p hp
  have hold : ∀ p ∈ before, (fun b => decide (b < W.heap.size)) p.block = true := fun p hp => by simpa using hlt p hp
  refine ⟨ds, gs, before, [], pa, pv, hW, hres _ _ _, hargs _ hold, hvars _ hold, World.keptBut_mono (fun p hp => ⟨hp, ?_⟩) (hb.frame (· ∈ before)), fun _ => ?_⟩
  · rw [hps, List.mem_append] at hp
    exact Or.inr hp
  · obtain ⟨_, _, _, _, _, hz, hn⟩ := hW
    refine ⟨hok, _, _, ([] ++ pa) ++ pv, ⟨[] ++ pa, pv, trodAll_append (hargs _ (fun _ _ => rfl)) (hres _ _ _), hvars _ (fun _ _ => rfl), rfl, ?_, ?_⟩, ?_⟩
    · intro b off hp
      have hin : MemPlace.cell b off ∈ before := by rw [hps]; simpa using hp
      rw [hb.frozen (hlt _ hin)]
      exact hz b off hin
    · intro ha
      have := hn ha
      rw [hps] at this
      simpa using this
    · intro p hp _
      rw [hps]
      simpa using hp
theorem weights_all_mem {e : TypeId} {D : DataW H} {n : Nat} (hn : n ∈ D.weights P e) : ∀ {l : List (DataW H)}, D ∈ l → n ∈ DataW.weightsAll P e l
  | d :: r, h => by
    simp only [DataW.weightsAll, List.mem_append]
    rcases List.mem_cons.1 h with rfl | h
    · exact .inl hn
    · exact .inr (weights_all_mem hn h)
theorem list_of {α : Type} {Q : Nat → α → Prop} : ∀ (n : Nat), (∀ i, i < n → ∃ o, Q i o) → ∃ l : List α, l.length = n ∧ ∀ i (h : i < l.length), Q i l[i]
  | 0, _ => ⟨[], rfl, fun i h => by simp at h⟩
  | n + 1, h => by
    obtain ⟨l, hl, hq⟩ := list_of n (fun i hi => h i (by omega))
    obtain ⟨o, ho⟩ := h n (by omega)
    refine ⟨l ++ [o], by simp [hl], fun i hi => ?_⟩
    by_cases hlt : i < l.length
    · rw [List.getElem_append_left hlt]; exact hq i hlt
    · have he : i = l.length := by simp at hi; omega
      subst he
      rw [List.getElem_append_right (Nat.le_refl _)]
      simp only [Nat.sub_self, List.getElem_cons_zero]
      rw [hl]; exact ho
theorem spot_none {a : Addr} {v : Value} (h : w.cell? a = some v) : a.spot = none := by
  unfold World.cell? at h
  split at h
  · split at h
    · cases h
    · rename_i hs
      simpa using hs
  · cases h
end

theorem ops40 : Tryd.prog.bytesOf 58 = 40 := by kernel_rfl
/-- An expression that came in. -/
theorem open_expr {H : Type} {enc : TypeId × Value → H} {w : World} {base : Nat} {sp : Nat → Bool} {held : Bool} {fuel : Nat} {cs : List Value} {x : DataW H × List MemPlace}
    (h : DataW.trod enc Tryd.prog w base sp held fuel 30 cs = some x) (hz : (x.1.weights Tryd.prog 30).all (· ≤ reachBytes) = true) :
    ∃ A c es, cs = [.slice A (List.length es) c] ∧ OpsAt w A es ∧ es.length * 40 ≤ 140737488351232 ∧ ∀ o ∈ es, o.text.size ≤ 140737488351232 := by
  rcases open_slice_fields Tryd.underlying30 Tryd.underlying58 (by kernel_rfl) (by kernel_rfl) h with ⟨rfl, rfl⟩ | ⟨a, len, cap, m, D, Pl, rfl, _, hlc, hcm, hm, rfl, hi⟩
  · exact ⟨none, 0, [], rfl, .inl rfl, by simp, by simp⟩
  · have hlm : len ≤ m := by rw [hm]; split <;> omega
    have hz' := List.all_eq_true.1 hz
    have hsz : len * 40 ≤ 140737488351232 := by
      have := hz' ((((List.range len).map D).length + ((List.range (m - len)).map fun j => D (len + j)).length) * Tryd.prog.bytesOf 58) (by simp only [DataW.weights, Tryd.underlying30]; exact List.mem_cons_self ..)
      simp [reachBytes, ops40] at this
      omega
    obtain ⟨es, hes, hq⟩ := list_of (Q := fun i (o : XOp) => w.cell? (a.add (i * 4 + 0)) = some (.int .i64 o.kind) ∧ w.cell? (a.add (i * 4 + 1)) = some (.int .i64 o.n) ∧ w.cell? (a.add (i * 4 + 2)) = some (.int .i64 o.int) ∧ w.cell? (a.add (i * 4 + 3)) = some (.string o.text) ∧ o.text.size ≤ 140737488351232) len (fun i hil => by
      obtain ⟨ys, n, hD, _, hyl, hf⟩ := hi i (by omega)
      obtain ⟨v0, y0, c0, e0, t0⟩ := hf 0 _ rfl
      obtain ⟨v1, y1, c1, e1, t1⟩ := hf 1 _ rfl
      obtain ⟨v2, y2, c2, e2, t2⟩ := hf 2 _ rfl
      obtain ⟨v3, y3, c3, e3, t3⟩ := hf 3 _ rfl
      obtain ⟨k0, hk0, _⟩ := DataW.trod_int Tryd.underlying3 t0
      obtain ⟨k1, hk1, _⟩ := DataW.trod_int Tryd.underlying3 t1
      obtain ⟨k2, hk2, _⟩ := DataW.trod_int Tryd.underlying3 t2
      obtain ⟨s, hs, rfl, _⟩ := DataW.trod_string Tryd.underlying9 t3
      simp only [List.cons.injEq, and_true] at hk0 hk1 hk2 hs
      subst hk0 hk1 hk2 hs
      refine ⟨⟨k0, k1, k2, s⟩, c0, c1, c2, c3, ?_⟩
      have hw : s.data.toList.length ∈ (D i).weights Tryd.prog 58 := by
        rw [hD]
        simp only [DataW.weights, Tryd.underlying58]
        exact DataW.weights_mem_each (j := 3) (t := 9) (d := .lit (.string s.data.toList)) rfl (by rw [List.getElem?_map, e3]; rfl) _ (by simp [DataW.weights])
      have := hz' _ (by
        simp only [DataW.weights, Tryd.underlying30]
        exact List.mem_cons_of_mem _ (List.mem_append_left _ (weights_all_mem hw (List.mem_map.2 ⟨i, List.mem_range.2 hil, rfl⟩))))
      have h8 := of_decide_eq_true this
      have h9 : s.size ≤ 140737488351232 := by rw [Array.length_toList] at h8; exact h8
      exact h9)
    subst hes
    refine ⟨some a, cap, es, rfl, ?_, hsz, fun o ho => ?_⟩
    · rcases Nat.eq_zero_or_pos es.length with h0 | h0
      · exact .inl (List.eq_nil_of_length_eq_zero h0)
      · have hc := (hq 0 h0).1
        have hs : a.spot = none := spot_none hc
        obtain ⟨b, off, spot⟩ := a
        simp only at hs
        subst hs
        have hb := World.block_lt_of_cell? w _ hc
        refine .inr ⟨b, off, rfl, by simpa [add_any] using hb, fun i hi => ?_⟩
        obtain ⟨q0, q1, q2, q3, _⟩ := hq i hi
        simp only [add_any] at q0 q1 q2 q3
        exact ⟨q0, q1, q2, q3⟩
    · obtain ⟨j, hj, rfl⟩ := List.mem_iff_getElem.1 ho
      exact (hq j hj).2.2.2.2
/-- A struct's cells, by fields; what a field weighs, the struct weighs. -/
theorem struct_at {H : Type} {enc : TypeId × Value → H} {P : Program} {w : World} {base : Nat} {sp : Nat → Bool} {held : Bool} {fuel : Nat} {t : TypeId} {cs : List Value} {x : DataW H × List MemPlace} {fs : Array Field} (ht : P.underlying t = some (.struct fs)) (h : DataW.trod enc P w base sp held fuel t cs = some x) :
    cs.length = P.cellsOf t ∧ ∃ n : Nat, ∀ (i : Nat) (f : Field), fs[i]? = some f → ∀ (T : TypeId) (off k : Nat), f.type = T → f.offset = off → P.cellsOf T = k →
      ∃ y, DataW.trod enc P w base sp held n T ((cs.drop off).take k) = some y ∧ ∀ m ∈ y.1.weights P T, m ∈ x.1.weights P t := by
  obtain ⟨xs, n, _, rfl, hl, hxl, hf⟩ := DataW.trod_struct ht h
  refine ⟨hl, n, fun i f hi T off k hT hoff hk => ?_⟩
  subst hT hoff hk
  have hil : i < xs.length := by rw [hxl]; exact (Array.getElem?_eq_some_iff.1 hi).1
  have h1 := hf i f hi
  rw [List.getElem?_eq_getElem hil] at h1
  refine ⟨xs[i], h1, fun m hm => ?_⟩
  simp only [DataW.weights, ht]
  refine DataW.weights_mem_each (j := i) (t := f.type) (d := xs[i].1) ?_ ?_ m hm
  · rw [List.getElem?_map, Array.getElem?_toList, hi]; rfl
  · rw [List.getElem?_map, List.getElem?_eq_getElem hil]; rfl
theorem trod_str {H : Type} {enc : TypeId × Value → H} {w : World} {base : Nat} {sp : Nat → Bool} {held : Bool} {fuel : Nat} {v : Value} {x : DataW H × List MemPlace} (h : DataW.trod enc Tryd.prog w base sp held fuel 9 [v] = some x) (hz : ∀ n ∈ x.1.weights Tryd.prog 9, n ≤ reachBytes) :
    ∃ s : ByteArray, v = .string s ∧ s.size ≤ 140737488351232 := by
  obtain ⟨s, hs, rfl, _⟩ := DataW.trod_string Tryd.underlying9 h
  simp only [List.cons.injEq, and_true] at hs
  have h9 := hz s.data.toList.length (by simp [DataW.weights])
  rw [Array.length_toList] at h9
  exact ⟨s, hs, h9⟩
theorem trod_i {H : Type} {enc : TypeId × Value → H} {w : World} {base : Nat} {sp : Nat → Bool} {held : Bool} {fuel : Nat} {v : Value} {x : DataW H × List MemPlace} (h : DataW.trod enc Tryd.prog w base sp held fuel 3 [v] = some x) : ∃ n : Int, v = .int .i64 n := by
  obtain ⟨n, hn, _⟩ := DataW.trod_int Tryd.underlying3 h
  simp only [List.cons.injEq, and_true] at hn
  exact ⟨n, hn⟩
/-- A provider that came in. -/
theorem open_prov {H : Type} {enc : TypeId × Value → H} {w : World} {base : Nat} {sp : Nat → Bool} {held : Bool} {fuel : Nat} {cs : List Value} {x : DataW H × List MemPlace}
    (h : DataW.trod enc Tryd.prog w base sp held fuel 36 cs = some x) (hz : ∀ n ∈ x.1.weights Tryd.prog 36, n ≤ reachBytes) :
    ∃ (p : XProv) (A : Option Addr) (c : Nat), Value.agg cs.toArray = p.val A c ∧ ProvAt w A p := by
  obtain ⟨hl, n, hf⟩ := struct_at Tryd.underlying36 h
  rw [show Tryd.prog.cellsOf 36 = 9 by kernel_rfl] at hl
  obtain ⟨c0, c1, c2, c3, c4, c5, c6, c7, c8, rfl⟩ : ∃ c0 c1 c2 c3 c4 c5 c6 c7 c8, cs = [c0, c1, c2, c3, c4, c5, c6, c7, c8] := by
    match cs, hl with
    | [c0, c1, c2, c3, c4, c5, c6, c7, c8], _ => exact ⟨c0, c1, c2, c3, c4, c5, c6, c7, c8, rfl⟩
  obtain ⟨y0, t0, w0⟩ := hf 0 _ rfl 9 0 1 rfl rfl (by kernel_rfl)
  obtain ⟨y1, t1, w1⟩ := hf 1 _ rfl 30 1 1 rfl rfl (by kernel_rfl)
  obtain ⟨y2, t2, _⟩ := hf 2 _ rfl 4 2 1 rfl rfl (by kernel_rfl)
  obtain ⟨y3, t3, _⟩ := hf 3 _ rfl 32 3 4 rfl rfl (by kernel_rfl)
  obtain ⟨y4, t4, w4⟩ := hf 4 _ rfl 34 7 2 rfl rfl (by kernel_rfl)
  simp only [List.drop_zero, List.drop_succ_cons, List.take_succ_cons, List.take_zero] at t0 t1 t2 t3 t4
  obtain ⟨s0, rfl, hs0⟩ := trod_str t0 (fun m hm => hz m (w0 m hm))
  obtain ⟨A, c, es, h1, hops, hlen, htx⟩ := open_expr t1 (List.all_eq_true.2 fun m hm => by simpa using hz m (w1 m hm))
  obtain ⟨b2, h2, _⟩ := DataW.trod_bool Tryd.underlying4 t2
  obtain ⟨_, n3, hf3⟩ := struct_at Tryd.underlying32 t3
  obtain ⟨_, n4, hf4⟩ := struct_at Tryd.underlying34 t4
  obtain ⟨z0, r0, _⟩ := hf3 0 _ rfl 3 0 1 rfl rfl (by kernel_rfl)
  obtain ⟨z1, r1, _⟩ := hf3 1 _ rfl 3 1 1 rfl rfl (by kernel_rfl)
  obtain ⟨z2, r2, _⟩ := hf3 2 _ rfl 3 2 1 rfl rfl (by kernel_rfl)
  obtain ⟨z3, r3, _⟩ := hf3 3 _ rfl 3 3 1 rfl rfl (by kernel_rfl)
  obtain ⟨q0, r4, _⟩ := hf4 0 _ rfl 3 0 1 rfl rfl (by kernel_rfl)
  obtain ⟨q1, r5, w5⟩ := hf4 1 _ rfl 9 1 1 rfl rfl (by kernel_rfl)
  simp only [List.drop_zero, List.drop_succ_cons, List.take_succ_cons, List.take_zero] at r0 r1 r2 r3 r4 r5
  obtain ⟨k0, rfl⟩ := trod_i r0
  obtain ⟨k1, rfl⟩ := trod_i r1
  obtain ⟨k2, rfl⟩ := trod_i r2
  obtain ⟨k3, rfl⟩ := trod_i r3
  obtain ⟨k4, rfl⟩ := trod_i r4
  obtain ⟨s5, rfl, hs5⟩ := trod_str r5 (fun m hm => hz m (w4 m (w5 m hm)))
  simp only [List.cons.injEq, and_true] at h1 h2
  subst h1 h2
  exact ⟨⟨s0, es, b2, k0, k1, k2, k3, k4, s5⟩, A, c, rfl, ⟨hops, Nat.le_trans hlen (by decide), Nat.le_trans hs0 (by decide), Nat.le_trans hs5 (by decide), fun o ho => Nat.le_trans (htx o ho) (by decide)⟩⟩

/-- An array of strings that reads as a list of texts holds them. -/
theorem cells_of_texts {H : Type} {enc : TypeId × Value → H} {P : Program} {w : World} {base : Nat} {sp : Nat → Bool} {held : Bool} {fuel : Nat} {t e : TypeId} {n : Nat} {cs : List Value} {zs : List ByteArray} {p : List MemPlace}
    (ht : P.underlying t = some (.array n e)) (he : P.underlying e = some .string) (hce : P.cellsOf e = 1) (hct : P.cellsOf t = n)
    (h : DataW.trod enc P w base sp held fuel t cs = some (.agg (zs.map fun z => .lit (.string z.data.toList)), p)) : cs = zs.map Value.string := by
  cases fuel with
  | zero => simp [DataW.trod] at h
  | succ fuel =>
    simp only [DataW.trod, ht, hce, hct, Nat.mul_one] at h
    split at h
    · rename_i hl
      obtain ⟨xs, hm, hx⟩ := Option.map_eq_some_iff.1 h
      have hxs : xs.map (·.1) = zs.map fun z => (DataW.lit (.string z.data.toList) : DataW H) := by
        have := congrArg Prod.fst hx
        simpa using this
      have hxl : xs.length = n := by simpa using Lib.mapM_length hm
      have hzl : zs.length = n := by
        have := congrArg List.length hxs
        simp at this
        omega
      apply List.ext_getElem?
      intro i
      by_cases hi : i < n
      · obtain ⟨b, hb, hf⟩ := Lib.mapM_at hm i i (by simp [hi])
        obtain ⟨z, hc, rfl, _⟩ := DataW.trod_string he hf
        have h1 : cs[i]? = some (.string z) := by
          have := congrArg (·[0]?) hc
          simpa [List.getElem?_take, List.getElem?_drop] using this
        have h2 : (xs.map (·.1))[i]? = some (DataW.lit (.string z.data.toList) : DataW H) := by simp [hb]
        rw [hxs] at h2
        simp only [List.getElem?_map, Option.map_eq_some_iff, DataW.lit.injEq, Lit.string.injEq] at h2
        obtain ⟨z', hz', e2⟩ := h2
        have e3 : z' = z := bytes_ext (by rw [ByteArray.toList_eq, ByteArray.toList_eq]; exact e2)
        rw [List.getElem?_map, hz', h1, e3]; rfl
      · rw [List.getElem?_eq_none (by omega), List.getElem?_eq_none (by simp; omega)]
    · cases h
/-- The keywords, out of the row's list. -/
theorem keys_of {W : World} {rest : List (String × DataW Unit)} (h : laidMet Tryd.prog (("onceweb/lex.keys", Rows.laid_onceweb_lex_keys) :: rest) W) : KeysIn W := by
  obtain ⟨ps, ⟨g', t', cs, fuel, p, q, hg', ht', hvar, hd, _, _⟩, _⟩ := h
  obtain rfl := Option.some.inj ((show Tryd.prog.globalNamed "onceweb/lex.keys" = some 0 by kernel_rfl).symm.trans hg')
  obtain rfl := Option.some.inj ((show (Tryd.prog.globals[0]?).map (·.type) = some 108 by kernel_rfl).symm.trans ht')
  have hc := cells_of_texts (zs := keyL) Tryd.underlying108 Tryd.underlying9 (by kernel_rfl) (by kernel_rfl) hd
  have hcell : ∀ i (hi : i < keyL.length), W.cell? ⟨0, i, none⟩ = some (.string keyL[i]) := by
    intro i hi
    have := World.var?_cell hg' hvar i
    rw [this, ← Array.getElem?_toList, hc]
    simp [hi]
  have hb := World.block_lt_of_cell? W _ (hcell 0 (by decide))
  exact .inr ⟨0, 0, rfl, hb, fun i hi => by rw [Nat.zero_add]; exact hcell i hi⟩
end Go.Proofs.YtofmdmmgbfbaoaaDoor
