/- Words for another seat, cut out of A19 .. A41. -/
import Derived.Test.YtofmdmmgbfbaoaaDoorA18
import Derived.Maps.OwnSet
import Derived.Maps.RangeWalk
import Derived.Maps.OwnOps
import Derived.StringKeys
import Derived.Deep.Onto
namespace Go.Proofs.YtofmdmmgbfbaoaaDoor
open Go.ChangeMaps Go.Maps Go.RowKit Go.WideShapes

theorem al_size (w : World) (o : Obj) : (w.alloc o).heap.size = w.heap.size + 1 := by simp
theorem dr_size (w : World) : w.drew.heap.size = w.heap.size := rfl
theorem check_zero {es : List XOp} (h : checkF es = 0) : es.length ≤ 256 ∧ ∃ fr b, beginsF es = some (fr, [b]) := by
  unfold checkF at h
  split at h
  · omega
  · refine ⟨by omega, ?_⟩
    split at h
    · next fr b hb => exact ⟨fr, b, hb⟩
    · omega

theorem sameTexts_c (l : List ByteArray) (A B : Option Addr) (c d : Nat) (w : World) (hx : StrsAt w A l) (hy : StrsAt w B l) (hl : l.length ≤ 140737488355328) :
    Calls Tryd.prog 18 #[.slice A l.length c, .slice B l.length d] w fun e w' => e = .returned (.bool true) ∧ Below w.heap.size w w' := by
  go_enter Tryd.func18, Tryd.ntmps18
  go_wp2
  go_loopw [5] (fun i wr => ∃ k n : Nat, k ≤ l.length ∧ i = .int .i64 k ∧ wr = w.drewN n) (fun i _ => l.length - (intOf i).toNat)
  case atStart => exact ⟨0, 0, by omega, rfl, rfl⟩
  case round =>
    obtain ⟨k, n, hk, rfl, rfl⟩ := hrel
    by_cases hlt : k < l.length
    · rcases hx with rfl | ⟨b, off, rfl, _, hc⟩
      · simp at hlt
      rcases hy with rfl | ⟨b', off', rfl, _, hc'⟩
      · simp at hlt
      have h1 := hc k hlt
      have h2 := hc' k hlt
      clear hc hc'
      have hi0 : (0 : Int) ≤ (k : Int) := Int.natCast_nonneg _
      have hi1 : (k : Int) < (l.length : Int) := by omega
      have hb : (l[k].toList != l[k].toList) = false := by simp
      have hb2 : (l[k].toList == l[k].toList) = true := by simp
      go_wp2_with fail
      go_quiet (fail)
      go_wp2
      go_roundw
      case rel => exact ⟨k + 1, _, by omega, by go_num, rfl⟩
      case measure => simp [intOf]; omega
    · go_wp2
      go_ret
      exact ⟨rfl, below_drewN (Below.refl _ _) _⟩

set_option maxHeartbeats 2000000 in
theorem textsR_c (es : List XOp) (kind : Int) (A : Option Addr) (c : Nat) (w : World) (hx : OpsAt w A es) (hl : es.length * 40 ≤ 140737488355328) :
    Calls Tryd.prog 76 #[.slice A es.length c, .int .i64 kind] w fun e w' => ∃ v, e = .returned v ∧ w'.ownsRow w.heap.size 9 1 v (textsF es kind).length ((textsF es kind).map Value.string) ∧ Below w.heap.size w w' := by
  go_enter Tryd.func76, Tryd.ntmps76
  go_wp2
  go_loopw [5, 6] (fun v i wr => ∃ (k : Nat) (out : List ByteArray), k ≤ es.length ∧ i = .int .i64 k ∧ out.length ≤ k ∧ textsFrom kind (es.drop k) out = textsF es kind ∧ wr.ownsRow w.heap.size 9 1 v (out.map Value.string).length (out.map Value.string) ∧ Below w.heap.size w wr) (fun _ i _ => es.length - (intOf i).toNat)
  case atStart => exact ⟨0, [], by omega, rfl, by simp, rfl, World.ownsRow_made w #[] 0 (Nat.le_refl _) (by simp [maxLen]) (by simp), (Below.refl _ _).alloc (Nat.le_refl _) _⟩
  case round =>
    obtain ⟨k, out, hk, rfl, ho, hr, hown, hbel⟩ := hrel
    have HR := Lib.hid hr
    clear hr
    by_cases hlt : k < es.length
    · rcases hx with rfl | ⟨b, off, rfl, hb, hc⟩
      · simp at hlt
      · obtain ⟨h0, h1, h2, h3⟩ := hc k hlt
        obtain ⟨hcc, hff⟩ := bcell hbel
        have g0 := (hcc b (off + k * 4) hb).trans h0
        have g3 := (hcc b (off + k * 4 + 3) hb).trans h3
        have hbr : b < wr.heap.size := Nat.lt_of_lt_of_le hb hbel.size
        clear hc h0 h1 h2 h3 hcc hff
        obtain ⟨A1, c1, rfl, hs, hl1⟩ := own_strs hown
        clear hl1
        have hu : textsFrom kind (es.drop k) out = _ := textsFrom_drop kind es k hlt out
        have HU := Lib.hid hu
        clear hu
        have hbs := hbel.size
        go_wp2_with (first | (go_at_call 63; refine (in_c out _ _ _ _ hs (by omega)).mono ?_; rintro e w' ⟨rfl, rfl⟩) | (at_builtin; refine app_one (w0 := w) w.heap.size (by rfl) _ _ 38 9 (.string ⟨#[]⟩) 16 (by rfl) Tryd.underlying38 info_str rfl (.slice A1 out.length c1) (out.map Value.string) (.string es[k].text) (by rfl) wr.heap.size (by rfl) rfl rfl hown hbel hbs (by simp; omega) (by simp; omega) ?_; intro v1 w1 hown1 hbel1 _ _))
        · go_roundw
          case rel => exact ⟨k + 1, out ++ [es[k].text], by omega, by go_num, by simp; omega, by rw [← HR.out, HU.out, if_pos]; simp_all, by simpa using hown1, hbel1⟩
          case measure => simp [intOf]; omega
        · go_roundw
          case rel => exact ⟨k + 1, out, by omega, by go_num, by omega, by rw [← HR.out, HU.out, if_neg]; simp_all, hown, hbel⟩
          case measure => simp [intOf]; omega
        · go_roundw
          case rel => exact ⟨k + 1, out, by omega, by go_num, by omega, by rw [← HR.out, HU.out, if_neg]; simp_all, hown, hbel⟩
          case measure => simp [intOf]; omega
    · have hz : out = textsF es kind := by rw [← HR.out, List.drop_of_length_le (by omega), textsFrom]
      have HZ := Lib.hid hz
      clear hz
      go_wp2
      go_ret
      refine ⟨_, rfl, ?_, hbel⟩
      rw [← HZ.out]; simpa using hown

theorem keyed : Keyed Tryd.prog 9 := string_keyed Tryd.underlying9
/-- A text as a key. -/
def kl (s : ByteArray) : Lit := .string s.data.toList
theorem kl_of (s : ByteArray) (h : s.size ≤ 140737488355328) : keyOf Tryd.prog 9 (.string s) = some (kl s) := Go.WideMaps.keyOf_string_mk Tryd.underlying9 (by simp only [maxLen]; omega)
theorem kl_inj {s t : ByteArray} (h : kl s = kl t) : s = t := by
  unfold kl at h
  injection h with h
  exact bytes_ext (by rw [ByteArray.toList_eq, ByteArray.toList_eq]; exact h)
theorem kl_key (s : ByteArray) (h : s.size ≤ 140737488355328) : WideAt.IsKeyLit (kl s) := keyed.key (kl_of s h)
theorem has_put (D : DataW Unit) (hD : IsMap D) (s x : ByteArray) (hs : s.size ≤ 140737488355328) (d : DataW Unit) : Maps.has (D.put (kl s) d) (kl x) = (Maps.has D (kl x) || decide (x = s)) := by
  by_cases h : x = s
  · subst h
    rw [has_put_same hD (kl_key x hs) d]
    simp
  · rw [has_put_other (fun e => h (kl_inj e)) d]
    simp [h]
theorem textsFrom_mem {kind : Int} : ∀ {es : List XOp} {out : List ByteArray} {x : ByteArray}, x ∈ textsFrom kind es out → x ∈ out ∨ ∃ o ∈ es, x = o.text
  | [], out, x, h => .inl h
  | o :: es, out, x, h => by
    rw [textsFrom] at h
    rcases textsFrom_mem h with h | ⟨o', ho', e⟩
    · split at h
      · rw [List.mem_append, List.mem_singleton] at h
        rcases h with h | h
        · exact .inl h
        · exact .inr ⟨o, by simp, h⟩
      · exact .inl h
    · exact .inr ⟨o', by simp [ho'], e⟩
theorem texts_length {kind : Int} : ∀ (es : List XOp) (out : List ByteArray), (textsFrom kind es out).length ≤ out.length + es.length
  | [], out => by simp [textsFrom]
  | o :: es, out => by
    rw [textsFrom]
    refine Nat.le_trans (texts_length es _) ?_
    split
    · rw [List.length_append, List.length_singleton, List.length_cons]; omega
    · rw [List.length_cons]; omega


/-- append(v, x) of one cell, boxed ahead; where the row lies is told too. -/
theorem app_two {P : Program} {ops : Array Oper} {rest : List Oper} {o : Oper} {a : Act} {Q : Exit → Act → World → Prop} {w0 W : World} (base : Nat) (hgd : o.guard = none) (s x : Operand) (t e : TypeId) (z : Value) (bytes : Nat)
    (ho : o.op = .call { callee := .builtin .append, args := #[s, x], argTypes := #[t, t] })
    (ht : P.underlying t = some (.slice e)) (hinfo : (P.info? e).map (fun i => (i.zero, i.size, i.bytes)) = some (some z, 1, bytes)) (hz : z.cells.size = 1)
    (v : Value) (xs : List Value) (y : Value) (hs : a.eval s = v) (nb : Nat) (hx : a.eval x = .slice (some ⟨nb, 0, none⟩) 1 1) (hnb : nb = W.heap.size) (h1 : y.oneCell' = true)
    (HO : W.ownsRow base e 1 v xs.length xs) (HB : Below base w0 W) (hbase : base ≤ W.heap.size) (hlen : xs.length + 1 ≤ 140737488355328) (hl : (xs.length + 1) * bytes ≤ 140737488355328)
    (h : ∀ v1 w1, w1.ownsRow base e 1 v1 (xs ++ [y]).length (xs ++ [y]) → Below base w0 w1 → W.grownBy w1 v.ownBlock → w1.heap.size ≥ W.heap.size → (∀ g, g < W.heap.size → v.ownBlock ≠ some g → v1.ownBlock ≠ some g) → wpList P ops Q rest (a.put o.dst v1) w1) :
    wpList P ops Q (o :: rest) a (W.alloc (.cells #[y] e)) := by
  obtain ⟨i0, hi, hzz⟩ := Option.map_eq_some_iff.1 hinfo
  simp only [Prod.mk.injEq] at hzz
  obtain ⟨hz0, hz1, hz2⟩ := hzz
  subst hnb
  refine wpList_append_own_at (W.alloc (.cells #[y] e)) hgd s x t ho base e i0 z 1 bytes ht hi hz0 hz1 hz2 hz (by omega) v xs.length xs hs (HO.alloc _) ⟨W.heap.size, 0, none⟩ 1 1 [y] hx rfl
    (cell_one_new _ _ _) (by simpa using h1) (by simp only [maxLen]; omega) hl (by simp; omega) ?_
  intro v1 w1 hown hg _ hwhere
  refine h v1 w1 (by simpa using hown) ((HB.alloc hbase _).grown hg (by simp; omega) (fun k hk => (HO.lt k hk).1)) (World.grownBy.trans (World.grownBy_alloc W _ _) hg) (Nat.le_trans (by simp) hg.size) (fun g hgl hne => ?_)
  rcases hwhere with h | h
  · rw [h]; exact hne
  · rw [h]
    intro e1
    have e2 := Option.some.inj e1
    have e3 : (W.alloc (.cells #[y] e)).heap.size = W.heap.size + 1 := by simp
    omega
theorem StrsAt.grown {w w' : World} {A : Option Addr} {xs : List ByteArray} {row : Option Nat} (h : StrsAt w A xs) (hg : w.grownBy w' row) (hne : ∀ g o, A = some ⟨g, o, none⟩ → row ≠ some g) : StrsAt w' A xs := by
  rcases h with h | ⟨b, off, e, hl, hc⟩
  · exact .inl h
  · exact .inr ⟨b, off, e, Nat.lt_of_lt_of_le hl hg.size, fun i hi => (World.cell?_of_block (a := ⟨b, off + i, none⟩) (hg.block b hl (fun k => hne b off e k.symm))).trans (hc i hi)⟩
theorem strs_drewN {w : World} {A : Option Addr} {xs : List ByteArray} (h : StrsAt w A xs) (n : Nat) : StrsAt (w.drewN n) A xs := h
theorem anyEq (x : ByteArray) (l : List ByteArray) : (l.any fun y => decide (x = y)) = memB x l := rfl
theorem memB_app (x : ByteArray) (a b : List ByteArray) : memB x (a ++ b) = (memB x a || memB x b) := by unfold memB; rw [List.any_append]
theorem memB_take (x : ByteArray) (l : List ByteArray) (j : Nat) (h : j < l.length) : memB x (l.take (j + 1)) = (memB x (l.take j) || decide (x = l[j])) := by
  rw [List.take_succ_eq_append_getElem h, memB_app]; simp [memB]

theorem cell_new (w : World) (cs : Array Value) (t : TypeId) (o : Nat) : (w.alloc (.cells cs t)).cell? ⟨w.heap.size, o, none⟩ = cs[o]? := by
  unfold World.cell?
  rw [heap_alloc_new]
  simp

/-- A provider, and where its expression lies. -/
structure PRow where
  p : XProv
  A : Option Addr
  c : Nat
def PRow.cells (r : PRow) : List Value := [.string r.p.name, .slice r.A r.p.expr.length r.c, .bool r.p.again, .int .i64 r.p.p1, .int .i64 r.p.p2, .int .i64 r.p.p3, .int .i64 r.p.p4, .int .i64 r.p.ck, .string r.p.ct]
def rowCells (rs : List PRow) : List Value := rs.flatMap PRow.cells
theorem rowCells_length (rs : List PRow) : (rowCells rs).length = rs.length * 9 := by
  unfold rowCells
  induction rs with
  | nil => rfl
  | cons r rs ih => rw [List.flatMap_cons, List.length_append, ih]; simp [PRow.cells]; omega
theorem rowCells_app (a b : List PRow) : rowCells (a ++ b) = rowCells a ++ rowCells b := by unfold rowCells; rw [List.flatMap_append]
theorem rowCells_one (r : PRow) : rowCells [r] = r.cells := by simp [rowCells]
theorem rowCells_get (rs : List PRow) (i j : Nat) (h : i < rs.length) (hj : j < 9) : (rowCells rs)[i * 9 + j]? = some (rs[i].cells[j]'hj) := by
  induction rs generalizing i with
  | nil => simp at h
  | cons r rs ih =>
    have hc : rowCells (r :: rs) = r.cells ++ rowCells rs := rfl
    have hl : r.cells.length = 9 := rfl
    rw [hc]
    rcases i with _ | i
    · rw [List.getElem?_append_left (by rw [hl]; omega)]
      simp only [Nat.zero_mul, Nat.zero_add, List.getElem_cons_zero]
      exact List.getElem?_eq_getElem hj
    · rw [List.getElem?_append_right (by rw [hl]; omega), hl, show (i + 1) * 9 + j - 9 = i * 9 + j by omega]
      exact ih i (by simpa using h)
/-- The cells of a provider that lies at block b from o on. -/
def ProvOn (w : World) (b o : Nat) (r : PRow) : Prop :=
  w.cell? ⟨b, o, none⟩ = some (.string r.p.name) ∧ w.cell? ⟨b, o + 1, none⟩ = some (.slice r.A r.p.expr.length r.c) ∧ w.cell? ⟨b, o + 2, none⟩ = some (.bool r.p.again) ∧ w.cell? ⟨b, o + 3, none⟩ = some (.int .i64 r.p.p1) ∧ w.cell? ⟨b, o + 4, none⟩ = some (.int .i64 r.p.p2) ∧ w.cell? ⟨b, o + 5, none⟩ = some (.int .i64 r.p.p3) ∧ w.cell? ⟨b, o + 6, none⟩ = some (.int .i64 r.p.p4) ∧ w.cell? ⟨b, o + 7, none⟩ = some (.int .i64 r.p.ck) ∧ w.cell? ⟨b, o + 8, none⟩ = some (.string r.p.ct)
theorem ProvOn.same {w w' : World} {b o : Nat} {r : PRow} (h : ProvOn w b o r) (hk : ∀ o, w'.cell? ⟨b, o, none⟩ = w.cell? ⟨b, o, none⟩) : ProvOn w' b o r := by
  unfold ProvOn at *
  simp only [hk]
  exact h
/-- A row of providers that is read. -/
structure ProvsAt (w : World) (V : Option Addr) (rs : List PRow) : Prop where
  lies : rs = [] ∨ ∃ b off, V = some ⟨b, off, none⟩ ∧ b < w.heap.size ∧ ∀ i (h : i < rs.length), ProvOn w b (off + i * 9) rs[i]
  each : ∀ r ∈ rs, ProvAt w r.A r.p
theorem ProvAt.below {w w' : World} {A : Option Addr} {p : XProv} (h : ProvAt w A p) (hb : Below w.heap.size w w') : ProvAt w' A p := ⟨h.ops.below hb, h.len, h.name, h.ct, h.text⟩
theorem ProvsAt.below {w w' : World} {V : Option Addr} {rs : List PRow} (h : ProvsAt w V rs) (hb : Below w.heap.size w w') : ProvsAt w' V rs := by
  refine ⟨?_, fun r hr => (h.each r hr).below hb⟩
  rcases h.lies with h | ⟨b, off, e, hl, hc⟩
  · exact .inl h
  · exact .inr ⟨b, off, e, Nat.lt_of_lt_of_le hl hb.size, fun i hi => (hc i hi).same fun o => hb.cell (p := ⟨b, o, none⟩) hl⟩
theorem ProvsAt.drewN {w : World} {V : Option Addr} {rs : List PRow} (h : ProvsAt w V rs) (n : Nat) : ProvsAt (w.drewN n) V rs :=
  ⟨h.lies, fun r hr => ⟨(h.each r hr).ops, (h.each r hr).len, (h.each r hr).name, (h.each r hr).ct, (h.each r hr).text⟩⟩
theorem ProvsAt.take {w : World} {V : Option Addr} {rs : List PRow} (h : ProvsAt w V rs) (k : Nat) : ProvsAt w V (rs.take k) := by
  refine ⟨?_, fun r hr => h.each r (List.mem_of_mem_take hr)⟩
  rcases h.lies with rfl | ⟨b, off, e, hl, hc⟩
  · exact .inl (by simp)
  · exact .inr ⟨b, off, e, hl, fun i hi => by
      have hi' : i < rs.length := by rw [List.length_take] at hi; omega
      rw [List.getElem_take]; exact hc i hi'⟩
/-- What a row of the call's own reads as: providers. -/
theorem own_provs {w : World} {base n : Nat} {e : TypeId} {v : Value} {rs : List PRow} (h : w.ownsRow base e 9 v n (rowCells rs)) (he : ∀ r ∈ rs, ProvAt w r.A r.p) : ∃ V c, v = .slice V rs.length c ∧ ProvsAt w V rs := by
  have hl : rs.length = n := by have := h.1; rw [rowCells_length] at this; omega
  rcases h.2 with ⟨rfl, h0⟩ | ⟨g, cap, cur, rfl, _, hh, _⟩
  · have h1 : rs = [] := List.eq_nil_of_length_eq_zero (by omega)
    subst h1
    exact ⟨none, 0, rfl, .inl rfl, he⟩
  · refine ⟨some ⟨g, 0, none⟩, cap, by rw [hl], .inr ⟨g, 0, rfl, (Array.getElem?_eq_some_iff.1 hh).1, fun i hi => ?_⟩, he⟩
    have hc := fun j (hj : j < 9) => h.cells (g := g) rfl (i * 9 + j) _ (rowCells_get rs i j hi hj)
    simp only [add_any] at hc
    exact ⟨hc 0 (by omega), hc 1 (by omega), hc 2 (by omega), hc 3 (by omega), hc 4 (by omega), hc 5 (by omega), hc 6 (by omega), hc 7 (by omega), hc 8 (by omega)⟩
/-- append(v, x) of one struct, boxed ahead; where the row lies is told too. -/
theorem app_struct {P : Program} {ops : Array Oper} {rest : List Oper} {o : Oper} {a : Act} {Q : Exit → Act → World → Prop} {w0 W : World} (base : Nat) (hgd : o.guard = none) (s x : Operand) (t e : TypeId) (z : Value) (size bytes : Nat)
    (ho : o.op = .call { callee := .builtin .append, args := #[s, x], argTypes := #[t, t] })
    (ht : P.underlying t = some (.slice e)) (hinfo : (P.info? e).map (fun i => (i.zero, i.size, i.bytes)) = some (some z, size, bytes)) (hz : z.cells.size = size) (hsz : 0 < size)
    (v : Value) (n : Nat) (xs news : List Value) (hs : a.eval s = v) (nb : Nat) (hx : a.eval x = .slice (some ⟨nb, 0, none⟩) 1 1) (hnb : nb = W.heap.size) (hnl : news.length = size) (h1 : ∀ u ∈ news, u.oneCell' = true)
    (HO : W.ownsRow base e size v n xs) (HB : Below base w0 W) (hbase : base ≤ W.heap.size) (hlen : n + 1 ≤ 140737488355328) (hl : (n + 1) * bytes ≤ 140737488355328)
    (h : ∀ v1 w1, w1.ownsRow base e size v1 (n + 1) (xs ++ news) → Below base w0 w1 → W.grownBy w1 v.ownBlock → (∀ g, g < W.heap.size → v.ownBlock ≠ some g → v1.ownBlock ≠ some g) → wpList P ops Q rest (a.put o.dst v1) w1) :
    wpList P ops Q (o :: rest) a (W.alloc (.cells news.toArray e)) := by
  obtain ⟨i0, hi, hzz⟩ := Option.map_eq_some_iff.1 hinfo
  simp only [Prod.mk.injEq] at hzz
  obtain ⟨hz0, hz1, hz2⟩ := hzz
  subst hnb
  refine wpList_append_own_at (W.alloc (.cells news.toArray e)) hgd s x t ho base e i0 z size bytes ht hi hz0 hz1 hz2 hz hsz v n xs hs (HO.alloc _) ⟨W.heap.size, 0, none⟩ 1 1 news hx (by rw [hnl]; omega)
    (fun j u hu => by rw [add_zero, cell_new]; simpa using hu) h1 (by simp only [maxLen]; omega) hl (by simp; omega) ?_
  intro v1 w1 hown hg _ hwhere
  refine h v1 w1 hown ((HB.alloc hbase _).grown hg (by simp; omega) (fun k hk => (HO.lt k hk).1)) (World.grownBy.trans (World.grownBy_alloc W _ _) hg) (fun g hgl hne => ?_)
  rcases hwhere with h | h
  · rw [h]; exact hne
  · rw [h]
    intro e1
    have e2 := Option.some.inj e1
    have e3 : (W.alloc (.cells news.toArray e)).heap.size = W.heap.size + 1 := by simp
    omega
/-- An expression apart from a row. -/
def Apart (v : Value) (r : PRow) : Prop := r.p.expr = [] ∨ ∀ g o, r.A = some ⟨g, o, none⟩ → v.ownBlock ≠ some g
theorem ops_grown {w w' : World} {A : Option Addr} {es : List XOp} {row : Option Nat} (h : OpsAt w A es) (hg : w.grownBy w' row) (hne : es = [] ∨ ∀ g o, A = some ⟨g, o, none⟩ → row ≠ some g) : OpsAt w' A es := by
  rcases h with h | ⟨b, off, e, hl, hc⟩
  · exact .inl h
  · rcases hne with h | hne
    · exact .inl h
    · have hk : ∀ o, w'.cell? ⟨b, o, none⟩ = w.cell? ⟨b, o, none⟩ := fun o => World.cell?_of_block (a := ⟨b, o, none⟩) (hg.block b hl (fun k => hne b off e k.symm))
      exact .inr ⟨b, off, e, Nat.lt_of_lt_of_le hl hg.size, fun i hi => by simp only [hk]; exact hc i hi⟩
theorem apart_next {w w' : World} {v v1 : Value} {r : PRow} (h : ProvAt w r.A r.p) (ha : Apart v r) (hg : w.grownBy w' v.ownBlock) (hn : ∀ g, g < w.heap.size → v.ownBlock ≠ some g → v1.ownBlock ≠ some g) : ProvAt w' r.A r.p ∧ Apart v1 r := by
  refine ⟨⟨ops_grown h.ops hg ha, h.len, h.name, h.ct, h.text⟩, ?_⟩
  rcases ha with ha | ha
  · exact .inl ha
  · rcases h.ops with h1 | ⟨b, off, e, hl, _⟩
    · exact .inl h1
    · refine .inr fun g o h2 => ?_
      rw [e] at h2
      cases h2
      exact hn b hl (ha b off e)
theorem info_prov : (Tryd.prog.info? 36).map (fun i => (i.zero, i.size, i.bytes)) = some (some (.agg #[.string ⟨#[]⟩, .slice none 0 0, .bool false, .int .i64 0, .int .i64 0, .int .i64 0, .int .i64 0, .int .i64 0, .string ⟨#[]⟩]), 9, 104) := by kernel_rfl


def namesL (rs : List PRow) : List ByteArray := rs.map fun r => r.p.name
theorem namesL_length (rs : List PRow) : (namesL rs).length = rs.length := by simp [namesL]
theorem namesL_get (rs : List PRow) (k : Nat) (h : k < rs.length) : (namesL rs)[k]'(by rw [namesL_length]; exact h) = rs[k].p.name := by simp [namesL]
theorem idx_step (xs : List ByteArray) (s : ByteArray) (k : Nat) (h : k < xs.length) : idxFrom xs s k = if s = xs[k] then (k : Int) else idxFrom xs s (k + 1) := by
  rw [idxFrom, dif_pos h]
theorem idx_end (xs : List ByteArray) (s : ByteArray) (k : Nat) (h : xs.length ≤ k) : idxFrom xs s k = -1 := by
  rw [idxFrom, dif_neg (by omega)]
theorem idx_mem (xs : List ByteArray) (s : ByteArray) : decide (0 ≤ idxFrom xs s 0) = memB s xs := by
  rw [Bool.eq_iff_iff, decide_eq_true_eq, idxFrom_nonneg, memB_iff, List.drop_zero]
/-- The first provider that is wrong. -/
def badAt : List XProv → Nat → Option (Nat × Int)
  | [], _ => none
  | p :: ps, i => if provF p ≠ 0 then some (i, provF p) else badAt ps (i + 1)
/-- The first name that was there before. -/
def twiceAt : List ByteArray → List ByteArray → Nat → Option Nat
  | [], _, _ => none
  | s :: r, d, i => if memB s d = true then some i else twiceAt r (d ++ [s]) (i + 1)
/-- CheckSet's answer: the place and the word. -/
def setF (ps : List XProv) : Int × Int :=
  if 256 < ps.length then (0, 3)
  else match badAt ps 0 with
    | some (i, c) => ((i : Int), c)
    | none => match twiceAt (ps.map XProv.name) [] 0 with
      | some i => ((i : Int), 6)
      | none => (0, 0)
theorem badAt_drop (ps : List XProv) (k : Nat) (h : k < ps.length) : badAt (ps.drop k) k = if provF ps[k] ≠ 0 then some (k, provF ps[k]) else badAt (ps.drop (k + 1)) (k + 1) := by
  rw [List.drop_eq_getElem_cons h, badAt]
theorem twiceAt_drop (l : List ByteArray) (k : Nat) (h : k < l.length) : twiceAt (l.drop k) (l.take k) k = if memB l[k] (l.take k) = true then some k else twiceAt (l.drop (k + 1)) (l.take (k + 1)) (k + 1) := by
  rw [List.drop_eq_getElem_cons h, twiceAt, List.take_succ_eq_append_getElem h]
/-- The set of a row. -/
def provsL (rs : List PRow) : List XProv := rs.map (·.p)
theorem provsL_length (rs : List PRow) : (provsL rs).length = rs.length := by simp [provsL]
theorem provsL_get (rs : List PRow) (k : Nat) (h : k < rs.length) : (provsL rs)[k]'(by rw [provsL_length]; exact h) = rs[k].p := by simp [provsL]
theorem provsL_names (rs : List PRow) : (provsL rs).map XProv.name = namesL rs := by unfold provsL namesL; rw [List.map_map]; rfl
/-- What a call that answers with a fault leaves. -/
def FaultPost (a : Int × Int) (w : World) (e : Ending) (w' : World) : Prop := e = .returned (.agg #[.int .i64 a.1, .int .i64 a.2]) ∧ Below w.heap.size w w'
end Go.Proofs.YtofmdmmgbfbaoaaDoor
