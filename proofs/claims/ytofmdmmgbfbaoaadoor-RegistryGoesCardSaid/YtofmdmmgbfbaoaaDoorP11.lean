/- play: acts of a registry and of the document's. -/
import Derived.Test.YtofmdmmgbfbaoaaDoorP10
import Derived.Test.YtofmdmmgbfbaoaaDoorP5
namespace Go.Proofs.YtofmdmmgbfbaoaaDoor
open Go.RowKit Go.Maps Go.ChangeMaps Go.WideShapes

/-- An act. -/
structure ARow where
  kind : Int
  r : PRow
/-- A row of acts that came in. -/
structure ActsAt (w : World) (V : Option Addr) (xs : List ARow) : Prop where
  lies : xs = [] ∨ ∃ b off, V = some ⟨b, off, none⟩ ∧ b < w.heap.size ∧ ∀ i (h : i < xs.length), w.cell? ⟨b, off + i * 10, none⟩ = some (.int .i64 xs[i].kind) ∧ ProvOn w b (off + i * 10 + 1) xs[i].r
  each : ∀ x ∈ xs, ProvAt w x.r.A x.r.p
theorem ActsAt.below {w w' : World} {V : Option Addr} {xs : List ARow} (h : ActsAt w V xs) (hb : Below w.heap.size w w') : ActsAt w' V xs := by
  refine ⟨?_, fun r hr => (h.each r hr).below hb⟩
  rcases h.lies with h | ⟨b, off, e, hl, hc⟩
  · exact .inl h
  · exact .inr ⟨b, off, e, Nat.lt_of_lt_of_le hl hb.size, fun i hi => ⟨(hb.cell (p := ⟨b, off + i * 10, none⟩) hl).trans (hc i hi).1, (hc i hi).2.same fun o => hb.cell (p := ⟨b, o, none⟩) hl⟩⟩
/-- What play's last region keeps. -/
def SE (yb : Nat) (V : Option Addr) (n c : Nat) (fz : Bool) (w' : World) : Prop := w'.cell? ⟨yb, 0, none⟩ = some (.slice V n c) ∧ w'.cell? ⟨yb, 1, none⟩ = some (.bool fz)
theorem SE.set {yb : Nat} {V : Option Addr} {n c : Nat} {fz : Bool} {W : World} (h : SE yb V n c fz W) {xb : Nat} (hne : xb ≠ yb) (o : Nat) (u : Value) : SE yb V n c fz (W.setCell ⟨xb, o, none⟩ u) := by
  refine ⟨?_, ?_⟩
  · rw [World.cell?_setCell_far _ _ _ _ (by simp; exact fun e => hne (by first | exact e | exact e.symm))]; exact h.1
  · rw [World.cell?_setCell_far _ _ _ _ (by simp; exact fun e => hne (by first | exact e | exact e.symm))]; exact h.2
/-- What the call of the document's Add keeps. -/
def SB (w0 : World) (yb : Nat) (V : Option Addr) (n c : Nat) (fz : Bool) (b o : Nat) (r : PRow) (w' : World) : Prop := Below w0.heap.size w0 w' ∧ w'.cell? ⟨yb, 0, none⟩ = some (.slice V n c) ∧ w'.cell? ⟨yb, 1, none⟩ = some (.bool fz) ∧ ProvOn w' b o r
theorem SB.below {w0 W W' : World} {yb : Nat} {V : Option Addr} {n c : Nat} {fz : Bool} {b o : Nat} {r : PRow} (h : SB w0 yb V n c fz b o r W) (hy : yb < w0.heap.size) (hb : b < w0.heap.size) (hW : Below W.heap.size W W') : SB w0 yb V n c fz b o r W' := by
  have hs := h.1.size
  exact ⟨h.1.trans (hW.mono hs), (hW.cell (p := ⟨yb, 0, none⟩) (Nat.lt_of_lt_of_le hy hs)).trans h.2.1, (hW.cell (p := ⟨yb, 1, none⟩) (Nat.lt_of_lt_of_le hy hs)).trans h.2.2.1, h.2.2.2.same fun o => hW.cell (p := ⟨b, o, none⟩) (Nat.lt_of_lt_of_le hb hs)⟩
theorem SB.drew {w0 W : World} {yb : Nat} {V : Option Addr} {n c : Nat} {fz : Bool} {b o : Nat} {r : PRow} (h : SB w0 yb V n c fz b o r W) : SB w0 yb V n c fz b o r W.drew := ⟨h.1.trans ((Below.refl _ _).drew.mono h.1.size), h.2.1, h.2.2.1, h.2.2.2⟩
theorem SB.alloc {w0 W : World} {yb : Nat} {V : Option Addr} {n c : Nat} {fz : Bool} {b o : Nat} {r : PRow} (h : SB w0 yb V n c fz b o r W) (hy : yb < w0.heap.size) (hb : b < w0.heap.size) (O : Obj) : SB w0 yb V n c fz b o r (W.alloc O) := h.below hy hb ((Below.refl _ _).alloc (Nat.le_refl _) _)
theorem SB.set {w0 W : World} {yb : Nat} {V : Option Addr} {n c : Nat} {fz : Bool} {b o : Nat} {r : PRow} (h : SB w0 yb V n c fz b o r W) (hy : yb < w0.heap.size) (hb : b < w0.heap.size) (j : Nat) (u : Value) : SB w0 yb V n c fz b o r (W.setCell ⟨w0.heap.size, j, none⟩ u) := by
  refine ⟨h.1.setCell (p := ⟨w0.heap.size, j, none⟩) (Nat.le_refl _) _, ?_, ?_, h.2.2.2.same fun o => World.cell?_setCell_far _ _ _ _ (by simp; omega)⟩
  · rw [World.cell?_setCell_far _ _ _ _ (by simp; omega)]; exact h.2.1
  · rw [World.cell?_setCell_far _ _ _ _ (by simp; omega)]; exact h.2.2.1
theorem new_two {w2 w3 : World} {x y : Value} {t : TypeId} (hb : Below (w2.alloc (.cells #[x, y] t)).drew.heap.size (w2.alloc (.cells #[x, y] t)).drew w3) : w3.cell? ⟨w2.heap.size, 0, none⟩ = some x ∧ w3.cell? ⟨w2.heap.size, 1, none⟩ = some y ∧ w3.frozen? ⟨w2.heap.size, 0, none⟩ = false ∧ w3.frozen? ⟨w2.heap.size, 1, none⟩ = false := by
  have hl : w2.heap.size < (w2.alloc (.cells #[x, y] t)).drew.heap.size := by show w2.heap.size < (w2.alloc (.cells #[x, y] t)).heap.size; rw [al_size]; omega
  refine ⟨(hb.cell (p := ⟨w2.heap.size, 0, none⟩) hl).trans ?_, (hb.cell (p := ⟨w2.heap.size, 1, none⟩) hl).trans ?_, (hb.frozen (p := ⟨w2.heap.size, 0, none⟩) hl).trans ?_, (hb.frozen (p := ⟨w2.heap.size, 1, none⟩) hl).trans ?_⟩ <;> simp
theorem al_le (w : World) (o : Obj) : w.heap.size ≤ (w.alloc o).heap.size := by rw [al_size]; omega
/-- What stands behind both Adds. -/
def Added (w2 : World) (N : List ByteArray) (p : XProv) (ys : List PRow) (V : Option Addr) (fz : Bool) (V3 : Option Addr) (c3 : Nat) (t3 : List PRow) (tb : Nat) (w' : World) : Prop :=
  ProvsAt w' V3 (ys ++ t3) ∧ t3.map (·.p) = addL fz N p ∧ (∀ q ∈ t3, Fresh w2.heap.size w'.heap.size q.A) ∧ (ys ++ t3).length ≤ c3 ∧ Below w2.heap.size w2 w' ∧ ((t3 = [] ∧ V3 = V) ∨ Fresh w2.heap.size w'.heap.size V3) ∧ w'.cell? ⟨tb, 0, none⟩ = some (.slice V3 (ys.length + t3.length) c3) ∧ w'.cell? ⟨tb, 1, none⟩ = some (.bool fz) ∧ tb < w'.heap.size ∧ w2.heap.size ≤ tb
theorem added_a {w2 W w3 : World} {N : List ByteArray} {p : XProv} {ys t3 : List PRow} {V V3 : Option Addr} {fz : Bool} {c3 : Nat} (hW : Below w2.heap.size w2 W) (h1 : ProvsAt w3 V3 (ys ++ t3)) (h2 : t3.map (·.p) = addL fz N p) (h3 : ∀ q ∈ t3, Fresh W.heap.size w3.heap.size q.A) (h4 : (ys ++ t3).length ≤ c3) (h5 : Below W.heap.size W w3) (h6 : (t3 = [] ∧ V3 = V) ∨ Fresh W.heap.size w3.heap.size V3) (t : TypeId) :
    Added w2 N p ys V fz V3 c3 t3 w3.heap.size (w3.alloc (.cells #[.slice V3 (ys.length + t3.length) c3, .bool fz] t)) := by
  have hs := hW.size
  have hs5 := h5.size
  exact ⟨h1.below ((Below.refl _ _).alloc (Nat.le_refl _) _), h2, fun q hq => (h3 q hq).more hs (by rw [al_size]; omega), h4, (hW.trans (h5.mono hs)).alloc (by omega) _, h6.imp id fun h => h.more hs (by rw [al_size]; omega), by rw [cell_new]; rfl, by rw [cell_new]; rfl, by rw [al_size]; omega, by omega⟩
theorem added_b {w2 W w3 : World} {N : List ByteArray} {p : XProv} {ys t3 : List PRow} {V V3 : Option Addr} {fz : Bool} {c3 : Nat} (hW : Below w2.heap.size w2 W) (hz : w2.heap.size < W.heap.size) (hy : ProvsAt w2 V ys) (h1 : ProvsAt w3 V3 (ys ++ t3)) (h2 : t3.map (·.p) = addL fz N p) (h3 : ∀ q ∈ t3, Fresh W.heap.size w3.heap.size q.A) (h4 : (ys ++ t3).length ≤ c3) (h5 : Below W.heap.size W w3) (h6 : (t3 = [] ∧ V3 = V) ∨ Fresh W.heap.size w3.heap.size V3) {x y : Value} (e0 : w3.cell? ⟨w2.heap.size, 0, none⟩ = some x) (e1 : w3.cell? ⟨w2.heap.size, 1, none⟩ = some y) :
    Added w2 N p ys V fz V3 c3 t3 w2.heap.size ((w3.setCell ⟨w2.heap.size, 0, none⟩ (.slice V3 (ys.length + t3.length) c3)).setCell ⟨w2.heap.size, 1, none⟩ (.bool fz)) := by
  have hs := hW.size
  have hs5 := h5.size
  obtain ⟨c0, c1⟩ := two_set (x := .slice V3 (ys.length + t3.length) c3) (y := .bool fz) e0 e1
  have hk : ∀ i, i < w3.heap.size → ¬ (i = w2.heap.size) → ((w3.setCell ⟨w2.heap.size, 0, none⟩ (.slice V3 (ys.length + t3.length) c3)).setCell ⟨w2.heap.size, 1, none⟩ (.bool fz)).heap[i]? = w3.heap[i]? := fun i _ hi => (Below.heap_setCell _ ⟨w2.heap.size, 1, none⟩ _ i hi).trans (Below.heap_setCell _ ⟨w2.heap.size, 0, none⟩ _ i hi)
  have hz2 : ((w3.setCell ⟨w2.heap.size, 0, none⟩ (.slice V3 (ys.length + t3.length) c3)).setCell ⟨w2.heap.size, 1, none⟩ (.bool fz)).heap.size = w3.heap.size := by simp [World.setCell]
  refine ⟨provs_away (U := fun i => i = w2.heap.size) h1 (Nat.le_of_eq hz2.symm) hk ?_ (fun q hq => ?_), h2, fun q hq => (h3 q hq).more hs (by omega), h4, ((hW.trans (h5.mono hs)).setCell (p := ⟨w2.heap.size, 0, none⟩) (Nat.le_refl _) _).setCell (p := ⟨w2.heap.size, 1, none⟩) (Nat.le_refl _) _, h6.imp id fun h => h.more hs (by omega), c0, c1, by omega, Nat.le_refl _⟩
  · rcases h6 with ⟨rfl, rfl⟩ | h6
    · rw [List.append_nil]
      rcases hy.lies with h | ⟨b, off, e, hl, _⟩
      · exact .inl h
      · exact .inr fun g o e2 hu => by rw [e] at e2; cases e2; omega
    · exact .inr fun g o e hu => by have := (h6 g o e).1; omega
  · rw [List.mem_append] at hq
    rcases hq with hq | hq
    · exact away_new (hy.each q hq) (Nat.le_refl _) fun g hg => by omega
    · exact away_fresh (h3 q hq) fun g hg => .inl (by omega)
/-- What the comparison of one's own with what came in keeps. -/
def SN (w0 : World) (ob : Nat) (r1 : PRow) (b o : Nat) (r : PRow) (w' : World) : Prop := Below w0.heap.size w0 w' ∧ Nine w' ob r1 ∧ ProvOn w' b o r
theorem SN.below {w0 W W' : World} {ob : Nat} {r1 : PRow} {b o : Nat} {r : PRow} (h : SN w0 ob r1 b o r W) (ho : ob < w0.heap.size) (hb : b < w0.heap.size) (hW : Below W.heap.size W W') : SN w0 ob r1 b o r W' := by
  have hs := h.1.size
  exact ⟨h.1.trans (hW.mono hs), h.2.1.same fun o => hW.cell (p := ⟨ob, o, none⟩) (Nat.lt_of_lt_of_le ho hs), h.2.2.same fun o => hW.cell (p := ⟨b, o, none⟩) (Nat.lt_of_lt_of_le hb hs)⟩
theorem SN.drew {w0 W : World} {ob : Nat} {r1 : PRow} {b o : Nat} {r : PRow} (h : SN w0 ob r1 b o r W) : SN w0 ob r1 b o r W.drew := ⟨h.1.trans ((Below.refl _ _).drew.mono h.1.size), h.2.1, h.2.2⟩
theorem duo_start {w0 w1 : World} {rb mb : Nat} (hr : RegAt w1 w0.heap.size rb mb (.slice none 0 0) []) (hb : Below w0.heap.size w0 w1) (t : TypeId) : Duo w0 (w1.alloc (.cells #[.slice none 0 0, .bool false] t)) w0.heap.size rb mb (.slice none 0 0) [] false none 0 [] w1.heap.size (.slice none 0 0) (.bool false) := by
  refine ⟨hr.below ((Below.refl _ _).alloc (Nat.le_refl _) _), ⟨.inl rfl, fun r hr => (by simp at hr)⟩, .inl rfl, fun q hq => (by simp at hq), fun q hq => (by simp at hq), fun hT => ?_, Nat.le_refl _, rfl, fun q hq => (by simp at hq), hb.alloc hb.size _, Nat.le_refl _, hb.size, by rw [al_size]; omega, by rw [cell_new]; rfl, by rw [cell_new]; rfl, fun o ho => by simp, ⟨fun g hg hu => by have := hr.ge hg; omega, fun hu => by have := hb.size; omega, .inl rfl, fun q hq => (by simp at hq), fun q hq => (by simp at hq)⟩⟩
  have := hr.lt hT
  omega
theorem addL_ok (fz : Bool) (gs : List PRow) (p : XProv) : ∀ q ∈ addL fz (namesL gs) p, provF q = 0 := by
  intro q hq
  unfold addL at hq
  split at hq
  · next h =>
    rw [List.mem_singleton] at hq
    subst hq
    rcases radd_split fz gs q with ⟨_, h0, _⟩ | ⟨h1, _⟩
    · exact h0
    · exact absurd h h1
  · simp at hq
/-- A registry and the document's, apart. -/
structure Pair (w : World) (base rb mb : Nat) (v : Value) (gs : List PRow) (fz : Bool) (V : Option Addr) (c : Nat) (ys : List PRow) : Prop where
  reg : RegF w base rb mb v gs fz
  row : ProvsAt w V ys
  vaw : ys = [] ∨ ∀ g o, V = some ⟨g, o, none⟩ → ¬ RegT rb mb v g
  eaw : ∀ q ∈ ys, Away (RegT rb mb v) q
  cap : ys.length ≤ c
  eqs : ys.map (·.p) = gs.map (·.p)
  ok : ∀ q ∈ ys, provF q.p = 0
theorem Duo.part {w0 w w' : World} {base rb mb yb c xb : Nat} {v : Value} {gs ys : List PRow} {fz : Bool} {V : Option Addr} {u0 u1 : Value} (h : Duo w0 w base rb mb v gs fz V c ys yb u0 u1) (hx : xb < w0.heap.size) (hk : ∀ i, i < w.heap.size → ¬ (i = xb) → w'.heap[i]? = w.heap[i]?) (hs : w'.heap.size = w.heap.size) : Pair w' base rb mb v gs fz V c ys := by
  have ho : ∀ q : PRow, Away (fun g => g < w0.heap.size) q → Away (fun i => i = xb) q := fun q hq => hq.imp id fun hq g o e hu => hq g o e (by show g < _; omega)
  have hr : ∀ g, RegT rb mb v g → ¬ g = xb := fun g hg e => by have h1 := h.reg.ge hg; have h2 := h.lo; omega
  refine ⟨h.reg.same (U := fun i => i = xb) (Nat.le_of_eq hs.symm) hk (hr _ (.inl rfl)) (hr _ (.inr (.inl rfl))) (fun g e => hr _ (.inr (.inr e))) (fun q hq => ho q (h.old.2.2.2.1 q hq)), provs_away (U := fun i => i = xb) h.row (Nat.le_of_eq hs.symm) hk (h.old.2.2.1.imp id fun hv g o e hu => hv g o e (by show g < _; omega)) (fun q hq => ho q (h.old.2.2.2.2 q hq)), h.vaw.imp id fun hv g o e => (hv g o e).1, fun q hq => (h.eaw q hq).1, h.cap, h.eqs, h.ok⟩
/-- What play leaves. -/
def PlayPost (w : World) (e : Ending) (w' : World) : Prop :=
  ∃ base rb mb v gs fz V c ys, e = .returned (.tuple #[.pointer (some ⟨rb, 0, none⟩), .agg #[.slice V (List.length ys) c, .bool fz], .bool true]) ∧ Pair w' base rb mb v gs fz V c ys ∧ w.heap.size ≤ base ∧ Below w.heap.size w w'
set_option maxHeartbeats 8000000 in
set_option maxRecDepth 100000 in
theorem play_c (xs : List ARow) (X : Option Addr) (cx : Nat) (s : ByteArray) (num : Int) (w : World) (hx : ActsAt w X xs) (hl : xs.length * 112 ≤ 140737488355328) (hs : s.size ≤ 140737488355328) (hkeys : KeysIn w) :
    Calls Tryd.prog 15 #[.slice X xs.length cx, .string s, .int .i64 num] w (PlayPost w) := by
  obtain ⟨w0, hw0⟩ : ∃ w0 : World, w0 = w.alloc (.cells #[.slice none 0 0, .bool false] 48) := ⟨_, rfl⟩
  have hb0 : Below w.heap.size w w0 := by rw [hw0]; exact (Below.refl _ _).alloc (Nat.le_refl _) _
  have hz0 : w0.heap.size = w.heap.size + 1 := by rw [hw0, al_size]
  have hn := new_c w0
  have HW0 := Lib.hid hw0
  have HB0 := Lib.hid hb0
  have HZ0 := Lib.hid hz0
  have HN := Lib.hid hn
  have HX := Lib.hid hx
  have HK := Lib.hid hkeys
  clear hw0 hb0 hz0 hn hx hkeys
  go_enter Tryd.func15, Tryd.ntmps15
  go_wp2_with (rw [← HW0.out]; go_at_call 7; refine HN.out.mono ?_; rintro e w1 ⟨rb0, mb0, rfl, hr1, hb1⟩; have HR1 := Lib.hid hr1; have HB1 := Lib.hid hb1; clear hr1 hb1)
  have HD0 := Lib.hid (duo_start HR1.out HB1.out 48)
  have HBB := Lib.hid (HB0.out.trans (HD0.out.bel.mono (by have := HZ0.out; omega)))
  obtain ⟨yb, hyb⟩ : ∃ yb : Nat, yb = w1.heap.size := ⟨_, rfl⟩
  rw [← hyb] at HD0 ⊢
  go_loopw [9, 11] (fun x i wr => ∃ (k base rb mb c : Nat) (v : Value) (gs ys : List PRow) (fz : Bool) (V : Option Addr), k ≤ xs.length ∧ i = .int .i64 k ∧ x = .pointer (some ⟨rb, 0, none⟩) ∧ Hid (Duo w0 wr base rb mb v gs fz V c ys yb (.slice V ys.length c) (.bool fz)) ∧ Hid (Below w.heap.size w wr)) (fun _ i _ => xs.length - (intOf i).toNat)
  case atStart => exact ⟨0, _, _, _, 0, _, [], [], false, none, by omega, rfl, rfl, HD0, HBB⟩
  case round =>
    obtain ⟨k, base, rb, mb, c, v, gs, ys, fz, V, hk, rfl, rfl, HD, HB⟩ := hrel
    clear HD0 HBB HR1 HB1 hyb HN
    by_cases hlt : k < xs.length
    · have hxr := HX.out.below HB.out
      rcases HX.out.lies with h | ⟨b, off, rfl, hb, hc⟩
      · rw [h] at hlt; simp at hlt
      obtain ⟨b0, n0⟩ := hc k hlt
      have a0 := (HB.out.cell (p := ⟨b, off + k * 10, none⟩) hb).trans b0
      obtain ⟨g0, g1, g2, g3, g4, g5, g6, g7, g8⟩ := n0.same fun o => HB.out.cell (p := ⟨b, o, none⟩) hb
      have hpk := hxr.each xs[k] (List.getElem_mem hlt)
      have hpw := HX.out.each xs[k] (List.getElem_mem hlt)
      have hi0 : (0 : Int) ≤ (k : Int) := Int.natCast_nonneg _
      have hi1 : (k : Int) < (xs.length : Int) := by omega
      have HN0 := Lib.hid n0
      clear b0 n0
      generalize xs[k] = xk at *
      obtain ⟨kd, ⟨⟨nm, es, ag, p1, p2, p3, p4, ck, ct⟩, A, ca⟩⟩ := xk
      simp only at a0 g0 g1 g2 g3 g4 g5 g6 g7 g8 HN0
      have hal : ∀ o W, Below w.heap.size w W → Below w.heap.size w (W.alloc o) := fun o W h => h.alloc h.size o
      have HPK := Lib.hid hpk
      have HPW := Lib.hid hpw
      have HYC := Lib.hid HD.out.y0
      clear hpk hpw hc hxr
      go_wp2_with (go_at_call 25; refine (among_c kd _).mono ?_; rintro e w' ⟨⟨j, hj0, hj6, rfl⟩, rfl⟩)
      · go_wp2_with (first | (go_at_call 9; refine (copyProv_own ⟨nm, es, ag, p1, p2, p3, p4, ck, ct⟩ A ca _ HPK.out.ops HPK.out.len).mono ?_; rintro e w1 ⟨A1, c1, rfl, hown1, hb1⟩; simp only [XProv.val] at hown1 ⊢; have HO1 := Lib.hid hown1; have HB1 := Lib.hid hb1; have HAL := Lib.hid (fun o => hb1.alloc hb1.size o); clear hown1 hb1) | (go_at_call 8; refine (add_c _ base rb mb v gs fz ⟨nm, es, ag, p1, p2, p3, p4, ck, ct⟩ A1 c1 (HD.out.reg.below (HAL.out _)) ⟨(own_at HO1.out).below ((Below.refl _ _).alloc (Nat.le_refl _) _), HPK.out.len, HPK.out.name, HPK.out.ct, HPK.out.text⟩ (HK.out.below (HB.out.trans ((HAL.out _).mono HB.out.size)))).mono ?_; rintro e w2 ⟨v2, t, rfl, hr2, ht, hf, hfr, hb2, hs2, hat⟩; have HR2 := Lib.hid hr2; have HT := Lib.hid ht; have HF2 := Lib.hid hf; have HFR := Lib.hid hfr; have HB2 := Lib.hid hb2; have HS2 := Lib.hid hs2; have HAT := Lib.hid hat; clear hr2 ht hf hfr hb2 hs2 hat))
        have hw2 : Below w.heap.size w w2 := (HB.out.trans ((HAL.out _).mono HB.out.size)).trans (HB2.out.mono (Nat.le_trans HB0.out.size HD.out.lo))
        have hsA : (w1.alloc (.cells (PRow.cells ⟨⟨nm, es, ag, p1, p2, p3, p4, ck, ct⟩, A1, c1⟩).toArray 36)).heap.size = w1.heap.size + 1 := al_size _ _
        have hsr : wr.heap.size ≤ w1.heap.size := HB1.out.size
        have hblk : ∀ i, i < wr.heap.size → ¬ RegT rb mb v i → w2.heap[i]? = wr.heap[i]? := fun i hi hn => (HFR.out i (by rw [al_size]; omega) hn).trans ((HAL.out _).block i hi)
        have hyb := hblk yb HD.out.ylt HD.out.yaw
        have hs2 : wr.heap.size ≤ w2.heap.size := by have h1 := HS2.out; rw [al_size] at h1; omega
        have hy2 : ProvsAt w2 V ys := provs_away (U := RegT rb mb v) HD.out.row hs2 hblk (HD.out.vaw.imp id fun hv g o e => (hv g o e).1) (fun q hq => (HD.out.eaw q hq).1)
        have hp2 : ProvAt w2 A ⟨nm, es, ag, p1, p2, p3, p4, ck, ct⟩ := HPW.out.below hw2
        have hlen := HD.out.reg.len
        have hleq : ys.length = gs.length := by have := congrArg List.length HD.out.eqs; simpa using this
        have hra := fun W (hb : Below w2.heap.size w2 W) => radd_c ys V c fz ⟨nm, es, ag, p1, p2, p3, p4, ck, ct⟩ A ca W (hy2.below hb) (by omega) HD.out.cap (hp2.below hb)
        rw [names_map HD.out.eqs] at hra
        unfold RAddPost at hra
        simp only [XProv.val] at hra
        have hlt2 : ∀ g, RegT rb mb v g → g < wr.heap.size := fun g hg => HD.out.reg.lt hg
        have hb13 : w2.heap[w1.heap.size]? = (w1.alloc (.cells (PRow.cells ⟨⟨nm, es, ag, p1, p2, p3, p4, ck, ct⟩, A1, c1⟩).toArray 36)).heap[w1.heap.size]? := HFR.out _ (by rw [al_size]; omega) (fun hT => by have := hlt2 _ hT; omega)
        have hn13 : Nine w2 w1.heap.size ⟨⟨nm, es, ag, p1, p2, p3, p4, ck, ct⟩, A1, c1⟩ := Nine.same (w := w1.alloc (.cells (PRow.cells ⟨⟨nm, es, ag, p1, p2, p3, p4, ck, ct⟩, A1, c1⟩).toArray 36)) (by refine ⟨?_, ?_, ?_, ?_, ?_, ?_, ?_, ?_, ?_⟩ <;> (rw [cell_new]; rfl)) fun o => World.cell?_of_block (a := ⟨w1.heap.size, o, none⟩) hb13
        have h13 : w1.heap.size < w2.heap.size := by have h1 := HS2.out; rw [al_size] at h1; omega
        have hps1 : ProvAt w1 A1 ⟨nm, es, ag, p1, p2, p3, p4, ck, ct⟩ := ⟨own_at HO1.out, HPK.out.len, HPK.out.name, HPK.out.ct, HPK.out.text⟩
        have hps2 : ProvAt w2 A1 ⟨nm, es, ag, p1, p2, p3, p4, ck, ct⟩ := ops_away (r := ⟨⟨nm, es, ag, p1, p2, p3, p4, ck, ct⟩, A1, c1⟩) (U := RegT rb mb v) (hps1.below ((Below.refl _ _).alloc (Nat.le_refl _) _)) HS2.out HFR.out (.inr fun g o e hT => by have h1 := (own_fresh HO1.out g o e).1; have h2 := hlt2 g hT; omega)
        have h0 : SB w2 yb V ys.length c fz b (off + k * 10 + 1) ⟨⟨nm, es, ag, p1, p2, p3, p4, ck, ct⟩, A, ca⟩ w2 := ⟨Below.refl _ _, (World.cell?_of_block (a := ⟨yb, 0, none⟩) hyb).trans HD.out.y0, (World.cell?_of_block (a := ⟨yb, 1, none⟩) hyb).trans HD.out.y1, HN0.out.same fun o => hw2.cell (p := ⟨b, o, none⟩) hb⟩
        have hyb2 : yb < w2.heap.size := by have := HD.out.ylt; omega
        have hbb2 : b < w2.heap.size := Nat.lt_of_lt_of_le hb hw2.size
        have HW2 := Lib.hid hw2
        have HRA := Lib.hid hra
        have HY2 := Lib.hid hy2
        have HN13 := Lib.hid hn13
        have HP2 := Lib.hid hps2
        have HPA := Lib.hid hp2
        have H0 := Lib.hid h0
        generalize (raddAns fz (namesL gs) ⟨nm, es, ag, p1, p2, p3, p4, ck, ct⟩).1 = ra at *
        generalize (raddAns fz (namesL gs) ⟨nm, es, ag, p1, p2, p3, p4, ck, ct⟩).2 = rn at *
        clear hw2 hblk hyb hy2 hp2 hra hb13 hn13 hps1 hps2 h0 hlen hleq hsA a0 g0 g1 g2 g3 g4 g5 g6 g7 g8
        go_cut [16, 17, 18] (fun s16 s17 s18 w' => ∃ (tb c3 : Nat) (V3 : Option Addr) (t3 : List PRow), s16 = .pointer (some ⟨tb, 0, none⟩) ∧ s17 = .int .i64 ra ∧ s18 = .int .i64 rn ∧ Hid (Added w2 (namesL gs) ⟨nm, es, ag, p1, p2, p3, p4, ck, ct⟩ ys V fz V3 c3 t3 tb w'))
        case first =>
          go_region_held3 (fun w' => Below w2.heap.size w2 w' ∧ w'.cell? ⟨yb, 0, none⟩ = some (.slice V ys.length c) ∧ w'.cell? ⟨yb, 1, none⟩ = some (.bool fz) ∧ w'.cell? ⟨b, off + k * 10 + 1, none⟩ = some (.string nm) ∧ w'.cell? ⟨b, off + k * 10 + 1 + 1, none⟩ = some (.slice A es.length ca) ∧ w'.cell? ⟨b, off + k * 10 + 1 + 2, none⟩ = some (.bool ag) ∧ w'.cell? ⟨b, off + k * 10 + 1 + 3, none⟩ = some (.int .i64 p1) ∧ w'.cell? ⟨b, off + k * 10 + 1 + 4, none⟩ = some (.int .i64 p2) ∧ w'.cell? ⟨b, off + k * 10 + 1 + 5, none⟩ = some (.int .i64 p3) ∧ w'.cell? ⟨b, off + k * 10 + 1 + 6, none⟩ = some (.int .i64 p4) ∧ w'.cell? ⟨b, off + k * 10 + 1 + 7, none⟩ = some (.int .i64 ck) ∧ w'.cell? ⟨b, off + k * 10 + 1 + 8, none⟩ = some (.string ct))
            (first | (show SB w2 yb V ys.length c fz b (off + k * 10 + 1) ⟨⟨nm, es, ag, p1, p2, p3, p4, ck, ct⟩, A, ca⟩ _; repeat (first | with_reducible exact H0.out | with_reducible exact HS3.out | with_reducible refine SB.drew ?_ | with_reducible refine SB.alloc ?_ hyb2 hbb2 _ | with_reducible refine SB.set ?_ hyb2 hbb2 _ _)))
            ((first | (go_at_call 26; have qq : SB w2 yb V ys.length c fz b (off + k * 10 + 1) ⟨⟨nm, es, ag, p1, p2, p3, p4, ck, ct⟩, A, ca⟩ _ := ‹Below _ _ _ ∧ _ ∧ _›; refine (HRA.out _ qq.1).mono ?_; rintro e w3 ⟨V3, c3, t3, rfl, hps3, ht3, hf3, hcap3, hb3, hV3⟩; have HS3 := Lib.hid (qq.below hyb2 hbb2 hb3); have HQ := Lib.hid qq.1; have HPS3 := Lib.hid hps3; have HT3 := Lib.hid ht3; have HF3 := Lib.hid hf3; have HC3 := Lib.hid hcap3; have HB3 := Lib.hid hb3; have HV3 := Lib.hid hV3; (first | (with_reducible have zz := new_two hb3; obtain ⟨e0, e1, z0, z1⟩ := zz) | skip); clear qq hps3 ht3 hf3 hcap3 hb3 hV3)))
          · go_wp2_with fail
            go_meet
            exact ⟨_, c3, V3, t3, rfl, rfl, rfl, added_a HQ.out HPS3.out HT3.out HF3.out HC3.out HB3.out HV3.out _⟩
          · go_wp2_with fail
            go_meet
            exact ⟨_, c3, V3, t3, rfl, rfl, rfl, added_b HQ.out (by simp) HY2.out HPS3.out HT3.out HF3.out HC3.out HB3.out HV3.out e0 e1⟩
        case rest =>
          obtain ⟨tb, c3, V3, t3, rfl, rfl, rfl, HAD⟩ := hcut
          obtain ⟨hD3, hoff⟩ := HD.out.add (HAL.out _) HR2.out HT.out HF2.out HFR.out HB2.out HS2.out HAT.out HAD.out.1 HAD.out.2.1 HAD.out.2.2.1 HAD.out.2.2.2.1 HAD.out.2.2.2.2.1 HAD.out.2.2.2.2.2.1 (addL_ok fz gs ⟨nm, es, ag, p1, p2, p3, p4, ck, ct⟩)
          obtain ⟨_, _, _, _, hb2c, _, t0, t1, htl, htg⟩ := HAD.out
          have hl3 : ys.length + t3.length = (ys ++ t3).length := by rw [List.length_append]
          rw [hl3] at t0
          generalize ys ++ t3 = ys3 at *
          generalize gs ++ t = gs3 at *
          have hT0 := Lib.hid t0
          have hT1 := Lib.hid t1
          have hown2 : w2.ownsRow wr.heap.size 58 4 (.slice A1 es.length c1) es.length (opCells es) := own_same (HO1.out.alloc (.cells (PRow.cells ⟨⟨nm, es, ag, p1, p2, p3, p4, ck, ct⟩, A1, c1⟩).toArray 36)) (fun g hg => HFR.out g (by rw [al_size]; have := (HO1.out.lt g hg).2; omega) (fun hT => by have h1 := (HO1.out.lt g hg).1; have h2 := hlt2 g hT; omega))
          have HOWN := Lib.hid (own_below hown2 hb2c)
          have hwc : Below w.heap.size w wc := HW2.out.trans (hb2c.mono HW2.out.size)
          have hac : OpsAt wc A1 es := HP2.out.ops.below hb2c
          have hbc : OpsAt wc A es := HPA.out.ops.below hb2c
          have h0c : SN wc w1.heap.size ⟨⟨nm, es, ag, p1, p2, p3, p4, ck, ct⟩, A1, c1⟩ b (off + k * 10 + 1) ⟨⟨nm, es, ag, p1, p2, p3, p4, ck, ct⟩, A, ca⟩ wc := ⟨Below.refl _ _, HN13.out.same fun o => hb2c.cell (p := ⟨w1.heap.size, o, none⟩) h13, HN0.out.same fun o => hwc.cell (p := ⟨b, o, none⟩) hb⟩
          have h13c : w1.heap.size < wc.heap.size := Nat.lt_of_lt_of_le h13 hb2c.size
          have hbbc : b < wc.heap.size := Nat.lt_of_lt_of_le hbb2 hb2c.size
          have hpl := HPK.out.len
          have HDC := Lib.hid hD3
          have HOFF := Lib.hid hoff
          have HWC := Lib.hid hwc
          have HAC := Lib.hid hac
          have HBC := Lib.hid hbc
          have H0C := Lib.hid h0c
          have HFO := Lib.hid (own_fresh HO1.out)
          clear hD3 hoff hwc hac hbc h0c hl3 t0 t1 hown2 HRA H0 HN13 HY2
          go_wp2_with fail
          go_region_held3 (fun w' => Below wc.heap.size wc w' ∧ (w'.cell? ⟨w1.heap.size, 0, none⟩ = some (.string nm) ∧ w'.cell? ⟨w1.heap.size, 1, none⟩ = some (.slice A1 es.length c1) ∧ w'.cell? ⟨w1.heap.size, 2, none⟩ = some (.bool ag) ∧ w'.cell? ⟨w1.heap.size, 3, none⟩ = some (.int .i64 p1) ∧ w'.cell? ⟨w1.heap.size, 4, none⟩ = some (.int .i64 p2) ∧ w'.cell? ⟨w1.heap.size, 5, none⟩ = some (.int .i64 p3) ∧ w'.cell? ⟨w1.heap.size, 6, none⟩ = some (.int .i64 p4) ∧ w'.cell? ⟨w1.heap.size, 7, none⟩ = some (.int .i64 ck) ∧ w'.cell? ⟨w1.heap.size, 8, none⟩ = some (.string ct)) ∧ w'.cell? ⟨b, off + k * 10 + 1, none⟩ = some (.string nm) ∧ w'.cell? ⟨b, off + k * 10 + 1 + 1, none⟩ = some (.slice A es.length ca) ∧ w'.cell? ⟨b, off + k * 10 + 1 + 2, none⟩ = some (.bool ag) ∧ w'.cell? ⟨b, off + k * 10 + 1 + 3, none⟩ = some (.int .i64 p1) ∧ w'.cell? ⟨b, off + k * 10 + 1 + 4, none⟩ = some (.int .i64 p2) ∧ w'.cell? ⟨b, off + k * 10 + 1 + 5, none⟩ = some (.int .i64 p3) ∧ w'.cell? ⟨b, off + k * 10 + 1 + 6, none⟩ = some (.int .i64 p4) ∧ w'.cell? ⟨b, off + k * 10 + 1 + 7, none⟩ = some (.int .i64 ck) ∧ w'.cell? ⟨b, off + k * 10 + 1 + 8, none⟩ = some (.string ct))
            (first | (show SN wc w1.heap.size ⟨⟨nm, es, ag, p1, p2, p3, p4, ck, ct⟩, A1, c1⟩ b (off + k * 10 + 1) ⟨⟨nm, es, ag, p1, p2, p3, p4, ck, ct⟩, A, ca⟩ _; first | with_reducible exact H0C.out | with_reducible exact SN.drew H0C.out | exact SN.drew H0C.out | with_reducible exact HS4.out | fail))
            ((first | (go_at_call 14; have qq : SN wc w1.heap.size ⟨⟨nm, es, ag, p1, p2, p3, p4, ck, ct⟩, A1, c1⟩ b (off + k * 10 + 1) ⟨⟨nm, es, ag, p1, p2, p3, p4, ck, ct⟩, A, ca⟩ _ := ‹Below _ _ _ ∧ _ ∧ _›; refine (sameProv_c ⟨nm, es, ag, p1, p2, p3, p4, ck, ct⟩ A1 A c1 ca _ (HAC.out.below qq.1) (HBC.out.below qq.1) hpl).mono ?_; rintro e w4 ⟨rfl, hb4⟩; have HS4 := Lib.hid (qq.below h13c hbbc hb4); clear qq)))
          have hb4 := HS4.out.1
          have k1 := HS4.out.2.1.2.1
          have hD4 := HDC.out.below hb4
          have hW4 := HWC.out.trans (hb4.mono HWC.out.size)
          have hsp := spoil_c w4 wr.heap.size A1 es.length c1 (opCells es) (own_below HOWN.out hb4)
          have hz4 : wc.heap.size ≤ w4.heap.size := hb4.size
          have htb0 := (hb4.cell (p := ⟨tb, 0, none⟩) htl).trans hT0.out
          have htb1 := (hb4.cell (p := ⟨tb, 1, none⟩) htl).trans hT1.out
          have HTB0 := Lib.hid htb0
          have HTB1 := Lib.hid htb1
          have HD4 := Lib.hid hD4
          have HW4 := Lib.hid hW4
          have HSP := Lib.hid hsp
          clear hb4 hD4 hW4 hsp htb0 htb1
          go_wp2_with (first | (go_at_call 27; refine HSP.out.mono ?_; rintro e w5 ⟨rfl, hb5, hz5, hk5⟩; have hD5 := HD4.out.off (w' := w5) (HOFF.out (fun i => ∃ o, A1 = some ⟨i, o, none⟩) (fun g hg => hg.elim fun o e => ⟨(HFO.out g o e).1, Nat.lt_of_lt_of_le (HFO.out g o e).2 (al_le _ _)⟩)) (HD4.out.bel.trans (hb5.mono HD.out.bel.size)) (Nat.le_of_eq hz5.symm) (fun i hi hn => hk5 i hi (fun o e => hn ⟨o, e⟩)); have hne : ∀ o, A1 ≠ some ⟨tb, o, none⟩ := (fun o e => Nat.lt_irrefl _ (Nat.lt_of_lt_of_le (HFO.out tb o e).2 (Nat.le_trans (Nat.le_of_lt h13) htg))); have hbt := hk5 tb (Nat.lt_of_lt_of_le htl hz4) hne; have q0 := (World.cell?_of_block (a := ⟨tb, 0, none⟩) hbt).trans HTB0.out; have q1 := (World.cell?_of_block (a := ⟨tb, 1, none⟩) hbt).trans HTB1.out; have y0 := hD5.y0; have y1 := hD5.y1; have z0 := hD5.yz 0 (by omega); have z1 := hD5.yz 1 (by omega); have HF := Lib.hid (hD5.sety (.slice V3 ys3.length c3) (.bool fz)); have y0F := HF.out.y0; have y1F := HF.out.y1; have HBF := Lib.hid (((HW4.out.trans (hb5.mono HB.out.size)).setCell (p := ⟨yb, 0, none⟩) (Nat.le_trans HB0.out.size HD.out.ylo) (.slice V3 ys3.length c3)).setCell (p := ⟨yb, 1, none⟩) (Nat.le_trans HB0.out.size HD.out.ylo) (.bool fz)); clear hb5 hz5 hk5 hD5 hne hbt) | (go_at_call 30; refine (told_c _ _ _ _ _ _ _ _ _ fz s num HF.out.reg HF.out.row HF.out.cap HF.out.eqs HF.out.ok hs (HK.out.below HBF.out)).mono ?_; rintro e w9 ⟨rfl, hb9⟩; have HF9 := Lib.hid (HF.out.below hb9); have HB9 := Lib.hid (HBF.out.trans (hb9.mono HBF.out.size)); clear hb9))
          go_roundw
          case rel => exact ⟨k + 1, _, rb, _, c3, _, gs3, ys3, fz, V3, by omega, by go_num, rfl, HF9, HB9⟩
          case measure => simp [intOf]; omega
      · go_wp2_with (first | (go_at_call 28; refine (freeze_c _ _ rb _ _ _ HD.out.reg).mono ?_; rintro e w5 ⟨rfl, rfl⟩; have HF := Lib.hid HD.out.freeze; have HBF := Lib.hid ((HB.out.setCell (p := ⟨rb, 2, none⟩) (Nat.le_trans (Nat.le_trans HB0.out.size HD.out.lo) HD.out.reg.lo.1) (.bool true)).setCell (p := ⟨yb, 1, none⟩) (Nat.le_trans HB0.out.size HD.out.ylo) (.bool true)); have y1' : (wr.setCell ⟨rb, 2, none⟩ (.bool true)).cell? ⟨yb, 1, none⟩ = some (.bool fz) := (by rw [World.cell?_setCell_far _ _ _ _ (by simp; exact fun e => HD.out.yaw (.inl e.symm))]; exact HD.out.y1); have z1' : (wr.setCell ⟨rb, 2, none⟩ (.bool true)).frozen? ⟨yb, 1, none⟩ = false := (by rw [World.frozen?_setCell]; exact HD.out.yz 1 (by omega)); have y0F := HF.out.y0; have y1F := HF.out.y1) | (go_at_call 30; refine (told_c _ _ _ _ _ _ _ _ _ true s num HF.out.reg HF.out.row HF.out.cap HF.out.eqs HF.out.ok hs (HK.out.below HBF.out)).mono ?_; rintro e w9 ⟨rfl, hb9⟩; have HF9 := Lib.hid (HF.out.below hb9); have HB9 := Lib.hid (HBF.out.trans (hb9.mono HBF.out.size)); clear hb9))
        go_roundw
        case rel => exact ⟨k + 1, _, rb, _, c, _, gs, ys, true, V, by omega, by go_num, rfl, HF9, HB9⟩
        case measure => simp [intOf]; omega
      · go_wp2_with (first | (go_at_call 29; refine (clone_c _ _ rb _ _ gs fz HD.out.reg).mono ?_; rintro e w5 ⟨rb2, mb2, v2, hs5, rfl, hr5, he5, hf5, hb5⟩; have HD5 := Lib.hid (HD.out.clone hr5 he5 hf5 hb5 (.bool true)); have HR5 := Lib.hid (HD.out.reg.below hb5); have HB5 := Lib.hid (HB.out.trans (hb5.mono HB.out.size)); clear hr5 he5 hf5 hb5) | (go_at_call 28; refine (freeze_c _ _ rb _ _ _ HR5.out).mono ?_; rintro e w6 ⟨rfl, rfl⟩; have HF := HD5; have HBF := Lib.hid (HB5.out.setCell (p := ⟨rb, 2, none⟩) (Nat.le_trans (Nat.le_trans HB0.out.size HD.out.lo) HD.out.reg.lo.1) (.bool true)); have y0F := HF.out.y0; have y1F := HF.out.y1) | (go_at_call 30; refine (told_c _ _ _ _ _ _ _ _ _ fz s num HF.out.reg HF.out.row HF.out.cap HF.out.eqs HF.out.ok hs (HK.out.below HBF.out)).mono ?_; rintro e w9 ⟨rfl, hb9⟩; have HF9 := Lib.hid (HF.out.below hb9); have HB9 := Lib.hid (HBF.out.trans (hb9.mono HBF.out.size)); clear hb9))
        go_roundw
        case rel => exact ⟨k + 1, _, rb2, _, c, _, hs5, ys, fz, V, by omega, by go_num, rfl, HF9, HB9⟩
        case measure => simp [intOf]; omega
    · have y0F := HD.out.y0
      have y1F := HD.out.y1
      go_wp2_with fail
      have hse : SE yb V ys.length c fz wr := ⟨y0F, y1F⟩
      have HSE := Lib.hid hse
      have hxy : w.heap.size ≠ yb := by have h1 := HD.out.ylo; have h2 := HZ0.out; omega
      have h0z : w.heap.size < w0.heap.size := by have h2 := HZ0.out; omega
      have hc0 : w0.cell? ⟨w.heap.size, 0, none⟩ = some (.slice none 0 0) := by rw [HW0.out, cell_new]; rfl
      have hc1 : w0.cell? ⟨w.heap.size, 1, none⟩ = some (.bool false) := by rw [HW0.out, cell_new]; rfl
      have hf0 : ∀ o, w0.frozen? ⟨w.heap.size, o, none⟩ = false := by intro o; rw [HW0.out]; simp
      have HC0 := Lib.hid hc0
      have HC1 := Lib.hid hc1
      have HF0 := Lib.hid hf0
      clear hse y0F y1F hc0 hc1 hf0
      go_region_held3 (fun w' => w'.cell? ⟨yb, 0, none⟩ = some (.slice V ys.length c) ∧ w'.cell? ⟨yb, 1, none⟩ = some (.bool fz))
        (first | (show SE yb V ys.length c fz _; repeat (first | with_reducible exact HSE.out | exact HSE.out | with_reducible exact HS9.out | with_reducible refine SE.set ?_ hxy _ _)))
        ((first | (go_at_call 30; refine (told_c _ _ _ _ _ _ _ _ _ fz s num (HD.out.below (Below.refl _ _).drew).reg (HD.out.below (Below.refl _ _).drew).row HD.out.cap HD.out.eqs HD.out.ok hs (HK.out.below (HB.out.trans ((Below.refl _ _).drew.mono HB.out.size)))).mono ?_; rintro e w9 ⟨rfl, hb9⟩; have HF9 := Lib.hid (HD.out.below ((Below.refl _ _).drew.trans hb9)); have HB9 := Lib.hid (HB.out.trans (((Below.refl _ _).drew.trans hb9).mono HB.out.size)); have HS9 := Lib.hid (show SE yb V ys.length c fz w9 from ⟨HF9.out.y0, HF9.out.y1⟩); have e0 := (HF9.out.bel.cell (p := ⟨w.heap.size, 0, none⟩) h0z).trans HC0.out; have e1 := (HF9.out.bel.cell (p := ⟨w.heap.size, 1, none⟩) h0z).trans HC1.out; have z0 := (HF9.out.bel.frozen (p := ⟨w.heap.size, 0, none⟩) h0z).trans (HF0.out 0); have z1 := (HF9.out.bel.frozen (p := ⟨w.heap.size, 1, none⟩) h0z).trans (HF0.out 1); clear hb9)))
      have hk2 : ∀ i, i < w9.heap.size → ¬ (i = w.heap.size) → ((w9.setCell ⟨w.heap.size, 0, none⟩ (.slice V ys.length c)).setCell ⟨w.heap.size, 1, none⟩ (.bool fz)).heap[i]? = w9.heap[i]? := fun i _ hi => (Below.heap_setCell _ ⟨w.heap.size, 1, none⟩ _ i hi).trans (Below.heap_setCell _ ⟨w.heap.size, 0, none⟩ _ i hi)
      have hs2 : ((w9.setCell ⟨w.heap.size, 0, none⟩ (.slice V ys.length c)).setCell ⟨w.heap.size, 1, none⟩ (.bool fz)).heap.size = w9.heap.size := by simp [World.setCell]
      have hb2 : Below w.heap.size w ((w9.setCell ⟨w.heap.size, 0, none⟩ (.slice V ys.length c)).setCell ⟨w.heap.size, 1, none⟩ (.bool fz)) := (HB9.out.setCell (p := ⟨w.heap.size, 0, none⟩) (Nat.le_refl _) _).setCell (p := ⟨w.heap.size, 1, none⟩) (Nat.le_refl _) _
      obtain ⟨c0, c1⟩ := two_set (x := .slice V ys.length c) (y := .bool fz) e0 e1
      have HFX := Lib.hid (HF9.out.part h0z hk2 hs2)
      have HB2 := Lib.hid hb2
      have HC2 := c0
      have HC3 := c1
      clear c0 c1 e0 e1 z0 z1 hk2 hs2 hb2
      generalize (w9.setCell ⟨w.heap.size, 0, none⟩ (.slice V ys.length c)).setCell ⟨w.heap.size, 1, none⟩ (.bool fz) = wf at *
      go_wp2
      refine bodyPost_ret (v := .tuple #[.pointer (some ⟨rb, 0, none⟩), .agg #[.slice V ys.length c, .bool fz], .bool true]) (by simp [results, Tryd.results15, go_sem, HC2, HC3]; try rfl) rfl ?_
      exact ⟨base, rb, mb, v, gs, fz, V, c, ys, rfl, HFX.out, Nat.le_trans HB0.out.size HF9.out.lo, HB2.out⟩
end Go.Proofs.YtofmdmmgbfbaoaaDoor
