/- Next, Reach: the program's. -/
import Derived.Test.YtpdfcffeinbcaaaH5
namespace Go.Proofs.Ytpdfcffeinbcaaa
open Go.RowKit
/-- What Reach's function keeps: a row of one's own, in a variable. -/
def OutK (ob : Nat) (l : List Int) (O : List Nat) (w : World) : Prop := ∃ v, w.cell? ⟨ob, 0, none⟩ = some v ∧ w.frozen? ⟨ob, 0, none⟩ = false ∧ w.ownsRow (ob + 1) 3 1 v l.length (I l) ∧ O = ob :: v.ownBlock.toList
theorem stays_grown {O : List Nat} {w w' : World} (h : Stays O w w') (k : Nat) (hk : k ∈ O) (hl : k < w.heap.size) : w'.heap[k]? = w.heap[k]? := h.2.2.2.2 k hk hl
theorem own_block {w w' : World} {B n : Nat} {e : TypeId} {v : Value} {xs : List Value} (h : w.ownsRow B e 1 v n xs) (hb : ∀ g, v.ownBlock = some g → w'.heap[g]? = w.heap[g]?) : w'.ownsRow B e 1 v n xs := by
  rcases h with ⟨hl, h0 | ⟨g, cap, cur, rfl, hB, hh, h1⟩⟩
  · exact ⟨hl, .inl h0⟩
  · exact ⟨hl, .inr ⟨g, cap, cur, rfl, hB, (hb g rfl).trans hh, h1⟩⟩
set_option maxRecDepth 100000 in
theorem see_c {ob n : Nat} (hn : n ≤ 4096) : Sees 51 (.pointer (some ⟨ob, 0, none⟩)) n (OutK ob) := by
  refine ⟨fun x y w => by kernel_rfl, ?_, ?_, ?_⟩
  · rintro l O w ⟨v, hc, _, ho, rfl⟩ o hoo
    rcases List.mem_cons.1 hoo with rfl | h
    · exact World.block_lt_of_cell? w _ hc
    · exact (ho.lt o (by simpa using h)).2
  · rintro l O w w' ⟨v, hc, hz, ho, rfl⟩ hs
    have hl : ob < w.heap.size := World.block_lt_of_cell? w _ hc
    have hb := hs.2.2.2.2 ob (by simp) hl
    refine ⟨v, (World.cell?_of_block (a := ⟨ob, 0, none⟩) hb).trans hc, ?_, own_block ho (fun g e => hs.2.2.2.2 g (by simp [e]) (ho.lt g e).2), rfl⟩
    unfold World.frozen? at hz ⊢
    rw [hb]; exact hz
  · rintro l O x w ⟨v, hc, hz, ho, rfl⟩ hl hx
    have hobl : ob < w.heap.size := World.block_lt_of_cell? w _ hc
    have hil : (I l).length = l.length := List.length_map _
    have ho2 : w.ownsRow (ob + 1) 3 1 v (I l).length (I l) := by rw [hil]; exact ho
    have HO := Lib.hid ho2
    have HIL := Lib.hid hil
    have hne : v.ownBlock ≠ some ob := fun e => by have := (ho.lt ob e).1; omega
    have HNE := Lib.hid hne
    clear ho ho2 hil hne
    go_enter Try.func51, Try.ntmps51
    go_wp2_with (at_builtin; refine app_new (ob + 1) (by rfl) _ _ 25 3 (.int .i64 0) 8 (by rfl) Try.underlying25 info_int rfl _ (I l) (.int .i64 (x : Int)) (by rfl) _ (by rfl) rfl rfl HO.out (by omega) (by have := HIL.out; omega) (by have := HIL.out; omega) ?_; intro v5 w5 ho5 hg5 hb5 hs5; have hbl := hg5.block ob hobl (fun e => HNE.out e.symm); have hc5 : w5.cell? ⟨ob, 0, none⟩ = some v := (World.cell?_of_block (a := ⟨ob, 0, none⟩) hbl).trans hc; have hz5 : w5.frozen? ⟨ob, 0, none⟩ = false := (frozen_block (a := ⟨ob, 0, none⟩) hbl).trans hz; obtain ⟨g5, cap5, hv5, _, _⟩ := ho5.form (Nat.succ_pos _); subst hv5)
    go_end0
    refine ⟨rfl, _, ⟨_, set_here _ _ _ _ _ hc5, by rw [World.frozen?_setCell]; exact hz5, ?_, rfl⟩, ?_, ?_⟩
    · have e : I (l ++ [(x : Int)]) = I l ++ [.int .i64 (x : Int)] := List.map_append
      rw [e, List.length_append]
      rw [HIL.out] at ho5
      have := own_low ho5 ⟨ob, 0, none⟩ (.slice (some ⟨g5, 0, none⟩) (l.length + 1) cap5) (by show ob < ob + 1; omega)
      exact this
    · exact (Moves.of_grown (M := ob :: v.ownBlock.toList) hg5 (by intro k e; simp [e])).trans (Moves.set _ _ _ (by simp))
    · intro o ho
      rcases List.mem_cons.1 ho with rfl | ho
      · exact .inl (by simp)
      · have he : o = g5 := by simpa [Value.ownBlock] using ho
        rcases hb5 with h | h
        · have h' : v.ownBlock = some g5 := h.symm
          exact .inl (by rw [h', he]; simp)
        · have h' : some g5 = some (w.heap.size + 1) := h
          cases h'
          right; omega
/-- A row of numbers, and a code. -/
def RowErr (xs : List Int) (k : Int) (w : World) (e : Ending) (w' : World) : Prop := ∃ X d, e = .returned (.tuple #[.slice X xs.length d, .int .i64 k]) ∧ RowAt w' X (I xs) ∧ Below w.heap.size w w'
theorem rowErr_no {k : Int} {w w' : World} (hb : Below w.heap.size w w') : RowErr [] k w (.returned (.tuple #[.slice none 0 0, .int .i64 k])) w' := ⟨none, 0, rfl, .inl rfl, hb⟩
def nextE (g : XG) (x : Int) : Int := if chkF g = 0 then if nodeB g.n x = true then 0 else 1 else chkF g
def nextL (g : XG) (x : Int) : List Int := if nextE g x = 0 then nxt g x else []
/-- A boxed graph. -/
structure BoxAt (w0 w : World) (b : Nat) (g : XG) (E : Option Addr) (d : Nat) : Prop where
  c0 : w.cell? ⟨b, 0, none⟩ = some (.int .i64 g.n)
  c1 : w.cell? ⟨b, 1, none⟩ = some (.slice E g.es.length d)
  bel : Below b w0 w
  lt : b < w.heap.size
theorem box_at {w : World} {t : TypeId} (g : XG) (E : Option Addr) (d : Nat) : BoxAt w (w.alloc (.cells #[.int .i64 g.n, .slice E g.es.length d] t)) w.heap.size g E d :=
  ⟨by rw [cell_new]; rfl, by rw [cell_new]; rfl, (Below.refl _ _).alloc (Nat.le_refl _) _, by rw [al_size]; omega⟩
theorem BoxAt.below {w0 w w' : World} {b : Nat} {g : XG} {E : Option Addr} {d : Nat} (h : BoxAt w0 w b g E d) (hb : Below w.heap.size w w') : BoxAt w0 w' b g E d :=
  ⟨(hb.cell (p := ⟨b, 0, none⟩) h.lt).trans h.c0, (hb.cell (p := ⟨b, 1, none⟩) h.lt).trans h.c1, h.bel.trans (hb.mono (Nat.le_of_lt h.lt)), Nat.lt_of_lt_of_le h.lt hb.size⟩
theorem BoxAt.grown {w0 w w' : World} {b : Nat} {g : XG} {E : Option Addr} {d : Nat} {r : Option Nat} (h : BoxAt w0 w b g E d) (hg : w.grownBy w' r) (hr : ∀ k, r = some k → b < k) : BoxAt w0 w' b g E d := by
  have hb := hg.block b h.lt (fun e => by have := hr b e.symm; omega)
  exact ⟨(World.cell?_of_block (a := ⟨b, 0, none⟩) hb).trans h.c0, (World.cell?_of_block (a := ⟨b, 1, none⟩) hb).trans h.c1, h.bel.grown hg (Nat.le_of_lt h.lt) (fun k e => Nat.le_of_lt (hr k e)), Nat.lt_of_lt_of_le h.lt hg.size⟩
set_option maxHeartbeats 1000000 in
theorem gnext_c (g : XG) (E : Option Addr) (d : Nat) (x : Int) (w : World) (h : GAt w E g) (hl : g.es.length ≤ 4611686018427387904) :
    Calls Try.prog 16 #[g.val E d, .int .i64 x] w (RowErr (nextL g x) (nextE g x) w) := by
  have hck := fun W h => check_c g E d W h hl
  have hnd := fun b W h => node_c (g := g) (x := x) (b := b) E d W h
  have hnx := fun W h1 h2 => next_c g E d W h1 h2
  have hbx := box_at (w := w) (t := 24) g E d
  have hv : g.val E d = .agg #[.int .i64 g.n, .slice E g.es.length d] := rfl
  rw [hv] at hck hnd hnx ⊢
  have HCK := Lib.hid hck
  have HND := Lib.hid hnd
  have HNX := Lib.hid hnx
  have HG := Lib.hid h
  obtain ⟨kk, hkk⟩ : ∃ kk, kk = nextE g x := ⟨_, rfl⟩
  obtain ⟨ll, hll⟩ : ∃ ll, ll = nextL g x := ⟨_, rfl⟩
  rw [← hkk, ← hll]
  have HKK := Lib.hid hkk
  have HLL := Lib.hid hll
  clear hck hnd hnx hv h hkk hll
  go_enter Try.func16, Try.ntmps16
  go_wp2_with fail
  go_at_call 14
  refine (HCK.out _ (HG.out.below hbx.bel)).mono ?_
  rintro e w1 ⟨rfl, hb1⟩
  have hbx1 := hbx.below hb1
  have c0 := hbx1.c0
  have c1 := hbx1.c1
  by_cases hk : chkF g = 0
  · have hgood := chkF_good.1 hk
    have HBX1 := Lib.hid hbx1
    cases hnb : nodeB g.n x with
    | false =>
      have h1 : nextE g x = 1 := by unfold nextE; rw [if_pos hk, hnb]; rfl
      have h2 : nextL g x = [] := by unfold nextL; rw [h1]; rfl
      obtain rfl := HKK.out.trans h1
      obtain rfl := HLL.out.trans h2
      rw [hk]
      have HNB := Lib.hid hnb
      clear hnb h1 h2 hk hbx1 hbx hb1
      go_wp2_with (go_at_call 46; refine (HND.out _ _ HNB.out).mono ?_; rintro e w2 ⟨rfl, hb2⟩)
      go_ret2
      exact rowErr_no ((HBX1.out.below hb2).bel)
    | true =>
      have h1 : nextE g x = 0 := by unfold nextE; rw [if_pos hk, hnb]; rfl
      have h2 : nextL g x = nxt g x := by unfold nextL; rw [h1]; rfl
      obtain rfl := HKK.out.trans h1
      obtain rfl := HLL.out.trans h2
      rw [hk]
      have hxr := nodeB_iff.1 hnb
      obtain ⟨y, rfl⟩ : ∃ y : Nat, x = y := ⟨x.toNat, by omega⟩
      have HNB := Lib.hid hnb
      have HGOOD := Lib.hid hgood
      clear hnb h1 h2 hk hbx1 hbx hb1 hgood
      go_wp2_with fail
      go_at_call 46
      refine (HND.out _ _ HNB.out).mono ?_
      rintro e w2 ⟨rfl, hb2⟩
      have hbx2 := HBX1.out.below hb2
      have d0 := hbx2.c0
      have d1 := hbx2.c1
      have HBX2 := Lib.hid hbx2
      clear hb2 hbx2 c0 c1
      go_wp2_with fail
      go_at_call 48
      refine (HNX.out _ (HG.out.below HBX2.out.bel) HGOOD.out).mono ?_
      rintro e w3 ⟨v, rfl, hn3, hb3⟩
      obtain ⟨b, dd, rfl, _, hbw, hrows⟩ := hn3
      obtain ⟨Y, dY, hcY, hrY, _⟩ := hrows y (by omega)
      have HRY := Lib.hid hrY
      have HB3 := Lib.hid ((HBX2.out.below hb3).bel)
      have hg0 : 0 ≤ g.n := by omega
      have hyl : (y : Int) < (g.n.toNat : Int) := by omega
      have hy0 : (0 : Int) ≤ (y : Int) := by omega
      obtain ⟨n, hn⟩ : ∃ n : Nat, g.n = n := ⟨g.n.toNat, by omega⟩
      clear hrows hrY hb3 d0 d1
      go_wp2
      go_ret2
      exact ⟨Y, dY, rfl, HRY.out, HB3.out⟩
  · have h1 : nextE g x = chkF g := by unfold nextE; rw [if_neg hk]
    have h2 : nextL g x = [] := by unfold nextL; rw [if_neg (by rw [h1]; exact hk)]
    have h3 := HKK.out.trans h1
    obtain rfl := HLL.out.trans h2
    rw [← h3] at hk ⊢
    have hkb : (kk != 0) = true := by simpa using hk
    have HB1 := Lib.hid hbx1.bel
    clear h1 h2 h3 hbx1 hb1 hbx
    go_wp2
    go_ret2
    exact rowErr_no HB1.out
end Go.Proofs.Ytpdfcffeinbcaaa
