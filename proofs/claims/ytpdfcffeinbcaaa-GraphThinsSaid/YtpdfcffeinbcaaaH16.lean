/- Turn: the program's; and what spoils a graph. -/
import Derived.Test.YtpdfcffeinbcaaaH15
namespace Go.Proofs.Ytpdfcffeinbcaaa
open Go.RowKit
def turnG (g : XG) : XG := if chkF g = 0 then ⟨g.n, g.es.map swp⟩ else ⟨0, []⟩
/-- A boxed graph, and a graph's room behind it. -/
structure RB (w W : World) (g : XG) (E : Option Addr) (d : Nat) : Prop where
  c0 : W.cell? ⟨w.heap.size, 0, none⟩ = some (.int .i64 g.n)
  c1 : W.cell? ⟨w.heap.size, 1, none⟩ = some (.slice E g.es.length d)
  r0 : W.cell? ⟨w.heap.size + 1, 0, none⟩ = some (.int .i64 0)
  r1 : W.cell? ⟨w.heap.size + 1, 1, none⟩ = some (.slice none 0 0)
  rz : ∀ o, W.frozen? ⟨w.heap.size + 1, o, none⟩ = false
  bel : Below w.heap.size w W
  lt : w.heap.size + 1 < W.heap.size
theorem RB.below {w W W' : World} {g : XG} {E : Option Addr} {d : Nat} (h : RB w W g E d) (hb : Below W.heap.size W W') : RB w W' g E d :=
  have hl := h.lt
  ⟨(hb.cell (p := ⟨w.heap.size, 0, none⟩) (by show w.heap.size < _; omega)).trans h.c0, (hb.cell (p := ⟨w.heap.size, 1, none⟩) (by show w.heap.size < _; omega)).trans h.c1, (hb.cell (p := ⟨w.heap.size + 1, 0, none⟩) h.lt).trans h.r0, (hb.cell (p := ⟨w.heap.size + 1, 1, none⟩) h.lt).trans h.r1,
    fun o => (frozen_block (a := ⟨w.heap.size + 1, o, none⟩) (hb.block (w.heap.size + 1) h.lt)).trans (h.rz o), h.bel.trans (hb.mono h.bel.size), Nat.lt_of_lt_of_le h.lt hb.size⟩
theorem rb_start (w : World) (g : XG) (E : Option Addr) (d : Nat) {t t' : TypeId} : RB w ((w.alloc (.cells #[.int .i64 g.n, .slice E g.es.length d] t)).alloc (.cells #[.int .i64 0, .slice none 0 0] t')) g E d := by
  obtain ⟨w1, hw1⟩ : ∃ w1, w1 = w.alloc (.cells #[.int .i64 g.n, .slice E g.es.length d] t) := ⟨_, rfl⟩
  have z1 : w1.heap.size = w.heap.size + 1 := by rw [hw1, al_size]
  have c0 : w1.cell? ⟨w.heap.size, 0, none⟩ = some (.int .i64 g.n) := by rw [hw1, cell_new]; rfl
  have c1 : w1.cell? ⟨w.heap.size, 1, none⟩ = some (.slice E g.es.length d) := by rw [hw1, cell_new]; rfl
  have b1 : Below w.heap.size w w1 := by rw [hw1]; exact (Below.refl _ _).alloc (Nat.le_refl _) _
  rw [← hw1]
  refine ⟨?_, ?_, by rw [← z1, cell_new]; rfl, by rw [← z1, cell_new]; rfl, fun o => by rw [← z1]; exact frozen_new _ _ _ _, b1.alloc (by omega) _, by rw [al_size]; omega⟩
  · exact (World.cell?_alloc_lt _ _ _ (by show w.heap.size < _; omega)).trans c0
  · exact (World.cell?_alloc_lt _ _ _ (by show w.heap.size < _; omega)).trans c1
theorem RB.wrote {w W : World} {g : XG} {E : Option Addr} {d : Nat} (h : RB w W g E d) (x y : Value) : Below w.heap.size w ((W.setCell ⟨w.heap.size + 1, 0, none⟩ x).setCell ⟨w.heap.size + 1, 1, none⟩ y) :=
  (h.bel.setCell (by show w.heap.size ≤ w.heap.size + 1; omega) _).setCell (by show w.heap.size ≤ w.heap.size + 1; omega) _
theorem RB.reads {w W : World} {g : XG} {E : Option Addr} {d : Nat} (h : RB w W g E d) (x y : Value) : ((W.setCell ⟨w.heap.size + 1, 0, none⟩ x).setCell ⟨w.heap.size + 1, 1, none⟩ y).cell? ⟨w.heap.size + 1, 0, none⟩ = some x ∧ ((W.setCell ⟨w.heap.size + 1, 0, none⟩ x).setCell ⟨w.heap.size + 1, 1, none⟩ y).cell? ⟨w.heap.size + 1, 1, none⟩ = some y := two_at h.r0 h.r1
/-- A graph that one may write: edges of one's own, as far as they have room. -/
def Spoil (w : World) (B : Nat) (E : Option Addr) (d : Nat) : Prop := (E = none ∧ d = 0) ∨ ∃ b, E = some ⟨b, 0, none⟩ ∧ B ≤ b ∧ d ≤ 16384 ∧ ∃ ls, EAtF w b d ls
def TurnPost (g : XG) (w : World) (e : Ending) (w' : World) : Prop := ∃ E d, e = .returned (.tuple #[(turnG g).val E d, .int .i64 (chkF g)]) ∧ GAt w' E (turnG g) ∧ Below w.heap.size w w'
set_option maxHeartbeats 1000000 in
theorem gturn_c (g : XG) (E : Option Addr) (d : Nat) (w : World) (h : GAt w E g) (hl : g.es.length ≤ 4611686018427387904) :
    Calls Try.prog 21 #[g.val E d] w fun e w' => ∃ F c, e = .returned (.tuple #[(turnG g).val F c, .int .i64 (chkF g)]) ∧ GAt w' F (turnG g) ∧ Below w.heap.size w w' ∧ Spoil w' w.heap.size F c := by
  have hck := fun W h => check_c g E d W h hl
  have htd := fun W h h2 => turned_c g E d W h h2
  have hrb := rb_start w g E d (t := 24) (t' := 24)
  have hv : g.val E d = .agg #[.int .i64 g.n, .slice E g.es.length d] := rfl
  rw [hv] at hck htd ⊢
  have HCK := Lib.hid hck
  have HTD := Lib.hid htd
  have HG := Lib.hid h
  obtain ⟨kk, hkk⟩ : ∃ kk, kk = chkF g := ⟨_, rfl⟩
  rw [← hkk]
  have HKK := Lib.hid hkk
  clear hck htd hv h hkk
  go_enter Try.func21, Try.ntmps21
  go_wp2_with fail
  go_at_call 14
  refine (HCK.out _ (HG.out.below hrb.bel)).mono ?_
  rintro e w1 ⟨rfl, hb1⟩
  have hrb1 := hrb.below hb1
  rw [← HKK.out]
  have c0 := hrb1.c0
  have c1 := hrb1.c1
  have r0 := hrb1.r0
  have r1 := hrb1.r1
  have rz := hrb1.rz 0
  have rz1 := hrb1.rz 1
  have HRB := Lib.hid hrb1
  clear hrb hrb1 hb1
  by_cases hk : kk = 0
  · subst hk
    have hg := chkF_good.1 HKK.out.symm
    have HGD := Lib.hid hg
    clear hg
    go_wp2_with fail
    go_at_call 55
    refine (HTD.out _ (HG.out.below HRB.out.bel) HGD.out.len).mono ?_
    rintro e w2 ⟨b, rfl, hbl, he, hb2⟩
    have hrb2 := HRB.out.below hb2
    have d0 := hrb2.r0
    have d1 := hrb2.r1
    have dz := hrb2.rz 0
    have dz1 := hrb2.rz 1
    have HRB2 := Lib.hid hrb2
    have HE := Lib.hid he
    have HBL := Lib.hid hbl
    clear he hrb2 hb2 c0 c1 r0 r1 rz rz1 hbl
    go_wp2
    obtain ⟨f0, f1⟩ := HRB2.out.reads (.int .i64 g.n) (.slice (some ⟨b, 0, none⟩) g.es.length g.es.length)
    refine bodyPost_ret (v := .tuple #[.agg #[.int .i64 g.n, .slice (some ⟨b, 0, none⟩) g.es.length g.es.length], .int .i64 0]) (by simp [results, Try.results21, go_sem, f0, f1]; try rfl) rfl ?_
    have hbw : w.heap.size + 1 < b := Nat.lt_of_lt_of_le HRB.out.lt HBL.out
    have hE := ((HE.out.far (c := w.heap.size + 1) (o := 0) (by omega) (.int .i64 g.n)).far (c := w.heap.size + 1) (o := 1) (by omega) (.slice (some ⟨b, 0, none⟩) g.es.length g.es.length))
    have ht : turnG g = ⟨g.n, g.es.map swp⟩ := by unfold turnG; rw [if_pos HKK.out.symm]
    rw [ht]
    refine ⟨some ⟨b, 0, none⟩, g.es.length, ?_, hE.gat (by simp) (fun k hk => ?_), HRB2.out.wrote _ _, .inr ⟨b, rfl, by omega, HGD.out.len, _, hE⟩⟩
    · unfold XG.val; rw [List.length_map]
    · rw [List.length_map] at hk
      rw [List.getElem_map, List.getElem?_eq_getElem hk]; rfl
  · have hkb : (kk != 0) = true := by simpa using hk
    go_wp2
    obtain ⟨f0, f1⟩ := HRB.out.reads (.int .i64 0) (.slice none 0 0)
    refine bodyPost_ret (v := .tuple #[.agg #[.int .i64 0, .slice none 0 0], .int .i64 kk]) (by simp [results, Try.results21, go_sem, f0, f1]; try rfl) rfl ?_
    have ht : turnG g = ⟨0, []⟩ := by unfold turnG; rw [if_neg (by rw [← HKK.out]; exact hk)]
    rw [ht]
    exact ⟨none, 0, rfl, .inl rfl, HRB.out.wrote _ _, .inl ⟨rfl, rfl⟩⟩
end Go.Proofs.Ytpdfcffeinbcaaa
