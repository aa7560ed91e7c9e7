/- Components: the document's. -/
import Derived.Test.YtpdfcffeinbcaaaM1
import Derived.Test.YtpdfcffeinbcaaaH26
import Derived.Test.YtpdfcffeinbcaaaH17
namespace Go.Proofs.Ytpdfcffeinbcaaa
open Go.RowKit
/-- The components so far. -/
structure CSt (w1 wr : World) (db n : Nat) (f : Nat → Bool) (v : Value) (rows : List Value) (cs : List (List Int)) : Prop where
  bel : Below w1.heap.size w1 wr
  dlo : w1.heap.size ≤ db
  done : FlagAt wr db n f
  outer : wr.ownsRow w1.heap.size 25 1 v rows.length rows
  odb : v.ownBlock ≠ some db
  len : rows.length = cs.length
  row : ∀ k (h : k < rows.length) (h2 : k < cs.length), wr.ownsRow w1.heap.size 3 1 rows[k] cs[k].length (I cs[k]) ∧ rows[k].ownBlock ≠ some db ∧ ∀ g, rows[k].ownBlock = some g → v.ownBlock ≠ some g
section
variable {w1 wr w' : World} {db n : Nat} {f f' : Nat → Bool} {v v' vi : Value} {rows : List Value} {cs : List (List Int)} {l : List Int}
theorem CSt.moves (h : CSt w1 wr db n f v rows cs) (hm : Moves [db] wr w') (hf : FlagAt w' db n f') : CSt w1 w' db n f' v rows cs :=
  ⟨h.bel.trans (hm.below h.bel.size (by intro k hk; simp at hk; subst hk; exact h.dlo)), h.dlo, hf, own_mv h.outer hm (fun g e => by simp; rintro rfl; exact h.odb e), h.odb, h.len, fun k h1 h2 =>
    ⟨own_mv (h.row k h1 h2).1 hm (fun g e => by simp; rintro rfl; exact (h.row k h1 h2).2.1 e), (h.row k h1 h2).2⟩⟩
theorem CSt.app (h : CSt w1 wr db n f v rows cs) (hr : wr.ownsRow w1.heap.size 3 1 vi l.length (I l)) (h1 : vi.ownBlock ≠ some db) (h2 : ∀ g, vi.ownBlock = some g → v.ownBlock ≠ some g)
    (ho : w'.ownsRow w1.heap.size 25 1 v' (rows.length + 1) (rows ++ [vi])) (hg : wr.grownBy w' v.ownBlock) (hb : ∀ g, v'.ownBlock = some g → v.ownBlock = some g ∨ wr.heap.size ≤ g) : CSt w1 w' db n f v' (rows ++ [vi]) (cs ++ [l]) := by
  have hm := Moves.of_grown (M := v.ownBlock.toList) hg (by intro k e; simp [e])
  have hM : ∀ k ∈ v.ownBlock.toList, v.ownBlock = some k := fun k hk => by simpa using hk
  have hlt := h.done.1
  refine ⟨h.bel.trans (hm.below h.bel.size (fun k hk => (h.outer.lt k (hM k hk)).1)), h.dlo, h.done.moves hm (fun hk => h.odb (hM _ hk)), by rw [List.length_append]; exact ho, fun e => ?_, by simp [h.len], fun k h3 h4 => ?_⟩
  · rcases hb _ e with c | c
    · exact h.odb c
    · omega
  · have key : ∀ u (x : List Int), wr.ownsRow w1.heap.size 3 1 u x.length (I x) → u.ownBlock ≠ some db → (∀ g, u.ownBlock = some g → v.ownBlock ≠ some g) → w'.ownsRow w1.heap.size 3 1 u x.length (I x) ∧ u.ownBlock ≠ some db ∧ ∀ g, u.ownBlock = some g → v'.ownBlock ≠ some g := fun u x k1 k2 k3 =>
      ⟨own_mv k1 hm (fun g e hk => k3 g e (hM g hk)), k2, fun g e e2 => by
        rcases hb g e2 with c | c
        · exact k3 g e c
        · have := (k1.lt g e).2; omega⟩
    have hl := h.len
    rcases Nat.lt_or_ge k rows.length with c | c
    · have c2 : k < cs.length := by omega
      simp only [List.getElem_append_left c, List.getElem_append_left c2]
      obtain ⟨k1, k2, k3⟩ := h.row k c c2
      exact key _ _ k1 k2 k3
    · have e : k = rows.length := by simp at h3; omega
      have e2 : k = cs.length := by omega
      have g1 : (rows ++ [vi])[k] = vi := by simp [e]
      have g2 : (cs ++ [l])[k] = l := by simp [e2]
      rw [g1, g2]
      exact key _ _ hr h1 h2
theorem CSt.next (h : CSt w1 wr db n f v rows cs) {lo : Nat} (hlo : lo ≤ w1.heap.size) (hv : v ≠ .slice none 0 0) : NextAt wr lo v cs.length (fun i => cs.getD i []) := by
  have hl := h.len
  have ho := h.outer
  rcases ho with ⟨_, ⟨h0, _⟩ | ⟨g, cap, cur, rfl, hB, hh, h1⟩⟩
  · exact absurd h0 hv
  · refine ⟨g, cap, by rw [hl], by omega, (h.outer.lt g rfl).2, fun i hi => ?_⟩
    obtain ⟨k1, _, _⟩ := h.row i (by omega) hi
    obtain ⟨Y, d', hv, hr⟩ := own_row1 k1
    rw [List.length_map] at hv
    have hc := h.outer.cells (g := g) rfl i rows[i] (List.getElem?_eq_getElem (by omega))
    rw [add_zero] at hc
    have e : cs.getD i [] = cs[i] := by simp [List.getD, hi]
    show ∃ Y d', wr.cell? ⟨g, i, none⟩ = some (.slice Y (cs.getD i []).length d') ∧ RowAt wr Y (I (cs.getD i [])) ∧ ∀ b' o, Y = some ⟨b', o, none⟩ → lo ≤ b'
    rw [e]
    refine ⟨Y, d', by rw [hc, hv], hr, fun b' o e => ?_⟩
    have := (k1.lt b' (by rw [hv, e]; rfl)).1
    omega
end
/-- The flags behind the places below k of a first node's component. -/
noncomputable def fl (g : XG) (j k : Nat) (x : Nat) : Bool := doneB g j x || (decide (x < k) && sameB g j x)
theorem fl_start (g : XG) (j x : Nat) : fl g j j x = doneB g j x := by
  unfold fl
  by_cases h : x < j
  · rw [doneB_iff.2 (done_self h)]; rfl
  · simp [h]
theorem fl_end (g : XG) (j n x : Nat) (hx : x < n) : fl g j n x = doneB g (j + 1) x := by
  unfold fl
  rw [Bool.eq_iff_iff, doneB_iff, done_succ, Bool.or_eq_true, Bool.and_eq_true, doneB_iff, sameB_iff, decide_eq_true_eq]
  simp [hx]
theorem fl_yes (g : XG) (j k x : Nat) (h : sameB g j k = true) : fl g j (k + 1) x = if x = k then true else fl g j k x := by
  unfold fl
  by_cases e : x = k
  · subst e; simp [h]
  · have : (x < k + 1) ↔ (x < k) := by omega
    simp [e, this]
theorem fl_no (g : XG) (j k x : Nat) (h : sameB g j k = false) : fl g j (k + 1) x = fl g j k x := by
  unfold fl
  by_cases e : x = k
  · subst e; simp [h]
  · have : (x < k + 1) ↔ (x < k) := by omega
    simp [this]
/-- What the two ways tell of a node. -/
structure Two (g : XG) (n i : Nat) (wr w' : World) (s9 s10 : Value) (b1 b2 : Nat) (f1 f2 : Nat → Bool) : Prop where
  e1 : s9 = .slice (some ⟨b1, 0, none⟩) n n
  e2 : s10 = .slice (some ⟨b2, 0, none⟩) n n
  l1 : wr.heap.size ≤ b1
  l2 : wr.heap.size ≤ b2
  s1 : FlagAt w' b1 n f1
  s2 : FlagAt w' b2 n f2
  is : ∀ k : Nat, k ≠ i → k < n → sameB g i k = (f1 k && f2 k)
  bel : Below wr.heap.size wr w'
theorem two_of {g : XG} (hg : Good g) {i : Nat} {S1 S2 : List Int} (h1 : ∀ x, x ∈ S1 ↔ Way (tgt g.es) (-1) [(i : Int)] x) (h2 : ∀ x, x ∈ S2 ↔ Way (tgt (g.es.map swp)) (-1) [(i : Int)] x) (k : Nat) (hk : k ≠ i) :
    sameB g i k = (decide ((k : Int) ∈ S1) && decide ((k : Int) ∈ S2)) := by
  have hi : (0 : Int) ≤ (i : Int) := by omega
  have h2' := way_tg (good_turn hg) (a := (i : Int)) (x := (k : Int)) hi
  rw [Bool.eq_iff_iff, sameB_iff, Bool.and_eq_true, decide_eq_true_eq, decide_eq_true_eq, h1, h2, way_tg hg hi]
  have h3 : Way (tgt (g.es.map swp)) (-1) [(i : Int)] (k : Int) ↔ TG g k i := h2'.trans tg_turn
  rw [h3]
  unfold Same
  constructor
  · rintro (e | h)
    · omega
    · exact h
  · exact .inr
theorem seen_flag {w : World} {b n : Nat} {S : List Int} (h : SeenAt w b n S) : FlagAt w b n (fun i => decide ((i : Int) ∈ S)) := h
def CompsPost (g : XG) (w : World) (e : Ending) (w' : World) : Prop := ∃ v, e = .returned (.tuple #[v, .int .i64 (chkF g)]) ∧ Below w.heap.size w w' ∧ (chkF g = 0 → NextAt w' w.heap.size v (compsF g).length (fun i => (compsF g).getD i []))
set_option maxHeartbeats 4000000 in
set_option maxRecDepth 100000 in
theorem rcomps_c (g : XG) (E : Option Addr) (d : Nat) (w : World) (h : GAt w E g) (hl : g.es.length ≤ 4611686018427387904) :
    Calls Try.prog 36 #[g.val E d] w (CompsPost g w) := by
  have htn := fun W h => rTurn_c g E d W h hl
  have hbx := box_at (w := w) (t := 24) g E d
  have hv : g.val E d = .agg #[.int .i64 g.n, .slice E g.es.length d] := rfl
  rw [hv] at htn ⊢
  have HTN := Lib.hid htn
  have HG := Lib.hid h
  obtain ⟨kk, hkk⟩ : ∃ kk, kk = chkF g := ⟨_, rfl⟩
  have HKK := Lib.hid hkk
  clear htn hv h hkk
  go_enter Try.func36, Try.ntmps36
  go_wp2_with fail
  go_at_call 22
  refine (HTN.out _ (HG.out.below hbx.bel)).mono ?_
  rintro e w1 ⟨E2, d2, rfl, hg2, hb1⟩
  rw [← HKK.out]
  have hbx1 := hbx.below hb1
  have hv2 : (turnG g).val E2 d2 = .agg #[.int .i64 (turnG g).n, .slice E2 (turnG g).es.length d2] := rfl
  by_cases hk : kk = 0
  · subst hk
    have hgood := chkF_good.1 HKK.out.symm
    have htg : turnG g = ⟨g.n, g.es.map swp⟩ := by unfold turnG; rw [if_pos HKK.out.symm]
    have hv3 : (turnG g).val E2 d2 = .agg #[.int .i64 g.n, .slice E2 g.es.length d2] := by rw [htg]; unfold XG.val; rw [List.length_map]
    rw [hv3]
    rw [htg] at hg2
    obtain ⟨n, hn⟩ : ∃ n : Nat, g.n = n := ⟨g.n.toNat, by have := hgood.n0; omega⟩
    have hnn : g.n.toNat = n := by omega
    have hn4 : n ≤ 4096 := by have := hgood.n1; omega
    rw [hn]
    obtain ⟨w2, hw2⟩ : ∃ w2, w2 = w1.alloc (.cells #[.int .i64 (n : Int), .slice E2 g.es.length d2] 24) := ⟨_, rfl⟩
    obtain ⟨tb, htb⟩ : ∃ tb, tb = w1.heap.size := ⟨_, rfl⟩
    have t0 : w2.cell? ⟨tb, 0, none⟩ = some (.int .i64 (n : Int)) := by rw [hw2, htb, cell_new]; rfl
    have t1 : w2.cell? ⟨tb, 1, none⟩ = some (.slice E2 g.es.length d2) := by rw [hw2, htb, cell_new]; rfl
    have hb2 : Below w1.heap.size w1 w2 := by rw [hw2]; exact (Below.refl _ _).alloc (Nat.le_refl _) _
    have hbx2 := hbx1.below hb2
    have hg3 := hg2.below hb2
    have hz2 : w2.heap.size = tb + 1 := by rw [hw2, htb, al_size]
    have hbt : w.heap.size < tb := by rw [htb]; exact hbx1.lt
    have hmk : ∀ W : World, (Instr.makeSlice 49 (.int .i64 (n : Int)) (.int .i64 (n : Int))).run Try.prog W = .ok (.slice (some ⟨W.heap.size, 0, none⟩) n n) (W.alloc (.cells (madeCells #[.bool false] n) 4)) :=
      fun W => run_make_row' 49 4 (.bool false) 1 Try.underlying49 info_bool rfl .i64 .i64 n (by omega) (by omega) W
    obtain ⟨w3, hw3⟩ : ∃ w3, w3 = w2.alloc (.cells #[] 25) := ⟨_, rfl⟩
    have hz3 : w3.heap.size = tb + 2 := by rw [hw3, al_size, hz2]
    have hst : CSt w2 (w3.alloc (.cells (madeCells #[.bool false] n) 4)) (tb + 2) n (fun k => doneB g 0 k) (.slice (some ⟨tb + 1, 0, none⟩) 0 0) [] [] := by
      refine ⟨?_, by omega, ?_, ?_, by simp [Value.ownBlock], rfl, fun k h => by simp at h⟩
      · rw [hw3]; exact ((Below.refl _ _).alloc (Nat.le_refl _) _).alloc (by simp) _
      · rw [← hz3]
        exact (flag_made w3 n _).congr (fun i _ => by
          cases e : doneB g 0 i with
          | false => rfl
          | true => obtain ⟨m, hm, _⟩ := doneB_iff.1 e; omega)
      · have := own_void w2 25 1
        rw [← hw3, hz2] at this
        rw [hz2]
        exact this.alloc _
    have hc0 := hbx2.c0
    have hc3 : (w3.alloc (.cells (madeCells #[.bool false] n) 4)).cell? ⟨w.heap.size, 0, none⟩ = some (.int .i64 g.n) := (hst.bel.cell (p := ⟨w.heap.size, 0, none⟩) (by show w.heap.size < _; omega)).trans hc0
    have HBX := Lib.hid hbx2
    have HG1 := Lib.hid (HG.out.below hbx2.bel)
    have HG2 := Lib.hid hg3
    have HT0 := Lib.hid t0
    have HT1 := Lib.hid t1
    have HGOOD := Lib.hid hgood
    have HN := Lib.hid hn
    have HNN := Lib.hid hnn
    have hw3b : w3.cell? ⟨w.heap.size, 0, none⟩ = some (.int .i64 g.n) := by rw [hw3]; exact (World.cell?_alloc_lt _ _ _ (by show w.heap.size < _; omega)).trans hc0
    rw [hn] at hw3b hc0
    rw [hw3] at hw3b hst
    have HST := Lib.hid hst
    clear hw3 hst hbx2 hbx1 hbx hg3 hg2 t0 t1 hgood htg hv3 hv2 hb2 hb1 hnn hc3
    go_upto_region 4 with (fail)
    rw [← hw2, ← htb]
    have HZ2 := Lib.hid hz2
    clear hw2 hz2 hz3 hn htb
    go_upto_region 6 with (fail)
    rw [HZ2.out]
    obtain ⟨w4, hw4⟩ : ∃ w4, w4 = (w2.alloc (.cells #[] 25)).alloc (.cells (madeCells #[.bool false] n) 4) := ⟨_, rfl⟩
    rw [← hw4] at HST ⊢
    clear hw4 hw3b hc0
    obtain ⟨db, hdb⟩ : ∃ db, db = tb + 1 + 1 := ⟨_, rfl⟩
    rw [← hdb]
    have HST2 := Lib.hid (show CSt w2 w4 db n (fun k => doneB g 0 k) (.slice (some ⟨tb + 1, 0, none⟩) 0 0) [] [] by rw [hdb]; exact HST.out)
    have HDB := Lib.hid hdb
    clear hdb HST
    go_wp2
    go_loopw [6, 8] (fun u i wr => ∃ (v : Value) (j : Nat) (rows : List Value), v = u ∧ i = .int .i64 j ∧ j ≤ n ∧ v ≠ .slice none 0 0 ∧ CSt w2 wr db n (fun k => doneB g j k) v rows (compsTo g j)) (fun _ i _ => n - (intOf i).toNat)
    case atStart => exact ⟨_, 0, [], rfl, rfl, by omega, by simp, HST2.out⟩
    case round =>
      obtain ⟨v, j, rows, rfl, rfl, hj, hvn, hst⟩ := hrel
      have hw2z : tb < w2.heap.size := by have := HZ2.out; omega
      have c0 : wr.cell? ⟨w.heap.size, 0, none⟩ = some (.int .i64 (n : Int)) := by rw [← HN.out]; exact (hst.bel.cell (p := ⟨w.heap.size, 0, none⟩) (by show w.heap.size < _; omega)).trans HBX.out.c0
      have c1 := (hst.bel.cell (p := ⟨w.heap.size, 1, none⟩) (by show w.heap.size < _; omega)).trans HBX.out.c1
      have t0 := (hst.bel.cell (p := ⟨tb, 0, none⟩) hw2z).trans HT0.out
      have t1 := (hst.bel.cell (p := ⟨tb, 1, none⟩) hw2z).trans HT1.out
      by_cases hlt : j < n
      · have hj0 : (0 : Int) ≤ (j : Int) := by omega
        have hj1 : (j : Int) < (n : Int) := by omega
        have hcj : wr.cell? ⟨db, j, none⟩ = some (.bool (doneB g j j)) := hst.done.2.1 j hlt
        have HST := Lib.hid hst
        have HVN := Lib.hid hvn
        clear hst hvn
        cases hdn : doneB g j j with
        | true =>
          rw [hdn] at hcj
          have HD := Lib.hid hdn
          clear hdn
          go_wp2
          go_roundw
          case rel =>
            refine ⟨v, j + 1, rows, rfl, by go_num, by omega, HVN.out, ?_⟩
            rw [compsTo_succ, if_pos HD.out]
            exact HST.out.moves (Moves.refl _ _) (HST.out.done.congr (fun i _ => doneB_congr (done_skip (doneB_iff.1 HD.out) _)))
          case measure => simp [intOf]; omega
        | false =>
          rw [hdn] at hcj
          have hnd : ¬ Done g j j := fun h => by rw [doneB_iff.2 h] at hdn; cases hdn
          have HND := Lib.hid hnd
          have HD := Lib.hid hdn
          have hwz : w2.heap.size ≤ wr.heap.size := HST.out.bel.size
          have hbw : ∀ W, Below wr.heap.size wr W → Below w2.heap.size w2 W := fun W hb => HST.out.bel.trans (hb.mono hwz)
          have hc1 : ∀ W b, ((Below wr.heap.size wr W ∧ wr.heap.size ≤ W.heap.size) ∧ W.cell? ⟨w.heap.size, 0, none⟩ = some (.int .i64 (n : Int)) ∧ W.cell? ⟨w.heap.size, 1, none⟩ = some (.slice E g.es.length d) ∧ W.cell? ⟨tb, 0, none⟩ = some (.int .i64 (n : Int)) ∧ W.cell? ⟨tb, 1, none⟩ = some (.slice E2 g.es.length d2)) → RowAt W (some ⟨b, 0, none⟩) (I [(j : Int)]) →
              Calls Try.prog 53 #[.agg #[.int .i64 (n : Int), .slice E g.es.length d], .slice (some ⟨b, 0, none⟩) 1 1, .int .i64 (-1)] W fun e w' => ∃ sb S, e = .returned (.slice (some ⟨sb, 0, none⟩) n n) ∧ W.heap.size ≤ sb ∧ SeenAt w' sb n S ∧ (∀ x, x ∈ S ↔ Way (tgt g.es) (-1) [(j : Int)] x) ∧ Below W.heap.size W w' := fun W b hS hr => by
            have := ways_c g E d [(j : Int)] (some ⟨b, 0, none⟩) 1 (-1) W (HG1.out.below (hbw W hS.1.1)) HGOOD.out hr (by simp) (fun x hx => by simp at hx; subst hx; rw [HN.out]; omega)
            rw [HNN.out] at this
            unfold XG.val at this
            rw [HN.out] at this
            exact this
          have hc2 : ∀ W b, ((Below wr.heap.size wr W ∧ wr.heap.size ≤ W.heap.size) ∧ W.cell? ⟨w.heap.size, 0, none⟩ = some (.int .i64 (n : Int)) ∧ W.cell? ⟨w.heap.size, 1, none⟩ = some (.slice E g.es.length d) ∧ W.cell? ⟨tb, 0, none⟩ = some (.int .i64 (n : Int)) ∧ W.cell? ⟨tb, 1, none⟩ = some (.slice E2 g.es.length d2)) → RowAt W (some ⟨b, 0, none⟩) (I [(j : Int)]) →
              Calls Try.prog 53 #[.agg #[.int .i64 (n : Int), .slice E2 g.es.length d2], .slice (some ⟨b, 0, none⟩) 1 1, .int .i64 (-1)] W fun e w' => ∃ sb S, e = .returned (.slice (some ⟨sb, 0, none⟩) n n) ∧ W.heap.size ≤ sb ∧ SeenAt w' sb n S ∧ (∀ x, x ∈ S ↔ Way (tgt (g.es.map swp)) (-1) [(j : Int)] x) ∧ Below W.heap.size W w' := fun W b hS hr => by
            have := ways_c ⟨g.n, g.es.map swp⟩ E2 d2 [(j : Int)] (some ⟨b, 0, none⟩) 1 (-1) W (HG2.out.below (hbw W hS.1.1)) (good_turn HGOOD.out) hr (by simp) (fun x hx => by simp at hx; subst hx; show 0 ≤ (j : Int) ∧ (j : Int) < g.n; rw [HN.out]; omega)
            unfold XG.val at this
            simp only [List.length_map] at this
            rw [HNN.out, HN.out] at this
            exact this
          have HC1 := Lib.hid hc1
          have HC2 := Lib.hid hc2
          clear hc1 hc2 hbw hdn hnd
          go_upto_region 10 with (fail)
          go_cut [9, 10] (fun s9 s10 w' => ∃ b1 b2 f1 f2, Two g n j wr w' s9 s10 b1 b2 f1 f2)
          case first =>
          -- begin printed
            refine wp_region_held_drew (S := (fun w' => (Below wr.heap.size wr w' ∧ wr.heap.size ≤ w'.heap.size) ∧ w'.cell? ⟨w.heap.size, 0, none⟩ = some (.int .i64 (n : Int)) ∧ w'.cell? ⟨w.heap.size, 1, none⟩ = some (.slice E g.es.length d) ∧ w'.cell? ⟨tb, 0, none⟩ = some (.int .i64 (n : Int)) ∧ w'.cell? ⟨tb, 1, none⟩ = some (.slice E2 g.es.length d2))) (by kernel_rfl) ?xs (fun hHx => ?xr)
            case xs => exact ⟨⟨(Below.refl _ _).drew, Nat.le_refl _⟩, c0, c1, t0, t1⟩
            refine take_at (i := 0) (d := 35) (v := ?xv0) rfl (by rfl) (by kernel_rfl) (by kernel_rfl) (by kernel_rfl) (fun _ _ _ h => h) (Or.inl ⟨by rfl, ?xy0⟩) (by assumption) ?xr0
            case xy0 => intro w' hSw; obtain ⟨_, q1, q2, q3, q4⟩ := hSw; go_simp; (try with_reducible rfl)
            case' xr0 => simp only [Act.put, List.setIfInBounds_toArray, List.set_cons_zero, List.set_cons_succ]
            refine take_at (i := 1) (d := 36) (v := ?xv1) rfl (by rfl) (by kernel_rfl) (by kernel_rfl) (by kernel_rfl) (fun _ _ _ h => h) (Or.inl ⟨by rfl, ?xy1⟩) (by assumption) ?xr1
            case xy1 => intro w' hSw; obtain ⟨_, q1, q2, q3, q4⟩ := hSw; go_simp; (try with_reducible rfl)
            case' xr1 => simp only [Act.put, List.setIfInBounds_toArray, List.set_cons_zero, List.set_cons_succ]
            refine take_at (i := 4) (d := 39) (v := ?xv4) rfl (by rfl) (by kernel_rfl) (by kernel_rfl) (by kernel_rfl) (fun _ _ _ h => h) (Or.inl ⟨by rfl, ?xy4⟩) (by assumption) ?xr4
            case xy4 => intro w' hSw; obtain ⟨_, q1, q2, q3, q4⟩ := hSw; go_simp; (try with_reducible rfl)
            case' xr4 => simp only [Act.put, List.setIfInBounds_toArray, List.set_cons_zero, List.set_cons_succ]
            refine take_at (i := 5) (d := 40) (v := ?xv5) rfl (by rfl) (by kernel_rfl) (by kernel_rfl) (by kernel_rfl) (fun _ _ _ h => h) (Or.inl ⟨by rfl, ?xy5⟩) (by assumption) ?xr5
            case xy5 => intro w' hSw; obtain ⟨_, q1, q2, q3, q4⟩ := hSw; go_simp; (try with_reducible rfl)
            case' xr5 => simp only [Act.put, List.setIfInBounds_toArray, List.set_cons_zero, List.set_cons_succ]
            refine wpAnyH_ready (rs := [2, 6]) (by kernel_rfl) (by simp) ?xc
            refine AllReadyH.cons rfl (fun K hK => ?xb2) (AllReadyH.cons rfl (fun K hK => ?xb6) AllReadyH.nil)
            case xb2 =>
              go_simp
              refine hK.out _ _ ?xn2h (fun hHxn2 => ?xn2r)
              case xn2h => exact hk4 hHx ((Below.refl _ _).alloc (Nat.le_refl _) _)
              case' xn2r => (clear hK K; try simp only [Act.put, List.setIfInBounds_toArray, List.set_cons_zero, List.set_cons_succ])
              have r2 : RowAt (World.alloc wr.drew (.cells #[.int .i64 (j : Int)] 3)) (some ⟨wr.heap.size, 0, none⟩) (I [(j : Int)]) := row_lit 3 wr.drew [(j : Int)]
              refine wpAnyH_ready (rs := [3, 6]) (by kernel_rfl) (by simp) ?xn2c
              refine AllReadyH.cons rfl (fun K hK => ?xn2b3) (AllReadyH.cons rfl (fun K hK => ?xn2b6) AllReadyH.nil)
              case xn2b3 =>
                go_simp
                go_at_call 53; refine (HC1.out _ _ hHxn2 r2).mono ?_; rintro e w3 ⟨sb3, S3, rfl, hl3, hs3, hS3, hb3⟩
                have hl3' := Nat.le_trans hHxn2.1.2 hl3
                refine hK.out _ _ ?xn2n3h (fun hHxn2n3 => ?xn2n3r)
                case xn2n3h => exact hk4 hHxn2 hb3
                case' xn2n3r => (clear hK K; try simp only [Act.put, List.setIfInBounds_toArray, List.set_cons_zero, List.set_cons_succ])
                refine wpAnyH_ready (rs := [6]) (by kernel_rfl) (by simp) ?xn2n3c
                refine AllReadyH.cons rfl (fun K hK => ?xn2n3b6) AllReadyH.nil
                go_simp
                refine hK.out _ _ ?xn2n3n6h (fun hHxn2n3n6 => ?xn2n3n6r)
                case xn2n3n6h => exact hk4 hHxn2n3 ((Below.refl _ _).alloc (Nat.le_refl _) _)
                case' xn2n3n6r => (clear hK K; try simp only [Act.put, List.setIfInBounds_toArray, List.set_cons_zero, List.set_cons_succ])
                have r6 := row_lit 3 w3 [(j : Int)]
                have hA : Below w3.heap.size w3 (w3.alloc (.cells #[.int .i64 (j : Int)] 3)) := (Below.refl _ _).alloc (Nat.le_refl _) _
                refine wpAnyH_ready (rs := [7]) (by kernel_rfl) (by simp) ?xn2n3n6c
                refine AllReadyH.cons rfl (fun K hK => ?xn2n3n6b7) AllReadyH.nil
                go_simp
                go_at_call 53; refine (HC2.out _ _ hHxn2n3n6 r6).mono ?_; rintro e w7 ⟨sb7, S7, rfl, hl7, hs7, hS7, hb7⟩
                have hl7' := Nat.le_trans hHxn2n3n6.1.2 hl7
                have hbA := hA.trans (hb7.mono hA.size)
                refine hK.out _ _ ?xn2n3n6n7h (fun hHxn2n3n6n7 => ?xn2n3n6n7r)
                case xn2n3n6n7h => exact hk4 hHxn2n3n6 hb7
                case' xn2n3n6n7r => (clear hK K; try simp only [Act.put, List.setIfInBounds_toArray, List.set_cons_zero, List.set_cons_succ])
                refine take_at (i := 8) (d := 9) (v := ?xn2n3n6n7v8) rfl (by rfl) (by kernel_rfl) (by kernel_rfl) (by kernel_rfl) (fun _ _ _ h => h) (Or.inl ⟨by rfl, ?xn2n3n6n7y8⟩) (by assumption) ?xn2n3n6n7r8
                case xn2n3n6n7y8 => intro w' hSw; obtain ⟨_, q1, q2, q3, q4⟩ := hSw; go_simp; (try with_reducible rfl)
                case' xn2n3n6n7r8 => simp only [Act.put, List.setIfInBounds_toArray, List.set_cons_zero, List.set_cons_succ]
                refine take_at (i := 9) (d := 10) (v := ?xn2n3n6n7v9) rfl (by rfl) (by kernel_rfl) (by kernel_rfl) (by kernel_rfl) (fun _ _ _ h => h) (Or.inl ⟨by rfl, ?xn2n3n6n7y9⟩) (by assumption) ?xn2n3n6n7r9
                case xn2n3n6n7y9 => intro w' hSw; obtain ⟨_, q1, q2, q3, q4⟩ := hSw; go_simp; (try with_reducible rfl)
                case' xn2n3n6n7r9 => simp only [Act.put, List.setIfInBounds_toArray, List.set_cons_zero, List.set_cons_succ]
                refine wpAnyH_done (by kernel_rfl) ?xn2n3n6n7z _
                go_wp2_with fail
                go_meet
                exact ⟨_, _, _, _, rfl, rfl, by omega, by omega, (seen_flag hs3).moves (Moves.of_new [] hbA) (by simp), seen_flag hs7, fun k hk _ => two_of HGOOD.out hS3 hS7 k hk, hHxn2n3n6n7.1.1⟩
              case xn2b6 =>
                go_simp
                refine hK.out _ _ ?xn2n6h (fun hHxn2n6 => ?xn2n6r)
                case xn2n6h => exact hk4 hHxn2 ((Below.refl _ _).alloc (Nat.le_refl _) _)
                case' xn2n6r => (clear hK K; try simp only [Act.put, List.setIfInBounds_toArray, List.set_cons_zero, List.set_cons_succ])
                have r2 := r2.below ((Below.refl _ _).alloc (Nat.le_refl _) (.cells #[.int .i64 (j : Int)] 3))
                have r6 : RowAt (World.alloc (World.alloc wr.drew (.cells #[.int .i64 (j : Int)] 3)) (.cells #[.int .i64 (j : Int)] 3)) (some ⟨wr.heap.size + 1, 0, none⟩) (I [(j : Int)]) := by
                  have := row_lit 3 (World.alloc wr.drew (.cells #[.int .i64 (j : Int)] 3)) [(j : Int)]
                  rwa [al_size] at this
                refine wpAnyH_ready (rs := [3]) (by kernel_rfl) (by simp) ?xn2n6c
                refine AllReadyH.cons rfl (fun K hK => ?xn2n6b3) AllReadyH.nil
                go_simp
                go_at_call 53; refine (HC1.out _ _ hHxn2n6 r2).mono ?_; rintro e w3 ⟨sb3, S3, rfl, hl3, hs3, hS3, hb3⟩
                have hl3' := Nat.le_trans hHxn2n6.1.2 hl3
                refine hK.out _ _ ?xn2n6n3h (fun hHxn2n6n3 => ?xn2n6n3r)
                case xn2n6n3h => exact hk4 hHxn2n6 hb3
                case' xn2n6n3r => (clear hK K; try simp only [Act.put, List.setIfInBounds_toArray, List.set_cons_zero, List.set_cons_succ])
                have r6 := r6.below hb3
                refine wpAnyH_ready (rs := [7]) (by kernel_rfl) (by simp) ?xn2n6n3c
                refine AllReadyH.cons rfl (fun K hK => ?xn2n6n3b7) AllReadyH.nil
                go_simp
                go_at_call 53; refine (HC2.out _ _ hHxn2n6n3 r6).mono ?_; rintro e w7 ⟨sb7, S7, rfl, hl7, hs7, hS7, hb7⟩
                have hl7' := Nat.le_trans hHxn2n6n3.1.2 hl7
                refine hK.out _ _ ?xn2n6n3n7h (fun hHxn2n6n3n7 => ?xn2n6n3n7r)
                case xn2n6n3n7h => exact hk4 hHxn2n6n3 hb7
                case' xn2n6n3n7r => (clear hK K; try simp only [Act.put, List.setIfInBounds_toArray, List.set_cons_zero, List.set_cons_succ])
                refine take_at (i := 8) (d := 9) (v := ?xn2n6n3n7v8) rfl (by rfl) (by kernel_rfl) (by kernel_rfl) (by kernel_rfl) (fun _ _ _ h => h) (Or.inl ⟨by rfl, ?xn2n6n3n7y8⟩) (by assumption) ?xn2n6n3n7r8
                case xn2n6n3n7y8 => intro w' hSw; obtain ⟨_, q1, q2, q3, q4⟩ := hSw; go_simp; (try with_reducible rfl)
                case' xn2n6n3n7r8 => simp only [Act.put, List.setIfInBounds_toArray, List.set_cons_zero, List.set_cons_succ]
                refine take_at (i := 9) (d := 10) (v := ?xn2n6n3n7v9) rfl (by rfl) (by kernel_rfl) (by kernel_rfl) (by kernel_rfl) (fun _ _ _ h => h) (Or.inl ⟨by rfl, ?xn2n6n3n7y9⟩) (by assumption) ?xn2n6n3n7r9
                case xn2n6n3n7y9 => intro w' hSw; obtain ⟨_, q1, q2, q3, q4⟩ := hSw; go_simp; (try with_reducible rfl)
                case' xn2n6n3n7r9 => simp only [Act.put, List.setIfInBounds_toArray, List.set_cons_zero, List.set_cons_succ]
                refine wpAnyH_done (by kernel_rfl) ?xn2n6n3n7z _
                go_wp2_with fail
                go_meet
                exact ⟨_, _, _, _, rfl, rfl, by omega, by omega, (seen_flag hs3).moves (Moves.of_new [] hb7) (by simp), seen_flag hs7, fun k hk _ => two_of HGOOD.out hS3 hS7 k hk, hHxn2n6n3n7.1.1⟩
            case xb6 =>
              go_simp
              refine hK.out _ _ ?xn6h (fun hHxn6 => ?xn6r)
              case xn6h => exact hk4 hHx ((Below.refl _ _).alloc (Nat.le_refl _) _)
              case' xn6r => (clear hK K; try simp only [Act.put, List.setIfInBounds_toArray, List.set_cons_zero, List.set_cons_succ])
              have r6 : RowAt (World.alloc wr.drew (.cells #[.int .i64 (j : Int)] 3)) (some ⟨wr.heap.size, 0, none⟩) (I [(j : Int)]) := row_lit 3 wr.drew [(j : Int)]
              refine wpAnyH_ready (rs := [2]) (by kernel_rfl) (by simp) ?xn6c
              refine AllReadyH.cons rfl (fun K hK => ?xn6b2) AllReadyH.nil
              go_simp
              refine hK.out _ _ ?xn6n2h (fun hHxn6n2 => ?xn6n2r)
              case xn6n2h => exact hk4 hHxn6 ((Below.refl _ _).alloc (Nat.le_refl _) _)
              case' xn6n2r => (clear hK K; try simp only [Act.put, List.setIfInBounds_toArray, List.set_cons_zero, List.set_cons_succ])
              have r6 := r6.below ((Below.refl _ _).alloc (Nat.le_refl _) (.cells #[.int .i64 (j : Int)] 3))
              have r2 : RowAt (World.alloc (World.alloc wr.drew (.cells #[.int .i64 (j : Int)] 3)) (.cells #[.int .i64 (j : Int)] 3)) (some ⟨wr.heap.size + 1, 0, none⟩) (I [(j : Int)]) := by
                have := row_lit 3 (World.alloc wr.drew (.cells #[.int .i64 (j : Int)] 3)) [(j : Int)]
                rwa [al_size] at this
              refine wpAnyH_ready (rs := [3]) (by kernel_rfl) (by simp) ?xn6n2c
              refine AllReadyH.cons rfl (fun K hK => ?xn6n2b3) AllReadyH.nil
              go_simp
              go_at_call 53; refine (HC1.out _ _ hHxn6n2 r2).mono ?_; rintro e w3 ⟨sb3, S3, rfl, hl3, hs3, hS3, hb3⟩
              have hl3' := Nat.le_trans hHxn6n2.1.2 hl3
              refine hK.out _ _ ?xn6n2n3h (fun hHxn6n2n3 => ?xn6n2n3r)
              case xn6n2n3h => exact hk4 hHxn6n2 hb3
              case' xn6n2n3r => (clear hK K; try simp only [Act.put, List.setIfInBounds_toArray, List.set_cons_zero, List.set_cons_succ])
              have r6 := r6.below hb3
              refine wpAnyH_ready (rs := [7]) (by kernel_rfl) (by simp) ?xn6n2n3c
              refine AllReadyH.cons rfl (fun K hK => ?xn6n2n3b7) AllReadyH.nil
              go_simp
              go_at_call 53; refine (HC2.out _ _ hHxn6n2n3 r6).mono ?_; rintro e w7 ⟨sb7, S7, rfl, hl7, hs7, hS7, hb7⟩
              have hl7' := Nat.le_trans hHxn6n2n3.1.2 hl7
              refine hK.out _ _ ?xn6n2n3n7h (fun hHxn6n2n3n7 => ?xn6n2n3n7r)
              case xn6n2n3n7h => exact hk4 hHxn6n2n3 hb7
              case' xn6n2n3n7r => (clear hK K; try simp only [Act.put, List.setIfInBounds_toArray, List.set_cons_zero, List.set_cons_succ])
              refine take_at (i := 8) (d := 9) (v := ?xn6n2n3n7v8) rfl (by rfl) (by kernel_rfl) (by kernel_rfl) (by kernel_rfl) (fun _ _ _ h => h) (Or.inl ⟨by rfl, ?xn6n2n3n7y8⟩) (by assumption) ?xn6n2n3n7r8
              case xn6n2n3n7y8 => intro w' hSw; obtain ⟨_, q1, q2, q3, q4⟩ := hSw; go_simp; (try with_reducible rfl)
              case' xn6n2n3n7r8 => simp only [Act.put, List.setIfInBounds_toArray, List.set_cons_zero, List.set_cons_succ]
              refine take_at (i := 9) (d := 10) (v := ?xn6n2n3n7v9) rfl (by rfl) (by kernel_rfl) (by kernel_rfl) (by kernel_rfl) (fun _ _ _ h => h) (Or.inl ⟨by rfl, ?xn6n2n3n7y9⟩) (by assumption) ?xn6n2n3n7r9
              case xn6n2n3n7y9 => intro w' hSw; obtain ⟨_, q1, q2, q3, q4⟩ := hSw; go_simp; (try with_reducible rfl)
              case' xn6n2n3n7r9 => simp only [Act.put, List.setIfInBounds_toArray, List.set_cons_zero, List.set_cons_succ]
              refine wpAnyH_done (by kernel_rfl) ?xn6n2n3n7z _
              go_wp2_with fail
              go_meet
              exact ⟨_, _, _, _, rfl, rfl, by omega, by omega, (seen_flag hs3).moves (Moves.of_new [] hb7) (by simp), seen_flag hs7, fun k hk _ => two_of HGOOD.out hS3 hS7 k hk, hHxn6n2n3n7.1.1⟩
          -- end printed
          case rest =>
            obtain ⟨b1, b2, f1, f2, htw⟩ := hcut
            obtain ⟨rfl, rfl, hl1, hl2, hs1, hs2, his, hbc⟩ := htw
            have hstc := HST.out.moves (f' := fl g j j) (Moves.of_new [db] hbc) ((HST.out.done.moves (Moves.of_new [] hbc) (by simp)).congr (fun x _ => fl_start g j x))
            have hdbr : db < wr.heap.size := HST.out.done.1
            have hcr : wr.heap.size ≤ wc.heap.size := hbc.size
            have hq0 : (nodes j).filter (sameB g j) = [] := comp_from HND.out (Nat.le_refl _)
            have hc0c : wc.cell? ⟨w.heap.size, 0, none⟩ = some (.int .i64 (n : Int)) := (hbc.cell (p := ⟨w.heap.size, 0, none⟩) (World.block_lt_of_cell? _ _ c0)).trans c0
            have HSTC := Lib.hid hstc
            have HS1 := Lib.hid hs1
            have HS2 := Lib.hid hs2
            have HIS := Lib.hid his
            have HBC := Lib.hid hbc
            have HQ0 := Lib.hid hq0
            have HV0 : Hid (∀ w5, Moves [] wc w5 → FlagAt w5 db n (fl g j j)) := Lib.hid (fun w5 h5 => hstc.done.moves h5 (by simp))
            have HC0 := Lib.hid hc0c
            have hb0 : w.heap.size < wc.heap.size := World.block_lt_of_cell? _ _ hc0c
            have hw0 : w.heap.size ≠ db := by have := HDB.out; omega
            clear hs1 hs2 his hbc hq0 hstc c0 c1 t0 t1 hcj hc0c
            go_wp2
            obtain ⟨wo, rfl⟩ : ∃ wo : World, wo = wr := ⟨_, rfl⟩
            go_loopw [11, 12] (fun u i wr2 => ∃ (vi : Value) (k : Nat), vi = u ∧ i = .int .i64 k ∧ j ≤ k ∧ k ≤ n ∧ Moves [db] wc wr2 ∧ FlagAt wr2 db n (fl g j k) ∧ wr2.ownsRow wc.heap.size 3 1 vi ((nodes k).filter (sameB g j)).length (I ((nodes k).filter (sameB g j)))) (fun _ i _ => n - (intOf i).toNat)
            case atStart =>
              have hm : Moves [] wc (wc.alloc (.cells #[] 3)) := Moves.of_new _ ((Below.refl _ _).alloc (Nat.le_refl _) _)
              exact ⟨_, j, rfl, rfl, Nat.le_refl _, by omega, hm.mono (by simp), HV0.out _ hm, by rw [HQ0.out]; exact own_void _ _ _⟩
            case round =>
              obtain ⟨vi, k, rfl, rfl, hjk, hkn, hm2, hf2, ho2⟩ := hrel
              have hc2 : wr.cell? ⟨w.heap.size, 0, none⟩ = some (.int .i64 (n : Int)) := (hm2.cell hb0 (by simpa using hw0) 0).trans HC0.out
              by_cases hlk : k < n
              · have hk0 : (0 : Int) ≤ (k : Int) := by omega
                have hk1 : (k : Int) < (n : Int) := by omega
                have hcf1 : wr.cell? ⟨b1, k, none⟩ = some (.bool (f1 k)) := (HS1.out.moves hm2 (by simp; omega)).2.1 k hlk
                have hcf2 : wr.cell? ⟨b2, k, none⟩ = some (.bool (f2 k)) := (HS2.out.moves hm2 (by simp; omega)).2.1 k hlk
                obtain ⟨l, hl'⟩ : ∃ l, l = (nodes k).filter (sameB g j) := ⟨_, rfl⟩
                rw [← hl'] at ho2
                have hll : l.length ≤ 4096 := by
                  have h1 := List.length_filter_le (sameB g j) (nodes k)
                  rw [nodes_length, ← hl'] at h1
                  omega
                have hil : (I l).length = l.length := List.length_map _
                have ho2' : wr.ownsRow wc.heap.size 3 1 vi (I l).length (I l) := by rw [hil]; exact ho2
                have hz2 : wc.heap.size ≤ wr.heap.size := hm2.2.2.2.1
                have HO2' := Lib.hid ho2
                have HLO2 : Hid (∀ q, vi.ownBlock = some q → wc.heap.size ≤ q) := Lib.hid fun q e => (ho2.lt q e).1
                have HO2 := Lib.hid ho2'
                have HL := Lib.hid hl'.symm
                have HIL := Lib.hid hil
                have HM2 := Lib.hid hm2
                have HF2 := Lib.hid hf2
                clear hl' hil ho2' ho2 hm2 hf2
                have HI := HIS.out k
                by_cases hkj : k = j
                · have hsr : sameB g j j = true := sameB_iff.2 (.refl _ _)
                  have hkb : ((k : Int) == (j : Int)) = true := by rw [hkj]; simp
                  have hsk : sameB g j k = true := by rw [hkj]; exact hsr
                  clear hcf1 hcf2 hkj HI
                  have hsm : sameB g j k = true := hsk
                  clear hsk hsr
                  have hnx := comp_next g j k
                  rw [if_pos hsm] at hnx
                  have HNX := Lib.hid hnx
                  have HSM := Lib.hid hsm
                  clear hnx hsm
                  go_wp2_with (at_builtin; refine app_new wc.heap.size (by rfl) _ _ 25 3 (.int .i64 0) 8 (by rfl) Try.underlying25 info_int rfl _ (I l) (.int .i64 (k : Int)) (by rfl) _ (by rfl) rfl rfl HO2.out hz2 (by have := HIL.out; omega) (by have := HIL.out; omega) ?_; intro v5 w5 ho5 hg5 hb5 hs5; have hm5 := HM2.out.onto (Moves.of_grown (M := vi.ownBlock.toList) hg5 (by intro k e; simp [e])) (fun q hq => .inr (HLO2.out q (by simpa using hq))); have hf5 := HF2.out.moves (Moves.of_grown (M := vi.ownBlock.toList) hg5 (by intro k e; simp [e])) (fun hq => by have := HLO2.out db (by simpa using hq); omega); have hc5 := hf5.2.1 k hlk; have hz5 := hf5.2.2 k; have HM5 := Lib.hid hm5; have HF5 := Lib.hid hf5; have HO5 := Lib.hid ho5; clear hm5 hf5 ho5 hg5 hb5 hs5)
                  go_roundw
                  case rel =>
                    refine ⟨_, k + 1, rfl, by go_num, by omega, by omega, HM5.out.trans (Moves.set _ _ _ (by simp)), HF5.out.put hlk (fun x _ => fl_yes g j k x HSM.out), ?_⟩
                    have h5 := HO5.out
                    rw [HIL.out] at h5
                    rw [HNX.out, HL.out, show I (l ++ [(k : Int)]) = I l ++ [.int .i64 (k : Int)] from List.map_append, List.length_append]
                    exact own_low h5 _ _ (by show db < _; omega)
                  case measure => simp [intOf]; omega
                · have hkb : ¬ (k : Int) = (j : Int) := by omega
                  have hsf := HI hkj hlk
                  have hkj' := Lib.hid hkj
                  clear HI hkj
                  cases h1 : f1 k with
                  | false =>
                    rw [h1] at hcf1 hsf
                    have HSF := Lib.hid hsf
                    clear hsf h1 hcf2
                    have hsm : sameB g j k = false := HSF.out
                    have hnx := comp_next g j k
                    rw [if_neg (by rw [hsm]; simp), List.append_nil] at hnx
                    have HNX := Lib.hid hnx
                    have HSM := Lib.hid hsm
                    clear hnx hsm
                    go_wp2
                    go_roundw
                    case rel => exact ⟨_, k + 1, rfl, by go_num, by omega, by omega, HM2.out, HF2.out.congr (fun x _ => fl_no g j k x HSM.out), by rw [HNX.out, HL.out]; exact HO2'.out⟩
                    case measure => simp [intOf]; omega
                  | true =>
                    rw [h1] at hcf1 hsf
                    cases h2 : f2 k with
                    | false =>
                      rw [h2] at hcf2 hsf
                      have HSF := Lib.hid hsf
                      clear hsf h1 h2
                      have hsm : sameB g j k = false := HSF.out
                      have hnx := comp_next g j k
                      rw [if_neg (by rw [hsm]; simp), List.append_nil] at hnx
                      have HNX := Lib.hid hnx
                      have HSM := Lib.hid hsm
                      clear hnx hsm
                      go_wp2
                      go_roundw
                      case rel => exact ⟨_, k + 1, rfl, by go_num, by omega, by omega, HM2.out, HF2.out.congr (fun x _ => fl_no g j k x HSM.out), by rw [HNX.out, HL.out]; exact HO2'.out⟩
                      case measure => simp [intOf]; omega
                    | true =>
                      rw [h2] at hcf2 hsf
                      have HSF := Lib.hid hsf
                      clear hsf h1 h2
                      have hsm : sameB g j k = true := HSF.out
                      have hnx := comp_next g j k
                      rw [if_pos hsm] at hnx
                      have HNX := Lib.hid hnx
                      have HSM := Lib.hid hsm
                      clear hnx hsm
                      go_wp2_with (at_builtin; refine app_new wc.heap.size (by rfl) _ _ 25 3 (.int .i64 0) 8 (by rfl) Try.underlying25 info_int rfl _ (I l) (.int .i64 (k : Int)) (by rfl) _ (by rfl) rfl rfl HO2.out hz2 (by have := HIL.out; omega) (by have := HIL.out; omega) ?_; intro v5 w5 ho5 hg5 hb5 hs5; have hm5 := HM2.out.onto (Moves.of_grown (M := vi.ownBlock.toList) hg5 (by intro k e; simp [e])) (fun q hq => .inr (HLO2.out q (by simpa using hq))); have hf5 := HF2.out.moves (Moves.of_grown (M := vi.ownBlock.toList) hg5 (by intro k e; simp [e])) (fun hq => by have := HLO2.out db (by simpa using hq); omega); have hc5 := hf5.2.1 k hlk; have hz5 := hf5.2.2 k; have HM5 := Lib.hid hm5; have HF5 := Lib.hid hf5; have HO5 := Lib.hid ho5; clear hm5 hf5 ho5 hg5 hb5 hs5)
                      go_roundw
                      case rel =>
                        refine ⟨_, k + 1, rfl, by go_num, by omega, by omega, HM5.out.trans (Moves.set _ _ _ (by simp)), HF5.out.put hlk (fun x _ => fl_yes g j k x HSM.out), ?_⟩
                        have h5 := HO5.out
                        rw [HIL.out] at h5
                        rw [HNX.out, HL.out, show I (l ++ [(k : Int)]) = I l ++ [.int .i64 (k : Int)] from List.map_append, List.length_append]
                        exact own_low h5 _ _ (by show db < _; omega)
                      case measure => simp [intOf]; omega
              · have hge : ¬ (k : Int) < (n : Int) := by omega
                obtain rfl : n = k := by omega
                have hrow : (nodes n).filter (sameB g j) = compRow g j := by unfold compRow; rw [HNN.out]
                rw [hrow] at ho2
                have hstq := HSTC.out.moves hm2 (hf2.congr (g := fun x => doneB g (j + 1) x) (fun x hx => (fl_end g j n x hx).symm))
                have hvl : ∀ q, vi.ownBlock = some q → wc.heap.size ≤ q := fun q e => (ho2.lt q e).1
                have hol := hstq.outer
                have hvq : ∀ q, v.ownBlock = some q → q < wc.heap.size := fun q e => (HSTC.out.outer.lt q e).2
                have hdl : w2.heap.size ≤ wc.heap.size := HSTC.out.bel.size
                obtain ⟨Y, dY, hvi, _⟩ := own_row1 ho2
                rw [List.length_map] at hvi
                subst hvi
                have hz2 : wc.heap.size ≤ wr.heap.size := hm2.2.2.2.1
                have hlr : rows.length ≤ 4096 := by have := hstq.len; have := compsTo_length g j; omega
                have hzq : w2.heap.size ≤ wr.heap.size := by omega
                have HSTQ := Lib.hid hstq
                have HOR := Lib.hid (own_base ho2 hdl)
                have HVL := Lib.hid hvl
                have HVQ := Lib.hid hvq
                have HOL := Lib.hid hol
                clear hstq ho2 hvl hvq hol hm2 hf2 hrow
                go_wp2_with (at_builtin; refine app_new w2.heap.size (by rfl) _ _ 45 25 (.slice none 0 0) 24 (by rfl) Try.underlying45 info_ints rfl v rows (.slice Y (compRow g j).length dY) (by rfl) _ (by rfl) rfl rfl HOL.out hzq (by omega) (by omega) ?_; intro v5 w5 ho5 hg5 hb5 hs5; have hst5 := HSTQ.out.app HOR.out (fun e => by have := HVL.out _ e; omega) (fun q e e2 => by have := HVL.out _ e; have := HVQ.out _ e2; omega) ho5 hg5 (fun q e => hb5.imp (fun h => h.symm.trans e) (fun h => by rw [h] at e; cases e; omega)); have hv5 : v5 ≠ .slice none 0 0 := (fun e => by obtain ⟨q, cp, e2, _⟩ := ho5.form (Nat.succ_pos _); rw [e] at e2; cases e2); have HST5 := Lib.hid hst5; have HV5 := Lib.hid hv5; clear hst5 hv5 ho5 hg5 hb5 hs5)
                go_roundw
                case rel => exact ⟨_, j + 1, _, rfl, by go_num, by omega, HV5.out, by rw [compsTo_succ, HD.out, if_neg (by simp)]; exact HST5.out⟩
                case measure => simp [intOf]; omega
      · have hge : ¬ (j : Int) < (n : Int) := by omega
        obtain rfl : n = j := by omega
        have hnx := hst.next (lo := w.heap.size) (by omega) hvn
        have hb9 : Below w.heap.size w wr := HBX.out.bel.trans (hst.bel.mono (by omega))
        have HFIN : Hid (CompsPost g w (.returned (.tuple #[v, .int .i64 0])) wr) := Lib.hid ⟨v, by rw [← HKK.out], hb9, fun _ => by unfold compsF; rw [HNN.out]; exact hnx⟩
        clear hst hvn hnx hb9 c1 t0 t1
        go_wp2
        go_ret2
        exact HFIN.out
  · have hkb : (kk != 0) = true := by simpa using hk
    have hpost : ∀ w', Below w.heap.size w w' → CompsPost g w (.returned (.tuple #[.slice none 0 0, .int .i64 kk])) w' := fun w' hb => ⟨_, by rw [HKK.out], hb, fun h => absurd (HKK.out.trans h) hk⟩
    rw [hv2]
    have HP := Lib.hid hpost
    have HB := Lib.hid hbx1.bel
    have hz := hbx1.lt
    clear hpost hbx1 hbx hb1 hg2 hv2
    go_wp2
    go_ret2
    exact HP.out _ (HB.out.alloc (by omega) _)
end Go.Proofs.Ytpdfcffeinbcaaa
