/- ordered, Order: the program's. -/
import Derived.Test.YtpdfcffeinbcaaaH24
import Derived.Test.YtpdfcffeinbcaaaH6
namespace Go.Proofs.Ytpdfcffeinbcaaa
open Go.RowKit
theorem nxt_inN {g : XG} (hg : Good g) {n : Nat} (hn : g.n = n) (i : Int) : ∀ y ∈ nxt g i, 0 ≤ y ∧ y < (n : Int) := fun y hy => by
  have := (hg.all _ (mem_nxt.1 hy)).2
  rw [hn] at this
  exact this
/-- What order says of a graph. -/
def ordE (g : XG) : Int := if chkF g = 0 then if (ordF (nxt g) g.n.toNat).length = g.n.toNat then 0 else 150 else chkF g
def ordL (g : XG) : List Int := if ordE g = 0 then ordF (nxt g) g.n.toNat else []
def OrderedPost (g : XG) (w : World) (e : Ending) (w' : World) : Prop := ∃ vo vl, e = .returned (.tuple #[vo, vl, .int .i64 (ordE g)]) ∧ (∃ Y m d, vl = .slice Y m d) ∧ Below w.heap.size w w' ∧ w'.ownsRow w.heap.size 3 1 vo (ordL g).length (I (ordL g)) ∧ (ordE g = 0 → NextAt w' w.heap.size vl g.n.toNat (fun i => nxt g i))
set_option maxHeartbeats 1000000 in
theorem ordered_c (g : XG) (E : Option Addr) (d : Nat) (w : World) (h : GAt w E g) (hl : g.es.length ≤ 4611686018427387904) :
    Calls Try.prog 56 #[g.val E d] w (OrderedPost g w) := by
  have hck := fun W h => check_c g E d W h hl
  have hnx := fun W h1 h2 => next_c g E d W h1 h2
  have hbx := box_at (w := w) (t := 24) g E d
  have hv : g.val E d = .agg #[.int .i64 g.n, .slice E g.es.length d] := rfl
  rw [hv] at hck hnx ⊢
  have HCK := Lib.hid hck
  have HNX := Lib.hid hnx
  have HG := Lib.hid h
  have HF : Hid (∀ vo Y m d' k w', ordE g = k → Below w.heap.size w w' → w'.ownsRow w.heap.size 3 1 vo (ordL g).length (I (ordL g)) → (k = 0 → NextAt w' w.heap.size (.slice Y m d') g.n.toNat (fun i => nxt g i)) → OrderedPost g w (.returned (.tuple #[vo, .slice Y m d', .int .i64 k])) w') :=
    Lib.hid fun vo Y m d' k w' hk hb ho hx => ⟨vo, _, by rw [hk], ⟨Y, m, d', rfl⟩, hb, ho, fun h => hx (hk.symm.trans h)⟩
  clear hck hnx hv h
  go_enter Try.func56, Try.ntmps56
  go_wp2_with fail
  go_at_call 14
  refine (HCK.out _ (HG.out.below hbx.bel)).mono ?_
  rintro e w1 ⟨rfl, hb1⟩
  have hbx1 := hbx.below hb1
  have c0 := hbx1.c0
  have c1 := hbx1.c1
  by_cases hk : chkF g = 0
  · have hgood := chkF_good.1 hk
    have HBX1 := Lib.hid hbx1
    obtain ⟨n, hn⟩ : ∃ n : Nat, g.n = n := ⟨g.n.toNat, by have := hgood.n0; omega⟩
    have hnn : g.n.toNat = n := by omega
    have hn4 : n ≤ 4096 := by have := hgood.n1; omega
    have hnxc := HNX.out _ (HG.out.below hbx1.bel) hgood
    rw [hnn] at hnxc
    have HNXC := Lib.hid hnxc
    have HN := Lib.hid hnn
    have HN2 := Lib.hid hn
    have HK := Lib.hid hk
    have HGOOD := Lib.hid hgood
    rw [hk]
    clear hk hgood hn hnn hnxc hbx1 hb1 hbx
    go_wp2_with fail
    go_at_call 48
    refine HNXC.out.mono ?_
    rintro e w2 ⟨v, rfl, hn2, hb2⟩
    have hord := order_c hn4 hn2 (fun i _ => nxt_rising g i) (fun i _ => nxt_inN HGOOD.out HN2.out i)
    have HORD := Lib.hid hord
    have HN2' := Lib.hid hn2
    have HB2 := Lib.hid (HBX1.out.bel.trans (hb2.mono (Nat.le_of_lt HBX1.out.lt)))
    have hz1 : w.heap.size ≤ w1.heap.size := Nat.le_of_lt HBX1.out.lt
    have hz2 : w1.heap.size ≤ w2.heap.size := hb2.size
    clear hn2 hb2 hord c0 c1
    go_wp2_with fail
    go_at_call 75
    refine HORD.out.mono ?_
    rintro e w3 ⟨vo, rfl, ho3, hb3⟩
    have hB3 := HB2.out.trans (hb3.mono (by omega))
    have hN3 := HN2'.out.below hb3
    by_cases hlen : (ordF (nxt g) n).length = n
    · obtain ⟨lb, ld, rfl, _⟩ := id hN3
      have hb : (((ordF (nxt g) n).length : Int) == (n : Int)) = true := by rw [beq_iff_eq]; omega
      have hE : ordE g = 0 := by unfold ordE; rw [if_pos HK.out, HN.out, if_pos hlen]
      have hL : ordL g = ordF (nxt g) n := by unfold ordL; rw [if_pos hE, HN.out]
      have HFIN : Hid (OrderedPost g w (.returned (.tuple #[vo, .slice (some ⟨lb, 0, none⟩) n ld, .int .i64 0])) w3) := Lib.hid (HF.out vo _ _ _ 0 w3 hE hB3 (by rw [hL]; exact own_base ho3 (by omega)) (fun _ => by
        rw [HN.out]
        obtain ⟨b, dd, h1, h2, h3, h4⟩ := hN3
        refine ⟨b, dd, h1, by omega, h3, fun i hi => ?_⟩
        obtain ⟨Y, d', h5, h6, h7⟩ := h4 i hi
        exact ⟨Y, d', h5, h6, fun b' o e => by have := h7 b' o e; omega⟩))
      obtain ⟨Xo, co, rfl, _⟩ := own_rowS ho3
      clear hlen hE hL ho3 hb3 hB3 hN3
      go_wp2
      refine bodyPost_ret (v := .tuple #[.slice Xo (ordF (nxt g) n).length co, .slice (some ⟨lb, 0, none⟩) n ld, .int .i64 0]) (by simp [results, Try.results56, go_sem]) rfl ?_
      exact HFIN.out
    · have hb : (((ordF (nxt g) n).length : Int) == (n : Int)) = false := by rw [beq_eq_false_iff_ne]; omega
      have hE : ordE g = 150 := by unfold ordE; rw [if_pos HK.out, HN.out, if_neg hlen]
      have hL : ordL g = [] := by unfold ordL; rw [hE]; rfl
      have HFIN : Hid (OrderedPost g w (.returned (.tuple #[.slice none 0 0, .slice none 0 0, .int .i64 150])) w3) := Lib.hid (HF.out _ _ _ _ 150 w3 hE hB3 (by rw [hL]; exact own_none _ _ _ _) (fun h => by cases h))
      clear hlen hE hL ho3 hb3 hB3 hN3
      go_wp2
      refine bodyPost_ret (v := .tuple #[.slice none 0 0, .slice none 0 0, .int .i64 150]) (by simp [results, Try.results56, go_sem]) rfl ?_
      exact HFIN.out
  · have hE : ordE g = chkF g := by unfold ordE; rw [if_neg hk]
    have hL : ordL g = [] := by unfold ordL; rw [if_neg (by rw [hE]; exact hk)]
    obtain ⟨k, hkk⟩ : ∃ k, k = chkF g := ⟨_, rfl⟩
    rw [← hkk] at hk hE ⊢
    have hkb : (k != 0) = true := by simpa using hk
    have HFIN : Hid (OrderedPost g w (.returned (.tuple #[.slice none 0 0, .slice none 0 0, .int .i64 k])) w1) := Lib.hid (HF.out _ _ _ _ k w1 hE hbx1.bel (by rw [hL]; exact own_none _ _ _ _) (fun h => absurd h hk))
    clear hE hL hkk hbx1 hb1 hbx
    go_wp2
    refine bodyPost_ret (v := .tuple #[.slice none 0 0, .slice none 0 0, .int .i64 k]) (by simp [results, Try.results56, go_sem]) rfl ?_
    exact HFIN.out
set_option maxHeartbeats 1000000 in
theorem gorder_c (g : XG) (E : Option Addr) (d : Nat) (w : World) (h : GAt w E g) (hl : g.es.length ≤ 4611686018427387904) :
    Calls Try.prog 25 #[g.val E d] w (RowErr (ordL g) (ordE g) w) := by
  have hor := fun W h => ordered_c g E d W h hl
  have hbx := box_at (w := w) (t := 24) g E d
  have hv : g.val E d = .agg #[.int .i64 g.n, .slice E g.es.length d] := rfl
  rw [hv] at hor ⊢
  have HOR := Lib.hid hor
  have HG := Lib.hid h
  clear hor hv h
  go_enter Try.func25, Try.ntmps25
  go_wp2_with fail
  go_at_call 56
  refine (HOR.out _ (HG.out.below hbx.bel)).mono ?_
  rintro e w1 ⟨vo, vl, rfl, ⟨Yl, ml, dl, rfl⟩, hb1, ho1, _⟩
  have hB := hbx.bel.trans (hb1.mono (by rw [al_size]; omega))
  obtain ⟨X, c, hvo, hrow, _⟩ := own_rowS ho1
  subst hvo
  have HFIN : Hid (RowErr (ordL g) (ordE g) w (.returned (.tuple #[.slice X (ordL g).length c, .int .i64 (ordE g)])) w1) := Lib.hid ⟨X, c, rfl, hrow, hB⟩
  clear hB hrow ho1 hb1 hbx
  go_wp2
  go_ret2
  exact HFIN.out
end Go.Proofs.Ytpdfcffeinbcaaa
