/- Next: the document's. -/
import Derived.Test.YtpdfcffeinbcaaaH10
namespace Go.Proofs.Ytpdfcffeinbcaaa
open Go.RowKit
set_option maxHeartbeats 1000000 in
theorem rNext_c (g : XG) (E : Option Addr) (d : Nat) (x : Int) (w : World) (h : GAt w E g) (hl : g.es.length ≤ 4611686018427387904) :
    Calls Try.prog 17 #[g.val E d, .int .i64 x] w (RowErr (nextL g x) (nextE g x) w) := by
  have hck := fun W h => rcheck_c g E d W h hl
  have hnd := fun b W h => rnode_c (g := g) (x := x) (b := b) E d W h
  have hnx := fun W h1 h2 => rnext_c g E d x W h1 h2
  have hbx := box_at (w := w) (t := 24) g E d
  have hv : g.val E d = .agg #[.int .i64 g.n, .slice E g.es.length d] := rfl
  rw [hv] at hck hnd hnx ⊢
  have HCK := Lib.hid hck
  have HND := Lib.hid hnd
  have HNX := Lib.hid hnx
  have HG := Lib.hid h
  obtain ⟨kk, hkk⟩ : ∃ kk, kk = nextE g x := ⟨_, rfl⟩
  obtain ⟨ll, hll⟩ : ∃ ll, ll = nextL g x := ⟨_, rfl⟩
  rw [← hkk, ← hll]
  have HKK := Lib.hid hkk
  have HLL := Lib.hid hll
  clear hck hnd hnx hv h hkk hll
  go_enter Try.func17, Try.ntmps17
  go_wp2_with fail
  go_at_call 15
  refine (HCK.out _ (HG.out.below hbx.bel)).mono ?_
  rintro e w1 ⟨rfl, hb1⟩
  have hbx1 := hbx.below hb1
  have c0 := hbx1.c0
  have c1 := hbx1.c1
  by_cases hk : chkF g = 0
  · have hgood := chkF_good.1 hk
    have HBX1 := Lib.hid hbx1
    cases hnb : nodeB g.n x with
    | false =>
      have h1 : nextE g x = 1 := by unfold nextE; rw [if_pos hk, hnb]; rfl
      have h2 : nextL g x = [] := by unfold nextL; rw [h1]; rfl
      obtain rfl := HKK.out.trans h1
      obtain rfl := HLL.out.trans h2
      rw [hk]
      have HNB := Lib.hid hnb
      clear hnb h1 h2 hk hbx1 hbx hb1
      go_wp2_with (go_at_call 47; refine (HND.out _ _ HNB.out).mono ?_; rintro e w2 ⟨rfl, hb2⟩)
      go_ret2
      exact rowErr_no ((HBX1.out.below hb2).bel)
    | true =>
      have h1 : nextE g x = 0 := by unfold nextE; rw [if_pos hk, hnb]; rfl
      have h2 : nextL g x = nxt g x := by unfold nextL; rw [h1]; rfl
      obtain rfl := HKK.out.trans h1
      obtain rfl := HLL.out.trans h2
      rw [hk]
      have hxr := nodeB_iff.1 hnb
      obtain ⟨y, rfl⟩ : ∃ y : Nat, x = y := ⟨x.toNat, by omega⟩
      have HNB := Lib.hid hnb
      have HGOOD := Lib.hid hgood
      clear hnb h1 h2 hk hbx1 hbx hb1 hgood
      go_wp2_with fail
      go_at_call 47
      refine (HND.out _ _ HNB.out).mono ?_
      rintro e w2 ⟨rfl, hb2⟩
      have hbx2 := HBX1.out.below hb2
      have d0 := hbx2.c0
      have d1 := hbx2.c1
      have HBX2 := Lib.hid hbx2
      clear hb2 hbx2 c0 c1
      go_wp2_with fail
      go_at_call 49
      refine (HNX.out _ (HG.out.below HBX2.out.bel) HGOOD.out.len).mono ?_
      rintro e w3 ⟨Y, dY, rfl, ho3, hb3⟩
      have HRY := Lib.hid (OwnInts.row ho3)
      have HB3 := Lib.hid ((HBX2.out.below hb3).bel)
      clear ho3 hb3 d0 d1
      go_wp2
      go_ret2
      exact ⟨Y, dY, rfl, HRY.out, HB3.out⟩
  · have h1 : nextE g x = chkF g := by unfold nextE; rw [if_neg hk]
    have h2 : nextL g x = [] := by unfold nextL; rw [if_neg (by rw [h1]; exact hk)]
    have h3 := HKK.out.trans h1
    obtain rfl := HLL.out.trans h2
    rw [← h3] at hk ⊢
    have hkb : (kk != 0) = true := by simpa using hk
    have HB1 := Lib.hid hbx1.bel
    clear h1 h2 h3 hbx1 hb1 hbx
    go_wp2
    go_ret2
    exact rowErr_no HB1.out
end Go.Proofs.Ytpdfcffeinbcaaa
