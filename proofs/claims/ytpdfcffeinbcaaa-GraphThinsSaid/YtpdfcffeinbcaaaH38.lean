/- Longest: the program's: where it refuses. -/
import Derived.Test.YtpdfcffeinbcaaaH37
import Derived.Test.YtpdfcffeinbcaaaH25
namespace Go.Proofs.Ytpdfcffeinbcaaa
open Go.RowKit
/-- Two boxes: a graph, and a row of weights. -/
structure Bx2 (w0 w : World) (g : XG) (E : Option Addr) (d : Nat) (X : Option Addr) (m c : Nat) : Prop where
  c0 : w.cell? ⟨w0.heap.size, 0, none⟩ = some (.int .i64 g.n)
  c1 : w.cell? ⟨w0.heap.size, 1, none⟩ = some (.slice E g.es.length d)
  c2 : w.cell? ⟨w0.heap.size + 1, 0, none⟩ = some (.slice X m c)
  bel : Below w0.heap.size w0 w
  lt : w0.heap.size + 1 < w.heap.size
theorem Bx2.below {w0 w w' : World} {g : XG} {E X : Option Addr} {d m c : Nat} (h : Bx2 w0 w g E d X m c) (hb : Below w.heap.size w w') : Bx2 w0 w' g E d X m c :=
  have hl := h.lt
  ⟨(hb.cell (p := ⟨w0.heap.size, 0, none⟩) (by show w0.heap.size < _; omega)).trans h.c0, (hb.cell (p := ⟨w0.heap.size, 1, none⟩) (by show w0.heap.size < _; omega)).trans h.c1, (hb.cell (p := ⟨w0.heap.size + 1, 0, none⟩) h.lt).trans h.c2, h.bel.trans (hb.mono (by omega)), Nat.lt_of_lt_of_le h.lt hb.size⟩
theorem bx2_at (w : World) (g : XG) (E : Option Addr) (d : Nat) (X : Option Addr) (m c : Nat) (t t' : TypeId) : Bx2 w ((w.alloc (.cells #[.int .i64 g.n, .slice E g.es.length d] t)).alloc (.cells #[.slice X m c] t')) g E d X m c := by
  obtain ⟨w1, hw1⟩ : ∃ w1, w1 = w.alloc (.cells #[.int .i64 g.n, .slice E g.es.length d] t) := ⟨_, rfl⟩
  have z1 : w1.heap.size = w.heap.size + 1 := by rw [hw1, al_size]
  have c0 : w1.cell? ⟨w.heap.size, 0, none⟩ = some (.int .i64 g.n) := by rw [hw1, cell_new]; rfl
  have c1 : w1.cell? ⟨w.heap.size, 1, none⟩ = some (.slice E g.es.length d) := by rw [hw1, cell_new]; rfl
  have b1 : Below w.heap.size w w1 := by rw [hw1]; exact (Below.refl _ _).alloc (Nat.le_refl _) _
  rw [← hw1]
  exact ⟨(World.cell?_alloc_lt _ _ _ (by show w.heap.size < _; omega)).trans c0, (World.cell?_alloc_lt _ _ _ (by show w.heap.size < _; omega)).trans c1, by rw [← z1, cell_new]; rfl, b1.alloc (by omega) _, by rw [al_size]; omega⟩
set_option maxHeartbeats 2000000 in
set_option maxRecDepth 100000 in
theorem glong_no (g : XG) (E : Option Addr) (d : Nat) (wts : List Int) (X : Option Addr) (c : Nat) (w : World) (h : GAt w E g) (hl : g.es.length ≤ 4611686018427387904) (hr : RowAt w X (I wts)) (hwl : wts.length ≤ 4611686018427387904) (hno : ¬ lonOk g wts) :
    Calls Try.prog 29 #[g.val E d, .slice X wts.length c] w (LonPost g wts w) := by
  have hck := fun W h => check_c g E d W h hl
  have hor := fun W h => ordered_c g E d W h hl
  have hbx := bx2_at w g E d X wts.length c 24 25
  have hv : g.val E d = .agg #[.int .i64 g.n, .slice E g.es.length d] := rfl
  rw [hv] at hck hor ⊢
  have HCK := Lib.hid hck
  have HOR := Lib.hid hor
  have HG := Lib.hid h
  have HR := Lib.hid hr
  have HNO := Lib.hid hno
  obtain ⟨kk, hkk⟩ : ∃ kk, kk = chkF g := ⟨_, rfl⟩
  have HKK := Lib.hid hkk
  clear hck hor hv h hr hno hkk
  go_enter Try.func29, Try.ntmps29
  go_wp2_with fail
  go_at_call 14
  refine (HCK.out _ (HG.out.below hbx.bel)).mono ?_
  rintro e w1 ⟨rfl, hb1⟩
  have hbx1 := hbx.below hb1
  rw [← HKK.out]
  have c0 := hbx1.c0
  have c1 := hbx1.c1
  have c2 := hbx1.c2
  by_cases hk : kk = 0
  · subst hk
    have hgood := chkF_good.1 HKK.out.symm
    obtain ⟨n, hn⟩ : ∃ n : Nat, g.n = n := ⟨g.n.toNat, by have := hgood.n0; omega⟩
    have hnn : g.n.toNat = n := by omega
    by_cases hlen : wts.length = n
    · have hlb : ((wts.length : Int) != (n : Int)) = false := by simp [hlen]
      have hlb2 : (wts.length : Int) = (n : Int) := by omega
      have hcf := containsFunc_c c (HR.out.below hbx1.bel) hwl
      have hnb1 := hbx1.bel
      rw [hn] at c0
      cases hbad : wts.any badB with
      | true =>
        rw [hbad] at hcf
        have HCF := Lib.hid hcf
        have hE : lonE g wts = 1 := by unfold lonE; rw [if_neg (by rw [← HKK.out]; simp), if_pos (.inr hbad)]
        have HP := Lib.hid (lonPost_no HNO.out hnb1 hE)
        clear hcf hbad hE hgood hnn hn hlen hbx1 hb1 hbx hnb1
        go_wp2_with fail
        go_at_call 57
        refine HCF.out.mono ?_
        rintro e w2 ⟨rfl, rfl⟩
        go_wp2
        refine bodyPost_ret (v := .tuple #[.int .i64 0, .slice none 0 0, .int .i64 1]) (by simp [results, Try.results29, go_sem]) rfl ?_
        exact HP.out
      | false =>
        rw [hbad] at hcf
        have HCF := Lib.hid hcf
        have hE : lonE g wts = ordE g := by unfold lonE; rw [if_neg (by rw [← HKK.out]; simp), if_neg (by rw [hnn]; rintro (h | h); exact h hlen; rw [hbad] at h; cases h)]
        obtain ⟨ke, hke⟩ : ∃ ke, ke = ordE g := ⟨_, rfl⟩
        have hz : ke ≠ 0 ∨ n = 0 := by
          apply Classical.byContradiction
          intro hc
          refine HNO.out ⟨by rw [hE, ← hke]; apply Classical.byContradiction; intro h; exact hc (.inl h), ?_⟩
          have : n ≠ 0 := fun h => hc (.inr h)
          omega
        have hE2 : lonE g wts = ke := hE.trans hke.symm
        have HE2 := Lib.hid hE2
        have HBX := Lib.hid hbx1
        have HKE := Lib.hid hke
        clear hcf hbad hE hgood hnn hlen hbx1 hb1 hbx hnb1 hE2 hke
        rw [hn]
        have HN := Lib.hid hn
        clear hn
        go_wp2_with fail
        go_at_call 57
        refine HCF.out.mono ?_
        rintro e w2 ⟨rfl, rfl⟩
        have hor1 := HOR.out _ (HG.out.below HBX.out.bel)
        rw [HN.out] at hor1
        have HOR1 := Lib.hid hor1
        clear hor1
        go_wp2_with fail
        go_at_call 56
        refine HOR1.out.mono ?_
        rintro e w3 ⟨vo, vl, rfl, ⟨Yl, ml, dl, rfl⟩, hb3, _, _⟩
        rw [← HKE.out]
        have hbx3 := HBX.out.below hb3
        have hal : Below w3.heap.size w3 (w3.alloc (.cells #[.slice Yl ml dl] 45)) := (Below.refl _ _).alloc (Nat.le_refl _) _
        have hbx4 := hbx3.below hal
        have e0 := hbx4.c0
        rw [HN.out] at e0
        have HP := Lib.hid (lonPost_no HNO.out hbx4.bel HE2.out)
        clear hb3 hbx3 hal hbx4 c0 c1 c2
        by_cases hke0 : ke = 0
        · subst hke0
          obtain rfl : n = 0 := hz.resolve_left (fun h => h rfl)
          clear hz
          go_wp2
          refine bodyPost_ret (v := .tuple #[.int .i64 0, .slice none 0 0, .int .i64 0]) (by simp [results, Try.results29, go_sem]) rfl ?_
          exact HP.out
        · have hkb : (ke != 0) = true := by simpa using hke0
          clear hz
          go_wp2
          refine bodyPost_ret (v := .tuple #[.int .i64 0, .slice none 0 0, .int .i64 ke]) (by simp [results, Try.results29, go_sem]) rfl ?_
          exact HP.out
    · have hlb : ((wts.length : Int) != (n : Int)) = true := by
        rw [bne_iff_ne]; omega
      have hE : lonE g wts = 1 := by unfold lonE; rw [if_neg (by rw [← HKK.out]; simp), if_pos (.inl (by rw [hnn]; exact hlen))]
      have HP := Lib.hid (lonPost_no HNO.out hbx1.bel hE)
      rw [hn] at c0
      clear hE hgood hnn hn hlen hbx1 hb1 hbx
      go_wp2
      refine bodyPost_ret (v := .tuple #[.int .i64 0, .slice none 0 0, .int .i64 1]) (by simp [results, Try.results29, go_sem]) rfl ?_
      exact HP.out
  · have hkb : (kk != 0) = true := by simpa using hk
    have hE : lonE g wts = kk := by unfold lonE; rw [if_pos (by rw [← HKK.out]; exact hk)]; exact HKK.out.symm
    have HP := Lib.hid (lonPost_no HNO.out hbx1.bel hE)
    clear hE hbx1 hb1 hbx hk
    go_wp2
    refine bodyPost_ret (v := .tuple #[.int .i64 0, .slice none 0 0, .int .i64 kk]) (by simp [results, Try.results29, go_sem]) rfl ?_
    exact HP.out
end Go.Proofs.Ytpdfcffeinbcaaa
