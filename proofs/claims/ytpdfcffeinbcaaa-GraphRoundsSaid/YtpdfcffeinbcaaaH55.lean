/- The program's Circle. -/
import Derived.Test.YtpdfcffeinbcaaaH52
import Derived.Test.YtpdfcffeinbcaaaH54
import Derived.Test.YtpdfcffeinbcaaaH6
import Derived.Test.YtpdfcffeinbcaaaH16
namespace Go.Proofs.Ytpdfcffeinbcaaa
open Go.RowKit
theorem NextAt.low {w : World} {lo lo' n : Nat} {v : Value} {ls : Nat → List Int} (h : NextAt w lo v n ls) (hl : lo' ≤ lo) : NextAt w lo' v n ls := by
  obtain ⟨b, d, rfl, h1, h2, h3⟩ := h
  exact ⟨b, d, rfl, by omega, h2, fun i hi => by obtain ⟨Y, d', h4, h5, h6⟩ := h3 i hi; exact ⟨Y, d', h4, h5, fun b' o e => by have := h6 b' o e; omega⟩⟩
theorem own_one1 {w : World} {base : Nat} {e : TypeId} (y : Value) (hb : base ≤ w.heap.size) : (w.alloc (.cells #[y] e)).ownsRow base e 1 (.slice (some ⟨w.heap.size, 0, none⟩) 1 1) 1 [y] :=
  ⟨by simp, .inr ⟨w.heap.size, 1, #[y], rfl, hb, heap_alloc_new w _, Nat.le_refl _, by simp [maxLen], by simp, by simp⟩⟩
theorem hnumF_of {w w' : World} {fb n : Nat} {f : Nat → Int} (h : NumAt w fb n f) (hb : Below w.heap.size w w') : NumAt w' fb n f := h.moves (Moves.of_new [] hb) (by simp)
theorem find_hit {f : Int → Int} {l : List Int} {r : Int} {q : Nat} (hq : q < l.length) (hb : ∀ z ∈ l.take q, f z ≠ r) (he : f l[q] = r) : l.find? (fun w => f w == r) = some l[q] := by
  have h : (l.take q ++ l.drop q).find? (fun w => f w == r) = some l[q] := by
    rw [List.find?_append, List.find?_eq_none.2 (fun x hx => by simpa using hb x hx), List.drop_eq_getElem_cons hq, List.find?_cons_of_pos (by simpa using he)]
    rfl
  rwa [List.take_append_drop] at h
set_option maxHeartbeats 8000000 in
set_option maxRecDepth 100000 in
theorem gcircle_c (g : XG) (E : Option Addr) (d : Nat) (x : Int) (w : World) (h : GAt w E g) (hl : g.es.length ≤ 4611686018427387904) :
    Calls Try.prog 39 #[g.val E d, .int .i64 x] w (RowErr (cirL g x) (cirE g x) w) := by
  have hck := fun W h => check_c g E d W h hl
  have hnd := fun b W h => node_c (g := g) (x := x) (b := b) E d W h
  have hnx := fun W h1 h2 => next_c g E d W h1 h2
  have htn := fun W h h2 => turned_c g E d W h h2
  have hbx := box_at (w := w) (t := 24) g E d
  have hv : g.val E d = .agg #[.int .i64 g.n, .slice E g.es.length d] := rfl
  rw [hv] at hck hnd hnx htn ⊢
  have HCK := Lib.hid hck
  have HND := Lib.hid hnd
  have HNX := Lib.hid hnx
  have HTD := Lib.hid htn
  have HG := Lib.hid h
  obtain ⟨kk, hkk⟩ : ∃ kk, kk = cirE g x := ⟨_, rfl⟩
  obtain ⟨ll, hll⟩ : ∃ ll, ll = cirL g x := ⟨_, rfl⟩
  rw [← hkk, ← hll]
  have HKK := Lib.hid hkk
  have HLL := Lib.hid hll
  clear hck hnd hnx hv h hkk hll htn
  go_enter Try.func39, Try.ntmps39
  go_wp2_with fail
  go_at_call 14
  refine (HCK.out _ (HG.out.below hbx.bel)).mono ?_
  rintro e w1 ⟨rfl, hb1⟩
  have hbx1 := hbx.below hb1
  have c0 := hbx1.c0
  have c1 := hbx1.c1
  by_cases hk : chkF g = 0
  · have hgood := chkF_good.1 hk
    have HBX1 := Lib.hid hbx1
    cases hnb : nodeB g.n x with
    | false =>
      have h1 : cirE g x = 1 := by unfold cirE; rw [if_pos hk, hnb]; rfl
      have h2 : cirL g x = [] := by unfold cirL; rw [h1]; rfl
      obtain rfl := HKK.out.trans h1
      obtain rfl := HLL.out.trans h2
      rw [hk]
      have HNB := Lib.hid hnb
      clear hnb h1 h2 hk hbx1 hbx hb1
      go_wp2_with (go_at_call 46; refine (HND.out _ _ HNB.out).mono ?_; rintro e w2 ⟨rfl, hb2⟩)
      go_ret2
      exact rowErr_no ((HBX1.out.below hb2).bel)
    | true =>
      have h1 : cirE g x = if bestF (farG g x) (nxt g x) < 0 then 4 else 0 := by unfold cirE; rw [if_pos hk, hnb, if_pos rfl]
      rw [h1] at HKK
      have HE := Lib.hid h1
      rw [hk]
      have hxr := nodeB_iff.1 hnb
      obtain ⟨y, rfl⟩ : ∃ y : Nat, x = y := ⟨x.toNat, by omega⟩
      obtain ⟨n, hn⟩ : ∃ n : Nat, g.n = n := ⟨g.n.toNat, by omega⟩
      have hnn : g.n.toNat = n := by omega
      have hn4 : n ≤ 4096 := by have := hgood.n1; omega
      obtain ⟨m, hm⟩ : ∃ m, m = g.es.length := ⟨_, rfl⟩
      have hlen := hgood.len
      have HNB := Lib.hid hnb
      have HGOOD := Lib.hid hgood
      have HXR := Lib.hid hxr
      have HN := Lib.hid hn
      have HNN := Lib.hid hnn
      have HM := Lib.hid hm
      clear hnb h1 hk hbx1 hbx hb1 hgood hxr hn hnn hm
      go_wp2_with fail
      go_at_call 46
      refine (HND.out _ _ HNB.out).mono ?_
      rintro e w2 ⟨rfl, hb2⟩
      have hn := HN.out
      have hnn := HNN.out
      have hm := HM.out
      have hbx2 := HBX1.out.below hb2
      have d0 := hbx2.c0
      have d1 := hbx2.c1
      rw [hn] at d0
      rw [← hm] at d1
      have HBX2 := Lib.hid hbx2
      have hbxl : w.heap.size < w2.heap.size := hbx2.lt
      have hgw := HG.out.below hbx2.bel
      have hN1 : ∀ W, Below w2.heap.size w2 W → Calls Try.prog 48 #[.agg #[.int .i64 (n : Int), .slice E m d]] W fun e w' => ∃ lo z d, e = .returned (.slice (some ⟨z, 0, none⟩) n d) ∧ NextAt w' lo (.slice (some ⟨z, 0, none⟩) n d) n (fun i => nxt g i) ∧ Below W.heap.size W w' ∧ W.heap.size ≤ lo := fun W hb => by
        have h := HNX.out W (hgw.below hb) HGOOD.out
        rw [hn, ← hm, Int.toNat_natCast] at h
        refine h.mono ?_
        rintro e w' ⟨v, rfl, hna, hbe⟩
        have hna' := hna
        obtain ⟨z, dz, rfl, _⟩ := hna
        exact ⟨_, z, dz, rfl, hna', hbe, Nat.le_refl _⟩
      have hN4 : ∀ W F, GAt W F (turnE g) → Calls Try.prog 48 #[.agg #[.int .i64 (n : Int), .slice F m m]] W fun e w' => ∃ lo z d, e = .returned (.slice (some ⟨z, 0, none⟩) n d) ∧ NextAt w' lo (.slice (some ⟨z, 0, none⟩) n d) n (fun i => nxt (turnE g) i) ∧ Below W.heap.size W w' ∧ W.heap.size ≤ lo := fun W F hF => by
        have h := next_c (turnE g) F m W hF (good_turn HGOOD.out)
        have e1 : (turnE g).val F m = .agg #[.int .i64 (n : Int), .slice F m m] := by unfold XG.val turnE; rw [List.length_map, ← hm, hn]
        rw [e1, show (turnE g).n.toNat = n from hnn] at h
        refine h.mono ?_
        rintro e w' ⟨v, rfl, hna, hbe⟩
        have hna' := hna
        obtain ⟨z, dz, rfl, _⟩ := hna
        exact ⟨_, z, dz, rfl, hna', hbe, Nat.le_refl _⟩
      have hTN : ∀ W, Below w2.heap.size w2 W → Calls Try.prog 55 #[.agg #[.int .i64 (n : Int), .slice E m d]] W fun e w' => ∃ b, e = .returned (.agg #[.int .i64 (n : Int), .slice (some ⟨b, 0, none⟩) m m]) ∧ GAt w' (some ⟨b, 0, none⟩) (turnE g) ∧ Below W.heap.size W w' := fun W hb => by
        have h := HTD.out W (hgw.below hb) HGOOD.out.len
        rw [hn, ← hm] at h
        refine h.mono ?_
        rintro e w' ⟨b, rfl, _, hE, hbe⟩
        refine ⟨b, rfl, hE.gat (by unfold turnE; rw [List.length_map, hm]) (fun k hk => ?_), hbe⟩
        unfold turnE at hk ⊢
        simp only at hk ⊢
        rw [List.length_map] at hk
        rw [List.getElem_map, List.getElem?_eq_getElem hk]; rfl
      have hkc : ∀ {w' w'' : World}, ((Below w2.heap.size w2 w' ∧ w2.heap.size ≤ w'.heap.size) ∧ w'.cell? ⟨w.heap.size, 0, none⟩ = some (.int .i64 (n : Int)) ∧ w'.cell? ⟨w.heap.size, 1, none⟩ = some (.slice E m d)) → Below w'.heap.size w' w'' →
          ((Below w2.heap.size w2 w'' ∧ w2.heap.size ≤ w''.heap.size) ∧ w''.cell? ⟨w.heap.size, 0, none⟩ = some (.int .i64 (n : Int)) ∧ w''.cell? ⟨w.heap.size, 1, none⟩ = some (.slice E m d)) := fun {w' w''} h hb =>
        ⟨⟨h.1.1.trans (hb.mono h.1.2), Nat.le_trans h.1.2 hb.size⟩, (hb.cell (p := ⟨w.heap.size, 0, none⟩) (by show w.heap.size < _; have := h.1.2; omega)).trans h.2.1, (hb.cell (p := ⟨w.heap.size, 1, none⟩) (by show w.heap.size < _; have := h.1.2; omega)).trans h.2.2⟩
      have hks : ∀ {w' : World} {p : Nat}, ((Below w2.heap.size w2 w' ∧ w2.heap.size ≤ w'.heap.size) ∧ w'.cell? ⟨w.heap.size, 0, none⟩ = some (.int .i64 (n : Int)) ∧ w'.cell? ⟨w.heap.size, 1, none⟩ = some (.slice E m d)) → w2.heap.size ≤ p → ∀ v,
          ((Below w2.heap.size w2 (w'.setCell ⟨p, 0, none⟩ v) ∧ w2.heap.size ≤ (w'.setCell ⟨p, 0, none⟩ v).heap.size) ∧ (w'.setCell ⟨p, 0, none⟩ v).cell? ⟨w.heap.size, 0, none⟩ = some (.int .i64 (n : Int)) ∧ (w'.setCell ⟨p, 0, none⟩ v).cell? ⟨w.heap.size, 1, none⟩ = some (.slice E m d)) := fun {w' p} h hp v =>
        ⟨⟨h.1.1.setCell (p := ⟨p, 0, none⟩) hp v, by simpa [World.setCell] using h.1.2⟩, (World.cell?_setCell_other _ _ _ _ (by intro e; simp only [Addr.mk.injEq] at e; omega)).trans h.2.1, (World.cell?_setCell_other _ _ _ _ (by intro e; simp only [Addr.mk.injEq] at e; omega)).trans h.2.2⟩
      rw [hn, ← hm]
      obtain ⟨wA, rfl⟩ : ∃ wA, wA = w2 := ⟨_, rfl⟩
      have HN1 := Lib.hid hN1
      have HN4 := Lib.hid hN4
      have HTN := Lib.hid hTN
      clear hb2 hbx2 c0 c1 hN1 hN4 hTN hgw hn hnn hm
      go_upto_region 6 with (fail)
      go_cut [7, 8] (fun s7 s8 w' => ∃ p8 nb nd bb bd, s7 = .slice (some ⟨nb, 0, none⟩) n nd ∧ s8 = .pointer (some ⟨p8, 0, none⟩) ∧ w'.cell? ⟨p8, 0, none⟩ = some (.slice (some ⟨bb, 0, none⟩) n bd) ∧ NextAt w' wA.heap.size (.slice (some ⟨nb, 0, none⟩) n nd) n (fun i => nxt g i) ∧ NextAt w' wA.heap.size (.slice (some ⟨bb, 0, none⟩) n bd) n (fun i => nxt (turnE g) i) ∧ Below wA.heap.size wA w' ∧ wA.heap.size ≤ p8)
      case first =>
      -- begin region 6
        refine wp_region_held_drew (S := (fun w' => (Below wA.heap.size wA w' ∧ wA.heap.size ≤ w'.heap.size) ∧ w'.cell? ⟨w.heap.size, 0, none⟩ = some (.int .i64 (n : Int)) ∧ w'.cell? ⟨w.heap.size, 1, none⟩ = some (.slice E m d))) (by kernel_rfl) ?xs (fun hHx => ?xr)
        case xs => exact ⟨⟨(Below.refl _ _).drew, Nat.le_refl _⟩, d0, d1⟩
        refine take_at (i := 0) (d := 27) (v := ?xv0) rfl (by rfl) (by kernel_rfl) (by kernel_rfl) (by kernel_rfl) (fun _ _ _ h => h) (Or.inl ⟨by rfl, ?xy0⟩) (by assumption) ?xr0
        case xy0 => intro w' hSw; obtain ⟨_, q1, q2⟩ := hSw; go_simp; (try with_reducible rfl)
        case' xr0 => simp only [Act.put, List.setIfInBounds_toArray, List.set_cons_zero, List.set_cons_succ]
        refine take_at (i := 2) (d := 29) (v := ?xv2) rfl (by rfl) (by kernel_rfl) (by kernel_rfl) (by kernel_rfl) (fun _ _ _ h => h) (Or.inl ⟨by rfl, ?xy2⟩) (by assumption) ?xr2
        case xy2 => intro w' hSw; obtain ⟨_, q1, q2⟩ := hSw; go_simp; (try with_reducible rfl)
        case' xr2 => simp only [Act.put, List.setIfInBounds_toArray, List.set_cons_zero, List.set_cons_succ]
        refine wpAnyH_ready (rs := [1, 5]) (by kernel_rfl) (by simp) ?xc
        refine AllReadyH.cons rfl (fun K hK => ?xb1) (AllReadyH.cons rfl (fun K hK => ?xb5) AllReadyH.nil)
        case xb1 =>
          go_simp
          go_at_call 48; refine (HN1.out _ hHx.1.1).mono ?_; rintro e w1 ⟨lo1, z1, d1, rfl, hn1, hb1, hlo1⟩
          refine hK.out _ _ ?xn1h (fun hHxn1 => ?xn1r)
          case xn1h => exact hkc hHx hb1
          case' xn1r => (clear hK K; try simp only [Act.put, List.setIfInBounds_toArray, List.set_cons_zero, List.set_cons_succ])
          refine wpAnyH_ready (rs := [3, 5]) (by kernel_rfl) (by simp) ?xn1c
          refine AllReadyH.cons rfl (fun K hK => ?xn1b3) (AllReadyH.cons rfl (fun K hK => ?xn1b5) AllReadyH.nil)
          case xn1b3 =>
            go_simp
            go_at_call 55; refine (HTN.out _ hHxn1.1.1).mono ?_; rintro e w3 ⟨b3, rfl, hg3, hb3⟩
            refine hK.out _ _ ?xn1n3h (fun hHxn1n3 => ?xn1n3r)
            case xn1n3h => exact hkc hHxn1 hb3
            case' xn1n3r => (clear hK K; try simp only [Act.put, List.setIfInBounds_toArray, List.set_cons_zero, List.set_cons_succ])
            refine wpAnyH_ready (rs := [4, 5]) (by kernel_rfl) (by simp) ?xn1n3c
            refine AllReadyH.cons rfl (fun K hK => ?xn1n3b4) (AllReadyH.cons rfl (fun K hK => ?xn1n3b5) AllReadyH.nil)
            case xn1n3b4 =>
              go_simp
              go_at_call 48; refine (HN4.out _ _ hg3).mono ?_; rintro e w4 ⟨lo4, z4, d4, rfl, hn4, hb4, hlo4⟩
              refine hK.out _ _ ?xn1n3n4h (fun hHxn1n3n4 => ?xn1n3n4r)
              case xn1n3n4h => exact hkc hHxn1n3 hb4
              case' xn1n3n4r => (clear hK K; try simp only [Act.put, List.setIfInBounds_toArray, List.set_cons_zero, List.set_cons_succ])
              refine wpAnyH_ready (rs := [5]) (by kernel_rfl) (by simp) ?xn1n3n4c
              refine AllReadyH.cons rfl (fun K hK => ?xn1n3n4b5) AllReadyH.nil
              go_simp
              refine hK.out _ _ ?xn1n3n4n5h (fun hHxn1n3n4n5 => ?xn1n3n4n5r)
              case xn1n3n4n5h => exact hkc hHxn1n3n4 ((Below.refl _ _).alloc (Nat.le_refl _) _)
              case' xn1n3n4n5r => (clear hK K; try simp only [Act.put, List.setIfInBounds_toArray, List.set_cons_zero, List.set_cons_succ])
              -- [1, 3, 4, 5]
              refine take_at (i := 6) (d := 7) (v := ?xn1n3n4n5v6) rfl (by rfl) (by kernel_rfl) (by kernel_rfl) (by kernel_rfl) (fun _ _ _ h => h) (Or.inl ⟨by rfl, ?xn1n3n4n5y6⟩) (by assumption) ?xn1n3n4n5r6
              case xn1n3n4n5y6 => intro w' hSw; obtain ⟨_, q1, q2⟩ := hSw; go_simp; (try with_reducible rfl)
              case' xn1n3n4n5r6 => simp only [Act.put, List.setIfInBounds_toArray, List.set_cons_zero, List.set_cons_succ]
              refine wpAnyH_ready (rs := [7]) (by kernel_rfl) (by simp) ?xn1n3n4n5c
              refine AllReadyH.cons rfl (fun K hK => ?xn1n3n4n5b7) AllReadyH.nil
              have bA : Below wA.heap.size wA ((w4).alloc (.cells #[.slice none 0 0] 45)) := ((((((Below.refl _ _).drew : Below wA.heap.size wA wA.drew).trans (hb1.mono ((Below.refl _ _).drew : Below wA.heap.size wA wA.drew).size)).trans (hb3.mono (((Below.refl _ _).drew : Below wA.heap.size wA wA.drew).trans (hb1.mono ((Below.refl _ _).drew : Below wA.heap.size wA wA.drew).size)).size)).trans (hb4.mono ((((Below.refl _ _).drew : Below wA.heap.size wA wA.drew).trans (hb1.mono ((Below.refl _ _).drew : Below wA.heap.size wA wA.drew).size)).trans (hb3.mono (((Below.refl _ _).drew : Below wA.heap.size wA wA.drew).trans (hb1.mono ((Below.refl _ _).drew : Below wA.heap.size wA wA.drew).size)).size)).size)).trans (((Below.refl _ _).alloc (Nat.le_refl _) (.cells #[.slice none 0 0] 45)).mono (((((Below.refl _ _).drew : Below wA.heap.size wA wA.drew).trans (hb1.mono ((Below.refl _ _).drew : Below wA.heap.size wA wA.drew).size)).trans (hb3.mono (((Below.refl _ _).drew : Below wA.heap.size wA wA.drew).trans (hb1.mono ((Below.refl _ _).drew : Below wA.heap.size wA wA.drew).size)).size)).trans (hb4.mono ((((Below.refl _ _).drew : Below wA.heap.size wA wA.drew).trans (hb1.mono ((Below.refl _ _).drew : Below wA.heap.size wA wA.drew).size)).trans (hb3.mono (((Below.refl _ _).drew : Below wA.heap.size wA wA.drew).trans (hb1.mono ((Below.refl _ _).drew : Below wA.heap.size wA wA.drew).size)).size)).size)).size))
              have b5 : Below (w4).heap.size w4 ((w4).alloc (.cells #[.slice none 0 0] 45)) := ((Below.refl _ _ : Below (w4).heap.size w4 w4).trans (((Below.refl _ _).alloc (Nat.le_refl _) (.cells #[.slice none 0 0] 45)).mono (Below.refl _ _ : Below (w4).heap.size w4 w4).size))
              obtain ⟨p8, hp8⟩ : ∃ p8, p8 = (w4).heap.size := ⟨_, rfl⟩
              have hpA : wA.heap.size ≤ p8 := by have h := ((((((Below.refl _ _).drew : Below wA.heap.size wA wA.drew).trans (hb1.mono ((Below.refl _ _).drew : Below wA.heap.size wA wA.drew).size)).trans (hb3.mono (((Below.refl _ _).drew : Below wA.heap.size wA wA.drew).trans (hb1.mono ((Below.refl _ _).drew : Below wA.heap.size wA wA.drew).size)).size)).trans (hb4.mono ((((Below.refl _ _).drew : Below wA.heap.size wA wA.drew).trans (hb1.mono ((Below.refl _ _).drew : Below wA.heap.size wA wA.drew).size)).trans (hb3.mono (((Below.refl _ _).drew : Below wA.heap.size wA wA.drew).trans (hb1.mono ((Below.refl _ _).drew : Below wA.heap.size wA wA.drew).size)).size)).size))).size; rw [hp8]; exact h
              have hpl : p8 < (((w4).alloc (.cells #[.slice none 0 0] 45))).heap.size := by have h := ((Below.refl _ _ : Below (((w4).alloc (.cells #[.slice none 0 0] 45))).heap.size ((w4).alloc (.cells #[.slice none 0 0] 45)) ((w4).alloc (.cells #[.slice none 0 0] 45)))).size; rw [al_size] at h; (try rw [al_size]); omega
              have hc8 : (((w4).alloc (.cells #[.slice none 0 0] 45))).cell? ⟨p8, 0, none⟩ = some (.slice none 0 0) := by rw [hp8]; exact (((Below.refl _ _ : Below (((w4).alloc (.cells #[.slice none 0 0] 45))).heap.size ((w4).alloc (.cells #[.slice none 0 0] 45)) ((w4).alloc (.cells #[.slice none 0 0] 45)))).cell (p := ⟨_, 0, none⟩) (by rw [al_size]; exact Nat.lt_succ_self _)).trans (by rw [cell_new]; rfl)
              have hz8 : (((w4).alloc (.cells #[.slice none 0 0] 45))).frozen? ⟨p8, 0, none⟩ = false := by rw [hp8]; exact (((Below.refl _ _ : Below (((w4).alloc (.cells #[.slice none 0 0] 45))).heap.size ((w4).alloc (.cells #[.slice none 0 0] 45)) ((w4).alloc (.cells #[.slice none 0 0] 45)))).frozen (p := ⟨_, 0, none⟩) (by rw [al_size]; exact Nat.lt_succ_self _)).trans (frozen_new _ _ _ _)
              have hx1 : ∀ v, NextAt ((((w4).alloc (.cells #[.slice none 0 0] 45))).setCell ⟨p8, 0, none⟩ v) wA.heap.size (.slice (some ⟨z1, 0, none⟩) n d1) n _ := fun v => (hn1.below ((((((Below.refl _ _ : Below (w1).heap.size w1 w1).trans (hb3.mono (Below.refl _ _ : Below (w1).heap.size w1 w1).size)).trans (hb4.mono ((Below.refl _ _ : Below (w1).heap.size w1 w1).trans (hb3.mono (Below.refl _ _ : Below (w1).heap.size w1 w1).size)).size)).trans (((Below.refl _ _).alloc (Nat.le_refl _) (.cells #[.slice none 0 0] 45)).mono (((Below.refl _ _ : Below (w1).heap.size w1 w1).trans (hb3.mono (Below.refl _ _ : Below (w1).heap.size w1 w1).size)).trans (hb4.mono ((Below.refl _ _ : Below (w1).heap.size w1 w1).trans (hb3.mono (Below.refl _ _ : Below (w1).heap.size w1 w1).size)).size)).size))).setCell (p := ⟨p8, 0, none⟩) (by have h := ((((Below.refl _ _ : Below (w1).heap.size w1 w1).trans (hb3.mono (Below.refl _ _ : Below (w1).heap.size w1 w1).size)).trans (hb4.mono ((Below.refl _ _ : Below (w1).heap.size w1 w1).trans (hb3.mono (Below.refl _ _ : Below (w1).heap.size w1 w1).size)).size))).size; rw [hp8]; exact h) v)).low (Nat.le_trans (((Below.refl _ _).drew : Below wA.heap.size wA wA.drew)).size hlo1)
              have hx4 : ∀ v, NextAt ((((w4).alloc (.cells #[.slice none 0 0] 45))).setCell ⟨p8, 0, none⟩ v) wA.heap.size (.slice (some ⟨z4, 0, none⟩) n d4) n _ := fun v => (hn4.below ((((Below.refl _ _ : Below (w4).heap.size w4 w4).trans (((Below.refl _ _).alloc (Nat.le_refl _) (.cells #[.slice none 0 0] 45)).mono (Below.refl _ _ : Below (w4).heap.size w4 w4).size))).setCell (p := ⟨p8, 0, none⟩) (by have h := ((Below.refl _ _ : Below (w4).heap.size w4 w4)).size; rw [hp8]; exact h) v)).low (Nat.le_trans (((((Below.refl _ _).drew : Below wA.heap.size wA wA.drew).trans (hb1.mono ((Below.refl _ _).drew : Below wA.heap.size wA wA.drew).size)).trans (hb3.mono (((Below.refl _ _).drew : Below wA.heap.size wA wA.drew).trans (hb1.mono ((Below.refl _ _).drew : Below wA.heap.size wA wA.drew).size)).size))).size hlo4)
              have HX1 := Lib.hid hx1
              have HX4 := Lib.hid hx4
              have HBA := Lib.hid bA
              first | rw [← hp8] | rw [show wA.heap.size = p8 from hp8.symm]
              clear hx1 hx4 bA b5 hp8
              go_simp
              refine hK.out _ _ ?xn1n3n4n5h7 (fun hH7xn1n3n4n5 => ?xn1n3n4n5r7)
              case xn1n3n4n5h7 => exact hks hHxn1n3n4n5 hpA _
              case' xn1n3n4n5r7 => (clear hK K; try simp only [Act.put, List.setIfInBounds_toArray, List.set_cons_zero, List.set_cons_succ])
              refine wpAnyH_done (by kernel_rfl) ?xn1n3n4n5z _
              go_wp2_with fail
              go_meet
              exact ⟨p8, z1, d1, z4, d4, rfl, rfl, set_here _ _ _ _ _ hc8, HX1.out _, HX4.out _, HBA.out.setCell (p := ⟨p8, 0, none⟩) hpA _, hpA⟩
            case xn1n3b5 =>
              go_simp
              refine hK.out _ _ ?xn1n3n5h (fun hHxn1n3n5 => ?xn1n3n5r)
              case xn1n3n5h => exact hkc hHxn1n3 ((Below.refl _ _).alloc (Nat.le_refl _) _)
              case' xn1n3n5r => (clear hK K; try simp only [Act.put, List.setIfInBounds_toArray, List.set_cons_zero, List.set_cons_succ])
              refine wpAnyH_ready (rs := [4]) (by kernel_rfl) (by simp) ?xn1n3n5c
              refine AllReadyH.cons rfl (fun K hK => ?xn1n3n5b4) AllReadyH.nil
              go_simp
              go_at_call 48; refine (HN4.out _ _ (hg3.below ((Below.refl _ _).alloc (Nat.le_refl _) _))).mono ?_; rintro e w4 ⟨lo4, z4, d4, rfl, hn4, hb4, hlo4⟩
              refine hK.out _ _ ?xn1n3n5n4h (fun hHxn1n3n5n4 => ?xn1n3n5n4r)
              case xn1n3n5n4h => exact hkc hHxn1n3n5 hb4
              case' xn1n3n5n4r => (clear hK K; try simp only [Act.put, List.setIfInBounds_toArray, List.set_cons_zero, List.set_cons_succ])
              -- [1, 3, 5, 4]
              refine take_at (i := 6) (d := 7) (v := ?xn1n3n5n4v6) rfl (by rfl) (by kernel_rfl) (by kernel_rfl) (by kernel_rfl) (fun _ _ _ h => h) (Or.inl ⟨by rfl, ?xn1n3n5n4y6⟩) (by assumption) ?xn1n3n5n4r6
              case xn1n3n5n4y6 => intro w' hSw; obtain ⟨_, q1, q2⟩ := hSw; go_simp; (try with_reducible rfl)
              case' xn1n3n5n4r6 => simp only [Act.put, List.setIfInBounds_toArray, List.set_cons_zero, List.set_cons_succ]
              refine wpAnyH_ready (rs := [7]) (by kernel_rfl) (by simp) ?xn1n3n5n4c
              refine AllReadyH.cons rfl (fun K hK => ?xn1n3n5n4b7) AllReadyH.nil
              have bA : Below wA.heap.size wA w4 := ((((((Below.refl _ _).drew : Below wA.heap.size wA wA.drew).trans (hb1.mono ((Below.refl _ _).drew : Below wA.heap.size wA wA.drew).size)).trans (hb3.mono (((Below.refl _ _).drew : Below wA.heap.size wA wA.drew).trans (hb1.mono ((Below.refl _ _).drew : Below wA.heap.size wA wA.drew).size)).size)).trans (((Below.refl _ _).alloc (Nat.le_refl _) (.cells #[.slice none 0 0] 45)).mono ((((Below.refl _ _).drew : Below wA.heap.size wA wA.drew).trans (hb1.mono ((Below.refl _ _).drew : Below wA.heap.size wA wA.drew).size)).trans (hb3.mono (((Below.refl _ _).drew : Below wA.heap.size wA wA.drew).trans (hb1.mono ((Below.refl _ _).drew : Below wA.heap.size wA wA.drew).size)).size)).size)).trans (hb4.mono (((((Below.refl _ _).drew : Below wA.heap.size wA wA.drew).trans (hb1.mono ((Below.refl _ _).drew : Below wA.heap.size wA wA.drew).size)).trans (hb3.mono (((Below.refl _ _).drew : Below wA.heap.size wA wA.drew).trans (hb1.mono ((Below.refl _ _).drew : Below wA.heap.size wA wA.drew).size)).size)).trans (((Below.refl _ _).alloc (Nat.le_refl _) (.cells #[.slice none 0 0] 45)).mono ((((Below.refl _ _).drew : Below wA.heap.size wA wA.drew).trans (hb1.mono ((Below.refl _ _).drew : Below wA.heap.size wA wA.drew).size)).trans (hb3.mono (((Below.refl _ _).drew : Below wA.heap.size wA wA.drew).trans (hb1.mono ((Below.refl _ _).drew : Below wA.heap.size wA wA.drew).size)).size)).size)).size))
              have b5 : Below (w3).heap.size w3 w4 := (((Below.refl _ _ : Below (w3).heap.size w3 w3).trans (((Below.refl _ _).alloc (Nat.le_refl _) (.cells #[.slice none 0 0] 45)).mono (Below.refl _ _ : Below (w3).heap.size w3 w3).size)).trans (hb4.mono ((Below.refl _ _ : Below (w3).heap.size w3 w3).trans (((Below.refl _ _).alloc (Nat.le_refl _) (.cells #[.slice none 0 0] 45)).mono (Below.refl _ _ : Below (w3).heap.size w3 w3).size)).size))
              obtain ⟨p8, hp8⟩ : ∃ p8, p8 = (w3).heap.size := ⟨_, rfl⟩
              have hpA : wA.heap.size ≤ p8 := by have h := (((((Below.refl _ _).drew : Below wA.heap.size wA wA.drew).trans (hb1.mono ((Below.refl _ _).drew : Below wA.heap.size wA wA.drew).size)).trans (hb3.mono (((Below.refl _ _).drew : Below wA.heap.size wA wA.drew).trans (hb1.mono ((Below.refl _ _).drew : Below wA.heap.size wA wA.drew).size)).size))).size; rw [hp8]; exact h
              have hpl : p8 < (w4).heap.size := by have h := (((Below.refl _ _ : Below (((w3).alloc (.cells #[.slice none 0 0] 45))).heap.size ((w3).alloc (.cells #[.slice none 0 0] 45)) ((w3).alloc (.cells #[.slice none 0 0] 45))).trans (hb4.mono (Below.refl _ _ : Below (((w3).alloc (.cells #[.slice none 0 0] 45))).heap.size ((w3).alloc (.cells #[.slice none 0 0] 45)) ((w3).alloc (.cells #[.slice none 0 0] 45))).size))).size; rw [al_size] at h; (try rw [al_size]); omega
              have hc8 : (w4).cell? ⟨p8, 0, none⟩ = some (.slice none 0 0) := by rw [hp8]; exact ((((Below.refl _ _ : Below (((w3).alloc (.cells #[.slice none 0 0] 45))).heap.size ((w3).alloc (.cells #[.slice none 0 0] 45)) ((w3).alloc (.cells #[.slice none 0 0] 45))).trans (hb4.mono (Below.refl _ _ : Below (((w3).alloc (.cells #[.slice none 0 0] 45))).heap.size ((w3).alloc (.cells #[.slice none 0 0] 45)) ((w3).alloc (.cells #[.slice none 0 0] 45))).size))).cell (p := ⟨_, 0, none⟩) (by rw [al_size]; exact Nat.lt_succ_self _)).trans (by rw [cell_new]; rfl)
              have hz8 : (w4).frozen? ⟨p8, 0, none⟩ = false := by rw [hp8]; exact ((((Below.refl _ _ : Below (((w3).alloc (.cells #[.slice none 0 0] 45))).heap.size ((w3).alloc (.cells #[.slice none 0 0] 45)) ((w3).alloc (.cells #[.slice none 0 0] 45))).trans (hb4.mono (Below.refl _ _ : Below (((w3).alloc (.cells #[.slice none 0 0] 45))).heap.size ((w3).alloc (.cells #[.slice none 0 0] 45)) ((w3).alloc (.cells #[.slice none 0 0] 45))).size))).frozen (p := ⟨_, 0, none⟩) (by rw [al_size]; exact Nat.lt_succ_self _)).trans (frozen_new _ _ _ _)
              have hx1 : ∀ v, NextAt ((w4).setCell ⟨p8, 0, none⟩ v) wA.heap.size (.slice (some ⟨z1, 0, none⟩) n d1) n _ := fun v => (hn1.below ((((((Below.refl _ _ : Below (w1).heap.size w1 w1).trans (hb3.mono (Below.refl _ _ : Below (w1).heap.size w1 w1).size)).trans (((Below.refl _ _).alloc (Nat.le_refl _) (.cells #[.slice none 0 0] 45)).mono ((Below.refl _ _ : Below (w1).heap.size w1 w1).trans (hb3.mono (Below.refl _ _ : Below (w1).heap.size w1 w1).size)).size)).trans (hb4.mono (((Below.refl _ _ : Below (w1).heap.size w1 w1).trans (hb3.mono (Below.refl _ _ : Below (w1).heap.size w1 w1).size)).trans (((Below.refl _ _).alloc (Nat.le_refl _) (.cells #[.slice none 0 0] 45)).mono ((Below.refl _ _ : Below (w1).heap.size w1 w1).trans (hb3.mono (Below.refl _ _ : Below (w1).heap.size w1 w1).size)).size)).size))).setCell (p := ⟨p8, 0, none⟩) (by have h := (((Below.refl _ _ : Below (w1).heap.size w1 w1).trans (hb3.mono (Below.refl _ _ : Below (w1).heap.size w1 w1).size))).size; rw [hp8]; exact h) v)).low (Nat.le_trans (((Below.refl _ _).drew : Below wA.heap.size wA wA.drew)).size hlo1)
              have hx4 : ∀ v, NextAt ((w4).setCell ⟨p8, 0, none⟩ v) wA.heap.size (.slice (some ⟨z4, 0, none⟩) n d4) n _ := fun v => ((hn4.below ((Below.refl _ _ : Below (w4).heap.size w4 w4))).moves (Moves.set (M := [p8]) _ ⟨p8, 0, none⟩ v (by simp)) (by have h := ((Below.refl _ _ : Below (((w3).alloc (.cells #[.slice none 0 0] 45))).heap.size ((w3).alloc (.cells #[.slice none 0 0] 45)) ((w3).alloc (.cells #[.slice none 0 0] 45)))).size; have h2 : (((w3).alloc (.cells #[.slice none 0 0] 45))).heap.size ≤ lo4 := hlo4; (try rw [al_size] at h); (try rw [al_size] at h2); intro k hk; rw [List.mem_singleton.1 hk]; left; omega)).low (Nat.le_trans ((((((Below.refl _ _).drew : Below wA.heap.size wA wA.drew).trans (hb1.mono ((Below.refl _ _).drew : Below wA.heap.size wA wA.drew).size)).trans (hb3.mono (((Below.refl _ _).drew : Below wA.heap.size wA wA.drew).trans (hb1.mono ((Below.refl _ _).drew : Below wA.heap.size wA wA.drew).size)).size)).trans (((Below.refl _ _).alloc (Nat.le_refl _) (.cells #[.slice none 0 0] 45)).mono ((((Below.refl _ _).drew : Below wA.heap.size wA wA.drew).trans (hb1.mono ((Below.refl _ _).drew : Below wA.heap.size wA wA.drew).size)).trans (hb3.mono (((Below.refl _ _).drew : Below wA.heap.size wA wA.drew).trans (hb1.mono ((Below.refl _ _).drew : Below wA.heap.size wA wA.drew).size)).size)).size))).size hlo4)
              have HX1 := Lib.hid hx1
              have HX4 := Lib.hid hx4
              have HBA := Lib.hid bA
              first | rw [← hp8] | rw [show wA.heap.size = p8 from hp8.symm]
              clear hx1 hx4 bA b5 hp8
              go_simp
              refine hK.out _ _ ?xn1n3n5n4h7 (fun hH7xn1n3n5n4 => ?xn1n3n5n4r7)
              case xn1n3n5n4h7 => exact hks hHxn1n3n5n4 hpA _
              case' xn1n3n5n4r7 => (clear hK K; try simp only [Act.put, List.setIfInBounds_toArray, List.set_cons_zero, List.set_cons_succ])
              refine wpAnyH_done (by kernel_rfl) ?xn1n3n5n4z _
              go_wp2_with fail
              go_meet
              exact ⟨p8, z1, d1, z4, d4, rfl, rfl, set_here _ _ _ _ _ hc8, HX1.out _, HX4.out _, HBA.out.setCell (p := ⟨p8, 0, none⟩) hpA _, hpA⟩
          case xn1b5 =>
            go_simp
            refine hK.out _ _ ?xn1n5h (fun hHxn1n5 => ?xn1n5r)
            case xn1n5h => exact hkc hHxn1 ((Below.refl _ _).alloc (Nat.le_refl _) _)
            case' xn1n5r => (clear hK K; try simp only [Act.put, List.setIfInBounds_toArray, List.set_cons_zero, List.set_cons_succ])
            refine wpAnyH_ready (rs := [3]) (by kernel_rfl) (by simp) ?xn1n5c
            refine AllReadyH.cons rfl (fun K hK => ?xn1n5b3) AllReadyH.nil
            go_simp
            go_at_call 55; refine (HTN.out _ hHxn1n5.1.1).mono ?_; rintro e w3 ⟨b3, rfl, hg3, hb3⟩
            refine hK.out _ _ ?xn1n5n3h (fun hHxn1n5n3 => ?xn1n5n3r)
            case xn1n5n3h => exact hkc hHxn1n5 hb3
            case' xn1n5n3r => (clear hK K; try simp only [Act.put, List.setIfInBounds_toArray, List.set_cons_zero, List.set_cons_succ])
            refine wpAnyH_ready (rs := [4]) (by kernel_rfl) (by simp) ?xn1n5n3c
            refine AllReadyH.cons rfl (fun K hK => ?xn1n5n3b4) AllReadyH.nil
            go_simp
            go_at_call 48; refine (HN4.out _ _ hg3).mono ?_; rintro e w4 ⟨lo4, z4, d4, rfl, hn4, hb4, hlo4⟩
            refine hK.out _ _ ?xn1n5n3n4h (fun hHxn1n5n3n4 => ?xn1n5n3n4r)
            case xn1n5n3n4h => exact hkc hHxn1n5n3 hb4
            case' xn1n5n3n4r => (clear hK K; try simp only [Act.put, List.setIfInBounds_toArray, List.set_cons_zero, List.set_cons_succ])
            -- [1, 5, 3, 4]
            refine take_at (i := 6) (d := 7) (v := ?xn1n5n3n4v6) rfl (by rfl) (by kernel_rfl) (by kernel_rfl) (by kernel_rfl) (fun _ _ _ h => h) (Or.inl ⟨by rfl, ?xn1n5n3n4y6⟩) (by assumption) ?xn1n5n3n4r6
            case xn1n5n3n4y6 => intro w' hSw; obtain ⟨_, q1, q2⟩ := hSw; go_simp; (try with_reducible rfl)
            case' xn1n5n3n4r6 => simp only [Act.put, List.setIfInBounds_toArray, List.set_cons_zero, List.set_cons_succ]
            refine wpAnyH_ready (rs := [7]) (by kernel_rfl) (by simp) ?xn1n5n3n4c
            refine AllReadyH.cons rfl (fun K hK => ?xn1n5n3n4b7) AllReadyH.nil
            have bA : Below wA.heap.size wA w4 := ((((((Below.refl _ _).drew : Below wA.heap.size wA wA.drew).trans (hb1.mono ((Below.refl _ _).drew : Below wA.heap.size wA wA.drew).size)).trans (((Below.refl _ _).alloc (Nat.le_refl _) (.cells #[.slice none 0 0] 45)).mono (((Below.refl _ _).drew : Below wA.heap.size wA wA.drew).trans (hb1.mono ((Below.refl _ _).drew : Below wA.heap.size wA wA.drew).size)).size)).trans (hb3.mono ((((Below.refl _ _).drew : Below wA.heap.size wA wA.drew).trans (hb1.mono ((Below.refl _ _).drew : Below wA.heap.size wA wA.drew).size)).trans (((Below.refl _ _).alloc (Nat.le_refl _) (.cells #[.slice none 0 0] 45)).mono (((Below.refl _ _).drew : Below wA.heap.size wA wA.drew).trans (hb1.mono ((Below.refl _ _).drew : Below wA.heap.size wA wA.drew).size)).size)).size)).trans (hb4.mono (((((Below.refl _ _).drew : Below wA.heap.size wA wA.drew).trans (hb1.mono ((Below.refl _ _).drew : Below wA.heap.size wA wA.drew).size)).trans (((Below.refl _ _).alloc (Nat.le_refl _) (.cells #[.slice none 0 0] 45)).mono (((Below.refl _ _).drew : Below wA.heap.size wA wA.drew).trans (hb1.mono ((Below.refl _ _).drew : Below wA.heap.size wA wA.drew).size)).size)).trans (hb3.mono ((((Below.refl _ _).drew : Below wA.heap.size wA wA.drew).trans (hb1.mono ((Below.refl _ _).drew : Below wA.heap.size wA wA.drew).size)).trans (((Below.refl _ _).alloc (Nat.le_refl _) (.cells #[.slice none 0 0] 45)).mono (((Below.refl _ _).drew : Below wA.heap.size wA wA.drew).trans (hb1.mono ((Below.refl _ _).drew : Below wA.heap.size wA wA.drew).size)).size)).size)).size))
            have b5 : Below (w1).heap.size w1 w4 := ((((Below.refl _ _ : Below (w1).heap.size w1 w1).trans (((Below.refl _ _).alloc (Nat.le_refl _) (.cells #[.slice none 0 0] 45)).mono (Below.refl _ _ : Below (w1).heap.size w1 w1).size)).trans (hb3.mono ((Below.refl _ _ : Below (w1).heap.size w1 w1).trans (((Below.refl _ _).alloc (Nat.le_refl _) (.cells #[.slice none 0 0] 45)).mono (Below.refl _ _ : Below (w1).heap.size w1 w1).size)).size)).trans (hb4.mono (((Below.refl _ _ : Below (w1).heap.size w1 w1).trans (((Below.refl _ _).alloc (Nat.le_refl _) (.cells #[.slice none 0 0] 45)).mono (Below.refl _ _ : Below (w1).heap.size w1 w1).size)).trans (hb3.mono ((Below.refl _ _ : Below (w1).heap.size w1 w1).trans (((Below.refl _ _).alloc (Nat.le_refl _) (.cells #[.slice none 0 0] 45)).mono (Below.refl _ _ : Below (w1).heap.size w1 w1).size)).size)).size))
            obtain ⟨p8, hp8⟩ : ∃ p8, p8 = (w1).heap.size := ⟨_, rfl⟩
            have hpA : wA.heap.size ≤ p8 := by have h := ((((Below.refl _ _).drew : Below wA.heap.size wA wA.drew).trans (hb1.mono ((Below.refl _ _).drew : Below wA.heap.size wA wA.drew).size))).size; rw [hp8]; exact h
            have hpl : p8 < (w4).heap.size := by have h := ((((Below.refl _ _ : Below (((w1).alloc (.cells #[.slice none 0 0] 45))).heap.size ((w1).alloc (.cells #[.slice none 0 0] 45)) ((w1).alloc (.cells #[.slice none 0 0] 45))).trans (hb3.mono (Below.refl _ _ : Below (((w1).alloc (.cells #[.slice none 0 0] 45))).heap.size ((w1).alloc (.cells #[.slice none 0 0] 45)) ((w1).alloc (.cells #[.slice none 0 0] 45))).size)).trans (hb4.mono ((Below.refl _ _ : Below (((w1).alloc (.cells #[.slice none 0 0] 45))).heap.size ((w1).alloc (.cells #[.slice none 0 0] 45)) ((w1).alloc (.cells #[.slice none 0 0] 45))).trans (hb3.mono (Below.refl _ _ : Below (((w1).alloc (.cells #[.slice none 0 0] 45))).heap.size ((w1).alloc (.cells #[.slice none 0 0] 45)) ((w1).alloc (.cells #[.slice none 0 0] 45))).size)).size))).size; rw [al_size] at h; (try rw [al_size]); omega
            have hc8 : (w4).cell? ⟨p8, 0, none⟩ = some (.slice none 0 0) := by rw [hp8]; exact (((((Below.refl _ _ : Below (((w1).alloc (.cells #[.slice none 0 0] 45))).heap.size ((w1).alloc (.cells #[.slice none 0 0] 45)) ((w1).alloc (.cells #[.slice none 0 0] 45))).trans (hb3.mono (Below.refl _ _ : Below (((w1).alloc (.cells #[.slice none 0 0] 45))).heap.size ((w1).alloc (.cells #[.slice none 0 0] 45)) ((w1).alloc (.cells #[.slice none 0 0] 45))).size)).trans (hb4.mono ((Below.refl _ _ : Below (((w1).alloc (.cells #[.slice none 0 0] 45))).heap.size ((w1).alloc (.cells #[.slice none 0 0] 45)) ((w1).alloc (.cells #[.slice none 0 0] 45))).trans (hb3.mono (Below.refl _ _ : Below (((w1).alloc (.cells #[.slice none 0 0] 45))).heap.size ((w1).alloc (.cells #[.slice none 0 0] 45)) ((w1).alloc (.cells #[.slice none 0 0] 45))).size)).size))).cell (p := ⟨_, 0, none⟩) (by rw [al_size]; exact Nat.lt_succ_self _)).trans (by rw [cell_new]; rfl)
            have hz8 : (w4).frozen? ⟨p8, 0, none⟩ = false := by rw [hp8]; exact (((((Below.refl _ _ : Below (((w1).alloc (.cells #[.slice none 0 0] 45))).heap.size ((w1).alloc (.cells #[.slice none 0 0] 45)) ((w1).alloc (.cells #[.slice none 0 0] 45))).trans (hb3.mono (Below.refl _ _ : Below (((w1).alloc (.cells #[.slice none 0 0] 45))).heap.size ((w1).alloc (.cells #[.slice none 0 0] 45)) ((w1).alloc (.cells #[.slice none 0 0] 45))).size)).trans (hb4.mono ((Below.refl _ _ : Below (((w1).alloc (.cells #[.slice none 0 0] 45))).heap.size ((w1).alloc (.cells #[.slice none 0 0] 45)) ((w1).alloc (.cells #[.slice none 0 0] 45))).trans (hb3.mono (Below.refl _ _ : Below (((w1).alloc (.cells #[.slice none 0 0] 45))).heap.size ((w1).alloc (.cells #[.slice none 0 0] 45)) ((w1).alloc (.cells #[.slice none 0 0] 45))).size)).size))).frozen (p := ⟨_, 0, none⟩) (by rw [al_size]; exact Nat.lt_succ_self _)).trans (frozen_new _ _ _ _)
            have hx1 : ∀ v, NextAt ((w4).setCell ⟨p8, 0, none⟩ v) wA.heap.size (.slice (some ⟨z1, 0, none⟩) n d1) n _ := fun v => (hn1.below ((((((Below.refl _ _ : Below (w1).heap.size w1 w1).trans (((Below.refl _ _).alloc (Nat.le_refl _) (.cells #[.slice none 0 0] 45)).mono (Below.refl _ _ : Below (w1).heap.size w1 w1).size)).trans (hb3.mono ((Below.refl _ _ : Below (w1).heap.size w1 w1).trans (((Below.refl _ _).alloc (Nat.le_refl _) (.cells #[.slice none 0 0] 45)).mono (Below.refl _ _ : Below (w1).heap.size w1 w1).size)).size)).trans (hb4.mono (((Below.refl _ _ : Below (w1).heap.size w1 w1).trans (((Below.refl _ _).alloc (Nat.le_refl _) (.cells #[.slice none 0 0] 45)).mono (Below.refl _ _ : Below (w1).heap.size w1 w1).size)).trans (hb3.mono ((Below.refl _ _ : Below (w1).heap.size w1 w1).trans (((Below.refl _ _).alloc (Nat.le_refl _) (.cells #[.slice none 0 0] 45)).mono (Below.refl _ _ : Below (w1).heap.size w1 w1).size)).size)).size))).setCell (p := ⟨p8, 0, none⟩) (by have h := ((Below.refl _ _ : Below (w1).heap.size w1 w1)).size; rw [hp8]; exact h) v)).low (Nat.le_trans (((Below.refl _ _).drew : Below wA.heap.size wA wA.drew)).size hlo1)
            have hx4 : ∀ v, NextAt ((w4).setCell ⟨p8, 0, none⟩ v) wA.heap.size (.slice (some ⟨z4, 0, none⟩) n d4) n _ := fun v => ((hn4.below ((Below.refl _ _ : Below (w4).heap.size w4 w4))).moves (Moves.set (M := [p8]) _ ⟨p8, 0, none⟩ v (by simp)) (by have h := (((Below.refl _ _ : Below (((w1).alloc (.cells #[.slice none 0 0] 45))).heap.size ((w1).alloc (.cells #[.slice none 0 0] 45)) ((w1).alloc (.cells #[.slice none 0 0] 45))).trans (hb3.mono (Below.refl _ _ : Below (((w1).alloc (.cells #[.slice none 0 0] 45))).heap.size ((w1).alloc (.cells #[.slice none 0 0] 45)) ((w1).alloc (.cells #[.slice none 0 0] 45))).size))).size; have h2 : (w3).heap.size ≤ lo4 := hlo4; (try rw [al_size] at h); (try rw [al_size] at h2); intro k hk; rw [List.mem_singleton.1 hk]; left; omega)).low (Nat.le_trans ((((((Below.refl _ _).drew : Below wA.heap.size wA wA.drew).trans (hb1.mono ((Below.refl _ _).drew : Below wA.heap.size wA wA.drew).size)).trans (((Below.refl _ _).alloc (Nat.le_refl _) (.cells #[.slice none 0 0] 45)).mono (((Below.refl _ _).drew : Below wA.heap.size wA wA.drew).trans (hb1.mono ((Below.refl _ _).drew : Below wA.heap.size wA wA.drew).size)).size)).trans (hb3.mono ((((Below.refl _ _).drew : Below wA.heap.size wA wA.drew).trans (hb1.mono ((Below.refl _ _).drew : Below wA.heap.size wA wA.drew).size)).trans (((Below.refl _ _).alloc (Nat.le_refl _) (.cells #[.slice none 0 0] 45)).mono (((Below.refl _ _).drew : Below wA.heap.size wA wA.drew).trans (hb1.mono ((Below.refl _ _).drew : Below wA.heap.size wA wA.drew).size)).size)).size))).size hlo4)
            have HX1 := Lib.hid hx1
            have HX4 := Lib.hid hx4
            have HBA := Lib.hid bA
            first | rw [← hp8] | rw [show wA.heap.size = p8 from hp8.symm]
            clear hx1 hx4 bA b5 hp8
            go_simp
            refine hK.out _ _ ?xn1n5n3n4h7 (fun hH7xn1n5n3n4 => ?xn1n5n3n4r7)
            case xn1n5n3n4h7 => exact hks hHxn1n5n3n4 hpA _
            case' xn1n5n3n4r7 => (clear hK K; try simp only [Act.put, List.setIfInBounds_toArray, List.set_cons_zero, List.set_cons_succ])
            refine wpAnyH_done (by kernel_rfl) ?xn1n5n3n4z _
            go_wp2_with fail
            go_meet
            exact ⟨p8, z1, d1, z4, d4, rfl, rfl, set_here _ _ _ _ _ hc8, HX1.out _, HX4.out _, HBA.out.setCell (p := ⟨p8, 0, none⟩) hpA _, hpA⟩
        case xb5 =>
          go_simp
          refine hK.out _ _ ?xn5h (fun hHxn5 => ?xn5r)
          case xn5h => exact hkc hHx ((Below.refl _ _).alloc (Nat.le_refl _) _)
          case' xn5r => (clear hK K; try simp only [Act.put, List.setIfInBounds_toArray, List.set_cons_zero, List.set_cons_succ])
          refine wpAnyH_ready (rs := [1]) (by kernel_rfl) (by simp) ?xn5c
          refine AllReadyH.cons rfl (fun K hK => ?xn5b1) AllReadyH.nil
          go_simp
          go_at_call 48; refine (HN1.out _ hHxn5.1.1).mono ?_; rintro e w1 ⟨lo1, z1, d1, rfl, hn1, hb1, hlo1⟩
          refine hK.out _ _ ?xn5n1h (fun hHxn5n1 => ?xn5n1r)
          case xn5n1h => exact hkc hHxn5 hb1
          case' xn5n1r => (clear hK K; try simp only [Act.put, List.setIfInBounds_toArray, List.set_cons_zero, List.set_cons_succ])
          refine wpAnyH_ready (rs := [3]) (by kernel_rfl) (by simp) ?xn5n1c
          refine AllReadyH.cons rfl (fun K hK => ?xn5n1b3) AllReadyH.nil
          go_simp
          go_at_call 55; refine (HTN.out _ hHxn5n1.1.1).mono ?_; rintro e w3 ⟨b3, rfl, hg3, hb3⟩
          refine hK.out _ _ ?xn5n1n3h (fun hHxn5n1n3 => ?xn5n1n3r)
          case xn5n1n3h => exact hkc hHxn5n1 hb3
          case' xn5n1n3r => (clear hK K; try simp only [Act.put, List.setIfInBounds_toArray, List.set_cons_zero, List.set_cons_succ])
          refine wpAnyH_ready (rs := [4]) (by kernel_rfl) (by simp) ?xn5n1n3c
          refine AllReadyH.cons rfl (fun K hK => ?xn5n1n3b4) AllReadyH.nil
          go_simp
          go_at_call 48; refine (HN4.out _ _ hg3).mono ?_; rintro e w4 ⟨lo4, z4, d4, rfl, hn4, hb4, hlo4⟩
          refine hK.out _ _ ?xn5n1n3n4h (fun hHxn5n1n3n4 => ?xn5n1n3n4r)
          case xn5n1n3n4h => exact hkc hHxn5n1n3 hb4
          case' xn5n1n3n4r => (clear hK K; try simp only [Act.put, List.setIfInBounds_toArray, List.set_cons_zero, List.set_cons_succ])
          -- [5, 1, 3, 4]
          refine take_at (i := 6) (d := 7) (v := ?xn5n1n3n4v6) rfl (by rfl) (by kernel_rfl) (by kernel_rfl) (by kernel_rfl) (fun _ _ _ h => h) (Or.inl ⟨by rfl, ?xn5n1n3n4y6⟩) (by assumption) ?xn5n1n3n4r6
          case xn5n1n3n4y6 => intro w' hSw; obtain ⟨_, q1, q2⟩ := hSw; go_simp; (try with_reducible rfl)
          case' xn5n1n3n4r6 => simp only [Act.put, List.setIfInBounds_toArray, List.set_cons_zero, List.set_cons_succ]
          refine wpAnyH_ready (rs := [7]) (by kernel_rfl) (by simp) ?xn5n1n3n4c
          refine AllReadyH.cons rfl (fun K hK => ?xn5n1n3n4b7) AllReadyH.nil
          have bA : Below wA.heap.size wA w4 := ((((((Below.refl _ _).drew : Below wA.heap.size wA wA.drew).trans (((Below.refl _ _).alloc (Nat.le_refl _) (.cells #[.slice none 0 0] 45)).mono ((Below.refl _ _).drew : Below wA.heap.size wA wA.drew).size)).trans (hb1.mono (((Below.refl _ _).drew : Below wA.heap.size wA wA.drew).trans (((Below.refl _ _).alloc (Nat.le_refl _) (.cells #[.slice none 0 0] 45)).mono ((Below.refl _ _).drew : Below wA.heap.size wA wA.drew).size)).size)).trans (hb3.mono ((((Below.refl _ _).drew : Below wA.heap.size wA wA.drew).trans (((Below.refl _ _).alloc (Nat.le_refl _) (.cells #[.slice none 0 0] 45)).mono ((Below.refl _ _).drew : Below wA.heap.size wA wA.drew).size)).trans (hb1.mono (((Below.refl _ _).drew : Below wA.heap.size wA wA.drew).trans (((Below.refl _ _).alloc (Nat.le_refl _) (.cells #[.slice none 0 0] 45)).mono ((Below.refl _ _).drew : Below wA.heap.size wA wA.drew).size)).size)).size)).trans (hb4.mono (((((Below.refl _ _).drew : Below wA.heap.size wA wA.drew).trans (((Below.refl _ _).alloc (Nat.le_refl _) (.cells #[.slice none 0 0] 45)).mono ((Below.refl _ _).drew : Below wA.heap.size wA wA.drew).size)).trans (hb1.mono (((Below.refl _ _).drew : Below wA.heap.size wA wA.drew).trans (((Below.refl _ _).alloc (Nat.le_refl _) (.cells #[.slice none 0 0] 45)).mono ((Below.refl _ _).drew : Below wA.heap.size wA wA.drew).size)).size)).trans (hb3.mono ((((Below.refl _ _).drew : Below wA.heap.size wA wA.drew).trans (((Below.refl _ _).alloc (Nat.le_refl _) (.cells #[.slice none 0 0] 45)).mono ((Below.refl _ _).drew : Below wA.heap.size wA wA.drew).size)).trans (hb1.mono (((Below.refl _ _).drew : Below wA.heap.size wA wA.drew).trans (((Below.refl _ _).alloc (Nat.le_refl _) (.cells #[.slice none 0 0] 45)).mono ((Below.refl _ _).drew : Below wA.heap.size wA wA.drew).size)).size)).size)).size))
          have b5 : Below (wA.drew).heap.size wA.drew w4 := (((((Below.refl _ _ : Below (wA.drew).heap.size wA.drew wA.drew).trans (((Below.refl _ _).alloc (Nat.le_refl _) (.cells #[.slice none 0 0] 45)).mono (Below.refl _ _ : Below (wA.drew).heap.size wA.drew wA.drew).size)).trans (hb1.mono ((Below.refl _ _ : Below (wA.drew).heap.size wA.drew wA.drew).trans (((Below.refl _ _).alloc (Nat.le_refl _) (.cells #[.slice none 0 0] 45)).mono (Below.refl _ _ : Below (wA.drew).heap.size wA.drew wA.drew).size)).size)).trans (hb3.mono (((Below.refl _ _ : Below (wA.drew).heap.size wA.drew wA.drew).trans (((Below.refl _ _).alloc (Nat.le_refl _) (.cells #[.slice none 0 0] 45)).mono (Below.refl _ _ : Below (wA.drew).heap.size wA.drew wA.drew).size)).trans (hb1.mono ((Below.refl _ _ : Below (wA.drew).heap.size wA.drew wA.drew).trans (((Below.refl _ _).alloc (Nat.le_refl _) (.cells #[.slice none 0 0] 45)).mono (Below.refl _ _ : Below (wA.drew).heap.size wA.drew wA.drew).size)).size)).size)).trans (hb4.mono ((((Below.refl _ _ : Below (wA.drew).heap.size wA.drew wA.drew).trans (((Below.refl _ _).alloc (Nat.le_refl _) (.cells #[.slice none 0 0] 45)).mono (Below.refl _ _ : Below (wA.drew).heap.size wA.drew wA.drew).size)).trans (hb1.mono ((Below.refl _ _ : Below (wA.drew).heap.size wA.drew wA.drew).trans (((Below.refl _ _).alloc (Nat.le_refl _) (.cells #[.slice none 0 0] 45)).mono (Below.refl _ _ : Below (wA.drew).heap.size wA.drew wA.drew).size)).size)).trans (hb3.mono (((Below.refl _ _ : Below (wA.drew).heap.size wA.drew wA.drew).trans (((Below.refl _ _).alloc (Nat.le_refl _) (.cells #[.slice none 0 0] 45)).mono (Below.refl _ _ : Below (wA.drew).heap.size wA.drew wA.drew).size)).trans (hb1.mono ((Below.refl _ _ : Below (wA.drew).heap.size wA.drew wA.drew).trans (((Below.refl _ _).alloc (Nat.le_refl _) (.cells #[.slice none 0 0] 45)).mono (Below.refl _ _ : Below (wA.drew).heap.size wA.drew wA.drew).size)).size)).size)).size))
          obtain ⟨p8, hp8⟩ : ∃ p8, p8 = (wA.drew).heap.size := ⟨_, rfl⟩
          have hpA : wA.heap.size ≤ p8 := by have h := (((Below.refl _ _).drew : Below wA.heap.size wA wA.drew)).size; rw [hp8]; exact h
          have hpl : p8 < (w4).heap.size := by have h := (((((Below.refl _ _ : Below (((wA.drew).alloc (.cells #[.slice none 0 0] 45))).heap.size ((wA.drew).alloc (.cells #[.slice none 0 0] 45)) ((wA.drew).alloc (.cells #[.slice none 0 0] 45))).trans (hb1.mono (Below.refl _ _ : Below (((wA.drew).alloc (.cells #[.slice none 0 0] 45))).heap.size ((wA.drew).alloc (.cells #[.slice none 0 0] 45)) ((wA.drew).alloc (.cells #[.slice none 0 0] 45))).size)).trans (hb3.mono ((Below.refl _ _ : Below (((wA.drew).alloc (.cells #[.slice none 0 0] 45))).heap.size ((wA.drew).alloc (.cells #[.slice none 0 0] 45)) ((wA.drew).alloc (.cells #[.slice none 0 0] 45))).trans (hb1.mono (Below.refl _ _ : Below (((wA.drew).alloc (.cells #[.slice none 0 0] 45))).heap.size ((wA.drew).alloc (.cells #[.slice none 0 0] 45)) ((wA.drew).alloc (.cells #[.slice none 0 0] 45))).size)).size)).trans (hb4.mono (((Below.refl _ _ : Below (((wA.drew).alloc (.cells #[.slice none 0 0] 45))).heap.size ((wA.drew).alloc (.cells #[.slice none 0 0] 45)) ((wA.drew).alloc (.cells #[.slice none 0 0] 45))).trans (hb1.mono (Below.refl _ _ : Below (((wA.drew).alloc (.cells #[.slice none 0 0] 45))).heap.size ((wA.drew).alloc (.cells #[.slice none 0 0] 45)) ((wA.drew).alloc (.cells #[.slice none 0 0] 45))).size)).trans (hb3.mono ((Below.refl _ _ : Below (((wA.drew).alloc (.cells #[.slice none 0 0] 45))).heap.size ((wA.drew).alloc (.cells #[.slice none 0 0] 45)) ((wA.drew).alloc (.cells #[.slice none 0 0] 45))).trans (hb1.mono (Below.refl _ _ : Below (((wA.drew).alloc (.cells #[.slice none 0 0] 45))).heap.size ((wA.drew).alloc (.cells #[.slice none 0 0] 45)) ((wA.drew).alloc (.cells #[.slice none 0 0] 45))).size)).size)).size))).size; rw [al_size] at h; (try rw [al_size]); omega
          have hc8 : (w4).cell? ⟨p8, 0, none⟩ = some (.slice none 0 0) := by rw [hp8]; exact ((((((Below.refl _ _ : Below (((wA.drew).alloc (.cells #[.slice none 0 0] 45))).heap.size ((wA.drew).alloc (.cells #[.slice none 0 0] 45)) ((wA.drew).alloc (.cells #[.slice none 0 0] 45))).trans (hb1.mono (Below.refl _ _ : Below (((wA.drew).alloc (.cells #[.slice none 0 0] 45))).heap.size ((wA.drew).alloc (.cells #[.slice none 0 0] 45)) ((wA.drew).alloc (.cells #[.slice none 0 0] 45))).size)).trans (hb3.mono ((Below.refl _ _ : Below (((wA.drew).alloc (.cells #[.slice none 0 0] 45))).heap.size ((wA.drew).alloc (.cells #[.slice none 0 0] 45)) ((wA.drew).alloc (.cells #[.slice none 0 0] 45))).trans (hb1.mono (Below.refl _ _ : Below (((wA.drew).alloc (.cells #[.slice none 0 0] 45))).heap.size ((wA.drew).alloc (.cells #[.slice none 0 0] 45)) ((wA.drew).alloc (.cells #[.slice none 0 0] 45))).size)).size)).trans (hb4.mono (((Below.refl _ _ : Below (((wA.drew).alloc (.cells #[.slice none 0 0] 45))).heap.size ((wA.drew).alloc (.cells #[.slice none 0 0] 45)) ((wA.drew).alloc (.cells #[.slice none 0 0] 45))).trans (hb1.mono (Below.refl _ _ : Below (((wA.drew).alloc (.cells #[.slice none 0 0] 45))).heap.size ((wA.drew).alloc (.cells #[.slice none 0 0] 45)) ((wA.drew).alloc (.cells #[.slice none 0 0] 45))).size)).trans (hb3.mono ((Below.refl _ _ : Below (((wA.drew).alloc (.cells #[.slice none 0 0] 45))).heap.size ((wA.drew).alloc (.cells #[.slice none 0 0] 45)) ((wA.drew).alloc (.cells #[.slice none 0 0] 45))).trans (hb1.mono (Below.refl _ _ : Below (((wA.drew).alloc (.cells #[.slice none 0 0] 45))).heap.size ((wA.drew).alloc (.cells #[.slice none 0 0] 45)) ((wA.drew).alloc (.cells #[.slice none 0 0] 45))).size)).size)).size))).cell (p := ⟨_, 0, none⟩) (by rw [al_size]; exact Nat.lt_succ_self _)).trans (by rw [cell_new]; rfl)
          have hz8 : (w4).frozen? ⟨p8, 0, none⟩ = false := by rw [hp8]; exact ((((((Below.refl _ _ : Below (((wA.drew).alloc (.cells #[.slice none 0 0] 45))).heap.size ((wA.drew).alloc (.cells #[.slice none 0 0] 45)) ((wA.drew).alloc (.cells #[.slice none 0 0] 45))).trans (hb1.mono (Below.refl _ _ : Below (((wA.drew).alloc (.cells #[.slice none 0 0] 45))).heap.size ((wA.drew).alloc (.cells #[.slice none 0 0] 45)) ((wA.drew).alloc (.cells #[.slice none 0 0] 45))).size)).trans (hb3.mono ((Below.refl _ _ : Below (((wA.drew).alloc (.cells #[.slice none 0 0] 45))).heap.size ((wA.drew).alloc (.cells #[.slice none 0 0] 45)) ((wA.drew).alloc (.cells #[.slice none 0 0] 45))).trans (hb1.mono (Below.refl _ _ : Below (((wA.drew).alloc (.cells #[.slice none 0 0] 45))).heap.size ((wA.drew).alloc (.cells #[.slice none 0 0] 45)) ((wA.drew).alloc (.cells #[.slice none 0 0] 45))).size)).size)).trans (hb4.mono (((Below.refl _ _ : Below (((wA.drew).alloc (.cells #[.slice none 0 0] 45))).heap.size ((wA.drew).alloc (.cells #[.slice none 0 0] 45)) ((wA.drew).alloc (.cells #[.slice none 0 0] 45))).trans (hb1.mono (Below.refl _ _ : Below (((wA.drew).alloc (.cells #[.slice none 0 0] 45))).heap.size ((wA.drew).alloc (.cells #[.slice none 0 0] 45)) ((wA.drew).alloc (.cells #[.slice none 0 0] 45))).size)).trans (hb3.mono ((Below.refl _ _ : Below (((wA.drew).alloc (.cells #[.slice none 0 0] 45))).heap.size ((wA.drew).alloc (.cells #[.slice none 0 0] 45)) ((wA.drew).alloc (.cells #[.slice none 0 0] 45))).trans (hb1.mono (Below.refl _ _ : Below (((wA.drew).alloc (.cells #[.slice none 0 0] 45))).heap.size ((wA.drew).alloc (.cells #[.slice none 0 0] 45)) ((wA.drew).alloc (.cells #[.slice none 0 0] 45))).size)).size)).size))).frozen (p := ⟨_, 0, none⟩) (by rw [al_size]; exact Nat.lt_succ_self _)).trans (frozen_new _ _ _ _)
          have hx1 : ∀ v, NextAt ((w4).setCell ⟨p8, 0, none⟩ v) wA.heap.size (.slice (some ⟨z1, 0, none⟩) n d1) n _ := fun v => ((hn1.below ((((Below.refl _ _ : Below (w1).heap.size w1 w1).trans (hb3.mono (Below.refl _ _ : Below (w1).heap.size w1 w1).size)).trans (hb4.mono ((Below.refl _ _ : Below (w1).heap.size w1 w1).trans (hb3.mono (Below.refl _ _ : Below (w1).heap.size w1 w1).size)).size)))).moves (Moves.set (M := [p8]) _ ⟨p8, 0, none⟩ v (by simp)) (by have h := ((Below.refl _ _ : Below (((wA.drew).alloc (.cells #[.slice none 0 0] 45))).heap.size ((wA.drew).alloc (.cells #[.slice none 0 0] 45)) ((wA.drew).alloc (.cells #[.slice none 0 0] 45)))).size; have h2 : (((wA.drew).alloc (.cells #[.slice none 0 0] 45))).heap.size ≤ lo1 := hlo1; (try rw [al_size] at h); (try rw [al_size] at h2); intro k hk; rw [List.mem_singleton.1 hk]; left; omega)).low (Nat.le_trans ((((Below.refl _ _).drew : Below wA.heap.size wA wA.drew).trans (((Below.refl _ _).alloc (Nat.le_refl _) (.cells #[.slice none 0 0] 45)).mono ((Below.refl _ _).drew : Below wA.heap.size wA wA.drew).size))).size hlo1)
          have hx4 : ∀ v, NextAt ((w4).setCell ⟨p8, 0, none⟩ v) wA.heap.size (.slice (some ⟨z4, 0, none⟩) n d4) n _ := fun v => ((hn4.below ((Below.refl _ _ : Below (w4).heap.size w4 w4))).moves (Moves.set (M := [p8]) _ ⟨p8, 0, none⟩ v (by simp)) (by have h := ((((Below.refl _ _ : Below (((wA.drew).alloc (.cells #[.slice none 0 0] 45))).heap.size ((wA.drew).alloc (.cells #[.slice none 0 0] 45)) ((wA.drew).alloc (.cells #[.slice none 0 0] 45))).trans (hb1.mono (Below.refl _ _ : Below (((wA.drew).alloc (.cells #[.slice none 0 0] 45))).heap.size ((wA.drew).alloc (.cells #[.slice none 0 0] 45)) ((wA.drew).alloc (.cells #[.slice none 0 0] 45))).size)).trans (hb3.mono ((Below.refl _ _ : Below (((wA.drew).alloc (.cells #[.slice none 0 0] 45))).heap.size ((wA.drew).alloc (.cells #[.slice none 0 0] 45)) ((wA.drew).alloc (.cells #[.slice none 0 0] 45))).trans (hb1.mono (Below.refl _ _ : Below (((wA.drew).alloc (.cells #[.slice none 0 0] 45))).heap.size ((wA.drew).alloc (.cells #[.slice none 0 0] 45)) ((wA.drew).alloc (.cells #[.slice none 0 0] 45))).size)).size))).size; have h2 : (w3).heap.size ≤ lo4 := hlo4; (try rw [al_size] at h); (try rw [al_size] at h2); intro k hk; rw [List.mem_singleton.1 hk]; left; omega)).low (Nat.le_trans ((((((Below.refl _ _).drew : Below wA.heap.size wA wA.drew).trans (((Below.refl _ _).alloc (Nat.le_refl _) (.cells #[.slice none 0 0] 45)).mono ((Below.refl _ _).drew : Below wA.heap.size wA wA.drew).size)).trans (hb1.mono (((Below.refl _ _).drew : Below wA.heap.size wA wA.drew).trans (((Below.refl _ _).alloc (Nat.le_refl _) (.cells #[.slice none 0 0] 45)).mono ((Below.refl _ _).drew : Below wA.heap.size wA wA.drew).size)).size)).trans (hb3.mono ((((Below.refl _ _).drew : Below wA.heap.size wA wA.drew).trans (((Below.refl _ _).alloc (Nat.le_refl _) (.cells #[.slice none 0 0] 45)).mono ((Below.refl _ _).drew : Below wA.heap.size wA wA.drew).size)).trans (hb1.mono (((Below.refl _ _).drew : Below wA.heap.size wA wA.drew).trans (((Below.refl _ _).alloc (Nat.le_refl _) (.cells #[.slice none 0 0] 45)).mono ((Below.refl _ _).drew : Below wA.heap.size wA wA.drew).size)).size)).size))).size hlo4)
          have HX1 := Lib.hid hx1
          have HX4 := Lib.hid hx4
          have HBA := Lib.hid bA
          first | rw [← hp8] | rw [show wA.heap.size = p8 from hp8.symm]
          clear hx1 hx4 bA b5 hp8
          go_simp
          refine hK.out _ _ ?xn5n1n3n4h7 (fun hH7xn5n1n3n4 => ?xn5n1n3n4r7)
          case xn5n1n3n4h7 => exact hks hHxn5n1n3n4 hpA _
          case' xn5n1n3n4r7 => (clear hK K; try simp only [Act.put, List.setIfInBounds_toArray, List.set_cons_zero, List.set_cons_succ])
          refine wpAnyH_done (by kernel_rfl) ?xn5n1n3n4z _
          go_wp2_with fail
          go_meet
          exact ⟨p8, z1, d1, z4, d4, rfl, rfl, set_here _ _ _ _ _ hc8, HX1.out _, HX4.out _, HBA.out.setCell (p := ⟨p8, 0, none⟩) hpA _, hpA⟩
      -- end region 6
      case rest =>
        obtain ⟨p8, nb, nd, bb, bd, rfl, rfl, c8, hx1, hx4, hbA, hpA⟩ := hcut
        have d0' := (hbA.cell (p := ⟨w.heap.size, 0, none⟩) hbxl).trans d0
        have hp8l : p8 < wc.heap.size := World.block_lt_of_cell? wc _ c8
        have hmk : ∀ W : World, (Instr.makeSlice 25 (.int .i64 (n : Int)) (.int .i64 (n : Int))).run Try.prog W = .ok (.slice (some ⟨W.heap.size, 0, none⟩) n n) (W.alloc (.cells (madeCells #[.int .i64 0] n) 3)) :=
          fun W => run_make_row' 25 3 (.int .i64 0) 8 Try.underlying25 info_int rfl .i64 .i64 n (by omega) (by omega) W
        have HX1 := Lib.hid hx1
        have HX4 := Lib.hid hx4
        have HBA := Lib.hid hbA
        clear hx1 hx4 hbA HN1 HN4 HTN hkc hks d0 d1
        go_upto_region 8 with (fail)
        obtain ⟨w7, hw7⟩ : ∃ w7, w7 = (wc.alloc (.cells (madeCells #[.int .i64 0] n) 3)).alloc (.cells #[.slice (some ⟨wc.heap.size, 0, none⟩) n n] 25) := ⟨_, rfl⟩
        obtain ⟨fb, hfb⟩ : ∃ fb, fb = wc.heap.size := ⟨_, rfl⟩
        obtain ⟨p9, hp9⟩ : ∃ p9, p9 = wc.heap.size + 1 := ⟨_, rfl⟩
        have hf7 : NumAt w7 fb n (fun _ => 0) := by
          rw [hw7, hfb]; exact (num_made wc n _).moves (Moves.of_new [] ((Below.refl _ _).alloc (Nat.le_refl _) _)) (by simp)
        have hc9 : w7.cell? ⟨p9, 0, none⟩ = some (.slice (some ⟨fb, 0, none⟩) n n) := by
          have := cell_new (wc.alloc (.cells (madeCells #[.int .i64 0] n) 3)) #[.slice (some ⟨wc.heap.size, 0, none⟩) n n] 25 0
          rw [al_size] at this
          rw [hw7, hp9, hfb, this]; rfl
        have hb7 : Below wc.heap.size wc w7 := by
          have h1 : Below wc.heap.size wc (wc.alloc (.cells (madeCells #[.int .i64 0] n) 3)) := (Below.refl _ _).alloc (Nat.le_refl _) _
          rw [hw7]; exact h1.alloc h1.size _
        rw [← hw7, ← hp9, ← hfb]
        have hp9l : p9 < w7.heap.size := World.block_lt_of_cell? w7 _ hc9
        have HF7 := Lib.hid hf7
        have HB7 := Lib.hid hb7
        have HC9 := Lib.hid hc9
        have HFB := Lib.hid hfb
        have HP9 := Lib.hid hp9
        have hne9 : p9 ≠ fb := by omega
        have hne8 : p8 ≠ fb := by omega
        have HC8 := Lib.hid ((hb7.cell (p := ⟨p8, 0, none⟩) hp8l).trans c8)
        clear hw7 hf7 hb7 hfb hp9 c8 d0' hmk
        have hc9 := HC9.out
        go_wp2
        go_loopw [37] (fun i wr => ∃ j : Nat, i = .int .i64 j ∧ j ≤ n ∧ NumAt wr fb n (fun i => if i < j then -1 else 0) ∧ Moves [fb] w7 wr) (fun i _ => n - (intOf i).toNat)
        case atStart => exact ⟨0, rfl, by omega, HF7.out.congr (fun i _ => by simp), Moves.refl _ _⟩
        case round =>
          obtain ⟨j, rfl, hj, hnum, hmv⟩ := hrel
          have c9 := (hmv.cell hp9l (by simpa using hne9) 0).trans HC9.out
          by_cases hlt : j < n
          · have hj0 : (0 : Int) ≤ (j : Int) := by omega
            have hj1 : (j : Int) < (n : Int) := by omega
            have kj := hnum.2.1 j hlt
            have kz := hnum.2.2 j
            have hput : NumAt (wr.setCell ⟨fb, j, none⟩ (.int .i64 (-1))) fb n (fun i => if i < j + 1 then -1 else 0) := hnum.put hlt fun i _ => by
              by_cases e : i = j
              · subst e; simp
              · rw [if_neg e]
                by_cases h : i < j
                · rw [if_pos h, if_pos (by omega)]
                · rw [if_neg h, if_neg (by omega)]
            have hmv2 : Moves [fb] w7 (wr.setCell ⟨fb, j, none⟩ (.int .i64 (-1))) := hmv.trans (Moves.set _ _ _ (by simp))
            have HPUT := Lib.hid hput
            have HMV := Lib.hid hmv2
            clear hnum hput hmv hmv2
            go_wp2
            go_roundw
            case rel => exact ⟨j + 1, by go_num, by omega, HPUT.out, HMV.out⟩
            case measure => simp [intOf]; omega
          · have hge : ¬ (j : Int) < (n : Int) := by omega
            obtain rfl : j = n := by omega
            have hyn : y < j := by have := HXR.out; have := HN.out; omega
            have hy0 : (0 : Int) ≤ (y : Int) := by omega
            have hy1 : (y : Int) < (j : Int) := by omega
            have ky := hnum.2.1 y hyn
            have kz := hnum.2.2 y
            have hput : NumAt (wr.setCell ⟨fb, y, none⟩ (.int .i64 0)) fb j (fun i => far0 y i) := hnum.put hyn fun i hi => by
              unfold far0
              by_cases e : i = y
              · subst e; simp
              · rw [if_neg e, if_neg (by omega), if_pos hi]
            have hmv2 : Moves [fb] w7 (wr.setCell ⟨fb, y, none⟩ (.int .i64 0)) := hmv.trans (Moves.set _ _ _ (by simp))
            have HPUT := Lib.hid hput
            have HMV := Lib.hid hmv2
            clear hnum hput hmv hmv2 hge
            go_upto_region 14 with (fail)
            obtain ⟨wv, hwv⟩ : ∃ wv, wv = wr.setCell ⟨fb, y, none⟩ (.int .i64 0) := ⟨_, rfl⟩
            rw [← hwv] at HPUT HMV ⊢
            clear hwv ky kz
            have hp8v : p8 < w7.heap.size := World.block_lt_of_cell? w7 _ HC8.out
            have cv8 := (HMV.out.cell hp8v (by simpa using hne8) 0).trans HC8.out
            have cv9 := (HMV.out.cell hp9l (by simpa using hne9) 0).trans HC9.out
            have hfbc := HFB.out
            obtain ⟨ws, hws⟩ : ∃ ws, ws = wv.alloc (.cells #[.int .i64 (y : Int)] 3) := ⟨_, rfl⟩
            have hbs : Below wv.heap.size wv ws := by rw [hws]; exact (Below.refl _ _).alloc (Nat.le_refl _) _
            have hs8 := (hbs.cell (p := ⟨p8, 0, none⟩) (World.block_lt_of_cell? wv _ cv8)).trans cv8
            have hs9 := (hbs.cell (p := ⟨p9, 0, none⟩) (World.block_lt_of_cell? wv _ cv9)).trans cv9
            have hbv : Below wc.heap.size wc wv := HB7.out.trans (HMV.out.below (B := wc.heap.size) HB7.out.size (by simp; omega))
            have hb6 : Below wc.heap.size wc ws := hbv.trans (hbs.mono hbv.size)
            have hrs : RowAt ws (some ⟨wv.heap.size, 0, none⟩) (I [(y : Int)]) := by rw [hws]; exact row_lit 3 wv [(y : Int)]
            have hnumS : NumAt ws fb j (fun i => far0 y i) := HPUT.out.moves (Moves.of_new [] hbs) (by simp)
            obtain ⟨bb', bd', e4, _, hbbl, hrow4⟩ := HX4.out
            cases e4
            have hgt := good_turn HGOOD.out
            have hadjr : ∀ i : Nat, i < j → ∀ z ∈ nxt (turnE g) i, 0 ≤ z ∧ z < (j : Int) := fun i _ z hz => by
              have h := (HGOOD.out.all _ (mem_turnE.1 hz)).1
              simp only at h
              have := HN.out
              omega
            have hall : ∀ i : Nat, i < j → (nxt (turnE g) i).length ≤ 16384 := fun i _ => Nat.le_trans (nxt_length _ _) hgt.len
            have hreach := reach2_c (see2_c (x0 := (y : Int)) (ws := ws) (w6 := wc) hn4 hs8 hs9 hne8 hne9 hb6 (by omega) hbbl (fun i hi => by obtain ⟨Y, d', h1, h2, _⟩ := hrow4 i hi; exact ⟨Y, d', h1, h2⟩) hadjr hall) (w6 := wc) 1 (src := [(y : Int)]) (adj := nxt (turnE g))
              hn4 HX4.out hb6 (by simp; omega) (fun _ _ => rfl) hadjr hall hrs (by simp) (by simp; omega) ⟨rfl, Moves.refl _ _, hnumS⟩
            have hfar : farF (nxt (turnE g)) y (bfsF (nxt (turnE g)) j [(y : Int)]) = farG g y := by unfold farG; rw [HNN.out]
            have hbres : ∀ w', Moves [fb] ws w' → Below wc.heap.size wc w' := fun w' h => hb6.trans (h.below hb6.size (by simp; omega))
            have HREACH := Lib.hid hreach
            have HFAR := Lib.hid hfar
            have HBRES := Lib.hid hbres
            have HS9 := Lib.hid (And.intro hs9 (World.block_lt_of_cell? ws _ hs9))
            clear hreach hfar hbres hrow4 hadjr hall hgt hnumS hrs hb6 hbv hbs hs8 hs9 HPUT HMV hfbc
            go_wp2_with fail
            go_at_call 50
            rw [← hws]
            refine HREACH.out.mono ?_
            rintro e wf ⟨rfl, O', ⟨_, hmF, hnF⟩, _⟩
            rw [HFAR.out] at hnF
            have cf9 := (hmF.cell HS9.out.2 (by simpa using hne9) 0).trans HS9.out.1
            have hbF := HBRES.out wf hmF
            clear hws cv8 cv9
            have hfok := farG_ok HGOOD.out HXR.out
            obtain ⟨f, hf⟩ : ∃ f, f = farG g y := ⟨_, rfl⟩
            rw [← hf] at hnF HKK hfok
            obtain ⟨bn', bd', e1, _, hbnl, hrow1⟩ := HX1.out
            cases e1
            have hrowF : ∀ i : Nat, i < j → ∃ Y d, wf.cell? ⟨nb, i, none⟩ = some (.slice Y (nxt g i).length d) ∧ RowAt wf Y (I (nxt g i)) := fun i hi => by
              obtain ⟨Y, d', h1, h2, _⟩ := hrow1 i hi
              exact ⟨Y, d', (hbF.cell (p := ⟨nb, i, none⟩) hbnl).trans h1, h2.below hbF⟩
            have hnr : ∀ i : Nat, i < j → ∀ z ∈ nxt g i, 0 ≤ z ∧ z < (j : Int) := fun i _ z hz => by
              have h := (HGOOD.out.all _ (mem_nxt.1 hz)).2
              simp only at h
              have := HN.out
              omega
            have hnl : ∀ i : Nat, (nxt g i).length ≤ 16384 := fun i => Nat.le_trans (nxt_length _ _) hlen
            have hbd : ∀ z, -1 ≤ f z ∧ f z ≤ 4096 := fun z => by have := hfok.bd z; have := HN.out; omega
            obtain ⟨Y, dY, hcY, hrY⟩ := hrowF y hyn
            have hyr := hnr y hyn
            have hyl := hnl y
            have hb0 := best_spec f (nxt g y)
            obtain ⟨l, hl'⟩ : ∃ l, l = nxt g y := ⟨_, rfl⟩
            rw [← hl'] at hcY hrY hyr hyl HKK hb0
            have hBA : Below w.heap.size w wf := HBX2.out.bel.trans ((HBA.out.mono (Nat.le_of_lt hbxl)).trans (hbF.mono (by have := HBA.out.size; omega)))
            have HBAF := Lib.hid hBA
            have HNF := Lib.hid hnF
            have HROWF := Lib.hid hrowF
            have HNR := Lib.hid hnr
            have HNL := Lib.hid hnl
            have HBD := Lib.hid hbd
            have HRY := Lib.hid hrY
            have HYR := Lib.hid hyr
            have HB0 := Lib.hid hb0
            have HF := Lib.hid hf
            have HLE := Lib.hid hl'
            have HFO := Lib.hid hfok
            have HCF := Lib.hid cf9
            clear hnF hrowF hnr hnl hbd hrY hyr hf hl' hbF hmF hrow1 hbnl hBA hb0 hfok
            go_wp2
            go_loopw [11, 57] (fun tb i wr => ∃ q : Nat, i = .int .i64 q ∧ q ≤ l.length ∧ tb = .int .i64 (bestF f (l.take q)) ∧ wr = wf) (fun _ i _ => l.length - (intOf i).toNat)
            case atStart => exact ⟨0, rfl, by omega, rfl, rfl⟩
            case round =>
              obtain ⟨q, rfl, hq, rfl, hww⟩ := hrel
              obtain rfl : wf = wr := hww.symm
              by_cases hql : q < l.length
              · have hj0 : (0 : Int) ≤ (q : Int) := by omega
                have hj1 : (q : Int) < (l.length : Int) := by omega
                obtain ⟨b, off, rfl, hcj⟩ := HRY.out.int hql
                have hzr := HYR.out _ (List.getElem_mem hql)
                have hsn := bestF_snoc f (l.take q) l[q]
                rw [← List.take_succ_eq_append_getElem hql] at hsn
                obtain ⟨z, hz⟩ : ∃ z : Nat, l[q] = (z : Int) := ⟨l[q].toNat, by omega⟩
                rw [hz] at hcj hzr hsn
                have hzn : z < j := by omega
                have hz0 : (0 : Int) ≤ (z : Int) := by omega
                have hz1 : (z : Int) < (j : Int) := by omega
                have kz : wf.cell? ⟨fb, z, none⟩ = some (.int .i64 (f z)) := HNF.out.2.1 z hzn
                obtain ⟨fz, hfz⟩ : ∃ fz, fz = f z := ⟨_, rfl⟩
                obtain ⟨b0, hb0⟩ : ∃ b0, b0 = bestF f (l.take q) := ⟨_, rfl⟩
                rw [← hfz] at kz hsn
                rw [← hb0] at hsn ⊢
                have HSN := Lib.hid hsn
                clear hsn hz hzr hfz hb0 hzn
                by_cases h1 : 0 ≤ fz
                · by_cases h2 : b0 < 0
                  · go_wp2
                    go_roundw
                    case rel => exact ⟨q + 1, by go_num, by omega, by rw [HSN.out, if_pos ⟨h1, .inl h2⟩], trivial⟩
                    case measure => simp [intOf]; omega
                  · by_cases h3 : fz < b0
                    · go_wp2
                      go_roundw
                      case rel => exact ⟨q + 1, by go_num, by omega, by rw [HSN.out, if_pos ⟨h1, .inr h3⟩], trivial⟩
                      case measure => simp [intOf]; omega
                    · go_wp2
                      go_roundw
                      case rel => exact ⟨q + 1, by go_num, by omega, by rw [HSN.out, if_neg (fun h => h.2.elim h2 h3)], trivial⟩
                      case measure => simp [intOf]; omega
                · go_wp2
                  go_roundw
                  case rel => exact ⟨q + 1, by go_num, by omega, by rw [HSN.out, if_neg (fun h => h1 h.1)], trivial⟩
                  case measure => simp [intOf]; omega
              · have hge : ¬ (q : Int) < (l.length : Int) := by omega
                rw [List.take_of_length_le (by omega)]
                obtain ⟨b0, hb0⟩ : ∃ b0, b0 = bestF f l := ⟨_, rfl⟩
                have hbs := HB0.out
                rw [← hb0] at HKK hbs ⊢
                by_cases hneg : b0 < 0
                · have hk4 : kk = 4 := by rw [HKK.out, if_pos hneg]
                  have hlle : ll = [] := by rw [HLL.out]; unfold cirL; rw [HE.out, ← HF.out, ← HLE.out, ← hb0, if_pos hneg]; rfl
                  subst hk4
                  subst hlle
                  clear hb0 hbs hge
                  go_wp2
                  go_ret2
                  exact rowErr_no HBAF.out
                · have hk0 : kk = 0 := by rw [HKK.out, if_neg hneg]
                  have hlle : ll = (y : Int) :: cirGo g f b0.toNat y := by rw [HLL.out]; unfold cirL; rw [HE.out, ← HF.out, ← HLE.out, ← hb0, if_neg hneg]; rfl
                  subst hk0
                  have hmin := hbs.resolve_left (fun h => by have := h.1; omega)
                  obtain ⟨r, rfl⟩ : ∃ r : Nat, b0 = r := ⟨b0.toNat, by omega⟩
                  rw [Int.toNat_natCast] at hlle
                  rw [HLE.out] at hmin
                  have hr4 : r ≤ 4096 := by
                    obtain ⟨_, ⟨u, _, h⟩, _⟩ := hmin
                    have := (HBD.out u).2
                    omega
                  have HLLE := Lib.hid hlle
                  have HMIN := Lib.hid hmin
                  clear hb0 hbs hge hlle hmin
                  go_upto_region 25 with (fail)
                  obtain ⟨wo, hwo⟩ : ∃ wo, wo = wf.alloc (.cells #[.int .i64 (y : Int)] 3) := ⟨_, rfl⟩
                  have hown0 : wo.ownsRow wf.heap.size 3 1 (.slice (some ⟨wf.heap.size, 0, none⟩) 1 1) [(y : Int)].length (I [(y : Int)]) := by rw [hwo]; exact own_one1 _ (Nat.le_refl _)
                  have hbo : Below wf.heap.size wf wo := by rw [hwo]; exact (Below.refl _ _).alloc (Nat.le_refl _) _
                  rw [← hwo]
                  have HOWN0 := Lib.hid hown0
                  have HBO := Lib.hid hbo
                  have HLL2 := Lib.hid (show ll.length = r + 1 by rw [HLLE.out, List.length_cons, cirGo_length])
                  clear hwo hown0 hbo HRY HYR HB0 HLE hcY cf9 hyl
                  go_wp2
                  go_loopw [11, 14, 15] (fun tb vo ta wr => ∃ (r' a : Nat) (pre : List Int), tb = .int .i64 r' ∧ ta = .int .i64 a ∧ a < j ∧ MinOf f (nxt g a) r' ∧ pre ++ cirGo g f r' a = ll ∧ wr.ownsRow wf.heap.size 3 1 vo pre.length (I pre) ∧ Below wf.heap.size wf wr) (fun tb _ _ _ => (intOf tb).toNat)
                  case atStart => exact ⟨r, y, [(y : Int)], rfl, rfl, hyn, HMIN.out, HLLE.out.symm, HOWN0.out, HBO.out⟩
                  case round =>
                    obtain ⟨r', a, pre, rfl, rfl, han, hmin, hpre, hown, hbel⟩ := hrel
                    have hpl : pre.length + r' = r + 1 := by rw [← HLL2.out, ← hpre, List.length_append, cirGo_length]
                    rcases r' with _ | k
                    · have h0 : ¬ (0 : Int) < 0 := by omega
                      have hpe : pre = ll := by rw [← hpre]; unfold cirGo; rw [List.append_nil]
                      obtain ⟨Xo, co, rfl, hro, _⟩ := own_rowS hown
                      rw [hpe] at hro ⊢
                      have HRO := Lib.hid hro
                      have HBE := Lib.hid (HBAF.out.trans (hbel.mono (by have := HBAF.out.size; exact this)))
                      clear hpe hro hown hbel hmin hpre hpl
                      go_wp2
                      go_ret2
                      exact ⟨Xo, co, rfl, HRO.out, HBE.out⟩
                    · have hgt : (0 : Int) < ((k + 1 : Nat) : Int) := by omega
                      have hst := (cir_step HGOOD.out HXR.out (a := (a : Int)) (r := k + 1) (by rw [← HF.out]; exact hmin)).2 k rfl
                      rw [← HF.out] at hst
                      obtain ⟨hst1, hst2⟩ := hst
                      have hc1 : ((k + 1 : Nat) : Int) = (k : Int) + 1 := by omega
                      rw [hc1] at hmin hgt ⊢
                      obtain ⟨Y, dY, hcY0, hrY0⟩ := HROWF.out a han
                      have hcY := (hbel.cell (p := ⟨nb, a, none⟩) (World.block_lt_of_cell? wf _ hcY0)).trans hcY0
                      have hrY := hrY0.below hbel
                      have hlr := HNR.out a han
                      have hll := HNL.out a
                      have hgo : cirGo g f (k + 1) a = stepTo g f a ((k : Int) + 1) :: cirGo g f k (stepTo g f a ((k : Int) + 1)) := rfl
                      have hfind : stepTo g f a ((k : Int) + 1) = ((nxt g a).find? (fun w => f w == (k : Int) + 1)).getD a := rfl
                      obtain ⟨_, ⟨u, hu1, hu2⟩, _⟩ := hmin
                      rw [← hst1] at hst2
                      rw [hgo] at hpre
                      obtain ⟨l, hl'⟩ : ∃ l, l = nxt g a := ⟨_, rfl⟩
                      rw [← hl'] at hcY hrY hlr hll hfind hu1
                      obtain ⟨st, hst⟩ : ∃ st, st = stepTo g f a ((k : Int) + 1) := ⟨_, rfl⟩
                      rw [← hst] at hst2 hpre hfind
                      have hhit : ∀ (q : Nat) (hq : q < l.length), (∀ z ∈ l.take q, f z ≠ (k : Int) + 1) → f l[q] = (k : Int) + 1 → st = l[q] := fun q hq h1 h2 => by rw [hfind, find_hit hq h1 h2]; rfl
                      have hall : ¬ ∀ z ∈ l, f z ≠ (k : Int) + 1 := fun h => h u hu1 hu2
                      have ha0 : (0 : Int) ≤ (a : Int) := by omega
                      have ha1 : (a : Int) < (j : Int) := by omega
                      have hil : (I pre).length = pre.length := List.length_map _
                      have hown2 : wr.ownsRow wf.heap.size 3 1 u14 (I pre).length (I pre) := by rw [hil]; exact hown
                      have hszr : wf.heap.size ≤ wr.heap.size := hbel.size
                      have hcf := (hbel.cell (p := ⟨p9, 0, none⟩) (World.block_lt_of_cell? wf _ HCF.out)).trans HCF.out
                      have hk0 : (0 : Int) ≤ (k : Int) := by omega
                      have hk1 : (k : Int) < 5000 := by omega
                      have HST2 := Lib.hid hst2
                      have HPRE := Lib.hid hpre
                      have HHIT := Lib.hid hhit
                      have HALL := Lib.hid hall
                      have HRY := Lib.hid hrY
                      have HLR := Lib.hid hlr
                      have HIL := Lib.hid hil
                      have HOWN2 := Lib.hid hown2
                      have HBE := Lib.hid hbel
                      have HNFR := Lib.hid (hnumF_of HNF.out hbel)
                      have HPL := Lib.hid hpl
                      clear hst2 hpre hhit hall hrY hlr hil hown hown2 hbel hst1 hst hfind hgo hl' hu1 hu2 hcY0 hrY0 hc1 hpl
                      go_wp2_with fail
                      go_loop [97] (fun i => ∃ q : Nat, i = .int .i64 q ∧ q ≤ l.length ∧ ∀ z ∈ l.take q, f z ≠ (k : Int) + 1) (fun i => l.length - (intOf i).toNat)
                      case atStart => exact ⟨0, rfl, by omega, by simp⟩
                      case round =>
                        obtain ⟨q, rfl, hq, hb⟩ := hrel
                        by_cases hql : q < l.length
                        · have hj0 : (0 : Int) ≤ (q : Int) := by omega
                          have hj1 : (q : Int) < (l.length : Int) := by omega
                          obtain ⟨b, off, rfl, hcj⟩ := HRY.out.int hql
                          have hzr := HLR.out _ (List.getElem_mem hql)
                          have hsn := List.take_succ_eq_append_getElem hql
                          have hh := HHIT.out q hql hb
                          obtain ⟨z, hz⟩ : ∃ z : Nat, l[q] = (z : Int) := ⟨l[q].toNat, by omega⟩
                          rw [hz] at hcj hzr hsn hh
                          have hzn : z < j := by omega
                          have hz0 : (0 : Int) ≤ (z : Int) := by omega
                          have hz1 : (z : Int) < (j : Int) := by omega
                          have kz : wr.cell? ⟨fb, z, none⟩ = some (.int .i64 (f z)) := HNFR.out.2.1 z hzn
                          obtain ⟨fz, hfz⟩ : ∃ fz, fz = f z := ⟨_, rfl⟩
                          rw [← hfz] at kz hh
                          by_cases he : fz = (k : Int) + 1
                          · have hst := hh he
                            have HST := Lib.hid hst
                            subst he
                            clear hh hst hfz hsn hb hz hzr
                            go_wp2_with (at_builtin; go_loud (refine app_new wf.heap.size (by rfl) _ _ 25 3 (.int .i64 0) 8 (by rfl) Try.underlying25 info_int rfl _ (I pre) (.int .i64 (z : Int)) (by rfl) _ (by rfl) rfl rfl HOWN2.out hszr (by have := HIL.out; have := HPL.out; omega) (by have := HIL.out; have := HPL.out; omega) ?_; intro v5 w5 ho5 hg5 hb5 hs5; have HO5 := Lib.hid ho5; have HBE5 := Lib.hid (HBE.out.grown hg5 HBE.out.size (fun k e => (HOWN2.out.lt k e).1)); clear ho5 hg5 hb5 hs5))
                            go_roundw
                            case rel =>
                              refine ⟨k, z, pre ++ [(z : Int)], congrArg (Value.int .i64) (by omega), rfl, hzn, by rw [← HST.out]; exact HST2.out, by rw [← HPRE.out, HST.out]; simp, ?_, HBE5.out⟩
                              rw [List.length_append, List.length_singleton, show I (pre ++ [(z : Int)]) = I pre ++ [.int .i64 (z : Int)] from List.map_append]
                              have h := HO5.out
                              rwa [HIL.out] at h
                            case measure => simp [intOf] <;> omega
                          · have hqb : (fz == (k : Int) + 1) = false := by simpa using he
                            have HB2 : Hid (∀ z ∈ l.take (q + 1), f z ≠ (k : Int) + 1) := Lib.hid (by
                              rw [hsn]
                              intro x hx
                              rcases List.mem_append.1 hx with hx | hx
                              · exact hb x hx
                              · rw [List.mem_singleton.1 hx, ← hfz]; exact he)
                            clear hh hfz hsn hb hz hzr
                            go_wp2
                            go_round
                            case rel => exact ⟨q + 1, by go_num, by omega, HB2.out⟩
                            case measure => simp [intOf]; omega
                        · rw [List.take_of_length_le (by omega)] at hb
                          exact (HALL.out hb).elim
  · have h1 : cirE g x = chkF g := by unfold cirE; rw [if_neg hk]
    have h2 : cirL g x = [] := by unfold cirL; rw [if_neg (by rw [h1]; exact hk)]
    have h3 := HKK.out.trans h1
    obtain rfl := HLL.out.trans h2
    rw [← h3] at hk ⊢
    have hkb : (kk != 0) = true := by simpa using hk
    have HB1 := Lib.hid hbx1.bel
    clear h1 h2 h3 hbx1 hb1 hbx
    go_wp2
    go_ret2
    exact rowErr_no HB1.out
end Go.Proofs.Ytpdfcffeinbcaaa
