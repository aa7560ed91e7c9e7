/- Reach: the document's. -/
import Derived.Test.YtpdfcffeinbcaaaH13
import Derived.Test.YtpdfcffeinbcaaaH7
namespace Go.Proofs.Ytpdfcffeinbcaaa
open Go.RowKit
theorem sort_rising {l : List Int} (h : l.Nodup) : (sortI l).Pairwise (· < ·) := by
  have h1 := sortI_le l
  have h2 : (sortI l).Nodup := (sortI_perm l).nodup_iff.2 h
  exact (h1.and h2).imp (by rintro a b ⟨h, hn⟩; omega)
theorem way_in {g : XG} (hg : Good g) {wo : Int} {src : List Int} {x : Int} (h : Way (tgt g.es) wo src x) : 0 ≤ x ∧ x < g.n := by
  cases h with
  | base _ _ hy _ => exact (hg.all _ (mem_tgt.1 hy)).2
  | step _ hy _ => exact (hg.all _ (mem_tgt.1 hy)).2
theorem rch_way {g : XG} (hg : Good g) {src : List Int} (hs : ∀ x ∈ src, 0 ≤ x ∧ x < g.n) {x : Int} : Rch (nxt g) src x ↔ x ∈ src ∨ Way (tgt g.es) (-1) src x := by
  constructor
  · intro h
    induction h with
    | base hx => exact .inl hx
    | step hx hy ih =>
      right
      have hy2 := mem_tgt.2 (mem_nxt.1 hy)
      have hy3 := (hg.all _ (mem_nxt.1 hy)).2
      rcases ih with ih | ih
      · have := hs _ ih
        exact .base ih (by omega) hy2 (by omega)
      · exact .step ih hy2 (by omega)
  · rintro (h | h)
    · exact .base h
    · induction h with
      | base hs _ hy _ => exact .step (.base hs) (mem_nxt.2 (mem_tgt.1 hy))
      | step _ hy _ ih => exact .step ih (mem_nxt.2 (mem_tgt.1 hy))
set_option maxHeartbeats 2000000 in
set_option maxRecDepth 100000 in
theorem rReach_c (g : XG) (E : Option Addr) (d : Nat) (src : List Int) (X : Option Addr) (dx : Nat) (w : World) (h : GAt w E g) (hl : g.es.length ≤ 4611686018427387904) (hr : RowAt w X (I src)) (hrl : src.length ≤ 4611686018427387904) :
    Calls Try.prog 20 #[g.val E d, .slice X src.length dx] w (RowErr (reachL g src) (reachE g src) w) := by
  have hck := fun W h => rcheck_c g E d W h hl
  have hnd := fun x b W h => rnode_c (g := g) (x := x) (b := b) E d W h
  have hnx := fun W h1 h2 h3 h4 h5 => ways_c g E d src X dx (-1) W h1 h2 h3 h4 h5
  have hbx := box_at (w := w) (t := 24) g E d
  have hv : g.val E d = .agg #[.int .i64 g.n, .slice E g.es.length d] := rfl
  rw [hv] at hck hnd hnx ⊢
  have HCK := Lib.hid hck
  have HND := Lib.hid hnd
  have HNX := Lib.hid hnx
  have HG := Lib.hid h
  have HR := Lib.hid hr
  obtain ⟨kk, hkk⟩ : ∃ kk, kk = reachE g src := ⟨_, rfl⟩
  obtain ⟨ll, hll⟩ : ∃ ll, ll = reachL g src := ⟨_, rfl⟩
  rw [← hkk, ← hll]
  have HKK := Lib.hid hkk
  have HLL := Lib.hid hll
  clear hck hnd hnx hv h hkk hll hr
  go_enter Try.func20, Try.ntmps20
  go_wp2_with fail
  go_at_call 15
  refine (HCK.out _ (HG.out.below hbx.bel)).mono ?_
  rintro e w1 ⟨rfl, hb1⟩
  have hbx1 := hbx.below hb1
  by_cases hk : chkF g = 0
  · have hgood := chkF_good.1 hk
    have c0 := hbx1.c0
    have c1 := hbx1.c1
    have HBX1 := Lib.hid hbx1
    rw [hk]
    by_cases hlong : 4096 < src.length
    · have h1 : reachE g src = 3 := by unfold reachE; rw [if_pos hk, if_pos hlong]
      have h2 : reachL g src = [] := by unfold reachL; rw [h1]; rfl
      obtain rfl := HKK.out.trans h1
      obtain rfl := HLL.out.trans h2
      have hli : (4096 : Int) < (src.length : Int) := by omega
      clear h1 h2 hk hbx1 hbx hb1
      go_wp2
      go_ret2
      exact rowErr_no HBX1.out.bel
    · have hli : ¬ (4096 : Int) < (src.length : Int) := by omega
      have HK := Lib.hid hk
      have HGOOD := Lib.hid hgood
      clear hk hbx1 hbx hb1 hgood
      go_wp2
      go_loopw [7] (fun i wr => ∃ j : Nat, i = .int .i64 j ∧ j ≤ src.length ∧ (∀ k (hk : k < src.length), k < j → nodeB g.n src[k] = true) ∧ BoxAt w wr w.heap.size g E d) (fun i _ => src.length - (intOf i).toNat)
      case atStart => exact ⟨0, rfl, by omega, by omega, HBX1.out⟩
      case round =>
        obtain ⟨j, rfl, hj, hall, hbox⟩ := hrel
        have HALL := Lib.hid hall
        have HBOX := Lib.hid hbox
        have d0 := hbox.c0
        have d1 := hbox.c1
        clear hall c0 c1
        by_cases hlt : j < src.length
        · have hj0 : (0 : Int) ≤ (j : Int) := by omega
          have hj1 : (j : Int) < (src.length : Int) := by omega
          obtain ⟨b, off, rfl, hcj⟩ := (HR.out.below hbox.bel).int hlt
          obtain ⟨x, hx⟩ : ∃ x, x = src[j] := ⟨_, rfl⟩
          rw [← hx] at hcj
          have HX := Lib.hid hx
          clear hx hbox
          cases hnb : nodeB g.n x with
          | false =>
            have h1 : reachE g src = 1 := by
              unfold reachE
              rw [if_pos HK.out, if_neg hlong, if_neg]
              intro hall
              have := List.all_eq_true.1 hall _ (List.getElem_mem hlt)
              rw [← HX.out, hnb] at this
              cases this
            have h2 : reachL g src = [] := by unfold reachL; rw [h1]; rfl
            obtain rfl := HKK.out.trans h1
            obtain rfl := HLL.out.trans h2
            have HNB := Lib.hid hnb
            clear h1 h2 hnb
            go_wp2
            refine wp_region_held_drew (S := (fun w' => (Below wr.heap.size wr w' ∧ wr.heap.size ≤ w'.heap.size) ∧ w'.cell? ⟨w.heap.size, 0, none⟩ = some (.int .i64 g.n) ∧ w'.cell? ⟨w.heap.size, 1, none⟩ = some (.slice E g.es.length d) ∧ w'.cell? ⟨b, off + j, none⟩ = some (.int .i64 x))) (by kernel_rfl) ?xas (fun hHeld => ?xar)
            case xas => (refine ⟨⟨(Below.refl _ _).drew, Nat.le_refl _⟩, ?_, ?_, ?_⟩ <;> go_keep)
            refine take_at (i := 0) (d := 24) (v := ?xav0) rfl (by rfl) (by kernel_rfl) (by kernel_rfl) (by kernel_rfl) (fun _ _ _ h => h) (Or.inl ⟨by rfl, ?xay0⟩) (by assumption) ?xar0
            case xay0 => intro w' hSw; obtain ⟨_, q1, q2, q3⟩ := hSw; go_simp; (try with_reducible rfl)
            case' xar0 => simp only [Act.put, List.setIfInBounds_toArray, List.set_cons_zero, List.set_cons_succ]
            refine take_at (i := 1) (d := 25) (v := ?xav1) rfl (by rfl) (by kernel_rfl) (by kernel_rfl) (by kernel_rfl) (fun _ _ _ h => h) (Or.inl ⟨by rfl, ?xay1⟩) (by assumption) ?xar1
            case xay1 => intro w' hSw; obtain ⟨_, q1, q2, q3⟩ := hSw; go_simp; (try with_reducible rfl)
            case' xar1 => simp only [Act.put, List.setIfInBounds_toArray, List.set_cons_zero, List.set_cons_succ]
            refine take_at (i := 2) (d := 26) (v := ?xav2) rfl (by rfl) (by kernel_rfl) (by kernel_rfl) (by kernel_rfl) (fun _ _ _ h => h) (Or.inl ⟨by rfl, ?xay2⟩) (by assumption) ?xar2
            case xay2 => intro w' hSw; obtain ⟨_, q1, q2, q3⟩ := hSw; go_simp; (try with_reducible rfl)
            case' xar2 => simp only [Act.put, List.setIfInBounds_toArray, List.set_cons_zero, List.set_cons_succ]
            refine take_at (i := 3) (d := 27) (v := ?xav3) rfl (by rfl) (by kernel_rfl) (by kernel_rfl) (by kernel_rfl) (fun _ _ _ h => h) (Or.inl ⟨by rfl, ?xay3⟩) (by assumption) ?xar3
            case xay3 => intro w' hSw; obtain ⟨_, q1, q2, q3⟩ := hSw; go_simp; (try with_reducible rfl)
            case' xar3 => simp only [Act.put, List.setIfInBounds_toArray, List.set_cons_zero, List.set_cons_succ]
            refine take_at (i := 4) (d := 28) (v := ?xav4) rfl (by rfl) (by kernel_rfl) (by kernel_rfl) (by kernel_rfl) (fun _ _ _ h => h) (Or.inl ⟨by rfl, ?xay4⟩) (by assumption) ?xar4
            case xay4 => intro w' hSw; obtain ⟨_, q1, q2, q3⟩ := hSw; go_simp; (try with_reducible rfl)
            case' xar4 => simp only [Act.put, List.setIfInBounds_toArray, List.set_cons_zero, List.set_cons_succ]
            refine wpAnyH_ready (rs := [5]) (by kernel_rfl) (by simp) ?xac5
            refine AllReadyH.cons rfl (fun K hK => ?xab5) AllReadyH.nil
            go_simp
            go_at_call 47; refine (HND.out _ _ _ HNB.out).mono ?_; rintro e w2 ⟨rfl, hb2⟩
            refine hK.out _ _ ?xah5 (fun hHeld => ?xar5)
            case xah5 => exact hk3 hHeld hb2
            case' xar5 => (clear hK K; try simp only [Act.put, List.setIfInBounds_toArray, List.set_cons_zero, List.set_cons_succ])
            refine take_at (i := 6) (d := 30) (v := ?xav6) rfl (by rfl) (by kernel_rfl) (by kernel_rfl) (by kernel_rfl) (fun _ _ _ h => h) (Or.inl ⟨by rfl, ?xay6⟩) (by assumption) ?xar6
            case xay6 => intro w' hSw; obtain ⟨_, q1, q2, q3⟩ := hSw; go_simp; (try with_reducible rfl)
            case' xar6 => simp only [Act.put, List.setIfInBounds_toArray, List.set_cons_zero, List.set_cons_succ]
            refine wpAnyH_done (by kernel_rfl) ?xaz _
            obtain ⟨⟨q0, q1⟩, _⟩ := ‹_ ∧ _ ∧ _ ∧ _›
            go_wp2
            go_ret2
            exact rowErr_no ((HBOX.out.below q0).bel)
          | true =>
            have HNB := Lib.hid hnb
            clear hnb
            go_wp2
            refine wp_region_held_drew (S := (fun w' => (Below wr.heap.size wr w' ∧ wr.heap.size ≤ w'.heap.size) ∧ w'.cell? ⟨w.heap.size, 0, none⟩ = some (.int .i64 g.n) ∧ w'.cell? ⟨w.heap.size, 1, none⟩ = some (.slice E g.es.length d) ∧ w'.cell? ⟨b, off + j, none⟩ = some (.int .i64 x))) (by kernel_rfl) ?xbs (fun hHeld => ?xbr)
            case xbs => (refine ⟨⟨(Below.refl _ _).drew, Nat.le_refl _⟩, ?_, ?_, ?_⟩ <;> go_keep)
            refine take_at (i := 0) (d := 24) (v := ?xbv0) rfl (by rfl) (by kernel_rfl) (by kernel_rfl) (by kernel_rfl) (fun _ _ _ h => h) (Or.inl ⟨by rfl, ?xby0⟩) (by assumption) ?xbr0
            case xby0 => intro w' hSw; obtain ⟨_, q1, q2, q3⟩ := hSw; go_simp; (try with_reducible rfl)
            case' xbr0 => simp only [Act.put, List.setIfInBounds_toArray, List.set_cons_zero, List.set_cons_succ]
            refine take_at (i := 1) (d := 25) (v := ?xbv1) rfl (by rfl) (by kernel_rfl) (by kernel_rfl) (by kernel_rfl) (fun _ _ _ h => h) (Or.inl ⟨by rfl, ?xby1⟩) (by assumption) ?xbr1
            case xby1 => intro w' hSw; obtain ⟨_, q1, q2, q3⟩ := hSw; go_simp; (try with_reducible rfl)
            case' xbr1 => simp only [Act.put, List.setIfInBounds_toArray, List.set_cons_zero, List.set_cons_succ]
            refine take_at (i := 2) (d := 26) (v := ?xbv2) rfl (by rfl) (by kernel_rfl) (by kernel_rfl) (by kernel_rfl) (fun _ _ _ h => h) (Or.inl ⟨by rfl, ?xby2⟩) (by assumption) ?xbr2
            case xby2 => intro w' hSw; obtain ⟨_, q1, q2, q3⟩ := hSw; go_simp; (try with_reducible rfl)
            case' xbr2 => simp only [Act.put, List.setIfInBounds_toArray, List.set_cons_zero, List.set_cons_succ]
            refine take_at (i := 3) (d := 27) (v := ?xbv3) rfl (by rfl) (by kernel_rfl) (by kernel_rfl) (by kernel_rfl) (fun _ _ _ h => h) (Or.inl ⟨by rfl, ?xby3⟩) (by assumption) ?xbr3
            case xby3 => intro w' hSw; obtain ⟨_, q1, q2, q3⟩ := hSw; go_simp; (try with_reducible rfl)
            case' xbr3 => simp only [Act.put, List.setIfInBounds_toArray, List.set_cons_zero, List.set_cons_succ]
            refine take_at (i := 4) (d := 28) (v := ?xbv4) rfl (by rfl) (by kernel_rfl) (by kernel_rfl) (by kernel_rfl) (fun _ _ _ h => h) (Or.inl ⟨by rfl, ?xby4⟩) (by assumption) ?xbr4
            case xby4 => intro w' hSw; obtain ⟨_, q1, q2, q3⟩ := hSw; go_simp; (try with_reducible rfl)
            case' xbr4 => simp only [Act.put, List.setIfInBounds_toArray, List.set_cons_zero, List.set_cons_succ]
            refine wpAnyH_ready (rs := [5]) (by kernel_rfl) (by simp) ?xbc5
            refine AllReadyH.cons rfl (fun K hK => ?xbb5) AllReadyH.nil
            go_simp
            go_at_call 47; refine (HND.out _ _ _ HNB.out).mono ?_; rintro e w2 ⟨rfl, hb2⟩
            refine hK.out _ _ ?xbh5 (fun hHeld => ?xbr5)
            case xbh5 => exact hk3 hHeld hb2
            case' xbr5 => (clear hK K; try simp only [Act.put, List.setIfInBounds_toArray, List.set_cons_zero, List.set_cons_succ])
            refine take_at (i := 6) (d := 30) (v := ?xbv6) rfl (by rfl) (by kernel_rfl) (by kernel_rfl) (by kernel_rfl) (fun _ _ _ h => h) (Or.inl ⟨by rfl, ?xby6⟩) (by assumption) ?xbr6
            case xby6 => intro w' hSw; obtain ⟨_, q1, q2, q3⟩ := hSw; go_simp; (try with_reducible rfl)
            case' xbr6 => simp only [Act.put, List.setIfInBounds_toArray, List.set_cons_zero, List.set_cons_succ]
            refine wpAnyH_done (by kernel_rfl) ?xbz _
            obtain ⟨⟨q0, q1⟩, _⟩ := ‹_ ∧ _ ∧ _ ∧ _›
            have hb2 := q0
            clear q0
            go_wp2
            have HB2 := Lib.hid hb2
            clear hb2
            go_roundw
            case rel =>
              refine ⟨j + 1, by go_num, by omega, fun k hk hkj => ?_, HBOX.out.below HB2.out⟩
              rcases Nat.lt_or_ge k j with c | c
              · exact HALL.out k hk c
              · obtain rfl : k = j := by omega
                rw [← HX.out]; exact HNB.out
            case measure => simp [intOf]; omega
        · have hge : ¬ (j : Int) < (src.length : Int) := by omega
          have hall2 : ∀ x ∈ src, 0 ≤ x ∧ x < g.n := fun x hx => by
            obtain ⟨i, hi, rfl⟩ := List.mem_iff_getElem.1 hx
            exact nodeB_iff.1 (HALL.out i hi (by omega))
          have h1 : reachE g src = 0 := by
            unfold reachE
            rw [if_pos HK.out, if_neg hlong, if_pos]
            rw [List.all_eq_true]
            exact fun x hx => nodeB_iff.2 (hall2 x hx)
          have h2 : reachL g src = sortI (bfsF (nxt g) g.n.toNat src) := by unfold reachL; rw [if_pos h1]
          obtain rfl := HKK.out.trans h1
          have HL2 := Lib.hid (HLL.out.trans h2)
          have HALL2 := Lib.hid hall2
          have hwo : w.heap.size < wr.heap.size := hbox.lt
          clear h1 h2 hall2 hbox
          have hgw := HG.out.below HBOX.out.bel
          have hrw := HR.out.below HBOX.out.bel
          have HGW := Lib.hid hgw
          have HRW := Lib.hid hrw
          obtain ⟨n, hn⟩ : ∃ n : Nat, g.n = n := ⟨g.n.toNat, by have := HGOOD.out.n0; omega⟩
          have hnn : g.n.toNat = n := by omega
          have hnx2 := HNX.out _ HGW.out HGOOD.out HRW.out (by omega) HALL2.out
          rw [hnn] at hnx2
          have HNX2 := Lib.hid hnx2
          have HN := Lib.hid hn
          have hn4 : n ≤ 4096 := by have := HGOOD.out.n1; omega
          clear hgw hrw hn hnn hnx2
          go_wp2_with fail
          go_at_call 53
          refine HNX2.out.mono ?_
          rintro e w3 ⟨sb, S, rfl, hsb, hsn, hS, hb3⟩
          have HS := Lib.hid hS
          have HB3 := Lib.hid (HBOX.out.bel.trans (hb3.mono (Nat.le_of_lt hwo)))
          have hsbw : w.heap.size ≤ sb := by omega
          have HSN := Lib.hid hsn
          clear hS hb3 hsn d0 d1
          go_wp2
          go_loopw [9] (fun i wr => ∃ j : Nat, i = .int .i64 j ∧ j ≤ src.length ∧ (∃ S', SeenAt wr sb n S' ∧ ∀ x, x ∈ S' ↔ x ∈ S ∨ x ∈ src.take j) ∧ Below w.heap.size w wr) (fun i _ => src.length - (intOf i).toNat)
          case atStart => exact ⟨0, rfl, by omega, ⟨S, HSN.out, by simp⟩, HB3.out⟩
          case round =>
            obtain ⟨j, rfl, hj, ⟨S', hsn, hS'⟩, hbel⟩ := hrel
            by_cases hlt : j < src.length
            · have hj0 : (0 : Int) ≤ (j : Int) := by omega
              have hj1 : (j : Int) < (src.length : Int) := by omega
              obtain ⟨b, off, rfl, hcj⟩ := (HR.out.below hbel).int hlt
              have hxr := HALL2.out _ (List.getElem_mem hlt)
              obtain ⟨x, hx⟩ : ∃ x : Nat, (x : Int) = src[j] := ⟨src[j].toNat, by omega⟩
              have htk : ∀ y, y ∈ src.take (j + 1) ↔ y ∈ src.take j ∨ y = (x : Int) := fun y => by rw [List.take_succ_eq_append_getElem hlt, List.mem_append, List.mem_singleton, hx]
              rw [← hx] at hcj hxr
              have hxn : x < n := by have := HN.out; omega
              have hx0 : (0 : Int) ≤ (x : Int) := by omega
              have hx1 : (x : Int) < (n : Int) := by omega
              have hcs := hsn.2.1 x hxn
              have hfs := hsn.2.2 x
              have HSN2 := Lib.hid (hsn.set hxn)
              have HS' := Lib.hid hS'
              have HTK := Lib.hid htk
              have HBE := Lib.hid hbel
              clear hx htk hsn hS' hbel
              go_wp2
              go_roundw
              case rel =>
                refine ⟨j + 1, by go_num, by omega, ⟨_, HSN2.out, fun y => ?_⟩, HBE.out.setCell hsbw _⟩
                rw [List.mem_append, List.mem_singleton, HS'.out, HTK.out]
                exact or_assoc
              case measure => simp [intOf]; omega
            · have hge2 : ¬ (j : Int) < (src.length : Int) := by omega
              rw [show src.take j = src from List.take_of_length_le (by omega)] at hS'
              have htd := told_c (d := n) hn4 hsn.1 hsn.2.1
              have heq : toldL (fun i => decide ((i : Int) ∈ S')) n = ll := by
                rw [HL2.out]
                refine rising_ext (toldL_rising _ _) (sort_rising (bfs_nxt HGOOD.out HALL2.out).1) (fun x => ?_)
                rw [mem_toldL, (sortI_perm _).mem_iff, (bfs_nxt HGOOD.out HALL2.out).2.2, rch_way HGOOD.out HALL2.out, decide_eq_true_eq]
                have hSx := hS' x
                rw [HS.out] at hSx
                constructor
                · rintro ⟨h0, h1, h2⟩
                  rw [Int.toNat_of_nonneg h0] at h2
                  exact (hSx.1 h2).symm
                · intro h
                  have hin := (HALL2.out x)
                  have hr : 0 ≤ x ∧ x < (n : Int) := by
                    rcases h with h | h
                    · have := hin h; have := HN.out; omega
                    · have := way_in HGOOD.out h; have := HN.out; omega
                  refine ⟨hr.1, hr.2, ?_⟩
                  rw [Int.toNat_of_nonneg hr.1]
                  exact hSx.2 h.symm
              rw [heq] at htd
              have HTD := Lib.hid htd
              have HBE := Lib.hid hbel
              clear hS' hsn hbel htd heq
              go_wp2_with (go_at_call 54; refine HTD.out.mono ?_; rintro e w4 ⟨Y, dY, rfl, ho4, hb4⟩)
              go_ret2
              exact ⟨Y, dY, rfl, OwnInts.row ho4, HBE.out.trans (hb4.mono HBE.out.size)⟩
  · have h1 : reachE g src = chkF g := by unfold reachE; rw [if_neg hk]
    have h2 : reachL g src = [] := by unfold reachL; rw [if_neg (by rw [h1]; exact hk)]
    have h3 := HKK.out.trans h1
    obtain rfl := HLL.out.trans h2
    rw [← h3] at hk ⊢
    have hkb : (kk != 0) = true := by simpa using hk
    have HB1 := Lib.hid hbx1.bel
    clear h1 h2 h3 hbx1 hb1 hbx
    go_wp2
    go_ret2
    exact rowErr_no HB1.out
end Go.Proofs.Ytpdfcffeinbcaaa
