/- Longest: the program's: where it answers. -/
import Derived.Test.YtpdfcffeinbcaaaH38
import Derived.Test.YtpdfcffeinbcaaaM1
namespace Go.Proofs.Ytpdfcffeinbcaaa
open Go.RowKit Go.Shelf
attribute [local go_sem] Oper.semAt_some
theorem LonOk.hit {g : XG} {wts : List Int} (h : LonOk g wts) {v : Int} (hp : 0 < maxs (lonT g wts) 0 (nxt g v)) {j : Nat} (hj : j < (nxt g v).length) (hb : ∀ x ∈ (nxt g v).take j, lonT g wts x ≠ maxs (lonT g wts) 0 (nxt g v)) (he : lonT g wts (nxt g v)[j] = maxs (lonT g wts) 0 (nxt g v)) : (nxt g v)[j] = lonX g wts v := by
  obtain ⟨h1, h2, h3⟩ := h.next hp
  have h4 := mem_nxt.2 h1
  obtain ⟨i, hi, e⟩ := List.mem_iff_getElem.1 h4
  have h5 := h3 _ (List.getElem_mem hj) he
  have hr := List.pairwise_iff_getElem.1 (nxt_rising g v)
  rcases Nat.lt_trichotomy i j with hij | rfl | hij
  · exact absurd h2 (hb _ (by rw [← e]; exact List.mem_take_iff_getElem.2 ⟨i, by omega, rfl⟩))
  · exact e
  · have := hr j i hj hi hij
    omega
theorem LonOk.hits {g : XG} {wts : List Int} (h : LonOk g wts) {v : Int} (hp : 0 < maxs (lonT g wts) 0 (nxt g v)) (hb : ∀ x ∈ nxt g v, lonT g wts x ≠ maxs (lonT g wts) 0 (nxt g v)) : False := by
  obtain ⟨h1, h2, _⟩ := h.next hp
  exact hb _ (mem_nxt.2 h1) h2
/-- How many a slice holds. -/
def lenOfV : Value → Nat
  | .slice _ n _ => n
  | _ => 0
theorem own_one {w : World} {base : Nat} {e : TypeId} (y : Value) (hb : base ≤ w.heap.size) : (w.alloc (.cells #[y] e)).ownsRow base e 1 (.slice (some ⟨w.heap.size, 0, none⟩) 1 1) 1 [y] :=
  ⟨by simp, .inr ⟨w.heap.size, 1, #[y], rfl, hb, heap_alloc_new w _, Nat.le_refl _, by simp [maxLen], by simp, by simp⟩⟩
theorem own_grown_by {w w' : World} {base : Nat} {e : TypeId} {v : Value} {n D : Nat} {xs : List Value} (h : w.ownsRow base e 1 v n xs) (hg : w.grownBy w' (some D)) (hD : D < base) : w'.ownsRow base e 1 v n xs := by
  rcases h with ⟨hl, h | ⟨g, cap, cur, hv, hb, hh, h3, h4, h5, h6⟩⟩
  · exact ⟨hl, .inl h⟩
  · have hlt := (Array.getElem?_eq_some_iff.1 hh).1
    exact ⟨hl, .inr ⟨g, cap, cur, hv, hb, (hg.block g hlt (by intro e; cases e; omega)).trans hh, h3, h4, h5, h6⟩⟩
set_option maxHeartbeats 4000000 in
set_option maxRecDepth 100000 in
theorem glong_yes (g : XG) (E : Option Addr) (d : Nat) (wts : List Int) (X : Option Addr) (c : Nat) (w : World) (h : GAt w E g) (hl : g.es.length ≤ 4611686018427387904) (hr : RowAt w X (I wts)) (hok : lonOk g wts) :
    Calls Try.prog 29 #[g.val E d, .slice X wts.length c] w (LonPost g wts w) := by
  have hL := lonOk_is hok
  obtain ⟨n, hn⟩ : ∃ n : Nat, g.n = n := ⟨g.n.toNat, by have := hL.good.n0; omega⟩
  have hnn : g.n.toNat = n := by omega
  have hn4 : n ≤ 4096 := by have := hL.good.n1; omega
  have hn0 : 0 < n := by have := hL.pos; omega
  have hwl : wts.length = n := by rw [hL.len, hnn]
  have hk0 : chkF g = 0 := chkF_good.2 hL.good
  have hck := fun W h => check_c g E d W h hl
  have hor := fun W h => ordered_c g E d W h hl
  have hbx := bx2_at w g E d X n c 24 25
  have hv : g.val E d = .agg #[.int .i64 g.n, .slice E g.es.length d] := rfl
  rw [hwl]
  rw [hv, hn] at hck hor ⊢
  rw [hk0] at hck
  rw [hn] at hbx
  have HCK := Lib.hid hck
  have HOR := Lib.hid hor
  have HG := Lib.hid h
  have HR := Lib.hid hr
  have HL := Lib.hid hL
  have HOK := Lib.hid hok
  have HN := Lib.hid hn
  have HNN := Lib.hid hnn
  have HWL := Lib.hid hwl
  have HBX0 := Lib.hid hbx
  clear hck hor hv h hr hL hok hn hnn hwl hk0 hbx
  refine (callsIn_wide (n := 9)).1 ?_
  refine callsIn_of_wp_marks Try.func29 rfl trivial ?_ rfl
  simp only [Try.ntmps29, List.size_toArray, List.length_cons, List.length_nil, Nat.reduceAdd, Nat.reduceSub, Array.replicate_succ, Array.replicate_zero, List.push_toArray, List.append_toArray, List.nil_append, List.cons_append]
  gi_wp2_with fail
  refine ⟨trivial, (callsIn_wide.2 (HCK.out _ (HG.out.below HBX0.out.bel))).mono ?_⟩
  rintro e w1 ⟨rfl, hb1⟩
  have hbx1 := HBX0.out.below hb1
  have c0 := hbx1.c0
  have c1 := hbx1.c1
  have c2 := hbx1.c2
  rw [HN.out] at c0
  have hlb : ((n : Int) != (n : Int)) = false := by simp
  have hcf := containsFunc_c c (HR.out.below hbx1.bel) (by rw [HWL.out]; omega)
  rw [HWL.out, HL.out.fine] at hcf
  have HCF := Lib.hid hcf
  have HBX1 := Lib.hid hbx1
  clear hcf hbx1 hb1
  gi_wp2_with fail
  refine ⟨trivial, (callsIn_wide.2 HCF.out).mono ?_⟩
  rintro e w2 ⟨rfl, rfl⟩
  have hor1 := HOR.out _ (HG.out.below HBX1.out.bel)
  have HOR1 := Lib.hid hor1
  clear hor1
  gi_wp2_with fail
  refine ⟨trivial, (callsIn_wide.2 HOR1.out).mono ?_⟩
  rintro e w3 ⟨vo, vl, rfl, ⟨Yl, ml, dl, rfl⟩, hb3, ho3, hnx3⟩
  rw [HL.out.ord]
  have hbx3 := HBX1.out.below hb3
  have hoL : ordL g = ordF (nxt g) n := by unfold ordL; rw [if_pos HL.out.ord, HNN.out]
  rw [hoL] at ho3
  have hnx := hnx3 HL.out.ord
  rw [HNN.out] at hnx
  obtain ⟨lb, ld, hvl, hlo, hlbw, hrows⟩ := hnx
  cases hvl
  obtain ⟨o, ho⟩ : ∃ o, o = ordF (nxt g) n := ⟨_, rfl⟩
  rw [← ho] at ho3
  obtain ⟨Xo, co, hvo, hro, _⟩ := own_rowS ho3
  subst hvo
  obtain ⟨lx, hlx⟩ : ∃ lx, lx = w3.heap.size := ⟨_, rfl⟩
  obtain ⟨w4, hw4⟩ : ∃ w4, w4 = w3.alloc (.cells #[.slice (some ⟨lb, 0, none⟩) n dl] 45) := ⟨_, rfl⟩
  have hb4 : Below w3.heap.size w3 w4 := by rw [hw4]; exact (Below.refl _ _).alloc (Nat.le_refl _) _
  have hc4 : w4.cell? ⟨lx, 0, none⟩ = some (.slice (some ⟨lb, 0, none⟩) n dl) := by rw [hw4, hlx, cell_new]; rfl
  have hz4 : w4.heap.size = lx + 1 := by rw [hw4, al_size, hlx]
  have hbx4 := hbx3.below hb4
  have hne0 : ((n : Int) == 0) = false := by rw [beq_eq_false_iff_ne]; omega
  have hcl := clone_row c (HR.out.below hbx4.bel) (by rw [HWL.out]; exact hn0) (by rw [HWL.out]; omega)
  rw [HWL.out] at hcl
  have d0 := hbx4.c0
  rw [HN.out] at d0
  have d2 := hbx4.c2
  rw [hw4] at d0 d2
  have HW4 := Lib.hid hw4
  have HLX := Lib.hid hlx
  have HCL := Lib.hid hcl
  have HBX4 := Lib.hid hbx4
  have HRO := Lib.hid (hro.below hb4)
  have HROWS := Lib.hid hrows
  have HO := Lib.hid ho
  have HB4 := Lib.hid hb4
  have HC4 := Lib.hid hc4
  have HZ4 := Lib.hid hz4
  have hlbx : lb < lx := by omega
  clear hcl hbx4 hbx3 hb3 ho3 hnx3 hrows hro hb4 hc4 hz4 ho hoL c0 c1 c2 hw4 hlx
  gi_wp2_with fail
  rw [← HW4.out, ← HLX.out]
  refine ⟨trivial, (callsIn_wide.2 HCL.out).mono ?_⟩
  rintro e w5 ⟨vb, rfl, hob, hb5⟩
  obtain ⟨gb, capb, rfl, hgb0, hgb1⟩ := hob.form hn0
  clear d0 d2
  obtain ⟨bx, hbx⟩ : ∃ bx, bx = w5.heap.size := ⟨_, rfl⟩
  obtain ⟨w6, hw6⟩ : ∃ w6, w6 = w5.alloc (.cells #[.slice (some ⟨gb, 0, none⟩) n capb] 25) := ⟨_, rfl⟩
  have hb6 : Below w5.heap.size w5 w6 := by rw [hw6]; exact (Below.refl _ _).alloc (Nat.le_refl _) _
  have hc6 : w6.cell? ⟨bx, 0, none⟩ = some (.slice (some ⟨gb, 0, none⟩) n capb) := by rw [hw6, hbx, cell_new]; rfl
  have hb56 : Below w4.heap.size w4 w6 := hb5.trans (hb6.mono hb5.size)
  have HW6 := Lib.hid hw6
  have HBXX := Lib.hid hbx
  have HOB := Lib.hid hob
  have HB56 := Lib.hid hb56
  have HC6 := Lib.hid hc6
  have HB6 := Lib.hid hb6
  clear hbx hw6 hob hb56 hc6 hb6 hb5
  gi_wp2_with fail
  rw [← HW6.out, ← HBXX.out]
  refine ⟨trivial, (callsIn_wide.2 (backward_c Xo o.length co w6)).mono ?_⟩
  rintro e w7 ⟨rfl, hc7, hz7, hb7⟩
  have hz67 : w6.heap.size ≤ w7.heap.size := Nat.le_of_lt hz7
  have hgz : gb < w7.heap.size := by have := HB6.out.size; omega
  have hbxz : bx < w6.heap.size := by rw [HBXX.out, HW6.out, al_size]; omega
  have hgbx : bx ≠ gb := by have := HBXX.out; omega
  have hb47 : Below w4.heap.size w4 w7 := HB56.out.trans (hb7.mono HB56.out.size)
  have hallb : ∀ W, Moves [gb] w7 W → Below w4.heap.size w4 W := fun W hm => hb47.trans (hm.below hb47.size (fun k hk => by simp at hk; subst hk; exact hgb0))
  have hbest : NumAt w7 gb n (fun i => lonF (wtF wts) (nxt g) (wtF wts) (o.reverse.take (o.length - o.length)) i) := by
    rw [Nat.sub_self, List.take_zero]
    have hb57 : Below w5.heap.size w5 w7 := HB6.out.trans (hb7.mono HB6.out.size)
    refine ⟨hgz, fun i hi => ?_, fun j => (hb57.frozen (p := ⟨gb, j, none⟩) hgb1).trans (own_frozen HOB.out j)⟩
    have := HOB.out.cells (g := gb) rfl i (.int .i64 wts[i]!) (by rw [List.getElem?_map, List.getElem?_eq_getElem (by rw [HWL.out]; exact hi)]; simp [HWL.out, hi])
    rw [add_zero] at this
    rw [hb57.cell (p := ⟨gb, i, none⟩) hgb1, this]
    show some (Value.int .i64 wts[i]!) = some (Value.int .i64 (wtF wts i))
    rw [wtF_get (by rw [HWL.out]; exact hi), getElem!_pos _ i (by rw [HWL.out]; exact hi)]
  have hbxc : ∀ W, Moves [gb] w7 W → W.cell? ⟨bx, 0, none⟩ = some (.slice (some ⟨gb, 0, none⟩) n capb) := fun W hm => ((hm.cell (by omega) (by simpa using hgbx) 0).trans (hb7.cell (p := ⟨bx, 0, none⟩) hbxz)).trans HC6.out
  have hol : o.length = n := by have := HL.out.full; rw [HNN.out, ← HO.out] at this; exact this
  have HALLB := Lib.hid hallb
  have HBEST := Lib.hid hbest
  have HBXC := Lib.hid hbxc
  have HC7 := Lib.hid hc7
  have HOL := Lib.hid hol
  have HHZ := Lib.hid hz7
  clear hallb hbest hbxc hc7 hol hb47 hb7
  gi_wp2_with fail
  refine range_back (by omega) rfl rfl (by rw [HOL.out]; omega) (fun m W => Moves [gb] w7 W ∧ NumAt W gb n (fun i => lonF (wtF wts) (nxt g) (wtF wts) (o.reverse.take (o.length - m)) i))
    (fun m x T => ((T.setIfInBounds 54 (Value.int .i64 (m : Int))).setIfInBounds 55 (Value.int .i64 x)).setIfInBounds 13 (Value.int .i64 x)) (B := w6.heap.size) (c := co) (X := Xo) (o := o) ?hInv ?hK ?hassign ?hbody ?h0 ?hdone
  case hInv =>
    rintro m W ⟨hm, _⟩
    exact ⟨(hm.cell (by omega) (by simp; have := HBXX.out; omega) 0).trans HC7.out, HRO.out.below (HALLB.out W hm)⟩
  case hK =>
    rintro m A B' row ⟨h1, h2⟩ hg hr
    have hm := Moves.of_grown (M := row.toList) hg (by intro k e; simp [e])
    exact ⟨h1.onto hm (fun k hk => .inr (hr k (by simpa using hk))), h2.moves hm (fun hk => by have := hr gb (by simpa using hk); omega)⟩
  case hassign =>
    intro l m hm W K' hk hK'
    obtain ⟨x, hx⟩ : ∃ x, x = o[m] := ⟨_, rfl⟩
    rw [← hx] at hK' ⊢
    clear hx hk
    gi_wp2
    refine hK' _ _ (Below.refl _ _) ?_
    rfl
  case hbody =>
    rintro l m hm W ⟨hmv, hnum⟩
    simp only [List.setIfInBounds_toArray, List.set_cons_succ, List.set_cons_zero]
    obtain ⟨p1, hp1⟩ : ∃ p1, p1 = o.reverse.take (o.length - (m + 1)) := ⟨_, rfl⟩
    have hnext : o.reverse.take (o.length - m) = p1 ++ [o[m]] := by
      rw [show o.length - m = (o.length - (m + 1)) + 1 by omega, List.take_succ_eq_append_getElem (by rw [List.length_reverse]; omega), hp1, List.getElem_reverse]
      congr 3
      omega
    have hback := HL.out.back
    rw [HNN.out, ← HO.out] at hback
    have hvp : o[m] ∉ p1 := by
      have := nodup_take hback.nod (m := o.length - (m + 1)) (by rw [List.length_reverse]; omega)
      rw [List.getElem_reverse, ← hp1] at this
      have e : o.length - 1 - (o.length - (m + 1)) = m := by omega
      simp only [e] at this
      exact this
    have hvr : 0 ≤ o[m] ∧ o[m] < (n : Int) := by
      have := (ord_begun (nxt g) n).rng o[m] (by rw [← HO.out]; exact List.getElem_mem hm)
      exact this
    rw [← hp1] at hnum
    rw [hnext]
    obtain ⟨v, hv⟩ : ∃ v : Nat, o[m] = (v : Int) := ⟨o[m].toNat, by omega⟩
    rw [hv] at hvp hvr ⊢
    have hvn : v < n := by omega
    have hv0 : (0 : Int) ≤ (v : Int) := by omega
    have hv1 : (v : Int) < (n : Int) := by omega
    obtain ⟨f, hf⟩ : ∃ f, f = lonF (wtF wts) (nxt g) (wtF wts) p1 := ⟨_, rfl⟩
    have hf0 : f v = wtF wts v := by rw [hf]; exact lonF_out hvp
    have hfin : ∀ i, lonF (wtF wts) (nxt g) (wtF wts) (p1 ++ [(v : Int)]) i = lonRow (wtF wts) v (nxt g v) f i := fun i => by rw [lonF_snoc, hf]
    have hfb : ∀ i, 0 ≤ f i ∧ f i ≤ 4503599627370496 * 2 := fun i => by
      have hb := wtF_bound HL.out.fine
      have h1 := lonF_bound (wt := wtF wts) (adj := nxt g) (f0 := wtF wts) (by omega) hb hb p1 i
      have h2 : p1.length ≤ 4096 := by rw [hp1, List.length_take, List.length_reverse, HOL.out]; omega
      rw [← hf] at h1
      have h3 : ((p1.length : Int) + 1) * 1099511627776 ≤ 4503599627370496 * 2 := by omega
      omega
    rw [← hf] at hnum
    have hbW := HALLB.out W hmv
    obtain ⟨Y, dY, hcY, hrY, _⟩ := HROWS.out v hvn
    obtain ⟨l, hl'⟩ : ∃ l, l = nxt g v := ⟨_, rfl⟩
    have hns : (v : Int) ∉ l := by rw [hl']; exact no_self HL.out.no v
    have hll : l.length ≤ 16384 := by rw [hl']; have := nxt_length g v; have := HL.out.good.len; omega
    have hlr : ∀ y ∈ l, 0 ≤ y ∧ y < (n : Int) := fun y hy => by rw [hl'] at hy; exact nxt_inN HL.out.good HN.out v y hy
    rw [← hl'] at hcY hrY hfin
    have HLFT : Hid (∀ wr, Moves [gb] w7 wr → wr.cell? ⟨lx, 0, none⟩ = some (.slice (some ⟨lb, 0, none⟩) n dl) ∧ wr.cell? ⟨lb, v, none⟩ = some (.slice Y l.length dY) ∧ RowAt wr Y (I l) ∧ RowAt wr X (I wts) ∧ wr.cell? ⟨w.heap.size + 1, 0, none⟩ = some (.slice X n c)) := Lib.hid fun wr hm => by
      have hb := HALLB.out wr hm
      have hb3 : Below w3.heap.size w3 wr := HB4.out.trans (hb.mono (by have := HB4.out.size; omega))
      exact ⟨(hb.cell (p := ⟨lx, 0, none⟩) (by have := HZ4.out; show lx < _; omega)).trans HC4.out, (hb3.cell (p := ⟨lb, v, none⟩) hlbw).trans hcY, hrY.below hb3, HR.out.below (HBX4.out.bel.trans (hb.mono (by have := HBX4.out.lt; omega))), (hb.cell (p := ⟨w.heap.size + 1, 0, none⟩) HBX4.out.lt).trans HBX4.out.c2⟩
    have hnum0 : NumAt W gb n (fun i => if (i : Int) = (v : Int) then wtF wts v + maxs f 0 (l.take 0) else f i) := hnum.congr (fun i _ => by
      rw [List.take_zero, maxs_nil]
      by_cases e : (i : Int) = (v : Int)
      · rw [if_pos e, e, hf0]; omega
      · rw [if_neg e])
    obtain ⟨hlxc, hlbc, _, _, _⟩ := HLFT.out W hmv
    have HNUM := Lib.hid hnum0
    have HMV := Lib.hid hmv
    have HFIN := Lib.hid hfin
    have HFB := Lib.hid hfb
    have HNS := Lib.hid hns
    have HLR := Lib.hid hlr
    have HXR := Lib.hid hrY
    clear hp1 hnext hback hvp hvr hf hf0 hfin hfb hnum hnum0 hmv hns hlr hcY hrY hl' hbW hv
    gi_wp2
    gi_loopw [61] (fun i wr => ∃ j : Nat, i = .int .i64 j ∧ j ≤ l.length ∧ Moves [gb] w7 wr ∧ NumAt wr gb n (fun i => if (i : Int) = (v : Int) then wtF wts v + maxs f 0 (l.take j) else f i) ∧ Below 0 W wr ∧ Rest w7.heap.size W wr) (fun i _ => l.length - (intOf i).toNat)
    case atStart => exact ⟨0, rfl, by omega, HMV.out, HNUM.out, Below.refl _ _, fun i o _ h _ => h⟩
    case round =>
      obtain ⟨j, rfl, hj, hmv, hnum, hbe, hre⟩ := hrel
      obtain ⟨_, _, hrY, hrX, k2⟩ := HLFT.out wr hmv
      have k1 := HBXC.out wr hmv
      by_cases hlj : j < l.length
      · have hj0 : (0 : Int) ≤ (j : Int) := by omega
        have hj1 : (j : Int) < (l.length : Int) := by omega
        obtain ⟨b, off, rfl, hcj⟩ := hrY.int hlj
        have hxr := HLR.out _ (List.getElem_mem hlj)
        have hxne : l[j] ≠ (v : Int) := fun e => HNS.out (by rw [← e]; exact List.getElem_mem hlj)
        have hms := maxs_snoc f 0 (l.take j) l[j]
        rw [← List.take_succ_eq_append_getElem hlj] at hms
        obtain ⟨x, hx⟩ : ∃ x : Nat, l[j] = (x : Int) := ⟨l[j].toNat, by omega⟩
        rw [hx] at hcj hxr hxne hms
        have hxn : x < n := by omega
        have hx0 : (0 : Int) ≤ (x : Int) := by omega
        have hx1 : (x : Int) < (n : Int) := by omega
        obtain ⟨xb, xo, rfl, hcw⟩ := hrX.int (show v < wts.length by rw [HWL.out]; exact hvn)
        obtain ⟨wv, hwv⟩ : ∃ wv, wv = wtF wts v := ⟨_, rfl⟩
        obtain ⟨p, hp⟩ : ∃ p, p = wv + maxs f 0 (l.take j) := ⟨_, rfl⟩
        obtain ⟨q, hq⟩ : ∃ q, q = f x := ⟨_, rfl⟩
        have k3 : wr.cell? ⟨xb, xo + v, none⟩ = some (.int .i64 wv) := by rw [hcw, hwv, wtF_get]
        have k4 : wr.cell? ⟨gb, v, none⟩ = some (.int .i64 p) := by rw [hnum.2.1 v hvn, hp, hwv]; simp
        have k5 : wr.cell? ⟨gb, x, none⟩ = some (.int .i64 q) := by
          rw [hnum.2.1 x hxn, hq]
          show some (Value.int .i64 (if (x : Int) = (v : Int) then _ else f x)) = _
          rw [if_neg hxne]
        have hfv := hnum.2.2 v
        have hwb := wtF_bound HL.out.fine v
        have hqb := HFB.out x
        have hmb : 0 ≤ maxs f 0 (l.take j) ∧ maxs f 0 (l.take j) ≤ 4503599627370496 * 2 := by
          have h1 := (maxs_ge f (l.take j) 0).1
          rcases maxs_is f (l.take j) 0 with e | ⟨y, _, e⟩
          · omega
          · have := HFB.out y; omega
        rw [← hwv] at hwb
        rw [← hq] at hqb
        obtain ⟨hw0, hw1⟩ := hwb
        obtain ⟨hq0, hq1⟩ := hqb
        have hp0 : 0 ≤ p := by omega
        have hp2 : p ≤ 4503599627370496 * 4 := by omega
        have hput : NumAt (wr.drew.setCell ⟨gb, v, none⟩ (.int .i64 (max p (wv + q)))) gb n (fun i => if (i : Int) = (v : Int) then wtF wts v + maxs f 0 (l.take (j + 1)) else f i) := (hnum.drewN 1).put hvn (fun i _ => by
          by_cases e : i = v
          · subst e
            rw [if_pos rfl, if_pos rfl, hms, ← hwv, hp, hq]
            omega
          · rw [if_neg (by omega), if_neg e, if_neg (by omega)])
        have hsd := Moves.set (M := [gb]) wr.drew ⟨gb, v, none⟩ (.int .i64 (max p (wv + q))) (by simp)
        have hd : Moves [gb] wr wr.drew := Moves.of_new _ ((Below.refl _ _).drew)
        have HPUT := Lib.hid hput
        have HMV2 := Lib.hid (hmv.trans (hd.trans hsd))
        have HBE2 := Lib.hid (hbe.trans (((Below.refl 0 wr).drew).setCell (p := ⟨gb, v, none⟩) (Nat.zero_le _) (.int .i64 (max p (wv + q)))))
        have HRE2 : Hid (Rest w7.heap.size W (wr.drew.setCell ⟨gb, v, none⟩ (.int .i64 (max p (wv + q))))) := Lib.hid fun i ob hi hh hc => by
          rw [Below.heap_setCell wr.drew ⟨gb, v, none⟩ _ i (by show i ≠ gb; omega)]
          exact hre i ob hi hh hc
        clear hms hput hsd hd hmv hnum hbe hre hp hq hwv hmb hcw hx hrY hrX hxr hxne
        gi_wp2_with fail
        -- begin printed
        refine region_in_roundL 17 (fun w' => w'.heap = wr.heap ∧ w'.cell? ⟨bx, 0, none⟩ = some (.slice (some ⟨gb, 0, none⟩) n capb) ∧ w'.cell? ⟨w.heap.size + 1, 0, none⟩ = some (.slice (some ⟨xb, xo, none⟩) n c) ∧ w'.cell? ⟨xb, xo + v, none⟩ = some (.int .i64 wv) ∧ w'.cell? ⟨gb, v, none⟩ = some (.int .i64 p) ∧ w'.cell? ⟨gb, x, none⟩ = some (.int .i64 q)) (by kernel_rfl) (by kernel_rfl) ?hno ?xsq (fun hHeld => ?xr)
        case hno =>
          rintro ⟨a, w, h⟩
          exact absurd h.1 (by simp)
        case xsq => exact ⟨rfl, k1, k2, k3, k4, k5⟩
        refine takeL (i := 0) (d := 65) (v := ?xv0) rfl (by rfl) (by kernel_rfl) (by kernel_rfl) (by kernel_rfl) (by kernel_rfl) (by rfl) (fun _ _ _ h => h) (Or.inl ⟨by rfl, ?xy0⟩) (by assumption) ?xr0
        case xy0 => intro w' hSw; obtain ⟨_, q1, q2, q3, q4, q5⟩ := hSw; go_simp; (try with_reducible rfl)
        case' xr0 => simp only [Act.put, List.setIfInBounds_toArray, List.set_cons_zero, List.set_cons_succ]
        refine takeL (i := 1) (d := 66) (v := ?xv1) rfl (by rfl) (by kernel_rfl) (by kernel_rfl) (by kernel_rfl) (by kernel_rfl) (by rfl) (fun _ _ _ h => h) (Or.inl ⟨by rfl, ?xy1⟩) (by assumption) ?xr1
        case xy1 => intro w' hSw; obtain ⟨_, q1, q2, q3, q4, q5⟩ := hSw; go_simp; (try with_reducible rfl)
        case' xr1 => simp only [Act.put, List.setIfInBounds_toArray, List.set_cons_zero, List.set_cons_succ]
        refine takeL (i := 2) (d := 67) (v := ?xv2) rfl (by rfl) (by kernel_rfl) (by kernel_rfl) (by kernel_rfl) (by kernel_rfl) (by rfl) (fun _ _ _ h => h) (Or.inl ⟨by rfl, ?xy2⟩) (by assumption) ?xr2
        case xy2 => intro w' hSw; obtain ⟨_, q1, q2, q3, q4, q5⟩ := hSw; go_simp; (try with_reducible rfl)
        case' xr2 => simp only [Act.put, List.setIfInBounds_toArray, List.set_cons_zero, List.set_cons_succ]
        refine takeL (i := 3) (d := 68) (v := ?xv3) rfl (by rfl) (by kernel_rfl) (by kernel_rfl) (by kernel_rfl) (by kernel_rfl) (by rfl) (fun _ _ _ h => h) (Or.inl ⟨by rfl, ?xy3⟩) (by assumption) ?xr3
        case xy3 => intro w' hSw; obtain ⟨_, q1, q2, q3, q4, q5⟩ := hSw; go_simp; (try with_reducible rfl)
        case' xr3 => simp only [Act.put, List.setIfInBounds_toArray, List.set_cons_zero, List.set_cons_succ]
        refine takeL (i := 4) (d := 69) (v := ?xv4) rfl (by rfl) (by kernel_rfl) (by kernel_rfl) (by kernel_rfl) (by kernel_rfl) (by rfl) (fun _ _ _ h => h) (Or.inl ⟨by rfl, ?xy4⟩) (by assumption) ?xr4
        case xy4 => intro w' hSw; obtain ⟨_, q1, q2, q3, q4, q5⟩ := hSw; go_simp; (try with_reducible rfl)
        case' xr4 => simp only [Act.put, List.setIfInBounds_toArray, List.set_cons_zero, List.set_cons_succ]
        refine takeL (i := 5) (d := 70) (v := ?xv5) rfl (by rfl) (by kernel_rfl) (by kernel_rfl) (by kernel_rfl) (by kernel_rfl) (by rfl) (fun _ _ _ h => h) (Or.inl ⟨by rfl, ?xy5⟩) (by assumption) ?xr5
        case xy5 => intro w' hSw; obtain ⟨_, q1, q2, q3, q4, q5⟩ := hSw; go_simp; (try with_reducible rfl)
        case' xr5 => simp only [Act.put, List.setIfInBounds_toArray, List.set_cons_zero, List.set_cons_succ]
        refine takeL (i := 6) (d := 71) (v := ?xv6) rfl (by rfl) (by kernel_rfl) (by kernel_rfl) (by kernel_rfl) (by kernel_rfl) (by rfl) (fun _ _ _ h => h) (Or.inl ⟨by rfl, ?xy6⟩) (by assumption) ?xr6
        case xy6 => intro w' hSw; obtain ⟨_, q1, q2, q3, q4, q5⟩ := hSw; go_simp; (try with_reducible rfl)
        case' xr6 => simp only [Act.put, List.setIfInBounds_toArray, List.set_cons_zero, List.set_cons_succ]
        refine takeL (i := 7) (d := 72) (v := ?xv7) rfl (by rfl) (by kernel_rfl) (by kernel_rfl) (by kernel_rfl) (by kernel_rfl) (by rfl) (fun _ _ _ h => h) (Or.inl ⟨by rfl, ?xy7⟩) (by assumption) ?xr7
        case xy7 => intro w' hSw; obtain ⟨_, q1, q2, q3, q4, q5⟩ := hSw; go_simp; (try with_reducible rfl)
        case' xr7 => simp only [Act.put, List.setIfInBounds_toArray, List.set_cons_zero, List.set_cons_succ]
        refine takeL (i := 8) (d := 73) (v := ?xv8) rfl (by rfl) (by kernel_rfl) (by kernel_rfl) (by kernel_rfl) (by kernel_rfl) (by rfl) (fun _ _ _ h => h) (Or.inl ⟨by rfl, ?xy8⟩) (by assumption) ?xr8
        case xy8 => intro w' hSw; obtain ⟨_, q1, q2, q3, q4, q5⟩ := hSw; go_simp; (try with_reducible rfl)
        case' xr8 => simp only [Act.put, List.setIfInBounds_toArray, List.set_cons_zero, List.set_cons_succ]
        refine takeL (i := 9) (d := 74) (v := ?xv9) rfl (by rfl) (by kernel_rfl) (by kernel_rfl) (by kernel_rfl) (by kernel_rfl) (by rfl) (fun _ _ _ h => h) (Or.inl ⟨by rfl, ?xy9⟩) (by assumption) ?xr9
        case xy9 => intro w' hSw; obtain ⟨_, q1, q2, q3, q4, q5⟩ := hSw; go_simp; (try with_reducible rfl)
        case' xr9 => simp only [Act.put, List.setIfInBounds_toArray, List.set_cons_zero, List.set_cons_succ]
        refine takeL (i := 10) (d := 75) (v := ?xv10) rfl (by rfl) (by kernel_rfl) (by kernel_rfl) (by kernel_rfl) (by kernel_rfl) (by rfl) (fun _ _ _ h => h) (Or.inl ⟨by rfl, ?xy10⟩) (by assumption) ?xr10
        case xy10 => intro w' hSw; obtain ⟨_, q1, q2, q3, q4, q5⟩ := hSw; go_simp; (try with_reducible rfl)
        case' xr10 => simp only [Act.put, List.setIfInBounds_toArray, List.set_cons_zero, List.set_cons_succ]
        refine takeL (i := 11) (d := 76) (v := ?xv11) rfl (by rfl) (by kernel_rfl) (by kernel_rfl) (by kernel_rfl) (by kernel_rfl) (by rfl) (fun _ _ _ h => h) (Or.inl ⟨by rfl, ?xy11⟩) (by assumption) ?xr11
        case xy11 => intro w' hSw; obtain ⟨_, q1, q2, q3, q4, q5⟩ := hSw; go_simp; (try with_reducible rfl)
        case' xr11 => simp only [Act.put, List.setIfInBounds_toArray, List.set_cons_zero, List.set_cons_succ]
        refine takeL (i := 12) (d := 77) (v := ?xv12) rfl (by rfl) (by kernel_rfl) (by kernel_rfl) (by kernel_rfl) (by kernel_rfl) (by rfl) (fun _ _ _ h => h) (Or.inl ⟨by rfl, ?xy12⟩) (by assumption) ?xr12
        case xy12 => intro w' hSw; obtain ⟨_, q1, q2, q3, q4, q5⟩ := hSw; go_simp; (try with_reducible rfl)
        case' xr12 => simp only [Act.put, List.setIfInBounds_toArray, List.set_cons_zero, List.set_cons_succ]
        refine takeL (i := 13) (d := 78) (v := ?xv13) rfl (by rfl) (by kernel_rfl) (by kernel_rfl) (by kernel_rfl) (by kernel_rfl) (by rfl) (fun _ _ _ h => h) (Or.inl ⟨by rfl, ?xy13⟩) (by assumption) ?xr13
        case xy13 => intro w' hSw; obtain ⟨_, q1, q2, q3, q4, q5⟩ := hSw; go_simp; (try with_reducible rfl)
        case' xr13 => simp only [Act.put, List.setIfInBounds_toArray, List.set_cons_zero, List.set_cons_succ]
        refine takeL (i := 14) (d := 79) (v := ?xv14) rfl (by rfl) (by kernel_rfl) (by kernel_rfl) (by kernel_rfl) (by kernel_rfl) (by rfl) (fun _ _ _ h => h) (Or.inl ⟨by rfl, ?xy14⟩) (by assumption) ?xr14
        case xy14 => intro w' hSw; obtain ⟨_, q1, q2, q3, q4, q5⟩ := hSw; go_simp; (try with_reducible rfl)
        case' xr14 => simp only [Act.put, List.setIfInBounds_toArray, List.set_cons_zero, List.set_cons_succ]
        refine takeL (i := 15) (d := 80) (v := ?xv15) rfl (by rfl) (by kernel_rfl) (by kernel_rfl) (by kernel_rfl) (by kernel_rfl) (by rfl) (fun _ _ _ h => h) (Or.inl ⟨by rfl, ?xy15⟩) (by assumption) ?xr15
        case xy15 => intro w' hSw; obtain ⟨_, q1, q2, q3, q4, q5⟩ := hSw; go_simp; (try with_reducible rfl)
        case' xr15 => simp only [Act.put, List.setIfInBounds_toArray, List.set_cons_zero, List.set_cons_succ]
        refine takeL (i := 16) (d := 81) (v := ?xv16) rfl (by rfl) (by kernel_rfl) (by kernel_rfl) (by kernel_rfl) (by kernel_rfl) (by rfl) (fun _ _ _ h => h) (Or.inl ⟨by rfl, ?xy16⟩) (by assumption) ?xr16
        case xy16 => intro w' hSw; obtain ⟨_, q1, q2, q3, q4, q5⟩ := hSw; go_simp; (try with_reducible rfl)
        case' xr16 => simp only [Act.put, List.setIfInBounds_toArray, List.set_cons_zero, List.set_cons_succ]
        refine lastL (by kernel_rfl) rfl (by kernel_rfl) (fun K hK => ?xb17)
        go_simp
        refine hK.out _ _ ?xz

        -- end printed
        all_goals
          gi_wp2
          go_roundw
          case rel => exact ⟨j + 1, by go_num, by omega, HMV2.out, HPUT.out, HBE2.out, HRE2.out⟩
          case measure => simp [intOf]; omega
      · have hge : ¬ (j : Int) < (l.length : Int) := by omega
        rw [show l.take j = l from List.take_of_length_le (by omega)] at hnum
        have hn2 : NumAt wr gb n (fun i => lonF (wtF wts) (nxt g) (wtF wts) (p1 ++ [(v : Int)]) i) := hnum.congr (fun i _ => by rw [HFIN.out]; rfl)
        have HN2 := Lib.hid hn2
        have HMV2 := Lib.hid hmv
        have HBE2 := Lib.hid hbe
        have HRE2 := Lib.hid hre
        clear hnum hn2 hmv hbe hre hrY hrX k1 k2
        gi_wp2
        exact ⟨⟨HMV2.out, HN2.out⟩, HBE2.out, HRE2.out⟩
  case h0 => exact ⟨Moves.refl _ _, HBEST.out⟩
  case hdone =>
    intro D W hD hkd hdef
    obtain ⟨hmv, hnum⟩ := hkd
    rw [Nat.sub_zero, show o.length = o.reverse.length by simp, List.take_length] at hnum
    obtain ⟨S, hS⟩ : ∃ S, S = lonT g wts := ⟨_, rfl⟩
    have hnumS : NumAt W gb n (fun i => S i) := by
      have e : lonT g wts = lonF (wtF wts) (nxt g) (wtF wts) o.reverse := by unfold lonT lonS; rw [HNN.out, ← HO.out]
      rw [hS, e]; exact hnum
    have hlS : ((nodes n).map S).length = n := by simp [nodes]
    have hrS := num_row hnumS
    have hmx := max_row capb hrS (by rw [hlS]; exact hn0) (by rw [hlS]; omega)
    have hix := index_row capb (Lib.maxOf ((nodes n).map S)) hrS (by rw [hlS]; exact hn0) (by rw [hlS]; omega)
    obtain ⟨hfm1, hfm2⟩ := first_max S hn0
    rw [hfm2] at hix
    rw [hfm1] at hix hmx
    rw [hlS] at hmx hix
    have hbW := HALLB.out W hmv
    have hgw := HBXC.out W hmv
    have hstart := HL.out.start HOK.out
    rw [HNN.out, ← hS] at hstart
    have hbd := HL.out.bound
    rw [← hS] at hbd
    have hrec : ∀ v : Nat, v < n → S v = wtF wts v + maxs S 0 (nxt g v) := fun v hv => by rw [hS]; exact HL.out.recur ⟨by omega, by rw [HN.out]; omega⟩
    obtain ⟨a0, ha0⟩ : ∃ a0 : Nat, fstF S n = (a0 : Int) := ⟨(fstF S n).toNat, by have := hstart.at_; omega⟩
    have ha0n : a0 < n := by have := hstart.at_; rw [HN.out] at this; omega
    have hsum : S a0 = lonSum g wts := by
      unfold lonSum
      rw [if_pos HOK.out, HNN.out, ← hS, ha0]
    rw [ha0] at hmx hix hstart
    have HLF : Hid (∀ wr, Below W.heap.size W wr → (wr.cell? ⟨lx, 0, none⟩ = some (.slice (some ⟨lb, 0, none⟩) n dl)) ∧ (∀ v : Nat, v < n → ∃ Y dY, wr.cell? ⟨lb, v, none⟩ = some (.slice Y (nxt g v).length dY) ∧ RowAt wr Y (I (nxt g v))) ∧ wr.cell? ⟨bx, 0, none⟩ = some (.slice (some ⟨gb, 0, none⟩) n capb) ∧ (∀ i : Nat, i < n → wr.cell? ⟨gb, i, none⟩ = some (.int .i64 (S i))) ∧ RowAt wr X (I wts) ∧ wr.cell? ⟨w.heap.size + 1, 0, none⟩ = some (.slice X n c) ∧ Below w.heap.size w wr) := Lib.hid fun wr hm => by
      have hb := hbW.trans (hm.mono hbW.size)
      have hb3 : Below w3.heap.size w3 wr := HB4.out.trans (hb.mono (by have := HB4.out.size; omega))
      have hz := hbW.size
      have hbxW : bx < W.heap.size := by have := hmv.2.2.2.1; have := HB6.out.size; omega
      exact ⟨(hb.cell (p := ⟨lx, 0, none⟩) (by have := HZ4.out; show lx < _; omega)).trans HC4.out, fun v hv => by
        obtain ⟨Y, dY, hcY, hrY, _⟩ := HROWS.out v hv
        exact ⟨Y, dY, (hb3.cell (p := ⟨lb, v, none⟩) hlbw).trans hcY, hrY.below hb3⟩, (hm.cell (p := ⟨bx, 0, none⟩) hbxW).trans hgw, fun i hi => (hm.cell (p := ⟨gb, i, none⟩) hnumS.1).trans (hnumS.2.1 i hi), HR.out.below (HBX4.out.bel.trans (hb.mono (by have := HBX4.out.lt; omega))), (hb.cell (p := ⟨w.heap.size + 1, 0, none⟩) HBX4.out.lt).trans HBX4.out.c2, HBX4.out.bel.trans (hb.mono (by have := HBX4.out.lt; omega))⟩
    have HMX := Lib.hid hmx
    have HIX := Lib.hid hix
    have HST := Lib.hid hstart
    have HBD := Lib.hid hbd
    have HREC := Lib.hid hrec
    have HS := Lib.hid hS
    have HSUM := Lib.hid hsum
    have HDEF := Lib.hid hdef
    clear hfm1 hfm2 hrS hlS hnum hbW ha0 hmx hix hstart hbd hrec hS hsum hdef hnumS hmv
    gi_step
    gi_step
    refine wpIn_wide.2 ?_
    have hlx0 := (HLF.out W (Below.refl _ _)).1
    have hgw0 := (HLF.out W (Below.refl _ _)).2.2.1
    go_wp2_with fail
    go_at_call 61
    refine HMX.out.mono ?_
    rintro e wq ⟨rfl, rfl⟩
    go_wp2_with fail
    go_at_call 62
    refine HIX.out.mono ?_
    rintro e wq ⟨rfl, rfl⟩
    obtain ⟨xb, xo, hX, _⟩ := HR.out.int (show 0 < wts.length by rw [HWL.out]; exact hn0)
    subst hX
    have HWX : Hid (∀ wr, Below W.heap.size W wr → ∀ i : Nat, i < n → wr.cell? ⟨xb, xo + i, none⟩ = some (.int .i64 (wtF wts i))) := Lib.hid fun wr hm i hi => by
      obtain ⟨xb2, xo2, hX2, hcw2⟩ := (HLF.out wr hm).2.2.2.2.1.int (show i < wts.length by rw [HWL.out]; exact hi)
      cases hX2
      rw [hcw2, wtF_get]
    obtain ⟨W1, hW1⟩ : ∃ W1, W1 = W.alloc (.cells #[.int .i64 (a0 : Int)] 3) := ⟨_, rfl⟩
    have hb1W : Below W.heap.size W W1 := by rw [hW1]; exact (Below.refl _ _).alloc (Nat.le_refl _) _
    have hc20 := (HLF.out W1 hb1W).2.2.2.2.2.1
    have hwa := HWX.out W1 hb1W a0 ha0n
    have how1 : W1.ownsRow W.heap.size 3 1 (.slice (some ⟨W.heap.size, 0, none⟩) 1 1) ([] ++ [(a0 : Int)]).length (I ([] ++ [(a0 : Int)])) := by rw [hW1]; exact own_one _ (Nat.le_refl _)
    obtain ⟨wv, hwv⟩ : ∃ wv, wv = wtF wts a0 := ⟨_, rfl⟩
    obtain ⟨sv, hsv⟩ : ∃ sv, sv = S a0 := ⟨_, rfl⟩
    rw [← hsv]
    rw [← hwv] at hwa
    have hw0 := wtF_bound HL.out.fine a0
    have hs0 := HBD.out a0
    have hrc := HREC.out a0 ha0n
    rw [← hwv] at hw0 hrc
    rw [← hsv] at hs0 hrc
    have hw1 : 0 ≤ wv := hw0.1
    have hw2 : wv ≤ 1099511627776 := hw0.2
    have hs1 : 0 ≤ sv := hs0.1
    have hs2 : sv ≤ 9007199254740992 := by omega
    have h0a : (0 : Int) ≤ (a0 : Int) := by omega
    have h1a : (a0 : Int) < (n : Int) := by omega
    rw [hW1] at hc20 hwa
    have HRC := Lib.hid hrc
    have HSV := Lib.hid hsv
    have HW1 := Lib.hid hW1
    have HB1W := Lib.hid hb1W
    have HOW1 := Lib.hid how1
    clear hw0 hs0 hrc hwv hsv hW1 hb1W how1
    go_wp2_with fail
    rw [← HW1.out]
    have hzW : W.heap.size ≤ W1.heap.size := HB1W.out.size
    go_loopw [17, 18, 19] (fun va vs vl wr => ∃ (v : Nat) (t : List Int) (k : Nat), va = .int .i64 v ∧ v < n ∧ OnWay g wts t v k ∧ wr.ownsRow W.heap.size 3 1 vs (t ++ [(v : Int)]).length (I (t ++ [(v : Int)])) ∧ vl = .int .i64 (maxs S 0 (nxt g v)) ∧ Below W.heap.size W wr) (fun _ vs _ _ => n + 1 - lenOfV vs)
    case atStart => exact ⟨a0, [], n, rfl, ha0n, HST.out, HOW1.out, by rw [HRC.out]; exact congrArg (Value.int .i64) (by omega), HB1W.out⟩
    case round =>
      obtain ⟨v, t, k, rfl, hvn, hway, hown, rfl, hbel⟩ := hrel
      obtain ⟨M, hM⟩ : ∃ M, M = maxs S 0 (nxt g v) := ⟨_, rfl⟩
      have hmb : 0 ≤ M ∧ M ≤ 9007199254740992 := by
        rcases maxs_is S (nxt g v) 0 with h | ⟨z, _, h⟩
        · rw [hM, h]; omega
        · rw [hM, h]; have := HBD.out z; omega
      rw [← hM]
      obtain ⟨Xs, cs, rfl, hrs, _⟩ := own_rowS hown
      have hlen := hway.short HL.out
      rw [HNN.out] at hlen
      by_cases hp : 0 < M
      · have hpL : 0 < maxs (lonT g wts) 0 (nxt g v) := by rw [← HS.out, ← hM]; exact hp
        obtain ⟨k', rfl, hway2⟩ := hway.step HL.out hpL
        have hxr := hway2.at_
        rw [HN.out] at hxr
        obtain ⟨x, hx⟩ : ∃ x : Nat, lonX g wts v = (x : Int) := ⟨(lonX g wts v).toNat, by omega⟩
        rw [hx] at hway2 hxr
        have hxn : x < n := by omega
        have hMx : M = S x := by
          have := (HL.out.next hpL).2.1
          rw [hx, ← HS.out, ← hM] at this
          exact this.symm
        obtain ⟨hlx1, hnx1, hg1, hgc1, _, hc1, _⟩ := HLF.out wr hbel
        obtain ⟨Y, dY, hcY, hrY⟩ := hnx1 v hvn
        obtain ⟨l, hl'⟩ : ∃ l, l = nxt g v := ⟨_, rfl⟩
        have hhit : ∀ (j : Nat) (hj : j < l.length), (∀ z ∈ l.take j, S z ≠ M) → S l[j] = M → l[j] = (x : Int) := by
          subst hl'
          intro j hj hb he
          rw [hM, HS.out] at hb he
          exact (HL.out.hit hpL hj hb he).trans hx
        have hall : ¬ ∀ z ∈ l, S z ≠ M := by
          subst hl'
          intro hb
          rw [hM, HS.out] at hb
          exact HL.out.hits hpL hb
        have hll : l.length ≤ 16384 := by rw [hl']; have := nxt_length g v; have := HL.out.good.len; omega
        have hlr : ∀ y ∈ l, 0 ≤ y ∧ y < (n : Int) := fun y hy => by rw [hl'] at hy; exact nxt_inN HL.out.good HN.out v y hy
        rw [← hl'] at hcY hrY
        have hv0 : (0 : Int) ≤ (v : Int) := by omega
        have hv1 : (v : Int) < (n : Int) := by omega
        have hx0 : (0 : Int) ≤ (x : Int) := by omega
        have hx1 : (x : Int) < (n : Int) := by omega
        have hm0 : 0 ≤ M := hmb.1
        have hm1 : M ≤ 9007199254740992 := hmb.2
        obtain ⟨wx, hwx⟩ : ∃ wx, wx = wtF wts x := ⟨_, rfl⟩
        have hwb := wtF_bound HL.out.fine x
        have hrc2 := HREC.out x hxn
        rw [← hwx] at hwb hrc2
        have hwx0 : 0 ≤ wx := hwb.1
        have hwx1 : wx ≤ 1099511627776 := hwb.2
        have hlenI : (I (t ++ [(v : Int)])).length = t.length + 1 := by simp
        have hown3 : wr.ownsRow W.heap.size 3 1 (.slice Xs (t ++ [(v : Int)]).length cs) (I (t ++ [(v : Int)])).length (I (t ++ [(v : Int)])) := by rw [List.length_map]; exact hown
        have hlen2 : t.length + 1 ≤ n := by simpa using hlen
        have HHIT := Lib.hid hhit
        have HALL := Lib.hid hall
        have HLR := Lib.hid hlr
        have HRY := Lib.hid hrY
        have HGC := Lib.hid hgc1
        have HWAY2 := Lib.hid hway2
        have HMX2 := Lib.hid hMx
        have HRC2 := Lib.hid hrc2
        have HWX2 := Lib.hid hwx
        have HOWN := Lib.hid hown3
        have HBE := Lib.hid hbel
        have HLI := Lib.hid hlenI
        have hszr : W.heap.size ≤ wr.heap.size := hbel.size
        clear hhit hall hlr hrY hgc1 hway2 hMx hrc2 hwx hown hown3 hbel hlenI hway hrs hnx1 hmb hpL hM hl' hxr hwb hx hlen
        go_wp2_with fail
        go_loop [109] (fun i => ∃ j : Nat, i = .int .i64 j ∧ j ≤ l.length ∧ ∀ z ∈ l.take j, S z ≠ M) (fun i => l.length - (intOf i).toNat)
        case atStart => exact ⟨0, rfl, by omega, by simp⟩
        case round =>
          obtain ⟨j, rfl, hj, hb⟩ := hrel
          by_cases hlj : j < l.length
          · have hj0 : (0 : Int) ≤ (j : Int) := by omega
            have hj1 : (j : Int) < (l.length : Int) := by omega
            obtain ⟨b, off, rfl, hcj⟩ := HRY.out.int hlj
            have hyr := HLR.out _ (List.getElem_mem hlj)
            have hsnoc := List.take_succ_eq_append_getElem hlj
            have hh := HHIT.out j hlj hb
            obtain ⟨y, hy⟩ : ∃ y : Nat, l[j] = (y : Int) := ⟨l[j].toNat, by omega⟩
            rw [hy] at hcj hyr hsnoc hh
            have hyn : y < n := by omega
            have hy0 : (0 : Int) ≤ (y : Int) := by omega
            have hy1 : (y : Int) < (n : Int) := by omega
            have hcq := HGC.out y hyn
            obtain ⟨q, hq⟩ : ∃ q, q = S y := ⟨_, rfl⟩
            rw [← hq] at hcq hh
            by_cases he : q = M
            · have hyx : y = x := by have := hh he; omega
              subst hyx
              subst he
              clear hh hq hsnoc hb hy hyr hyn hy0 hy1
              go_wp2_with (at_builtin; go_loud (refine app_new W.heap.size (by rfl) _ _ 25 3 (.int .i64 0) 8 (by rfl) Try.underlying25 info_int rfl _ (I (t ++ [(v : Int)])) (.int .i64 (y : Int)) (by rfl) _ (by rfl) rfl rfl HOWN.out hszr (by have := HLI.out; omega) (by have := HLI.out; omega) ?_; intro v5 w5 ho5 hg5 hb5 hs5; have hbe5 : Below W.heap.size W w5 := HBE.out.grown hg5 hszr (fun k hk => (HOWN.out.lt k hk).1); have hc5 := (HLF.out w5 hbe5).2.2.2.2.2.1; have hwc5 := HWX.out w5 hbe5 y hxn; rw [← HWX2.out] at hwc5; have HO5 := Lib.hid ho5; have HBE5 := Lib.hid hbe5; clear ho5 hg5 hb5 hs5 hbe5))
              go_roundw
              case rel => exact ⟨y, t ++ [(v : Int)], k', by go_num, hxn, HWAY2.out, by simpa [List.map_append] using HO5.out, congrArg (Value.int .i64) (by have := HRC2.out; have := HMX2.out; omega), HBE5.out⟩
              case measure =>
                obtain ⟨X5, c5, rfl, _⟩ := own_rowS HO5.out
                show n + 1 - ((I (t ++ [(v : Int)])).length + 1) < n + 1 - (t ++ [(v : Int)]).length
                rw [HLI.out, List.length_append, List.length_singleton]
                omega
            · have hqb : (q == M) = false := by simpa using he
              have HB2 : Hid (∀ z ∈ l.take (j + 1), S z ≠ M) := Lib.hid (by
                rw [hsnoc]
                intro z hz
                rcases List.mem_append.1 hz with hz | hz
                · exact hb z hz
                · rw [List.mem_singleton.1 hz, ← hq]; exact he)
              clear hh hq hsnoc hb hy hyr hyn
              go_wp2
              go_round
              case rel => exact ⟨j + 1, by go_num, by omega, HB2.out⟩
              case measure => simp [intOf]; omega
          · rw [List.take_of_length_le (by omega)] at hb
            exact (HALL.out hb).elim
      · have hdone := hway.done HL.out (by rw [← HS.out, ← hM]; exact hp)
        rw [hdone] at hrs hown
        rw [hdone]
        have hdef : wr.heap[D]? = some (.deferred (some [])) := (hbel.block D (Array.getElem?_eq_some_iff.1 HDEF.out).1).trans HDEF.out
        have hgp := grownBy_putObj' wr D (.deferred none)
        have hDW := (Array.getElem?_eq_some_iff.1 HDEF.out).1
        have hzw := HBX4.out.lt
        have hzb := HBX4.out.bel.size
        have hbf := (HLF.out wr hbel).2.2.2.2.2.2
        have hbp : Below w.heap.size w (wr.putObj D (.deferred none)) := hbf.grown hgp hbf.size (fun r e => by cases e; have := HB56.out.size; omega)
        obtain ⟨X9, d9, hv9, hrs9, _⟩ := own_rowS (own_grown_by hown hgp hDW)
        cases hv9
        have hM0 : M = 0 := by omega
        have HRS := Lib.hid hrs9
        have HBP := Lib.hid hbp
        have HDEF2 := Lib.hid hdef
        clear hrs hrs9 hbel hdef hown hway hlen hM hbp hgp hbf
        go_wp2
        refine ⟨by simp, .inl ⟨_, _, rfl, run_takeDeferred HDEF2.out, ?_⟩⟩
        exact ⟨.tuple #[.int .i64 sv, .slice Xs (lonWay g wts).length cs, .int .i64 0], by simp [results, Try.results29, go_sem], Xs, cs, by rw [← HSUM.out, ← HSV.out, HOK.out.1], HRS.out, HBP.out⟩
end Go.Proofs.Ytpdfcffeinbcaaa
