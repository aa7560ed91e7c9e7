/- The program's components: Tarjan's way over all nodes, what is told put in order. -/
import Derived.Test.YtpdfcffeinbcaaaH45
import Derived.Test.YtpdfcffeinbcaaaH46
import Derived.Test.YtpdfcffeinbcaaaS16
import Derived.Test.YtpdfcffeinbcaaaM2
namespace Go.Proofs.Ytpdfcffeinbcaaa
open Go.RowKit
/-- Rows that are read, all of their blocks from lo on; a nil slice too. -/
def RowsAt (w : World) (lo : Nat) (v : Value) (n : Nat) (ls : Nat → List Int) : Prop :=
  ∃ X d, v = .slice X n d ∧ ∀ i, i < n → ∃ b Y d', X = some ⟨b, 0, none⟩ ∧ lo ≤ b ∧ b < w.heap.size ∧ w.cell? ⟨b, i, none⟩ = some (.slice Y (ls i).length d') ∧ RowAt w Y (I (ls i)) ∧ ∀ b' o, Y = some ⟨b', o, none⟩ → lo ≤ b'
theorem NextAt.rows {w : World} {lo n : Nat} {v : Value} {ls : Nat → List Int} (h : NextAt w lo v n ls) : RowsAt w lo v n ls := by
  obtain ⟨b, d, rfl, h1, h2, h3⟩ := h
  exact ⟨_, d, rfl, fun i hi => by obtain ⟨Y, d', h4, h5, h6⟩ := h3 i hi; exact ⟨b, Y, d', rfl, h1, h2, h4, h5, h6⟩⟩
theorem RowsAt.below {w w' : World} {lo n : Nat} {v : Value} {ls : Nat → List Int} (h : RowsAt w lo v n ls) (hb : Below w.heap.size w w') : RowsAt w' lo v n ls := by
  obtain ⟨X, d, rfl, h3⟩ := h
  refine ⟨X, d, rfl, fun i hi => ?_⟩
  obtain ⟨b, Y, d', h1, h2, h4, h5, h6, h7⟩ := h3 i hi
  exact ⟨b, Y, d', h1, h2, Nat.lt_of_lt_of_le h4 hb.size, (hb.cell (p := ⟨b, i, none⟩) h4).trans h5, h6.below hb, h7⟩
set_option maxHeartbeats 1000000 in
/-- The first less the first. -/
theorem first_c {w : World} {X Y : Option Addr} {a b : List Int} (da db : Nat) (hx : RowAt w X (I a)) (hy : RowAt w Y (I b)) (ha : a ≠ [] ∧ 0 ≤ hd a ∧ hd a < 4096) (hb : b ≠ [] ∧ 0 ≤ hd b ∧ hd b < 4096) :
    Calls Try.prog 82 #[.slice X a.length da, .slice Y b.length db] w fun e w' => e = .returned (.int .i64 (hd a - hd b)) ∧ ∃ q, w' = w.drewN q := by
  cases a with
  | nil => exact absurd rfl ha.1
  | cons x a =>
    cases b with
    | nil => exact absurd rfl hb.1
    | cons y b =>
      obtain ⟨b1, o1, rfl, h1⟩ := hx.int (show 0 < (x :: a).length by simp)
      obtain ⟨b2, o2, rfl, h2⟩ := hy.int (show 0 < (y :: b).length by simp)
      have e1 : hd (x :: a) = x := rfl
      have e2 : hd (y :: b) = y := rfl
      rw [e1] at ha
      rw [e2] at hb
      rw [e1, e2]
      simp only [List.getElem_cons_zero, Nat.add_zero] at h1 h2
      simp only [List.length_cons]
      obtain ⟨m1, hm1⟩ : ∃ m1, m1 = a.length := ⟨_, rfl⟩
      obtain ⟨m2, hm2⟩ : ∃ m2, m2 = b.length := ⟨_, rfl⟩
      rw [← hm1, ← hm2]
      obtain ⟨_, x0, x1⟩ := ha
      obtain ⟨_, y0, y1⟩ := hb
      have hw : IntKind.i64.wrap (x - y) = x - y := by rw [IntKind.wrap_i64]; omega
      clear hm1 hm2 hx hy e1 e2
      go_enter Try.func82, Try.ntmps82
      go_wp2_with fail
      go_quiet (fail)
      go_wp2
      refine bodyPost_ret (v := .int .i64 (x - y)) (by simp [results, Try.results82, go_sem]) rfl ?_
      exact ⟨rfl, _, rfl⟩
/-- What was told, put in order by the first ones. -/
theorem sortouts_c {w : World} {B : Nat} {vo : Value} {rows : List Value} {out : List (List Int)} (ho : w.ownsRow B 25 1 vo rows.length rows) (hl : rows.length = out.length) (hn : out.length ≤ 4096)
    (hrow : ∀ k (h : k < rows.length) (h2 : k < out.length), w.ownsRow B 3 1 rows[k] out[k].length (I out[k]) ∧ ∀ g, rows[k].ownBlock = some g → vo.ownBlock ≠ some g) (hne : ∀ c ∈ out, c ≠ [] ∧ 0 ≤ hd c ∧ hd c < 4096) :
    Calls Try.prog 81 #[vo, .func (.func 82) #[] #[]] w fun e w' => e = .returned (.tuple #[]) ∧ ∃ (rows' : List Value) (out' : List (List Int)), w'.ownsRow B 25 1 vo rows'.length rows' ∧ out'.Perm out ∧ (out'.Pairwise fun a b => hd a ≤ hd b) ∧
      rows'.length = out'.length ∧ (∀ k (h : k < rows'.length) (h2 : k < out'.length), w'.ownsRow B 3 1 rows'[k] out'[k].length (I out'[k])) ∧ w.grownBy w' vo.ownBlock := by
  have hg : ∀ i, i < rows.length → (out.getD i []) ∈ out := fun i hi => by
    rw [List.getD_eq_getElem?_getD, List.getElem?_eq_getElem (by omega)]; exact List.getElem_mem _
  have key := sortf_own Try.laysSlF6_f81 (w := w) ho (fun x hx => by
      obtain ⟨k, hk, rfl⟩ := List.mem_iff_getElem.1 hx
      obtain ⟨X, d, e, _⟩ := own_row1 (hrow k hk (by omega)).1
      rw [e]; rfl) 82 (enters_of Try.func82 (by kernel_rfl) rfl) (cf := fun i j => hd (out.getD i []) - hd (out.getD j [])) ⟨fun i hi => by omega, fun i j k _ _ _ a b => by omega, fun i j k _ _ _ a b => by omega⟩ (by omega) (fun i j hi hj w' hgr => by
      have e1 : out.getD i [] = out[i] := by rw [List.getD_eq_getElem?_getD, List.getElem?_eq_getElem (by omega)]; rfl
      have e2 : out.getD j [] = out[j] := by rw [List.getD_eq_getElem?_getD, List.getElem?_eq_getElem (by omega)]; rfl
      have m1 := hne _ (hg i hi)
      have m2 := hne _ (hg j hj)
      rw [e1] at m1
      rw [e2] at m2
      simp only [e1, e2]
      have hmv := Moves.of_grown hgr (M := _) (fun k e => Option.mem_toList.2 e)
      have r1 := own_mv (hrow i hi (by omega)).1 hmv (fun g e hk => (hrow i hi (by omega)).2 g e (Option.mem_toList.1 hk))
      have r2 := own_mv (hrow j hj (by omega)).1 hmv (fun g e hk => (hrow j hj (by omega)).2 g e (Option.mem_toList.1 hk))
      obtain ⟨X, d, ex, hx⟩ := own_row1 r1
      obtain ⟨Y, d', ey, hy⟩ := own_row1 r2
      rw [ex, ey, List.length_map, List.length_map]
      exact first_c d d' hx hy m1 m2)
  refine (show Calls Try.prog 81 _ w _ from key.mono ?_)
  rintro e w' ⟨rfl, ps, hp, hs, how, hgr⟩
  have hps : ∀ i ∈ ps, i < rows.length := fun i hi => List.mem_range.1 (hp.mem_iff.1 hi)
  have hpl : ps.length = rows.length := by rw [hp.length_eq, List.length_range]
  have hmv := Moves.of_grown hgr (M := _) (fun k e => Option.mem_toList.2 e)
  refine ⟨rfl, ps.map fun i => rows.getD i undef, ps.map fun i => out.getD i [], by rw [List.length_map, hpl]; exact how, ?_, ?_, by simp, fun k h h2 => ?_, hgr⟩
  · have h1 : (List.range rows.length).map (fun i => out.getD i []) = out := by
      apply List.ext_getElem (by simp [hl])
      intro i h1 h2
      simp [List.getD, h2]
    have h2 := hp.map fun i => out.getD i []
    rwa [h1] at h2
  · rw [List.pairwise_map]
    exact hs.imp (fun {a b} h => by omega)
  · rw [List.length_map] at h h2
    have hk := hps ps[k] (List.getElem_mem _)
    simp only [List.getElem_map]
    have e1 : rows.getD ps[k] undef = rows[ps[k]] := by rw [List.getD_eq_getElem?_getD, List.getElem?_eq_getElem hk]; rfl
    have e2 : out.getD ps[k] [] = out[ps[k]] := by rw [List.getD_eq_getElem?_getD, List.getElem?_eq_getElem (by omega)]; rfl
    rw [e1, e2]
    exact own_mv (hrow _ hk (by omega)).1 hmv (fun g e hm => (hrow _ hk (by omega)).2 g e (Option.mem_toList.1 hm))
section
variable (w : World) (n : Nat) (o o' : Obj)
theorem new_after {w : World} {o : Obj} : Moves [] w (w.alloc o) := Moves.of_new [] ((Below.refl _ _).alloc (Nat.le_refl _) _)
theorem size3 (o'' : Obj) : (((w.alloc o).alloc o').alloc o'').heap.size = w.heap.size + 3 := by rw [al_size, al_size, al_size]
theorem below3 (o'' : Obj) : Below w.heap.size w (((w.alloc o).alloc o').alloc o'') := by
  have h1 : Below w.heap.size w (w.alloc o) := (Below.refl _ _).alloc (Nat.le_refl _) _
  have h2 := h1.alloc h1.size o'
  exact h2.alloc h2.size o''
theorem mk_num0 : NumAt (((w.alloc (.cells (madeCells #[.int .i64 0] n) 3)).alloc o).alloc o') w.heap.size n (fun _ => 0) := ((num_made w n _).moves new_after (by simp)).moves new_after (by simp)
theorem mk_num1 : NumAt (((w.alloc o).alloc (.cells (madeCells #[.int .i64 0] n) 3)).alloc o') (w.heap.size + 1) n (fun _ => 0) := by
  have := (num_made (w.alloc o) n 3).moves (new_after (o := o')) (by simp)
  rwa [al_size] at this
theorem mk_num2 : NumAt (((w.alloc o).alloc o').alloc (.cells (madeCells #[.int .i64 0] n) 3)) (w.heap.size + 2) n (fun _ => 0) := by
  have := num_made ((w.alloc o).alloc o') n 3
  rwa [al_size, al_size] at this
theorem mk_flag0 : FlagAt (((w.alloc (.cells (madeCells #[.bool false] n) 4)).alloc o).alloc o') w.heap.size n (fun _ => false) := ((flag_made w n _).moves new_after (by simp)).moves new_after (by simp)
theorem mk_flag1 : FlagAt (((w.alloc o).alloc (.cells (madeCells #[.bool false] n) 4)).alloc o') (w.heap.size + 1) n (fun _ => false) := by
  have := (flag_made (w.alloc o) n 4).moves (new_after (o := o')) (by simp)
  rwa [al_size] at this
theorem mk_flag2 : FlagAt (((w.alloc o).alloc o').alloc (.cells (madeCells #[.bool false] n) 4)) (w.heap.size + 2) n (fun _ => false) := by
  have := flag_made ((w.alloc o).alloc o') n 4
  rwa [al_size, al_size] at this
end
/-- The struct as it is made. -/
theorem tj_begin {w W3 : World} {ib lo ob n : Nat} {V : Value} (hs : W3.heap.size = w.heap.size + 3) (hb : Below w.heap.size w W3) (h1 : NumAt W3 ib n fun _ => 0) (h2 : NumAt W3 lo n fun _ => 0) (h3 : FlagAt W3 ob n fun _ => false) (hd : TjS w.heap.size (w.heap.size + 3) ib lo ob) :
    TjS w.heap.size (w.heap.size + 3) ib lo ob ∧ TjAt w.heap.size (w.heap.size + 3) ib lo ob n V (W3.alloc (.cells #[V, .slice (some ⟨ib, 0, none⟩) n n, .slice (some ⟨lo, 0, none⟩) n n, .slice none 0 0, .slice (some ⟨ob, 0, none⟩) n n, .int .i64 0, .slice none 0 0] 90)) tj0.tm ∧
      Below w.heap.size w (W3.alloc (.cells #[V, .slice (some ⟨ib, 0, none⟩) n n, .slice (some ⟨lo, 0, none⟩) n n, .slice none 0 0, .slice (some ⟨ob, 0, none⟩) n n, .int .i64 0, .slice none 0 0] 90)) := by
  refine ⟨hd, ⟨.slice none 0 0, .slice none 0 0, [], ?_, ⟨h1.moves new_after (by simp), h2.moves new_after (by simp), (h3.moves new_after (by simp)).congr (fun i _ => by simp [TJ.tm, tj0])⟩, ⟨own_none _ _ _ _, own_none _ _ _ _, rfl, fun k h => absurd h (by simp), fun g e => by simp [Value.ownBlock] at e, fun g e => by simp [Value.ownBlock] at e⟩⟩, hb.alloc hb.size _⟩
  rw [← hs]
  exact ⟨by rw [cell_new]; rfl, by rw [cell_new]; rfl, by rw [cell_new]; rfl, by rw [cell_new]; rfl, by rw [cell_new]; rfl, by rw [cell_new]; rfl, by rw [cell_new]; rfl, fun j => frozen_new _ _ _ _⟩
set_option maxHeartbeats 4000000 in
set_option maxRecDepth 100000 in
theorem comps_c {g : XG} (hg : Good g) {w : World} {lo : Nat} {v : Value} (hl : NextAt w lo v g.n.toNat (fun i => nxt g i)) :
    Calls Try.prog 67 #[v] w fun e w' => ∃ v', e = .returned v' ∧ Below w.heap.size w w' ∧ RowsAt w' w.heap.size v' (compsF g).length (fun i => (compsF g).getD i []) := by
  obtain ⟨n, hn⟩ : ∃ n : Nat, g.n = n := ⟨g.n.toNat, by have := hg.n0; omega⟩
  have hn4 : n ≤ 4096 := by have := hg.n1; omega
  have hnn : g.n.toNat = n := by omega
  rw [hnn] at hl
  obtain ⟨nb, dl, rfl, hlo, hnb, hrows⟩ := hl
  have ha : ∀ v w, w ∈ nxt g v ↔ Edg g v w := fun v w => mem_nxt
  have hal : ∀ v, (nxt g v).length ≤ 16384 := fun v => Nat.le_trans (nxt_length g v) (by have := hg.len; omega)
  have hrows2 : ∀ i : Nat, i < n → ∃ Y d, w.cell? ⟨nb, i, none⟩ = some (.slice Y (nxt g i).length d) ∧ RowAt w Y (I (nxt g i)) := fun i hi => by
    obtain ⟨Y, d, h1, h2, _⟩ := hrows i hi
    exact ⟨Y, d, h1, h2⟩
  have hvis : ∀ T ib lo ob, TjS w.heap.size T ib lo ob → _ := fun T ib lo ob hS => visit_c hg ha hal (dl := dl) hS hn hnb hrows2 n []
  have hmk : ∀ W : World, (Instr.makeSlice 25 (.int .i64 (n : Int)) (.int .i64 (n : Int))).run Try.prog W = .ok (.slice (some ⟨W.heap.size, 0, none⟩) n n) (W.alloc (.cells (madeCells #[.int .i64 0] n) 3)) :=
    fun W => run_make_row' 25 3 (.int .i64 0) 8 Try.underlying25 info_int rfl .i64 .i64 n (by omega) (by omega) W
  have hmb : ∀ W : World, (Instr.makeSlice 49 (.int .i64 (n : Int)) (.int .i64 (n : Int))).run Try.prog W = .ok (.slice (some ⟨W.heap.size, 0, none⟩) n n) (W.alloc (.cells (madeCells #[.bool false] n) 4)) :=
    fun W => run_make_row' 49 4 (.bool false) 1 Try.underlying49 info_bool rfl .i64 .i64 n (by omega) (by omega) W
  have HVIS := Lib.hid hvis
  have HN := Lib.hid hn
  have HNN := Lib.hid hnn
  have HA := Lib.hid ha
  clear hvis hn hnn ha hal hrows hrows2
  go_enter Try.func67, Try.ntmps67
  go_upto_region 2 with (fail)
  go_cut [4] (fun s4 w' => ∃ ib lo ob, s4 = .pointer (some ⟨w.heap.size + 3, 0, none⟩) ∧ TjS w.heap.size (w.heap.size + 3) ib lo ob ∧ TjAt w.heap.size (w.heap.size + 3) ib lo ob n (.slice (some ⟨nb, 0, none⟩) n dl) w' tj0.tm ∧ Below w.heap.size w w')
  case first =>
    -- begin rows
    refine wp_region_held_drew (S := (fun w' => Below w.heap.size w w')) (by kernel_rfl) ?xs (fun hHx => ?xr)
    case xs => exact (Below.refl _ _).drew
    refine take_at (i := 0) (d := 8) (v := ?xv0) rfl (by rfl) (by kernel_rfl) (by kernel_rfl) (by kernel_rfl) (fun _ _ _ h => h) (Or.inl ⟨by rfl, ?xy0⟩) (by assumption) ?xr0
    case xy0 => intro w' _; go_simp; (try with_reducible rfl)
    case' xr0 => simp only [Act.put, List.setIfInBounds_toArray, List.set_cons_zero, List.set_cons_succ]
    refine take_at (i := 1) (d := 9) (v := ?xv1) rfl (by rfl) (by kernel_rfl) (by kernel_rfl) (by kernel_rfl) (fun _ _ _ h => h) (Or.inl ⟨by rfl, ?xy1⟩) (by assumption) ?xr1
    case xy1 => intro w' _; go_simp; (try with_reducible rfl)
    case' xr1 => simp only [Act.put, List.setIfInBounds_toArray, List.set_cons_zero, List.set_cons_succ]
    refine take_at (i := 3) (d := 11) (v := ?xv3) rfl (by rfl) (by kernel_rfl) (by kernel_rfl) (by kernel_rfl) (fun _ _ _ h => h) (Or.inl ⟨by rfl, ?xy3⟩) (by assumption) ?xr3
    case xy3 => intro w' _; go_simp; (try with_reducible rfl)
    case' xr3 => simp only [Act.put, List.setIfInBounds_toArray, List.set_cons_zero, List.set_cons_succ]
    refine take_at (i := 5) (d := 13) (v := ?xv5) rfl (by rfl) (by kernel_rfl) (by kernel_rfl) (by kernel_rfl) (fun _ _ _ h => h) (Or.inl ⟨by rfl, ?xy5⟩) (by assumption) ?xr5
    case xy5 => intro w' _; go_simp; (try with_reducible rfl)
    case' xr5 => simp only [Act.put, List.setIfInBounds_toArray, List.set_cons_zero, List.set_cons_succ]
    refine wpAnyH_ready (rs := [2, 4, 6]) (by kernel_rfl) (by simp) ?xc
    refine AllReadyH.cons rfl (fun K hK => ?xb2) (AllReadyH.cons rfl (fun K hK => ?xb4) (AllReadyH.cons rfl (fun K hK => ?xb6) AllReadyH.nil))
    case xb2 =>
      go_simp
      refine hK.out _ _ ?xn2h (fun hHxn2 => ?xn2r)
      case xn2h => exact hHx.alloc hHx.size _
      case' xn2r => (clear hK K; try simp only [Act.put, List.setIfInBounds_toArray, List.set_cons_zero, List.set_cons_succ])
      refine wpAnyH_ready (rs := [4, 6]) (by kernel_rfl) (by simp) ?xn2c
      refine AllReadyH.cons rfl (fun K hK => ?xn2b4) (AllReadyH.cons rfl (fun K hK => ?xn2b6) AllReadyH.nil)
      case xn2b4 =>
        go_simp
        refine hK.out _ _ ?xn2n4h (fun hHxn2n4 => ?xn2n4r)
        case xn2n4h => exact hHxn2.alloc hHxn2.size _
        case' xn2n4r => (clear hK K; try simp only [Act.put, List.setIfInBounds_toArray, List.set_cons_zero, List.set_cons_succ])
        refine wpAnyH_ready (rs := [6]) (by kernel_rfl) (by simp) ?xn2n4c
        refine AllReadyH.cons rfl (fun K hK => ?xn2n4b6) AllReadyH.nil
        go_simp
        refine hK.out _ _ ?xn2n4n6h (fun hHxn2n4n6 => ?xn2n4n6r)
        case xn2n4n6h => exact hHxn2n4.alloc hHxn2n4.size _
        case' xn2n4n6r => (clear hK K; try simp only [Act.put, List.setIfInBounds_toArray, List.set_cons_zero, List.set_cons_succ])
        refine take_at (i := 7) (d := 15) (v := ?xn2n4n6v7) rfl (by rfl) (by kernel_rfl) (by kernel_rfl) (by kernel_rfl) (fun _ _ _ h => h) (Or.inl ⟨by rfl, ?xn2n4n6y7⟩) (by assumption) ?xn2n4n6r7
        case xn2n4n6y7 => intro w' _; go_simp; (try with_reducible rfl)
        case' xn2n4n6r7 => simp only [Act.put, List.setIfInBounds_toArray, List.set_cons_zero, List.set_cons_succ]
        refine wpAnyH_ready (rs := [8]) (by kernel_rfl) (by simp) ?xn2n4n6c
        refine AllReadyH.cons rfl (fun K hK => ?xn2n4n6b8) AllReadyH.nil
        go_simp
        refine hK.out _ _ ?xn2n4n6n8h (fun hHxn2n4n6n8 => ?xn2n4n6n8r)
        case xn2n4n6n8h => exact hHxn2n4n6.alloc hHxn2n4n6.size _
        case' xn2n4n6n8r => (clear hK K; try simp only [Act.put, List.setIfInBounds_toArray, List.set_cons_zero, List.set_cons_succ])
        refine take_at (i := 9) (d := 4) (v := ?xn2n4n6n8v9) rfl (by rfl) (by kernel_rfl) (by kernel_rfl) (by kernel_rfl) (fun _ _ _ h => h) (Or.inl ⟨by rfl, ?xn2n4n6n8y9⟩) (by assumption) ?xn2n4n6n8r9
        case xn2n4n6n8y9 => intro w' _; go_simp; (try with_reducible rfl)
        case' xn2n4n6n8r9 => simp only [Act.put, List.setIfInBounds_toArray, List.set_cons_zero, List.set_cons_succ]
        refine wpAnyH_done (by kernel_rfl) ?xn2n4n6z _
        go_wp2_with fail
        go_meet
        have hb := tj_begin (n := n) (V := .slice (some ⟨nb, 0, none⟩) n dl) (size3 w _ _ _) (below3 w _ _ _) (mk_num0 w n _ _) (mk_num1 w n _ _) (mk_flag2 w n _ _) ⟨by omega, by omega, by omega, by omega, by omega, by omega, by omega, by omega, by omega, by omega⟩
        exact ⟨_, _, _, rfl, hb.1, hb.2.1.drewN 1, hb.2.2.drew⟩
      case xn2b6 =>
        go_simp
        refine hK.out _ _ ?xn2n6h (fun hHxn2n6 => ?xn2n6r)
        case xn2n6h => exact hHxn2.alloc hHxn2.size _
        case' xn2n6r => (clear hK K; try simp only [Act.put, List.setIfInBounds_toArray, List.set_cons_zero, List.set_cons_succ])
        refine wpAnyH_ready (rs := [4]) (by kernel_rfl) (by simp) ?xn2n6c
        refine AllReadyH.cons rfl (fun K hK => ?xn2n6b4) AllReadyH.nil
        go_simp
        refine hK.out _ _ ?xn2n6n4h (fun hHxn2n6n4 => ?xn2n6n4r)
        case xn2n6n4h => exact hHxn2n6.alloc hHxn2n6.size _
        case' xn2n6n4r => (clear hK K; try simp only [Act.put, List.setIfInBounds_toArray, List.set_cons_zero, List.set_cons_succ])
        refine take_at (i := 7) (d := 15) (v := ?xn2n6n4v7) rfl (by rfl) (by kernel_rfl) (by kernel_rfl) (by kernel_rfl) (fun _ _ _ h => h) (Or.inl ⟨by rfl, ?xn2n6n4y7⟩) (by assumption) ?xn2n6n4r7
        case xn2n6n4y7 => intro w' _; go_simp; (try with_reducible rfl)
        case' xn2n6n4r7 => simp only [Act.put, List.setIfInBounds_toArray, List.set_cons_zero, List.set_cons_succ]
        refine wpAnyH_ready (rs := [8]) (by kernel_rfl) (by simp) ?xn2n6n4c
        refine AllReadyH.cons rfl (fun K hK => ?xn2n6n4b8) AllReadyH.nil
        go_simp
        refine hK.out _ _ ?xn2n6n4n8h (fun hHxn2n6n4n8 => ?xn2n6n4n8r)
        case xn2n6n4n8h => exact hHxn2n6n4.alloc hHxn2n6n4.size _
        case' xn2n6n4n8r => (clear hK K; try simp only [Act.put, List.setIfInBounds_toArray, List.set_cons_zero, List.set_cons_succ])
        refine take_at (i := 9) (d := 4) (v := ?xn2n6n4n8v9) rfl (by rfl) (by kernel_rfl) (by kernel_rfl) (by kernel_rfl) (fun _ _ _ h => h) (Or.inl ⟨by rfl, ?xn2n6n4n8y9⟩) (by assumption) ?xn2n6n4n8r9
        case xn2n6n4n8y9 => intro w' _; go_simp; (try with_reducible rfl)
        case' xn2n6n4n8r9 => simp only [Act.put, List.setIfInBounds_toArray, List.set_cons_zero, List.set_cons_succ]
        refine wpAnyH_done (by kernel_rfl) ?xn2n6n4z _
        go_wp2_with fail
        go_meet
        have hb := tj_begin (n := n) (V := .slice (some ⟨nb, 0, none⟩) n dl) (size3 w _ _ _) (below3 w _ _ _) (mk_num0 w n _ _) (mk_num2 w n _ _) (mk_flag1 w n _ _) ⟨by omega, by omega, by omega, by omega, by omega, by omega, by omega, by omega, by omega, by omega⟩
        exact ⟨_, _, _, rfl, hb.1, hb.2.1.drewN 1, hb.2.2.drew⟩
    case xb4 =>
      go_simp
      refine hK.out _ _ ?xn4h (fun hHxn4 => ?xn4r)
      case xn4h => exact hHx.alloc hHx.size _
      case' xn4r => (clear hK K; try simp only [Act.put, List.setIfInBounds_toArray, List.set_cons_zero, List.set_cons_succ])
      refine wpAnyH_ready (rs := [2, 6]) (by kernel_rfl) (by simp) ?xn4c
      refine AllReadyH.cons rfl (fun K hK => ?xn4b2) (AllReadyH.cons rfl (fun K hK => ?xn4b6) AllReadyH.nil)
      case xn4b2 =>
        go_simp
        refine hK.out _ _ ?xn4n2h (fun hHxn4n2 => ?xn4n2r)
        case xn4n2h => exact hHxn4.alloc hHxn4.size _
        case' xn4n2r => (clear hK K; try simp only [Act.put, List.setIfInBounds_toArray, List.set_cons_zero, List.set_cons_succ])
        refine wpAnyH_ready (rs := [6]) (by kernel_rfl) (by simp) ?xn4n2c
        refine AllReadyH.cons rfl (fun K hK => ?xn4n2b6) AllReadyH.nil
        go_simp
        refine hK.out _ _ ?xn4n2n6h (fun hHxn4n2n6 => ?xn4n2n6r)
        case xn4n2n6h => exact hHxn4n2.alloc hHxn4n2.size _
        case' xn4n2n6r => (clear hK K; try simp only [Act.put, List.setIfInBounds_toArray, List.set_cons_zero, List.set_cons_succ])
        refine take_at (i := 7) (d := 15) (v := ?xn4n2n6v7) rfl (by rfl) (by kernel_rfl) (by kernel_rfl) (by kernel_rfl) (fun _ _ _ h => h) (Or.inl ⟨by rfl, ?xn4n2n6y7⟩) (by assumption) ?xn4n2n6r7
        case xn4n2n6y7 => intro w' _; go_simp; (try with_reducible rfl)
        case' xn4n2n6r7 => simp only [Act.put, List.setIfInBounds_toArray, List.set_cons_zero, List.set_cons_succ]
        refine wpAnyH_ready (rs := [8]) (by kernel_rfl) (by simp) ?xn4n2n6c
        refine AllReadyH.cons rfl (fun K hK => ?xn4n2n6b8) AllReadyH.nil
        go_simp
        refine hK.out _ _ ?xn4n2n6n8h (fun hHxn4n2n6n8 => ?xn4n2n6n8r)
        case xn4n2n6n8h => exact hHxn4n2n6.alloc hHxn4n2n6.size _
        case' xn4n2n6n8r => (clear hK K; try simp only [Act.put, List.setIfInBounds_toArray, List.set_cons_zero, List.set_cons_succ])
        refine take_at (i := 9) (d := 4) (v := ?xn4n2n6n8v9) rfl (by rfl) (by kernel_rfl) (by kernel_rfl) (by kernel_rfl) (fun _ _ _ h => h) (Or.inl ⟨by rfl, ?xn4n2n6n8y9⟩) (by assumption) ?xn4n2n6n8r9
        case xn4n2n6n8y9 => intro w' _; go_simp; (try with_reducible rfl)
        case' xn4n2n6n8r9 => simp only [Act.put, List.setIfInBounds_toArray, List.set_cons_zero, List.set_cons_succ]
        refine wpAnyH_done (by kernel_rfl) ?xn4n2n6z _
        go_wp2_with fail
        go_meet
        have hb := tj_begin (n := n) (V := .slice (some ⟨nb, 0, none⟩) n dl) (size3 w _ _ _) (below3 w _ _ _) (mk_num1 w n _ _) (mk_num0 w n _ _) (mk_flag2 w n _ _) ⟨by omega, by omega, by omega, by omega, by omega, by omega, by omega, by omega, by omega, by omega⟩
        exact ⟨_, _, _, rfl, hb.1, hb.2.1.drewN 1, hb.2.2.drew⟩
      case xn4b6 =>
        go_simp
        refine hK.out _ _ ?xn4n6h (fun hHxn4n6 => ?xn4n6r)
        case xn4n6h => exact hHxn4.alloc hHxn4.size _
        case' xn4n6r => (clear hK K; try simp only [Act.put, List.setIfInBounds_toArray, List.set_cons_zero, List.set_cons_succ])
        refine wpAnyH_ready (rs := [2]) (by kernel_rfl) (by simp) ?xn4n6c
        refine AllReadyH.cons rfl (fun K hK => ?xn4n6b2) AllReadyH.nil
        go_simp
        refine hK.out _ _ ?xn4n6n2h (fun hHxn4n6n2 => ?xn4n6n2r)
        case xn4n6n2h => exact hHxn4n6.alloc hHxn4n6.size _
        case' xn4n6n2r => (clear hK K; try simp only [Act.put, List.setIfInBounds_toArray, List.set_cons_zero, List.set_cons_succ])
        refine take_at (i := 7) (d := 15) (v := ?xn4n6n2v7) rfl (by rfl) (by kernel_rfl) (by kernel_rfl) (by kernel_rfl) (fun _ _ _ h => h) (Or.inl ⟨by rfl, ?xn4n6n2y7⟩) (by assumption) ?xn4n6n2r7
        case xn4n6n2y7 => intro w' _; go_simp; (try with_reducible rfl)
        case' xn4n6n2r7 => simp only [Act.put, List.setIfInBounds_toArray, List.set_cons_zero, List.set_cons_succ]
        refine wpAnyH_ready (rs := [8]) (by kernel_rfl) (by simp) ?xn4n6n2c
        refine AllReadyH.cons rfl (fun K hK => ?xn4n6n2b8) AllReadyH.nil
        go_simp
        refine hK.out _ _ ?xn4n6n2n8h (fun hHxn4n6n2n8 => ?xn4n6n2n8r)
        case xn4n6n2n8h => exact hHxn4n6n2.alloc hHxn4n6n2.size _
        case' xn4n6n2n8r => (clear hK K; try simp only [Act.put, List.setIfInBounds_toArray, List.set_cons_zero, List.set_cons_succ])
        refine take_at (i := 9) (d := 4) (v := ?xn4n6n2n8v9) rfl (by rfl) (by kernel_rfl) (by kernel_rfl) (by kernel_rfl) (fun _ _ _ h => h) (Or.inl ⟨by rfl, ?xn4n6n2n8y9⟩) (by assumption) ?xn4n6n2n8r9
        case xn4n6n2n8y9 => intro w' _; go_simp; (try with_reducible rfl)
        case' xn4n6n2n8r9 => simp only [Act.put, List.setIfInBounds_toArray, List.set_cons_zero, List.set_cons_succ]
        refine wpAnyH_done (by kernel_rfl) ?xn4n6n2z _
        go_wp2_with fail
        go_meet
        have hb := tj_begin (n := n) (V := .slice (some ⟨nb, 0, none⟩) n dl) (size3 w _ _ _) (below3 w _ _ _) (mk_num2 w n _ _) (mk_num0 w n _ _) (mk_flag1 w n _ _) ⟨by omega, by omega, by omega, by omega, by omega, by omega, by omega, by omega, by omega, by omega⟩
        exact ⟨_, _, _, rfl, hb.1, hb.2.1.drewN 1, hb.2.2.drew⟩
    case xb6 =>
      go_simp
      refine hK.out _ _ ?xn6h (fun hHxn6 => ?xn6r)
      case xn6h => exact hHx.alloc hHx.size _
      case' xn6r => (clear hK K; try simp only [Act.put, List.setIfInBounds_toArray, List.set_cons_zero, List.set_cons_succ])
      refine wpAnyH_ready (rs := [2, 4]) (by kernel_rfl) (by simp) ?xn6c
      refine AllReadyH.cons rfl (fun K hK => ?xn6b2) (AllReadyH.cons rfl (fun K hK => ?xn6b4) AllReadyH.nil)
      case xn6b2 =>
        go_simp
        refine hK.out _ _ ?xn6n2h (fun hHxn6n2 => ?xn6n2r)
        case xn6n2h => exact hHxn6.alloc hHxn6.size _
        case' xn6n2r => (clear hK K; try simp only [Act.put, List.setIfInBounds_toArray, List.set_cons_zero, List.set_cons_succ])
        refine wpAnyH_ready (rs := [4]) (by kernel_rfl) (by simp) ?xn6n2c
        refine AllReadyH.cons rfl (fun K hK => ?xn6n2b4) AllReadyH.nil
        go_simp
        refine hK.out _ _ ?xn6n2n4h (fun hHxn6n2n4 => ?xn6n2n4r)
        case xn6n2n4h => exact hHxn6n2.alloc hHxn6n2.size _
        case' xn6n2n4r => (clear hK K; try simp only [Act.put, List.setIfInBounds_toArray, List.set_cons_zero, List.set_cons_succ])
        refine take_at (i := 7) (d := 15) (v := ?xn6n2n4v7) rfl (by rfl) (by kernel_rfl) (by kernel_rfl) (by kernel_rfl) (fun _ _ _ h => h) (Or.inl ⟨by rfl, ?xn6n2n4y7⟩) (by assumption) ?xn6n2n4r7
        case xn6n2n4y7 => intro w' _; go_simp; (try with_reducible rfl)
        case' xn6n2n4r7 => simp only [Act.put, List.setIfInBounds_toArray, List.set_cons_zero, List.set_cons_succ]
        refine wpAnyH_ready (rs := [8]) (by kernel_rfl) (by simp) ?xn6n2n4c
        refine AllReadyH.cons rfl (fun K hK => ?xn6n2n4b8) AllReadyH.nil
        go_simp
        refine hK.out _ _ ?xn6n2n4n8h (fun hHxn6n2n4n8 => ?xn6n2n4n8r)
        case xn6n2n4n8h => exact hHxn6n2n4.alloc hHxn6n2n4.size _
        case' xn6n2n4n8r => (clear hK K; try simp only [Act.put, List.setIfInBounds_toArray, List.set_cons_zero, List.set_cons_succ])
        refine take_at (i := 9) (d := 4) (v := ?xn6n2n4n8v9) rfl (by rfl) (by kernel_rfl) (by kernel_rfl) (by kernel_rfl) (fun _ _ _ h => h) (Or.inl ⟨by rfl, ?xn6n2n4n8y9⟩) (by assumption) ?xn6n2n4n8r9
        case xn6n2n4n8y9 => intro w' _; go_simp; (try with_reducible rfl)
        case' xn6n2n4n8r9 => simp only [Act.put, List.setIfInBounds_toArray, List.set_cons_zero, List.set_cons_succ]
        refine wpAnyH_done (by kernel_rfl) ?xn6n2n4z _
        go_wp2_with fail
        go_meet
        have hb := tj_begin (n := n) (V := .slice (some ⟨nb, 0, none⟩) n dl) (size3 w _ _ _) (below3 w _ _ _) (mk_num1 w n _ _) (mk_num2 w n _ _) (mk_flag0 w n _ _) ⟨by omega, by omega, by omega, by omega, by omega, by omega, by omega, by omega, by omega, by omega⟩
        exact ⟨_, _, _, rfl, hb.1, hb.2.1.drewN 1, hb.2.2.drew⟩
      case xn6b4 =>
        go_simp
        refine hK.out _ _ ?xn6n4h (fun hHxn6n4 => ?xn6n4r)
        case xn6n4h => exact hHxn6.alloc hHxn6.size _
        case' xn6n4r => (clear hK K; try simp only [Act.put, List.setIfInBounds_toArray, List.set_cons_zero, List.set_cons_succ])
        refine wpAnyH_ready (rs := [2]) (by kernel_rfl) (by simp) ?xn6n4c
        refine AllReadyH.cons rfl (fun K hK => ?xn6n4b2) AllReadyH.nil
        go_simp
        refine hK.out _ _ ?xn6n4n2h (fun hHxn6n4n2 => ?xn6n4n2r)
        case xn6n4n2h => exact hHxn6n4.alloc hHxn6n4.size _
        case' xn6n4n2r => (clear hK K; try simp only [Act.put, List.setIfInBounds_toArray, List.set_cons_zero, List.set_cons_succ])
        refine take_at (i := 7) (d := 15) (v := ?xn6n4n2v7) rfl (by rfl) (by kernel_rfl) (by kernel_rfl) (by kernel_rfl) (fun _ _ _ h => h) (Or.inl ⟨by rfl, ?xn6n4n2y7⟩) (by assumption) ?xn6n4n2r7
        case xn6n4n2y7 => intro w' _; go_simp; (try with_reducible rfl)
        case' xn6n4n2r7 => simp only [Act.put, List.setIfInBounds_toArray, List.set_cons_zero, List.set_cons_succ]
        refine wpAnyH_ready (rs := [8]) (by kernel_rfl) (by simp) ?xn6n4n2c
        refine AllReadyH.cons rfl (fun K hK => ?xn6n4n2b8) AllReadyH.nil
        go_simp
        refine hK.out _ _ ?xn6n4n2n8h (fun hHxn6n4n2n8 => ?xn6n4n2n8r)
        case xn6n4n2n8h => exact hHxn6n4n2.alloc hHxn6n4n2.size _
        case' xn6n4n2n8r => (clear hK K; try simp only [Act.put, List.setIfInBounds_toArray, List.set_cons_zero, List.set_cons_succ])
        refine take_at (i := 9) (d := 4) (v := ?xn6n4n2n8v9) rfl (by rfl) (by kernel_rfl) (by kernel_rfl) (by kernel_rfl) (fun _ _ _ h => h) (Or.inl ⟨by rfl, ?xn6n4n2n8y9⟩) (by assumption) ?xn6n4n2n8r9
        case xn6n4n2n8y9 => intro w' _; go_simp; (try with_reducible rfl)
        case' xn6n4n2n8r9 => simp only [Act.put, List.setIfInBounds_toArray, List.set_cons_zero, List.set_cons_succ]
        refine wpAnyH_done (by kernel_rfl) ?xn6n4n2z _
        go_wp2_with fail
        go_meet
        have hb := tj_begin (n := n) (V := .slice (some ⟨nb, 0, none⟩) n dl) (size3 w _ _ _) (below3 w _ _ _) (mk_num2 w n _ _) (mk_num1 w n _ _) (mk_flag0 w n _ _) ⟨by omega, by omega, by omega, by omega, by omega, by omega, by omega, by omega, by omega, by omega⟩
        exact ⟨_, _, _, rfl, hb.1, hb.2.1.drewN 1, hb.2.2.drew⟩
    -- end rows
  case rest =>
    obtain ⟨ib, lo', ob, rfl, hS, hat, hbe⟩ := hcut
    obtain ⟨T, hT⟩ : ∃ T, T = w.heap.size + 3 := ⟨_, rfl⟩
    rw [← hT] at hS hat ⊢
    have HCALL := Lib.hid (HVIS.out T ib lo' ob hS)
    have HS := Lib.hid hS
    have HAT := Lib.hid hat
    have HBE := Lib.hid hbe
    clear hT hS hat hbe hmk hmb HVIS
    go_wp2
    go_loopw [18] (fun i wr => ∃ k : Nat, i = .int .i64 k ∧ k ≤ n ∧ TjAt w.heap.size T ib lo' ob n (.slice (some ⟨nb, 0, none⟩) n dl) wr (tjAll (fun i => nxt g i) n k).tm ∧ Below w.heap.size w wr) (fun i _ => n - (intOf i).toNat)
    case atStart => exact ⟨0, rfl, by omega, HAT.out, HBE.out⟩
    case round =>
      obtain ⟨k, rfl, hk, hat, hbe⟩ := hrel
      obtain ⟨hinv, _⟩ := tj_all hg HA.out (f := n) (by have := HNN.out; omega) k (by have := HNN.out; omega)
      have hsucc := tjAll_succ (fun i => nxt g i) n k
      obtain ⟨s, hs⟩ : ∃ s, s = tjAll (fun i => nxt g i) n k := ⟨_, rfl⟩
      rw [← hs] at hat hinv hsucc
      by_cases hlt : k < n
      · have hj0 : (0 : Int) ≤ (k : Int) := by omega
        have hj1 : (k : Int) < (n : Int) := by omega
        have hcall := HCALL.out k s wr hinv
        obtain ⟨vs, vo, rows, hC, hN, hO⟩ := hat
        have c1 := hC.c1
        have ci : wr.cell? ⟨ib, k, none⟩ = some (.int .i64 (s.idx k)) := hN.idx.2.1 k hlt
        have hat : TjAt w.heap.size T ib lo' ob n (.slice (some ⟨nb, 0, none⟩) n dl) wr s.tm := ⟨vs, vo, rows, hC, hN, hO⟩
        unfold tjOver at hsucc
        by_cases h0 : s.idx k = 0
        · rw [if_pos h0] at hsucc
          rw [h0] at ci
          have HCALL2 := Lib.hid (hcall h0 hlt (by simp) (Nat.le_trans (un_le g s) (by have := HNN.out; omega)) hat hbe)
          have HSUCC := Lib.hid hsucc
          clear hcall hC hN hO hat hbe hsucc hinv hs h0
          go_wp2_with fail
          go_at_call 80
          refine HCALL2.out.mono ?_
          rintro e wv ⟨rfl, hat, hbe⟩
          have HAT2 := Lib.hid hat
          have HBE2 := Lib.hid hbe
          clear hat hbe c1 ci
          go_wp2
          go_roundw
          case rel => exact ⟨k + 1, by go_num, by omega, by rw [HSUCC.out]; exact HAT2.out, HBE2.out⟩
          case measure => simp [intOf]; omega
        · rw [if_neg h0] at hsucc
          have hqb : (s.idx k == 0) = false := by simpa using h0
          obtain ⟨x, hx⟩ : ∃ x, x = s.idx k := ⟨_, rfl⟩
          rw [← hx] at ci hqb
          have HSUCC := Lib.hid hsucc
          have HAT2 := Lib.hid hat
          have HBE2 := Lib.hid hbe
          clear hcall hC hN hO hat hbe hsucc hinv hs h0 hx
          go_wp2
          go_roundw
          case rel => exact ⟨k + 1, by go_num, by omega, by rw [HSUCC.out]; exact HAT2.out, HBE2.out⟩
          case measure => simp [intOf]; omega
      · have hge : ¬ (k : Int) < (n : Int) := by omega
        obtain rfl : k = n := by omega
        have hmem : ∀ c, c ∈ s.out ↔ c ∈ compsF g := fun c => by
          have := tj_out hg HA.out (f := k) (by have := HNN.out; omega) (c := c)
          rwa [HNN.out, ← hs] at this
        have hnod := hinv.outn
        have hol := hinv.outlen HN.out
        obtain ⟨vs, vo, rows, hC, hN, hO⟩ := hat
        obtain ⟨Xo, co, rfl, _, _⟩ := own_rowS hO.oout
        have c6 := hC.c6
        have hTl := hC.lt
        have hT6 : T ∉ (Value.slice Xo rows.length co).ownBlock.toList := fun hk => (hO.sepo T (by simpa using hk)).1 (by simp)
        have hsort := sortouts_c hO.oout hO.len (by show s.out.length ≤ 4096; omega) (fun k h h2 => ⟨(hO.row k h h2).1, fun g' e => ((hO.row k h h2).2 g' e).2.2⟩) (fun c hc => by
          have h1 := comp_by_head ((hmem c).1 hc)
          have h2 := HNN.out
          exact ⟨h1.2.1, h1.2.2.1, by omega⟩)
        have HSORT := Lib.hid hsort
        have HMEM := Lib.hid hmem
        have HNOD := Lib.hid hnod
        have HBE2 := Lib.hid hbe
        have HT6 := Lib.hid hT6
        clear hsort hmem hnod hbe hT6 hC hN hO hinv hsucc hs
        go_wp2_with fail
        go_at_call 81
        refine HSORT.out.mono ?_
        rintro e ws ⟨rfl, rows', out', how, hper, hpw, hlen, hrw, hgr⟩
        have hm6 := Moves.of_grown (M := (Value.slice Xo rows.length co).ownBlock.toList) hgr (by intro k e; simp [e])
        have c66 := (hm6.cell hTl HT6.out 6).trans c6
        have hres := comps_sorted (fun c => hper.mem_iff.trans (HMEM.out c)) (hper.nodup_iff.2 HNOD.out) hpw
        have hb2 := HBE2.out.grown hgr HBE2.out.size (fun g' e => (how.lt g' e).1)
        have hra : RowsAt ws w.heap.size (.slice Xo rows.length co) (compsF g).length (fun i => (compsF g).getD i []) := by
          obtain ⟨X9, d9, e9, _⟩ := own_rowS how
          obtain ⟨e9a, e9b, e9c⟩ := Value.slice.inj e9
          rw [e9b, hlen, hres]
          refine ⟨Xo, co, rfl, fun i hi => ?_⟩
          have hir : i < rows'.length := by rw [hlen, hres]; exact hi
          have hio : i < out'.length := by rw [hres]; exact hi
          obtain ⟨gb, cp, hf, hgb, hgl⟩ := how.form (by omega)
          obtain ⟨f1, f2, f3⟩ := Value.slice.inj hf
          obtain ⟨h1, h2⟩ : (compsF g).getD i [] = out'[i] ∧ ws.ownsRow w.heap.size 3 1 rows'[i] out'[i].length (I out'[i]) := by
            refine ⟨?_, hrw i hir hio⟩
            rw [List.getD_eq_getElem?_getD, ← hres, List.getElem?_eq_getElem hio]; rfl
          obtain ⟨Y, d', hv, hr⟩ := own_row1 h2
          rw [List.length_map] at hv
          have hcell := how.cells (g := gb) (by rw [f1]; rfl) i rows'[i] (List.getElem?_eq_getElem _)
          refine ⟨gb, Y, d', f1, hgb, hgl, ?_, ?_, fun b' o' e => ?_⟩
          · show ws.cell? _ = some (.slice Y ((compsF g).getD i []).length d')
            rw [h1, ← hv]
            have e0 : (⟨gb, 0, none⟩ : Addr).add i = ⟨gb, i, none⟩ := add_zero gb i
            rw [← e0]; exact hcell
          · show RowAt ws Y (I ((compsF g).getD i []))
            rw [h1]; exact hr
          · have := (h2.lt b' (by rw [hv, e]; rfl)).1
            omega
        have HRA := Lib.hid hra
        have HB2 := Lib.hid hb2
        clear how hper hpw hlen hrw hgr hm6 hres hb2 hra c6
        go_wp2
        refine bodyPost_ret (v := .slice Xo rows.length co) (by simp [results, Try.results67, go_sem]) rfl ?_
        exact ⟨_, rfl, HB2.out, HRA.out⟩
end Go.Proofs.Ytpdfcffeinbcaaa
