/- Tarjan's way, in memory. -/
import Derived.Test.YtpdfcffeinbcaaaH44
import Derived.Test.YtpdfcffeinbcaaaH3
namespace Go.Proofs.Ytpdfcffeinbcaaa
open Go.RowKit
theorem tm_push {v : Int} {s : TJ} : (tjPush v s).tm = ⟨setI s.idx v ((s.n : Int) + 1), setI s.low v ((s.n : Int) + 1), s.stk ++ [v], setB (fun x => decide (x ∈ s.stk)) v true, s.n + 1, s.out⟩ := by
  unfold TJ.tm tjPush
  simp only [TM.mk.injEq, true_and, and_true]
  funext x
  unfold setB
  by_cases e : x = v
  · simp [e]
  · simp [e]
/-- What is told has no more rows than there are nodes. -/
theorem TInv.outlen {g : XG} {gs : List Int} {s : TJ} {n : Nat} (hn : g.n = n) (h : TInv g gs s) : s.out.length ≤ n := by
  have h1 : (s.out.map fun c => c.headD 0).Nodup := by
    unfold List.Nodup
    rw [List.pairwise_map]
    refine h.outn.imp_of_mem (fun {a b} ha hb hab e => hab ?_)
    obtain ⟨a1, a2, a3⟩ := h.cls a ha
    obtain ⟨b1, b2, b3⟩ := h.cls b hb
    cases a with
    | nil => exact absurd rfl a2
    | cons x l =>
      cases b with
      | nil => exact absurd rfl b2
      | cons y m =>
        obtain rfl : x = y := e
        exact rising_ext a1 b1 (fun z => by rw [(a3 x List.mem_cons_self).2 z, (b3 x List.mem_cons_self).2 z])
  have := nodup_len (n := n) _ h1 (fun x hx => by
    obtain ⟨c, hc, rfl⟩ := List.mem_map.1 hx
    obtain ⟨a1, a2, a3⟩ := h.cls c hc
    cases c with
    | nil => exact absurd rfl a2
    | cons x l =>
      have := (h.vis x ((a3 x List.mem_cons_self).1.1)).1
      show 0 ≤ x ∧ x < (n : Int)
      omega)
  rwa [List.length_map] at this
set_option maxHeartbeats 8000000 in
set_option maxRecDepth 100000 in
theorem visit_c {g : XG} (hg : Good g) {adj : Int → List Int} (ha : ∀ v w, w ∈ adj v ↔ Edg g v w) (hal : ∀ v, (adj v).length ≤ 16384) {T ib lo ob n nb dl : Nat} {w0 : World} (hS : TjS w0.heap.size T ib lo ob) (hn : g.n = n) (hnb : nb < w0.heap.size)
    (hrows : ∀ i : Nat, i < n → ∃ Y d, w0.cell? ⟨nb, i, none⟩ = some (.slice Y (adj i).length d) ∧ RowAt w0 Y (I (adj i))) :
    ∀ (f : Nat) (gs : List Int) (v : Nat) (s : TJ) (w : World), TInv g gs s → s.idx v = 0 → v < n → (∀ a ∈ gs, Rc g a v) → un g s ≤ f → TjAt w0.heap.size T ib lo ob n (.slice (some ⟨nb, 0, none⟩) n dl) w s.tm → Below w0.heap.size w0 w →
    Calls Try.prog 80 #[.pointer (some ⟨T, 0, none⟩), .int .i64 v] w fun e w' => e = .returned (.tuple #[]) ∧ TjAt w0.heap.size T ib lo ob n (.slice (some ⟨nb, 0, none⟩) n dl) w' (tjVisit adj f v s).tm ∧ Below w0.heap.size w0 w' := by
  intro f
  induction f with
  | zero => intro gs v s w _ hv hvn _ hf; have := un_pos (g := g) (s := s) (v := v) (by omega) hv; omega
  | succ f ih =>
    intro gs v s w hI hv hvn hrc hf hat hbel
    have hn4 : n ≤ 4096 := by have := hg.n1; omega
    have hr : 0 ≤ (v : Int) ∧ (v : Int) < g.n := by omega
    have hsn : s.n + 1 ≤ 4096 := by have := hI.cnt; have := un_pos hr hv; omega
    have hv0 : (0 : Int) ≤ (v : Int) := by omega
    have hv1 : (v : Int) < (n : Int) := by omega
    have hn0 : (0 : Int) ≤ (s.n : Int) := by omega
    have hn1 : (s.n : Int) ≤ 4095 := by omega
    have hcn : ((s.n + 1 : Nat) : Int) = (s.n : Int) + 1 := by omega
    have hat1 := hat.setN hS (s.n + 1)
    obtain ⟨vs, vo, rows, hC, hN, hO⟩ := hat
    have c5 := hC.c5
    have z := hC.z 5
    obtain ⟨w1, hw1⟩ : ∃ w1, w1 = w.setCell ⟨T, 5, none⟩ (.int .i64 ((s.n + 1 : Nat) : Int)) := ⟨_, rfl⟩
    rw [hcn] at hw1
    rw [hcn, ← hw1] at hat1
    have hb1 : Below w0.heap.size w0 w1 := by rw [hw1]; exact hbel.setCell (p := ⟨T, 5, none⟩) hS.bT _
    obtain ⟨sn, hsn2⟩ : ∃ sn : Int, sn = (s.n : Int) := ⟨_, rfl⟩
    have c5' : w.cell? ⟨T, 5, none⟩ = some (.int .i64 sn) := by rw [hsn2]; exact c5
    rw [← hsn2] at hw1 hn0 hn1
    have HW1 := Lib.hid hw1
    have HAT1 := Lib.hid hat1
    have HB1 := Lib.hid hb1
    have HI := Lib.hid hI
    have HIH := Lib.hid ih
    have HSN := Lib.hid hsn2
    have HV := Lib.hid hv
    have HRC := Lib.hid hrc
    have HUN := Lib.hid hf
    have HROWS := Lib.hid hrows
    clear hat1 hC hN hO hw1 hb1 hI ih hsn2 hv hrc hf hrows hbel c5 hcn hsn hr
    go_enter Try.func80, Try.ntmps80
    go_upto_region 1 with (fail)
    rw [← HW1.out]
    obtain ⟨m1, hm1⟩ : ∃ m1 : Int, m1 = sn + 1 := ⟨_, rfl⟩
    have hat2 : ∀ x y : Int, TjAt w0.heap.size T ib lo ob n (.slice (some ⟨nb, 0, none⟩) n dl) ((w1.setCell ⟨ib, v, none⟩ (.int .i64 x)).setCell ⟨lo, v, none⟩ (.int .i64 y)).drew { s.tm with n := s.n + 1, idx := setI s.idx v x, low := setI s.low v y } := fun x y =>
      ((HAT1.out.setIdx hS hvn x).setLow hS hvn y).drewN 1
    obtain ⟨vs1, vo1, rows1, hC1, hN1, hO1⟩ := HAT1.out
    have k1 : w1.cell? ⟨T, 1, none⟩ = some (.slice (some ⟨ib, 0, none⟩) n n) := hC1.c1
    have k2 : w1.cell? ⟨T, 2, none⟩ = some (.slice (some ⟨lo, 0, none⟩) n n) := hC1.c2
    have k3 : w1.cell? ⟨T, 5, none⟩ = some (.int .i64 m1) := by rw [hm1, HSN.out]; exact hC1.c5
    have e1 : w1.cell? ⟨ib, v, none⟩ = some (.int .i64 (s.idx v)) := hN1.idx.2.1 v hvn
    have e2 : w1.cell? ⟨lo, v, none⟩ = some (.int .i64 (s.low v)) := hN1.low.2.1 v hvn
    have e3 : w1.frozen? ⟨ib, v, none⟩ = false := hN1.idx.2.2 v
    have e4 : w1.frozen? ⟨lo, v, none⟩ = false := hN1.low.2.2 v
    have hil := hS.il
    have hli : lo ≠ ib := fun e => hil e.symm
    have HAT2 := Lib.hid hat2
    have HM1 := Lib.hid hm1
    clear hat2 hC1 hN1 hO1 c5' z
    -- begin r1
    refine region_heldL (L := 19) (S := (fun w' => w'.heap = w1.heap ∧ w'.cell? ⟨T, 1, none⟩ = some (.slice (some ⟨ib, 0, none⟩) n n) ∧ w'.cell? ⟨T, 2, none⟩ = some (.slice (some ⟨lo, 0, none⟩) n n) ∧ w'.cell? ⟨T, 5, none⟩ = some (.int .i64 m1))) (by kernel_rfl) ?r1xs (fun hHeld => ?r1xr)
    case r1xs => exact ⟨rfl, k1, k2, k3⟩
    refine takeP (i := 0) (d := 15) (v := ?r1xv0) rfl (by rfl) (by kernel_rfl) (by kernel_rfl) (by kernel_rfl) (by rfl) (fun _ _ _ h => h) (Or.inl ⟨by rfl, ?r1xy0⟩) (by assumption) ?r1xr0
    case r1xy0 => intro w' _; go_simp; (try with_reducible rfl)
    case' r1xr0 => simp only [Act.put, List.setIfInBounds_toArray, List.set_cons_zero, List.set_cons_succ]
    refine takeP (i := 1) (d := 16) (v := ?r1xv1) rfl (by rfl) (by kernel_rfl) (by kernel_rfl) (by kernel_rfl) (by rfl) (fun _ _ _ h => h) (Or.inl ⟨by rfl, ?r1xy1⟩) (by assumption) ?r1xr1
    case r1xy1 => intro w' _; go_simp; (try with_reducible rfl)
    case' r1xr1 => simp only [Act.put, List.setIfInBounds_toArray, List.set_cons_zero, List.set_cons_succ]
    refine takeP (i := 2) (d := 17) (v := ?r1xv2) rfl (by rfl) (by kernel_rfl) (by kernel_rfl) (by kernel_rfl) (by rfl) (fun _ _ _ h => h) (Or.inl ⟨by rfl, ?r1xy2⟩) (by assumption) ?r1xr2
    case r1xy2 => intro w' _; go_simp; (try with_reducible rfl)
    case' r1xr2 => simp only [Act.put, List.setIfInBounds_toArray, List.set_cons_zero, List.set_cons_succ]
    refine takeL (i := 3) (d := 18) (v := ?r1xv3) rfl (by rfl) (by kernel_rfl) (by kernel_rfl) (by kernel_rfl) (by kernel_rfl) (by rfl) (fun _ _ _ h => h) (Or.inl ⟨by rfl, ?r1xy3⟩) (by assumption) ?r1xr3
    case r1xy3 => intro w' hSw; obtain ⟨_, q1, q2, q3⟩ := hSw; go_simp; (try with_reducible rfl)
    case' r1xr3 => simp only [Act.put, List.setIfInBounds_toArray, List.set_cons_zero, List.set_cons_succ]
    refine takeP (i := 4) (d := 19) (v := ?r1xv4) rfl (by rfl) (by kernel_rfl) (by kernel_rfl) (by kernel_rfl) (by rfl) (fun _ _ _ h => h) (Or.inl ⟨by rfl, ?r1xy4⟩) (by assumption) ?r1xr4
    case r1xy4 => intro w' _; go_simp; (try with_reducible rfl)
    case' r1xr4 => simp only [Act.put, List.setIfInBounds_toArray, List.set_cons_zero, List.set_cons_succ]
    refine takeP (i := 5) (d := 20) (v := ?r1xv5) rfl (by rfl) (by kernel_rfl) (by kernel_rfl) (by kernel_rfl) (by rfl) (fun _ _ _ h => h) (Or.inl ⟨by rfl, ?r1xy5⟩) (by assumption) ?r1xr5
    case r1xy5 => intro w' _; go_simp; (try with_reducible rfl)
    case' r1xr5 => simp only [Act.put, List.setIfInBounds_toArray, List.set_cons_zero, List.set_cons_succ]
    refine takeP (i := 6) (d := 21) (v := ?r1xv6) rfl (by rfl) (by kernel_rfl) (by kernel_rfl) (by kernel_rfl) (by rfl) (fun _ _ _ h => h) (Or.inl ⟨by rfl, ?r1xy6⟩) (by assumption) ?r1xr6
    case r1xy6 => intro w' _; go_simp; (try with_reducible rfl)
    case' r1xr6 => simp only [Act.put, List.setIfInBounds_toArray, List.set_cons_zero, List.set_cons_succ]
    refine takeP (i := 7) (d := 22) (v := ?r1xv7) rfl (by rfl) (by kernel_rfl) (by kernel_rfl) (by kernel_rfl) (by rfl) (fun _ _ _ h => h) (Or.inl ⟨by rfl, ?r1xy7⟩) (by assumption) ?r1xr7
    case r1xy7 => intro w' _; go_simp; (try with_reducible rfl)
    case' r1xr7 => simp only [Act.put, List.setIfInBounds_toArray, List.set_cons_zero, List.set_cons_succ]
    refine takeL (i := 8) (d := 23) (v := ?r1xv8) rfl (by rfl) (by kernel_rfl) (by kernel_rfl) (by kernel_rfl) (by kernel_rfl) (by rfl) (fun _ _ _ h => h) (Or.inl ⟨by rfl, ?r1xy8⟩) (by assumption) ?r1xr8
    case r1xy8 => intro w' hSw; obtain ⟨_, q1, q2, q3⟩ := hSw; go_simp; (try with_reducible rfl)
    case' r1xr8 => simp only [Act.put, List.setIfInBounds_toArray, List.set_cons_zero, List.set_cons_succ]
    refine takeP (i := 9) (d := 24) (v := ?r1xv9) rfl (by rfl) (by kernel_rfl) (by kernel_rfl) (by kernel_rfl) (by rfl) (fun _ _ _ h => h) (Or.inl ⟨by rfl, ?r1xy9⟩) (by assumption) ?r1xr9
    case r1xy9 => intro w' _; go_simp; (try with_reducible rfl)
    case' r1xr9 => simp only [Act.put, List.setIfInBounds_toArray, List.set_cons_zero, List.set_cons_succ]
    refine takeP (i := 10) (d := 25) (v := ?r1xv10) rfl (by rfl) (by kernel_rfl) (by kernel_rfl) (by kernel_rfl) (by rfl) (fun _ _ _ h => h) (Or.inl ⟨by rfl, ?r1xy10⟩) (by assumption) ?r1xr10
    case r1xy10 => intro w' _; go_simp; (try with_reducible rfl)
    case' r1xr10 => simp only [Act.put, List.setIfInBounds_toArray, List.set_cons_zero, List.set_cons_succ]
    refine takeP (i := 11) (d := 26) (v := ?r1xv11) rfl (by rfl) (by kernel_rfl) (by kernel_rfl) (by kernel_rfl) (by rfl) (fun _ _ _ h => h) (Or.inl ⟨by rfl, ?r1xy11⟩) (by assumption) ?r1xr11
    case r1xy11 => intro w' _; go_simp; (try with_reducible rfl)
    case' r1xr11 => simp only [Act.put, List.setIfInBounds_toArray, List.set_cons_zero, List.set_cons_succ]
    refine takeP (i := 12) (d := 27) (v := ?r1xv12) rfl (by rfl) (by kernel_rfl) (by kernel_rfl) (by kernel_rfl) (by rfl) (fun _ _ _ h => h) (Or.inl ⟨by rfl, ?r1xy12⟩) (by assumption) ?r1xr12
    case r1xy12 => intro w' _; go_simp; (try with_reducible rfl)
    case' r1xr12 => simp only [Act.put, List.setIfInBounds_toArray, List.set_cons_zero, List.set_cons_succ]
    refine takeL (i := 13) (d := 28) (v := ?r1xv13) rfl (by rfl) (by kernel_rfl) (by kernel_rfl) (by kernel_rfl) (by kernel_rfl) (by rfl) (fun _ _ _ h => h) (Or.inl ⟨by rfl, ?r1xy13⟩) (by assumption) ?r1xr13
    case r1xy13 => intro w' hSw; obtain ⟨_, q1, q2, q3⟩ := hSw; go_simp; (try with_reducible rfl)
    case' r1xr13 => simp only [Act.put, List.setIfInBounds_toArray, List.set_cons_zero, List.set_cons_succ]
    refine takeP (i := 14) (d := 29) (v := ?r1xv14) rfl (by rfl) (by kernel_rfl) (by kernel_rfl) (by kernel_rfl) (by rfl) (fun _ _ _ h => h) (Or.inl ⟨by rfl, ?r1xy14⟩) (by assumption) ?r1xr14
    case r1xy14 => intro w' _; go_simp; (try with_reducible rfl)
    case' r1xr14 => simp only [Act.put, List.setIfInBounds_toArray, List.set_cons_zero, List.set_cons_succ]
    refine takeP (i := 15) (d := 30) (v := ?r1xv15) rfl (by rfl) (by kernel_rfl) (by kernel_rfl) (by kernel_rfl) (by rfl) (fun _ _ _ h => h) (Or.inl ⟨by rfl, ?r1xy15⟩) (by assumption) ?r1xr15
    case r1xy15 => intro w' _; go_simp; (try with_reducible rfl)
    case' r1xr15 => simp only [Act.put, List.setIfInBounds_toArray, List.set_cons_zero, List.set_cons_succ]
    refine takeP (i := 16) (d := 31) (v := ?r1xv16) rfl (by rfl) (by kernel_rfl) (by kernel_rfl) (by kernel_rfl) (by rfl) (fun _ _ _ h => h) (Or.inl ⟨by rfl, ?r1xy16⟩) (by assumption) ?r1xr16
    case r1xy16 => intro w' _; go_simp; (try with_reducible rfl)
    case' r1xr16 => simp only [Act.put, List.setIfInBounds_toArray, List.set_cons_zero, List.set_cons_succ]
    refine takeL (i := 17) (d := 32) (v := ?r1xv17) rfl (by rfl) (by kernel_rfl) (by kernel_rfl) (by kernel_rfl) (by kernel_rfl) (by rfl) (fun _ _ _ h => h) (Or.inl ⟨by rfl, ?r1xy17⟩) (by assumption) ?r1xr17
    case r1xy17 => intro w' hSw; obtain ⟨_, q1, q2, q3⟩ := hSw; go_simp; (try with_reducible rfl)
    case' r1xr17 => simp only [Act.put, List.setIfInBounds_toArray, List.set_cons_zero, List.set_cons_succ]
    refine takeP (i := 18) (d := 33) (v := ?r1xv18) rfl (by rfl) (by kernel_rfl) (by kernel_rfl) (by kernel_rfl) (by rfl) (fun _ _ _ h => h) (Or.inl ⟨by rfl, ?r1xy18⟩) (by assumption) ?r1xr18
    case r1xy18 => intro w' _; go_simp; (try with_reducible rfl)
    case' r1xr18 => simp only [Act.put, List.setIfInBounds_toArray, List.set_cons_zero, List.set_cons_succ]
    refine stepM (i := 19) (by kernel_rfl) rfl (by kernel_rfl) (fun K hK => ?r1xb19)
    go_simp
    refine hK.out _ _ ?r1xr19
    case' r1xr19 => (clear hK K; try simp only [Act.put, List.setIfInBounds_toArray, List.set_cons_zero, List.set_cons_succ])
    refine stepM (i := 20) (by kernel_rfl) rfl (by kernel_rfl) (fun K hK => ?r1xb20)
    go_simp
    refine hK.out _ _ ?r1xr20
    case' r1xr20 => (clear hK K; try simp only [Act.put, List.setIfInBounds_toArray, List.set_cons_zero, List.set_cons_succ])
    refine stepM (i := 21) (by kernel_rfl) rfl (by kernel_rfl) (fun K hK => ?r1xb21)
    go_simp
    refine hK.out _ _ ?r1xr21
    case' r1xr21 => (clear hK K; try simp only [Act.put, List.setIfInBounds_toArray, List.set_cons_zero, List.set_cons_succ])
    refine doneM (by kernel_rfl) ?r1xz
    -- end r1
    clear k1 k2 k3 e1 e2 e3 e4 hHeld
    obtain ⟨w2, hw2⟩ : ∃ w2, w2 = ((w1.setCell ⟨ib, v, none⟩ (.int .i64 (sn + 1))).setCell ⟨lo, v, none⟩ (.int .i64 (sn + 1))).drew := ⟨_, rfl⟩
    have hat2 := HAT2.out (sn + 1) (sn + 1)
    have hb2 : Below w0.heap.size w0 w2 := by rw [hw2]; exact ((HB1.out.setCell (p := ⟨ib, v, none⟩) hS.bI _).setCell (p := ⟨lo, v, none⟩) hS.bL _).drew
    rw [← hw2] at hat2 ⊢
    obtain ⟨vs2, vo2, rows2, hC2, hN2, hO2⟩ := hat2
    obtain ⟨Xs, cs, rfl, _, _⟩ := own_rowS hO2.ost
    have c3 := hC2.c3
    have z3 := hC2.z 3
    have hTl := hC2.lt
    have hil2 : (I s.stk).length = s.stk.length := List.length_map _
    have hsl : s.stk.length ≤ 4096 := by
      have h1 := HI.out
      refine Nat.le_trans (nodup_len (n := n) s.stk ?_ (fun x hx => ?_)) hn4
      · exact h1.rise.imp (fun {a b} hab e => by rw [e] at hab; omega)
      · have := (h1.vis x (h1.non x hx)).1; omega
    have HO2 := Lib.hid (show w2.ownsRow w0.heap.size 3 1 (.slice Xs s.stk.length cs) (I s.stk).length (I s.stk) by rw [hil2]; exact hO2.ost)
    have HT2 := Lib.hid (And.intro hC2 (And.intro hN2 hO2))
    have HB2 := Lib.hid hb2
    have HIL := Lib.hid (And.intro hil2 hsl)
    have hsz2 : w0.heap.size ≤ w2.heap.size := hb2.size
    have hTs : T ∉ (Value.slice Xs s.stk.length cs).ownBlock.toList := by
      intro hk
      have h : (Value.slice Xs s.stk.length cs).ownBlock = some T := by simpa using hk
      exact hO2.seps T h (by simp)
    have HTS := Lib.hid hTs
    clear hw2 hC2 hN2 hO2 hb2 hil2 hsl HAT2 hm1 hTs
    go_upto_region 3 with (at_builtin; go_loud (refine app_new w0.heap.size (by rfl) _ _ 25 3 (.int .i64 0) 8 (by rfl) Try.underlying25 info_int rfl _ (I s.stk) (.int .i64 (v : Int)) (by rfl) _ (by rfl) rfl rfl HO2.out hsz2 (by have := HIL.out; omega) (by have := HIL.out; omega) ?_; intro v5 w5 ho5 hg5 hb5 hs5; obtain ⟨X5, d5, rfl, _, _⟩ := own_rowS ho5; have hm5 := Moves.of_grown (M := (Value.slice Xs s.stk.length cs).ownBlock.toList) hg5 (by intro k e; simp [e]); have c35 := (hm5.cell hTl HTS.out 3).trans c3; have z35 := (hm5.frozen hTl HTS.out 3).trans z3; have HAT3 := Lib.hid (tj_push (m := { s.tm with n := s.n + 1, idx := setI s.idx v (sn + 1), low := setI s.low v (sn + 1) }) hS HT2.out.1 HT2.out.2.1 HT2.out.2.2 ho5 hg5 (fun g e => hb5.imp (fun h => h.symm.trans e) (fun h => by rw [h] at e; cases e; omega))); have HB3 := Lib.hid ((HB2.out.grown hg5 hsz2 (fun k hk => (HO2.out.lt k hk).1)).setCell (p := ⟨T, 3, none⟩) hS.bT (.slice X5 ((I s.stk).length + 1) d5)); clear ho5 hg5 hb5 hm5 hTl c3 z3))
    rw [HIL.out.1] at HAT3 HB3
    obtain ⟨w6, hw6⟩ : ∃ w6, w6 = w5.setCell ⟨T, 3, none⟩ (.slice X5 (s.stk.length + 1) d5) := ⟨_, rfl⟩
    rw [← hw6] at HAT3 HB3 ⊢
    have hat4 := HAT3.out.setOn hS hvn true
    have hpush := tm_push (v := (v : Int)) (s := s)
    obtain ⟨w7, hw7⟩ : ∃ w7, w7 = w6.setCell ⟨ob, v, none⟩ (.bool true) := ⟨_, rfl⟩
    have hat5 : TjAt w0.heap.size T ib lo ob n (.slice (some ⟨nb, 0, none⟩) n dl) w7 (tjPush v s).tm := by
      rw [hpush, hw7, ← HSN.out]
      exact hat4
    have hb7 : Below w0.heap.size w0 w7 := by rw [hw7]; exact HB3.out.setCell (p := ⟨ob, v, none⟩) hS.bO _
    obtain ⟨vs6, vo6, rows6, hC6, hN6, hO6⟩ := HAT3.out
    have d4 := hC6.c4
    have d5' : w6.cell? ⟨ob, v, none⟩ = some (.bool (decide ((v : Int) ∈ s.stk))) := hN6.on.2.1 v hvn
    have d6 := hN6.on.2.2 v
    have HAT5 := Lib.hid hat5
    have HB7 := Lib.hid hb7
    have HW7 := Lib.hid hw7
    clear hw6 hat4 hpush hw7 hat5 hb7 hC6 hN6 hO6 c35 z35 HAT3 HB3 HO2 HT2 HB2 HTS
    go_upto_region 4 with (fail)
    rw [← HW7.out]
    clear d4 d5' d6
    obtain ⟨Y, dY, hcY0, hrY0⟩ := HROWS.out v hvn
    obtain ⟨vs7, vo7, rows7, hC7, hN7, hO7⟩ := HAT5.out
    have g0 := hC7.c0
    have hcY := (HB7.out.cell (p := ⟨nb, v, none⟩) hnb).trans hcY0
    have HRY := Lib.hid hrY0
    have hstart := tl_start HI.out HV.out (by omega) HRC.out
    have hun : un g (tjPush v s) ≤ f := by
      have h1 := HUN.out
      have h2 : un g (tjPush v s) + 1 ≤ un g s := countP_less (fun x _ hx => by
        rw [decide_eq_true_eq] at hx ⊢
        apply Classical.byContradiction
        intro hc
        exact (by rw [hstart.old x hc]; exact hc : (tjPush v s).idx x ≠ 0) hx) (z := (v : Int)) (mem_nodes.2 (by omega)) (by simpa using HV.out) (by rw [decide_eq_false_iff_not, hstart.at_]; omega)
      omega
    have HST := Lib.hid hstart
    have HUN2 := Lib.hid hun
    have hl4 := hal v
    obtain ⟨l, hl⟩ : ∃ l, l = adj v := ⟨_, rfl⟩
    rw [← hl] at hcY HRY hl4
    have HL := Lib.hid hl
    clear hcY0 hrY0 hC7 hN7 hO7 hstart hun hl
    go_wp2
    go_loopw [59] (fun i wr => ∃ (j : Nat) (t : TJ), i = .int .i64 j ∧ j ≤ l.length ∧ t = (l.take j).foldl (tjStep (tjVisit adj f) v) (tjPush v s) ∧ TL g gs v s (l.take j) t ∧ un g t ≤ f ∧ TjAt w0.heap.size T ib lo ob n (.slice (some ⟨nb, 0, none⟩) n dl) wr t.tm ∧ Below w0.heap.size w0 wr) (fun i _ => l.length - (intOf i).toNat)
    case atStart => exact ⟨0, _, rfl, by omega, rfl, HST.out, HUN2.out, HAT5.out, HB7.out⟩
    case round =>
      obtain ⟨j, t, rfl, hj, ht, hTL, hut, hat, hbe⟩ := hrel
      by_cases hlj : j < l.length
      · have hj0 : (0 : Int) ≤ (j : Int) := by omega
        have hj1 : (j : Int) < (l.length : Int) := by omega
        obtain ⟨b, off, rfl, hcj0⟩ := HRY.out.int hlj
        have hcj := (hbe.cell (p := ⟨b, off + j, none⟩) (World.block_lt_of_cell? w0 _ hcj0)).trans hcj0
        have he0 : Edg g v l[j] := (ha v l[j]).1 (by rw [← HL.out]; exact List.getElem_mem hlj)
        have hxr := (hg.all _ he0).2
        simp only at hxr
        have hsn := List.take_succ_eq_append_getElem hlj
        obtain ⟨x, hx⟩ : ∃ x : Nat, l[j] = (x : Int) := ⟨l[j].toNat, by omega⟩
        rw [hx] at hcj he0 hxr hsn
        have hxn : x < n := by omega
        have hx0 : (0 : Int) ≤ (x : Int) := by omega
        have hx1 : (x : Int) < (n : Int) := by omega
        have hfold : (l.take (j + 1)).foldl (tjStep (tjVisit adj f) v) (tjPush v s) = tjStep (tjVisit adj f) v t x := by rw [hsn, List.foldl_append, ← ht]; rfl
        have hpost : t.idx x = 0 → TPost g (gs ++ [(v : Int)]) x t (tjVisit adj f x t) := fun h => tj_visit hg ha f (gs ++ [(v : Int)]) x t hTL.inv h hxr (hTL.calls HI.out he0) hut
        have hstep := tl_step (f := f) (adj := adj) hTL he0 hpost
        rw [← hsn] at hstep
        have hun2 : un g (tjStep (tjVisit adj f) v t x) ≤ f := by
          refine Nat.le_trans (un_mono (fun z hz => ?_)) hut
          unfold tjStep
          by_cases h1 : t.idx x = 0
          · rw [if_pos h1]; exact (hpost h1).kept z hz
          · rw [if_neg h1]; split <;> exact hz
        have hcall := HIH.out (gs ++ [(v : Int)]) x t wr hTL.inv
        have hrc2 := hTL.calls HI.out he0
        obtain ⟨vs, vo, rows, hC, hN, hO⟩ := hat
        have t1 := hC.c1
        have t4 := hC.c4
        have hix : wr.cell? ⟨ib, x, none⟩ = some (.int .i64 (t.idx x)) := hN.idx.2.1 x hxn
        have hat : TjAt w0.heap.size T ib lo ob n (.slice (some ⟨nb, 0, none⟩) n dl) wr t.tm := ⟨vs, vo, rows, hC, hN, hO⟩
        by_cases h0 : t.idx x = 0
        · have HCALL := Lib.hid (hcall h0 hxn hrc2 hut hat hbe)
          have hst : tjStep (tjVisit adj f) v t x = tjLow v ((tjVisit adj f x t).low x) (tjVisit adj f x t) := by unfold tjStep; rw [if_pos h0]
          rw [hst] at hfold hstep hun2
          obtain ⟨u, hu⟩ : ∃ u, u = tjVisit adj f x t := ⟨_, rfl⟩
          rw [← hu] at HCALL hfold hstep hun2
          rw [h0] at hix
          have HF := Lib.hid hfold
          have HSTEP := Lib.hid hstep
          have HUN3 := Lib.hid hun2
          clear hcall hrc2 hpost hst hu hfold hstep hun2 hTL hut hat hbe hC hN hO ht hsn hx h0 he0 hcj0 hxr t4
          go_wp2_with fail
          go_at_call 80
          refine HCALL.out.mono ?_
          rintro e wv ⟨rfl, hat, hbe⟩
          clear hix hcj t1
          have hat2 : TjAt w0.heap.size T ib lo ob n (.slice (some ⟨nb, 0, none⟩) n dl) ((wv.setCell ⟨lo, v, none⟩ (.int .i64 (min (u.low v) (u.low x)))).drew) (tjLow v (u.low x) u).tm := (hat.setLow hS hvn (min (u.low v) (u.low x))).drewN 1
          have hbe2 := (hbe.setCell (p := ⟨lo, v, none⟩) hS.bL (.int .i64 (min (u.low v) (u.low x)))).drew
          obtain ⟨vs', vo', rows', hC, hN, hO⟩ := hat
          have k2 := hC.c2
          have kv : wv.cell? ⟨lo, v, none⟩ = some (.int .i64 (u.low v)) := hN.low.2.1 v hvn
          have kx : wv.cell? ⟨lo, x, none⟩ = some (.int .i64 (u.low x)) := hN.low.2.1 x hxn
          have kz : wv.frozen? ⟨lo, v, none⟩ = false := hN.low.2.2 v
          obtain ⟨lv, hlv⟩ : ∃ lv, lv = u.low v := ⟨_, rfl⟩
          obtain ⟨lx, hlx⟩ : ∃ lx, lx = u.low x := ⟨_, rfl⟩
          rw [← hlv] at kv
          rw [← hlx] at kx
          rw [← hlv, ← hlx] at hat2 hbe2
          have HAT := Lib.hid hat2
          have HBE := Lib.hid hbe2
          have HLV := Lib.hid (And.intro hlv hlx)
          clear hat2 hbe2 hC hN hO hlv hlx hbe
          go_wp2_with fail
          -- begin r9
          refine region_heldL (L := 21) (S := (fun w' => w'.heap = wv.heap ∧ w'.cell? ⟨T, 2, none⟩ = some (.slice (some ⟨lo, 0, none⟩) n n) ∧ w'.cell? ⟨lo, v, none⟩ = some (.int .i64 lv) ∧ w'.cell? ⟨lo, x, none⟩ = some (.int .i64 lx))) (by kernel_rfl) ?r9xs (fun hHeld => ?r9xr)
          case r9xs => exact ⟨rfl, k2, kv, kx⟩
          refine takeP (i := 0) (d := 74) (v := ?r9xv0) rfl (by rfl) (by kernel_rfl) (by kernel_rfl) (by kernel_rfl) (by rfl) (fun _ _ _ h => h) (Or.inl ⟨by rfl, ?r9xy0⟩) (by assumption) ?r9xr0
          case r9xy0 => intro w' _; go_simp; (try with_reducible rfl)
          case' r9xr0 => simp only [Act.put, List.setIfInBounds_toArray, List.set_cons_zero, List.set_cons_succ]
          refine takeP (i := 1) (d := 75) (v := ?r9xv1) rfl (by rfl) (by kernel_rfl) (by kernel_rfl) (by kernel_rfl) (by rfl) (fun _ _ _ h => h) (Or.inl ⟨by rfl, ?r9xy1⟩) (by assumption) ?r9xr1
          case r9xy1 => intro w' _; go_simp; (try with_reducible rfl)
          case' r9xr1 => simp only [Act.put, List.setIfInBounds_toArray, List.set_cons_zero, List.set_cons_succ]
          refine takeP (i := 2) (d := 76) (v := ?r9xv2) rfl (by rfl) (by kernel_rfl) (by kernel_rfl) (by kernel_rfl) (by rfl) (fun _ _ _ h => h) (Or.inl ⟨by rfl, ?r9xy2⟩) (by assumption) ?r9xr2
          case r9xy2 => intro w' _; go_simp; (try with_reducible rfl)
          case' r9xr2 => simp only [Act.put, List.setIfInBounds_toArray, List.set_cons_zero, List.set_cons_succ]
          refine takeL (i := 3) (d := 77) (v := ?r9xv3) rfl (by rfl) (by kernel_rfl) (by kernel_rfl) (by kernel_rfl) (by kernel_rfl) (by rfl) (fun _ _ _ h => h) (Or.inl ⟨by rfl, ?r9xy3⟩) (by assumption) ?r9xr3
          case r9xy3 => intro w' hSw; obtain ⟨_, q2, qv, qx⟩ := hSw; go_simp; (try with_reducible rfl)
          case' r9xr3 => simp only [Act.put, List.setIfInBounds_toArray, List.set_cons_zero, List.set_cons_succ]
          refine takeP (i := 4) (d := 78) (v := ?r9xv4) rfl (by rfl) (by kernel_rfl) (by kernel_rfl) (by kernel_rfl) (by rfl) (fun _ _ _ h => h) (Or.inl ⟨by rfl, ?r9xy4⟩) (by assumption) ?r9xr4
          case r9xy4 => intro w' _; go_simp; (try with_reducible rfl)
          case' r9xr4 => simp only [Act.put, List.setIfInBounds_toArray, List.set_cons_zero, List.set_cons_succ]
          refine takeP (i := 5) (d := 79) (v := ?r9xv5) rfl (by rfl) (by kernel_rfl) (by kernel_rfl) (by kernel_rfl) (by rfl) (fun _ _ _ h => h) (Or.inl ⟨by rfl, ?r9xy5⟩) (by assumption) ?r9xr5
          case r9xy5 => intro w' _; go_simp; (try with_reducible rfl)
          case' r9xr5 => simp only [Act.put, List.setIfInBounds_toArray, List.set_cons_zero, List.set_cons_succ]
          refine takeP (i := 6) (d := 80) (v := ?r9xv6) rfl (by rfl) (by kernel_rfl) (by kernel_rfl) (by kernel_rfl) (by rfl) (fun _ _ _ h => h) (Or.inl ⟨by rfl, ?r9xy6⟩) (by assumption) ?r9xr6
          case r9xy6 => intro w' _; go_simp; (try with_reducible rfl)
          case' r9xr6 => simp only [Act.put, List.setIfInBounds_toArray, List.set_cons_zero, List.set_cons_succ]
          refine takeP (i := 7) (d := 81) (v := ?r9xv7) rfl (by rfl) (by kernel_rfl) (by kernel_rfl) (by kernel_rfl) (by rfl) (fun _ _ _ h => h) (Or.inl ⟨by rfl, ?r9xy7⟩) (by assumption) ?r9xr7
          case r9xy7 => intro w' _; go_simp; (try with_reducible rfl)
          case' r9xr7 => simp only [Act.put, List.setIfInBounds_toArray, List.set_cons_zero, List.set_cons_succ]
          refine takeL (i := 8) (d := 82) (v := ?r9xv8) rfl (by rfl) (by kernel_rfl) (by kernel_rfl) (by kernel_rfl) (by kernel_rfl) (by rfl) (fun _ _ _ h => h) (Or.inl ⟨by rfl, ?r9xy8⟩) (by assumption) ?r9xr8
          case r9xy8 => intro w' hSw; obtain ⟨_, q2, qv, qx⟩ := hSw; go_simp; (try with_reducible rfl)
          case' r9xr8 => simp only [Act.put, List.setIfInBounds_toArray, List.set_cons_zero, List.set_cons_succ]
          refine takeP (i := 9) (d := 83) (v := ?r9xv9) rfl (by rfl) (by kernel_rfl) (by kernel_rfl) (by kernel_rfl) (by rfl) (fun _ _ _ h => h) (Or.inl ⟨by rfl, ?r9xy9⟩) (by assumption) ?r9xr9
          case r9xy9 => intro w' _; go_simp; (try with_reducible rfl)
          case' r9xr9 => simp only [Act.put, List.setIfInBounds_toArray, List.set_cons_zero, List.set_cons_succ]
          refine takeP (i := 10) (d := 84) (v := ?r9xv10) rfl (by rfl) (by kernel_rfl) (by kernel_rfl) (by kernel_rfl) (by rfl) (fun _ _ _ h => h) (Or.inl ⟨by rfl, ?r9xy10⟩) (by assumption) ?r9xr10
          case r9xy10 => intro w' _; go_simp; (try with_reducible rfl)
          case' r9xr10 => simp only [Act.put, List.setIfInBounds_toArray, List.set_cons_zero, List.set_cons_succ]
          refine takeL (i := 11) (d := 85) (v := ?r9xv11) rfl (by rfl) (by kernel_rfl) (by kernel_rfl) (by kernel_rfl) (by kernel_rfl) (by rfl) (fun _ _ _ h => h) (Or.inl ⟨by rfl, ?r9xy11⟩) (by assumption) ?r9xr11
          case r9xy11 => intro w' hSw; obtain ⟨_, q2, qv, qx⟩ := hSw; go_simp; (try with_reducible rfl)
          case' r9xr11 => simp only [Act.put, List.setIfInBounds_toArray, List.set_cons_zero, List.set_cons_succ]
          refine takeP (i := 12) (d := 86) (v := ?r9xv12) rfl (by rfl) (by kernel_rfl) (by kernel_rfl) (by kernel_rfl) (by rfl) (fun _ _ _ h => h) (Or.inl ⟨by rfl, ?r9xy12⟩) (by assumption) ?r9xr12
          case r9xy12 => intro w' _; go_simp; (try with_reducible rfl)
          case' r9xr12 => simp only [Act.put, List.setIfInBounds_toArray, List.set_cons_zero, List.set_cons_succ]
          refine takeP (i := 13) (d := 87) (v := ?r9xv13) rfl (by rfl) (by kernel_rfl) (by kernel_rfl) (by kernel_rfl) (by rfl) (fun _ _ _ h => h) (Or.inl ⟨by rfl, ?r9xy13⟩) (by assumption) ?r9xr13
          case r9xy13 => intro w' _; go_simp; (try with_reducible rfl)
          case' r9xr13 => simp only [Act.put, List.setIfInBounds_toArray, List.set_cons_zero, List.set_cons_succ]
          refine takeP (i := 14) (d := 88) (v := ?r9xv14) rfl (by rfl) (by kernel_rfl) (by kernel_rfl) (by kernel_rfl) (by rfl) (fun _ _ _ h => h) (Or.inl ⟨by rfl, ?r9xy14⟩) (by assumption) ?r9xr14
          case r9xy14 => intro w' _; go_simp; (try with_reducible rfl)
          case' r9xr14 => simp only [Act.put, List.setIfInBounds_toArray, List.set_cons_zero, List.set_cons_succ]
          refine takeL (i := 15) (d := 89) (v := ?r9xv15) rfl (by rfl) (by kernel_rfl) (by kernel_rfl) (by kernel_rfl) (by kernel_rfl) (by rfl) (fun _ _ _ h => h) (Or.inl ⟨by rfl, ?r9xy15⟩) (by assumption) ?r9xr15
          case r9xy15 => intro w' hSw; obtain ⟨_, q2, qv, qx⟩ := hSw; go_simp; (try with_reducible rfl)
          case' r9xr15 => simp only [Act.put, List.setIfInBounds_toArray, List.set_cons_zero, List.set_cons_succ]
          refine takeP (i := 16) (d := 90) (v := ?r9xv16) rfl (by rfl) (by kernel_rfl) (by kernel_rfl) (by kernel_rfl) (by rfl) (fun _ _ _ h => h) (Or.inl ⟨by rfl, ?r9xy16⟩) (by assumption) ?r9xr16
          case r9xy16 => intro w' _; go_simp; (try with_reducible rfl)
          case' r9xr16 => simp only [Act.put, List.setIfInBounds_toArray, List.set_cons_zero, List.set_cons_succ]
          refine takeP (i := 17) (d := 91) (v := ?r9xv17) rfl (by rfl) (by kernel_rfl) (by kernel_rfl) (by kernel_rfl) (by rfl) (fun _ _ _ h => h) (Or.inl ⟨by rfl, ?r9xy17⟩) (by assumption) ?r9xr17
          case r9xy17 => intro w' _; go_simp; (try with_reducible rfl)
          case' r9xr17 => simp only [Act.put, List.setIfInBounds_toArray, List.set_cons_zero, List.set_cons_succ]
          refine takeL (i := 18) (d := 92) (v := ?r9xv18) rfl (by rfl) (by kernel_rfl) (by kernel_rfl) (by kernel_rfl) (by kernel_rfl) (by rfl) (fun _ _ _ h => h) (Or.inl ⟨by rfl, ?r9xy18⟩) (by assumption) ?r9xr18
          case r9xy18 => intro w' hSw; obtain ⟨_, q2, qv, qx⟩ := hSw; go_simp; (try with_reducible rfl)
          case' r9xr18 => simp only [Act.put, List.setIfInBounds_toArray, List.set_cons_zero, List.set_cons_succ]
          refine takeP (i := 19) (d := 93) (v := ?r9xv19) rfl (by rfl) (by kernel_rfl) (by kernel_rfl) (by kernel_rfl) (by rfl) (fun _ _ _ h => h) (Or.inl ⟨by rfl, ?r9xy19⟩) (by assumption) ?r9xr19
          case r9xy19 => intro w' _; go_simp; (try with_reducible rfl)
          case' r9xr19 => simp only [Act.put, List.setIfInBounds_toArray, List.set_cons_zero, List.set_cons_succ]
          refine takeP (i := 20) (d := 94) (v := ?r9xv20) rfl (by rfl) (by kernel_rfl) (by kernel_rfl) (by kernel_rfl) (by rfl) (fun _ _ _ h => h) (Or.inl ⟨by rfl, ?r9xy20⟩) (by assumption) ?r9xr20
          case r9xy20 => intro w' _; go_simp; (try with_reducible rfl)
          case' r9xr20 => simp only [Act.put, List.setIfInBounds_toArray, List.set_cons_zero, List.set_cons_succ]
          refine lastL (by kernel_rfl) rfl (by kernel_rfl) (fun K hK => ?r9xb21)
          go_simp
          refine hK.out _ _ ?r9xz
          -- end r9
          obtain ⟨wz, hwz⟩ : ∃ wz, wz = (wv.setCell ⟨lo, v, none⟩ (.int .i64 (min lv lx))).drew := ⟨_, rfl⟩
          rw [← hwz] at HAT HBE ⊢
          clear hwz k2 kv kx kz hHeld
          go_wp2
          go_roundw
          case rel => exact ⟨j + 1, _, by go_num, by omega, HF.out.symm, HSTEP.out, HUN3.out, by have := HAT.out; rw [HLV.out.2] at this; exact this, HBE.out⟩
          case measure => simp [intOf]; omega
        · have hqb : (t.idx x == 0) = false := by simpa using h0
          have hox : wr.cell? ⟨ob, x, none⟩ = some (.bool (decide ((x : Int) ∈ t.stk))) := hN.on.2.1 x hxn
          by_cases hm : (x : Int) ∈ t.stk
          · have hst : tjStep (tjVisit adj f) v t x = tjLow v (t.idx x) t := by unfold tjStep; rw [if_neg h0, if_pos hm]
            rw [hst] at hfold hstep hun2
            rw [decide_eq_true hm] at hox
            have hat2 : TjAt w0.heap.size T ib lo ob n (.slice (some ⟨nb, 0, none⟩) n dl) ((wr.setCell ⟨lo, v, none⟩ (.int .i64 (min (t.low v) (t.idx x)))).drew) (tjLow v (t.idx x) t).tm := (hat.setLow hS hvn (min (t.low v) (t.idx x))).drewN 1
            have hbe2 := (hbe.setCell (p := ⟨lo, v, none⟩) hS.bL (.int .i64 (min (t.low v) (t.idx x)))).drew
            have k1 := hC.c1
            have k2 := hC.c2
            have kv : wr.cell? ⟨lo, v, none⟩ = some (.int .i64 (t.low v)) := hN.low.2.1 v hvn
            have kz : wr.frozen? ⟨lo, v, none⟩ = false := hN.low.2.2 v
            obtain ⟨lv, hlv⟩ : ∃ lv, lv = t.low v := ⟨_, rfl⟩
            obtain ⟨lx, hlx⟩ : ∃ lx, lx = t.idx x := ⟨_, rfl⟩
            rw [← hlv] at kv
            rw [← hlx] at hix hqb
            rw [← hlv, ← hlx] at hat2 hbe2
            have kx := hix
            have HAT := Lib.hid hat2
            have HBE := Lib.hid hbe2
            have HLV := Lib.hid (And.intro hlv hlx)
            have HF := Lib.hid hfold
            have HSTEP := Lib.hid hstep
            have HUN3 := Lib.hid hun2
            clear hcall hrc2 hpost hst hfold hstep hun2 hTL hut hat hbe hC hN hO ht hsn hx h0 he0 hcj0 hxr hat2 hbe2 hlv hlx hm
            go_upto_region 11 with (fail)
            -- begin r11
            refine region_heldL (L := 21) (S := (fun w' => w'.heap = wr.heap ∧ w'.cell? ⟨T, 2, none⟩ = some (.slice (some ⟨lo, 0, none⟩) n n) ∧ w'.cell? ⟨T, 1, none⟩ = some (.slice (some ⟨ib, 0, none⟩) n n) ∧ w'.cell? ⟨lo, v, none⟩ = some (.int .i64 lv) ∧ w'.cell? ⟨ib, x, none⟩ = some (.int .i64 lx))) (by kernel_rfl) ?r11xs (fun hHeld => ?r11xr)
            case r11xs => exact ⟨rfl, k2, k1, kv, kx⟩
            refine takeP (i := 0) (d := 102) (v := ?r11xv0) rfl (by rfl) (by kernel_rfl) (by kernel_rfl) (by kernel_rfl) (by rfl) (fun _ _ _ h => h) (Or.inl ⟨by rfl, ?r11xy0⟩) (by assumption) ?r11xr0
            case r11xy0 => intro w' _; go_simp; (try with_reducible rfl)
            case' r11xr0 => simp only [Act.put, List.setIfInBounds_toArray, List.set_cons_zero, List.set_cons_succ]
            refine takeP (i := 1) (d := 103) (v := ?r11xv1) rfl (by rfl) (by kernel_rfl) (by kernel_rfl) (by kernel_rfl) (by rfl) (fun _ _ _ h => h) (Or.inl ⟨by rfl, ?r11xy1⟩) (by assumption) ?r11xr1
            case r11xy1 => intro w' _; go_simp; (try with_reducible rfl)
            case' r11xr1 => simp only [Act.put, List.setIfInBounds_toArray, List.set_cons_zero, List.set_cons_succ]
            refine takeP (i := 2) (d := 104) (v := ?r11xv2) rfl (by rfl) (by kernel_rfl) (by kernel_rfl) (by kernel_rfl) (by rfl) (fun _ _ _ h => h) (Or.inl ⟨by rfl, ?r11xy2⟩) (by assumption) ?r11xr2
            case r11xy2 => intro w' _; go_simp; (try with_reducible rfl)
            case' r11xr2 => simp only [Act.put, List.setIfInBounds_toArray, List.set_cons_zero, List.set_cons_succ]
            refine takeL (i := 3) (d := 105) (v := ?r11xv3) rfl (by rfl) (by kernel_rfl) (by kernel_rfl) (by kernel_rfl) (by kernel_rfl) (by rfl) (fun _ _ _ h => h) (Or.inl ⟨by rfl, ?r11xy3⟩) (by assumption) ?r11xr3
            case r11xy3 => intro w' hSw; obtain ⟨_, q2, q1, qv, qx⟩ := hSw; go_simp; (try with_reducible rfl)
            case' r11xr3 => simp only [Act.put, List.setIfInBounds_toArray, List.set_cons_zero, List.set_cons_succ]
            refine takeP (i := 4) (d := 106) (v := ?r11xv4) rfl (by rfl) (by kernel_rfl) (by kernel_rfl) (by kernel_rfl) (by rfl) (fun _ _ _ h => h) (Or.inl ⟨by rfl, ?r11xy4⟩) (by assumption) ?r11xr4
            case r11xy4 => intro w' _; go_simp; (try with_reducible rfl)
            case' r11xr4 => simp only [Act.put, List.setIfInBounds_toArray, List.set_cons_zero, List.set_cons_succ]
            refine takeP (i := 5) (d := 107) (v := ?r11xv5) rfl (by rfl) (by kernel_rfl) (by kernel_rfl) (by kernel_rfl) (by rfl) (fun _ _ _ h => h) (Or.inl ⟨by rfl, ?r11xy5⟩) (by assumption) ?r11xr5
            case r11xy5 => intro w' _; go_simp; (try with_reducible rfl)
            case' r11xr5 => simp only [Act.put, List.setIfInBounds_toArray, List.set_cons_zero, List.set_cons_succ]
            refine takeP (i := 6) (d := 108) (v := ?r11xv6) rfl (by rfl) (by kernel_rfl) (by kernel_rfl) (by kernel_rfl) (by rfl) (fun _ _ _ h => h) (Or.inl ⟨by rfl, ?r11xy6⟩) (by assumption) ?r11xr6
            case r11xy6 => intro w' _; go_simp; (try with_reducible rfl)
            case' r11xr6 => simp only [Act.put, List.setIfInBounds_toArray, List.set_cons_zero, List.set_cons_succ]
            refine takeP (i := 7) (d := 109) (v := ?r11xv7) rfl (by rfl) (by kernel_rfl) (by kernel_rfl) (by kernel_rfl) (by rfl) (fun _ _ _ h => h) (Or.inl ⟨by rfl, ?r11xy7⟩) (by assumption) ?r11xr7
            case r11xy7 => intro w' _; go_simp; (try with_reducible rfl)
            case' r11xr7 => simp only [Act.put, List.setIfInBounds_toArray, List.set_cons_zero, List.set_cons_succ]
            refine takeL (i := 8) (d := 110) (v := ?r11xv8) rfl (by rfl) (by kernel_rfl) (by kernel_rfl) (by kernel_rfl) (by kernel_rfl) (by rfl) (fun _ _ _ h => h) (Or.inl ⟨by rfl, ?r11xy8⟩) (by assumption) ?r11xr8
            case r11xy8 => intro w' hSw; obtain ⟨_, q2, q1, qv, qx⟩ := hSw; go_simp; (try with_reducible rfl)
            case' r11xr8 => simp only [Act.put, List.setIfInBounds_toArray, List.set_cons_zero, List.set_cons_succ]
            refine takeP (i := 9) (d := 111) (v := ?r11xv9) rfl (by rfl) (by kernel_rfl) (by kernel_rfl) (by kernel_rfl) (by rfl) (fun _ _ _ h => h) (Or.inl ⟨by rfl, ?r11xy9⟩) (by assumption) ?r11xr9
            case r11xy9 => intro w' _; go_simp; (try with_reducible rfl)
            case' r11xr9 => simp only [Act.put, List.setIfInBounds_toArray, List.set_cons_zero, List.set_cons_succ]
            refine takeP (i := 10) (d := 112) (v := ?r11xv10) rfl (by rfl) (by kernel_rfl) (by kernel_rfl) (by kernel_rfl) (by rfl) (fun _ _ _ h => h) (Or.inl ⟨by rfl, ?r11xy10⟩) (by assumption) ?r11xr10
            case r11xy10 => intro w' _; go_simp; (try with_reducible rfl)
            case' r11xr10 => simp only [Act.put, List.setIfInBounds_toArray, List.set_cons_zero, List.set_cons_succ]
            refine takeL (i := 11) (d := 113) (v := ?r11xv11) rfl (by rfl) (by kernel_rfl) (by kernel_rfl) (by kernel_rfl) (by kernel_rfl) (by rfl) (fun _ _ _ h => h) (Or.inl ⟨by rfl, ?r11xy11⟩) (by assumption) ?r11xr11
            case r11xy11 => intro w' hSw; obtain ⟨_, q2, q1, qv, qx⟩ := hSw; go_simp; (try with_reducible rfl)
            case' r11xr11 => simp only [Act.put, List.setIfInBounds_toArray, List.set_cons_zero, List.set_cons_succ]
            refine takeP (i := 12) (d := 114) (v := ?r11xv12) rfl (by rfl) (by kernel_rfl) (by kernel_rfl) (by kernel_rfl) (by rfl) (fun _ _ _ h => h) (Or.inl ⟨by rfl, ?r11xy12⟩) (by assumption) ?r11xr12
            case r11xy12 => intro w' _; go_simp; (try with_reducible rfl)
            case' r11xr12 => simp only [Act.put, List.setIfInBounds_toArray, List.set_cons_zero, List.set_cons_succ]
            refine takeP (i := 13) (d := 115) (v := ?r11xv13) rfl (by rfl) (by kernel_rfl) (by kernel_rfl) (by kernel_rfl) (by rfl) (fun _ _ _ h => h) (Or.inl ⟨by rfl, ?r11xy13⟩) (by assumption) ?r11xr13
            case r11xy13 => intro w' _; go_simp; (try with_reducible rfl)
            case' r11xr13 => simp only [Act.put, List.setIfInBounds_toArray, List.set_cons_zero, List.set_cons_succ]
            refine takeP (i := 14) (d := 116) (v := ?r11xv14) rfl (by rfl) (by kernel_rfl) (by kernel_rfl) (by kernel_rfl) (by rfl) (fun _ _ _ h => h) (Or.inl ⟨by rfl, ?r11xy14⟩) (by assumption) ?r11xr14
            case r11xy14 => intro w' _; go_simp; (try with_reducible rfl)
            case' r11xr14 => simp only [Act.put, List.setIfInBounds_toArray, List.set_cons_zero, List.set_cons_succ]
            refine takeL (i := 15) (d := 117) (v := ?r11xv15) rfl (by rfl) (by kernel_rfl) (by kernel_rfl) (by kernel_rfl) (by kernel_rfl) (by rfl) (fun _ _ _ h => h) (Or.inl ⟨by rfl, ?r11xy15⟩) (by assumption) ?r11xr15
            case r11xy15 => intro w' hSw; obtain ⟨_, q2, q1, qv, qx⟩ := hSw; go_simp; (try with_reducible rfl)
            case' r11xr15 => simp only [Act.put, List.setIfInBounds_toArray, List.set_cons_zero, List.set_cons_succ]
            refine takeP (i := 16) (d := 118) (v := ?r11xv16) rfl (by rfl) (by kernel_rfl) (by kernel_rfl) (by kernel_rfl) (by rfl) (fun _ _ _ h => h) (Or.inl ⟨by rfl, ?r11xy16⟩) (by assumption) ?r11xr16
            case r11xy16 => intro w' _; go_simp; (try with_reducible rfl)
            case' r11xr16 => simp only [Act.put, List.setIfInBounds_toArray, List.set_cons_zero, List.set_cons_succ]
            refine takeP (i := 17) (d := 119) (v := ?r11xv17) rfl (by rfl) (by kernel_rfl) (by kernel_rfl) (by kernel_rfl) (by rfl) (fun _ _ _ h => h) (Or.inl ⟨by rfl, ?r11xy17⟩) (by assumption) ?r11xr17
            case r11xy17 => intro w' _; go_simp; (try with_reducible rfl)
            case' r11xr17 => simp only [Act.put, List.setIfInBounds_toArray, List.set_cons_zero, List.set_cons_succ]
            refine takeL (i := 18) (d := 120) (v := ?r11xv18) rfl (by rfl) (by kernel_rfl) (by kernel_rfl) (by kernel_rfl) (by kernel_rfl) (by rfl) (fun _ _ _ h => h) (Or.inl ⟨by rfl, ?r11xy18⟩) (by assumption) ?r11xr18
            case r11xy18 => intro w' hSw; obtain ⟨_, q2, q1, qv, qx⟩ := hSw; go_simp; (try with_reducible rfl)
            case' r11xr18 => simp only [Act.put, List.setIfInBounds_toArray, List.set_cons_zero, List.set_cons_succ]
            refine takeP (i := 19) (d := 121) (v := ?r11xv19) rfl (by rfl) (by kernel_rfl) (by kernel_rfl) (by kernel_rfl) (by rfl) (fun _ _ _ h => h) (Or.inl ⟨by rfl, ?r11xy19⟩) (by assumption) ?r11xr19
            case r11xy19 => intro w' _; go_simp; (try with_reducible rfl)
            case' r11xr19 => simp only [Act.put, List.setIfInBounds_toArray, List.set_cons_zero, List.set_cons_succ]
            refine takeP (i := 20) (d := 122) (v := ?r11xv20) rfl (by rfl) (by kernel_rfl) (by kernel_rfl) (by kernel_rfl) (by rfl) (fun _ _ _ h => h) (Or.inl ⟨by rfl, ?r11xy20⟩) (by assumption) ?r11xr20
            case r11xy20 => intro w' _; go_simp; (try with_reducible rfl)
            case' r11xr20 => simp only [Act.put, List.setIfInBounds_toArray, List.set_cons_zero, List.set_cons_succ]
            refine lastL (by kernel_rfl) rfl (by kernel_rfl) (fun K hK => ?r11xb21)
            go_simp
            refine hK.out _ _ ?r11xz
            -- end r11
            obtain ⟨wz, hwz⟩ : ∃ wz, wz = (wr.setCell ⟨lo, v, none⟩ (.int .i64 (min lv lx))).drew := ⟨_, rfl⟩
            rw [← hwz] at HAT HBE ⊢
            clear hwz k1 k2 kv kx kz hHeld hix hox hcj t1 t4
            go_wp2
            go_roundw
            case rel => exact ⟨j + 1, _, by go_num, by omega, HF.out.symm, HSTEP.out, HUN3.out, by have := HAT.out; rw [HLV.out.2] at this; exact this, HBE.out⟩
            case measure => simp [intOf]; omega
          · have hst : tjStep (tjVisit adj f) v t x = t := by unfold tjStep; rw [if_neg h0, if_neg hm]
            rw [hst] at hfold hstep hun2
            rw [decide_eq_false hm] at hox
            obtain ⟨lx, hlx⟩ : ∃ lx, lx = t.idx x := ⟨_, rfl⟩
            rw [← hlx] at hix hqb
            have HAT := Lib.hid hat
            have HBE := Lib.hid hbe
            have HF := Lib.hid hfold
            have HSTEP := Lib.hid hstep
            have HUN3 := Lib.hid hun2
            clear hcall hrc2 hpost hst hfold hstep hun2 hTL hut hat hbe hC hN hO ht hsn hx h0 he0 hcj0 hxr hlx hm
            go_wp2
            go_roundw
            case rel => exact ⟨j + 1, _, by go_num, by omega, HF.out.symm, HSTEP.out, HUN3.out, HAT.out, HBE.out⟩
            case measure => simp [intOf]; omega
      · have hge : ¬ (j : Int) < (l.length : Int) := by omega
        rw [show l.take j = l from List.take_of_length_le (by omega)] at ht hTL
        have hvis : tjVisit adj (f + 1) v s = tjEnd v t := by
          show tjEnd v ((adj v).foldl (tjStep (tjVisit adj f) v) (tjPush v s)) = _
          rw [← HL.out, ← ht]
        obtain ⟨vs, vo, rows, hC, hN, hO⟩ := hat
        have t1 := hC.c1
        have t2 := hC.c2
        have kv : wr.cell? ⟨lo, v, none⟩ = some (.int .i64 (t.low v)) := hN.low.2.1 v hvn
        have ki : wr.cell? ⟨ib, v, none⟩ = some (.int .i64 (t.idx v)) := hN.idx.2.1 v hvn
        have hat : TjAt w0.heap.size T ib lo ob n (.slice (some ⟨nb, 0, none⟩) n dl) wr t.tm := ⟨vs, vo, rows, hC, hN, hO⟩
        by_cases hq : t.low v ≠ t.idx v
        · have hend : tjEnd v t = t := by unfold tjEnd; rw [if_pos hq]
          rw [hend] at hvis
          obtain ⟨lv, hlv⟩ : ∃ lv, lv = t.low v := ⟨_, rfl⟩
          obtain ⟨iv, hiv⟩ : ∃ iv, iv = t.idx v := ⟨_, rfl⟩
          rw [← hlv] at kv hq
          rw [← hiv] at ki hq
          have hqb : (lv != iv) = true := by simpa using hq
          have HAT := Lib.hid hat
          have HBE := Lib.hid hbe
          have HVIS := Lib.hid hvis
          clear hat hbe hvis hend hC hN hO hTL ht hut hlv hiv hq
          go_wp2_with fail
          go_quiet (fail)
          go_wp2
          refine bodyPost_ret (v := .tuple #[]) (by simp [results, Try.results80, go_sem]) rfl ?_
          exact ⟨rfl, by rw [HVIS.out]; exact HAT.out.drewN _, HBE.out.trans (below_drewN (Below.refl _ _) _)⟩
        · have hqe : t.low v = t.idx v := by
            apply Classical.byContradiction
            intro hc
            exact hq hc
          have hend : tjEnd v t = tjPop v t := by unfold tjEnd; rw [if_neg hq]
          obtain ⟨q, hq1, hq2, _⟩ := hTL.seg
          have hvs0 : (v : Int) ∉ s.stk := fun hm => HI.out.non v hm HV.out
          obtain ⟨hct1, hct2⟩ := tj_cut (l := q) hvs0
          have hrise := hTL.inv.rise
          rw [hq1, List.pairwise_append, List.pairwise_cons] at hrise
          obtain ⟨_, ⟨hr2, hr3⟩, _⟩ := hrise
          have hfn : ((v : Int) :: q).Nodup := List.nodup_cons.2 ⟨fun hm => by have := hr2 _ hm; omega, hr3.imp (fun {a b} hab e => by rw [e] at hab; omega)⟩
          have hfs : ∀ x ∈ (v : Int) :: q, x ∉ s.stk := fun x hx hm => by
            have h1 := HI.out.non x hm
            rcases List.mem_cons.1 hx with e | e
            · rw [e] at h1; exact h1 HV.out
            · exact h1 (hq2 x e)
          have hfr : ∀ x ∈ (v : Int) :: q, 0 ≤ x ∧ x < (n : Int) := fun x hx => by
            have := (hTL.inv.vis x (hTL.inv.non x (by rw [hq1]; exact List.mem_append_right _ hx))).1
            omega
          have hql : q.length + 1 ≤ 4096 := by
            refine Nat.le_trans (nodup_len (n := n) ((v : Int) :: q) hfn (fun x hx => hfr x hx)) hn4
          have hsl : s.stk.length ≤ 4096 := HIL.out.2
          have hvis2 : (tjVisit adj (f + 1) v s).tm = ⟨t.idx, t.low, s.stk, fun x => decide (x ∈ s.stk), t.n, t.out ++ [sortI ((v : Int) :: q).reverse]⟩ := by
            rw [hvis, hend]
            unfold tjPop TJ.tm
            simp only [hq1, hct1, hct2]
          obtain ⟨full, hfull⟩ : ∃ full, full = (v : Int) :: q := ⟨_, rfl⟩
          have HOUTL := Lib.hid (Nat.le_trans (hTL.inv.outlen hn) hn4)
          have hO' : TjO w0.heap.size [T, ib, lo, ob] vs vo rows (s.stk ++ full) t.out wr := by rw [hfull, ← hq1]; exact hO
          have hN' : TjN ib lo ob n { t.tm with on := fun x => decide (x ∈ s.stk ++ full) } wr := by rw [hfull, ← hq1]; exact hN
          obtain ⟨lv, hlv⟩ : ∃ lv, lv = t.low v := ⟨_, rfl⟩
          rw [← hlv] at kv hqe
          rw [← hqe] at ki
          have hqb : (lv != lv) = false := by simp
          have hfl : full.length = q.length + 1 := by rw [hfull]; rfl
          obtain ⟨g1, cap1, hvse, hg1b, hg1l⟩ := hO'.ost.form (by rw [List.length_append, hfl]; omega)
          subst hvse
          have HC := Lib.hid hC
          have HN := Lib.hid hN'
          have HO := Lib.hid hO'
          have HBE := Lib.hid hbe
          have HVIS := Lib.hid hvis2
          have HFN := Lib.hid hfn
          have HFS := Lib.hid hfs
          have HFR := Lib.hid hfr
          have HFULL := Lib.hid hfull
          have HQL := Lib.hid (And.intro hql hsl)
          have HFL := Lib.hid hfl
          clear hat hbe hvis hvis2 hend hC hN hO hN' hO' hTL ht hut hlv hq hqe hq1 hq2 hvs0 hct1 hct2 hr2 hr3 hfn hfs hfr hql hsl hfl hfull
          go_wp2_with fail
          go_quiet (fail)
          go_wp2
          obtain ⟨wl, hwl⟩ : ∃ wl, wl = wr.drewN nq := ⟨_, rfl⟩
          have hC1 := HC.out.drewN nq
          have hN1 := HN.out.drewN nq
          have hO1 := HO.out.drewN nq
          have hb1 : Below w0.heap.size w0 (wr.drewN nq) := HBE.out.trans (below_drewN (Below.refl _ _) _)
          have hg1l2 : g1 < (wr.drewN nq).heap.size := hg1l
          rw [← hwl] at hC1 hN1 hO1 hb1 hg1l2 ⊢
          have hlt := tj_lt hC1 hN1
          have hvob : ∀ g, vo.ownBlock = some g → g < wl.heap.size := fun g e => (hO1.oout.lt g e).2
          have hrwb : ∀ k (h : k < rows.length) g, rows[k].ownBlock = some g → g < wl.heap.size := fun k h g e => ((hO1.row k h (by have := hO1.len; omega)).1.lt g e).2
          rw [List.length_append] at hC1 hO1
          have HC1 := Lib.hid hC1
          have HN1 := Lib.hid hN1
          have HO1 := Lib.hid hO1
          have HB1L := Lib.hid hb1
          have HLT := Lib.hid hlt
          have HVOB := Lib.hid hvob
          have HRWB := Lib.hid hrwb
          clear hC1 hN1 hO1 hb1 hlt hvob hrwb hwl HC HN HO HBE hg1l hg1b kv ki t1 t2 hcY g0
          go_loopw [6] (fun vc wr => ∃ k : Nat, k ≤ full.length ∧ wr.ownsRow wl.heap.size 3 1 vc (full.drop k).reverse.length (I (full.drop k).reverse) ∧ TjC T ib lo ob n (.slice (some ⟨nb, 0, none⟩) n dl) (.slice (some ⟨g1, 0, none⟩) (s.stk.length + k) cap1) vo t.n wr ∧ TjN ib lo ob n { t.tm with on := fun x => decide (x ∈ s.stk ++ full.take k) } wr ∧ TjO w0.heap.size [T, ib, lo, ob] (.slice (some ⟨g1, 0, none⟩) (s.stk.length + k) cap1) vo rows (s.stk ++ full.take k) t.out wr ∧ Below w0.heap.size w0 wr ∧ wl.heap.size ≤ wr.heap.size) (fun vc _ => full.length + 1 - lenV vc)
          case atStart => exact ⟨full.length, Nat.le_refl _, by rw [List.drop_length]; exact own_none _ _ _ _, HC1.out, by rw [List.take_length]; exact HN1.out, by rw [List.take_length]; exact HO1.out, HB1L.out, Nat.le_refl _⟩
          case round =>
            obtain ⟨k, hk, hown, hC, hN, hO, hbe, hsz⟩ := hrel
            obtain ⟨Xc, dc, rfl, hrc, _⟩ := own_rowS hown
            obtain ⟨lc, hlc⟩ : ∃ lc, lc = (full.drop k).reverse.length := ⟨_, rfl⟩
            have hlck : lc = full.length - k := by rw [hlc, List.length_reverse, List.length_drop]
            rw [← hlc]
            rw [← hlc] at hown
            have hfl2 := HFL.out
            have hql2 := HQL.out
            rcases k with _ | k
            · rw [List.drop_zero] at hown hrc hlc
              obtain ⟨lm, rfl⟩ : ∃ lm, lc = lm + 1 := ⟨lc - 1, by omega⟩
              have hlml : lm < full.reverse.length := by rw [← hlc]; omega
              obtain ⟨bc, oc, rfl, hcl⟩ := hrc.int hlml
              have hlast : full.reverse[lm] = (v : Int) := by
                have h1 : full.reverse[lm]? = some (v : Int) := by
                  rw [HFULL.out, List.reverse_cons, List.getElem?_append_right (by rw [List.length_reverse]; omega), List.length_reverse, show lm - q.length = 0 by omega]; rfl
                rw [List.getElem?_eq_getElem hlml] at h1
                exact Option.some.inj h1
              rw [hlast] at hcl
              have hl0 : (0 : Int) ≤ (lm : Int) := by omega
              have hl1 : (lm : Int) < (lm : Int) + 1 := by omega
              have hlb : (((lm : Int) + 1) == 0) = false := by rw [beq_eq_false_iff_ne]; omega
              have hl2 : (lm : Int) < 10000 := by omega
              have hvv : ((v : Int) != (v : Int)) = false := by simp
              have hown2 : wr.ownsRow wl.heap.size 3 1 (.slice (some ⟨bc, oc, none⟩) (lm + 1) dc) full.reverse.length (I full.reverse) := by rw [← hlc]; exact hown
              have hsort := sort_c hown2 (by rw [← hlc]; omega)
              rw [List.take_zero, List.append_nil] at hO
              simp only [List.take_zero, List.append_nil] at hN
              have HOWN := Lib.hid hown2
              have HSORT := Lib.hid hsort
              have HC := Lib.hid hC
              have HN := Lib.hid hN
              have HO := Lib.hid hO
              have HBE := Lib.hid hbe
              have HSZ := Lib.hid hsz
              clear hown hown2 hsort hC hN hO hbe hsz hlast hlml hrc hlc hlck
              go_wp2_with fail
              go_at_call 52
              refine HSORT.out.mono ?_
              rintro e ws ⟨rfl, hso, hsg⟩
              clear hcl
              obtain ⟨hC, hN, hO⟩ := tj_away (b := wl.heap.size) HLT.out (fun g e => by cases e; exact hg1l2) HVOB.out HRWB.out HC.out HN.out HO.out (Moves.of_grown hsg (M := _) (fun k e => Option.mem_toList.2 e)) (fun g hk => (HOWN.out.lt g (Option.mem_toList.1 hk)).1)
              have hbw0 : w0.heap.size ≤ wl.heap.size := HB1L.out.size
              have hbe := HBE.out.grown hsg (by have := HSZ.out; omega) (fun g hk => by have := (HOWN.out.lt g hk).1; omega)
              have hszs : w0.heap.size ≤ ws.heap.size := hbe.size
              obtain ⟨Xo, co, rfl, _, _⟩ := own_rowS hO.oout
              have c6 := hC.c6
              have z6 := hC.z 6
              have hTl := hC.lt
              have hT6 : T ∉ (Value.slice Xo rows.length co).ownBlock.toList := fun hk => (hO.sepo T (by simpa using hk)).1 (by simp)
              have hrl : rows.length ≤ 4096 := by rw [hO.len]; exact HOUTL.out
              have HROW := Lib.hid (show ws.ownsRow w0.heap.size 3 1 (.slice (some ⟨bc, oc, none⟩) (lm + 1) dc) (sortI full.reverse).length (I (sortI full.reverse)) by rw [sortI_length]; exact own_base hso hbw0)
              have hfar : ∀ g, (Value.slice (some ⟨bc, oc, none⟩) (lm + 1) dc).ownBlock = some g → g ∉ [T, ib, lo, ob] ∧ (Value.slice (some ⟨g1, 0, none⟩) (s.stk.length + 0) cap1).ownBlock ≠ some g ∧ (Value.slice Xo rows.length co).ownBlock ≠ some g := fun g e => by
                have h1 := (hso.lt g e).1
                refine ⟨fun hk => ?_, fun e2 => ?_, fun e2 => ?_⟩
                · have := HLT.out g hk; omega
                · have e3 : g1 = g := Option.some.inj e2
                  omega
                · have := HVOB.out g e2; omega
              have HFAR := Lib.hid hfar
              have HC2 := Lib.hid hC
              have HN2 := Lib.hid hN
              have HO2 := Lib.hid hO
              have HOO := Lib.hid hO.oout
              have HBE2 := Lib.hid hbe
              have HT6 := Lib.hid hT6
              clear hC hN hO hbe hfar hso hsg HC HN HO HBE HOWN HSORT hT6
              go_wp2_with (at_builtin; go_loud (refine app_new w0.heap.size (by rfl) _ _ 45 25 (.slice none 0 0) 24 (by rfl) Try.underlying45 info_ints rfl _ rows (.slice (some ⟨bc, oc, none⟩) (lm + 1) dc) (by rfl) _ (by rfl) rfl rfl HOO.out hszs (by omega) (by omega) ?_; intro v5 w5 ho5 hg5 hb5 hs5; obtain ⟨X5, d5, rfl, _, _⟩ := own_rowS ho5; have hm5 := Moves.of_grown (M := (Value.slice Xo rows.length co).ownBlock.toList) hg5 (by intro k e; simp [e]); have c65 := (hm5.cell hTl HT6.out 6).trans c6; have z65 := (hm5.frozen hTl HT6.out 6).trans z6; have HAT3 := Lib.hid (tj_told (m := ⟨t.idx, t.low, s.stk, fun x => decide (x ∈ s.stk), t.n, t.out⟩) hS HC2.out ⟨HN2.out.idx, HN2.out.low, HN2.out.on⟩ HO2.out HROW.out HFAR.out ho5 hg5 (fun g e => hb5.imp (fun h => h.symm.trans e) (fun h => by rw [h] at e; cases e; omega))); have HB3 := Lib.hid ((HBE2.out.grown hg5 hszs (fun k hk => (HOO.out.lt k hk).1)).setCell (p := ⟨T, 6, none⟩) hS.bT (.slice X5 (rows.length + 1) d5)); clear ho5 hg5 hb5 hm5 hTl c6 z6))
              go_end0
              refine ⟨rfl, ?_, HB3.out⟩
              rw [HVIS.out, ← HFULL.out]
              exact HAT3.out
            · have hkl : k < full.length := by omega
              have htk : full.take (k + 1) = full.take k ++ [full[k]] := List.take_succ_eq_append_getElem hkl
              have hyr := HFR.out full[k] (by rw [← HFULL.out]; exact List.getElem_mem hkl)
              obtain ⟨y, hy⟩ : ∃ y : Nat, full[k] = (y : Int) := ⟨full[k].toNat, by omega⟩
              rw [hy] at htk hyr
              have hyn : y < n := by omega
              have hy0 : (0 : Int) ≤ (y : Int) := by omega
              have hy1 : (y : Int) < (n : Int) := by omega
              obtain ⟨ls, hls⟩ : ∃ ls, ls = s.stk.length + k := ⟨_, rfl⟩
              rw [show s.stk.length + (k + 1) = ls + 1 by omega] at hC hO
              rw [htk, ← List.append_assoc] at hO
              have c3 := hC.c3
              have c4 := hC.c4
              have z3 := hC.z 3
              have hqlen : (s.stk ++ full.take k).length = ls := by rw [List.length_append, List.length_take]; omega
              have hcell : wr.cell? ⟨g1, ls, none⟩ = some (.int .i64 y) := by
                have := hO.ost.cells (g := g1) rfl ls (.int .i64 (y : Int)) (by rw [show I (s.stk ++ full.take k ++ [(y : Int)]) = I (s.stk ++ full.take k) ++ [.int .i64 (y : Int)] from List.map_append, List.getElem?_append_right (by rw [List.length_map]; omega), List.length_map, hqlen, Nat.sub_self]; rfl)
                rwa [add_zero] at this
              have hls0 : (0 : Int) ≤ (ls : Int) := by omega
              have hls1 : (ls : Int) < 10000 := by omega
              have hog : wr.cell? ⟨ob, y, none⟩ = some (.bool (decide ((y : Int) ∈ s.stk ++ full.take (k + 1)))) := hN.on.2.1 y hyn
              have hoz := hN.on.2.2 y
              have HOWN := Lib.hid hown
              have HC := Lib.hid hC
              have HN := Lib.hid hN
              have HO := Lib.hid hO
              have HBE := Lib.hid hbe
              have HRC := Lib.hid hrc
              have HY := Lib.hid hy
              have HTK := Lib.hid htk
              have HQN := Lib.hid hqlen
              have HLS := Lib.hid hls
              have HLCK := Lib.hid hlck
              have HLC := Lib.hid hlc
              have HSZ := Lib.hid hsz
              clear hown hC hN hO hbe hrc hy htk hqlen hls hlck hlc hsz hyr
              have hon : setB (fun x => decide (x ∈ s.stk ++ full.take (k + 1))) y false = fun x => decide (x ∈ s.stk ++ full.take k) := by
                have hnd : (full.take k ++ [(y : Int)]).Nodup := by rw [← HTK.out]; exact List.Nodup.sublist (List.take_sublist _ _) (by rw [HFULL.out]; exact HFN.out)
                have h1 : (y : Int) ∉ full.take k := fun hm => (List.nodup_append.1 hnd).2.2 _ hm _ (by simp) rfl
                have h2 : (y : Int) ∉ s.stk := HFS.out y (by rw [← HFULL.out]; exact List.mem_of_mem_take (i := k + 1) (by rw [HTK.out]; simp))
                funext x
                unfold setB
                by_cases e : x = (y : Int)
                · rw [if_pos e, e]; simp [h1, h2]
                · rw [if_neg e, HTK.out]; simp [e]
              have hdr : (full.drop k).reverse = (full.drop (k + 1)).reverse ++ [(y : Int)] := by
                rw [List.drop_eq_getElem_cons (by omega : k < full.length), List.reverse_cons, HY.out]
              have HON := Lib.hid hon
              have HDR := Lib.hid hdr
              have htO := hS.tO
              have hOt : ob ≠ T := fun e => htO e.symm
              clear hon hdr
              rcases Decidable.em (k + 1 = full.length) with hce | hce
              case inl =>
                obtain rfl : lc = 0 := by have := HLCK.out; omega
                go_upto_region 16 with (fail)
                go_quiet (fail)
                go_upto_region 17 with (fail)
                obtain ⟨wq, hwq⟩ : ∃ wq, wq = wr.drewN nq := ⟨_, rfl⟩
                have hC := HC.out.drewN nq
                have hN := HN.out.drewN nq
                have hO := HO.out.drewN nq
                have hbq : Below w0.heap.size w0 (wr.drewN nq) := HBE.out.trans (below_drewN (Below.refl _ _) _)
                have howq : (wr.drewN nq).ownsRow wl.heap.size 3 1 _ _ _ := HOWN.out
                have hszq : wl.heap.size ≤ (wr.drewN nq).heap.size := HSZ.out
                rw [← hwq] at hC hN hO hbq howq hszq ⊢
                clear hwq HC HN HO HBE HSZ c3 c4 z3 hcell hog hoz
                have c3 := hC.c3
                have c4 := hC.c4
                have z3 := hC.z 3
                have hog : wq.cell? ⟨ob, y, none⟩ = some (.bool (decide ((y : Int) ∈ s.stk ++ full.take (k + 1)))) := hN.on.2.1 y hyn
                have hoz := hN.on.2.2 y
                obtain ⟨_, d9, e9, _, hcap1, hcap2⟩ := own_rowS hO.ost
                obtain ⟨h9a, h9b, h9c⟩ := Value.slice.inj e9
                subst h9c
                rw [List.length_append, HQN.out] at hcap1
                clear h9a h9b e9
                have hcp0 : (ls : Int) ≤ (cap1 : Int) := by omega
                have hcp1 : (0 : Int) ≤ (cap1 : Int) := by omega
                have hcp2 : (cap1 : Int) ≤ 9223372036854775807 := by omega
                have hcp3 : ls ≤ cap1 := by omega
                have hwr : IntKind.i64.wrap (ls : Int) = (ls : Int) := by rw [IntKind.wrap_i64]; omega
                have hpop := tj_pop1 hS hC hN hO HQN.out hyn
                have hb8 := ((hbq.setCell (p := ⟨T, 3, none⟩) hS.bT (.slice (some ⟨g1, 0, none⟩) ls cap1)).setCell (p := ⟨ob, y, none⟩) hS.bO (.bool false)).drew
                have hTl : T < wl.heap.size := HLT.out T (by simp)
                have hol : ob < wl.heap.size := HLT.out ob (by simp)
                have how8 : (((wq.setCell ⟨T, 3, none⟩ (.slice (some ⟨g1, 0, none⟩) ls cap1)).setCell ⟨ob, y, none⟩ (.bool false)).drew).ownsRow wl.heap.size 3 1 _ _ _ := own_mv (M := [T, ob]) howq ((Moves.set (M := [T, ob]) wq ⟨T, 3, none⟩ _ (by simp)).trans (Moves.set (M := [T, ob]) (wq.setCell ⟨T, 3, none⟩ (.slice (some ⟨g1, 0, none⟩) ls cap1)) ⟨ob, y, none⟩ (.bool false) (by simp))) (fun g e hk => by have := (howq.lt g e).1; simp at hk; omega)
                have HPOP := Lib.hid hpop
                have HB8 := Lib.hid hb8
                have HOW8 := Lib.hid how8
                have hsz8 : wl.heap.size ≤ (((wq.setCell ⟨T, 3, none⟩ (.slice (some ⟨g1, 0, none⟩) ls cap1)).setCell ⟨ob, y, none⟩ (.bool false)).drew).heap.size := by simpa [World.setCell] using hszq
                have HSZ8 := Lib.hid hsz8
                clear hC hN hO hbq howq hszq hpop hb8 how8 hsz8
                -- begin r17
                refine region_heldL (L := 14) (S := (fun w' => w'.heap = wq.heap ∧ w'.cell? ⟨T, 3, none⟩ = some (.slice (some ⟨g1, 0, none⟩) (ls + 1) cap1))) (by kernel_rfl) ?r17axs (fun hHeld => ?r17axr)
                case r17axs => exact ⟨rfl, c3⟩
                refine takeP (i := 0) (d := 164) (v := ?r17axv0) rfl (by rfl) (by kernel_rfl) (by kernel_rfl) (by kernel_rfl) (by rfl) (fun _ _ _ h => h) (Or.inl ⟨by rfl, ?r17axy0⟩) (by assumption) ?r17axr0
                case r17axy0 => intro w' _; go_simp; (try with_reducible rfl)
                case' r17axr0 => simp only [Act.put, List.setIfInBounds_toArray, List.set_cons_zero, List.set_cons_succ]
                refine takeP (i := 1) (d := 165) (v := ?r17axv1) rfl (by rfl) (by kernel_rfl) (by kernel_rfl) (by kernel_rfl) (by rfl) (fun _ _ _ h => h) (Or.inl ⟨by rfl, ?r17axy1⟩) (by assumption) ?r17axr1
                case r17axy1 => intro w' _; go_simp; (try with_reducible rfl)
                case' r17axr1 => simp only [Act.put, List.setIfInBounds_toArray, List.set_cons_zero, List.set_cons_succ]
                refine takeP (i := 2) (d := 166) (v := ?r17axv2) rfl (by rfl) (by kernel_rfl) (by kernel_rfl) (by kernel_rfl) (by rfl) (fun _ _ _ h => h) (Or.inl ⟨by rfl, ?r17axy2⟩) (by assumption) ?r17axr2
                case r17axy2 => intro w' _; go_simp; (try with_reducible rfl)
                case' r17axr2 => simp only [Act.put, List.setIfInBounds_toArray, List.set_cons_zero, List.set_cons_succ]
                refine takeP (i := 3) (d := 167) (v := ?r17axv3) rfl (by rfl) (by kernel_rfl) (by kernel_rfl) (by kernel_rfl) (by rfl) (fun _ _ _ h => h) (Or.inl ⟨by rfl, ?r17axy3⟩) (by assumption) ?r17axr3
                case r17axy3 => intro w' _; go_simp; (try with_reducible rfl)
                case' r17axr3 => simp only [Act.put, List.setIfInBounds_toArray, List.set_cons_zero, List.set_cons_succ]
                refine takeL (i := 4) (d := 168) (v := ?r17axv4) rfl (by rfl) (by kernel_rfl) (by kernel_rfl) (by kernel_rfl) (by kernel_rfl) (by rfl) (fun _ _ _ h => h) (Or.inl ⟨by rfl, ?r17axy4⟩) (by assumption) ?r17axr4
                case r17axy4 => intro w' hSw; obtain ⟨_, q3⟩ := hSw; go_simp; (try with_reducible rfl)
                case' r17axr4 => simp only [Act.put, List.setIfInBounds_toArray, List.set_cons_zero, List.set_cons_succ]
                refine takeP (i := 5) (d := 169) (v := ?r17axv5) rfl (by rfl) (by kernel_rfl) (by kernel_rfl) (by kernel_rfl) (by rfl) (fun _ _ _ h => h) (Or.inl ⟨by rfl, ?r17axy5⟩) (by assumption) ?r17axr5
                case r17axy5 => intro w' _; go_simp; (try with_reducible rfl)
                case' r17axr5 => simp only [Act.put, List.setIfInBounds_toArray, List.set_cons_zero, List.set_cons_succ]
                refine takeP (i := 6) (d := 170) (v := ?r17axv6) rfl (by rfl) (by kernel_rfl) (by kernel_rfl) (by kernel_rfl) (by rfl) (fun _ _ _ h => h) (Or.inl ⟨by rfl, ?r17axy6⟩) (by assumption) ?r17axr6
                case r17axy6 => intro w' _; go_simp; (try with_reducible rfl)
                case' r17axr6 => simp only [Act.put, List.setIfInBounds_toArray, List.set_cons_zero, List.set_cons_succ]
                refine takeP (i := 7) (d := 171) (v := ?r17axv7) rfl (by rfl) (by kernel_rfl) (by kernel_rfl) (by kernel_rfl) (by rfl) (fun _ _ _ h => h) (Or.inl ⟨by rfl, ?r17axy7⟩) (by assumption) ?r17axr7
                case r17axy7 => intro w' _; go_simp; (try with_reducible rfl)
                case' r17axr7 => simp only [Act.put, List.setIfInBounds_toArray, List.set_cons_zero, List.set_cons_succ]
                refine takeL (i := 8) (d := 172) (v := ?r17axv8) rfl (by rfl) (by kernel_rfl) (by kernel_rfl) (by kernel_rfl) (by kernel_rfl) (by rfl) (fun _ _ _ h => h) (Or.inl ⟨by rfl, ?r17axy8⟩) (by assumption) ?r17axr8
                case r17axy8 => intro w' hSw; obtain ⟨_, q3⟩ := hSw; go_simp; (try with_reducible rfl)
                case' r17axr8 => simp only [Act.put, List.setIfInBounds_toArray, List.set_cons_zero, List.set_cons_succ]
                refine takeP (i := 9) (d := 173) (v := ?r17axv9) rfl (by rfl) (by kernel_rfl) (by kernel_rfl) (by kernel_rfl) (by rfl) (fun _ _ _ h => h) (Or.inl ⟨by rfl, ?r17axy9⟩) (by assumption) ?r17axr9
                case r17axy9 => intro w' _; go_simp; (try with_reducible rfl)
                case' r17axr9 => simp only [Act.put, List.setIfInBounds_toArray, List.set_cons_zero, List.set_cons_succ]
                refine takeP (i := 10) (d := 174) (v := ?r17axv10) rfl (by rfl) (by kernel_rfl) (by kernel_rfl) (by kernel_rfl) (by rfl) (fun _ _ _ h => h) (Or.inl ⟨by rfl, ?r17axy10⟩) (by assumption) ?r17axr10
                case r17axy10 => intro w' _; go_simp; (try with_reducible rfl)
                case' r17axr10 => simp only [Act.put, List.setIfInBounds_toArray, List.set_cons_zero, List.set_cons_succ]
                refine takeP (i := 11) (d := 175) (v := ?r17axv11) rfl (by rfl) (by kernel_rfl) (by kernel_rfl) (by kernel_rfl) (by rfl) (fun _ _ _ h => h) (Or.inl ⟨by rfl, ?r17axy11⟩) (by assumption) ?r17axr11
                case r17axy11 => intro w' _; go_simp; (try with_reducible rfl)
                case' r17axr11 => simp only [Act.put, List.setIfInBounds_toArray, List.set_cons_zero, List.set_cons_succ]
                refine takeP (i := 12) (d := 176) (v := ?r17axv12) rfl (by rfl) (by kernel_rfl) (by kernel_rfl) (by kernel_rfl) (by rfl) (fun _ _ _ h => h) (Or.inl ⟨by rfl, ?r17axy12⟩) (by assumption) ?r17axr12
                case r17axy12 => intro w' _; go_simp; (try with_reducible rfl)
                case' r17axr12 => simp only [Act.put, List.setIfInBounds_toArray, List.set_cons_zero, List.set_cons_succ]
                refine takeP (i := 13) (d := 177) (v := ?r17axv13) rfl (by rfl) (by kernel_rfl) (by kernel_rfl) (by kernel_rfl) (by rfl) (fun _ _ _ h => h) (Or.inl ⟨by rfl, ?r17axy13⟩) (by assumption) ?r17axr13
                case r17axy13 => intro w' _; go_simp; (try with_reducible rfl)
                case' r17axr13 => simp only [Act.put, List.setIfInBounds_toArray, List.set_cons_zero, List.set_cons_succ]
                refine lastL (by kernel_rfl) rfl (by kernel_rfl) (fun K hK => ?r17axb14)
                go_simp
                refine hK.out _ _ ?r17axz
                -- end r17
                clear hHeld
                go_upto_region 19 with (fail)
                obtain ⟨w8, hw8⟩ : ∃ w8, w8 = (((wq.setCell ⟨T, 3, none⟩ (.slice (some ⟨g1, 0, none⟩) ls cap1)).setCell ⟨ob, y, none⟩ (.bool false)).drew) := ⟨_, rfl⟩
                rw [← hw8] at HPOP HB8 HOW8 HSZ8 ⊢
                clear hw8 c3 c4 z3 hog hoz hcap1 hcap2 hcp0 hcp1 hcp2 hcp3
                have hcl9 : (I (full.drop (k + 1)).reverse).length = _ := (List.length_map _).trans HLC.out.symm
                have HCL9 := Lib.hid hcl9
                have hlc9 : (I (full.drop (k + 1)).reverse).length ≤ 4096 := by rw [hcl9]; have := HLCK.out; omega
                have HLC9 := Lib.hid hlc9
                have HO8 : Hid (w8.ownsRow wl.heap.size 3 1 _ (I (full.drop (k + 1)).reverse).length (I (full.drop (k + 1)).reverse)) := Lib.hid (by rw [hcl9]; exact HOW8.out)
                clear hcl9 hlc9
                go_wp2_with (at_builtin; go_loud (refine app_new wl.heap.size (by rfl) _ _ 25 3 (.int .i64 0) 8 (by rfl) Try.underlying25 info_int rfl _ (I (full.drop (k + 1)).reverse) (.int .i64 (y : Int)) (by rfl) _ (by rfl) rfl rfl HO8.out HSZ8.out (by have := HLC9.out; omega) (by have := HLC9.out; omega) ?_; intro v5 w5 ho5 hg5 hb5 hs5; obtain ⟨X5, d5, rfl, _, _⟩ := own_rowS ho5; have HO5 := Lib.hid ho5; have HG5 := Lib.hid hg5; have HS5 := Lib.hid hs5; clear ho5 hg5 hb5 hs5))
                go_roundw
                case rel =>
                  have hm5 := Moves.of_grown HG5.out (M := _) (fun k e => Option.mem_toList.2 e)
                  obtain ⟨r1, r2, r3⟩ := tj_away (b := wl.heap.size) HLT.out (fun g e => by cases e; exact hg1l2) HVOB.out HRWB.out HPOP.out.1 HPOP.out.2.1 HPOP.out.2.2 hm5 (fun g hk => (HO8.out.lt g (Option.mem_toList.1 hk)).1)
                  refine ⟨k, by omega, ?_, by rw [← HLS.out]; exact r1, by have h := r2; simp only [HON.out] at h; exact h, by rw [← HLS.out]; exact r3, HB8.out.grown HG5.out HB8.out.size (fun g hk => by have := (HO8.out.lt g hk).1; have := HB1L.out.size; omega), by have := HS5.out; have := HSZ8.out; omega⟩
                  rw [HDR.out, List.length_append, List.length_singleton, show I ((full.drop (k + 1)).reverse ++ [(y : Int)]) = I (full.drop (k + 1)).reverse ++ [.int .i64 (y : Int)] from List.map_append]
                  have e : (I (full.drop (k + 1)).reverse).length = (full.drop (k + 1)).reverse.length := List.length_map _
                  rw [← e]
                  have z9 : (I (full.drop (k + 1)).reverse).length = 0 := by
                    rw [List.length_map, List.length_reverse, List.length_drop]; omega
                  have h9 := HO5.out
                  rw [z9] at h9 ⊢
                  exact h9
                case measure =>
                  have := HCL9.out
                  have := HLCK.out
                  simp only [lenV]
                  omega
              case inr =>
                obtain ⟨lm, rfl⟩ : ∃ lm, lc = lm + 1 := ⟨lc - 1, by have := HLCK.out; omega⟩
                have hlml : lm < (full.drop (k + 1)).reverse.length := by rw [← HLC.out]; omega
                obtain ⟨bc, oc, rfl, hcl⟩ := HRC.out.int hlml
                obtain ⟨z0, hz0⟩ : ∃ z0, z0 = (full.drop (k + 1)).reverse[lm] := ⟨_, rfl⟩
                have hzm : z0 ∈ full.drop (k + 1) := by rw [hz0]; exact List.mem_reverse.1 (List.getElem_mem hlml)
                rw [HFULL.out, List.drop_succ_cons] at hzm
                have hzv : (z0 != (v : Int)) = true := by
                  rw [bne_iff_ne]
                  intro e
                  exact (List.nodup_cons.1 HFN.out).1 (by rw [← e]; exact List.mem_of_mem_drop hzm)
                rw [← hz0] at hcl
                have hl0 : (0 : Int) ≤ (lm : Int) := by omega
                have hl1 : (lm : Int) < (lm : Int) + 1 := by omega
                have hlb : (((lm : Int) + 1) == 0) = false := by rw [beq_eq_false_iff_ne]; omega
                have hl2 : (lm : Int) < 10000 := by have := HLCK.out; omega
                clear hzm hz0 hlml
                go_upto_region 16 with (fail)
                go_quiet (fail)
                go_upto_region 17 with (fail)
                obtain ⟨wq, hwq⟩ : ∃ wq, wq = wr.drewN nq := ⟨_, rfl⟩
                have hC := HC.out.drewN nq
                have hN := HN.out.drewN nq
                have hO := HO.out.drewN nq
                have hbq : Below w0.heap.size w0 (wr.drewN nq) := HBE.out.trans (below_drewN (Below.refl _ _) _)
                have howq : (wr.drewN nq).ownsRow wl.heap.size 3 1 _ _ _ := HOWN.out
                have hszq : wl.heap.size ≤ (wr.drewN nq).heap.size := HSZ.out
                rw [← hwq] at hC hN hO hbq howq hszq ⊢
                clear hwq HC HN HO HBE HSZ c3 c4 z3 hcell hog hoz
                have c3 := hC.c3
                have c4 := hC.c4
                have z3 := hC.z 3
                have hog : wq.cell? ⟨ob, y, none⟩ = some (.bool (decide ((y : Int) ∈ s.stk ++ full.take (k + 1)))) := hN.on.2.1 y hyn
                have hoz := hN.on.2.2 y
                obtain ⟨_, d9, e9, _, hcap1, hcap2⟩ := own_rowS hO.ost
                obtain ⟨h9a, h9b, h9c⟩ := Value.slice.inj e9
                subst h9c
                rw [List.length_append, HQN.out] at hcap1
                clear h9a h9b e9
                have hcp0 : (ls : Int) ≤ (cap1 : Int) := by omega
                have hcp1 : (0 : Int) ≤ (cap1 : Int) := by omega
                have hcp2 : (cap1 : Int) ≤ 9223372036854775807 := by omega
                have hcp3 : ls ≤ cap1 := by omega
                have hwr : IntKind.i64.wrap (ls : Int) = (ls : Int) := by rw [IntKind.wrap_i64]; omega
                have hpop := tj_pop1 hS hC hN hO HQN.out hyn
                have hb8 := ((hbq.setCell (p := ⟨T, 3, none⟩) hS.bT (.slice (some ⟨g1, 0, none⟩) ls cap1)).setCell (p := ⟨ob, y, none⟩) hS.bO (.bool false)).drew
                have hTl : T < wl.heap.size := HLT.out T (by simp)
                have hol : ob < wl.heap.size := HLT.out ob (by simp)
                have how8 : (((wq.setCell ⟨T, 3, none⟩ (.slice (some ⟨g1, 0, none⟩) ls cap1)).setCell ⟨ob, y, none⟩ (.bool false)).drew).ownsRow wl.heap.size 3 1 _ _ _ := own_mv (M := [T, ob]) howq ((Moves.set (M := [T, ob]) wq ⟨T, 3, none⟩ _ (by simp)).trans (Moves.set (M := [T, ob]) (wq.setCell ⟨T, 3, none⟩ (.slice (some ⟨g1, 0, none⟩) ls cap1)) ⟨ob, y, none⟩ (.bool false) (by simp))) (fun g e hk => by have := (howq.lt g e).1; simp at hk; omega)
                have HPOP := Lib.hid hpop
                have HB8 := Lib.hid hb8
                have HOW8 := Lib.hid how8
                have hsz8 : wl.heap.size ≤ (((wq.setCell ⟨T, 3, none⟩ (.slice (some ⟨g1, 0, none⟩) ls cap1)).setCell ⟨ob, y, none⟩ (.bool false)).drew).heap.size := by simpa [World.setCell] using hszq
                have HSZ8 := Lib.hid hsz8
                clear hC hN hO hbq howq hszq hpop hb8 how8 hsz8
                -- begin r17
                refine region_heldL (L := 14) (S := (fun w' => w'.heap = wq.heap ∧ w'.cell? ⟨T, 3, none⟩ = some (.slice (some ⟨g1, 0, none⟩) (ls + 1) cap1))) (by kernel_rfl) ?r17bxs (fun hHeld => ?r17bxr)
                case r17bxs => exact ⟨rfl, c3⟩
                refine takeP (i := 0) (d := 164) (v := ?r17bxv0) rfl (by rfl) (by kernel_rfl) (by kernel_rfl) (by kernel_rfl) (by rfl) (fun _ _ _ h => h) (Or.inl ⟨by rfl, ?r17bxy0⟩) (by assumption) ?r17bxr0
                case r17bxy0 => intro w' _; go_simp; (try with_reducible rfl)
                case' r17bxr0 => simp only [Act.put, List.setIfInBounds_toArray, List.set_cons_zero, List.set_cons_succ]
                refine takeP (i := 1) (d := 165) (v := ?r17bxv1) rfl (by rfl) (by kernel_rfl) (by kernel_rfl) (by kernel_rfl) (by rfl) (fun _ _ _ h => h) (Or.inl ⟨by rfl, ?r17bxy1⟩) (by assumption) ?r17bxr1
                case r17bxy1 => intro w' _; go_simp; (try with_reducible rfl)
                case' r17bxr1 => simp only [Act.put, List.setIfInBounds_toArray, List.set_cons_zero, List.set_cons_succ]
                refine takeP (i := 2) (d := 166) (v := ?r17bxv2) rfl (by rfl) (by kernel_rfl) (by kernel_rfl) (by kernel_rfl) (by rfl) (fun _ _ _ h => h) (Or.inl ⟨by rfl, ?r17bxy2⟩) (by assumption) ?r17bxr2
                case r17bxy2 => intro w' _; go_simp; (try with_reducible rfl)
                case' r17bxr2 => simp only [Act.put, List.setIfInBounds_toArray, List.set_cons_zero, List.set_cons_succ]
                refine takeP (i := 3) (d := 167) (v := ?r17bxv3) rfl (by rfl) (by kernel_rfl) (by kernel_rfl) (by kernel_rfl) (by rfl) (fun _ _ _ h => h) (Or.inl ⟨by rfl, ?r17bxy3⟩) (by assumption) ?r17bxr3
                case r17bxy3 => intro w' _; go_simp; (try with_reducible rfl)
                case' r17bxr3 => simp only [Act.put, List.setIfInBounds_toArray, List.set_cons_zero, List.set_cons_succ]
                refine takeL (i := 4) (d := 168) (v := ?r17bxv4) rfl (by rfl) (by kernel_rfl) (by kernel_rfl) (by kernel_rfl) (by kernel_rfl) (by rfl) (fun _ _ _ h => h) (Or.inl ⟨by rfl, ?r17bxy4⟩) (by assumption) ?r17bxr4
                case r17bxy4 => intro w' hSw; obtain ⟨_, q3⟩ := hSw; go_simp; (try with_reducible rfl)
                case' r17bxr4 => simp only [Act.put, List.setIfInBounds_toArray, List.set_cons_zero, List.set_cons_succ]
                refine takeP (i := 5) (d := 169) (v := ?r17bxv5) rfl (by rfl) (by kernel_rfl) (by kernel_rfl) (by kernel_rfl) (by rfl) (fun _ _ _ h => h) (Or.inl ⟨by rfl, ?r17bxy5⟩) (by assumption) ?r17bxr5
                case r17bxy5 => intro w' _; go_simp; (try with_reducible rfl)
                case' r17bxr5 => simp only [Act.put, List.setIfInBounds_toArray, List.set_cons_zero, List.set_cons_succ]
                refine takeP (i := 6) (d := 170) (v := ?r17bxv6) rfl (by rfl) (by kernel_rfl) (by kernel_rfl) (by kernel_rfl) (by rfl) (fun _ _ _ h => h) (Or.inl ⟨by rfl, ?r17bxy6⟩) (by assumption) ?r17bxr6
                case r17bxy6 => intro w' _; go_simp; (try with_reducible rfl)
                case' r17bxr6 => simp only [Act.put, List.setIfInBounds_toArray, List.set_cons_zero, List.set_cons_succ]
                refine takeP (i := 7) (d := 171) (v := ?r17bxv7) rfl (by rfl) (by kernel_rfl) (by kernel_rfl) (by kernel_rfl) (by rfl) (fun _ _ _ h => h) (Or.inl ⟨by rfl, ?r17bxy7⟩) (by assumption) ?r17bxr7
                case r17bxy7 => intro w' _; go_simp; (try with_reducible rfl)
                case' r17bxr7 => simp only [Act.put, List.setIfInBounds_toArray, List.set_cons_zero, List.set_cons_succ]
                refine takeL (i := 8) (d := 172) (v := ?r17bxv8) rfl (by rfl) (by kernel_rfl) (by kernel_rfl) (by kernel_rfl) (by kernel_rfl) (by rfl) (fun _ _ _ h => h) (Or.inl ⟨by rfl, ?r17bxy8⟩) (by assumption) ?r17bxr8
                case r17bxy8 => intro w' hSw; obtain ⟨_, q3⟩ := hSw; go_simp; (try with_reducible rfl)
                case' r17bxr8 => simp only [Act.put, List.setIfInBounds_toArray, List.set_cons_zero, List.set_cons_succ]
                refine takeP (i := 9) (d := 173) (v := ?r17bxv9) rfl (by rfl) (by kernel_rfl) (by kernel_rfl) (by kernel_rfl) (by rfl) (fun _ _ _ h => h) (Or.inl ⟨by rfl, ?r17bxy9⟩) (by assumption) ?r17bxr9
                case r17bxy9 => intro w' _; go_simp; (try with_reducible rfl)
                case' r17bxr9 => simp only [Act.put, List.setIfInBounds_toArray, List.set_cons_zero, List.set_cons_succ]
                refine takeP (i := 10) (d := 174) (v := ?r17bxv10) rfl (by rfl) (by kernel_rfl) (by kernel_rfl) (by kernel_rfl) (by rfl) (fun _ _ _ h => h) (Or.inl ⟨by rfl, ?r17bxy10⟩) (by assumption) ?r17bxr10
                case r17bxy10 => intro w' _; go_simp; (try with_reducible rfl)
                case' r17bxr10 => simp only [Act.put, List.setIfInBounds_toArray, List.set_cons_zero, List.set_cons_succ]
                refine takeP (i := 11) (d := 175) (v := ?r17bxv11) rfl (by rfl) (by kernel_rfl) (by kernel_rfl) (by kernel_rfl) (by rfl) (fun _ _ _ h => h) (Or.inl ⟨by rfl, ?r17bxy11⟩) (by assumption) ?r17bxr11
                case r17bxy11 => intro w' _; go_simp; (try with_reducible rfl)
                case' r17bxr11 => simp only [Act.put, List.setIfInBounds_toArray, List.set_cons_zero, List.set_cons_succ]
                refine takeP (i := 12) (d := 176) (v := ?r17bxv12) rfl (by rfl) (by kernel_rfl) (by kernel_rfl) (by kernel_rfl) (by rfl) (fun _ _ _ h => h) (Or.inl ⟨by rfl, ?r17bxy12⟩) (by assumption) ?r17bxr12
                case r17bxy12 => intro w' _; go_simp; (try with_reducible rfl)
                case' r17bxr12 => simp only [Act.put, List.setIfInBounds_toArray, List.set_cons_zero, List.set_cons_succ]
                refine takeP (i := 13) (d := 177) (v := ?r17bxv13) rfl (by rfl) (by kernel_rfl) (by kernel_rfl) (by kernel_rfl) (by rfl) (fun _ _ _ h => h) (Or.inl ⟨by rfl, ?r17bxy13⟩) (by assumption) ?r17bxr13
                case r17bxy13 => intro w' _; go_simp; (try with_reducible rfl)
                case' r17bxr13 => simp only [Act.put, List.setIfInBounds_toArray, List.set_cons_zero, List.set_cons_succ]
                refine lastL (by kernel_rfl) rfl (by kernel_rfl) (fun K hK => ?r17bxb14)
                go_simp
                refine hK.out _ _ ?r17bxz
                -- end r17
                clear hHeld
                go_upto_region 19 with (fail)
                obtain ⟨w8, hw8⟩ : ∃ w8, w8 = (((wq.setCell ⟨T, 3, none⟩ (.slice (some ⟨g1, 0, none⟩) ls cap1)).setCell ⟨ob, y, none⟩ (.bool false)).drew) := ⟨_, rfl⟩
                rw [← hw8] at HPOP HB8 HOW8 HSZ8 ⊢
                clear hw8 c3 c4 z3 hog hoz hcap1 hcap2 hcp0 hcp1 hcp2 hcp3
                have hcl9 : (I (full.drop (k + 1)).reverse).length = _ := (List.length_map _).trans HLC.out.symm
                have HCL9 := Lib.hid hcl9
                have hlc9 : (I (full.drop (k + 1)).reverse).length ≤ 4096 := by rw [hcl9]; have := HLCK.out; omega
                have HLC9 := Lib.hid hlc9
                have HO8 : Hid (w8.ownsRow wl.heap.size 3 1 _ (I (full.drop (k + 1)).reverse).length (I (full.drop (k + 1)).reverse)) := Lib.hid (by rw [hcl9]; exact HOW8.out)
                clear hcl9 hlc9
                go_wp2_with (at_builtin; go_loud (refine app_new wl.heap.size (by rfl) _ _ 25 3 (.int .i64 0) 8 (by rfl) Try.underlying25 info_int rfl _ (I (full.drop (k + 1)).reverse) (.int .i64 (y : Int)) (by rfl) _ (by rfl) rfl rfl HO8.out HSZ8.out (by have := HLC9.out; omega) (by have := HLC9.out; omega) ?_; intro v5 w5 ho5 hg5 hb5 hs5; obtain ⟨X5, d5, rfl, _, _⟩ := own_rowS ho5; have HO5 := Lib.hid ho5; have HG5 := Lib.hid hg5; have HS5 := Lib.hid hs5; clear ho5 hg5 hb5 hs5))
                go_roundw
                case rel =>
                  have hm5 := Moves.of_grown HG5.out (M := _) (fun k e => Option.mem_toList.2 e)
                  obtain ⟨r1, r2, r3⟩ := tj_away (b := wl.heap.size) HLT.out (fun g e => by cases e; exact hg1l2) HVOB.out HRWB.out HPOP.out.1 HPOP.out.2.1 HPOP.out.2.2 hm5 (fun g hk => (HO8.out.lt g (Option.mem_toList.1 hk)).1)
                  refine ⟨k, by omega, ?_, by rw [← HLS.out]; exact r1, by have h := r2; simp only [HON.out] at h; exact h, by rw [← HLS.out]; exact r3, HB8.out.grown HG5.out HB8.out.size (fun g hk => by have := (HO8.out.lt g hk).1; have := HB1L.out.size; omega), by have := HS5.out; have := HSZ8.out; omega⟩
                  rw [HDR.out, List.length_append, List.length_singleton, show I ((full.drop (k + 1)).reverse ++ [(y : Int)]) = I (full.drop (k + 1)).reverse ++ [.int .i64 (y : Int)] from List.map_append]
                  have e : (I (full.drop (k + 1)).reverse).length = (full.drop (k + 1)).reverse.length := List.length_map _
                  rw [← e]
                  first | exact HO5.out | (have e9 : q.length - k + 1 = (I (full.drop (k + 1)).reverse).length + 1 := (by rw [List.length_map, List.length_reverse, List.length_drop, HFL.out]; try omega); rw [e9]; exact HO5.out)
                case measure =>
                  have := HCL9.out
                  have := HLCK.out
                  simp only [lenV]
                  omega
end Go.Proofs.Ytpdfcffeinbcaaa
