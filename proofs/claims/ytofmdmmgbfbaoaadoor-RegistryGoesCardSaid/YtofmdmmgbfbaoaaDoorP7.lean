/- The document's Add; Add where a registry is frozen. -/
import Derived.Test.YtofmdmmgbfbaoaaDoorP2
namespace Go.Proofs.YtofmdmmgbfbaoaaDoor
open Go.RowKit Go.Maps Go.ChangeMaps Go.WideShapes

theorem add_fz (w : World) (base rb mb : Nat) (v : Value) (rs : List PRow) (p : XProv) (A : Option Addr) (c : Nat) (h : RegF w base rb mb v rs true) :
    Calls Tryd.prog 8 #[.pointer (some ⟨rb, 0, none⟩), p.val A c] w fun e w' => e = .returned (.tuple #[.int .i64 0, .int .i64 7]) ∧ Below w.heap.size w w' := by
  have hal : ∀ o, Below w.heap.size w (w.alloc o) := fun o => (Below.refl _ _).alloc (Nat.le_refl _) o
  have q2 := fun o => (h.below (hal o)).c2
  have HAL := Lib.hid hal
  clear hal h
  obtain ⟨n, es, ag, p1, p2, p3, p4, ck, ct⟩ := p
  simp only [XProv.val]
  go_enter Tryd.func8, Tryd.ntmps8
  go_wp2
  go_ret2
  exact ⟨rfl, HAL.out _⟩
/-- The answer of the document's Add. -/
def raddAns (fz : Bool) (N : List ByteArray) (p : XProv) : Int × Int := if fz = true then (0, 7) else addAns N p
/-- What the document's Add leaves where it is refused. -/
def RAddNo (V : Option Addr) (n c : Nat) (fz : Bool) (a : Int) (w : World) (e : Ending) (w' : World) : Prop := e = .returned (.tuple #[.agg #[.slice V n c, .bool fz], .int .i64 0, .int .i64 a]) ∧ Below w.heap.size w w'
/-- A provider in nine cells of its own block. -/
def Nine (W : World) (b : Nat) (r : PRow) : Prop := W.cell? ⟨b, 0, none⟩ = some (.string r.p.name) ∧ W.cell? ⟨b, 1, none⟩ = some (.slice r.A r.p.expr.length r.c) ∧ W.cell? ⟨b, 2, none⟩ = some (.bool r.p.again) ∧ W.cell? ⟨b, 3, none⟩ = some (.int .i64 r.p.p1) ∧ W.cell? ⟨b, 4, none⟩ = some (.int .i64 r.p.p2) ∧ W.cell? ⟨b, 5, none⟩ = some (.int .i64 r.p.p3) ∧ W.cell? ⟨b, 6, none⟩ = some (.int .i64 r.p.p4) ∧ W.cell? ⟨b, 7, none⟩ = some (.int .i64 r.p.ck) ∧ W.cell? ⟨b, 8, none⟩ = some (.string r.p.ct)
theorem Nine.same {w w' : World} {b : Nat} {r : PRow} (h : Nine w b r) (hk : ∀ o, w'.cell? ⟨b, o, none⟩ = w.cell? ⟨b, o, none⟩) : Nine w' b r := by
  unfold Nine at *
  simp only [hk]
  exact h
/-- What stands in the document's Add. -/
def RS (w : World) (V : Option Addr) (N cy : Nat) (fz : Bool) (r : PRow) (W : World) : Prop := Below w.heap.size w W ∧ w.heap.size + 1 + 1 < W.heap.size ∧ W.cell? ⟨w.heap.size, 0, none⟩ = some (.slice V N cy) ∧ W.cell? ⟨w.heap.size, 1, none⟩ = some (.bool fz) ∧ Nine W (w.heap.size + 1) r
/-- .. and the place of its answer. -/
def RT (w : World) (W : World) : Prop := W.cell? ⟨w.heap.size + 1 + 1, 0, none⟩ = some (.slice none 0 0) ∧ W.cell? ⟨w.heap.size + 1 + 1, 1, none⟩ = some (.bool false) ∧ W.frozen? ⟨w.heap.size + 1 + 1, 0, none⟩ = false ∧ W.frozen? ⟨w.heap.size + 1 + 1, 1, none⟩ = false
theorem RS.below {w W W' : World} {V : Option Addr} {N cy : Nat} {fz : Bool} {r : PRow} (h : RS w V N cy fz r W) (hb : Below W.heap.size W W') : RS w V N cy fz r W' := by
  obtain ⟨h1, h2, h3, h4, h5⟩ := h
  exact ⟨h1.trans (hb.mono (by omega)), Nat.lt_of_lt_of_le h2 hb.size, (hb.cell (p := ⟨w.heap.size, 0, none⟩) (show w.heap.size < W.heap.size by omega)).trans h3, (hb.cell (p := ⟨w.heap.size, 1, none⟩) (show w.heap.size < W.heap.size by omega)).trans h4, h5.same fun o => hb.cell (p := ⟨w.heap.size + 1, o, none⟩) (show w.heap.size + 1 < W.heap.size by omega)⟩
theorem RS.drew {w W : World} {V : Option Addr} {N cy : Nat} {fz : Bool} {r : PRow} (h : RS w V N cy fz r W) : RS w V N cy fz r W.drew := h.below (Below.refl _ _).drew
theorem RS.alloc {w W : World} {V : Option Addr} {N cy : Nat} {fz : Bool} {r : PRow} (h : RS w V N cy fz r W) (o : Obj) : RS w V N cy fz r (W.alloc o) := h.below ((Below.refl _ _).alloc (Nat.le_refl _) _)
theorem RS.set {w W : World} {V : Option Addr} {N cy : Nat} {fz : Bool} {r : PRow} (h : RS w V N cy fz r W) (o : Nat) (u : Value) : RS w V N cy fz r (W.setCell ⟨w.heap.size + 1 + 1, o, none⟩ u) := by
  obtain ⟨h1, h2, h3, h4, h5⟩ := h
  refine ⟨h1.setCell (by show w.heap.size ≤ w.heap.size + 1 + 1; omega) _, by simpa [World.setCell] using h2, ?_, ?_, h5.same fun o => World.cell?_setCell_far _ _ _ _ (by simp <;> omega)⟩
  · rw [World.cell?_setCell_far _ _ _ _ (by simp <;> omega)]; exact h3
  · rw [World.cell?_setCell_far _ _ _ _ (by simp <;> omega)]; exact h4
theorem RT.below {w W W' : World} (h : RT w W) (hw : w.heap.size + 1 + 1 < W.heap.size) (hb : Below W.heap.size W W') : RT w W' := by
  obtain ⟨h1, h2, h3, h4⟩ := h
  exact ⟨(hb.cell (p := ⟨w.heap.size + 1 + 1, 0, none⟩) hw).trans h1, (hb.cell (p := ⟨w.heap.size + 1 + 1, 1, none⟩) hw).trans h2, (hb.frozen (p := ⟨w.heap.size + 1 + 1, 0, none⟩) hw).trans h3, (hb.frozen (p := ⟨w.heap.size + 1 + 1, 1, none⟩) hw).trans h4⟩
theorem rs_start (w : World) (V : Option Addr) (N cy : Nat) (fz : Bool) (nm : ByteArray) (es : List XOp) (ag : Bool) (p1 p2 p3 p4 ck : Int) (ct : ByteArray) (A : Option Addr) (c : Nat) (t1 t2 t3 : TypeId) (W : World) (hW : W = ((w.alloc (.cells #[.slice V N cy, .bool fz] t1)).alloc (.cells #[.string nm, .slice A es.length c, .bool ag, .int .i64 p1, .int .i64 p2, .int .i64 p3, .int .i64 p4, .int .i64 ck, .string ct] t2)).alloc (.cells #[.slice none 0 0, .bool false] t3)) :
    RS w V N cy fz ⟨⟨nm, es, ag, p1, p2, p3, p4, ck, ct⟩, A, c⟩ W ∧ RT w W := by
  subst hW
  refine ⟨⟨(((Below.refl _ _).alloc (Nat.le_refl _) _).alloc (by simp) _).alloc (by simp <;> omega) _, by simp only [al_size]; omega, by go_simp, by go_simp, ?_⟩, ?_⟩
  · refine ⟨?_, ?_, ?_, ?_, ?_, ?_, ?_, ?_, ?_⟩ <;> go_simp
  · refine ⟨?_, ?_, ?_, ?_⟩ <;> go_simp
set_option maxHeartbeats 4000000 in
set_option maxRecDepth 100000 in
theorem radd_no (ys : List PRow) (V : Option Addr) (cy : Nat) (fz : Bool) (p : XProv) (A : Option Addr) (c : Nat) (w : World) (hy : ProvsAt w V ys) (hl : ys.length ≤ 256) (hp : ProvAt w A p) (hno : (raddAns fz (namesL ys) p).2 ≠ 0) :
    Calls Tryd.prog 26 #[.agg #[.slice V ys.length cy, .bool fz], p.val A c] w (RAddNo V ys.length cy fz (raddAns fz (namesL ys) p).2 w) := by
  have hcp := fun W (hb : Below w.heap.size w W) => checkProvR_c p A c W (hp.below hb)
  have hfi := fun W (hb : Below w.heap.size w W) => refFind_c ys V cy fz p.name W (hy.below hb) hl
  generalize hA : (raddAns fz (namesL ys) p).2 = ans at *
  have hcs : (fz = true ∧ ans = 7) ∨ (fz = false ∧ provF p ≠ 0 ∧ ans = provF p) ∨ (fz = false ∧ provF p = 0 ∧ memB p.name (namesL ys) = true ∧ ans = 6) ∨ (fz = false ∧ provF p = 0 ∧ memB p.name (namesL ys) = false ∧ 256 ≤ ys.length ∧ ans = 3) := by
    unfold raddAns addAns at hA
    rw [namesL_length] at hA
    cases fz
    · by_cases h0 : provF p = 0
      · cases hM : memB p.name (namesL ys)
        · by_cases h3 : 256 ≤ ys.length
          · rw [hM] at hA; simp [h0, h3] at hA; exact .inr (.inr (.inr ⟨rfl, h0, rfl, h3, hA.symm⟩))
          · rw [hM] at hA; simp [h0, h3] at hA; exact absurd hA.symm hno
        · rw [hM] at hA; simp [h0] at hA; exact .inr (.inr (.inl ⟨rfl, h0, rfl, hA.symm⟩))
      · simp [h0] at hA; exact .inr (.inl ⟨rfl, h0, hA.symm⟩)
    · simp at hA; exact .inl ⟨rfl, hA.symm⟩
  have hM2 : memB p.name (namesL ys) = false → (findAns (namesL ys) p.name).2 = 4 := by intro h; unfold findAns; rw [h]; rfl
  have hM1 : memB p.name (namesL ys) = true → (findAns (namesL ys) p.name).2 = 0 := by intro h; unfold findAns; rw [h]; rfl
  obtain ⟨nm, es, ag, p1, p2, p3, p4, ck, ct⟩ := p
  simp only [XProv.val] at *
  generalize (findAns (namesL ys) nm).1 = f1 at *
  generalize (findAns (namesL ys) nm).2 = f2 at *
  generalize memB nm (namesL ys) = mem at *
  generalize hpF : provF ⟨nm, es, ag, p1, p2, p3, p4, ck, ct⟩ = pF at *
  generalize hN : ys.length = N at *
  have HS := rs_start w V N cy fz nm es ag p1 p2 p3 p4 ck ct A c 48 36 48 _ rfl
  have R0 := Lib.hid HS.1
  have T0 := Lib.hid HS.2
  have HCP := Lib.hid hcp
  have HFI := Lib.hid hfi
  have HM1 := Lib.hid hM1
  have HM2 := Lib.hid hM2
  clear HS hcp hfi hM1 hM2 hy hp hpF hN hA
  have hfin : ∀ W, RS w V N cy fz ⟨⟨nm, es, ag, p1, p2, p3, p4, ck, ct⟩, A, c⟩ W → RT w W → ∀ x y, ((W.setCell ⟨w.heap.size + 1 + 1, 0, none⟩ x).setCell ⟨w.heap.size + 1 + 1, 1, none⟩ y).cell? ⟨w.heap.size + 1 + 1, 0, none⟩ = some x ∧ ((W.setCell ⟨w.heap.size + 1 + 1, 0, none⟩ x).setCell ⟨w.heap.size + 1 + 1, 1, none⟩ y).cell? ⟨w.heap.size + 1 + 1, 1, none⟩ = some y := fun W _ h2 x y => two_set h2.1 h2.2.1
  have HFN := Lib.hid hfin
  clear hfin
  rcases hcs with ⟨rfl, rfl⟩ | ⟨rfl, h0, rfl⟩ | ⟨rfl, rfl, rfl, rfl⟩ | ⟨rfl, rfl, rfl, h3, rfl⟩
  · go_enter Tryd.func26, Tryd.ntmps26
    go_wp2
    have c0 : (((w.alloc (.cells #[.slice V N cy, .bool true] 48)).alloc (.cells #[.string nm, .slice A es.length c, .bool ag, .int .i64 p1, .int .i64 p2, .int .i64 p3, .int .i64 p4, .int .i64 ck, .string ct] 36)).alloc (.cells #[.slice V N cy, .bool true] 48)).cell? ⟨w.heap.size + 1 + 1, 0, none⟩ = some (.slice V N cy) := by go_simp
    have c1 : (((w.alloc (.cells #[.slice V N cy, .bool true] 48)).alloc (.cells #[.string nm, .slice A es.length c, .bool ag, .int .i64 p1, .int .i64 p2, .int .i64 p3, .int .i64 p4, .int .i64 ck, .string ct] 36)).alloc (.cells #[.slice V N cy, .bool true] 48)).cell? ⟨w.heap.size + 1 + 1, 1, none⟩ = some (.bool true) := by go_simp
    have hb : Below w.heap.size w (((w.alloc (.cells #[.slice V N cy, .bool true] 48)).alloc (.cells #[.string nm, .slice A es.length c, .bool ag, .int .i64 p1, .int .i64 p2, .int .i64 p3, .int .i64 p4, .int .i64 ck, .string ct] 36)).alloc (.cells #[.slice V N cy, .bool true] 48)) := (((Below.refl _ _).alloc (Nat.le_refl _) _).alloc (by simp) _).alloc (by simp <;> omega) _
    generalize (((w.alloc (.cells #[.slice V N cy, .bool true] 48)).alloc (.cells #[.string nm, .slice A es.length c, .bool ag, .int .i64 p1, .int .i64 p2, .int .i64 p3, .int .i64 p4, .int .i64 ck, .string ct] 36)).alloc (.cells #[.slice V N cy, .bool true] 48)) = wf at c0 c1 hb ⊢
    generalize hb4 : w.heap.size + 1 + 1 = b4
    have c0' : wf.cell? ⟨b4, 0, none⟩ = some (.slice V N cy) := by rw [← hb4]; exact c0
    have c1' : wf.cell? ⟨b4, 1, none⟩ = some (.bool true) := by rw [← hb4]; exact c1
    refine bodyPost_ret (v := .tuple #[.agg #[.slice V N cy, .bool true], .int .i64 0, .int .i64 7]) (by simp [results, Tryd.results26, go_sem, c0', c1']; try rfl) rfl ?_
    exact ⟨rfl, hb⟩
  · have b0 : (ans != 0) = true := by simpa using h0
    go_enter Tryd.func26, Tryd.ntmps26
    go_wp2_with (go_at_call 38; refine (HCP.out _ R0.out.1).mono ?_; rintro e w1 ⟨rfl, hb1⟩; have R1 := R0.out.below hb1; have T1 := T0.out.below R0.out.2.1 hb1; have HR1 := Lib.hid R1; have HT1 := Lib.hid T1; obtain ⟨_, _, a0, a1, r0, r1, r2, r3, r4, r5, r6, r7, r8⟩ := R1; obtain ⟨e0, e1, f0, f1⟩ := T1; clear hb1)
    obtain ⟨c0, c1⟩ := HFN.out _ HR1.out HT1.out (.slice V N cy) (.bool false)
    have hb := ((HR1.out.set 0 (.slice V N cy)).set 1 (.bool false)).1
    generalize hwf : ((w1).setCell ⟨w.heap.size + 1 + 1, 0, none⟩ (.slice V N cy)).setCell ⟨w.heap.size + 1 + 1, 1, none⟩ (.bool false) = wf at c0 c1 hb
    generalize hb4 : w.heap.size + 1 + 1 = b4
    have c0' : wf.cell? ⟨b4, 0, none⟩ = some (.slice V N cy) := by rw [← hb4]; exact c0
    have c1' : wf.cell? ⟨b4, 1, none⟩ = some (.bool false) := by rw [← hb4]; exact c1
    refine bodyPost_ret (v := .tuple #[.agg #[.slice V N cy, .bool false], .int .i64 0, .int .i64 ans]) (by simp [results, Tryd.results26, go_sem, c0', c1']; try rfl) rfl ?_
    exact ⟨rfl, hb⟩
  · have hf2 := HM1.out rfl
    subst hf2
    go_enter Tryd.func26, Tryd.ntmps26
    go_wp2_with (first | (go_at_call 38; refine (HCP.out _ R0.out.1).mono ?_; rintro e w1 ⟨rfl, hb1⟩; have R1 := R0.out.below hb1; have T1 := T0.out.below R0.out.2.1 hb1; have HR1 := Lib.hid R1; have HT1 := Lib.hid T1; obtain ⟨_, _, a0, a1, r0, r1, r2, r3, r4, r5, r6, r7, r8⟩ := R1; obtain ⟨e0, e1, f0, f1⟩ := T1; clear hb1) | (go_at_call 39; refine (HFI.out _ HR1.out.1).mono ?_; rintro e w2 ⟨rfl, hb2⟩; clear a0 a1 r0 r1 r2 r3 r4 r5 r6 r7 r8 e0 e1 f0 f1; have R2 := HR1.out.below hb2; have T2 := HT1.out.below HR1.out.2.1 hb2; have HR2 := Lib.hid R2; have HT2 := Lib.hid T2; obtain ⟨_, _, a0, a1, r0, r1, r2, r3, r4, r5, r6, r7, r8⟩ := R2; obtain ⟨e0, e1, f0, f1⟩ := T2; clear hb2))
    obtain ⟨c0, c1⟩ := HFN.out _ HR2.out HT2.out (.slice V N cy) (.bool false)
    have hb := ((HR2.out.set 0 (.slice V N cy)).set 1 (.bool false)).1
    generalize hwf : ((w2).setCell ⟨w.heap.size + 1 + 1, 0, none⟩ (.slice V N cy)).setCell ⟨w.heap.size + 1 + 1, 1, none⟩ (.bool false) = wf at c0 c1 hb
    generalize hb4 : w.heap.size + 1 + 1 = b4
    have c0' : wf.cell? ⟨b4, 0, none⟩ = some (.slice V N cy) := by rw [← hb4]; exact c0
    have c1' : wf.cell? ⟨b4, 1, none⟩ = some (.bool false) := by rw [← hb4]; exact c1
    refine bodyPost_ret (v := .tuple #[.agg #[.slice V N cy, .bool false], .int .i64 0, .int .i64 6]) (by simp [results, Tryd.results26, go_sem, c0', c1']; try rfl) rfl ?_
    exact ⟨rfl, hb⟩
  · have hf2 := HM2.out rfl
    subst hf2
    have hi3 : (256 : Int) ≤ (N : Int) := by omega
    go_enter Tryd.func26, Tryd.ntmps26
    go_wp2_with (first | (go_at_call 38; refine (HCP.out _ R0.out.1).mono ?_; rintro e w1 ⟨rfl, hb1⟩; have R1 := R0.out.below hb1; have T1 := T0.out.below R0.out.2.1 hb1; have HR1 := Lib.hid R1; have HT1 := Lib.hid T1; obtain ⟨_, _, a0, a1, r0, r1, r2, r3, r4, r5, r6, r7, r8⟩ := R1; obtain ⟨e0, e1, f0, f1⟩ := T1; clear hb1) | (go_at_call 39; refine (HFI.out _ HR1.out.1).mono ?_; rintro e w2 ⟨rfl, hb2⟩; clear a0 a1 r0 r1 r2 r3 r4 r5 r6 r7 r8 e0 e1 f0 f1; have R2 := HR1.out.below hb2; have T2 := HT1.out.below HR1.out.2.1 hb2; have HR2 := Lib.hid R2; have HT2 := Lib.hid T2; obtain ⟨_, _, a0, a1, r0, r1, r2, r3, r4, r5, r6, r7, r8⟩ := R2; obtain ⟨e0, e1, f0, f1⟩ := T2; clear hb2))
    obtain ⟨c0, c1⟩ := HFN.out _ HR2.out HT2.out (.slice V N cy) (.bool false)
    have hb := ((HR2.out.set 0 (.slice V N cy)).set 1 (.bool false)).1
    generalize hwf : ((w2).setCell ⟨w.heap.size + 1 + 1, 0, none⟩ (.slice V N cy)).setCell ⟨w.heap.size + 1 + 1, 1, none⟩ (.bool false) = wf at c0 c1 hb
    generalize hb4 : w.heap.size + 1 + 1 = b4
    have c0' : wf.cell? ⟨b4, 0, none⟩ = some (.slice V N cy) := by rw [← hb4]; exact c0
    have c1' : wf.cell? ⟨b4, 1, none⟩ = some (.bool false) := by rw [← hb4]; exact c1
    refine bodyPost_ret (v := .tuple #[.agg #[.slice V N cy, .bool false], .int .i64 0, .int .i64 3]) (by simp [results, Tryd.results26, go_sem, c0', c1']; try rfl) rfl ?_
    exact ⟨rfl, hb⟩
end Go.Proofs.YtofmdmmgbfbaoaaDoor
