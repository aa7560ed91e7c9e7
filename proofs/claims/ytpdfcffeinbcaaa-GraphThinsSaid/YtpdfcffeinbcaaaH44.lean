/- Tarjan's struct in memory. -/
import Derived.Test.YtpdfcffeinbcaaaH43
import Derived.Test.YtpdfcffeinbcaaaM1
namespace Go.Proofs.Ytpdfcffeinbcaaa
open Go.RowKit
/-- What lies in memory: the numbers, the least seen, the stack, who is on it, how many, what is told. -/
structure TM where
  idx : Int → Int
  low : Int → Int
  stk : List Int
  on : Int → Bool
  n : Nat
  out : List (List Int)
/-- .. of a state. -/
def TJ.tm (s : TJ) : TM := ⟨s.idx, s.low, s.stk, fun x => decide (x ∈ s.stk), s.n, s.out⟩
/-- The struct's cells. -/
structure TjC (T ib lo ob n : Nat) (V vs vo : Value) (k : Nat) (w : World) : Prop where
  c0 : w.cell? ⟨T, 0, none⟩ = some V
  c1 : w.cell? ⟨T, 1, none⟩ = some (.slice (some ⟨ib, 0, none⟩) n n)
  c2 : w.cell? ⟨T, 2, none⟩ = some (.slice (some ⟨lo, 0, none⟩) n n)
  c3 : w.cell? ⟨T, 3, none⟩ = some vs
  c4 : w.cell? ⟨T, 4, none⟩ = some (.slice (some ⟨ob, 0, none⟩) n n)
  c5 : w.cell? ⟨T, 5, none⟩ = some (.int .i64 k)
  c6 : w.cell? ⟨T, 6, none⟩ = some vo
  z : ∀ j, w.frozen? ⟨T, j, none⟩ = false
/-- The three rows of numbers and flags. -/
structure TjN (ib lo ob n : Nat) (m : TM) (w : World) : Prop where
  idx : NumAt w ib n fun i => m.idx i
  low : NumAt w lo n fun i => m.low i
  on : FlagAt w ob n fun i => m.on i
/-- The rows of one's own: the stack, what is told. -/
structure TjO (B : Nat) (F : List Nat) (vs vo : Value) (rows : List Value) (stk : List Int) (out : List (List Int)) (w : World) : Prop where
  ost : w.ownsRow B 3 1 vs stk.length (I stk)
  oout : w.ownsRow B 25 1 vo rows.length rows
  len : rows.length = out.length
  row : ∀ k (h : k < rows.length) (h2 : k < out.length), w.ownsRow B 3 1 rows[k] out[k].length (I out[k]) ∧ ∀ g, rows[k].ownBlock = some g → g ∉ F ∧ vs.ownBlock ≠ some g ∧ vo.ownBlock ≠ some g
  seps : ∀ g, vs.ownBlock = some g → g ∉ F
  sepo : ∀ g, vo.ownBlock = some g → g ∉ F ∧ vs.ownBlock ≠ some g
/-- Where all lies. -/
structure TjS (B T ib lo ob : Nat) : Prop where
  bT : B ≤ T
  bI : B ≤ ib
  bL : B ≤ lo
  bO : B ≤ ob
  ti : T ≠ ib
  tl : T ≠ lo
  tO : T ≠ ob
  il : ib ≠ lo
  io : ib ≠ ob
  lO : lo ≠ ob
def TjAt (B T ib lo ob n : Nat) (V : Value) (w : World) (m : TM) : Prop :=
  ∃ vs vo rows, TjC T ib lo ob n V vs vo m.n w ∧ TjN ib lo ob n m w ∧ TjO B [T, ib, lo, ob] vs vo rows m.stk m.out w
/-- How many a slice holds. -/
def lenV : Value → Nat
  | .slice _ n _ => n
  | _ => 0
section
variable {B T ib lo ob n k : Nat} {V vs vo : Value} {w w' : World} {m : TM} {F M : List Nat} {rows : List Value} {stk : List Int} {out : List (List Int)}
theorem TjC.lt (h : TjC T ib lo ob n V vs vo k w) : T < w.heap.size := World.block_lt_of_cell? w _ h.c0
theorem TjC.moves (h : TjC T ib lo ob n V vs vo k w) (hm : Moves M w w') (hT : T ∉ M) : TjC T ib lo ob n V vs vo k w' :=
  have l := h.lt
  ⟨(hm.cell l hT _).trans h.c0, (hm.cell l hT _).trans h.c1, (hm.cell l hT _).trans h.c2, (hm.cell l hT _).trans h.c3, (hm.cell l hT _).trans h.c4, (hm.cell l hT _).trans h.c5, (hm.cell l hT _).trans h.c6, fun j => (hm.frozen l hT j).trans (h.z j)⟩
theorem TjC.set5 (h : TjC T ib lo ob n V vs vo k w) (q : Nat) : TjC T ib lo ob n V vs vo q (w.setCell ⟨T, 5, none⟩ (.int .i64 q)) :=
  ⟨(set_far _ _ _ _ _ (by omega)).trans h.c0, (set_far _ _ _ _ _ (by omega)).trans h.c1, (set_far _ _ _ _ _ (by omega)).trans h.c2, (set_far _ _ _ _ _ (by omega)).trans h.c3, (set_far _ _ _ _ _ (by omega)).trans h.c4, set_here _ _ _ _ _ h.c5, (set_far _ _ _ _ _ (by omega)).trans h.c6, fun j => by rw [World.frozen?_setCell]; exact h.z j⟩
theorem TjC.set3 (h : TjC T ib lo ob n V vs vo k w) (u : Value) : TjC T ib lo ob n V u vo k (w.setCell ⟨T, 3, none⟩ u) :=
  ⟨(set_far _ _ _ _ _ (by omega)).trans h.c0, (set_far _ _ _ _ _ (by omega)).trans h.c1, (set_far _ _ _ _ _ (by omega)).trans h.c2, set_here _ _ _ _ _ h.c3, (set_far _ _ _ _ _ (by omega)).trans h.c4, (set_far _ _ _ _ _ (by omega)).trans h.c5, (set_far _ _ _ _ _ (by omega)).trans h.c6, fun j => by rw [World.frozen?_setCell]; exact h.z j⟩
theorem TjC.set6 (h : TjC T ib lo ob n V vs vo k w) (u : Value) : TjC T ib lo ob n V vs u k (w.setCell ⟨T, 6, none⟩ u) :=
  ⟨(set_far _ _ _ _ _ (by omega)).trans h.c0, (set_far _ _ _ _ _ (by omega)).trans h.c1, (set_far _ _ _ _ _ (by omega)).trans h.c2, (set_far _ _ _ _ _ (by omega)).trans h.c3, (set_far _ _ _ _ _ (by omega)).trans h.c4, (set_far _ _ _ _ _ (by omega)).trans h.c5, set_here _ _ _ _ _ h.c6, fun j => by rw [World.frozen?_setCell]; exact h.z j⟩
theorem TjN.moves (h : TjN ib lo ob n m w) (hm : Moves M w w') (h1 : ib ∉ M) (h2 : lo ∉ M) (h3 : ob ∉ M) : TjN ib lo ob n m w' := ⟨h.idx.moves hm h1, h.low.moves hm h2, h.on.moves hm h3⟩
theorem TjO.moves (h : TjO B F vs vo rows stk out w) (hm : Moves M w w') (h1 : ∀ g, vs.ownBlock = some g → g ∉ M) (h2 : ∀ g, vo.ownBlock = some g → g ∉ M) (h3 : ∀ k (h : k < rows.length) g, rows[k].ownBlock = some g → g ∉ M) : TjO B F vs vo rows stk out w' :=
  ⟨own_mv h.ost hm h1, own_mv h.oout hm h2, h.len, fun k l l2 => ⟨own_mv (h.row k l l2).1 hm (h3 k l), (h.row k l l2).2⟩, h.seps, h.sepo⟩
/-- What moves but the struct and its three rows. -/
theorem TjO.fixed (h : TjO B F vs vo rows stk out w) (hm : Moves M w w') (hM : ∀ k ∈ M, k ∈ F) : TjO B F vs vo rows stk out w' :=
  h.moves hm (fun g e hk => h.seps g e (hM g hk)) (fun g e hk => (h.sepo g e).1 (hM g hk)) (fun k l g e hk => ((h.row k l (by have := h.len; omega)).2 g e).1 (hM g hk))
theorem TjAt.drewN (q : Nat) (h : TjAt B T ib lo ob n V w m) : TjAt B T ib lo ob n V (w.drewN q) m := by
  obtain ⟨vs, vo, rows, h1, h2, h3⟩ := h
  exact ⟨vs, vo, rows, ⟨h1.c0, h1.c1, h1.c2, h1.c3, h1.c4, h1.c5, h1.c6, h1.z⟩, ⟨h2.idx.drewN q, h2.low.drewN q, h2.on.drewN q⟩, ⟨h3.ost, h3.oout, h3.len, h3.row, h3.seps, h3.sepo⟩⟩
/-- The count is another. -/
theorem TjAt.setN (hS : TjS B T ib lo ob) (h : TjAt B T ib lo ob n V w m) (q : Nat) : TjAt B T ib lo ob n V (w.setCell ⟨T, 5, none⟩ (.int .i64 q)) { m with n := q } := by
  obtain ⟨vs, vo, rows, h1, h2, h3⟩ := h
  have hm := Moves.set (M := [T]) w ⟨T, 5, none⟩ (.int .i64 q) (by simp)
  have t := hS.ti; have t2 := hS.tl; have t3 := hS.tO
  have h2' := h2.moves hm (by simpa using fun e => t e.symm) (by simpa using fun e => t2 e.symm) (by simpa using fun e => t3 e.symm)
  exact ⟨vs, vo, rows, h1.set5 q, ⟨h2'.idx, h2'.low, h2'.on⟩, h3.fixed hm (by simp)⟩
theorem num_set {b x : Nat} {f : Int → Int} {y : Int} (h : NumAt w b n fun i => f i) (hx : x < n) : NumAt (w.setCell ⟨b, x, none⟩ (.int .i64 y)) b n fun i => setI f x y i :=
  h.put hx fun i _ => by
    unfold setI
    by_cases e : i = x
    · subst e; simp
    · rw [if_neg (by omega), if_neg e]
def setB (f : Int → Bool) (v : Int) (x : Bool) : Int → Bool := fun i => if i = v then x else f i
theorem flag_set {b x : Nat} {f : Int → Bool} {y : Bool} (h : FlagAt w b n fun i => f i) (hx : x < n) : FlagAt (w.setCell ⟨b, x, none⟩ (.bool y)) b n fun i => setB f x y i :=
  h.put hx fun i _ => by
    unfold setB
    by_cases e : i = x
    · subst e; simp
    · rw [if_neg (by omega), if_neg e]
theorem TjAt.setIdx (hS : TjS B T ib lo ob) (h : TjAt B T ib lo ob n V w m) {x : Nat} (hx : x < n) (y : Int) : TjAt B T ib lo ob n V (w.setCell ⟨ib, x, none⟩ (.int .i64 y)) { m with idx := setI m.idx x y } := by
  obtain ⟨vs, vo, rows, h1, h2, h3⟩ := h
  have hm := Moves.set (M := [ib]) w ⟨ib, x, none⟩ (.int .i64 y) (by simp)
  have t := hS.ti; have t2 := hS.il; have t3 := hS.io
  exact ⟨vs, vo, rows, h1.moves hm (by simpa using t), ⟨num_set h2.idx hx, h2.low.moves hm (by simpa using fun e => t2 e.symm), h2.on.moves hm (by simpa using fun e => t3 e.symm)⟩, h3.fixed hm (by simp)⟩
theorem TjAt.setLow (hS : TjS B T ib lo ob) (h : TjAt B T ib lo ob n V w m) {x : Nat} (hx : x < n) (y : Int) : TjAt B T ib lo ob n V (w.setCell ⟨lo, x, none⟩ (.int .i64 y)) { m with low := setI m.low x y } := by
  obtain ⟨vs, vo, rows, h1, h2, h3⟩ := h
  have hm := Moves.set (M := [lo]) w ⟨lo, x, none⟩ (.int .i64 y) (by simp)
  have t := hS.tl; have t2 := hS.il; have t3 := hS.lO
  exact ⟨vs, vo, rows, h1.moves hm (by simpa using t), ⟨h2.idx.moves hm (by simpa using t2), num_set h2.low hx, h2.on.moves hm (by simpa using fun e => t3 e.symm)⟩, h3.fixed hm (by simp)⟩
theorem TjAt.setOn (hS : TjS B T ib lo ob) (h : TjAt B T ib lo ob n V w m) {x : Nat} (hx : x < n) (y : Bool) : TjAt B T ib lo ob n V (w.setCell ⟨ob, x, none⟩ (.bool y)) { m with on := setB m.on x y } := by
  obtain ⟨vs, vo, rows, h1, h2, h3⟩ := h
  have hm := Moves.set (M := [ob]) w ⟨ob, x, none⟩ (.bool y) (by simp)
  have t := hS.tO; have t2 := hS.io; have t3 := hS.lO
  exact ⟨vs, vo, rows, h1.moves hm (by simpa using t), ⟨h2.idx.moves hm (by simpa using t2), h2.low.moves hm (by simpa using t3), flag_set h2.on hx⟩, h3.fixed hm (by simp)⟩
theorem TjS.all (hS : TjS B T ib lo ob) : ∀ k ∈ [T, ib, lo, ob], B ≤ k := by
  intro k hk
  simp at hk
  rcases hk with rfl | rfl | rfl | rfl
  · exact hS.bT
  · exact hS.bI
  · exact hS.bL
  · exact hS.bO
theorem tj_lt (h1 : TjC T ib lo ob n V vs vo k w) (h2 : TjN ib lo ob n m w) : ∀ x ∈ [T, ib, lo, ob], x < w.heap.size := by
  intro x hx
  simp at hx
  rcases hx with rfl | rfl | rfl | rfl
  · exact h1.lt
  · exact h2.idx.1
  · exact h2.low.1
  · exact h2.on.1
theorem tj_push (hS : TjS B T ib lo ob) (h1 : TjC T ib lo ob n V vs vo m.n w) (h2 : TjN ib lo ob n m w) (h3 : TjO B [T, ib, lo, ob] vs vo rows m.stk m.out w) {w1 : World} {v1 : Value} {x : Int}
    (ho : w1.ownsRow B 3 1 v1 ((I m.stk).length + 1) (I m.stk ++ [.int .i64 x])) (hg : w.grownBy w1 vs.ownBlock) (hb : ∀ g, v1.ownBlock = some g → vs.ownBlock = some g ∨ w.heap.size ≤ g) :
    TjAt B T ib lo ob n V (w1.setCell ⟨T, 3, none⟩ v1) { m with stk := m.stk ++ [x] } := by
  have hm := Moves.of_grown (M := vs.ownBlock.toList) hg (by intro k e; simp [e])
  have hM : ∀ k ∈ vs.ownBlock.toList, vs.ownBlock = some k := fun k hk => by simpa using hk
  have hlt := tj_lt h1 h2
  have hF : ∀ k ∈ [T, ib, lo, ob], k ∉ vs.ownBlock.toList := fun k hk hk2 => h3.seps k (hM k hk2) hk
  have h1' := h1.moves hm (hF T (by simp))
  have h2' := h2.moves hm (hF ib (by simp)) (hF lo (by simp)) (hF ob (by simp))
  have ho2 : w1.ownsRow B 3 1 v1 (m.stk ++ [x]).length (I (m.stk ++ [x])) := by
    rw [List.length_append, List.length_singleton, show I (m.stk ++ [x]) = I m.stk ++ [.int .i64 x] from List.map_append]
    have e : (I m.stk).length = m.stk.length := List.length_map _
    rw [e] at ho; exact ho
  have h3' : TjO B [T, ib, lo, ob] v1 vo rows (m.stk ++ [x]) m.out w1 := by
    refine ⟨ho2, own_mv h3.oout hm (fun g e hk => (h3.sepo g e).2 (hM g hk)), h3.len, fun q l l2 => ?_, fun g e hk => ?_, fun g e => ⟨(h3.sepo g e).1, fun e2 => ?_⟩⟩
    · obtain ⟨k1, k2⟩ := h3.row q l l2
      refine ⟨own_mv k1 hm (fun g e hk => (k2 g e).2.1 (hM g hk)), fun g e => ⟨(k2 g e).1, fun e2 => ?_, (k2 g e).2.2⟩⟩
      rcases hb g e2 with c | c
      · exact (k2 g e).2.1 c
      · have := (k1.lt g e).2; omega
    · rcases hb g e with c | c
      · exact h3.seps g c hk
      · have := hlt g hk; omega
    · rcases hb g e2 with c | c
      · exact (h3.sepo g e).2 c
      · have := (h3.oout.lt g e).2; omega
  have hs := Moves.set (M := [T]) w1 ⟨T, 3, none⟩ v1 (by simp)
  have d1 := h1'.set3 v1
  exact ⟨v1, vo, rows, d1, ⟨h2'.idx.moves hs (by simpa using fun e => hS.ti e.symm), h2'.low.moves hs (by simpa using fun e => hS.tl e.symm), h2'.on.moves hs (by simpa using fun e => hS.tO e.symm)⟩, h3'.fixed hs (by simp)⟩
/-- The last is taken off the stack. -/
theorem tj_cut1 (hS : TjS B T ib lo ob) {g cap l : Nat} (h1 : TjC T ib lo ob n V (.slice (some ⟨g, 0, none⟩) (l + 1) cap) vo m.n w) (h2 : TjN ib lo ob n m w) (h3 : TjO B [T, ib, lo, ob] (.slice (some ⟨g, 0, none⟩) (l + 1) cap) vo rows m.stk m.out w) {q : List Int} {x : Int} (hq : m.stk = q ++ [x]) (hl : q.length = l) :
    TjAt B T ib lo ob n V (w.setCell ⟨T, 3, none⟩ (.slice (some ⟨g, 0, none⟩) l cap)) { m with stk := q } := by
  have hs := Moves.set (M := [T]) w ⟨T, 3, none⟩ (.slice (some ⟨g, 0, none⟩) l cap) (by simp)
  have ho := h3.ost
  rw [hq, List.length_append, List.length_singleton, hl] at ho
  have ho2 := own_less ho (m := l) (by omega)
  have e : (I (q ++ [x])).take (l * 1) = I q := by rw [Nat.mul_one, show I (q ++ [x]) = I q ++ [.int .i64 x] from List.map_append, List.take_left' (by rw [List.length_map, hl])]
  rw [e] at ho2
  have h3' : TjO B [T, ib, lo, ob] (.slice (some ⟨g, 0, none⟩) l cap) vo rows q m.out w := ⟨by rw [hl]; exact ho2, h3.oout, h3.len, h3.row, h3.seps, h3.sepo⟩
  exact ⟨_, vo, rows, h1.set3 _, ⟨h2.idx.moves hs (by simpa using fun e => hS.ti e.symm), h2.low.moves hs (by simpa using fun e => hS.tl e.symm), h2.on.moves hs (by simpa using fun e => hS.tO e.symm)⟩, h3'.fixed hs (by simp)⟩
/-- One more is told. -/
theorem tj_told (hS : TjS B T ib lo ob) (h1 : TjC T ib lo ob n V vs vo m.n w) (h2 : TjN ib lo ob n m w) (h3 : TjO B [T, ib, lo, ob] vs vo rows m.stk m.out w) {w1 : World} {v1 vi : Value} {c : List Int}
    (hr : w.ownsRow B 3 1 vi c.length (I c)) (hi : ∀ g, vi.ownBlock = some g → g ∉ [T, ib, lo, ob] ∧ vs.ownBlock ≠ some g ∧ vo.ownBlock ≠ some g)
    (ho : w1.ownsRow B 25 1 v1 (rows.length + 1) (rows ++ [vi])) (hg : w.grownBy w1 vo.ownBlock) (hb : ∀ g, v1.ownBlock = some g → vo.ownBlock = some g ∨ w.heap.size ≤ g) :
    TjAt B T ib lo ob n V (w1.setCell ⟨T, 6, none⟩ v1) { m with out := m.out ++ [c] } := by
  have hm := Moves.of_grown (M := vo.ownBlock.toList) hg (by intro k e; simp [e])
  have hM : ∀ k ∈ vo.ownBlock.toList, vo.ownBlock = some k := fun k hk => by simpa using hk
  have hlt := tj_lt h1 h2
  have hF : ∀ k ∈ [T, ib, lo, ob], k ∉ vo.ownBlock.toList := fun k hk hk2 => (h3.sepo k (hM k hk2)).1 hk
  have h1' := h1.moves hm (hF T (by simp))
  have h2' := h2.moves hm (hF ib (by simp)) (hF lo (by simp)) (hF ob (by simp))
  have hle := h3.len
  have key : ∀ u (x : List Int), w.ownsRow B 3 1 u x.length (I x) → (∀ g, u.ownBlock = some g → g ∉ [T, ib, lo, ob] ∧ vs.ownBlock ≠ some g ∧ vo.ownBlock ≠ some g) → w1.ownsRow B 3 1 u x.length (I x) ∧ ∀ g, u.ownBlock = some g → g ∉ [T, ib, lo, ob] ∧ vs.ownBlock ≠ some g ∧ v1.ownBlock ≠ some g := fun u x k1 k2 =>
    ⟨own_mv k1 hm (fun g e hk => (k2 g e).2.2 (hM g hk)), fun g e => ⟨(k2 g e).1, (k2 g e).2.1, fun e2 => by
      rcases hb g e2 with c | c
      · exact (k2 g e).2.2 c
      · have := (k1.lt g e).2; omega⟩⟩
  have h3' : TjO B [T, ib, lo, ob] vs v1 (rows ++ [vi]) m.stk (m.out ++ [c]) w1 := by
    refine ⟨own_mv h3.ost hm (fun g e hk => (h3.sepo g (hM g hk)).2 e), by rw [List.length_append]; exact ho, by simp [hle], fun q l l2 => ?_, h3.seps, fun g e => ⟨fun hk => ?_, fun e2 => ?_⟩⟩
    · rcases Nat.lt_or_ge q rows.length with c1 | c1
      · have c2 : q < m.out.length := by omega
        simp only [List.getElem_append_left c1, List.getElem_append_left c2]
        obtain ⟨k1, k2⟩ := h3.row q c1 c2
        exact key _ _ k1 k2
      · have e : q = rows.length := by simp at l; omega
        have e2 : q = m.out.length := by omega
        have g1 : (rows ++ [vi])[q] = vi := by simp [e]
        have g2 : (m.out ++ [c])[q] = c := by simp [e2]
        rw [g1, g2]
        exact key _ _ hr hi
    · rcases hb g e with c1 | c1
      · exact (h3.sepo g c1).1 hk
      · have := hlt g hk; omega
    · rcases hb g e with c1 | c1
      · exact (h3.sepo g c1).2 e2
      · have := (h3.ost.lt g e2).2; omega
  have hs := Moves.set (M := [T]) w1 ⟨T, 6, none⟩ v1 (by simp)
  exact ⟨vs, v1, rows ++ [vi], h1'.set6 v1, ⟨h2'.idx.moves hs (by simpa using fun e => hS.ti e.symm), h2'.low.moves hs (by simpa using fun e => hS.tl e.symm), h2'.on.moves hs (by simpa using fun e => hS.tO e.symm)⟩, h3'.fixed hs (by simp)⟩
theorem TjC.drewN (q : Nat) (h : TjC T ib lo ob n V vs vo k w) : TjC T ib lo ob n V vs vo k (w.drewN q) := ⟨h.c0, h.c1, h.c2, h.c3, h.c4, h.c5, h.c6, h.z⟩
theorem TjN.drewN (q : Nat) (h : TjN ib lo ob n m w) : TjN ib lo ob n m (w.drewN q) := ⟨h.idx.drewN q, h.low.drewN q, h.on.drewN q⟩
theorem TjO.drewN (q : Nat) (h : TjO B F vs vo rows stk out w) : TjO B F vs vo rows stk out (w.drewN q) := ⟨h.ost, h.oout, h.len, h.row, h.seps, h.sepo⟩
/-- The last is taken off the stack, and marked as being off it. -/
theorem tj_pop1 (hS : TjS B T ib lo ob) {g cap l x : Nat} (h1 : TjC T ib lo ob n V (.slice (some ⟨g, 0, none⟩) (l + 1) cap) vo k w) (h2 : TjN ib lo ob n m w) {q : List Int} (h3 : TjO B [T, ib, lo, ob] (.slice (some ⟨g, 0, none⟩) (l + 1) cap) vo rows (q ++ [(x : Int)]) out w) (hl : q.length = l) (hx : x < n) :
    TjC T ib lo ob n V (.slice (some ⟨g, 0, none⟩) l cap) vo k (((w.setCell ⟨T, 3, none⟩ (.slice (some ⟨g, 0, none⟩) l cap)).setCell ⟨ob, x, none⟩ (.bool false)).drew) ∧
    TjN ib lo ob n { m with on := setB m.on x false } (((w.setCell ⟨T, 3, none⟩ (.slice (some ⟨g, 0, none⟩) l cap)).setCell ⟨ob, x, none⟩ (.bool false)).drew) ∧
    TjO B [T, ib, lo, ob] (.slice (some ⟨g, 0, none⟩) l cap) vo rows q out (((w.setCell ⟨T, 3, none⟩ (.slice (some ⟨g, 0, none⟩) l cap)).setCell ⟨ob, x, none⟩ (.bool false)).drew) := by
  have hs := Moves.set (M := [T]) w ⟨T, 3, none⟩ (.slice (some ⟨g, 0, none⟩) l cap) (by simp)
  have ho := h3.ost
  rw [List.length_append, List.length_singleton, hl] at ho
  have ho2 := own_less ho (m := l) (by omega)
  have e : (I (q ++ [(x : Int)])).take (l * 1) = I q := by rw [Nat.mul_one, show I (q ++ [(x : Int)]) = I q ++ [.int .i64 x] from List.map_append, List.take_left' (by rw [List.length_map, hl])]
  rw [e] at ho2
  have h3' : TjO B [T, ib, lo, ob] (.slice (some ⟨g, 0, none⟩) l cap) vo rows q out w := ⟨by rw [hl]; exact ho2, h3.oout, h3.len, h3.row, h3.seps, h3.sepo⟩
  have a1 := (h1.set3 (.slice (some ⟨g, 0, none⟩) l cap)).drewN 1
  have a2 : TjN ib lo ob n m ((w.setCell ⟨T, 3, none⟩ (.slice (some ⟨g, 0, none⟩) l cap)).drewN 1) := (h2.moves hs (by simpa using fun e => hS.ti e.symm) (by simpa using fun e => hS.tl e.symm) (by simpa using fun e => hS.tO e.symm)).drewN 1
  have a3 := (h3'.fixed hs (by simp)).drewN 1
  have hs2 := Moves.set (M := [ob]) ((w.setCell ⟨T, 3, none⟩ (.slice (some ⟨g, 0, none⟩) l cap)).drewN 1) ⟨ob, x, none⟩ (.bool false) (by simp)
  have t := hS.tO; have t2 := hS.io; have t3 := hS.lO
  exact ⟨a1.moves hs2 (by simpa using t), ⟨a2.idx.moves hs2 (by simpa using t2), a2.low.moves hs2 (by simpa using t3), flag_set a2.on hx⟩, a3.fixed hs2 (by simp)⟩
/-- What lies behind a world's end touches nothing of it. -/
theorem tj_away {b : Nat} (hlt : ∀ x ∈ [T, ib, lo, ob], x < b) (hvs : ∀ g, vs.ownBlock = some g → g < b) (hvo : ∀ g, vo.ownBlock = some g → g < b) (hrw : ∀ q (h : q < rows.length) g, rows[q].ownBlock = some g → g < b)
    (h1 : TjC T ib lo ob n V vs vo k w) (h2 : TjN ib lo ob n m w) (h3 : TjO B F vs vo rows stk out w) (hm : Moves M w w') (hM : ∀ k ∈ M, b ≤ k) : TjC T ib lo ob n V vs vo k w' ∧ TjN ib lo ob n m w' ∧ TjO B F vs vo rows stk out w' := by
  have key : ∀ x, x < b → x ∉ M := fun x hx hk => by have := hM x hk; omega
  exact ⟨h1.moves hm (key _ (hlt _ (by simp))), h2.moves hm (key _ (hlt _ (by simp))) (key _ (hlt _ (by simp))) (key _ (hlt _ (by simp))), h3.moves hm (fun g e => key g (hvs g e)) (fun g e => key g (hvo g e)) (fun q h g e => key g (hrw q h g e))⟩
end
end Go.Proofs.Ytpdfcffeinbcaaa
