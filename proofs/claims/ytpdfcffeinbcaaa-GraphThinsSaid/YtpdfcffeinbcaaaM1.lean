/- The generic texts K0, V0 to V15 but V3, in one. -/
import Derived.WalkKit
import Derived.WalkSpells
import Derived.WalkLawsBesides
import Derived.Outline
import Derived.LoopTactic
import Derived.Deep.QuietTactic
import Derived.BigQuiet
import Derived.Below
import Derived.Lib.Hide
import Derived.Deep.DeepFit
import Derived.OwnWalk
import Derived.Maps.AppendAt
import Derived.Laws.OwnMore
import Derived.Laws.MakeOwn
import Derived.WalkSmall
import Derived.Deep.Light
import Derived.Laws.StructEq
import Derived.Deep.AppendLies
import Derived.Deep.Draws
import Derived.RegionTactic
import Derived.Deep.RegionHeld3
import Derived.Deep.DeepCutAuto
import Derived.Deep.CutBlock
import Derived.Test.YtpdfcffeinbcaaaProg
import Derived.Deep.RegionLaw
import Derived.ProofKit
import Derived.OpenShut
import Derived.Carry
import Derived.ChangeSame
import Derived.SizedLaws
import Derived.Deep.Slices
import Derived.Deep.Fields
import Derived.Deep.DeepHandedRow
import Derived.Lib.LaidTab
import Derived.ArgAppend
import Derived.RangeFuncNested
import Derived.RangeFuncBound
import Derived.RangeFuncCalls
import Derived.RangeFuncLeaves
import Derived.OwnWalkIn
import Derived.TacticsInMore
import Derived.LoopNIn
import Derived.LoopIn
import Derived.Shelf.RegionOpen
import Derived.OrdersIn
/- Words for a seat without expressions (from A0). -/
namespace Go.Proofs.Ytpdfcffeinbcaaa
open Go.RowKit


theorem ret_int {k : IntKind} {a b : Int} (h : a = b) : Ending.returned (.int k a) = .returned (.int k b) := by rw [h]
theorem ret_nat {k : IntKind} {a b : Nat} (h : a = b) : Ending.returned (.int k (a : Int)) = .returned (.int k (b : Int)) := by rw [h]
theorem ret_bool {a b : Bool} (h : a = b) : Ending.returned (.bool a) = .returned (.bool b) := by rw [h]

theorem size_zero {s : ByteArray} : s.toList = [] ↔ s.size = 0 := by
  rw [ByteArray.toList_eq, ← ByteArray.size_data, ← Array.length_toList, List.length_eq_zero_iff]
theorem bcell {W w1 : World} (hb : Below W.heap.size W w1) : (∀ b o, b < W.heap.size → w1.cell? ⟨b, o, none⟩ = W.cell? ⟨b, o, none⟩) ∧ (∀ b o, b < W.heap.size → w1.frozen? ⟨b, o, none⟩ = W.frozen? ⟨b, o, none⟩) :=
  ⟨fun b o h => hb.cell (p := ⟨b, o, none⟩) h, fun b o h => hb.frozen (p := ⟨b, o, none⟩) h⟩
theorem add_zero (g j : Nat) : (⟨g, 0, none⟩ : Addr).add j = ⟨g, j, none⟩ := by unfold Addr.add; split <;> simp_all
theorem add_any (g o j : Nat) : (⟨g, o, none⟩ : Addr).add j = ⟨g, o + j, none⟩ := by unfold Addr.add; split <;> simp_all

/-- append(v, x) of one cell, the new cell boxed ahead. -/
theorem app_one {P : Program} {ops : Array Oper} {rest : List Oper} {o : Oper} {a : Act} {Q : Exit → Act → World → Prop} {w0 W : World} (base : Nat) (hgd : o.guard = none) (s x : Operand) (t e : TypeId) (z : Value) (bytes : Nat)
    (ho : o.op = .call { callee := .builtin .append, args := #[s, x], argTypes := #[t, t] })
    (ht : P.underlying t = some (.slice e)) (hinfo : (P.info? e).map (fun i => (i.zero, i.size, i.bytes)) = some (some z, 1, bytes)) (hz : z.cells.size = 1)
    (v : Value) (xs : List Value) (y : Value) (hs : a.eval s = v) (nb : Nat) (hx : a.eval x = .slice (some ⟨nb, 0, none⟩) 1 1) (hnb : nb = W.heap.size) (h1 : y.oneCell' = true)
    (HO : W.ownsRow base e 1 v xs.length xs) (HB : Below base w0 W) (hbase : base ≤ W.heap.size) (hlen : xs.length + 1 ≤ 140737488355328) (hl : (xs.length + 1) * bytes ≤ 140737488355328)
    (h : ∀ v1 w1, w1.ownsRow base e 1 v1 (xs ++ [y]).length (xs ++ [y]) → Below base w0 w1 → W.grownBy w1 v.ownBlock → w1.heap.size ≥ W.heap.size → wpList P ops Q rest (a.put o.dst v1) w1) :
    wpList P ops Q (o :: rest) a (W.alloc (.cells #[y] e)) := by
  obtain ⟨i0, hi, hzz⟩ := Option.map_eq_some_iff.1 hinfo
  simp only [Prod.mk.injEq] at hzz
  obtain ⟨hz0, hz1, hz2⟩ := hzz
  subst hnb
  refine wpList_append_own_at (W.alloc (.cells #[y] e)) hgd s x t ho base e i0 z 1 bytes ht hi hz0 hz1 hz2 hz (by omega) v xs.length xs hs (HO.alloc _) ⟨W.heap.size, 0, none⟩ 1 1 [y] hx rfl
    (cell_one_new _ _ _) (by simpa using h1) (by simp only [maxLen]; omega) hl (by simp; omega) ?_
  intro v1 w1 hown hg _ _
  exact h v1 w1 (by simpa using hown) ((HB.alloc hbase _).grown hg (by simp; omega) (fun k hk => (HO.lt k hk).1)) (World.grownBy.trans (World.grownBy_alloc W _ _) hg) (Nat.le_trans (by simp) hg.size)
theorem take_next {α : Type} {xs ys : List α} {k : Nat} (h : xs.take k = ys.take k) (hx : k < xs.length) (hy : k < ys.length) (e : xs[k] = ys[k]) : xs.take (k + 1) = ys.take (k + 1) := by
  rw [List.take_succ_eq_append_getElem hx, List.take_succ_eq_append_getElem hy, h, e]
theorem take_all {α : Type} {xs ys : List α} {k : Nat} (h : xs.take k = ys.take k) (hx : xs.length ≤ k) (hy : ys.length ≤ k) : xs = ys := by
  rwa [List.take_of_length_le hx, List.take_of_length_le hy] at h
theorem own_cell_any {w : World} {base : Nat} {e : TypeId} {size g cap n : Nat} {xs : List Value} (h : w.ownsRow base e size (.slice (some ⟨g, 0, none⟩) n cap) n xs) (k : Nat) (hk : k < n * size) : ∃ v, w.cell? ⟨g, k, none⟩ = some v := by
  have hl : k < xs.length := by rw [h.1]; exact hk
  have := h.cells (g := g) rfl k _ (List.getElem?_eq_getElem hl)
  rw [add_zero] at this
  exact ⟨_, this⟩
theorem own_below {w w1 : World} {base : Nat} {e : TypeId} {size n : Nat} {v : Value} {xs : List Value} (h : w.ownsRow base e size v n xs) (hb : Below w.heap.size w w1) : w1.ownsRow base e size v n xs :=
  h.kept (row := none) ⟨hb.os, hb.tape, hb.output, hb.size, fun i hi _ => hb.block i hi⟩ (by cases v.ownBlock <;> simp)
theorem own_far {w : World} {base : Nat} {e : TypeId} {size g cap n : Nat} {xs : List Value} (h : w.ownsRow base e size (.slice (some ⟨g, 0, none⟩) n cap) n xs) (a : Addr) (u : Value) (hne : a.block ≠ g) : (w.setCell a u).ownsRow base e size (.slice (some ⟨g, 0, none⟩) n cap) n xs :=
  h.kept (row := some a.block) ⟨rfl, rfl, rfl, by simp [World.setCell], fun k _ hk => Below.heap_setCell w a u k (fun e => hk (by rw [e]))⟩ (.inr (by simp [Value.ownBlock]; exact fun e => hne e.symm))
theorem own_drew {w : World} {base : Nat} {e : TypeId} {size n : Nat} {v : Value} {xs : List Value} (h : w.ownsRow base e size v n xs) : w.drew.ownsRow base e size v n xs := h
theorem own_cap {w : World} {base : Nat} {e : TypeId} {size g cap n : Nat} {xs : List Value} (h : w.ownsRow base e size (.slice (some ⟨g, 0, none⟩) n cap) n xs) : n ≤ cap ∧ cap ≤ 9223372036854775807 := by
  rcases h.2 with ⟨h0, _⟩ | ⟨g', cap', cur, hv, _, _, hn, hcap, _⟩
  · cases h0
  · cases hv
    exact ⟨hn, by simpa [maxLen] using hcap⟩
theorem own_blk {w : World} {base : Nat} {e : TypeId} {size n g cap : Nat} {xs : List Value} (h : w.ownsRow base e size (.slice (some ⟨g, 0, none⟩) n cap) n xs) : base ≤ g ∧ g < w.heap.size := h.lt g rfl

theorem own_low {w : World} {base : Nat} {e : TypeId} {size n : Nat} {v : Value} {xs : List Value} (h : w.ownsRow base e size v n xs) (p : Addr) (u : Value) (hp : p.block < base) : (w.setCell p u).ownsRow base e size v n xs :=
  h.kept (row := some p.block) ⟨rfl, rfl, rfl, by simp [World.setCell], fun k _ hk => Below.heap_setCell w p u k (fun e => hk (by rw [e]))⟩ (.inr (fun e => by have := (h.lt _ e).1; omega))
theorem al_size (w : World) (o : Obj) : (w.alloc o).heap.size = w.heap.size + 1 := by simp

theorem cell_new (w : World) (cs : Array Value) (t : TypeId) (o : Nat) : (w.alloc (.cells cs t)).cell? ⟨w.heap.size, o, none⟩ = cs[o]? := by
  unfold World.cell?
  rw [heap_alloc_new]
  simp
end Go.Proofs.Ytpdfcffeinbcaaa
/- Appends of any row, in any region (after A0, G4, R6). -/
namespace Go.Proofs.Ytpdfcffeinbcaaa
open Go.RowKit
theorem block_of_add (a : Addr) (n : Nat) : (a.add n).block = a.block := by unfold Addr.add; split <;> rfl
theorem add_of_add (a : Addr) (i j : Nat) : (a.add i).add j = a.add (i + j) := by
  unfold Addr.add
  by_cases hi : i = 0 <;> by_cases hj : j = 0 <;> simp [hi, hj, Nat.add_assoc]

def Reads (w : World) (B size : Nat) (A : Option Addr) (n : Nat) (xs : List Value) : Prop :=
  xs.length = n * size ∧ (0 < n → ∃ ad, A = some ad ∧ ad.block < B ∧ ∀ j u, xs[j]? = some u → w.cell? (ad.add j) = some u)

section
variable {w w' : World} {B B' size n : Nat} {A : Option Addr} {xs : List Value}
theorem Reads.none_ : Reads w B size A 0 [] := ⟨by simp, fun h => absurd h (by omega)⟩
theorem Reads.at_ {k : Nat} (h : Reads w B 1 A n xs) (hk : k < n) : ∃ ad u, A = some ad ∧ ad.block < B ∧ xs[k]? = some u ∧ w.cell? (ad.add k) = some u := by
  obtain ⟨ad, e, hb, hc⟩ := h.2 (by omega)
  have hl : k < xs.length := by have := h.1; omega
  exact ⟨ad, xs[k], e, hb, List.getElem?_eq_getElem hl, hc k _ (List.getElem?_eq_getElem hl)⟩
theorem Reads.keep (h : Reads w B size A n xs) (hk : ∀ p : Addr, p.block < B → w'.cell? p = w.cell? p) : Reads w' B size A n xs :=
  ⟨h.1, fun hn => by
    obtain ⟨ad, e, hb, hc⟩ := h.2 hn
    exact ⟨ad, e, hb, fun j u hu => (hk _ (by rw [block_of_add]; exact hb)).trans (hc j u hu)⟩⟩
theorem Reads.more (h : Reads w B size A n xs) (hB : B ≤ B') : Reads w B' size A n xs :=
  ⟨h.1, fun hn => by
    obtain ⟨ad, e, hb, hc⟩ := h.2 hn
    exact ⟨ad, e, by omega, hc⟩⟩
theorem Reads.below (h : Reads w B size A n xs) (hb : Below B w w') : Reads w' B size A n xs := h.keep fun _ hp => hb.cell hp
theorem Reads.drew (h : Reads w B size A n xs) : Reads w.drew B size A n xs := h
theorem Reads.drewN (h : Reads w B size A n xs) (k : Nat) : Reads (w.drewN k) B size A n xs := h
theorem Reads.alloc (h : Reads w B size A n xs) (hB : B ≤ w.heap.size) (o : Obj) : Reads (w.alloc o) B size A n xs := h.keep fun p hp => World.cell?_alloc_lt w o p (by omega)
theorem Reads.setCell (h : Reads w B size A n xs) {p : Addr} (hB : B ≤ p.block) (u : Value) : Reads (w.setCell p u) B size A n xs :=
  h.keep fun q hq => World.cell?_setCell_other w p q u (fun e => by subst e; omega)
theorem Reads.grown (h : Reads w B size A n xs) {row : Option Nat} (hg : w.grownBy w' row) (hB : B ≤ w.heap.size) (hr : ∀ g, row = some g → B ≤ g) : Reads w' B size A n xs :=
  h.keep fun p hp => World.cell?_of_block (hg.block p.block (by omega) (fun e => by have := hr _ e.symm; omega))
theorem Reads.cut (h : Reads w B size A n xs) {k cap : Nat} (hk : k ≤ n) (hc : n ≤ cap) :
    Reads w B size (if cap = k then A else A.map (·.add (k * size))) (n - k) (xs.drop (k * size)) := by
  refine ⟨by rw [List.length_drop, h.1, Nat.sub_mul], fun hn => ?_⟩
  obtain ⟨ad, rfl, hb, hcell⟩ := h.2 (by omega)
  rw [if_neg (by omega)]
  refine ⟨ad.add (k * size), rfl, by rw [block_of_add]; exact hb, fun j u hu => ?_⟩
  rw [add_of_add]
  exact hcell _ u (by rw [← hu, List.getElem?_drop])
theorem Reads.of_own {base : Nat} {e : TypeId} {c : Nat} (h : w.ownsRow base e size (.slice A n c) n xs) : Reads w w.heap.size size A n xs := by
  refine ⟨h.1, fun hn => ?_⟩
  obtain ⟨g, cap, hv, _, hlt⟩ := h.form hn
  have hA : A = some ⟨g, 0, none⟩ := by injection hv
  subst hA
  exact ⟨_, rfl, hlt, h.cells (g := g) rfl⟩
end
section
variable {P : Program} (w : World)

theorem run_append_of_nil (base : Nat) (t ty e : TypeId) (i : TypeInfo) (size : Nat) (ht : P.underlying t = some (.slice e)) (hi : P.info? e = some i)
    (v : Value) (n : Nat) (xs : List Value) (hown : w.ownsRow base e size v n xs) (c : Nat) : (Builtin.append_ #[t, t] ty #[v, .slice none 0 c]).run P w = .ok v w := by
  rcases hown.2 with ⟨rfl, rfl⟩ | ⟨g, cap, cur, rfl, _, _, hnc, _⟩
  · simp [Builtin.append_, run_underlying ht, sizeOf, typeInfo, hi, Builtin.lenOf, Builtin.firstCells]
  · simp [Builtin.append_, run_underlying ht, sizeOf, typeInfo, hi, Builtin.lenOf, Builtin.firstCells, hnc, storeCells]

theorem run_append_any (base : Nat) (t ty e : TypeId) (i : TypeInfo) (z : Value) (size bytes : Nat) (ht : P.underlying t = some (.slice e)) (hi : P.info? e = some i) (hz : i.zero = some z)
    (hsize : i.size = size) (hby : i.bytes = bytes) (hzs : z.cells.size = size) (hsz : 0 < size)
    (v : Value) (n : Nat) (xs : List Value) (hown : w.ownsRow base e size v n xs)
    (B : Nat) (A : Option Addr) (m c : Nat) (news : List Value) (hr : Reads w B size A m news) (h1 : ∀ u ∈ news, u.oneCell' = true)
    (h63 : n + m ≤ maxLen) (hbytes : (n + m) * bytes ≤ 140737488355328) (hbase : base ≤ w.heap.size) :
    ∃ v' w', (Builtin.append_ #[t, t] ty #[v, .slice A m c]).run P w = .ok v' w' ∧ w'.ownsRow base e size v' (n + m) (xs ++ news) ∧ w.grownBy w' v.ownBlock ∧
      (v'.ownBlock = v.ownBlock ∨ v'.ownBlock = some w.heap.size) := by
  rcases A with _ | ad
  · have hm : m = 0 := by
      rcases Nat.eq_zero_or_pos m with h0 | h0
      · exact h0
      · obtain ⟨ad, h, _⟩ := hr.2 h0
        cases h
    subst hm
    have hn : news = [] := List.eq_nil_of_length_eq_zero (by simpa using hr.1)
    subst hn
    exact ⟨v, w, run_append_of_nil w base t ty e i size ht hi v n xs hown c, by simpa using hown, World.grownBy.refl w _, .inl rfl⟩
  · have hcells : ∀ j u, news[j]? = some u → w.cell? (ad.add j) = some u := by
      intro j u hu
      rcases Nat.eq_zero_or_pos m with h0 | h0
      · subst h0
        have hn : news = [] := List.eq_nil_of_length_eq_zero (by simpa using hr.1)
        subst hn
        simp at hu
      · obtain ⟨ad', h, _, hc⟩ := hr.2 h0
        injection h with h
        subst h
        exact hc j u hu
    obtain ⟨v', w', hrun, h2, h3, _, h5⟩ := run_append_own_at (P := P) w base t ty e i z size bytes ht hi hz hsize hby hzs hsz v n xs hown ad m c news hr.1 hcells h1 h63 hbytes hbase
    exact ⟨v', w', hrun, h2, h3, h5⟩

theorem wp_append_any {o : Oper} {a : Act} {K : Act → World → Prop} {Q : Exit → Act → World → Prop} (s x : Operand) (t : TypeId)
    (ho : o.op = .call { callee := .builtin .append, args := #[s, x], argTypes := #[t, t] })
    (base : Nat) (e : TypeId) (i : TypeInfo) (z : Value) (size bytes : Nat) (ht : P.underlying t = some (.slice e)) (hi : P.info? e = some i) (hz : i.zero = some z)
    (hsize : i.size = size) (hby : i.bytes = bytes) (hzs : z.cells.size = size) (hsz : 0 < size)
    (v : Value) (n : Nat) (xs : List Value) (hs : a.eval s = v) (hown : w.ownsRow base e size v n xs)
    (B : Nat) (A : Option Addr) (m c : Nat) (news : List Value) (hx : a.eval x = .slice A m c) (hr : Reads w B size A m news) (h1 : ∀ u ∈ news, u.oneCell' = true)
    (h63 : n + m ≤ maxLen) (hbytes : (n + m) * bytes ≤ 140737488355328) (hbase : base ≤ w.heap.size)
    (h : ∀ v' w', w'.ownsRow base e size v' (n + m) (xs ++ news) → w.grownBy w' v.ownBlock → (v'.ownBlock = v.ownBlock ∨ v'.ownBlock = some w.heap.size) → K (a.put o.dst v') w') : o.wp P a w K Q := by
  obtain ⟨v', w', hrun, h2, h3, h4⟩ := run_append_any (P := P) w base t o.type e i z size bytes ht hi hz hsize hby hzs hsz v n xs hown B A m c news hr h1 h63 hbytes hbase
  unfold Oper.wp execOp
  simp only [ho, resolve, invoke, builtin, Sem.run_bind, Sem.run_pure, Result.andThen_ok, List.map_toArray, List.map_cons, List.map_nil, hs, hx, hrun]
  exact h v' w' h2 h3 h4

theorem wpList_append_any {ops : Array Oper} {rest : List Oper} {o : Oper} {a : Act} {Q : Exit → Act → World → Prop} (hgd : o.guard = none) (s x : Operand) (t : TypeId)
    (ho : o.op = .call { callee := .builtin .append, args := #[s, x], argTypes := #[t, t] })
    (base : Nat) (e : TypeId) (i : TypeInfo) (z : Value) (size bytes : Nat) (ht : P.underlying t = some (.slice e)) (hi : P.info? e = some i) (hz : i.zero = some z)
    (hsize : i.size = size) (hby : i.bytes = bytes) (hzs : z.cells.size = size) (hsz : 0 < size)
    (v : Value) (n : Nat) (xs : List Value) (hs : a.eval s = v) (hown : w.ownsRow base e size v n xs)
    (B : Nat) (A : Option Addr) (m c : Nat) (news : List Value) (hx : a.eval x = .slice A m c) (hr : Reads w B size A m news) (h1 : ∀ u ∈ news, u.oneCell' = true)
    (h63 : n + m ≤ maxLen) (hbytes : (n + m) * bytes ≤ 140737488355328) (hbase : base ≤ w.heap.size)
    (h : ∀ v' w', w'.ownsRow base e size v' (n + m) (xs ++ news) → w.grownBy w' v.ownBlock → (v'.ownBlock = v.ownBlock ∨ v'.ownBlock = some w.heap.size) → wpList P ops Q rest (a.put o.dst v') w') : wpList P ops Q (o :: rest) a w :=
  wpList_plain hgd fun _ hK => wp_append_any w s x t ho base e i z size bytes ht hi hz hsize hby hzs hsz v n xs hs hown B A m c news hx hr h1 h63 hbytes hbase fun v' w' h2 h3 h4 => hK _ _ (h v' w' h2 h3 h4)

/-- append(v, x) of one cell, the new cell boxed ahead: whose block is written, and which it is then. -/
theorem app_new {ops : Array Oper} {rest : List Oper} {o : Oper} {a : Act} {Q : Exit → Act → World → Prop} {W : World} (base : Nat) (hgd : o.guard = none) (s x : Operand) (t e : TypeId) (z : Value) (bytes : Nat)
    (ho : o.op = .call { callee := .builtin .append, args := #[s, x], argTypes := #[t, t] })
    (ht : P.underlying t = some (.slice e)) (hinfo : (P.info? e).map (fun i => (i.zero, i.size, i.bytes)) = some (some z, 1, bytes)) (hz : z.cells.size = 1)
    (v : Value) (xs : List Value) (y : Value) (hs : a.eval s = v) (nb : Nat) (hx : a.eval x = .slice (some ⟨nb, 0, none⟩) 1 1) (hnb : nb = W.heap.size) (h1 : y.oneCell' = true)
    (HO : W.ownsRow base e 1 v xs.length xs) (hbase : base ≤ W.heap.size) (hlen : xs.length + 1 ≤ 140737488355328) (hl : (xs.length + 1) * bytes ≤ 140737488355328)
    (h : ∀ v1 w1, w1.ownsRow base e 1 v1 (xs.length + 1) (xs ++ [y]) → W.grownBy w1 v.ownBlock → (v1.ownBlock = v.ownBlock ∨ v1.ownBlock = some (W.heap.size + 1)) → W.heap.size < w1.heap.size → wpList P ops Q rest (a.put o.dst v1) w1) :
    wpList P ops Q (o :: rest) a (W.alloc (.cells #[y] e)) := by
  obtain ⟨i0, hi, hzz⟩ := Option.map_eq_some_iff.1 hinfo
  simp only [Prod.mk.injEq] at hzz
  obtain ⟨hz0, hz1, hz2⟩ := hzz
  subst hnb
  refine wpList_append_any (W.alloc (.cells #[y] e)) hgd s x t ho base e i0 z 1 bytes ht hi hz0 hz1 hz2 hz (by omega) v xs.length xs hs (HO.alloc _) (W.heap.size + 1) (some ⟨W.heap.size, 0, none⟩) 1 1 [y] hx
    ⟨rfl, fun _ => ⟨_, rfl, by show W.heap.size < W.heap.size + 1; omega, fun j u hu => by rw [add_zero, cell_new]; simpa using hu⟩⟩ (by simpa using h1) (by simp only [maxLen]; omega) hl (by simp; omega) ?_
  intro v1 w1 hown hg hb
  rw [al_size] at hb
  exact h v1 w1 hown (World.grownBy.trans (World.grownBy_alloc W _ _) hg) hb (by have := hg.size; rw [al_size] at this; omega)

theorem step_append_any {ops : Array Oper} {o : Oper} {a : Act} {K : Act → World → Prop} {Q : Exit → Act → World → Prop} {E : Prop} (hgd : o.guard = none) (s x : Operand) (t : TypeId)
    (ho : o.op = .call { callee := .builtin .append, args := #[s, x], argTypes := #[t, t] })
    (base : Nat) (e : TypeId) (i : TypeInfo) (z : Value) (size bytes : Nat) (ht : P.underlying t = some (.slice e)) (hi : P.info? e = some i) (hz : i.zero = some z)
    (hsize : i.size = size) (hby : i.bytes = bytes) (hzs : z.cells.size = size) (hsz : 0 < size)
    (v : Value) (n : Nat) (xs : List Value) (hs : a.eval s = v) (hown : w.ownsRow base e size v n xs)
    (B : Nat) (A : Option Addr) (m c : Nat) (news : List Value) (hx : a.eval x = .slice A m c) (hr : Reads w B size A m news) (h1 : ∀ u ∈ news, u.oneCell' = true)
    (h63 : n + m ≤ maxLen) (hbytes : (n + m) * bytes ≤ 140737488355328) (hbase : base ≤ w.heap.size)
    (h : ∀ v' w', w'.ownsRow base e size v' (n + m) (xs ++ news) → w.grownBy w' v.ownBlock → (v'.ownBlock = v.ownBlock ∨ v'.ownBlock = some w.heap.size) → K (a.put o.dst v') w') :
    if Region.wanted o (yielded ops a.tmps) = true then Oper.wp P o a w K Q else E := by
  have hw : Region.wanted o (yielded ops a.tmps) = true := by simp [Region.wanted, hgd]
  rw [if_pos hw]
  exact wp_append_any w s x t ho base e i z size bytes ht hi hz hsize hby hzs hsz v n xs hs hown B A m c news hx hr h1 h63 hbytes hbase h
end
theorem reads_new (w : World) (news : List Value) (t : TypeId) (size : Nat) (h : news.length = size) : Reads (w.alloc (.cells news.toArray t)) (w.alloc (.cells news.toArray t)).heap.size size (some ⟨w.heap.size, 0, none⟩) 1 news :=
  ⟨by omega, fun _ => ⟨_, rfl, by rw [al_size]; show w.heap.size < w.heap.size + 1; omega, fun j u hu => by rw [add_zero, cell_new]; simpa using hu⟩⟩
/-- An append either writes its own row's block, or lays a new one and leaves all that was. -/
theorem append_old {P : Program} (w : World) (base : Nat) (t ty e : TypeId) (i : TypeInfo) (z : Value) (size bytes : Nat) (ht : P.underlying t = some (.slice e)) (hi : P.info? e = some i) (hz : i.zero = some z)
    (hsize : i.size = size) (hby : i.bytes = bytes) (v : Value) (n : Nat) (xs : List Value) (hown : w.ownsRow base e size v n xs)
    (B : Nat) (A : Option Addr) (m c : Nat) (news : List Value) (hr : Reads w B size A m news) (h1 : ∀ u ∈ news, u.oneCell' = true)
    (h63 : n + m ≤ maxLen) (hbytes : (n + m) * bytes ≤ 140737488355328) {v' : Value} {w' : World} (hrun : (Builtin.append_ #[t, t] ty #[v, .slice A m c]).run P w = .ok v' w') :
    v'.ownBlock = v.ownBlock ∨ w.grownBy w' none := by
  subst hsize
  subst hby
  have hsmall : n + m ≤ 9223372036854775807 := by simp only [maxLen] at h63; omega
  rcases A with _ | ad
  · have hm : m = 0 := by
      rcases Nat.eq_zero_or_pos m with h0 | h0
      · exact h0
      · obtain ⟨ad, h, _⟩ := hr.2 h0
        cases h
    subst hm
    rw [run_append_of_nil w base t ty e i i.size ht hi v n xs hown c] at hrun
    cases hrun
    exact .inl rfl
  · have hnews : ∀ j u, news[j]? = some u → w.cell? (ad.add j) = some u := by
      intro j u hu
      rcases Nat.eq_zero_or_pos m with h0 | h0
      · subst h0
        have hn : news = [] := List.eq_nil_of_length_eq_zero (by simpa using hr.1)
        subst hn
        simp at hu
      · obtain ⟨ad', h, _, hc⟩ := hr.2 h0
        injection h with h
        subst h
        exact hc j u hu
    have hgr : ∀ o, w.grownBy (w.drew.alloc o) none := fun o => ⟨rfl, rfl, rfl, by simp, fun k hk _ => heap_alloc_old w.drew _ hk⟩
    rcases hown.2 with ⟨rfl, rfl⟩ | ⟨g, cap, cur, rfl, hbg, hg, hnc, hcm, hcs, htake⟩
    · by_cases hm : m = 0
      · subst hm
        have hn : news = [] := List.eq_nil_of_length_eq_zero (by simpa using hr.1)
        subst hn
        have hz0 : (Builtin.append_ #[t, t] ty #[.slice none 0 0, .slice (some ad) 0 c]).run P w = .ok (.slice none 0 0) w := by
          simp [Builtin.append_, run_underlying ht, sizeOf, typeInfo, hi, Builtin.lenOf, Builtin.firstCells, loadCells, loadCellsFrom]
        rw [hz0] at hrun
        cases hrun
        exact .inl rfl
      · rw [run_append_nil (P := P) w t ty e i z ht hi hz ad m c news hr.1 hnews (by omega) (by omega) (by have hb := hbytes; simp only [Nat.zero_add] at hb; omega)] at hrun
        cases hrun
        exact .inr (hgr _)
    · by_cases hroom : n + m ≤ cap
      · have hfit : n * i.size + news.length ≤ cur.size := by rw [hr.1, hcs, ← Nat.add_mul]; exact Nat.mul_le_mul_right _ hroom
        rw [run_append_room (P := P) w t ty e i ht hi g n cap cur hg ad m c news hr.1 hnews h1 hroom hfit] at hrun
        cases hrun
        exact .inl rfl
      · have holds : ∀ j u, xs[j]? = some u → w.cell? ((⟨g, 0, none⟩ : Addr).add j) = some u := hown.cells (g := g) rfl
        rw [run_append_grow (P := P) w t ty e i z ht hi hz ⟨g, 0, none⟩ n cap xs hown.1 holds ad m c news hr.1 hnews (by omega) (by omega) (growslice_fits (by omega) hbytes)] at hrun
        cases hrun
        exact .inr (hgr _)
theorem step_append_old {P : Program} (w : World) {ops : Array Oper} {o : Oper} {a : Act} {K : Act → World → Prop} {Q : Exit → Act → World → Prop} {E : Prop} (hgd : o.guard = none) (s x : Operand) (t : TypeId)
    (ho : o.op = .call { callee := .builtin .append, args := #[s, x], argTypes := #[t, t] })
    (base : Nat) (e : TypeId) (i : TypeInfo) (z : Value) (size bytes : Nat) (ht : P.underlying t = some (.slice e)) (hi : P.info? e = some i) (hz : i.zero = some z)
    (hsize : i.size = size) (hby : i.bytes = bytes) (hzs : z.cells.size = size) (hsz : 0 < size)
    (v : Value) (n : Nat) (xs : List Value) (hs : a.eval s = v) (hown : w.ownsRow base e size v n xs)
    (B : Nat) (A : Option Addr) (m c : Nat) (news : List Value) (hx : a.eval x = .slice A m c) (hr : Reads w B size A m news) (h1 : ∀ u ∈ news, u.oneCell' = true)
    (h63 : n + m ≤ maxLen) (hbytes : (n + m) * bytes ≤ 140737488355328) (hbase : base ≤ w.heap.size)
    (h : ∀ v' w', w'.ownsRow base e size v' (n + m) (xs ++ news) → w.grownBy w' v.ownBlock → (v'.ownBlock = v.ownBlock ∨ v'.ownBlock = some w.heap.size) → (v'.ownBlock = v.ownBlock ∨ w.grownBy w' none) → K (a.put o.dst v') w') :
    if Region.wanted o (yielded ops a.tmps) = true then Oper.wp P o a w K Q else E := by
  have hw : Region.wanted o (yielded ops a.tmps) = true := by simp [Region.wanted, hgd]
  rw [if_pos hw]
  obtain ⟨v', w', hrun, h2, h3, h4⟩ := run_append_any (P := P) w base t o.type e i z size bytes ht hi hz hsize hby hzs hsz v n xs hown B A m c news hr h1 h63 hbytes hbase
  have h5 := append_old (P := P) w base t o.type e i z size bytes ht hi hz hsize hby v n xs hown B A m c news hr h1 h63 hbytes hrun
  unfold Oper.wp execOp
  simp only [ho, resolve, invoke, builtin, Sem.run_bind, Sem.run_pure, Result.andThen_ok, List.map_toArray, List.map_cons, List.map_nil, hs, hx, hrun]
  exact h v' w' h2 h3 h4 h5
end Go.Proofs.Ytpdfcffeinbcaaa
/- Generic words: rows of one-cell values, blocks that move, for any seat. -/
namespace Go.Proofs.Ytpdfcffeinbcaaa
open Go.RowKit
abbrev I (xs : List Int) : List Value := xs.map (Value.int .i64)
def sortI (xs : List Int) : List Int := xs.mergeSort fun x y => decide (x ≤ y)
theorem sortI_length (xs : List Int) : (sortI xs).length = xs.length := List.length_mergeSort ..
/-- A row that is read. -/
def RowAt (w : World) (X : Option Addr) (xs : List Value) : Prop := xs = [] ∨ ∃ b off, X = some ⟨b, off, none⟩ ∧ b < w.heap.size ∧ ∀ j (h : j < xs.length), w.cell? ⟨b, off + j, none⟩ = some xs[j]
theorem RowAt.below {w w' : World} {X : Option Addr} {xs : List Value} (h : RowAt w X xs) (hb : Below w.heap.size w w') : RowAt w' X xs :=
  h.imp id fun ⟨b, off, e, hl, hc⟩ => ⟨b, off, e, Nat.lt_of_lt_of_le hl hb.size, fun j hj => (hb.cell (p := ⟨b, off + j, none⟩) hl).trans (hc j hj)⟩
theorem own_row1 {w : World} {base : Nat} {e : TypeId} {v : Value} {n : Nat} {xs : List Value} (h : w.ownsRow base e 1 v n xs) : ∃ X d, v = .slice X xs.length d ∧ RowAt w X xs := by
  have hl : xs.length = n := by have := h.1; omega
  rcases h.2 with ⟨rfl, h0⟩ | ⟨g, cap, cur, rfl, _, hh, _, _, hsz, htk⟩
  · have h1 : xs = [] := List.eq_nil_of_length_eq_zero (by omega)
    subst h1
    exact ⟨none, 0, rfl, .inl rfl⟩
  · refine ⟨some ⟨g, 0, none⟩, cap, by rw [hl], .inr ⟨g, 0, rfl, (Array.getElem?_eq_some_iff.1 hh).1, fun j hj => ?_⟩⟩
    have h2 : xs[j]? = some xs[j] := List.getElem?_eq_getElem hj
    have h3 := h.cells (g := g) rfl j xs[j] h2
    rw [add_zero] at h3
    rw [Nat.zero_add]
    exact h3
theorem RowAt.ints {w : World} {X : Option Addr} {xs : List Int} (h : RowAt w X (I xs)) : xs = [] ∨ ∃ b off, X = some ⟨b, off, none⟩ ∧ b < w.heap.size ∧ ∀ j, j < xs.length → w.cell? ⟨b, off + j, none⟩ = some (.int .i64 (xs.getD j 0)) := by
  rcases h with h | ⟨b, off, e, hl, hc⟩
  · exact .inl (List.map_eq_nil_iff.1 h)
  · refine .inr ⟨b, off, e, hl, fun j hj => ?_⟩
    have := hc j (by simpa using hj)
    rw [this]
    simp [List.getD, hj]
theorem RowAt.int {w : World} {X : Option Addr} {xs : List Int} (h : RowAt w X (I xs)) {j : Nat} (hj : j < xs.length) : ∃ b off, X = some ⟨b, off, none⟩ ∧ w.cell? ⟨b, off + j, none⟩ = some (.int .i64 (xs[j])) := by
  rcases h.ints with h | ⟨b, off, e, hl, hc⟩
  · subst h; simp at hj
  · exact ⟨b, off, e, by rw [hc j hj]; simp [List.getD, hj]⟩
theorem own_ints_cases {w : World} {B n : Nat} {e : TypeId} {v : Value} {xs : List Int} (h : w.ownsRow B e 1 v n (I xs)) : (v = .slice none 0 0 ∧ n = 0 ∧ xs = []) ∨
    ∃ g cap cur, v = .slice (some ⟨g, 0, none⟩) n cap ∧ n = xs.length ∧ B ≤ g ∧ g < w.heap.size ∧ w.heap[g]? = some (.cells cur e (0, 0)) ∧ n ≤ cap ∧ cap ≤ maxLen ∧ cur.size = cap * 1 ∧ cur.toList.take xs.length = I xs := by
  have hl : n = xs.length := by have := h.1; simp at this; omega
  rcases h.2 with ⟨rfl, h0⟩ | ⟨g, cap, cur, rfl, hB, hh, h1, h2, h3, h4⟩
  · exact .inl ⟨rfl, h0, List.eq_nil_of_length_eq_zero (by omega)⟩
  · exact .inr ⟨g, cap, cur, rfl, hl, hB, (Array.getElem?_eq_some_iff.1 hh).1, hh, h1, h2, h3, by rw [Nat.mul_one, hl] at h4; exact h4⟩
theorem frozen_new (w : World) (cs : Array Value) (t : TypeId) (o : Nat) : (w.alloc (.cells cs t)).frozen? ⟨w.heap.size, o, none⟩ = false := by
  unfold World.frozen?
  rw [heap_alloc_new]
  simp
/-- All is as it was but for the blocks of M, and new ones. -/
def Moves (M : List Nat) (w w' : World) : Prop := w'.os = w.os ∧ w'.tape = w.tape ∧ w'.output = w.output ∧ w.heap.size ≤ w'.heap.size ∧ ∀ k, k < w.heap.size → k ∉ M → w'.heap[k]? = w.heap[k]?
theorem Moves.refl (M : List Nat) (w : World) : Moves M w w := ⟨rfl, rfl, rfl, Nat.le_refl _, fun _ _ _ => rfl⟩
theorem Moves.trans {M : List Nat} {w w1 w2 : World} (h : Moves M w w1) (g : Moves M w1 w2) : Moves M w w2 :=
  ⟨g.1.trans h.1, g.2.1.trans h.2.1, g.2.2.1.trans h.2.2.1, Nat.le_trans h.2.2.2.1 g.2.2.2.1, fun k hk hm => (g.2.2.2.2 k (Nat.lt_of_lt_of_le hk h.2.2.2.1) hm).trans (h.2.2.2.2 k hk hm)⟩
theorem Moves.onto {M N : List Nat} {w w1 w2 : World} (h : Moves M w w1) (g : Moves N w1 w2) (hs : ∀ k ∈ N, k ∈ M ∨ w.heap.size ≤ k) : Moves M w w2 :=
  ⟨g.1.trans h.1, g.2.1.trans h.2.1, g.2.2.1.trans h.2.2.1, Nat.le_trans h.2.2.2.1 g.2.2.2.1, fun k hk hm => (g.2.2.2.2 k (Nat.lt_of_lt_of_le hk h.2.2.2.1) (fun hN => (hs k hN).elim hm (by omega))).trans (h.2.2.2.2 k hk hm)⟩
theorem Moves.mono {M N : List Nat} {w w1 : World} (h : Moves M w w1) (hs : ∀ k ∈ M, k ∈ N ∨ w.heap.size ≤ k) : Moves N w w1 :=
  ⟨h.1, h.2.1, h.2.2.1, h.2.2.2.1, fun k hk hm => h.2.2.2.2 k hk (fun hM => (hs k hM).elim hm (by omega))⟩
theorem Moves.of_below {M : List Nat} {w w1 : World} {B : Nat} (h : Below B w w1) (hB : ∀ k, B ≤ k → k < w.heap.size → k ∈ M) : Moves M w w1 :=
  ⟨h.os, h.tape, h.output, h.size, fun k hk hm => h.block k (by rcases Nat.lt_or_ge k B with c | c; exact c; exact absurd (hB k c hk) hm)⟩
theorem Moves.of_new {w w1 : World} (M : List Nat) (h : Below w.heap.size w w1) : Moves M w w1 := Moves.of_below h (by omega)
theorem Moves.of_grown {M : List Nat} {w w1 : World} {r : Option Nat} (h : w.grownBy w1 r) (hM : ∀ k, r = some k → k ∈ M) : Moves M w w1 :=
  ⟨h.os, h.tape, h.output, h.size, fun k hk hm => h.block k hk (fun e => hm (hM k e.symm))⟩
theorem Moves.of_grown0 {w w' : World} (h : w.grownBy w' none) : Moves [] w w' := Moves.of_grown h (by simp)
theorem Moves.set {M : List Nat} (w : World) (a : Addr) (v : Value) (h : a.block ∈ M) : Moves M w (w.setCell a v) :=
  ⟨rfl, rfl, rfl, by simp [World.setCell], fun k _ hk => Below.heap_setCell w a v k (fun e => hk (by rw [e]; exact h))⟩
theorem Moves.below {M : List Nat} {w w1 : World} {B : Nat} (h : Moves M w w1) (hB : B ≤ w.heap.size) (hM : ∀ k ∈ M, B ≤ k) : Below B w w1 :=
  ⟨h.1, h.2.1, h.2.2.1, h.2.2.2.1, fun k hk => h.2.2.2.2 k (by omega) (fun hm => absurd (hM k hm) (by omega))⟩
theorem Moves.cell {M : List Nat} {w w1 : World} (h : Moves M w w1) {b : Nat} (hb : b < w.heap.size) (hm : b ∉ M) (o : Nat) : w1.cell? ⟨b, o, none⟩ = w.cell? ⟨b, o, none⟩ := by
  have h1 := h.2.2.2.2 b hb hm
  unfold World.cell?
  rw [h1]
theorem Moves.frozen {M : List Nat} {w w1 : World} (h : Moves M w w1) {b : Nat} (hb : b < w.heap.size) (hm : b ∉ M) (o : Nat) : w1.frozen? ⟨b, o, none⟩ = w.frozen? ⟨b, o, none⟩ := by
  have h1 := h.2.2.2.2 b hb hm
  unfold World.frozen?
  rw [h1]
theorem Moves.grown1 {w w' : World} {b : Nat} (h : Moves [b] w w') : w.grownBy w' (some b) := ⟨h.1, h.2.1, h.2.2.1, h.2.2.2.1, fun k hk hne => h.2.2.2.2 k hk (by simp; rintro rfl; exact hne rfl)⟩
theorem Moves.heap_eq {M : List Nat} {w w1 w2 : World} (h : Moves M w w1) (e : w2.heap = w1.heap) (e2 : w2.os = w1.os) (e3 : w2.tape = w1.tape) (e4 : w2.output = w1.output) : Moves M w w2 := ⟨e2.trans h.1, e3.trans h.2.1, e4.trans h.2.2.1, by rw [e]; exact h.2.2.2.1, fun k hk hm => by rw [e]; exact h.2.2.2.2 k hk hm⟩
theorem own_moves {M : List Nat} {w w1 : World} {B g cap n : Nat} {e : TypeId} {xs : List Value} (h : w.ownsRow B e 1 (.slice (some ⟨g, 0, none⟩) n cap) n xs) (hm : Moves M w w1) (hg : g ∉ M) : w1.ownsRow B e 1 (.slice (some ⟨g, 0, none⟩) n cap) n xs := by
  rcases h with ⟨hl, ⟨h0, _⟩ | ⟨g', cap', cur, hv, hB, hh, h1⟩⟩
  · cases h0
  · cases hv
    exact ⟨hl, .inr ⟨g, cap, cur, rfl, hB, (hm.2.2.2.2 g (Array.getElem?_eq_some_iff.1 hh).1 hg).trans hh, h1⟩⟩
theorem own_moves2 {M : List Nat} {w w1 : World} {B n sz : Nat} {v : Value} {e : TypeId} {xs : List Value} (h : w.ownsRow B e sz v n xs) (hm : Moves M w w1) (hM : ∀ k ∈ M, k < B) : w1.ownsRow B e sz v n xs := by
  rcases h with ⟨hl, ⟨rfl, h0⟩ | ⟨g, cap, cur, rfl, hB, hh, h1⟩⟩
  · exact ⟨hl, .inl ⟨rfl, h0⟩⟩
  · exact ⟨hl, .inr ⟨g, cap, cur, rfl, hB, (hm.2.2.2.2 g (Array.getElem?_eq_some_iff.1 hh).1 (fun hk => by have := hM g hk; omega)).trans hh, h1⟩⟩
theorem set_far (w : World) (b o o' : Nat) (u : Value) (h : o' ≠ o) : (w.setCell ⟨b, o', none⟩ u).cell? ⟨b, o, none⟩ = w.cell? ⟨b, o, none⟩ := World.cell?_setCell_other _ _ _ _ (fun e => h (congrArg Addr.off e))
theorem set_here (w : World) (b o : Nat) (u v : Value) (h : w.cell? ⟨b, o, none⟩ = some v) : (w.setCell ⟨b, o, none⟩ u).cell? ⟨b, o, none⟩ = some u := World.cell?_setCell_same _ _ _ h
/-- The first n cells of block g are numbers, and may be written. -/
def NumsAt (w : World) (g n : Nat) : Prop := (∀ j, j < n → ∃ v, w.cell? ⟨g, j, none⟩ = some (.int .i64 v)) ∧ ∀ j, w.frozen? ⟨g, j, none⟩ = false
theorem NumsAt.set {w : World} {g n k : Nat} (h : NumsAt w g n) (v : Int) : NumsAt (w.setCell ⟨g, k, none⟩ (.int .i64 v)) g n := by
  refine ⟨fun j hj => ?_, fun j => by rw [World.frozen?_setCell]; exact h.2 j⟩
  obtain ⟨u, hu⟩ := h.1 j hj
  by_cases e : j = k
  · subst e; exact ⟨v, set_here _ _ _ _ _ hu⟩
  · exact ⟨u, (set_far _ _ _ _ _ (fun c => e c.symm)).trans hu⟩
theorem nums_of_own {w w' : World} {TI : TypeId} {B cap n g : Nat} {xs : List Int} (h : w.ownsRow B TI 1 (.slice (some ⟨g, 0, none⟩) n cap) n (I xs)) (hb : Below w.heap.size w w') : NumsAt w' g n := by
  rcases own_ints_cases h with ⟨h0, _⟩ | ⟨g', cap', cur, hv, hn, _, hg, hh, h1, h2, h3, h4⟩
  · cases h0
  · cases hv
    refine ⟨fun j hj => ?_, fun j => ?_⟩
    · have h3 := h.cells (g := g) rfl j (.int .i64 (xs.getD j 0)) (by simp [List.getD, show j < xs.length by omega])
      rw [add_zero] at h3
      exact ⟨_, (hb.cell (p := ⟨g, j, none⟩) hg).trans h3⟩
    · rw [hb.frozen (p := ⟨g, j, none⟩) hg]
      unfold World.frozen?
      rw [hh]
      simp
theorem reads_row {w : World} {X : Option Addr} {xs : List Int} (h : RowAt w X (I xs)) : Reads w w.heap.size 1 X xs.length (I xs) := by
  refine ⟨by simp, fun h0 => ?_⟩
  rcases h with h | ⟨b, off, rfl, hl, hc⟩
  · rw [List.map_eq_nil_iff.1 h] at h0; simp at h0
  · exact ⟨_, rfl, hl, fun j u hu => by obtain ⟨h1, h2⟩ := List.getElem?_eq_some_iff.1 hu; rw [add_any, hc j h1, h2]⟩
theorem row_lit (TI : TypeId) (w : World) (xs : List Int) : RowAt (w.alloc (.cells (I xs).toArray TI)) (some ⟨w.heap.size, 0, none⟩) (I xs) :=
  .inr ⟨w.heap.size, 0, rfl, by simp, fun j hj => by rw [Nat.zero_add, cell_new]; simp at hj; simp [hj]⟩
theorem own_mv {M : List Nat} {w w1 : World} {B n sz : Nat} {v : Value} {e : TypeId} {xs : List Value} (h : w.ownsRow B e sz v n xs) (hm : Moves M w w1) (hM : ∀ g, v.ownBlock = some g → g ∉ M) : w1.ownsRow B e sz v n xs := by
  rcases h with ⟨hl, ⟨rfl, h0⟩ | ⟨g, cap, cur, rfl, hB, hh, h1⟩⟩
  · exact ⟨hl, .inl ⟨rfl, h0⟩⟩
  · exact ⟨hl, .inr ⟨g, cap, cur, rfl, hB, (hm.2.2.2.2 g (Array.getElem?_eq_some_iff.1 hh).1 (hM g rfl)).trans hh, h1⟩⟩
theorem own_base {w : World} {B B' n sz : Nat} {v : Value} {e : TypeId} {xs : List Value} (h : w.ownsRow B e sz v n xs) (hB : B' ≤ B) : w.ownsRow B' e sz v n xs := by
  rcases h with ⟨hl, ⟨rfl, h0⟩ | ⟨g, cap, cur, rfl, hb, h1⟩⟩
  · exact ⟨hl, .inl ⟨rfl, h0⟩⟩
  · exact ⟨hl, .inr ⟨g, cap, cur, rfl, by omega, h1⟩⟩
theorem own_kept2 {T sz : Nat} {w w' : World} {e : TypeId} {v : Value} {n : Nat} {zs : List Value} {r : Option Nat} (h : w.ownsRow T e sz v n zs) (hg : w.grownBy w' r) (hne : ∀ g, v.ownBlock = some g → r ≠ some g) : w'.ownsRow T e sz v n zs := by
  refine h.kept (row := r) hg ?_
  cases hv : v.ownBlock with
  | none => left; rfl
  | some g => right; intro e; exact hne g hv e.symm
/-- What a row of one's own reads as: cells of any number an element. -/
theorem own_rowS {w : World} {base sz : Nat} {e : TypeId} {v : Value} {n : Nat} {xs : List Value} (h : w.ownsRow base e sz v n xs) : ∃ X d, v = .slice X n d ∧ RowAt w X xs ∧ n ≤ d ∧ d ≤ 9223372036854775807 := by
  rcases h with ⟨hl, ⟨rfl, h0⟩ | ⟨g, cap, cur, rfl, hB, hh, hn, hc, hsz, htk⟩⟩
  · subst h0
    rw [Nat.zero_mul] at hl
    exact ⟨none, 0, rfl, .inl (List.eq_nil_of_length_eq_zero hl), Nat.le_refl _, by omega⟩
  · have h' : w.ownsRow base e sz (.slice (some ⟨g, 0, none⟩) n cap) n xs := ⟨hl, .inr ⟨g, cap, cur, rfl, hB, hh, hn, hc, hsz, htk⟩⟩
    refine ⟨_, cap, rfl, .inr ⟨g, 0, rfl, (h'.lt g rfl).2, fun j hj => ?_⟩, hn, by simpa [maxLen] using hc⟩
    have h3 := h'.cells (g := g) rfl j _ (List.getElem?_eq_getElem hj)
    rw [add_zero] at h3
    rw [Nat.zero_add, h3]
theorem RowAt.moves {M : List Nat} {w w' : World} {X : Option Addr} {xs : List Value} (h : RowAt w X xs) (hm : Moves M w w') (hM : ∀ b o, X = some ⟨b, o, none⟩ → b ∉ M) : RowAt w' X xs := by
  rcases h with h | ⟨b, off, rfl, hl, hc⟩
  · exact .inl h
  · exact .inr ⟨b, off, rfl, Nat.lt_of_lt_of_le hl hm.2.2.2.1, fun j hj => (hm.cell hl (hM b off rfl) _).trans (hc j hj)⟩
theorem RowAt.get {w : World} {X : Option Addr} {xs : List Value} (h : RowAt w X xs) {j : Nat} (hj : j < xs.length) : ∃ b off, X = some ⟨b, off, none⟩ ∧ b < w.heap.size ∧ w.cell? ⟨b, off + j, none⟩ = some xs[j] := by
  rcases h with h | ⟨b, off, e, hl, hc⟩
  · subst h; simp at hj
  · exact ⟨b, off, e, hl, hc j hj⟩
end Go.Proofs.Ytpdfcffeinbcaaa
/- Words for rows: structs and slices of structs that came in (after A20). -/
namespace Go.Proofs.Ytpdfcffeinbcaaa
open Go.ChangeShapes Go.WideShapes Go.ChangeAt Go.RowKit Go.Deep

section
variable {H : Type} {enc : TypeId × Value → H} {P : Program} {w : World} {base : Nat} {spare : Nat → Bool} {held : Bool}
theorem open_slice_fields {t e : TypeId} {fs : Array Field} {fuel : Nat} {cs : List Value} {x : DataW H × List MemPlace} (ht : P.underlying t = some (.slice e)) (he : P.underlying e = some (.struct fs))
    (hone : oneCellFields P fs = true) (hC : P.cellsOf e = fs.size) (h : DataW.trod enc P w base spare held fuel t cs = some x) :
    (cs = [.slice none 0 0] ∧ x = (.nil, [])) ∨
    ∃ (a : Addr) (len cap m : Nat) (D : Nat → DataW H) (Pl : Nat → List MemPlace), cs = [.slice (some a) len cap] ∧ base ≤ a.block ∧ len ≤ cap ∧ cap ≤ maxLen ∧ m = (if spare a.block then cap else len) ∧
      x = (.slice ((List.range len).map D) ((List.range (m - len)).map fun j => D (len + j)), MemPlace.row a (m * fs.size) ++ (List.range m).flatMap Pl) ∧
      ∀ i, i < m → ∃ (ys : List (DataW H × List MemPlace)) (n : Nat), D i = .agg (ys.map (·.1)) ∧ Pl i = ys.flatMap (·.2) ∧ ys.length = fs.size ∧
        ∀ (j : Nat) (f : Field), fs[j]? = some f → ∃ (v : Value) (y : DataW H × List MemPlace), w.cell? (a.add (i * fs.size + j)) = some v ∧ ys[j]? = some y ∧ DataW.trod enc P w base spare held n f.type [v] = some y := by
  rcases open_slice ht h with h0 | ⟨a, len, cap, m, n, D, Pl, hcs, hb, hl, hm, hmm, hx, hi⟩
  · exact .inl h0
  · refine .inr ⟨a, len, cap, m, D, Pl, hcs, hb, hl, hm, hmm, by rw [hC] at hx; exact hx, fun i him => ?_⟩
    obtain ⟨cs', hc, ht'⟩ := hi i him
    rw [hC] at hc
    obtain ⟨ys, n', hn', hy, hlen, hyl, hf⟩ := DataW.trod_struct he ht'
    obtain ⟨_, hcl, hat⟩ := World.cells?_some hc
    simp only [Prod.mk.injEq] at hy
    refine ⟨ys, n', hy.1, hy.2, hyl, fun j f hj => ?_⟩
    obtain ⟨ho, hk⟩ := hone_of hone j f hj
    have hjl : j < fs.size := (Array.getElem?_eq_some_iff.1 hj).1
    have hcell := hat j hjl
    have hv : cs'[j]? = some (cs'[j]'(by omega)) := List.getElem?_eq_getElem (by omega)
    have h1 := hf j f hj
    rw [ho, hk] at h1
    have hone' : (cs'.drop j).take 1 = [cs'[j]'(by omega)] := by
      rw [List.drop_eq_getElem_cons (by omega)]
      rfl
    rw [hone'] at h1
    have hys : ys[j]? = some (ys[j]'(by omega)) := List.getElem?_eq_getElem (by omega)
    refine ⟨_, _, ?_, hys, h1.trans hys⟩
    rw [← Go.Deep.add_add, hcell, hv]
theorem weights_all_mem {e : TypeId} {D : DataW H} {n : Nat} (hn : n ∈ D.weights P e) : ∀ {l : List (DataW H)}, D ∈ l → n ∈ DataW.weightsAll P e l
  | d :: r, h => by
    simp only [DataW.weightsAll, List.mem_append]
    rcases List.mem_cons.1 h with rfl | h
    · exact .inl hn
    · exact .inr (weights_all_mem hn h)
theorem list_of {α : Type} {Q : Nat → α → Prop} : ∀ (n : Nat), (∀ i, i < n → ∃ o, Q i o) → ∃ l : List α, l.length = n ∧ ∀ i (h : i < l.length), Q i l[i]
  | 0, _ => ⟨[], rfl, fun i h => by simp at h⟩
  | n + 1, h => by
    obtain ⟨l, hl, hq⟩ := list_of n (fun i hi => h i (by omega))
    obtain ⟨o, ho⟩ := h n (by omega)
    refine ⟨l ++ [o], by simp [hl], fun i hi => ?_⟩
    by_cases hlt : i < l.length
    · rw [List.getElem_append_left hlt]; exact hq i hlt
    · have he : i = l.length := by simp at hi; omega
      subst he
      rw [List.getElem_append_right (Nat.le_refl _)]
      simp only [Nat.sub_self, List.getElem_cons_zero]
      rw [hl]; exact ho
end
theorem struct_at {H : Type} {enc : TypeId × Value → H} {P : Program} {w : World} {base : Nat} {sp : Nat → Bool} {held : Bool} {fuel : Nat} {t : TypeId} {cs : List Value} {x : DataW H × List MemPlace} {fs : Array Field} (ht : P.underlying t = some (.struct fs)) (h : DataW.trod enc P w base sp held fuel t cs = some x) :
    cs.length = P.cellsOf t ∧ ∃ n : Nat, ∀ (i : Nat) (f : Field), fs[i]? = some f → ∀ (T : TypeId) (off k : Nat), f.type = T → f.offset = off → P.cellsOf T = k →
      ∃ y, DataW.trod enc P w base sp held n T ((cs.drop off).take k) = some y ∧ ∀ m ∈ y.1.weights P T, m ∈ x.1.weights P t := by
  obtain ⟨xs, n, _, rfl, hl, hxl, hf⟩ := DataW.trod_struct ht h
  refine ⟨hl, n, fun i f hi T off k hT hoff hk => ?_⟩
  subst hT hoff hk
  have hil : i < xs.length := by rw [hxl]; exact (Array.getElem?_eq_some_iff.1 hi).1
  have h1 := hf i f hi
  rw [List.getElem?_eq_getElem hil] at h1
  refine ⟨xs[i], h1, fun m hm => ?_⟩
  simp only [DataW.weights, ht]
  refine DataW.weights_mem_each (j := i) (t := f.type) (d := xs[i].1) ?_ ?_ m hm
  · rw [List.getElem?_map, Array.getElem?_toList, hi]; rfl
  · rw [List.getElem?_map, List.getElem?_eq_getElem hil]; rfl
theorem spot_none_ {w : World} {a : Addr} {v : Value} (h : w.cell? a = some v) : a.spot = none := by
  unfold World.cell? at h
  split at h
  · split at h
    · cases h
    · rename_i hs
      simpa using hs
  · cases h
section
variable {H : Type} {enc : TypeId × Value → H} {P : Program} {w : World} {base : Nat} {sp : Nat → Bool} {held : Bool} {fuel : Nat} {t : TypeId} {v : Value} {x : DataW H × List MemPlace}
theorem trod_text (ht : P.underlying t = some .string) (h : DataW.trod enc P w base sp held fuel t [v] = some x) (hz : ∀ n ∈ x.1.weights P t, n ≤ reachBytes) : ∃ s : ByteArray, v = .string s ∧ s.size ≤ 140737488351232 := by
  obtain ⟨s, hs, rfl, _⟩ := DataW.trod_string ht h
  simp only [List.cons.injEq, and_true] at hs
  have h9 := hz s.data.toList.length (by simp [DataW.weights])
  rw [Array.length_toList] at h9
  exact ⟨s, hs, h9⟩
theorem trod_num {k : IntKind} (ht : P.underlying t = some (.int k)) (h : DataW.trod enc P w base sp held fuel t [v] = some x) : ∃ n : Int, v = .int k n ∧ (Lit.int k n).wf = true := by
  obtain ⟨n, hn, _, hw⟩ := DataW.trod_int ht h
  simp only [List.cons.injEq, and_true] at hn
  exact ⟨n, hn, hw⟩
theorem trod_flag (ht : P.underlying t = some .bool) (h : DataW.trod enc P w base sp held fuel t [v] = some x) : ∃ b : Bool, v = .bool b := by
  obtain ⟨b, hb, _⟩ := DataW.trod_bool ht h
  simp only [List.cons.injEq, and_true] at hb
  exact ⟨b, hb⟩
/-- A row of numbers that came in. -/
theorem open_nums {e : TypeId} {k : IntKind} {cs : List Value} (ht : P.underlying t = some (.slice e)) (he : P.underlying e = some (.int k)) (hc : P.cellsOf e = 1) (h : DataW.trod enc P w base sp held fuel t cs = some x) (hz : ∀ n ∈ x.1.weights P t, n ≤ reachBytes) :
    ∃ V c rs, cs = [.slice V (List.length rs) c] ∧ (rs = [] ∨ ∃ b off, V = some ⟨b, off, none⟩ ∧ b < w.heap.size ∧ ∀ (j : Nat) (hj : j < rs.length), w.cell? ⟨b, off + j, none⟩ = some (.int k rs[j])) ∧ rs.length * P.bytesOf e ≤ 140737488351232 ∧ ∀ v ∈ rs, (Lit.int k v).wf = true := by
  rcases open_ints ht he hc h with ⟨rfl, rfl⟩ | ⟨a, len, cap, zs, rfl, _, hlc, hcm, hm, rfl, hi, hwf⟩
  · exact ⟨none, 0, [], rfl, .inl rfl, by simp, by simp⟩
  · have hlm : len ≤ zs.length := by rw [hm]; split <;> omega
    have hsz : len * P.bytesOf e ≤ 140737488351232 := by
      have := hz (((lits k (zs.take len)).length + (lits k (zs.drop len)).length) * P.bytesOf e) (by simp only [DataW.weights, ht]; exact List.mem_cons_self ..)
      simp [reachBytes, lits] at this
      refine Nat.le_trans (Nat.mul_le_mul_right _ ?_) this
      omega
    refine ⟨some a, cap, zs.take len, by simp; omega, ?_, by rw [List.length_take, Nat.min_eq_left hlm]; exact hsz, fun v hv => hwf v (List.mem_of_mem_take hv)⟩
    rcases Nat.eq_zero_or_pos len with h0 | h0
    · subst h0; exact .inl rfl
    · have hc := hi 0 (by omega)
      have hs : a.spot = none := spot_none_ hc
      obtain ⟨b, off, spot⟩ := a
      simp only at hs
      subst hs
      have hbl := World.block_lt_of_cell? w _ hc
      refine .inr ⟨b, off, rfl, by simpa [add_any] using hbl, fun j hj => ?_⟩
      rw [List.length_take, Nat.min_eq_left hlm] at hj
      have q := hi j (by omega)
      simp only [add_any] at q
      rw [q]
      simp [List.getD, show j < zs.length by omega]
end
theorem wf_u64 {n : Int} (h : (Lit.int .u64 n).wf = true) : 0 ≤ n ∧ n < 18446744073709551616 := by
  simp [Lit.wf, IntKind.min, IntKind.max, IntKind.signed, IntKind.bits] at h
  omega
theorem wf_i64 {n : Int} (h : (Lit.int .i64 n).wf = true) : -9223372036854775808 ≤ n ∧ n ≤ 9223372036854775807 := by
  simp [Lit.wf, IntKind.min, IntKind.max, IntKind.signed, IntKind.bits] at h
  omega
end Go.Proofs.Ytpdfcffeinbcaaa
/- Generic words for regions that draw their order: cells that are held. -/
namespace Go.Proofs.Ytpdfcffeinbcaaa
open Go.RowKit
theorem kept_cell {w w3 : World} {a : Addr} {v : Value} (h : w.cell? a = some v) (hb : Below w.heap.size w w3) : w3.cell? a = some v := (hb.cell (World.block_lt_of_cell? w _ h)).trans h
theorem frozen_block {w w' : World} {a : Addr} (h : w'.heap[a.block]? = w.heap[a.block]?) : w'.frozen? a = w.frozen? a := by unfold World.frozen?; rw [h]
theorem hk0 {B : Nat} {w0 w w3 : World} (h : Below B w0 w ∧ B ≤ w.heap.size) (hb : Below w.heap.size w w3) : Below B w0 w3 ∧ B ≤ w3.heap.size := ⟨h.1.trans (hb.mono h.2), Nat.le_trans h.2 hb.size⟩
theorem hk1 {B : Nat} {w0 w w3 : World} {a1 : Addr} {v1 : Value} (h : (Below B w0 w ∧ B ≤ w.heap.size) ∧ w.cell? a1 = some v1) (hb : Below w.heap.size w w3) : (Below B w0 w3 ∧ B ≤ w3.heap.size) ∧ w3.cell? a1 = some v1 := ⟨hk0 h.1 hb, kept_cell h.2 hb⟩
theorem hk2 {B : Nat} {w0 w w3 : World} {a1 a2 : Addr} {v1 v2 : Value} (h : (Below B w0 w ∧ B ≤ w.heap.size) ∧ w.cell? a1 = some v1 ∧ w.cell? a2 = some v2) (hb : Below w.heap.size w w3) : (Below B w0 w3 ∧ B ≤ w3.heap.size) ∧ w3.cell? a1 = some v1 ∧ w3.cell? a2 = some v2 :=
  ⟨hk0 h.1 hb, kept_cell h.2.1 hb, kept_cell h.2.2 hb⟩
theorem hk3 {B : Nat} {w0 w w3 : World} {a1 a2 a3 : Addr} {v1 v2 v3 : Value} (h : (Below B w0 w ∧ B ≤ w.heap.size) ∧ w.cell? a1 = some v1 ∧ w.cell? a2 = some v2 ∧ w.cell? a3 = some v3) (hb : Below w.heap.size w w3) :
    (Below B w0 w3 ∧ B ≤ w3.heap.size) ∧ w3.cell? a1 = some v1 ∧ w3.cell? a2 = some v2 ∧ w3.cell? a3 = some v3 := ⟨hk0 h.1 hb, kept_cell h.2.1 hb, kept_cell h.2.2.1 hb, kept_cell h.2.2.2 hb⟩
theorem hk4 {B : Nat} {w0 w w3 : World} {a1 a2 a3 a4 : Addr} {v1 v2 v3 v4 : Value} (h : (Below B w0 w ∧ B ≤ w.heap.size) ∧ w.cell? a1 = some v1 ∧ w.cell? a2 = some v2 ∧ w.cell? a3 = some v3 ∧ w.cell? a4 = some v4) (hb : Below w.heap.size w w3) :
    (Below B w0 w3 ∧ B ≤ w3.heap.size) ∧ w3.cell? a1 = some v1 ∧ w3.cell? a2 = some v2 ∧ w3.cell? a3 = some v3 ∧ w3.cell? a4 = some v4 := ⟨hk0 h.1 hb, kept_cell h.2.1 hb, kept_cell h.2.2.1 hb, kept_cell h.2.2.2.1 hb, kept_cell h.2.2.2.2 hb⟩
end Go.Proofs.Ytpdfcffeinbcaaa
/- A drawn region, an operation at a time (after G3). -/
namespace Go.Proofs.Ytpdfcffeinbcaaa
open Go.RowKit
section
variable {P : Program} {ops : Array Oper} {Q : Exit → Act → World → Prop}
theorem take_at {S : World → Prop} {md : Region.Mode} {i d : Nat} {oi : Oper} {v : Value} {fuel : Nat} {listed : Array Bool} {a : Act} {w : World} (hi : ops[i]? = some oi) (hd : oi.dst = some d)
    (hs : Region.noSelect ops = true) (hf : Region.free md ops listed i = true) (hr : (Region.ready md ops listed).contains i = true)
    (hQ : ∀ c a w, Q (.panic c) (a.put (some d) v) w → Q (.panic c) a w) (hy : YieldsIf P ops S oi v a) (hS : S w)
    (h : wpAnyH P md ops Q S fuel (listed.setIfInBounds i true) (a.put (some d) v) w) : wpAnyH P md ops Q S (fuel + 1) listed a w :=
  wpAnyH_take hi hs hf hr (by rw [hd]; exact hQ) hy hS (by rw [hd]; exact h)
theorem pass_at {S : World → Prop} {md : Region.Mode} {i d : Nat} {oi : Oper} {fuel : Nat} {listed : Array Bool} {a : Act} {w : World} (hi : ops[i]? = some oi) (hd : oi.dst = some d)
    (hs : Region.noSelect ops = true) (hf : Region.free md ops listed i = true) (hr : (Region.ready md ops listed).contains i = true)
    (hQ : ∀ c a w, Q (.panic c) (a.put (some d) undef) w → Q (.panic c) a w) (hy : Region.wanted oi (yielded ops a.tmps) = false) (hS : S w)
    (h : wpAnyH P md ops Q S fuel (listed.setIfInBounds i true) (a.put (some d) undef) w) : wpAnyH P md ops Q S (fuel + 1) listed a w :=
  take_at hi hd hs hf hr hQ (Or.inr ⟨hy, rfl⟩) hS h
end
end Go.Proofs.Ytpdfcffeinbcaaa
/- Generic: a queue of one-cell values (a slice that is cut ahead and appended to). -/
namespace Go.Proofs.Ytpdfcffeinbcaaa
open Go.RowKit
def QueueAt (w : World) (base : Nat) (v : Value) (xs : List Value) : Prop :=
  (v = .slice none 0 0 ∧ xs = []) ∨ ∃ g off cap, v = .slice (some ⟨g, off, none⟩) xs.length cap ∧ base ≤ g ∧ g < w.heap.size ∧ xs.length ≤ cap ∧ cap ≤ 9223372036854775807 ∧ (∀ j, w.frozen? ⟨g, j, none⟩ = false) ∧
    (∀ j, j < cap → ∃ u, w.cell? ⟨g, off + j, none⟩ = some u) ∧ ∀ j (h : j < xs.length), w.cell? ⟨g, off + j, none⟩ = some xs[j]
theorem queue_nil (w : World) (base : Nat) : QueueAt w base (.slice none 0 0) [] := .inl ⟨rfl, rfl⟩
theorem QueueAt.of_own {w : World} {base n : Nat} {e : TypeId} {v : Value} {xs : List Value} (h : w.ownsRow base e 1 v n xs) : QueueAt w base v xs := by
  have hl : n = xs.length := by have := h.1; omega
  subst hl
  rcases h with ⟨_, ⟨rfl, h0⟩ | ⟨g, cap, cur, rfl, hB, hh, hn, hc, hsz, htk⟩⟩
  · exact .inl ⟨rfl, List.eq_nil_of_length_eq_zero h0⟩
  · have h' : w.ownsRow base e 1 (.slice (some ⟨g, 0, none⟩) xs.length cap) xs.length xs := ⟨by omega, .inr ⟨g, cap, cur, rfl, hB, hh, hn, hc, hsz, htk⟩⟩
    refine .inr ⟨g, 0, cap, rfl, hB, (Array.getElem?_eq_some_iff.1 hh).1, hn, by simpa [maxLen] using hc, fun j => ?_, fun j hj => ?_, fun j hj => ?_⟩
    · unfold World.frozen?; rw [hh]; simp
    · unfold World.cell?
      rw [hh]
      simp only [Option.isSome_none, Bool.false_eq_true, if_false, Nat.zero_add]
      exact ⟨_, Array.getElem?_eq_getElem (by omega)⟩
    · have h3 := h'.cells (g := g) rfl j _ (List.getElem?_eq_getElem hj)
      rw [add_zero] at h3
      rw [Nat.zero_add, h3]
theorem QueueAt.moves {M : List Nat} {w w1 : World} {base : Nat} {v : Value} {xs : List Value} (h : QueueAt w base v xs) (hm : Moves M w w1) (hM : ∀ g, v.ownBlock = some g → g ∉ M) : QueueAt w1 base v xs := by
  rcases h with h | ⟨g, off, cap, rfl, h1, h2, h3, h4, h5, h6, h7⟩
  · exact .inl h
  · have hg := hM g rfl
    exact .inr ⟨g, off, cap, rfl, h1, Nat.lt_of_lt_of_le h2 hm.2.2.2.1, h3, h4, fun j => (hm.frozen h2 hg j).trans (h5 j), fun j hj => by obtain ⟨u, hu⟩ := h6 j hj; exact ⟨u, (hm.cell h2 hg _).trans hu⟩, fun j hj => (hm.cell h2 hg _).trans (h7 j hj)⟩
theorem QueueAt.lt {w : World} {base : Nat} {v : Value} {xs : List Value} (h : QueueAt w base v xs) : ∀ g, v.ownBlock = some g → base ≤ g ∧ g < w.heap.size := by
  intro g e
  rcases h with ⟨rfl, _⟩ | ⟨g', off, cap, rfl, h1, h2, _⟩
  · simp [Value.ownBlock] at e
  · cases e; exact ⟨h1, h2⟩
theorem QueueAt.form {w : World} {base : Nat} {v : Value} {xs : List Value} (h : QueueAt w base v xs) : ∃ X cap, v = .slice X xs.length cap := by
  rcases h with ⟨rfl, rfl⟩ | ⟨g', off, cap, rfl, _⟩
  · exact ⟨_, _, rfl⟩
  · exact ⟨_, _, rfl⟩
/-- The first is there; behind it the rest is a queue. -/
theorem QueueAt.cut {w : World} {base : Nat} {v : Value} {x : Value} {xs : List Value} (h : QueueAt w base v (x :: xs)) :
    ∃ g off cap, v = .slice (some ⟨g, off, none⟩) (xs.length + 1) (cap + 1) ∧ cap + 1 ≤ 9223372036854775807 ∧ xs.length ≤ cap ∧ w.cell? ⟨g, off, none⟩ = some x ∧ base ≤ g ∧ g < w.heap.size ∧
      QueueAt w base (.slice (some (if cap = 0 then ⟨g, off, none⟩ else ⟨g, off + 1, none⟩)) xs.length cap) xs := by
  rcases h with ⟨_, h⟩ | ⟨g, off, cap, rfl, h1, h2, h3, h4, h5, h6, h7⟩
  · cases h
  · rw [List.length_cons] at h3
    obtain ⟨c, rfl⟩ : ∃ c, cap = c + 1 := ⟨cap - 1, by omega⟩
    refine ⟨g, off, c, rfl, h4, by omega, h7 0 (by simp), h1, h2, ?_⟩
    by_cases hc : c = 0
    · subst hc
      have : xs = [] := List.eq_nil_of_length_eq_zero (by omega)
      subst this
      rw [if_pos rfl]
      exact .inr ⟨g, off, 0, rfl, h1, h2, by simp, by omega, h5, fun j hj => by omega, fun j hj => by simp at hj⟩
    · rw [if_neg hc]
      exact .inr ⟨g, off + 1, c, rfl, h1, h2, by omega, by omega, h5, fun j hj => by have := h6 (j + 1) (by omega); rwa [show off + 1 + j = off + (j + 1) by omega], fun j hj => by have := h7 (j + 1) (by simp; omega); rw [show off + 1 + j = off + (j + 1) by omega, this]; simp⟩
theorem app_queue {P : Program} {ops : Array Oper} {rest : List Oper} {o : Oper} {a : Act} {Q : Exit → Act → World → Prop} {W : World} (base : Nat) (hgd : o.guard = none) (s x : Operand) (t e : TypeId) (z : Value) (bytes : Nat)
    (ho : o.op = .call { callee := .builtin .append, args := #[s, x], argTypes := #[t, t] })
    (ht : P.underlying t = some (.slice e)) (hinfo : (P.info? e).map (fun i => (i.zero, i.size, i.bytes)) = some (some z, 1, bytes)) (hz : z.cells.size = 1)
    (v : Value) (xs : List Value) (y : Value) (hs : a.eval s = v) (nb : Nat) (hx : a.eval x = .slice (some ⟨nb, 0, none⟩) 1 1) (hnb : nb = W.heap.size) (h1 : y.oneCell' = true)
    (HO : QueueAt W base v xs) (hbase : base ≤ W.heap.size) (hlen : xs.length + 1 ≤ 140737488355328) (hl : (xs.length + 1) * bytes ≤ 140737488355328)
    (h : ∀ v1 w1, QueueAt w1 base v1 (xs ++ [y]) → W.grownBy w1 v.ownBlock → (∀ g, v1.ownBlock = some g → v.ownBlock = some g ∨ W.heap.size ≤ g) → W.heap.size < w1.heap.size → wpList P ops Q rest (a.put o.dst v1) w1) :
    wpList P ops Q (o :: rest) a (W.alloc (.cells #[y] e)) := by
  obtain ⟨i0, hi, hzz⟩ := Option.map_eq_some_iff.1 hinfo
  simp only [Prod.mk.injEq] at hzz
  obtain ⟨hz0, hz1, hz2⟩ := hzz
  subst hnb
  have hgrow : ∀ v' w', w'.ownsRow (W.alloc (.cells #[y] e)).heap.size e 1 v' (xs.length + 1) (xs ++ [y]) → (W.alloc (.cells #[y] e)).grownBy w' none → wpList P ops Q rest (a.put o.dst v') w' := fun v' w' hown hg => by
    rw [al_size] at hown
    have hgr : W.grownBy w' none := World.grownBy.trans (World.grownBy_alloc W _ _) hg
    have hsz := hg.size
    rw [al_size] at hsz
    exact h _ w' (QueueAt.of_own (own_base hown (by omega))) ⟨hgr.os, hgr.tape, hgr.output, hgr.size, fun k hk _ => hgr.block k hk (by simp)⟩ (fun g e => .inr (by have := (hown.lt g e).1; omega)) (by omega)
  have hnew : ∀ j u, [y][j]? = some u → (W.alloc (.cells #[y] e)).cell? ((⟨W.heap.size, 0, none⟩ : Addr).add j) = some u := fun j u hu => by rw [add_zero, cell_new]; simpa using hu
  rcases HO with ⟨rfl, rfl⟩ | ⟨g, off, cap, rfl, q1, q2, q3, q4, q5, q6, q7⟩
  · exact wpList_append_grows (W.alloc (.cells #[y] e)) hgd s x t ho e i0 z 1 bytes ht hi hz0 hz1 hz2 hz (by omega) none 0 0 [] hs (fun _ => ⟨rfl, rfl⟩) rfl (fun b e => by cases e) ⟨W.heap.size, 0, none⟩ 1 1 [y] hx rfl hnew (by simpa using h1) (by omega) (by simp only [maxLen]; omega) (by simpa using hl) hgrow
  · have hcl : ∀ j, j < cap → ∃ u, (W.alloc (.cells #[y] e)).cell? ⟨g, off + j, none⟩ = some u := fun j hj => by
      obtain ⟨u, hu⟩ := q6 j hj
      exact ⟨u, (World.cell?_alloc_lt _ _ ⟨g, off + j, none⟩ q2).trans hu⟩
    have hfz : ∀ j, (W.alloc (.cells #[y] e)).frozen? ⟨g, j, none⟩ = false := fun j => by
      have := q5 j
      unfold World.frozen? at this ⊢
      rw [heap_alloc_old _ _ q2]; exact this
    refine wpList_append_arg (W.alloc (.cells #[y] e)) hgd s x t ho e i0 z 1 bytes ht hi hz0 hz1 hz2 hz (by omega) g off xs.length cap xs hs (by omega) (fun j u hu => ?_) ⟨W.heap.size, 0, none⟩ 1 1 [y] hx rfl hnew (by simpa using h1) (fun hr j hj => ?_) (by simp only [maxLen]; omega) hl (fun hr => ?_) (fun _ => hgrow)
    · obtain ⟨hj, rfl⟩ := List.getElem?_eq_some_iff.1 hu
      exact (World.cell?_alloc_lt _ _ ⟨g, off + j, none⟩ q2).trans (q7 j hj)
    · obtain rfl : j = 0 := by simpa using hj
      obtain ⟨u, hu⟩ := hcl xs.length (by omega)
      rw [Nat.mul_one, Nat.add_zero]
      exact ⟨by rw [hu]; rfl, hfz _⟩
    · rw [Nat.mul_one]
      show wpList P ops Q rest _ ((W.alloc (.cells #[y] e)).setCell ⟨g, off + xs.length, none⟩ y)
      have hsz : ((W.alloc (.cells #[y] e)).setCell ⟨g, off + xs.length, none⟩ y).heap.size = W.heap.size + 1 := by simp [World.setCell]
      refine h _ _ (.inr ⟨g, off, cap, by rw [List.length_append]; rfl, q1, by omega, by simp; omega, q4, fun j => by rw [World.frozen?_setCell]; exact hfz j, fun j hj => ?_, fun j hj => ?_⟩) ?_ (fun g' e => .inl e) (by omega)
      · obtain ⟨u, hu⟩ := hcl j hj
        by_cases e : j = xs.length
        · subst e; exact ⟨y, set_here _ _ _ _ _ hu⟩
        · exact ⟨u, (set_far _ _ _ _ _ (by omega)).trans hu⟩
      · by_cases e : j = xs.length
        · subst e
          obtain ⟨u, hu⟩ := hcl xs.length (by omega)
          rw [set_here _ _ _ _ _ hu]; simp
        · have hj2 : j < xs.length := by simp at hj; omega
          rw [set_far _ _ _ _ _ (by omega), List.getElem_append_left hj2]
          exact (World.cell?_alloc_lt _ _ ⟨g, off + j, none⟩ q2).trans (q7 j hj2)
      · refine ⟨rfl, rfl, rfl, by omega, fun k hk hne => ?_⟩
        rw [Below.heap_setCell _ ⟨g, off + xs.length, none⟩ y k (fun e => hne (by rw [e]; rfl))]
        exact heap_alloc_old _ _ hk
end Go.Proofs.Ytpdfcffeinbcaaa
/- A drawn region whose last operation (a store that all others come ahead of) may write what the others load: what is held is asked for up to it alone. -/
namespace Go.Proofs.Ytpdfcffeinbcaaa
open Go.RowKit
section
variable {P : Program} {ops : Array Oper} {Q : Exit → Act → World → Prop} {md : Region.Mode} {S : World → Prop} {L : Nat}
/-- As the kit's 'wpAnyH', but S is asked for only while operation L has not come up. -/
def wpAnyL (P : Program) (md : Region.Mode) (ops : Array Oper) (Q : Exit → Act → World → Prop) (S : World → Prop) (L : Nat) : Nat → Array Bool → Act → World → Prop
  | 0, listed, a, w => Region.ready md ops listed = [] ∧ Q .normal a w
  | fuel + 1, listed, a, w =>
    (Region.ready md ops listed = [] → Q .normal a w) ∧
    ∀ i ∈ Region.ready md ops listed, wpOp P ops Q i (fun a' w' => ((listed.setIfInBounds i true).getD L true = false → S w') ∧ wpAnyL P md ops Q S L fuel (listed.setIfInBounds i true) a' w') a w
theorem wpAny_of_heldL : ∀ (fuel : Nat) (listed : Array Bool) (a : Act) (w : World), wpAnyL P md ops Q S L fuel listed a w → wpAny P md ops Q fuel listed a w
  | 0, _, _, _, h => h
  | fuel + 1, _, _, _, h => ⟨h.1, fun i hi => wpOp_mono (fun a' w' h' => wpAny_of_heldL fuel _ a' w' h'.2) (h.2 i hi)⟩
/-- Does L wait for i? -/
def waitsFor (md : Region.Mode) (ops : Array Oper) (L i : Nat) : Bool := match ops[L]? with
  | some o => o.after.any fun e => Region.binds md e && e.on == i
  | none => false
theorem waitsFor_spec {i : Nat} (h : waitsFor md ops L i = true) : ∃ o, ops[L]? = some o ∧ ∃ e ∈ o.after, Region.binds md e = true ∧ e.on = i := by
  unfold waitsFor at h
  split at h
  · rename_i o ho
    rw [Array.any_eq_true'] at h
    obtain ⟨e, he, h2⟩ := h
    rw [Bool.and_eq_true, beq_iff_eq] at h2
    exact ⟨o, ho, e, he, h2.1, h2.2⟩
  · cases h
theorem getD_set_self {l : Array Bool} {i : Nat} : (l.setIfInBounds i true).getD i true = true := by
  rcases Nat.lt_or_ge i l.size with h | h
  · simp [Array.getD, h]
  · simp [Array.getD, Nat.not_lt.2 h]
theorem wpAnyL_first {i : Nat} {oi : Oper} {v : Value} (hi : ops[i]? = some oi) (hsel : ∀ (j : Nat) (o : Oper) cs b, ops[j]? = some o → o.op ≠ .select cs b) (hLi : waitsFor md ops L i = true) (hne : L ≠ i)
    (hQ : ∀ c a w, Q (.panic c) (a.put oi.dst v) w → Q (.panic c) a w) :
    ∀ (fuel : Nat) (listed : Array Bool) (a : Act) (w : World),
      (∀ j oj, ops[j]? = some oj → j ≠ i → listed.getD j true = false → (∀ e ∈ oj.after, Region.binds md e = true → e.on ≠ i) → oi.apart ops oj = true) →
      i ∈ Region.ready md ops listed → listed.getD L true = false → YieldsIf P ops S oi v a → S w →
      wpAnyL P md ops Q S L fuel (listed.setIfInBounds i true) (a.put oi.dst v) w → wpAnyL P md ops Q S L (fuel + 1) listed a w := by
  intro fuel
  induction fuel with
  | zero =>
    intro listed a w _ hr _ hy hS H
    refine ⟨fun h => (by rw [h] at hr; cases hr), fun j hj => ?_⟩
    by_cases hji : j = i
    · subst hji; exact hy.wpOp hi hS ⟨fun _ => hS, H⟩
    · have := ready_mono hj hji
      rw [H.1] at this
      cases this
  | succ fuel ih =>
    intro listed a w hfree hr hL hy hS H
    refine ⟨fun h => (by rw [h] at hr; cases hr), fun j hj => ?_⟩
    by_cases hji : j = i
    · subst hji; exact hy.wpOp hi hS ⟨fun _ => hS, H⟩
    · have h1 := H.2 j (ready_mono hj hji)
      obtain ⟨hjun, oj, hoj, hall⟩ := mem_ready.1 hj
      have hnot : ∀ e ∈ oj.after, Region.binds md e = true → e.on ≠ i := fun e he hb heq => by
        have h1 := hall e he hb
        have h0 := (mem_ready.1 hr).1
        rw [heq] at h1
        rcases Nat.lt_or_ge i listed.size with h' | h'
        · simp [h'] at h0 h1; rw [h0] at h1; cases h1
        · simp [Array.getElem?_eq_none h'] at h1
      have hjL : j ≠ L := fun e => by
        subst e
        obtain ⟨o, ho, e, he, hb, heq⟩ := waitsFor_spec hLi
        rw [hoj] at ho
        cases ho
        exact hnot e he hb heq
      have h2 := wpOp_putIf hoj (hfree j oj hoj hji hjun hnot) (fun cs b => hsel i oi cs b hi) (fun cs b => hsel j oj cs b hoj) hQ hy h1
      have hfree' : ∀ k ok, ops[k]? = some ok → k ≠ i → (listed.setIfInBounds j true).getD k true = false →
          (∀ e ∈ ok.after, Region.binds md e = true → e.on ≠ i) → oi.apart ops ok = true := fun k ok hk hki hun hno => by
        refine hfree k ok hk hki ?_ hno
        by_cases hjk : j = k
        · subst hjk; exact hjun
        · rw [getD_set_ne true hjk] at hun; exact hun
      have hL1 : (listed.setIfInBounds j true).getD L true = false := by rw [getD_set_ne true hjL]; exact hL
      have hL2 : ((listed.setIfInBounds i true).setIfInBounds j true).getD L true = false := by rw [getD_set_ne true hjL, getD_set_ne true (Ne.symm hne)]; exact hL
      refine wpOp_mono (fun a' w' h3 => ⟨fun _ => h3.2.1 hL2, ih (listed.setIfInBounds j true) a' w' hfree' (ready_mono hr (Ne.symm hji)) hL1 h3.1 (h3.2.1 hL2) ?_⟩) h2
      rw [Array.setIfInBounds_comm _ _ hji]
      exact h3.2.2
theorem takeL {i d : Nat} {oi : Oper} {v : Value} {fuel : Nat} {listed : Array Bool} {a : Act} {w : World} (hi : ops[i]? = some oi) (hd : oi.dst = some d)
    (hs : Region.noSelect ops = true) (hf : Region.free md ops listed i = true) (hr : (Region.ready md ops listed).contains i = true) (hLi : (waitsFor md ops L i && (listed.getD L true == false)) = true) (hne : (L == i) = false)
    (hQ : ∀ c a w, Q (.panic c) (a.put (some d) v) w → Q (.panic c) a w) (hy : YieldsIf P ops S oi v a) (hS : S w)
    (h : wpAnyL P md ops Q S L fuel (listed.setIfInBounds i true) (a.put (some d) v) w) : wpAnyL P md ops Q S L (fuel + 1) listed a w := by
  rw [Bool.and_eq_true, beq_iff_eq] at hLi
  exact wpAnyL_first hi (Region.noSelect_spec hs) hLi.1 (by simpa using hne) (by rw [hd]; exact hQ) fuel listed a w (Region.free_spec hi hf) (by simpa using hr) hLi.2 hy hS (by rw [hd]; exact h)
theorem passL {i d : Nat} {oi : Oper} {fuel : Nat} {listed : Array Bool} {a : Act} {w : World} (hi : ops[i]? = some oi) (hd : oi.dst = some d)
    (hs : Region.noSelect ops = true) (hf : Region.free md ops listed i = true) (hr : (Region.ready md ops listed).contains i = true) (hLi : (waitsFor md ops L i && (listed.getD L true == false)) = true) (hne : (L == i) = false)
    (hQ : ∀ c a w, Q (.panic c) (a.put (some d) undef) w → Q (.panic c) a w) (hy : Region.wanted oi (yielded ops a.tmps) = false) (hS : S w)
    (h : wpAnyL P md ops Q S L fuel (listed.setIfInBounds i true) (a.put (some d) undef) w) : wpAnyL P md ops Q S L (fuel + 1) listed a w :=
  takeL hi hd hs hf hr hLi hne hQ (Or.inr ⟨hy, rfl⟩) hS h
/-- An operation is carried out, no other may come up; behind it S anew. -/
theorem stepL {i : Nat} {o : Oper} {fuel : Nat} {listed : Array Bool} {a : Act} {w : World} (hr : Region.ready md ops listed = [i]) (ho : ops[i]? = some o)
    (h : ∀ K' : Act → World → Prop, Shut (∀ a w, S w → (S w → wpAnyL P md ops Q S L fuel (listed.setIfInBounds i true) a w) → K' a w) → if Region.wanted o (yielded ops a.tmps) = true then Oper.wp P o a w K' Q else K' (a.put o.dst undef) w) : wpAnyL P md ops Q S L (fuel + 1) listed a w := by
  refine ⟨fun h0 => (by rw [hr] at h0; cases h0), fun j hj => ?_⟩
  rw [hr, List.mem_singleton] at hj
  subst hj
  exact wpOp_step ho (fun K' hK => h K' (fun a w hS hW => hK a w ⟨fun _ => hS, hW hS⟩))
/-- The last. -/
theorem lastL {o : Oper} {fuel : Nat} {listed : Array Bool} {a : Act} {w : World} (hr : Region.ready md ops listed = [L]) (ho : ops[L]? = some o) (he : Region.ready md ops (listed.setIfInBounds L true) = [])
    (h : ∀ K' : Act → World → Prop, Shut (∀ a w, Q .normal a w → K' a w) → if Region.wanted o (yielded ops a.tmps) = true then Oper.wp P o a w K' Q else K' (a.put o.dst undef) w) : wpAnyL P md ops Q S L (fuel + 1) listed a w := by
  refine ⟨fun h0 => (by rw [hr] at h0; cases h0), fun j hj => ?_⟩
  rw [hr, List.mem_singleton] at hj
  subst hj
  refine wpOp_step ho (fun K' hK => h K' (fun a w hq => hK a w ⟨fun hc => (by rw [getD_set_self] at hc; cases hc), ?_⟩))
  cases fuel with
  | zero => exact ⟨he, hq⟩
  | succ n => exact ⟨fun _ => hq, by rw [he]; simp⟩
theorem region_heldL {id : Nat} {a : Act} {w : World} (hm : P.follows .mixedOrders = true) (hS : S w.drew)
    (h : S w.drew → wpAnyL P .any ops Q S L ops.size (Array.replicate ops.size false) a w.drew) : (Code.region id ops true).wp P Q a w :=
  wp_region_any hm (wpAny_of_heldL _ _ _ _ (h hS))
end
end Go.Proofs.Ytpdfcffeinbcaaa
/- PLAIN: heaps in a list: up, down, what a push, a pop, a mending leave. -/
namespace Go.Proofs.Ytpdfcffeinbcaaa
open Go.RowKit
section
variable {α : Type} [Inhabited α]
def swpL (L : List α) (i j : Nat) : List α := (L.set i L[j]!).set j L[i]!
theorem swpL_length (L : List α) (i j : Nat) : (swpL L i j).length = L.length := by simp [swpL]
theorem swpL_get {L : List α} {i j : Nat} (hi : i < L.length) (hj : j < L.length) (k : Nat) : (swpL L i j)[k]! = if k = j then L[i]! else if k = i then L[j]! else L[k]! := by
  unfold swpL
  simp only [List.getElem!_eq_getElem?_getD, List.getElem?_set, List.length_set]
  by_cases h1 : k = j
  · subst h1; simp [hj]
  · by_cases h2 : k = i
    · subst h2; simp [h1, hi, Ne.symm h1]
    · simp [h1, h2, Ne.symm h1, Ne.symm h2]
theorem swpL_perm {L : List α} {i j : Nat} (hi : i < L.length) (hj : j < L.length) : (swpL L i j).Perm L := by
  have h := Array.swap_perm (xs := L.toArray) (i := i) (j := j) (by simpa using hi) (by simpa using hj)
  have h2 := Array.perm_iff_toList_perm.1 h
  have e : (L.toArray.swap i j (by simpa using hi) (by simpa using hj)).toList = swpL L i j := by
    unfold swpL
    rw [getElem!_pos L i hi, getElem!_pos L j hj]
    simp [Array.swap]
  rw [e] at h2
  exact h2
def par (k : Nat) : Nat := (k - 1) / 2
theorem par_lt {k : Nat} (h : 0 < k) : par k < k := by unfold par; omega
/-- How one stands ahead of another. -/
structure Ord (lt : α → α → Bool) : Prop where
  asym : ∀ a b, lt a b = true → lt b a = false
  tr : ∀ a b c, lt b a = false → lt c b = false → lt c a = false
variable {lt : α → α → Bool}
omit [Inhabited α] in
theorem Ord.irrefl (h : Ord lt) (a : α) : lt a a = false := by
  cases e : lt a a with
  | false => rfl
  | true => have := h.asym a a e; rw [e] at this; cases this
/-- The first n are a heap. -/
def Heap (lt : α → α → Bool) (L : List α) (n : Nat) : Prop := ∀ k, 0 < k → k < n → lt L[k]! L[par k]! = false
/-- They are but for the place i: all beneath it are fit for what is above it. -/
def Near (lt : α → α → Bool) (L : List α) (n i : Nat) : Prop :=
  (∀ k, 0 < k → k < n → k ≠ i → par k ≠ i → lt L[k]! L[par k]! = false) ∧ ∀ k, 0 < k → k < n → 0 < i → par k = i → lt L[k]! L[par i]! = false
/-- They are but for the way from i up. -/
def UpTo (lt : α → α → Bool) (L : List α) (n i : Nat) : Prop :=
  (∀ k, 0 < k → k < n → k ≠ i → lt L[k]! L[par k]! = false) ∧ ∀ k, 0 < k → k < n → 0 < i → par k = i → lt L[k]! L[par i]! = false
theorem UpTo.near {L : List α} {n i : Nat} (h : UpTo lt L n i) : Near lt L n i := ⟨fun k h0 h1 h2 _ => h.1 k h0 h1 h2, h.2⟩
theorem Heap.upTo (o : Ord lt) {L : List α} {n : Nat} (h : Heap lt L n) (i : Nat) (hi : i < n) : UpTo lt L n i :=
  ⟨fun k h0 h1 _ => h k h0 h1, fun k h0 h1 hi0 hp => o.tr _ _ _ (h i hi0 hi) (by have := h k h0 h1; rwa [hp] at this)⟩
theorem UpTo.heap {L : List α} {n i : Nat} (h : UpTo lt L n i) (hi : 0 < i → i < n → lt L[i]! L[par i]! = false) : Heap lt L n := fun k h0 h1 => by
  by_cases e : k = i
  · subst e; exact hi h0 h1
  · exact h.1 k h0 h1 e
theorem UpTo.step (o : Ord lt) {L : List α} {n i : Nat} (h : UpTo lt L n i) (hn : n ≤ L.length) (hi : i < n) (h0 : 0 < i) (hl : lt L[i]! L[par i]! = true) : UpTo lt (swpL L (par i) i) n (par i) := by
  have hp := par_lt h0
  have g := swpL_get (L := L) (i := par i) (j := i) (by omega) (by omega)
  have hpi : par (par i) ≠ i := by unfold par at *; omega
  constructor
  · intro k hk0 hk1 hk
    have hkp := par_lt hk0
    rw [g, g]
    by_cases e : k = i
    · subst e
      rw [if_pos rfl, if_neg (by omega), if_pos rfl]
      exact o.asym _ _ hl
    · rw [if_neg e, if_neg hk]
      by_cases e2 : par k = i
      · rw [if_pos e2]
        exact h.2 k hk0 hk1 h0 e2
      · rw [if_neg e2]
        by_cases e3 : par k = par i
        · rw [if_pos e3]
          have := h.1 k hk0 hk1 e
          rw [e3] at this
          exact o.tr _ _ _ (o.asym _ _ hl) this
        · rw [if_neg e3]
          exact h.1 k hk0 hk1 e
  · intro k hk0 hk1 hp0 hk
    have hkp := par_lt hk0
    have hpp := par_lt hp0
    have hpar := h.1 (par i) hp0 (by omega) (by omega)
    have hq : par (par i) ≠ par i := by omega
    by_cases e : k = i
    · subst e; rw [g, g, if_pos rfl, if_neg hpi, if_neg hq]; exact hpar
    · have hk2 : k ≠ par i := by omega
      rw [g, g, if_neg hpi, if_neg hq, if_neg e, if_neg hk2]
      have := h.1 k hk0 hk1 e
      rw [hk] at this
      exact o.tr _ _ _ hpar this
theorem par_child {k i : Nat} (h : 0 < k) : par k = i ↔ k = 2 * i + 1 ∨ k = 2 * i + 2 := by unfold par; omega
theorem Near.step (o : Ord lt) {L : List α} {n i j : Nat} (h : Near lt L n i) (hn : n ≤ L.length) (hj : j < n) (h0 : 0 < j) (hp : par j = i) (hl : lt L[j]! L[i]! = true)
    (hm : ∀ k, 0 < k → k < n → par k = i → lt L[k]! L[j]! = false) : Near lt (swpL L i j) n j ∧ lt (swpL L i j)[j]! (swpL L i j)[par j]! = false ∧ (0 < i → lt (swpL L i j)[i]! (swpL L i j)[par i]! = false) := by
  have hij : i < j := by have := par_lt h0; omega
  have g := swpL_get (L := L) (i := i) (j := j) (by omega) (by omega)
  refine ⟨⟨fun k hk0 hk1 hk hkj => ?_, fun k hk0 hk1 _ hk => ?_⟩, ?_, fun hi0 => ?_⟩
  · have hkp := par_lt hk0
    rw [g, g, if_neg hk, if_neg hkj]
    by_cases e : k = i
    · subst e
      rw [if_pos rfl, if_neg (by omega)]
      exact h.2 j h0 hj hk0 hp
    · rw [if_neg e]
      by_cases e2 : par k = i
      · rw [if_pos e2]; exact hm k hk0 hk1 e2
      · rw [if_neg e2]; exact h.1 k hk0 hk1 e e2
  · have hkp := par_lt hk0
    rw [g, g, if_neg (by omega), if_neg (by omega), hp, if_neg (by omega), if_pos rfl]
    have := h.1 k hk0 hk1 (by omega) (by omega)
    rw [hk] at this
    exact this
  · rw [g, g, if_pos rfl, hp, if_neg (by omega), if_pos rfl]
    exact o.asym _ _ hl
  · have := par_lt hi0
    rw [g, g, if_neg (by omega), if_pos rfl, if_neg (by omega), if_neg (by omega)]
    exact h.2 j h0 hj hi0 hp
theorem Near.done {L : List α} {n i : Nat} (h : Near lt L n i) (hm : ∀ k, 0 < k → k < n → par k = i → lt L[k]! L[i]! = false) : UpTo lt L n i :=
  ⟨fun k h0 h1 hk => by
    by_cases e : par k = i
    · have := hm k h0 h1 e; rwa [← e] at this
    · exact h.1 k h0 h1 hk e, h.2⟩
theorem Heap.root (o : Ord lt) {L : List α} {n : Nat} (h : Heap lt L n) : ∀ k, k < n → lt L[k]! L[0]! = false := by
  intro k
  induction k using Nat.strongRecOn with
  | ind k ih =>
    intro hk
    by_cases h0 : k = 0
    · subst h0; exact o.irrefl _
    · have hp := par_lt (by omega : 0 < k)
      exact o.tr _ _ _ (ih _ hp (by omega)) (h k (by omega) hk)
/-- One more at the end. -/
theorem Heap.pushed {L : List α} (h : Heap lt L L.length) (a : α) : UpTo lt (L ++ [a]) (L.length + 1) L.length := by
  have g : ∀ k, k < L.length → (L ++ [a])[k]! = L[k]! := fun k hk => by
    rw [getElem!_pos _ k (by simp; omega), getElem!_pos _ k hk, List.getElem_append_left hk]
  refine ⟨fun k h0 h1 hk => ?_, fun k h0 h1 _ hp => ?_⟩
  · have := par_lt h0
    rw [g k (by omega), g _ (by omega)]
    exact h k h0 (by omega)
  · have := par_lt h0; omega
/-- One's place is given to another. -/
theorem Heap.put (o : Ord lt) {L : List α} {n : Nat} (h : Heap lt L n) {i : Nat} (a : α) (hi : i < n) : Near lt (L.set i a) n i := by
  have hg : ∀ k, k ≠ i → (L.set i a)[k]! = L[k]! := fun k hk => by
    simp only [List.getElem!_eq_getElem?_getD, List.getElem?_set]; rw [if_neg (Ne.symm hk)]
  refine ⟨fun k h0 h1 hk hp => ?_, fun k h0 h1 hi0 hp => ?_⟩
  · rw [hg k hk, hg _ hp]; exact h k h0 h1
  · have hkp := par_lt h0
    have hip := par_lt hi0
    rw [hg k (by omega), hg _ (by omega)]
    have := h k h0 h1
    rw [hp] at this
    exact o.tr _ _ _ (h i hi0 hi) this
theorem Near.congr {L M : List α} {n i : Nat} (h : Near lt L n i) (e : ∀ k, k < n → M[k]! = L[k]!) (hi : i < n) : Near lt M n i :=
  ⟨fun k h0 h1 hk hp => by have := par_lt h0; rw [e k h1, e _ (by omega)]; exact h.1 k h0 h1 hk hp, fun k h0 h1 hi0 hp => by have := par_lt hi0; rw [e k h1, e _ (by omega)]; exact h.2 k h0 h1 hi0 hp⟩
theorem Heap.congr {L M : List α} {n : Nat} (h : Heap lt L n) (e : ∀ k, k < n → M[k]! = L[k]!) : Heap lt M n :=
  fun k h0 h1 => by have := par_lt h0; rw [e k h1, e _ (by omega)]; exact h k h0 h1
theorem Heap.less {L : List α} {n m : Nat} (h : Heap lt L n) (hm : m ≤ n) : Heap lt L m := fun k h0 h1 => h k h0 (by omega)
/-- The last takes the place of i. -/
theorem Heap.swapped (o : Ord lt) {L : List α} {n i : Nat} (h : Heap lt L (n + 1)) (hn : n + 1 = L.length) (hi : i < n) : Near lt (swpL L i n) n i := by
  refine (h.less (Nat.le_succ n)).put o L[n]! hi |>.congr (fun k hk => ?_) hi
  rw [swpL_get (by omega) (by omega), if_neg (by omega)]
  by_cases e : k = i
  · subst e
    rw [if_pos rfl, getElem!_pos _ k (by rw [List.length_set]; omega)]
    simp
  · rw [if_neg e]
    simp only [List.getElem!_eq_getElem?_getD, List.getElem?_set]; rw [if_neg (Ne.symm e)]
theorem get_take {L : List α} {n k : Nat} (hk : k < n) : (L.take n)[k]! = L[k]! := by
  simp only [List.getElem!_eq_getElem?_getD, List.getElem?_take]
  rw [if_pos hk]
theorem swpL_last {L : List α} {n i : Nat} (hn : n + 1 = L.length) (hi : i ≤ n) : (swpL L i n)[n]! = L[i]! := by
  rw [swpL_get (by omega) (by omega), if_pos rfl]
theorem split_last {L : List α} {n : Nat} (hn : n + 1 = L.length) : L = L.take n ++ [L[n]!] := by
  rw [getElem!_pos L n (by omega), ← List.take_succ_eq_append_getElem (by omega), hn, List.take_length]
end
end Go.Proofs.Ytpdfcffeinbcaaa
/- Heaps behind an interface: the walks of up, down, Push, Pop, Fix, Remove, by what is known of the five methods alone. -/
namespace Go.Proofs.Ytpdfcffeinbcaaa
open Go.RowKit
/-- A method's call: the function that it comes to, and what that does. -/
def Meth (t : TypeId) (v : Value) (name : String) (xs : List Value) (w : World) (Q : Ending → World → Prop) : Prop :=
  ∃ f r, (method 249 t v name).run Try.prog w = .ok (f, r) w ∧ (callFunc f (r :: xs).toArray).run Try.prog w = .ok (.enter f (r :: xs).toArray) w ∧ Calls Try.prog f (r :: xs).toArray w Q
structure HeapOps {α : Type} [Inhabited α] (t : TypeId) (v : Value) (lt : α → α → Bool) (R : World → List α → Prop) (F : World → World → Prop) : Prop where
  refl : ∀ w, F w w
  trans : ∀ w w1 w2, F w w1 → F w1 w2 → F w w2
  len : ∀ w L, R w L → Meth t v "Len" [] w fun e w' => e = .returned (.int .i64 (L.length : Int)) ∧ R w' L ∧ F w w'
  less : ∀ w L (i j : Nat), R w L → i < L.length → j < L.length → Meth t v "Less" [.int .i64 i, .int .i64 j] w fun e w' => e = .returned (.bool (lt L[i]! L[j]!)) ∧ R w' L ∧ F w w'
  swap : ∀ w L (i j : Nat), R w L → i < L.length → j < L.length → Meth t v "Swap" [.int .i64 i, .int .i64 j] w fun e w' => e = .returned (.tuple #[]) ∧ R w' (swpL L i j) ∧ F w w'
variable {α : Type} [Inhabited α] {t : TypeId} {v : Value} {lt : α → α → Bool} {R : World → List α → Prop} {F : World → World → Prop}
set_option maxRecDepth 100000 in
theorem up_c (H : HeapOps t v lt R F) (o : Ord lt) {w : World} {L : List α} {n j : Nat} (hR : R w L) (hu : UpTo lt L n j) (hj : j < n) (hn : n ≤ L.length) (hl : L.length ≤ 1099511627776) :
    Calls Try.prog 105 #[.iface t v, .int .i64 j] w fun e w' => e = .returned (.tuple #[]) ∧ ∃ L', R w' L' ∧ L'.Perm L ∧ Heap lt L' n ∧ (∀ k, n ≤ k → L'[k]! = L[k]!) ∧ F w w' := by
  have HR := Lib.hid hR
  have HU := Lib.hid hu
  clear hR hu
  go_enter Try.func105, Try.ntmps105
  go_wp2
  go_loopw [1] (fun i wr => ∃ (j : Nat) (L' : List α), i = .int .i64 j ∧ j < n ∧ R wr L' ∧ L'.Perm L ∧ UpTo lt L' n j ∧ (∀ k, n ≤ k → L'[k]! = L[k]!) ∧ F w wr) (fun i _ => (intOf i).toNat)
  case atStart => exact ⟨j, L, rfl, hj, HR.out, .refl _, HU.out, fun _ _ => rfl, H.refl _⟩
  case round =>
    clear hj
    obtain ⟨j, L', rfl, hj, hR, hp, hu, hk, hF⟩ := hrel
    have hll := hp.length_eq
    have HU := Lib.hid hu
    have HP := Lib.hid hp
    have HK := Lib.hid hk
    have HF := Lib.hid hF
    clear hu hp hk hF
    by_cases h0 : j = 0
    · subst h0
      have HR := Lib.hid hR
      clear hR
      go_wp2
      go_end0
      exact ⟨rfl, L', HR.out, HP.out, HU.out.heap (by omega), HK.out, HF.out⟩
    · obtain ⟨p, hp⟩ : ∃ p, p = par j := ⟨_, rfl⟩
      have hj1 : ((j : Int) - 1).tdiv 2 = (p : Int) := by rw [Int.tdiv_eq_ediv_of_nonneg (by omega)]; unfold par at hp; omega
      have hpj : p < j := by rw [hp]; exact par_lt (by omega)
      have hjl : j ≤ 1099511627776 := by omega
      have hne : ¬ (p : Int) = (j : Int) := by omega
      obtain ⟨f, r, hm, hc, hcall⟩ := H.less wr L' j p hR (by omega) (by omega)
      have HC := Lib.hid hcall
      have HLL := Lib.hid hll
      have HPP := Lib.hid hp
      clear hcall hR hll hp
      obtain ⟨b, hb⟩ : ∃ b, b = lt L'[j]! L'[p]! := ⟨_, rfl⟩
      rw [← hb] at HC
      have HB := Lib.hid hb
      clear hb
      go_wp2_with fail
      refine Calls.mono HC.out ?_
      rintro e w1 ⟨rfl, hR1, hF1⟩
      have HR1 := Lib.hid hR1
      have HF1 := Lib.hid (H.trans _ _ _ HF.out hF1)
      clear hm hc hF1 hR1
      cases b with
      | false =>
        go_wp2
        go_end0
        refine ⟨rfl, L', HR1.out, HP.out, HU.out.heap (fun _ _ => ?_), HK.out, HF1.out⟩
        rw [← HPP.out]; exact HB.out.symm
      | true =>
        obtain ⟨f, r, hm, hc, hcall⟩ := H.swap w1 L' p j HR1.out (by have := HLL.out; omega) (by have := HLL.out; omega)
        have HC2 := Lib.hid hcall
        clear hcall
        go_wp2_with fail
        refine Calls.mono HC2.out ?_
        rintro e w2 ⟨rfl, hR2, hF2⟩
        have HR2 := Lib.hid hR2
        have HF2 := Lib.hid (H.trans _ _ _ HF1.out hF2)
        clear hm hc hF2 hR2
        go_wp2
        go_roundw
        case rel =>
          have hll := HLL.out
          refine ⟨p, swpL L' p j, rfl, by omega, HR2.out, (swpL_perm (by omega) (by omega)).trans HP.out, ?_, fun k hk => ?_, HF2.out⟩
          · rw [HPP.out]
            exact HU.out.step o (by omega) hj (by omega) (by rw [← HPP.out]; exact HB.out.symm)
          · rw [swpL_get (by omega) (by omega), if_neg (by omega), if_neg (by omega)]
            exact HK.out k hk
        case measure => simp [intOf]; omega
/-- What down leaves. -/
def DownPost (lt : α → α → Bool) (R : World → List α → Prop) (F : World → World → Prop) (L : List α) (n i : Nat) (w : World) (e : Ending) (w' : World) : Prop :=
  ∃ (b : Bool) (L' : List α), e = .returned (.bool b) ∧ R w' L' ∧ L'.Perm L ∧ (∀ k, n ≤ k → L'[k]! = L[k]!) ∧ F w w' ∧ (b = true → Heap lt L' n) ∧ (b = false → L' = L ∧ UpTo lt L n i)
set_option maxRecDepth 100000 in
set_option maxHeartbeats 1000000 in
theorem down_c (H : HeapOps t v lt R F) (o : Ord lt) {w : World} {L : List α} {n i0 : Nat} (hR : R w L) (hu : Near lt L n i0) (hn : n ≤ L.length) (hi0 : i0 ≤ L.length) (hl : L.length ≤ 1099511627776) :
    Calls Try.prog 106 #[.iface t v, .int .i64 i0, .int .i64 n] w (DownPost lt R F L n i0 w) := by
  have HR := Lib.hid hR
  have HU := Lib.hid hu
  clear hR hu
  go_enter Try.func106, Try.ntmps106
  go_wp2
  go_loopw [7] (fun i wr => ∃ (j : Nat) (L' : List α), i = .int .i64 j ∧ (i0 ≤ j ∧ j ≤ L.length) ∧ R wr L' ∧ L'.Perm L ∧ Near lt L' n j ∧ (∀ k, n ≤ k → L'[k]! = L[k]!) ∧ F w wr ∧ (i0 = j → L' = L) ∧ (i0 < j → j < n ∧ lt L'[j]! L'[par j]! = false)) (fun i _ => n - (intOf i).toNat)
  case atStart => exact ⟨i0, L, rfl, ⟨Nat.le_refl _, hi0⟩, HR.out, .refl _, HU.out, fun _ _ => rfl, H.refl _, fun _ => rfl, fun h => absurd h (Nat.lt_irrefl _)⟩
  case round =>
    obtain ⟨j, L', rfl, ⟨hj, hjl⟩, hR, hp, hu, hk, hF, hs, hup⟩ := hrel
    have hll := hp.length_eq
    have HU := Lib.hid hu
    have HP := Lib.hid hp
    have HK := Lib.hid hk
    have HF := Lib.hid hF
    have HS := Lib.hid hs
    have HUP := Lib.hid hup
    have HLL := Lib.hid hll
    have fin : ∀ w1, R w1 L' → F w w1 → (∀ k, 0 < k → k < n → par k = j → lt L'[k]! L'[j]! = false) → DownPost lt R F L n i0 w (.returned (.bool (decide (i0 < j)))) w1 := fun w1 h1 h2 hm => by
      have hd := HU.out.done hm
      refine ⟨_, L', rfl, h1, HP.out, HK.out, h2, fun hb => ?_, fun hb => ?_⟩
      · have : i0 < j := by simpa using hb
        exact hd.heap (fun _ _ => (HUP.out this).2)
      · have : i0 = j := by have : ¬ i0 < j := by simpa using hb
                            omega
        subst this
        have := HS.out rfl
        subst this
        exact ⟨rfl, hd⟩
    have FIN := Lib.hid fin
    clear hu hp hk hF hs hup fin hll
    by_cases h1 : 2 * j + 1 < n
    · have c1 : ¬ (n : Int) ≤ 2 * (j : Int) + 1 := by omega
      have c2 : ¬ 2 * (j : Int) + 1 < 0 := by omega
      have HR := Lib.hid hR
      clear hR
      -- begin printed
      obtain ⟨j1, hj1⟩ : ∃ j1 : Nat, 2 * (j : Int) + 1 = (j1 : Int) := ⟨2 * j + 1, by omega⟩
      obtain ⟨j2, hj2⟩ : ∃ j2 : Nat, (j1 : Int) + 1 = (j2 : Int) := ⟨j1 + 1, by omega⟩
      rw [hj1] at c1 c2
      have hbd : j1 < n := by omega
      have hbe : j2 ≤ n := by omega
      have e1 : j1 = 2 * j + 1 := by omega
      have e2 : j2 = 2 * j + 2 := by omega
      have E1 := Lib.hid e1
      have E2 := Lib.hid e2
      have hjj : 2 * j ≤ 2199023255552 := by omega
      clear h1 e1 e2
      by_cases h2 : j2 < n
      · have c3 : (j2 : Int) < (n : Int) := by omega
        obtain ⟨f, r, hm, hc, hcall⟩ := H.less wr L' j2 j1 HR.out (by have := HLL.out; omega) (by have := HLL.out; omega)
        have HC := Lib.hid hcall
        clear hcall
        obtain ⟨b, hb⟩ : ∃ b, b = lt L'[j2]! L'[j1]! := ⟨_, rfl⟩
        rw [← hb] at HC
        have HB := Lib.hid hb
        clear hb
        go_wp2_with fail
        refine Calls.mono HC.out ?_
        rintro e w1 ⟨rfl, hR1, hF1⟩
        have HR1 := Lib.hid hR1
        have HF1 := Lib.hid (H.trans _ _ _ HF.out hF1)
        clear hm hc hF1 hR1 HC
        cases b with
        | false =>
          have sm : ∀ k, 0 < k → k < n → par k = j → lt L'[k]! L'[j1]! = false := fun k k0 k1 kp => by
            have e1 := E1.out
            have e2 := E2.out
            rcases (par_child k0).1 kp with h | h
            · have e : k = j1 := by omega
              rw [e]; exact o.irrefl _
            · rw [show k = j2 by omega]; exact HB.out.symm
          have SM := Lib.hid sm
          clear sm
          obtain ⟨f, r, hm, hc, hcall⟩ := H.less w1 L' j1 j HR1.out (by have := HLL.out; omega) (by have := HLL.out; omega)
          have HC := Lib.hid hcall
          clear hcall
          obtain ⟨b2, hb2⟩ : ∃ b2, b2 = lt L'[j1]! L'[j]! := ⟨_, rfl⟩
          rw [← hb2] at HC
          have HB2 := Lib.hid hb2
          clear hb2
          go_wp2_with fail
          refine Calls.mono HC.out ?_
          rintro e w5 ⟨rfl, hR5, hF5⟩
          have HR5 := Lib.hid hR5
          have HF5 := Lib.hid (H.trans _ _ _ HF1.out hF5)
          clear hm hc hF5 hR5
          cases b2 with
          | false =>
            go_wp2
            go_ret
            exact FIN.out w5 HR5.out HF5.out (fun k k0 k1 kp => o.tr _ _ _ HB2.out.symm (SM.out k k0 k1 kp))
          | true =>
            obtain ⟨f, r, hm, hc, hcall⟩ := H.swap w5 L' j j1 HR5.out (by have := HLL.out; omega) (by have := HLL.out; omega)
            have HC2 := Lib.hid hcall
            clear hcall
            go_wp2_with fail
            refine Calls.mono HC2.out ?_
            rintro e w6 ⟨rfl, hR6, hF6⟩
            have HR6 := Lib.hid hR6
            have HF6 := Lib.hid (H.trans _ _ _ HF5.out hF6)
            clear hm hc hF6 hR6
            go_wp2
            go_roundw
            case rel =>
              have hll := HLL.out
              have hpj : par j1 = j := by unfold par; omega
              obtain ⟨q1, q2, q3⟩ := HU.out.step o (by omega) (by omega) (by omega) hpj HB2.out.symm SM.out
              refine ⟨j1, swpL L' j j1, rfl, ⟨by omega, by omega⟩, HR6.out, (swpL_perm (by omega) (by omega)).trans HP.out, q1, fun k hk => ?_, HF6.out, by omega, fun _ => ⟨by omega, q2⟩⟩
              rw [swpL_get (by omega) (by omega), if_neg (by omega), if_neg (by omega)]
              exact HK.out k hk
            case measure => simp [intOf]; omega
        | true =>
          have sm : ∀ k, 0 < k → k < n → par k = j → lt L'[k]! L'[j2]! = false := fun k k0 k1 kp => by
            have e1 := E1.out
            have e2 := E2.out
            rcases (par_child k0).1 kp with h | h
            · have e : k = j1 := by omega
              rw [e]; exact o.asym _ _ HB.out.symm
            · rw [show k = j2 by omega]; exact o.irrefl _
          have SM := Lib.hid sm
          clear sm
          obtain ⟨f, r, hm, hc, hcall⟩ := H.less w1 L' j2 j HR1.out (by have := HLL.out; omega) (by have := HLL.out; omega)
          have HC := Lib.hid hcall
          clear hcall
          obtain ⟨b2, hb2⟩ : ∃ b2, b2 = lt L'[j2]! L'[j]! := ⟨_, rfl⟩
          rw [← hb2] at HC
          have HB2 := Lib.hid hb2
          clear hb2
          go_wp2_with fail
          refine Calls.mono HC.out ?_
          rintro e w5 ⟨rfl, hR5, hF5⟩
          have HR5 := Lib.hid hR5
          have HF5 := Lib.hid (H.trans _ _ _ HF1.out hF5)
          clear hm hc hF5 hR5
          cases b2 with
          | false =>
            go_wp2
            go_ret
            exact FIN.out w5 HR5.out HF5.out (fun k k0 k1 kp => o.tr _ _ _ HB2.out.symm (SM.out k k0 k1 kp))
          | true =>
            obtain ⟨f, r, hm, hc, hcall⟩ := H.swap w5 L' j j2 HR5.out (by have := HLL.out; omega) (by have := HLL.out; omega)
            have HC2 := Lib.hid hcall
            clear hcall
            go_wp2_with fail
            refine Calls.mono HC2.out ?_
            rintro e w6 ⟨rfl, hR6, hF6⟩
            have HR6 := Lib.hid hR6
            have HF6 := Lib.hid (H.trans _ _ _ HF5.out hF6)
            clear hm hc hF6 hR6
            go_wp2
            go_roundw
            case rel =>
              have hll := HLL.out
              have hpj : par j2 = j := by unfold par; omega
              obtain ⟨q1, q2, q3⟩ := HU.out.step o (by omega) (by omega) (by omega) hpj HB2.out.symm SM.out
              refine ⟨j2, swpL L' j j2, rfl, ⟨by omega, by omega⟩, HR6.out, (swpL_perm (by omega) (by omega)).trans HP.out, q1, fun k hk => ?_, HF6.out, by omega, fun _ => ⟨by omega, q2⟩⟩
              rw [swpL_get (by omega) (by omega), if_neg (by omega), if_neg (by omega)]
              exact HK.out k hk
            case measure => simp [intOf]; omega
      · have c3 : ¬ (j2 : Int) < (n : Int) := by omega
        have sm : ∀ k, 0 < k → k < n → par k = j → lt L'[k]! L'[j1]! = false := fun k k0 k1 kp => by
          have e1 := E1.out
          have e2 := E2.out
          rcases (par_child k0).1 kp with h | h
          · have e : k = j1 := by omega
            rw [e]; exact o.irrefl _
          · omega
        have SM := Lib.hid sm
        clear sm
        obtain ⟨f, r, hm, hc, hcall⟩ := H.less wr L' j1 j HR.out (by have := HLL.out; omega) (by have := HLL.out; omega)
        have HC := Lib.hid hcall
        clear hcall
        obtain ⟨b2, hb2⟩ : ∃ b2, b2 = lt L'[j1]! L'[j]! := ⟨_, rfl⟩
        rw [← hb2] at HC
        have HB2 := Lib.hid hb2
        clear hb2
        go_wp2_with fail
        refine Calls.mono HC.out ?_
        rintro e w5 ⟨rfl, hR5, hF5⟩
        have HR5 := Lib.hid hR5
        have HF5 := Lib.hid (H.trans _ _ _ HF.out hF5)
        clear hm hc hF5 hR5
        cases b2 with
        | false =>
          go_wp2
          go_ret
          exact FIN.out w5 HR5.out HF5.out (fun k k0 k1 kp => o.tr _ _ _ HB2.out.symm (SM.out k k0 k1 kp))
        | true =>
          obtain ⟨f, r, hm, hc, hcall⟩ := H.swap w5 L' j j1 HR5.out (by have := HLL.out; omega) (by have := HLL.out; omega)
          have HC2 := Lib.hid hcall
          clear hcall
          go_wp2_with fail
          refine Calls.mono HC2.out ?_
          rintro e w6 ⟨rfl, hR6, hF6⟩
          have HR6 := Lib.hid hR6
          have HF6 := Lib.hid (H.trans _ _ _ HF5.out hF6)
          clear hm hc hF6 hR6
          go_wp2
          go_roundw
          case rel =>
            have hll := HLL.out
            have hpj : par j1 = j := by unfold par; omega
            obtain ⟨q1, q2, q3⟩ := HU.out.step o (by omega) (by omega) (by omega) hpj HB2.out.symm SM.out
            refine ⟨j1, swpL L' j j1, rfl, ⟨by omega, by omega⟩, HR6.out, (swpL_perm (by omega) (by omega)).trans HP.out, q1, fun k hk => ?_, HF6.out, by omega, fun _ => ⟨by omega, q2⟩⟩
            rw [swpL_get (by omega) (by omega), if_neg (by omega), if_neg (by omega)]
            exact HK.out k hk
          case measure => simp [intOf]; omega
    · have c1 : (n : Int) ≤ 2 * (j : Int) + 1 := by omega
      have HR := Lib.hid hR
      clear hR
      go_wp2
      go_ret
      exact FIN.out wr HR.out HF.out (fun k k0 k1 kp => by unfold par at kp; omega)
end Go.Proofs.Ytpdfcffeinbcaaa
/- Heaps behind an interface: the walks of Push and Pop. -/
namespace Go.Proofs.Ytpdfcffeinbcaaa
open Go.RowKit
structure HeapEnds {α : Type} [Inhabited α] (t : TypeId) (v : Value) (enc : α → Value) (R : World → List α → Prop) (F : World → World → Prop) : Prop where
  push : ∀ w L x, R w L → L.length < 1099511627776 → Meth t v "Push" [enc x] w fun e w' => e = .returned (.tuple #[]) ∧ R w' (L ++ [x]) ∧ F w w'
  pop : ∀ w L x, R w (L ++ [x]) → Meth t v "Pop" [] w fun e w' => e = .returned (enc x) ∧ R w' L ∧ F w w'
variable {α : Type} [Inhabited α] {t : TypeId} {v : Value} {enc : α → Value} {lt : α → α → Bool} {R : World → List α → Prop} {F : World → World → Prop}
def PushPost (lt : α → α → Bool) (R : World → List α → Prop) (F : World → World → Prop) (L : List α) (x : α) (w : World) (e : Ending) (w' : World) : Prop :=
  e = .returned (.tuple #[]) ∧ ∃ L', R w' L' ∧ L'.Perm (L ++ [x]) ∧ Heap lt L' L'.length ∧ F w w'
theorem push_c (H : HeapOps t v lt R F) (E : HeapEnds t v enc R F) (o : Ord lt) {w : World} {L : List α} (x : α) (hR : R w L) (hh : Heap lt L L.length) (hl : L.length < 1099511627776) :
    Calls Try.prog 95 #[.iface t v, enc x] w (PushPost lt R F L x w) := by
  obtain ⟨f, r, hm, hc, hcall⟩ := E.push w L x hR hl
  have HC := Lib.hid hcall
  have HH := Lib.hid hh
  clear hR hh hcall
  go_enter Try.func95, Try.ntmps95
  go_wp2_with fail
  refine Calls.mono HC.out ?_
  rintro e w1 ⟨rfl, hR1, hF1⟩
  have HF1 := Lib.hid hF1
  obtain ⟨f2, r2, hm2, hc2, hcall2⟩ := H.len w1 _ hR1
  have hlen : (L ++ [x]).length = L.length + 1 := by simp
  rw [hlen] at hcall2
  have HLEN := Lib.hid hlen
  have HC2 := Lib.hid hcall2
  clear hm hc hF1 hR1 hcall2 hlen HC
  go_wp2_with fail
  refine Calls.mono HC2.out ?_
  rintro e w2 ⟨rfl, hR2, hF2⟩
  have HR2 := Lib.hid hR2
  have HF2 := Lib.hid (H.trans _ _ _ HF1.out hF2)
  clear hm2 hc2 hF2 hR2 HC2
  have he : ((L.length + 1 : Nat) : Int) - 1 = (L.length : Int) := by omega
  go_wp2_with fail
  go_at_call 105
  have hup := up_c H o (j := L.length) HR2.out (HH.out.pushed x) (by omega) (by rw [HLEN.out]; omega) (by rw [HLEN.out]; omega)
  refine hup.mono ?_
  rintro e w3 ⟨rfl, L3, hR3, hp3, hh3, _, hF3⟩
  have hL3 := hp3.length_eq
  rw [HLEN.out] at hL3
  rw [← hL3] at hh3
  have HP3 : Hid (PushPost lt R F L x w (.returned (.tuple #[])) w3) := Lib.hid ⟨rfl, L3, hR3, hp3, hh3, H.trans _ _ _ HF2.out hF3⟩
  clear hR3 hp3 hh3 hF3 hL3 hup
  go_wp2
  go_end0
  exact HP3.out
def PopPost (lt : α → α → Bool) (enc : α → Value) (R : World → List α → Prop) (F : World → World → Prop) (L : List α) (w : World) (e : Ending) (w' : World) : Prop :=
  e = .returned (enc L[0]!) ∧ ∃ L', R w' L' ∧ (L[0]! :: L').Perm L ∧ Heap lt L' L'.length ∧ F w w'
theorem pop_c (H : HeapOps t v lt R F) (E : HeapEnds t v enc R F) (o : Ord lt) {w : World} {L : List α} (hR : R w L) (hh : Heap lt L L.length) (h0 : 0 < L.length) (hl : L.length ≤ 1099511627776) :
    Calls Try.prog 97 #[.iface t v] w (PopPost lt enc R F L w) := by
  obtain ⟨f, r, hm, hc, hcall⟩ := H.len w L hR
  obtain ⟨n, hn⟩ : ∃ n, n + 1 = L.length := ⟨L.length - 1, by omega⟩
  have he : ((L.length : Nat) : Int) - 1 = (n : Int) := by omega
  have HC := Lib.hid hcall
  have HH := Lib.hid hh
  have HN := Lib.hid hn
  have hnl : n < 1099511627776 := by omega
  clear hR hh hcall hn
  go_enter Try.func97, Try.ntmps97
  go_wp2_with fail
  refine Calls.mono HC.out ?_
  rintro e w1 ⟨rfl, hR1, hF1⟩
  have HF1 := Lib.hid hF1
  obtain ⟨f2, r2, hm2, hc2, hcall2⟩ := H.swap w1 L 0 n hR1 h0 (by have := HN.out; omega)
  have hz : ((0 : Nat) : Int) = 0 := rfl
  rw [hz] at hc2 hcall2
  have HC2 := Lib.hid hcall2
  clear hm hc hF1 hR1 hcall2 HC hz
  go_wp2_with fail
  refine Calls.mono HC2.out ?_
  rintro e w2 ⟨rfl, hR2, hF2⟩
  have HR2 := Lib.hid hR2
  have HF2 := Lib.hid (H.trans _ _ _ HF1.out hF2)
  clear hm2 hc2 hF2 hR2 HC2 he
  have hdn : Calls Try.prog 106 #[.iface t v, .int .i64 0, .int .i64 n] w2 fun e w3 => ∃ b L3, e = .returned (.bool b) ∧ R w3 (L3 ++ [L[0]!]) ∧ (L[0]! :: L3).Perm L ∧ Heap lt L3 L3.length ∧ F w w3 := by
    have hn := HN.out
    have hsl := swpL_length L 0 n
    have fin : ∀ (w3 : World) (M : List α), R w3 M → M.Perm (swpL L 0 n) → (∀ k, n ≤ k → M[k]! = (swpL L 0 n)[k]!) → Heap lt M n → F w w3 → ∃ L3, R w3 (L3 ++ [L[0]!]) ∧ (L[0]! :: L3).Perm L ∧ Heap lt L3 L3.length ∧ F w w3 := fun w3 M hR3 hp3 hk3 hh3 hF3 => by
      have hml := hp3.length_eq
      have hs := split_last (L := M) (n := n) (by omega)
      rw [hk3 n (Nat.le_refl _), swpL_last hn (by omega)] at hs
      have htl : (M.take n).length = n := by rw [List.length_take]; omega
      refine ⟨M.take n, by rw [← hs]; exact hR3, ?_, ?_, hF3⟩
      · have h1 : (L[0]! :: M.take n).Perm (M.take n ++ [L[0]!]) := (List.perm_append_singleton _ _).symm
        rw [← hs] at h1
        exact h1.trans (hp3.trans (swpL_perm h0 (by omega)))
      · rw [htl]
        exact (hh3.congr (fun k hk => get_take hk))
    rcases Nat.eq_zero_or_pos n with hz | hz
    · refine (down_c H o (i0 := 0) HR2.out ⟨fun k h0 h1 => by omega, fun k h0 h1 => by omega⟩ (by omega) (by omega) (by omega)).mono ?_
      rintro e w3 ⟨b, M, rfl, hR3, hp3, hk3, hF3, _, _⟩
      obtain ⟨L3, h⟩ := fin w3 M hR3 hp3 hk3 (fun k h0 h1 => by omega) (H.trans _ _ _ HF2.out hF3)
      exact ⟨b, L3, rfl, h⟩
    · have hnear := (show Heap lt L (n + 1) by rw [hn]; exact HH.out).swapped o hn hz
      refine (down_c H o (i0 := 0) HR2.out hnear (by omega) (by omega) (by omega)).mono ?_
      rintro e w3 ⟨b, M, rfl, hR3, hp3, hk3, hF3, hb1, hb2⟩
      obtain ⟨L3, h⟩ := fin w3 M hR3 hp3 hk3 (by
        cases b with
        | true => exact hb1 rfl
        | false =>
          obtain ⟨rfl, hu⟩ := hb2 rfl
          exact hu.heap (by omega)) (H.trans _ _ _ HF2.out hF3)
      exact ⟨b, L3, rfl, h⟩
  have HDN := Lib.hid hdn
  clear hdn
  go_wp2_with fail
  go_at_call 106
  refine HDN.out.mono ?_
  rintro e w3 ⟨b, L3, rfl, hR3, hp3, hh3, hF3⟩
  obtain ⟨f2, r2, hm2, hc2, hcall2⟩ := E.pop w3 L3 _ hR3
  have HC2 := Lib.hid hcall2
  have HP3 := Lib.hid hp3
  have HH3 := Lib.hid hh3
  have HF3 := Lib.hid hF3
  clear hcall2 hp3 hh3 hF3 hR3
  obtain ⟨x, hx⟩ : ∃ x, x = L[0]! := ⟨_, rfl⟩
  rw [← hx] at HC2
  have HX := Lib.hid hx
  clear hx
  go_wp2_with fail
  refine Calls.mono HC2.out ?_
  rintro e w4 ⟨rfl, hR4, hF4⟩
  have HP4 : Hid (PopPost lt enc R F L w (.returned (enc x)) w4) := Lib.hid ⟨by rw [HX.out], L3, hR4, HP3.out, HH3.out, H.trans _ _ _ HF3.out hF4⟩
  clear hR4 hF4 hm2 hc2
  go_wp2
  go_ret
  exact HP4.out
end Go.Proofs.Ytpdfcffeinbcaaa
/- A row of one's own kept in a variable: what it owns, and what stays when it moves. -/
namespace Go.Proofs.Ytpdfcffeinbcaaa
open Go.RowKit
/-- The block of the row that lies in cell o of block s. -/
def blkAt (s o : Nat) (w : World) : List Nat := match w.cell? ⟨s, o, none⟩ with
  | some v => v.ownBlock.toList
  | none => []
theorem blkAt_some {s o : Nat} {w : World} {v : Value} (h : w.cell? ⟨s, o, none⟩ = some v) : blkAt s o w = v.ownBlock.toList := by unfold blkAt; rw [h]
/-- All stays but the variable's block and the row's. -/
def HMoves (s o : Nat) (w w' : World) : Prop := Moves (s :: blkAt s o w) w w' ∧ ∀ g ∈ blkAt s o w', g ∈ blkAt s o w ∨ w.heap.size ≤ g
theorem HMoves.refl (s o : Nat) (w : World) : HMoves s o w w := ⟨Moves.refl _ _, fun _ h => .inl h⟩
theorem HMoves.trans {s o : Nat} {w w1 w2 : World} (h : HMoves s o w w1) (g : HMoves s o w1 w2) : HMoves s o w w2 :=
  ⟨h.1.onto g.1 (fun k hk => by
    rcases List.mem_cons.1 hk with rfl | hk
    · exact .inl (by simp)
    · exact (h.2 k hk).imp (fun h => List.mem_cons_of_mem _ h) id), fun k hk => by
    rcases g.2 k hk with h1 | h1
    · exact h.2 k h1
    · exact .inr (Nat.le_trans h.1.2.2.2.1 h1)⟩
theorem HMoves.drewN {s o : Nat} {w w1 : World} (n : Nat) (h : HMoves s o w w1) : HMoves s o w (w1.drewN n) := h
theorem HMoves.drew {s o : Nat} {w w1 : World} (h : HMoves s o w w1) : HMoves s o w w1.drew := h
/-- What lies elsewhere stays. -/
theorem HMoves.block {s o : Nat} {w w1 : World} (h : HMoves s o w w1) {k : Nat} (hk : k < w.heap.size) (h1 : k ≠ s) (h2 : k ∉ blkAt s o w) : w1.heap[k]? = w.heap[k]? :=
  h.1.2.2.2.2 k hk (fun hm => by rcases List.mem_cons.1 hm with e | e; exact h1 e; exact h2 e)
/-- A row of the cells xs (each element of size sz) in cell o of block s, its block (another one) at B or behind it. -/
def HRow (s o sz : Nat) (e : TypeId) (B : Nat) (w : World) (n : Nat) (xs : List Value) : Prop :=
  ∃ v, w.cell? ⟨s, o, none⟩ = some v ∧ (∀ j, w.frozen? ⟨s, j, none⟩ = false) ∧ w.ownsRow B e sz v n xs ∧ v.ownBlock ≠ some s ∧ B ≤ s
section
variable {s o sz n B : Nat} {e : TypeId} {w w' : World} {xs : List Value}
theorem HRow.lt (h : HRow s o sz e B w n xs) : s < w.heap.size := by
  obtain ⟨v, h1, _⟩ := h
  exact World.block_lt_of_cell? w _ h1
theorem HRow.blk (h : HRow s o sz e B w n xs) : ∀ k ∈ blkAt s o w, B ≤ k ∧ k < w.heap.size ∧ k ≠ s := by
  obtain ⟨v, h1, _, h2, h3, _⟩ := h
  rw [blkAt_some h1]
  intro k hk
  have hk' : v.ownBlock = some k := by simpa using hk
  have := h2.lt k hk'
  exact ⟨this.1, this.2, fun e => h3 (by rw [hk', e])⟩
/-- What is not of it may change. -/
theorem HRow.moves {M : List Nat} (h : HRow s o sz e B w n xs) (hm : Moves M w w') (hs : s ∉ M) (hb : ∀ k ∈ blkAt s o w, k ∉ M) : HRow s o sz e B w' n xs ∧ blkAt s o w' = blkAt s o w := by
  have hlt := h.lt
  obtain ⟨v, h1, h2, h3, h5⟩ := h
  have h4 := (hm.cell hlt hs o).trans h1
  refine ⟨⟨v, h4, fun j => (hm.frozen hlt hs j).trans (h2 j), own_mv h3 hm (fun g hg => hb g (by rw [blkAt_some h1]; simp [hg])), h5⟩, ?_⟩
  rw [blkAt_some h1, blkAt_some h4]
theorem HRow.drewN (k : Nat) (h : HRow s o sz e B w n xs) : HRow s o sz e B (w.drewN k) n xs := h
end
/-- A receiver by value behind a pointer. -/
theorem recv_val {P : Program} {w : World} {tp te : TypeId} {s o : Nat} {v : Value} (hu : P.underlying tp = some (.pointer te)) (ha : (isAgg te).run P w = .ok false w) (h : w.cell? ⟨s, o, none⟩ = some v) (nm : String) :
    (receiverAt tp (.val (.pointer (some ⟨s, o, none⟩))) false (some nm)).run P w = .ok v w := by
  unfold receiverAt
  have h2 : ∀ ts tt a, Builtin.ssaWrapNilChk_ ts tt #[.pointer (some a), strVal "", strVal nm] = pure (.pointer (some a)) := fun _ _ _ => rfl
  have hu := run_underlying (w := w) hu
  simp only [Sem.run_bind, hu, Result.andThen_ok, Place.get, Sem.run_pure, h2, asAddr, loadVar, ha]
  simp [go_sem, h]
theorem heap_set {w : World} {g k : Nat} {u : Value} {cur : Array Value} {e : TypeId} {fr : Nat × Nat} (h : w.heap[g]? = some (.cells cur e fr)) : (w.setCell ⟨g, k, none⟩ u).heap[g]? = some (.cells (cur.setIfInBounds k u) e fr) := by
  obtain ⟨h1, h2⟩ := Array.getElem?_eq_some_iff.1 h
  show (w.heap.modify g _)[g]? = _
  rw [Array.getElem?_eq_getElem (by simpa using h1), Array.getElem_modify_self, h2]
  rfl
/-- A cell of one's own row is written. -/
theorem own_set {w : World} {B sz n cap g k : Nat} {e : TypeId} {xs : List Value} (h : w.ownsRow B e sz (.slice (some ⟨g, 0, none⟩) n cap) n xs) (u : Value) :
    (w.setCell ⟨g, k, none⟩ u).ownsRow B e sz (.slice (some ⟨g, 0, none⟩) n cap) n (xs.set k u) := by
  rcases h with ⟨hl, ⟨h0, _⟩ | ⟨g', cap', cur, hv, hB, hh, h1, h2, h3, h4⟩⟩
  · cases h0
  · cases hv
    exact ⟨by rw [List.length_set]; exact hl, .inr ⟨g, cap, cur.setIfInBounds k u, rfl, hB, heap_set hh, h1, h2, by rw [Array.size_setIfInBounds]; exact h3, by rw [Array.toList_setIfInBounds, List.take_set, h4]⟩⟩
/-- Only the beginning of one's own row is kept. -/
theorem own_less {w : World} {B sz n cap g m : Nat} {e : TypeId} {xs : List Value} (h : w.ownsRow B e sz (.slice (some ⟨g, 0, none⟩) n cap) n xs) (hm : m ≤ n) :
    w.ownsRow B e sz (.slice (some ⟨g, 0, none⟩) m cap) m (xs.take (m * sz)) := by
  rcases h with ⟨hl, ⟨h0, _⟩ | ⟨g', cap', cur, hv, hB, hh, h1, h2, h3, h4⟩⟩
  · cases h0
  · cases hv
    have hms : m * sz ≤ n * sz := Nat.mul_le_mul_right _ hm
    exact ⟨by rw [List.length_take]; omega, .inr ⟨g, cap, cur, rfl, hB, hh, by omega, h2, h3, by rw [← h4, List.take_take, Nat.min_eq_left hms]⟩⟩
theorem own_frozen {w : World} {B sz n cap g : Nat} {e : TypeId} {xs : List Value} (h : w.ownsRow B e sz (.slice (some ⟨g, 0, none⟩) n cap) n xs) (k : Nat) : w.frozen? ⟨g, k, none⟩ = false := by
  rcases h with ⟨hl, ⟨h0, _⟩ | ⟨g', cap', cur, hv, hB, hh, h1⟩⟩
  · cases h0
  · cases hv
    unfold World.frozen?
    rw [hh]; simp
section
variable {s o sz n B : Nat} {e : TypeId} {w w' : World} {xs : List Value}
/-- The row is another one now. -/
theorem HRow.put {v v' : Value} (hc : w.cell? ⟨s, o, none⟩ = some v) (hz : ∀ j, w.frozen? ⟨s, j, none⟩ = false) (hv : v.ownBlock ≠ some s) (hB : B ≤ s) (ho : w'.ownsRow B e sz v' n xs) (hg : w.grownBy w' v.ownBlock)
    (hb : ∀ g, v'.ownBlock = some g → v.ownBlock = some g ∨ w.heap.size ≤ g) : HRow s o sz e B (w'.setCell ⟨s, o, none⟩ v') n xs ∧ HMoves s o w (w'.setCell ⟨s, o, none⟩ v') := by
  have hlt : s < w.heap.size := World.block_lt_of_cell? w _ hc
  have hbl := hg.block s hlt (fun e => hv e.symm)
  have hc' : w'.cell? ⟨s, o, none⟩ = some v := (World.cell?_of_block (a := ⟨s, o, none⟩) hbl).trans hc
  have hn := set_here w' s o v' v hc'
  have hv' : v'.ownBlock ≠ some s := fun e => (hb s e).elim hv (by omega)
  refine ⟨⟨v', hn, fun j => by rw [World.frozen?_setCell, frozen_block (a := ⟨s, j, none⟩) hbl]; exact hz j, own_mv ho (Moves.set (M := [s]) _ _ _ (by simp)) (fun g e => by simp; rintro rfl; exact hv' e), hv', hB⟩, ?_, fun g h => ?_⟩
  · rw [blkAt_some hc]
    exact (Moves.of_grown (M := s :: v.ownBlock.toList) hg (by intro k e; simp [e])).trans (Moves.set _ _ _ (by simp))
  · rw [blkAt_some hn] at h
    rw [blkAt_some hc]
    simpa using hb g (by simpa using h)
/-- Cells of the row were written. -/
theorem HRow.wrote {cap g : Nat} (hc : w.cell? ⟨s, o, none⟩ = some (.slice (some ⟨g, 0, none⟩) n cap)) (hz : ∀ j, w.frozen? ⟨s, j, none⟩ = false) (hs : (Value.slice (some ⟨g, 0, none⟩) n cap).ownBlock ≠ some s) (hB : B ≤ s) (hm : Moves [g] w w')
    (ho : w'.ownsRow B e sz (.slice (some ⟨g, 0, none⟩) n cap) n xs) : HRow s o sz e B w' n xs ∧ HMoves s o w w' := by
  have hlt : s < w.heap.size := World.block_lt_of_cell? w _ hc
  have hnm : s ∉ [g] := by simp; rintro rfl; exact hs rfl
  have hc' := (hm.cell hlt hnm o).trans hc
  refine ⟨⟨_, hc', fun j => (hm.frozen hlt hnm j).trans (hz j), ho, hs, hB⟩, ?_, fun k h => ?_⟩
  · rw [blkAt_some hc]; exact hm.mono (fun k hk => .inl (by simp [Value.ownBlock] at hk ⊢; exact .inr hk))
  · rw [blkAt_some hc'] at h; rw [blkAt_some hc]; exact .inl h
end
theorem own_void (w : World) (TI : TypeId) (sz : Nat) : (w.alloc (.cells #[] TI)).ownsRow w.heap.size TI sz (.slice (some ⟨w.heap.size, 0, none⟩) 0 0) 0 [] :=
  ⟨by simp, .inr ⟨w.heap.size, 0, #[], rfl, Nat.le_refl _, heap_alloc_new _ _, Nat.le_refl _, by simp [maxLen], by simp, by simp⟩⟩
theorem own_none (w : World) (B : Nat) (TI : TypeId) (sz : Nat) : w.ownsRow B TI sz (.slice none 0 0) 0 [] := ⟨by simp, .inl ⟨rfl, rfl⟩⟩
/-- A row that is empty, in a variable made behind it. -/
theorem HRow.fresh {w : World} {B sz : Nat} {e t : TypeId} (hB : B ≤ w.heap.size) : HRow (w.heap.size + 1) 0 sz e B ((w.alloc (.cells #[] e)).alloc (.cells #[.slice (some ⟨w.heap.size, 0, none⟩) 0 0] t)) 0 [] := by
  have hz := al_size w (.cells #[] e)
  have hc := cell_new (w.alloc (.cells #[] e)) #[.slice (some ⟨w.heap.size, 0, none⟩) 0 0] t 0
  have hf := frozen_new (w.alloc (.cells #[] e)) #[.slice (some ⟨w.heap.size, 0, none⟩) 0 0] t
  rw [hz] at hc hf
  exact ⟨_, hc, hf, own_base ((own_void w e sz).alloc _) hB, by simp [Value.ownBlock], by omega⟩
/-- The first n cells of block b are the numbers f, and may be written. -/
def NumAt (w : World) (b n : Nat) (f : Nat → Int) : Prop := b < w.heap.size ∧ (∀ i, i < n → w.cell? ⟨b, i, none⟩ = some (.int .i64 (f i))) ∧ ∀ j, w.frozen? ⟨b, j, none⟩ = false
theorem NumAt.moves {M : List Nat} {w w1 : World} {b n : Nat} {f : Nat → Int} (h : NumAt w b n f) (hm : Moves M w w1) (hM : b ∉ M) : NumAt w1 b n f :=
  ⟨Nat.lt_of_lt_of_le h.1 hm.2.2.2.1, fun i hi => (hm.cell h.1 hM _).trans (h.2.1 i hi), fun j => (hm.frozen h.1 hM j).trans (h.2.2 j)⟩
theorem NumAt.congr {w : World} {b n : Nat} {f g : Nat → Int} (h : NumAt w b n f) (he : ∀ i, i < n → g i = f i) : NumAt w b n g :=
  ⟨h.1, fun i hi => by rw [he i hi]; exact h.2.1 i hi, h.2.2⟩
theorem NumAt.put {w : World} {b n x : Nat} {f g : Nat → Int} {y : Int} (h : NumAt w b n f) (hx : x < n) (hg : ∀ i, i < n → g i = if i = x then y else f i) : NumAt (w.setCell ⟨b, x, none⟩ (.int .i64 y)) b n g := by
  refine ⟨by simpa [World.setCell] using h.1, fun i hi => ?_, fun j => by rw [World.frozen?_setCell]; exact h.2.2 j⟩
  rw [hg i hi]
  by_cases e : i = x
  · subst e; rw [if_pos rfl]; exact set_here _ _ _ _ _ (h.2.1 i hi)
  · rw [if_neg e, set_far _ _ _ _ _ (fun c => e c.symm)]; exact h.2.1 i hi
theorem num_made (w : World) (n : Nat) (t : TypeId) : NumAt (w.alloc (.cells (madeCells #[.int .i64 0] n) t)) w.heap.size n (fun _ => 0) := by
  refine ⟨by rw [al_size]; omega, fun i hi => ?_, fun j => frozen_new _ _ _ _⟩
  rw [cell_new, ← Array.getElem?_toList, toList_madeCells_one]
  simp [hi]
/-- The first n cells of block b are the flags f, and may be written. -/
def FlagAt (w : World) (b n : Nat) (f : Nat → Bool) : Prop := b < w.heap.size ∧ (∀ i, i < n → w.cell? ⟨b, i, none⟩ = some (.bool (f i))) ∧ ∀ j, w.frozen? ⟨b, j, none⟩ = false
theorem FlagAt.moves {M : List Nat} {w w1 : World} {b n : Nat} {f : Nat → Bool} (h : FlagAt w b n f) (hm : Moves M w w1) (hM : b ∉ M) : FlagAt w1 b n f :=
  ⟨Nat.lt_of_lt_of_le h.1 hm.2.2.2.1, fun i hi => (hm.cell h.1 hM _).trans (h.2.1 i hi), fun j => (hm.frozen h.1 hM j).trans (h.2.2 j)⟩
theorem FlagAt.congr {w : World} {b n : Nat} {f g : Nat → Bool} (h : FlagAt w b n f) (he : ∀ i, i < n → g i = f i) : FlagAt w b n g :=
  ⟨h.1, fun i hi => by rw [he i hi]; exact h.2.1 i hi, h.2.2⟩
theorem FlagAt.put {w : World} {b n x : Nat} {f g : Nat → Bool} {y : Bool} (h : FlagAt w b n f) (hx : x < n) (hg : ∀ i, i < n → g i = if i = x then y else f i) : FlagAt (w.setCell ⟨b, x, none⟩ (.bool y)) b n g := by
  refine ⟨by simpa [World.setCell] using h.1, fun i hi => ?_, fun j => by rw [World.frozen?_setCell]; exact h.2.2 j⟩
  rw [hg i hi]
  by_cases e : i = x
  · subst e; rw [if_pos rfl]; exact set_here _ _ _ _ _ (h.2.1 i hi)
  · rw [if_neg e, set_far _ _ _ _ _ (fun c => e c.symm)]; exact h.2.1 i hi
theorem FlagAt.drewN {w : World} {b n : Nat} {f : Nat → Bool} (q : Nat) (h : FlagAt w b n f) : FlagAt (w.drewN q) b n f := h
theorem NumAt.drewN {w : World} {b n : Nat} {f : Nat → Int} (q : Nat) (h : NumAt w b n f) : NumAt (w.drewN q) b n f := h
theorem flag_made (w : World) (n : Nat) (t : TypeId) : FlagAt (w.alloc (.cells (madeCells #[.bool false] n) t)) w.heap.size n (fun _ => false) := by
  refine ⟨by rw [al_size]; omega, fun i hi => ?_, fun j => frozen_new _ _ _ _⟩
  rw [cell_new, ← Array.getElem?_toList, toList_madeCells_one]
  simp [hi]
end Go.Proofs.Ytpdfcffeinbcaaa
/- A drawn region (V7) with more than one store at its end: operations that look at no memory are taken first, whatever comes; behind operation L nothing more is held. -/
namespace Go.Proofs.Ytpdfcffeinbcaaa
open Go.RowKit
section
variable {P : Program} {ops : Array Oper} {Q : Exit → Act → World → Prop} {md : Region.Mode} {S : World → Prop} {L : Nat}
theorem wpAnyL_pure {i : Nat} {oi : Oper} {v : Value} (hi : ops[i]? = some oi) (hsel : ∀ (j : Nat) (o : Oper) cs b, ops[j]? = some o → o.op ≠ .select cs b) (hne : L ≠ i)
    (hQ : ∀ c a w, Q (.panic c) (a.put oi.dst v) w → Q (.panic c) a w) :
    ∀ (fuel : Nat) (listed : Array Bool) (a : Act) (w : World),
      (∀ j oj, ops[j]? = some oj → j ≠ i → listed.getD j true = false → (∀ e ∈ oj.after, Region.binds md e = true → e.on ≠ i) → oi.apart ops oj = true) →
      i ∈ Region.ready md ops listed → YieldsIf P ops (fun _ => True) oi v a → (listed.getD L true = false → S w) →
      wpAnyL P md ops Q S L fuel (listed.setIfInBounds i true) (a.put oi.dst v) w → wpAnyL P md ops Q S L (fuel + 1) listed a w := by
  intro fuel
  induction fuel with
  | zero =>
    intro listed a w _ hr hy hS H
    refine ⟨fun h => (by rw [h] at hr; cases hr), fun j hj => ?_⟩
    by_cases hji : j = i
    · subst hji; exact hy.wpOp hi trivial ⟨fun hc => hS (by rw [getD_set_ne true (Ne.symm hne)] at hc; exact hc), H⟩
    · have := ready_mono hj hji
      rw [H.1] at this
      cases this
  | succ fuel ih =>
    intro listed a w hfree hr hy hS H
    refine ⟨fun h => (by rw [h] at hr; cases hr), fun j hj => ?_⟩
    by_cases hji : j = i
    · subst hji; exact hy.wpOp hi trivial ⟨fun hc => hS (by rw [getD_set_ne true (Ne.symm hne)] at hc; exact hc), H⟩
    · have h1 := H.2 j (ready_mono hj hji)
      obtain ⟨hjun, oj, hoj, hall⟩ := mem_ready.1 hj
      have hnot : ∀ e ∈ oj.after, Region.binds md e = true → e.on ≠ i := fun e he hb heq => by
        have h1 := hall e he hb
        have h0 := (mem_ready.1 hr).1
        rw [heq] at h1
        rcases Nat.lt_or_ge i listed.size with h' | h'
        · simp [h'] at h0 h1; rw [h0] at h1; cases h1
        · simp [Array.getElem?_eq_none h'] at h1
      have h2 := wpOp_putIf (S := fun _ => True) hoj (hfree j oj hoj hji hjun hnot) (fun cs b => hsel i oi cs b hi) (fun cs b => hsel j oj cs b hoj) hQ hy h1
      have hfree' : ∀ k ok, ops[k]? = some ok → k ≠ i → (listed.setIfInBounds j true).getD k true = false →
          (∀ e ∈ ok.after, Region.binds md e = true → e.on ≠ i) → oi.apart ops ok = true := fun k ok hk hki hun hno => by
        refine hfree k ok hk hki ?_ hno
        by_cases hjk : j = k
        · subst hjk; exact hjun
        · rw [getD_set_ne true hjk] at hun; exact hun
      refine wpOp_mono (fun a' w' h3 => ?_) h2
      have hS' : (listed.setIfInBounds j true).getD L true = false → S w' := fun hc => h3.2.1 (by rw [Array.setIfInBounds_comm _ _ (Ne.symm hji), getD_set_ne true (Ne.symm hne)]; exact hc)
      refine ⟨hS', ih (listed.setIfInBounds j true) a' w' hfree' (ready_mono hr (Ne.symm hji)) h3.1 hS' ?_⟩
      rw [Array.setIfInBounds_comm _ _ hji]
      exact h3.2.2
theorem takeP {i d : Nat} {oi : Oper} {v : Value} {fuel : Nat} {listed : Array Bool} {a : Act} {w : World} (hi : ops[i]? = some oi) (hd : oi.dst = some d)
    (hs : Region.noSelect ops = true) (hf : Region.free md ops listed i = true) (hr : (Region.ready md ops listed).contains i = true) (hne : (L == i) = false)
    (hQ : ∀ c a w, Q (.panic c) (a.put (some d) v) w → Q (.panic c) a w) (hy : YieldsIf P ops (fun _ => True) oi v a) (hS : S w)
    (h : wpAnyL P md ops Q S L fuel (listed.setIfInBounds i true) (a.put (some d) v) w) : wpAnyL P md ops Q S L (fuel + 1) listed a w :=
  wpAnyL_pure hi (Region.noSelect_spec hs) (by simpa using hne) (by rw [hd]; exact hQ) fuel listed a w (Region.free_spec hi hf) (by simpa using hr) hy (fun _ => hS) (by rw [hd]; exact h)
/-- L itself, or what comes behind it: the only one that may come up. -/
theorem stepM {i : Nat} {o : Oper} {fuel : Nat} {listed : Array Bool} {a : Act} {w : World} (hr : Region.ready md ops listed = [i]) (ho : ops[i]? = some o) (hL : (listed.setIfInBounds i true).getD L true = true)
    (h : ∀ K' : Act → World → Prop, Shut (∀ a w, wpAnyL P md ops Q S L fuel (listed.setIfInBounds i true) a w → K' a w) → if Region.wanted o (yielded ops a.tmps) = true then Oper.wp P o a w K' Q else K' (a.put o.dst undef) w) : wpAnyL P md ops Q S L (fuel + 1) listed a w := by
  refine ⟨fun h0 => (by rw [hr] at h0; cases h0), fun j hj => ?_⟩
  rw [hr, List.mem_singleton] at hj
  subst hj
  exact wpOp_step ho (fun K' hK => h K' (fun a w hW => hK a w ⟨fun hc => (by rw [hL] at hc; cases hc), hW⟩))
theorem doneM {fuel : Nat} {listed : Array Bool} {a : Act} {w : World} (hr : Region.ready md ops listed = []) (h : Q .normal a w) : wpAnyL P md ops Q S L fuel listed a w := by
  cases fuel with
  | zero => exact ⟨hr, h⟩
  | succ n => exact ⟨fun _ => h, by rw [hr]; simp⟩
end
end Go.Proofs.Ytpdfcffeinbcaaa
/- A range over a function whose rounds are told what they are handed; the iterator is told what all rounds keep (after G0). -/
namespace Go.Proofs.Ytpdfcffeinbcaaa
open Go.RowKit

theorem grown_none {w w' : World} (h : Below w.heap.size w w') : w.grownBy w' none := ⟨h.os, h.tape, h.output, h.size, fun i hi _ => h.block i hi⟩
/-- What is no cells, and lies at or beyond B, stays. -/
def Rest (B : Nat) (W W' : World) : Prop := ∀ i o, B ≤ i → W.heap[i]? = some o → o.isCells = false → W'.heap[i]? = some o
theorem range_rounds {P : Program} {n : Nat} {g : Operand} {ps : Array Tmp} {assign body : Code} {Q : Exit → Act → World → Prop} {a : Act} {w : World}
    {gf : Nat} {lb : Array Value} (hg : a.eval g = .func (.func gf) #[] lb) (eg : ∀ args w, (callFunc gf args).run P w = .ok (.enter gf args) w)
    (n₀ N : Nat) (hn0 : n₀ ≤ w.heap.size) (R : Nat → World → Array Value → Prop) (K : Nat → World → Prop) (Ax : Nat → Act → World → Prop) (Inv : World → Prop) (hInv : ∀ k W, K k W → Inv W)
    (hRs : ∀ k W args, R k W args → args.size = ps.size)
    (hK : ∀ k A B row, K k A → A.grownBy B row → (∀ r, row = some r → w.heap.size ≤ r) → K k B)
    (hAx : ∀ k a' A B l, Ax k a' A → A.grownBy B (some l) → (∃ o : Obj, A.heap[l]? = some o ∧ o.isCells = false) → Ax k a' B)
    (hiter : ∀ (l : Nat) (J : Nat → World → Prop) (W : World), Below w.heap.size w W → (∀ k A B, J k A → A.grownBy B none → J k B) → (∀ k A, J k A → Inv A) →
      (∀ k W1 args, k < N → J k W1 → R k W1 args → YieldAt Fence.wide (n - 1 - 1) P l args W1 fun e W' => e = .returned (.bool true) ∧ J (k + 1) W' ∧ Below n₀ W1 W') → J 0 W →
      CallsIn Fence.wide (n - 1) P gf (#[.func (.yield l) #[] #[]] ++ lb) W fun e W' => (∃ v, e = .returned v) ∧ J N W')
    (hassign : ∀ (l k : Nat) (W : World) (args : Array Value) (K' : Act → World → Prop), K k W → R k W args → (∀ a' W', Below W.heap.size W W' → Ax k a' W' → K' a' W') →
      assign.wpIn (Fence.wide.inRound l) (n - 1 - 1) P (Exit.then K' (fun _ _ _ => False)) { tmps := (ps.zip args).foldl (fun t (p, v) => t.setIfInBounds p v) a.tmps, defers := [] } W)
    (hbody : ∀ (l k : Nat) (W : World) (a' : Act), k < N → K k W → Ax k a' W →
      body.wpIn (Fence.wide.inRound l) (n - 1 - 1) P (fun e _ W' => e = .normal ∧ K (k + 1) W' ∧ Below n₀ W W' ∧ Rest w.heap.size W W') a' W)
    (h0 : K 0 w)
    (hdone : ∀ (D : Nat) (W : World), w.heap.size ≤ D → K N W → W.heap[D]? = some (.deferred (some [])) → Q .normal { a with defers := { target := .collected D, args := #[] } :: a.defers } W) :
    (Code.rangeFunc g ps assign body).wpIn Fence.wide n P Q a w := by
  refine wpIn_rangeFunc fun fn hfn => ?_
  -- the record, ready or busy
  obtain ⟨rc, hrc⟩ : ∃ rc : LoopState → Loop, rc = fun st => { state := st, pending := none, fn, tmps := a.tmps, params := ps, assign, body, defers := w.heap.size } := ⟨_, rfl⟩
  obtain ⟨W1, hW1⟩ : ∃ W1, W1 = (w.alloc (.deferred (some []))).alloc (.loop (rc .ready)) := ⟨_, rfl⟩
  have hz1 : (w.alloc (.deferred (some []))).heap.size = w.heap.size + 1 := World.size_alloc _ _
  have hrec1 : W1.heap[w.heap.size + 1]? = some (.loop (rc .ready)) := by
    rw [hW1, ← hz1]; exact World.alloc_heap_new _ _
  have hdef1 : W1.heap[w.heap.size]? = some (.deferred (some [])) := by
    rw [hW1, Below.heap_alloc _ _ _ (by rw [hz1]; omega)]; exact World.alloc_heap_new _ _
  have hbel1 : Below w.heap.size w W1 := by
    rw [hW1]; exact ((Below.refl _ w).alloc (Nat.le_refl _) _).alloc (by rw [hz1]; omega) _
  have hK1 : K 0 W1 := hK 0 w W1 none h0 (grown_none hbel1) (fun r e => by cases e)
  refine ⟨w.heap.size + 1, [{ target := .collected w.heap.size, args := #[] }], W1, { target := .fn (.func gf) lb, args := #[.func (.yield (w.heap.size + 1)) #[] #[]] }, W1, gf, #[.func (.yield (w.heap.size + 1)) #[] #[]] ++ lb, W1, ?_, ?_, fun _ _ => trivial, ?_, fun h => (by cases h), ?_⟩
  · rw [hW1, hrc]
    exact run_enterLoop_outer _ _ _ _ _
  · simp only [resolve, hg]
    simp [go_sem]
  · simp [invoke, go_sem, eg]
  · refine (hiter (w.heap.size + 1) (fun k W => K k W ∧ W.heap[w.heap.size + 1]? = some (.loop (rc .ready)) ∧ W.heap[w.heap.size]? = some (.deferred (some []))) W1 hbel1 ?_ (fun k A h => hInv k A h.1) ?_ ⟨hK1, hrec1, hdef1⟩).mono ?_
    · rintro k A B ⟨h1, h2, h3⟩ hgr
      exact ⟨hK k A B none h1 hgr (fun r e => by cases e), (hgr.block _ (Array.getElem?_eq_some_iff.1 h2).1 (by simp)).trans h2, (hgr.block _ (Array.getElem?_eq_some_iff.1 h3).1 (by simp)).trans h3⟩
    · -- one round
      rintro k W args hkN ⟨hKk, hr, hd⟩ hR
      have hy := run_yield (P := P) (args := args) hr (by rw [hrc]; exact hRs k W args hR)
      rw [hrc] at hy
      refine ⟨fn, _, assign, body, hy, roundIn_of_wpIn hfn (hassign _ k W args _ hKk hR fun a' W2 hb2 hax => ?_)⟩
      have hr2 : W2.heap[w.heap.size + 1]? = some (.loop (rc .ready)) := (hb2.block _ (Array.getElem?_eq_some_iff.1 hr).1).trans hr
      have hd2 : W2.heap[w.heap.size]? = some (.deferred (some [])) := (hb2.block _ (Array.getElem?_eq_some_iff.1 hd).1).trans hd
      have hK2 : K k W2 := hK k W W2 none hKk (grown_none hb2) (fun r e => by cases e)
      refine ⟨_, run_beginRound hr2 (by rw [hrc]), ?_⟩
      have hg3 := grownBy_putObj' W2 (w.heap.size + 1) (.loop { rc .ready with state := .busy })
      have hK3 := hK k W2 _ _ hK2 hg3 (fun r e => by cases e; omega)
      have hax3 := hAx k a' W2 _ _ hax hg3 ⟨_, hr2, rfl⟩
      have hl3 : (W2.putObj (w.heap.size + 1) (.loop { rc .ready with state := .busy })).heap[w.heap.size + 1]? = some (.loop { rc .ready with state := .busy }) := World.putObj_heap_same (Array.getElem?_eq_some_iff.1 hr2).1
      have hd3 : (W2.putObj (w.heap.size + 1) (.loop { rc .ready with state := .busy })).heap[w.heap.size]? = some (.deferred (some [])) := (World.putObj_heap_other (by omega)).trans hd2
      have hb3 : Below n₀ W2 (W2.putObj (w.heap.size + 1) (.loop { rc .ready with state := .busy })) := (Below.refl n₀ W2).grown hg3 (by have := (Array.getElem?_eq_some_iff.1 hr2).1; omega) (fun r e => by cases e; omega)
      refine wpIn_mono (hbody (w.heap.size + 1) k _ a' hkN hK3 hax3) ?_
      rintro e a4 W4 ⟨rfl, hK4, hb4, hrest⟩
      have hl4 := hrest _ _ (by omega) hl3 rfl
      have hd4 := hrest _ _ (Nat.le_refl _) hd3 rfl
      have hend := run_endRound (P := P) none hl4
      have hg5 := grownBy_putObj' W4 (w.heap.size + 1) (.loop { ({ rc .ready with state := .busy } : Loop) with state := if (none : Option Code).isNone then .ready else .done, pending := none })
      refine ⟨_, _, hend, rfl, ⟨hK (k + 1) W4 _ _ hK4 hg5 (fun r e => by cases e; omega), ?_, (World.putObj_heap_other (by omega)).trans hd4⟩, ?_⟩
      · rw [World.putObj_heap_same (Array.getElem?_eq_some_iff.1 hl4).1, hrc]
        rfl
      · exact (((hb2.mono (by have := (Array.getElem?_eq_some_iff.1 hd).1; omega)).trans hb3).trans hb4).grown hg5 (by have := (Array.getElem?_eq_some_iff.1 hl4).1; omega) (fun r e => by cases e; omega)
    · -- behind the iterator
      rintro e W2 ⟨⟨v, rfl⟩, hKN, hr, hd⟩
      have hend := run_endLoop (P := P) hr (by rw [hrc]; simp)
      have hg5 := grownBy_putObj' W2 (w.heap.size + 1) (.loop { (rc .ready) with state := .exhausted })
      refine ⟨none, _, ?_, hdone w.heap.size _ (Nat.le_refl _) (hK N W2 _ _ hKN hg5 (fun r e => by cases e; omega)) ((World.putObj_heap_other (by omega)).trans hd)⟩
      rw [hrc] at hend ⊢
      exact hend
end Go.Proofs.Ytpdfcffeinbcaaa
/- A range over slices.Backward of numbers. -/
namespace Go.Proofs.Ytpdfcffeinbcaaa
open Go.RowKit Go.Shelf
attribute [local go_sem] Oper.semAt_some
theorem backward_c (X : Option Addr) (n c : Nat) (w : World) : Calls Try.prog 60 #[.slice X n c] w fun e w' =>
    e = .returned (.func (.func 77) #[] #[.pointer (some ⟨w.heap.size, 0, none⟩)]) ∧ w'.cell? ⟨w.heap.size, 0, none⟩ = some (.slice X n c) ∧ w.heap.size < w'.heap.size ∧ Below w.heap.size w w' := by
  go_enter Try.func60, Try.ntmps60
  go_wp2
  go_ret
  exact ⟨rfl, by rw [cell_new]; rfl, by rw [al_size]; omega, (Below.refl _ _).alloc (Nat.le_refl _) _⟩
set_option maxHeartbeats 4000000 in
set_option maxRecDepth 100000 in
theorem back_iter (n l B c : Nat) (hn : 1 ≤ n) {X : Option Addr} {o : List Int} (J : Nat → World → Prop) (W : World) (hl : o.length ≤ 4611686018427387904)
    (hInv : ∀ k A, J k A → A.cell? ⟨B, 0, none⟩ = some (.slice X o.length c) ∧ RowAt A X (I o))
    (hY : ∀ (m : Nat) (W1 : World) (hm : m < o.length), J (o.length - (m + 1)) W1 → YieldAt Fence.wide (n - 1) Try.prog l #[.int .i64 (m : Int), .int .i64 o[m]] W1 fun e W' => e = .returned (.bool true) ∧ J (o.length - m) W' ∧ Below 0 W1 W')
    (h0 : J 0 W) :
    CallsIn Fence.wide n Try.prog 77 #[.func (.yield l) #[] #[], .pointer (some ⟨B, 0, none⟩)] W fun e W' => (∃ v, e = .returned v) ∧ J o.length W' := by
  have c0 := (hInv 0 W h0).1
  have HI := Lib.hid hInv
  have HY := Lib.hid hY
  clear hInv hY
  refine callsIn_of_wp Try.func77 rfl trivial ?_ rfl
  simp only [Try.ntmps77, List.size_toArray, List.length_cons, List.length_nil, Nat.reduceAdd, Nat.reduceSub, Array.replicate_succ, Array.replicate_zero, List.push_toArray, List.append_toArray, List.nil_append, List.cons_append]
  have h1 : (0 : Int) ≤ (o.length : Int) := Int.natCast_nonneg _
  gi_wp2
  gi_loopw [3] (fun i wr => ∃ m : Nat, m ≤ o.length ∧ i = .int .i64 ((m : Int) - 1) ∧ J (o.length - m) wr) (fun i _ => (intOf i + 1).toNat)
  case atStart => exact ⟨o.length, Nat.le_refl _, rfl, by rw [Nat.sub_self]; exact h0⟩
  case round =>
    obtain ⟨m, hm, rfl, hJ⟩ := hrel
    by_cases hm0 : m = 0
    · subst hm0
      gi_wp2
      go_end0
      exact ⟨⟨_, rfl⟩, hJ⟩
    · obtain ⟨q, rfl⟩ : ∃ q, m = q + 1 := ⟨m - 1, by omega⟩
      have he : ((q + 1 : Nat) : Int) - 1 = (q : Int) := by omega
      rw [he]
      obtain ⟨cB, hrow⟩ := HI.out _ _ hJ
      have hq0 : (0 : Int) ≤ (q : Int) := by omega
      have hq1 : (q : Int) < (o.length : Int) := by omega
      obtain ⟨b, off, rfl, hcq⟩ := hrow.int (show q < o.length by omega)
      have hy := HY.out q wr (by omega) hJ
      obtain ⟨x, hx⟩ : ∃ x, x = o[q] := ⟨_, rfl⟩
      rw [← hx] at hcq hy
      obtain ⟨fn, tmps, assign, body, hyy, hR⟩ := hy
      have HR := Lib.hid hR
      clear hx hR hrow hJ he c0
      gi_wp2
      refine HR.out.mono ?_
      rintro e W3 ⟨rfl, hJ4, hk4⟩
      gi_wp2
      go_roundw
      case rel => exact ⟨q, by omega, rfl, hJ4⟩
      case measure => simp [intOf]
/-- The whole range: Kd m: m are still to come. -/
theorem range_back {n : Nat} {g : Operand} {ps : Array Tmp} {assign body : Code} {Q : Exit → Act → World → Prop} {a : Act} {w : World} {B c : Nat} {X : Option Addr} {o : List Int}
    (hn : 2 ≤ n) (hg : a.eval g = .func (.func 77) #[] #[.pointer (some ⟨B, 0, none⟩)]) (hps : ps.size = 2) (hl : o.length ≤ 4611686018427387904)
    (Kd : Nat → World → Prop) (fT : Nat → Int → Array Value → Array Value)
    (hInv : ∀ m W, Kd m W → W.cell? ⟨B, 0, none⟩ = some (.slice X o.length c) ∧ RowAt W X (I o))
    (hK : ∀ m A B' row, Kd m A → A.grownBy B' row → (∀ r, row = some r → w.heap.size ≤ r) → Kd m B')
    (hassign : ∀ (l m : Nat) (hm : m < o.length) (W : World) (K' : Act → World → Prop), Kd (m + 1) W → (∀ a' W', Below W.heap.size W W' → a' = { tmps := fT m o[m] a.tmps, defers := [] } → K' a' W') →
      assign.wpIn (Fence.wide.inRound l) (n - 1 - 1) Try.prog (Exit.then K' (fun _ _ _ => False)) { tmps := (ps.zip #[.int .i64 (m : Int), .int .i64 o[m]]).foldl (fun t (p, v) => t.setIfInBounds p v) a.tmps, defers := [] } W)
    (hbody : ∀ (l m : Nat) (hm : m < o.length) (W : World), Kd (m + 1) W → body.wpIn (Fence.wide.inRound l) (n - 1 - 1) Try.prog (fun e _ W' => e = .normal ∧ Kd m W' ∧ Below 0 W W' ∧ Rest w.heap.size W W') { tmps := fT m o[m] a.tmps, defers := [] } W)
    (h0 : Kd o.length w)
    (hdone : ∀ (D : Nat) (W : World), w.heap.size ≤ D → Kd 0 W → W.heap[D]? = some (.deferred (some [])) → Q .normal { a with defers := { target := .collected D, args := #[] } :: a.defers } W) :
    (Code.rangeFunc g ps assign body).wpIn Fence.wide n Try.prog Q a w := by
  refine range_rounds (gf := 77) (lb := #[.pointer (some ⟨B, 0, none⟩)]) hg (enters_of Try.func77 (by kernel_rfl) rfl) 0 o.length (Nat.zero_le _)
    (fun k W1 args => ∃ (m : Nat) (hm : m < o.length), k = o.length - (m + 1) ∧ args = #[.int .i64 (m : Int), .int .i64 o[m]])
    (fun k W => Kd (o.length - k) W) (fun k a' W => ∃ (m : Nat) (hm : m < o.length), k = o.length - (m + 1) ∧ a' = { tmps := fT m o[m] a.tmps, defers := [] })
    (fun W => W.cell? ⟨B, 0, none⟩ = some (.slice X o.length c) ∧ RowAt W X (I o)) (fun k W h => hInv _ W h) ?hRs ?hK ?hAx ?hiter ?hassign ?hbody ?h0 ?hdone
  case hRs => rintro k W args ⟨m, hm, _, rfl⟩; rw [hps]; rfl
  case hK => intro k A B' row h hgr hr; exact hK _ A B' row h hgr hr
  case hAx => rintro k a' A B' l h _ _; exact h
  case hiter =>
    intro l J W _ hJ hJI hY hJ0
    refine (back_iter (n - 1) l B c (by omega) J W hl hJI ?_ hJ0)
    intro m W1 hm hJm
    have := hY (o.length - (m + 1)) W1 #[.int .i64 (m : Int), .int .i64 o[m]] (by omega) hJm ⟨m, hm, rfl, rfl⟩
    rw [show o.length - (m + 1) + 1 = o.length - m by omega] at this
    exact this
  case hassign =>
    rintro l k W args K' hk ⟨m, hm, rfl, rfl⟩ hK'
    rw [show o.length - (o.length - (m + 1)) = m + 1 by omega] at hk
    exact hassign l m hm W K' hk (fun a' W' hb he => hK' a' W' hb ⟨m, hm, rfl, he⟩)
  case hbody =>
    rintro l k W a' hkN hk ⟨m, hm, rfl, rfl⟩
    rw [show o.length - (o.length - (m + 1)) = m + 1 by omega] at hk
    have := hbody l m hm W hk
    rw [show o.length - (o.length - (m + 1) + 1) = m by omega]
    exact this
  case h0 => rw [Nat.sub_zero]; exact h0
  case hdone =>
    intro D W hD hk hd
    rw [Nat.sub_self] at hk
    exact hdone D W hD hk hd
end Go.Proofs.Ytpdfcffeinbcaaa
/- A region that draws its order, in a round (after G3); its last operation may write what the others load (V7). -/
namespace Go.Proofs.Ytpdfcffeinbcaaa
open Go.RowKit

/-- Is an operation no 'defer'? -/
def plainOp (o : Oper) : Bool := match o.op with
  | .defer _ => false
  | _ => true
theorem plain_ne {o : Oper} (h : plainOp o = true) : ∀ c, o.op ≠ .defer c := by
  intro c e
  unfold plainOp at h
  rw [e] at h
  cases h
section
variable {P : Program} {ops : Array Oper} {Q : Exit → Act → World → Prop} {l n : Nat}
theorem op_in_round {o : Oper} {a : Act} {w : World} {K : Act → World → Prop} (hd : plainOp o = true) (h : o.wp P a w K Q) : o.wpIn (Fence.wide.inRound l) n P a w K Q := by
  refine ⟨fun _ _ => trivial, ?_⟩
  rw [Oper.semAt_eq _ _ _ (plain_ne hd)]
  unfold Oper.wp at h
  revert h
  cases (execOp a.eval o).run P w with
  | ok nx w' =>
    cases nx with
    | value v => exact id
    | skip => exact id
    | defer d => exact id
    | enter f args => exact fun h => ⟨fun e => (by cases e), CallsIn.inRound l (callsIn_wide.2 h)⟩
    | row row args => exact fun h => ⟨fun e => (by cases e), fun c cs _ => (h c cs).elim fun v hv => hv.elim fun w2 h2 => ⟨v, w2, h2.1, stepsIn_wide.2 h2.2⟩⟩
    | _ => exact fun h => h.elim
  | halt x w' => cases x <;> exact id
theorem wpAny_in_round (hd : ∀ (i : Nat) (o : Oper), ops[i]? = some o → plainOp o = true) (hno : ¬ LetsOut Q) : ∀ (fuel : Nat) (listed : Array Bool) (a : Act) (w : World), wpAny P .any ops Q fuel listed a w → wpAnyIn (Fence.wide.inRound l) n P .any ops Q fuel listed a w
  | 0, _, _, _, h => h
  | fuel + 1, listed, a, w, h => by
    refine ⟨h.1, fun i hi => ?_⟩
    have h2 := h.2 i hi
    unfold wpOp at h2
    unfold wpOpIn
    cases ho : ops[i]? with
    | none =>
      rw [ho] at h2
      exact wpAny_in_round hd hno fuel _ a w h2
    | some o =>
      rw [ho] at h2
      simp only at h2 ⊢
      split
      · next hw =>
        rw [if_pos hw] at h2
        rcases h2 with h2 | h2
        · exact op_in_round (hd i o ho) (Oper.wp_mono (fun a w h => wpAny_in_round hd hno fuel _ a w h) h2)
        · exact absurd h2.2 hno
      · next hw =>
        rw [if_neg hw] at h2
        exact ⟨fun _ _ => trivial, wpAny_in_round hd hno fuel _ _ w h2⟩
theorem region_in_round {id : Nat} {a : Act} {w : World} (N : Nat) (hN : ops.size = N) (S : World → Prop) (hm : P.follows .mixedOrders = true) (hd : ops.all plainOp = true) (hno : ¬ LetsOut Q) (hS : S w.drew)
    (h : S w.drew → wpAnyH P .any ops Q S N (Array.replicate N false) a w.drew) : (Code.region id ops true).wpIn (Fence.wide.inRound l) n P Q a w := by
  subst hN
  refine wpIn_region_any hm (wpAny_in_round (fun i o ho => ?_) hno _ _ _ _ (wpAny_of_held _ _ _ _ (h hS)))
  have hi := Array.getElem?_eq_some_iff.1 ho
  obtain ⟨hlt, he⟩ := hi
  have := Array.all_eq_true.1 hd i hlt
  rw [he] at this
  exact this
theorem region_in_roundL {id : Nat} {a : Act} {w : World} (L : Nat) (S : World → Prop) (hm : P.follows .mixedOrders = true) (hd : ops.all plainOp = true) (hno : ¬ LetsOut Q) (hS : S w.drew)
    (h : S w.drew → wpAnyL P .any ops Q S L ops.size (Array.replicate ops.size false) a w.drew) : (Code.region id ops true).wpIn (Fence.wide.inRound l) n P Q a w := by
  refine wpIn_region_any hm (wpAny_in_round (fun i o ho => ?_) hno _ _ _ _ (wpAny_of_heldL _ _ _ _ (h hS)))
  have hi := Array.getElem?_eq_some_iff.1 ho
  obtain ⟨hlt, he⟩ := hi
  have := Array.all_eq_true.1 hd i hlt
  rw [he] at this
  exact this
end
end Go.Proofs.Ytpdfcffeinbcaaa
