/- Next, by any policy. -/
import Derived.Test.YtbgnchddeklmeaaK23
namespace Go.Proofs.Ytbgnchddeklmeaa
open Go.RowKit
/-- A scheduler with all that is its own in blocks lo to lo + n - 1. -/
def SAt (w : World) (lo n s : Nat) (p : Pol) (last count : Int) (often : Nat → Int) : Prop :=
  lo ≤ s ∧ s < lo + n ∧ lo + n ≤ w.heap.size ∧ ∃ ty pv q, SchAt w s (.iface ty pv) last count often ∧ PolAt w lo n s ty pv q p
theorem SAt.moves {w w' : World} {lo n s : Nat} {p : Pol} {last count : Int} {often : Nat → Int} {M : List Nat} (h : SAt w lo n s p last count often) (hm : Moves M w w') (hM : ∀ k ∈ M, k < lo ∨ lo + n ≤ k) : SAt w' lo n s p last count often := by
  obtain ⟨h1, h2, h3, ty, pv, q, h4, h5⟩ := h
  exact ⟨h1, h2, Nat.le_trans h3 hm.2.2.2.1, ty, pv, q, h4.moves hm (fun hk => by have := hM s hk; omega), h5.moves hm (fun k hk => .inr (hM k hk))⟩
def ring (lo n : Nat) : List Nat := List.range' lo n
theorem mem_ring {lo n k : Nat} : k ∈ ring lo n ↔ lo ≤ k ∧ k < lo + n := List.mem_range'_1
theorem meth_list (v : Value) (w : World) : (method 221 69 v "onceweb/sched.pick").run Try.prog w = .ok (83, v) w := by kernel_rfl
theorem meth_weights (v : Value) (w : World) : (method 221 75 v "onceweb/sched.pick").run Try.prog w = .ok (86, v) w := by kernel_rfl
theorem meth_lot (v : Value) (w : World) : (method 221 76 v "onceweb/sched.pick").run Try.prog w = .ok (90, v) w := by kernel_rfl
theorem meth_pct (v : Value) (w : World) : (method 221 79 v "onceweb/sched.pick").run Try.prog w = .ok (93, v) w := by kernel_rfl
theorem call_list (x y z : Value) (w : World) : (callFunc 83 #[x, y, z]).run Try.prog w = .ok (.enter 83 #[x, y, z]) w := by kernel_rfl
theorem call_weights (x y z : Value) (w : World) : (callFunc 86 #[x, y, z]).run Try.prog w = .ok (.enter 86 #[x, y, z]) w := by kernel_rfl
theorem call_lot (x y z : Value) (w : World) : (callFunc 90 #[x, y, z]).run Try.prog w = .ok (.enter 90 #[x, y, z]) w := by kernel_rfl
theorem call_pct (x y z : Value) (w : World) : (callFunc 93 #[x, y, z]).run Try.prog w = .ok (.enter 93 #[x, y, z]) w := by kernel_rfl
/-- Behind a pick, by any policy. -/
def PickedP (lo n s : Nat) (p : Pol) (last count : Int) (often : Nat → Int) (l : List Int) (w : World) (e : Ending) (w' : World) : Prop :=
  ∃ m, l[pickK p last count often l]? = some m ∧ e = .returned (.tuple #[.int .i64 m, .int .i64 0]) ∧ SAt w' lo n s (pickP p count l) m (count + 1) (bump often m) ∧ Moves (ring lo n) w w'
theorem grown_same (w : World) : w.grownBy w none := World.grownBy.refl _ _
theorem next_via {w : World} {lo n s : Nat} {ty : TypeId} {pv r : Value} {F : FuncId} {p : Pol} {last count : Int} {often : Nat → Int} {X : Option Addr} {d : Nat} {xs l : List Int} {q : Option Nat}
    (hm : ∀ w : World, (method 221 ty pv "onceweb/sched.pick").run Try.prog w = .ok (F, r) w)
    (hF : ∀ x y z (w : World), (callFunc F #[x, y, z]).run Try.prog w = .ok (.enter F #[x, y, z]) w)
    (h1 : lo ≤ s) (h2 : s < lo + n) (h3 : lo + n ≤ w.heap.size) (hS : SchAt w s (.iface ty pv) last count often) (hr : RowAt w X (I xs)) (hR : Ready xs l) (hc : 0 ≤ count ∧ count < 4611686018427387904) (ho : ∀ i, 0 ≤ often i ∧ often i < 4611686018427387904)
    (hq : ∀ b, q = some b → lo ≤ b ∧ b < lo + n ∧ b ≠ s)
    (hpick : ∀ w1 g cap, Moves [] w w1 → w.heap.size ≤ g → g < w1.heap.size → (∀ j (h : j < l.length), w1.cell? ⟨g, j, none⟩ = some (.int .i64 l[j])) → SchAt w1 s (.iface ty pv) last count often →
      Calls Try.prog F #[r, .pointer (some ⟨s, 0, none⟩), .slice (some ⟨g, 0, none⟩) l.length cap] w1 fun e w2 => e = .returned (.int .i64 (pickK p last count often l)) ∧ w1.grownBy w2 q ∧ PolAt w2 lo n s ty pv q (pickP p count l)) :
    Calls Try.prog 10 #[.pointer (some ⟨s, 0, none⟩), .slice X xs.length d] w (PickedP lo n s p last count often l w) := by
  obtain ⟨hp, hlt, hlo, h0, hl1⟩ := hR
  have hl := hp.length_eq
  have hk := pickK_lt p last count often h0
  refine (next_c (E := fun w2 => PolAt w2 lo n s ty pv q (pickP p count l)) (q := q) hm hF hS hr (by omega) (by omega) (sortI_eq hlt hp) hlo (by rw [compact_lt hlt]) hk hc ho (fun b hb => by have := hq b hb; omega) ?_).mono ?_
  · intro w1 v hM ho1
    rcases own_ints_cases ho1 with ⟨_, h, _⟩ | ⟨g, cap, cur, rfl, _, hB, hg, _⟩
    · omega
    · exact hpick w1 g cap hM hB hg (fun j h => by have h3 := ho1.cells (g := g) rfl j (.int .i64 l[j]) (by simp [h]); rwa [add_zero] at h3) (hS.moves hM (by simp))
  · rintro e w' ⟨rfl, hS2, w2, hE, hm1, hm2⟩
    have hqm : ∀ k ∈ q.toList, k ∈ ring lo n ∨ w.heap.size ≤ k := fun k hk => .inl (mem_ring.2 (by have := hq k (by simpa using hk); omega))
    exact ⟨l[pickK p last count often l], List.getElem?_eq_getElem hk, rfl,
      ⟨h1, h2, Nat.le_trans h3 (Nat.le_trans hm2.2.2.2.1 hm1.2.2.2.1), ty, pv, q, hS2, hE.moves hm1 (fun k hk => .inl (by simpa using hk))⟩,
      (hm2.mono hqm).trans (hm1.mono (fun k hk => .inl (mem_ring.2 (by simp at hk; omega))))⟩
theorem pick_round2 {w : World} {s : Nat} {p : Value} {last count : Int} {often : Nat → Int} {g cap : Nat} {l : List Int} (hS : SchAt w s p last count often) (hgl : g < w.heap.size) (hc : ∀ j (h : j < l.length), w.cell? ⟨g, j, none⟩ = some (.int .i64 l[j])) (hl : l.length ≤ 128) :
    Calls Try.prog 81 #[roundP, .pointer (some ⟨s, 0, none⟩), .slice (some ⟨g, 0, none⟩) l.length cap] w fun e w' => e = .returned (.int .i64 (rndK last l : Nat)) ∧ w.grownBy w' none := by
  have HS := Lib.hid hS
  have HC := Lib.hid hc
  clear hS hc
  go_enter Try.func81, Try.ntmps81
  go_wp2_with (go_at_call 19; refine (round1_c HS.out hgl HC.out hl).mono ?_; rintro e w' ⟨rfl, hg⟩)
  go_ret
  exact ⟨rfl, hg⟩
theorem pick_fair2 {w : World} {s : Nat} {p : Value} {last count : Int} {often : Nat → Int} {g cap : Nat} {l : List Int} (hS : SchAt w s p last count often) (hgl : g < w.heap.size) (hc : ∀ j (h : j < l.length), w.cell? ⟨g, j, none⟩ = some (.int .i64 l[j])) (hl0 : 0 < l.length) (hl : l.length ≤ 128) (hlo : ∀ x ∈ l, 0 ≤ x ∧ x < 128) :
    Calls Try.prog 81 #[fairP, .pointer (some ⟨s, 0, none⟩), .slice (some ⟨g, 0, none⟩) l.length cap] w fun e w' => e = .returned (.int .i64 (fairK often l : Nat)) ∧ w.grownBy w' none := by
  have HS := Lib.hid hS
  have HC := Lib.hid hc
  have HLO := Lib.hid hlo
  clear hS hc hlo
  go_enter Try.func81, Try.ntmps81
  go_wp2_with (go_at_call 22; refine (fair1_c HS.out hgl HC.out hl0 hl HLO.out).mono ?_; rintro e w' ⟨rfl, hg⟩)
  go_ret
  exact ⟨rfl, hg⟩
theorem Moves.of_grown0 {w w' : World} (h : w.grownBy w' none) : Moves [] w w' := Moves.of_grown h (by simp)
theorem next_any {w : World} {lo n s : Nat} {p : Pol} {last count : Int} {often : Nat → Int} {X : Option Addr} {xs l : List Int} (d : Nat)
    (h : SAt w lo n s p last count often) (hr : RowAt w X (I xs)) (hR : Ready xs l) (hc : 0 ≤ count ∧ count < 4611686018427387904) (ho : ∀ i, 0 ≤ often i ∧ often i < 4611686018427387904) :
    Calls Try.prog 10 #[.pointer (some ⟨s, 0, none⟩), .slice X xs.length d] w (PickedP lo n s p last count often l w) := by
  obtain ⟨h1, h2, h3, ty, pv, q, hS, hP⟩ := h
  have hP0 := hP
  obtain ⟨_, _, hlo, h0, hl1⟩ := id hR
  rcases hP with ⟨hk, rfl, rfl, rfl⟩ | ⟨hk, rfl, rfl, h4, h5, Y, dy, rfl, h7⟩ | ⟨hk, rfl, rfl, h4, Y, dy, rfl, h7⟩ | ⟨hk, rfl, b, rfl, rfl, h5, h6, h7, h8, h9, h10⟩ | ⟨hk, rfl, h4, b, Y, dy, rfl, rfl, h6, h7, h8, h9, h10, h11, h12, h13, h14, h15⟩
  · refine next_via (q := none) (meth_plain _) call_plain h1 h2 h3 hS hr hR hc ho (by simp) ?_
    intro w1 g cap hM _ hg hcl hS1
    have hpp : pickP p count l = p := by unfold pickP; rw [if_neg (by omega), if_neg (by omega)]
    have hP1 := hP0.moves hM (by simp)
    rw [hpp]
    have hcase : p.kind = 0 ∨ p.kind = 1 ∨ p.kind = 2 ∨ p.kind = 3 := by omega
    rcases hcase with e | e | e | e
    · have hv : plainF p.kind = .func (Fn.func 42) #[] #[] := by rw [e]; rfl
      have hkk : pickK p last count often l = 0 := by unfold pickK; rw [if_pos e]
      rw [hkk, hv]
      rw [hv] at hP1
      exact (pick_first _ _).mono (by rintro e w' ⟨rfl, rfl⟩; exact ⟨rfl, grown_same _, hP1⟩)
    · have hv : plainF p.kind = .func (Fn.func 43) #[] #[] := by rw [e]; rfl
      have hkk : pickK p last count often l = l.length - 1 := by unfold pickK; rw [if_neg (by omega), if_pos e]
      rw [hkk, hv]
      rw [hv] at hP1
      exact (pick_last _ _ _ _ (by omega)).mono (by rintro e w' ⟨rfl, rfl⟩; exact ⟨rfl, grown_same _, hP1⟩)
    · have hv : plainF p.kind = roundP := by rw [e]; rfl
      have hkk : pickK p last count often l = rndK last l := by unfold pickK; rw [if_neg (by omega), if_neg (by omega), if_pos e]
      rw [hkk, hv]
      rw [hv] at hP1
      exact (pick_round2 hS1 hg hcl hl1).mono (by rintro e w' ⟨rfl, h⟩; exact ⟨rfl, h, hP1.moves (Moves.of_grown0 h) (by simp)⟩)
    · have hv : plainF p.kind = fairP := by rw [e]; rfl
      have hkk : pickK p last count often l = fairK often l := by unfold pickK; rw [if_neg (by omega), if_neg (by omega), if_neg (by omega), if_pos e]
      rw [hkk, hv]
      rw [hv] at hP1
      exact (pick_fair2 hS1 hg hcl h0 hl1 hlo).mono (by rintro e w' ⟨rfl, h⟩; exact ⟨rfl, h, hP1.moves (Moves.of_grown0 h) (by simp)⟩)
  · refine next_via (q := none) (meth_list _) call_list h1 h2 h3 hS hr hR hc ho (by simp) ?_
    intro w1 g cap hM _ hg hcl hS1
    have hpp : pickP p count l = p := by unfold pickP; rw [if_neg (by omega), if_neg (by omega)]
    have hkk : pickK p last count often l = listK p.row count l := by unfold pickK; rw [if_neg (by omega), if_neg (by omega), if_neg (by omega), if_neg (by omega), if_pos hk]
    rw [hpp, hkk]
    exact (pick_list hS1 (h7.moves hM (by simp)) h5 h0 hl1 hc.1).mono (by rintro e w' ⟨rfl, rfl⟩; exact ⟨rfl, grown_same _, hP0.moves hM (by simp)⟩)
  · refine next_via (q := none) (meth_weights _) call_weights h1 h2 h3 hS hr hR hc ho (by simp) ?_
    intro w1 g cap hM _ hg hcl hS1
    have hpp : pickP p count l = p := by unfold pickP; rw [if_neg (by omega), if_neg (by omega)]
    have hkk : pickK p last count often l = heavyK (wOf p.row) l := by unfold pickK; rw [if_neg (by omega), if_neg (by omega), if_neg (by omega), if_neg (by omega), if_neg (by omega), if_pos hk]
    rw [hpp, hkk]
    exact (pick_weights _ (h7.moves hM (by simp)) hg hcl h0 hl1 hlo).mono (by rintro e w' ⟨rfl, h⟩; exact ⟨rfl, h, hP0.moves (hM.trans (Moves.of_grown0 h)) (by simp)⟩)
  · refine next_via (q := some b) (meth_lot _) call_lot h1 h2 h3 hS hr hR hc ho (by rintro b' ⟨⟩; exact ⟨h5, h6, h7⟩) ?_
    intro w1 g cap hM _ hg hcl hS1
    have hpp : pickP p count l = { p with c := nxS p.c } := by unfold pickP; rw [if_pos hk]
    have hkk : pickK p last count often l = belowK p.c l.length := by unfold pickK; rw [if_neg (by omega), if_neg (by omega), if_neg (by omega), if_neg (by omega), if_neg (by omega), if_neg (by omega), if_pos hk]
    rw [hpp, hkk]
    have hc1 := (hM.cell h8 (by simp) 0).trans h9
    have hz1 : ∀ j, w1.frozen? ⟨b, j, none⟩ = false := fun j => (hM.frozen h8 (by simp) j).trans (h10 j)
    refine (pick_lot p.c b _ _ _ _ hc1 (hz1 0) (by omega)).mono ?_
    rintro e w' ⟨rfl, rfl⟩
    exact ⟨rfl, (Moves.set (M := [b]) w1 ⟨b, 0, none⟩ _ (by simp)).grown1, .inr (.inr (.inr (.inl ⟨hk, rfl, b, rfl, rfl, h5, h6, h7, by have := hM.2.2.2.1; simp [World.setCell]; omega, set_here _ _ _ _ _ hc1, fun j => by rw [World.frozen?_setCell]; exact hz1 j⟩)))⟩
  · refine next_via (q := some b) (meth_pct _) call_pct h1 h2 h3 hS hr hR hc ho (by rintro b' ⟨⟩; exact ⟨h6, h7, h8⟩) ?_
    intro w1 g cap hM hg0 hg hcl hS1
    have hpp : pickP p count l = pctEnd p count l := by unfold pickP; rw [if_neg (by omega), if_pos hk]
    have hkk : pickK p last count often l = pctK p l := by unfold pickK; rw [if_neg (by omega), if_neg (by omega), if_neg (by omega), if_neg (by omega), if_neg (by omega), if_neg (by omega), if_neg (by omega)]
    rw [hpp, hkk]
    have hPc : PctAt w1 b (.slice Y p.row.length dy) p := ⟨Nat.lt_of_lt_of_le h9 hM.2.2.2.1, (hM.cell h9 (by simp) _).trans h10, (hM.cell h9 (by simp) _).trans h11, fun i hi => (hM.cell h9 (by simp) _).trans (h13 i hi), fun i hi => (hM.cell h9 (by simp) _).trans (h14 i hi), fun j => (hM.frozen h9 (by simp) j).trans (h15 j)⟩
    have hr1 := h12.moves hM (by simp)
    refine (pick_pct hS1 hPc hr1 (by simp) (by omega) (by omega) h4 hg hcl h0 hl1 hlo).mono ?_
    rintro e w' ⟨rfl, hg5, hP5⟩
    obtain ⟨i1, i2, i3, i4, i5, i6⟩ := hP5
    have hrow : (pctEnd p count l).row = p.row ∧ (pctEnd p count l).kind = p.kind := by
      unfold pctEnd
      split <;> exact pctAll_row l p
    refine ⟨rfl, hg5, .inr (.inr (.inr (.inr ⟨by rw [hrow.2]; exact hk, rfl, by rw [hrow.1]; exact h4, b, Y, dy, rfl, rfl, h6, h7, h8, i1, i2, ?_, ?_, i4, i5, i6⟩)))⟩
    · rw [hrow.1]; exact i3
    · rw [hrow.1]; exact hr1.moves (Moves.of_grown (M := [b]) hg5 (by simp)) (by simp)
end Go.Proofs.Ytbgnchddeklmeaa
