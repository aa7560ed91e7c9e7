/- Next, by any policy whose pick is known. -/
import Derived.Test.YtbgnchddeklmeaaK3
namespace Go.Proofs.Ytbgnchddeklmeaa
open Go.RowKit
set_option maxHeartbeats 4000000 in
theorem next_c {w : World} {s : Nat} {ty : TypeId} {pv r : Value} {F : FuncId} {last count : Int} {often : Nat → Int} {X : Option Addr} {d : Nat} {xs l : List Int} {k : Nat} {q : Option Nat} {E : World → Prop}
    (hm : ∀ w : World, (method 221 ty pv "onceweb/sched.pick").run Try.prog w = .ok (F, r) w)
    (hF : ∀ x y z (w : World), (callFunc F #[x, y, z]).run Try.prog w = .ok (.enter F #[x, y, z]) w)
    (hS : SchAt w s (.iface ty pv) last count often) (hr : RowAt w X (I xs)) (hl0 : 0 < xs.length) (hl1 : xs.length ≤ 128) (hs : sortI xs = l) (hlo : ∀ x ∈ l, 0 ≤ x ∧ x < 128) (hcp : (Lib.compact l).length = l.length)
    (hk : k < l.length) (hc : 0 ≤ count ∧ count < 4611686018427387904) (ho : ∀ i, 0 ≤ often i ∧ often i < 4611686018427387904)
    (hq : ∀ b, q = some b → b < w.heap.size ∧ b ≠ s)
    (hpick : ∀ w1 v, Moves [] w w1 → w1.ownsRow w.heap.size 3 1 v l.length (I l) → Calls Try.prog F #[r, .pointer (some ⟨s, 0, none⟩), v] w1 fun e w2 => e = .returned (.int .i64 k) ∧ w1.grownBy w2 q ∧ E w2) :
    Calls Try.prog 10 #[.pointer (some ⟨s, 0, none⟩), .slice X xs.length d] w fun e w' => e = .returned (.tuple #[.int .i64 l[k], .int .i64 0]) ∧
      SchAt w' s (.iface ty pv) l[k] (count + 1) (fun i => if (i : Int) = l[k] then often i + 1 else often i) ∧ ∃ w2, E w2 ∧ Moves [s] w2 w' ∧ Moves (q.toList) w w2 := by
  have hll : l.length = xs.length := by rw [← hs, sortI_length]
  have h128 : ¬ (128 : Int) < (xs.length : Int) := by omega
  go_enter Try.func10, Try.ntmps10
  go_wp2_with fail
  go_at_call 24
  refine (clone_c d hr (by omega)).mono ?_
  rintro e w1 ⟨v, rfl, ho1, hB1⟩
  obtain ⟨g, cap, rfl, hg0, hg1⟩ : ∃ g cap, v = .slice (some ⟨g, 0, none⟩) xs.length cap ∧ w.heap.size ≤ g ∧ g < w1.heap.size := by
    rcases own_ints_cases ho1 with ⟨_, h0, _⟩ | ⟨g, cap, cur, rfl, _, hB, hg, _⟩
    · omega
    · exact ⟨g, cap, rfl, hB, hg⟩
  have hM1 : Moves [] w w1 := Moves.of_new _ hB1
  go_wp2_with fail
  go_at_call 25
  refine (sort_c ho1 (by omega)).mono ?_
  rintro e w2 ⟨rfl, ho2, hg2⟩
  rw [hs] at ho2
  have hM2 : Moves [] w w2 := hM1.onto (Moves.of_grown (M := [g]) hg2 (by rintro k ⟨⟩; simp)) (by simp; omega)
  have hcl : ∀ j (h : j < l.length), w2.cell? ⟨g, j, none⟩ = some (.int .i64 l[j]) := fun j h => by
    have h3 := ho2.cells (g := g) rfl j (.int .i64 l[j]) (by simp [h])
    rwa [add_zero] at h3
  obtain ⟨a, rs, hla⟩ : ∃ a rs, l = a :: rs := by cases l with | nil => simp at hll; omega | cons a rs => exact ⟨a, rs, rfl⟩
  have hA0 := hlo a (by rw [hla]; simp)
  have hc0 : w2.cell? ⟨g, 0, none⟩ = some (.int .i64 a) := by have := hcl 0 (by omega); simpa [hla] using this
  obtain ⟨z, hz⟩ : ∃ z, l[xs.length - 1]? = some z := ⟨_, List.getElem?_eq_getElem (by omega)⟩
  have hz2 := hlo z (List.mem_of_getElem? hz)
  have hcz : w2.cell? ⟨g, xs.length - 1, none⟩ = some (.int .i64 z) := by
    obtain ⟨h1, h2⟩ := List.getElem?_eq_some_iff.1 hz
    rw [hcl _ h1, h2]
  have ha1 : ¬ a < 0 := by omega
  have hz3 : ¬ (128 : Int) ≤ z := by omega
  have HCL := Lib.hid hcl
  clear hcl
  go_wp2_with fail
  go_at_call 24
  have hra : RowAt w2 (some ⟨g, 0, none⟩) (I l) := .inr ⟨g, 0, rfl, (ho2.lt g rfl).2, fun j hj => by
    have h3 := HCL.out j (by simpa using hj)
    rw [Nat.zero_add, h3]; simp⟩
  refine (by have := clone_c cap hra (by omega); rwa [hll] at this : Calls Try.prog 24 #[.slice (some ⟨g, 0, none⟩) xs.length cap] w2 fun e w' => ∃ v, e = .returned v ∧ w'.ownsRow w2.heap.size 3 1 v xs.length (I l) ∧ Below w2.heap.size w2 w').mono ?_
  rintro e w3 ⟨v3, rfl, ho3, hB3⟩
  have hM3 : Moves [] w w3 := hM2.onto (Moves.of_new [] hB3) (by simp)
  have ho3' : w3.ownsRow w2.heap.size 3 1 v3 l.length (I l) := by rw [hll]; exact ho3
  go_wp2_with fail
  go_at_call 26
  refine (compact_c ho3' (by omega)).mono ?_
  rintro e w4 ⟨⟨X4, d4, rfl⟩, hg4⟩
  have hM4' : Moves [] w2 w4 := (Moves.of_new (M := []) hB3).onto (Moves.of_grown (M := v3.ownBlock.toList) hg4 (by rintro k h; simp [h])) (by intro k hk; exact .inr (ho3.lt k (by simpa using hk)).1)
  have hM4 : Moves [] w w4 := hM2.onto hM4' (by simp)
  have ho4 : w4.ownsRow w.heap.size 3 1 (.slice (some ⟨g, 0, none⟩) xs.length cap) xs.length (I l) := own_moves ho2 hM4' (by simp)
  have hS4 := hS.moves hM4 (by simp)
  have hp4 := hS4.2.1
  have HM4 := Lib.hid hM4
  have HM4' := Lib.hid hM4'
  have HO4 := Lib.hid ho4
  have HS4 := Lib.hid hS4
  clear hM4 hM4' ho4 hS4 hS hr ho1 ho2 ho3 ho3' hg2 hg4 hB1 hB3 hM1 hM2 hM3 hra hc0 hcz
  rw [hcp]
  have HLL := Lib.hid hll
  have HLO := Lib.hid hlo
  clear hs hla hz hcp hll hA0 hz2 hlo ha1 hz3
  have hlx : ¬ ((l.length : Int) < (xs.length : Int)) := by have := HLL.out; omega
  go_wp2_with fail
  refine Calls.mono (hpick w4 (.slice (some ⟨g, 0, none⟩) xs.length cap) HM4.out (by rw [HLL.out]; exact HO4.out)) ?_
  rintro e w5 ⟨rfl, hg5, hE⟩
  have hM5' : Moves q.toList w4 w5 := Moves.of_grown hg5 (by rintro k rfl; simp)
  have hS5 := HS4.out.moves hM5' (by intro h; exact (hq s (by simpa using h)).2 rfl)
  have hM5 : Moves q.toList w w5 := (HM4.out.mono (by simp)).trans hM5'
  have hck : w5.cell? ⟨g, k, none⟩ = some (.int .i64 l[k]) := by
    rw [hM5'.cell (HO4.out.lt g rfl).2 (by intro h; have := (hq g (by simpa using h)).1; omega), HM4'.out.cell (by have := HCL.out k hk; unfold World.cell? at this; rcases Nat.lt_or_ge g w2.heap.size with c | c; exact c; rw [Array.getElem?_eq_none c] at this; simp at this) (by simp)]
    exact HCL.out k hk
  have hkx : k < xs.length := by have := HLL.out; omega
  have hki : (k : Int) < (xs.length : Int) := by omega
  have hki0 : (0 : Int) ≤ (k : Int) := by omega
  obtain ⟨m, hn⟩ : ∃ m : Nat, (m : Int) = l[k] := ⟨(l[k]).toNat, by have := HLO.out _ (List.getElem_mem hk); omega⟩
  have hm7 : m < 128 := by have := HLO.out _ (List.getElem_mem hk); omega
  have hm8 : (m : Int) < 128 := by omega
  have hm9 : (0 : Int) ≤ (m : Int) := by omega
  obtain ⟨hs5, hp5, hl5, hc5, ho5, hf5⟩ := hS5
  rw [← hn] at hck
  have HS5 := Lib.hid hs5
  have HM5 := Lib.hid hM5
  have HE := Lib.hid hE
  have HN := Lib.hid hn
  have HP5 := Lib.hid hp5
  clear hn hE hM5 hM5' hs5 hp4 hp5 hpick hq hm hlx hF
  have hO5 := Lib.hid ho5
  clear ho5
  go_wp2_with fail
  obtain ⟨W6, hW6⟩ : ∃ W6, W6 = (w5.setCell ⟨s, 1, none⟩ (.int .i64 m)).setCell ⟨s, 2, none⟩ (.int .i64 (count + 1)) := ⟨_, rfl⟩
  rw [← hW6]
  have hco : W6.cell? ⟨s, 3 + m, none⟩ = some (.int .i64 (often m)) := by
    rw [hW6, World.cell?_setCell_other _ _ _ _ (by simp), World.cell?_setCell_other _ _ _ _ (by simp)]
    exact hO5.out m hm7
  have hfo : W6.frozen? ⟨s, 3 + m, none⟩ = false := by rw [hW6, World.frozen?_setCell, World.frozen?_setCell]; exact hf5 _
  have hom := ho m
  have hom2 : often m + 1 < 4611686018427387905 := by omega
  have HW6 := Lib.hid hW6
  have HO := Lib.hid ho
  have HF5 := Lib.hid hf5
  have HL5 := Lib.hid hl5
  have HC5 := Lib.hid hc5
  clear hW6 ho hf5 hl5 hc5 hck hg5
  obtain ⟨hom0, hom1⟩ := hom
  go_region
  all_goals go_wp2
  all_goals go_ret2
  rw [← HN.out]
  have hs5 := HS5.out
  have hd : ∀ a, ((W6.setCell ⟨s, 3 + m, none⟩ (.int .i64 (often m + 1))).drew).cell? a = (W6.setCell ⟨s, 3 + m, none⟩ (.int .i64 (often m + 1))).cell? a := fun _ => rfl
  have hsome : ∀ o v, w5.cell? ⟨s, o, none⟩ = some v → ∀ o', o' ≠ o → ∀ u, (w5.setCell ⟨s, o', none⟩ u).cell? ⟨s, o, none⟩ = some v := fun o v h o' ho' u => by rw [World.cell?_setCell_other _ _ _ _ (by simp)]; exact h
  refine ⟨rfl, ⟨?_, ?_, ?_, ?_, fun i hi => ?_, fun j => ?_⟩, w5, HE.out, ?_, HM5.out⟩
  · show s < (W6.setCell _ _).heap.size
    rw [HW6.out]; simp [World.setCell, hs5]
  · rw [hd, World.cell?_setCell_other _ _ _ _ (by simp), HW6.out, World.cell?_setCell_other _ _ _ _ (by simp)]
    exact hsome 0 _ HP5.out 1 (by omega) _
  · rw [hd, World.cell?_setCell_other _ _ _ _ (by simp), HW6.out, World.cell?_setCell_other _ _ _ _ (by simp)]
    exact World.cell?_setCell_same _ _ _ HL5.out
  · rw [hd, World.cell?_setCell_other _ _ _ _ (by simp), HW6.out]
    exact World.cell?_setCell_same _ _ _ (hsome 2 _ HC5.out 1 (by omega) _)
  · rw [hd]
    by_cases him : i = m
    · subst him
      rw [World.cell?_setCell_same _ _ _ hco]; simp
    · rw [World.cell?_setCell_other _ _ _ _ (by simp), HW6.out, World.cell?_setCell_other _ _ _ _ (by simp)]
      simp only [Int.natCast_inj, if_neg him]
      exact hsome _ _ (hO5.out i hi) 1 (by omega) _
  · show (W6.setCell _ _).frozen? _ = false
    rw [World.frozen?_setCell, HW6.out, World.frozen?_setCell, World.frozen?_setCell]
    exact HF5.out j
  · have h1 := Moves.set (M := [s]) w5 ⟨s, 1, none⟩ (.int .i64 m) (by simp)
    have h2 := Moves.set (M := [s]) (w5.setCell ⟨s, 1, none⟩ (.int .i64 m)) ⟨s, 2, none⟩ (.int .i64 (count + 1)) (by simp)
    rw [← HW6.out] at h2
    exact (h1.trans h2).trans (Moves.set (M := [s]) W6 ⟨s, 3 + m, none⟩ (.int .i64 (often m + 1)) (by simp))
end Go.Proofs.Ytbgnchddeklmeaa
