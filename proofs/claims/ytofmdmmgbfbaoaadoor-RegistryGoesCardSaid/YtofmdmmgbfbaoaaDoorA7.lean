/- names.parts; slices.Clone at strings. -/
import Derived.Test.YtofmdmmgbfbaoaaDoorA6
namespace Go.Proofs.YtofmdmmgbfbaoaaDoor
open Go.RowKit

/-- The r parts that end ahead of k. -/
def partsGo (fr : List Nat) : Nat → Nat → List Nat
  | 0, _ => []
  | r + 1, k => partsGo fr r (fr.getD (k - 1) 0) ++ [k - 1]
def chainOk (fr : List Nat) : Nat → Nat → Prop
  | 0, _ => True
  | r + 1, k => 1 ≤ k ∧ k - 1 < fr.length ∧ chainOk fr r (fr.getD (k - 1) 0)
theorem partsGo_length (fr : List Nat) (r k : Nat) : (partsGo fr r k).length = r := by
  induction r generalizing k with
  | zero => rfl
  | succ r ih => rw [partsGo, List.length_append, ih]; rfl
theorem set_ahead (r : Nat) (b : Nat) (tail : List Nat) : (List.replicate (r + 1) 0 ++ tail).set r b = List.replicate r 0 ++ (b :: tail) := by
  rw [List.replicate_succ', List.append_assoc, List.set_append_right _ _ (by simp)]
  simp

set_option maxHeartbeats 2000000 in
set_option maxRecDepth 100000 in
theorem parts_c (es : List XOp) (fr : List Nat) (A B : Option Addr) (c d pos m : Nat) (w : World) (hx : OpsAt w A es) (hf : NatsAt w B fr) (hl : es.length ≤ 256) (hfl : fr.length ≤ 256) (hp : pos < es.length) (hm : es[pos].n = (m : Int)) (hm2 : m ≤ 256) (hch : chainOk fr m pos) (hfb : ∀ x ∈ fr, x ≤ 256) :
    Calls Tryd.prog 68 #[.slice A es.length c, .slice B fr.length d, .int .i64 pos] w fun e w' => ∃ v, e = .returned v ∧ w'.ownsRow w.heap.size 3 1 v m (ints (partsGo fr m pos)) ∧ Below w.heap.size w w' := by
  have hmk : ∀ W : World, (Instr.makeSlice 96 (.int .i64 (m : Int)) (.int .i64 (m : Int))).run Tryd.prog W = .ok (.slice (some ⟨W.heap.size, 0, none⟩) m m) (W.alloc (.cells (madeCells #[.int .i64 0] m) 3)) :=
    fun W => run_make_row' 96 3 (.int .i64 0) 8 Tryd.underlying96 info_int rfl .i64 .i64 m (by omega) (by omega) W
  rcases hx with rfl | ⟨b, off, rfl, hb, hc⟩
  · simp at hp
  obtain ⟨h0, h1, h2, h3⟩ := hc pos hp
  rw [hm] at h1
  have HM := Lib.hid hm
  clear hm hc h0 h2 h3
  have HC := Lib.hid hch
  clear hch
  have hbs : b < w.heap.size := hb
  go_enter Tryd.func68, Tryd.ntmps68
  go_wp2
  go_loopw [8, 9] (fun vk vi wr => ∃ (r k : Nat) (tail : List Nat), r ≤ m ∧ vi = .int .i64 ((r : Int) - 1) ∧ vk = .int .i64 k ∧ Hid (chainOk fr r k) ∧ Hid (partsGo fr r k ++ tail = partsGo fr m pos) ∧ tail.length = m - r ∧ k ≤ 256 ∧
      wr.ownsRow w.heap.size 3 1 (.slice (some ⟨w.heap.size, 0, none⟩) m m) m (ints (List.replicate r 0 ++ tail)) ∧ Below w.heap.size w wr) (fun _ vi _ => (intOf vi + 1).toNat)
  case atStart =>
    refine ⟨m, pos, [], Nat.le_refl _, rfl, rfl, HC.out, by simp [Hid], by simp, by omega, ?_, (Below.refl _ _).alloc (Nat.le_refl _) _⟩
    have := own_made_ints w w.heap.size 3 m (Nat.le_refl _) (by omega)
    simpa using this
  case round =>
    obtain ⟨r, k, tail, hr, rfl, rfl, hch, hpt, htl, hk, hown, hbel⟩ := hrel
    rcases r with _ | r
    · have hd0 : decide ((0 : Int) ≤ ((0 : Nat) : Int) - 1) = false := by simp
      have hd1 : ¬ (0 : Int) ≤ ((0 : Nat) : Int) - 1 := by omega
      go_wp2
      go_ret
      refine ⟨_, rfl, ?_, hbel⟩
      have h2 := hpt.out
      rw [partsGo] at h2
      rw [← h2]
      simpa using hown
    · have hcast : ((r + 1 : Nat) : Int) - 1 = (r : Int) := by omega
      obtain ⟨hk1, hk2, hch2⟩ := hch.out
      have HC2 := Lib.hid hch2
      clear hch2
      rcases hf with rfl | ⟨b', off', rfl, hb', hc'⟩
      · simp at hk2
      have hcf := (hbel.cell (p := ⟨b', off' + (k - 1), none⟩) hb').trans (hc' (k - 1) hk2)
      have hkk : (k : Int) - 1 = ((k - 1 : Nat) : Int) := by omega
      obtain ⟨v0, hck⟩ := own_cell_any hown r (by omega)
      have hfz := hown.frozenAt r
      have hne : b' ≠ w.heap.size := by omega
      clear hc'
      have hfk := hfb fr[k - 1] (List.getElem_mem hk2)
      go_wp2
      go_roundw
      case rel =>
        go_light
        refine ⟨r, fr[k - 1], (k - 1) :: tail, by omega, rfl, rfl, ?_, ?_, by rw [List.length_cons]; omega, hfk, ?_, hbel.setCell (p := ⟨w.heap.size, r, none⟩) (Nat.le_refl _) _⟩
        · have := HC2.out
          rw [List.getD_eq_getElem?_getD, List.getElem?_eq_getElem hk2] at this
          exact this
        · have h2 := hpt.out
          rw [partsGo, List.getD_eq_getElem?_getD, List.getElem?_eq_getElem hk2, List.append_assoc] at h2
          exact h2
        · have h2 := (hown.stored r (.int .i64 ((k - 1 : Nat) : Int))).1
          rw [ints_set, set_ahead] at h2
          exact h2
      case measure => simp [intOf]
/-- slices.Clone at strings. -/
theorem strs_reads {w : World} {A : Option Addr} {xs : List ByteArray} (h : StrsAt w A xs) : Reads w w.heap.size 1 A xs.length (xs.map Value.string) := by
  refine ⟨by simp, fun hn => ?_⟩
  rcases h with rfl | ⟨b, off, rfl, hb, hc⟩
  · simp at hn
  · refine ⟨_, rfl, hb, fun j u hu => ?_⟩
    rw [List.getElem?_map] at hu
    rcases Nat.lt_or_ge j xs.length with hj | hj
    · rw [List.getElem?_eq_getElem hj] at hu
      simp at hu
      rw [add_any, ← hu]
      exact hc j hj
    · rw [List.getElem?_eq_none hj] at hu
      simp at hu
theorem strs_one (xs : List ByteArray) : ∀ u ∈ xs.map Value.string, u.oneCell' = true := by
  intro u hu
  rw [List.mem_map] at hu
  obtain ⟨s, _, rfl⟩ := hu
  rfl
theorem clone_strs (xs : List ByteArray) (A : Option Addr) (c : Nat) (w : World) (hx : StrsAt w A xs) (hl : xs.length * 16 ≤ 140737488355328) :
    Calls Tryd.prog 69 #[.slice A xs.length c] w fun e w' => ∃ v, e = .returned v ∧ w'.ownsRow w.heap.size 9 1 v xs.length (xs.map Value.string) ∧ Below w.heap.size w w' := by
  obtain ⟨i0, hi0, hz0, hz1, hz2⟩ := info_parts info_str
  have hr := strs_reads hx
  have h1 := strs_one xs
  rcases A with _ | ad
  · have hxs : xs = [] := by
      rcases hx with h | ⟨b, off, h, _⟩
      · exact h
      · cases h
    subst hxs
    have hq := fun W : World => Lib.run_eql_slice_nil (P := Tryd.prog) W 38 9 none 0 c 0 0 Tryd.underlying38
    go_enter Tryd.func69, Tryd.ntmps69
    go_wp2
    go_ret
    exact ⟨_, rfl, World.ownsRow_nil _ _ _ _, Below.refl _ _⟩
  · have hq := fun W : World => Lib.run_eql_slice_nil (P := Tryd.prog) W 38 9 (some ad) xs.length c 0 0 Tryd.underlying38
    go_enter Tryd.func69, Tryd.ntmps69
    go_wp2_with (at_builtin; refine wpList_append_any _ (by rfl) _ _ _ (by rfl) w.heap.size 9 i0 _ 1 16 Tryd.underlying38 hi0 hz0 hz1 hz2 rfl (by omega) (.slice (some ⟨w.heap.size, 0, none⟩) 0 0) 0 [] (by rfl) (World.ownsRow_made w #[] 0 (Nat.le_refl _) (by simp [maxLen]) (by simp)) w.heap.size (some ad) xs.length c _ (by rfl) (hr.alloc (Nat.le_refl _) _) h1 (by simp only [maxLen]; omega) (by omega) (by simp) ?_; intro v1 w1 hown1 hg1 hat1)
    go_ret
    refine ⟨v1, rfl, by simpa using hown1, ((Below.refl _ _).alloc (Nat.le_refl _) _).grown hg1 (by simp) (fun k hk => ?_)⟩
    have : w.heap.size = k := by simpa [Value.ownBlock] using hk
    omega
end Go.Proofs.YtofmdmmgbfbaoaaDoor
