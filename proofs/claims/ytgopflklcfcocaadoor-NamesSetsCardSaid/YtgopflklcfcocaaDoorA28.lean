/- maps.Copy at sets of texts. -/
import Derived.Test.YtgopflklcfcocaaDoorA27
import Derived.Handy
namespace Go.Proofs.YtgopflklcfcocaaDoor
open Go.RowKit Go.Maps Go.ChangeMaps Go.WideShapes

theorem key_inv {key : Value} {l : Lit} (h : keyOf Tryd.prog 9 key = some l) : ∃ s : ByteArray, key = .string s ∧ l = kl s := by
  cases key <;> simp [keyOf, Tryd.underlying9, mapKey] at h
  exact ⟨_, rfl, by unfold kl; first | exact h.2.symm | exact h.symm⟩
theorem has_put2 (D : DataW Unit) (hD : IsMap D) (s x : ByteArray) (hs : WideAt.IsKeyLit (kl s)) (d : DataW Unit) : Maps.has (D.put (kl s) d) (kl x) = (Maps.has D (kl x) || decide (x = s)) := by
  by_cases h : x = s
  · subst h
    rw [has_put_same hD hs d]
    simp
  · rw [has_put_other (fun e => h (kl_inj e)) d]
    simp [h]
theorem same_iff (s x : ByteArray) (hs : WideAt.IsKeyLit (kl s)) : (kl x).sameKey (kl s) = decide (x = s) := by
  by_cases h : x = s
  · subst h
    rw [WideAt.sameKey_self hs]; simp
  · have : ¬ (kl x).sameKey (kl s) = true := fun e => h (kl_inj ((WideAt.sameKey_iff hs).1 e))
    simp [h]
    simpa using this

theorem World.heap_alloc_lt' (w : World) (o : Obj) {i : Nat} (h : i < w.heap.size) : (w.alloc o).heap[i]? = w.heap[i]? := ((Below.refl w.heap.size w).alloc (Nat.le_refl _) o).block i h
set_option maxHeartbeats 2000000 in
set_option maxRecDepth 100000 in
theorem copySet_c (a b na nb B : Nat) (S T : ByteArray → Bool) (w : World) (hS : SetIs w a na S) (hT : SetIs w b nb T) (hab : a ≠ b) (hn : na + nb ≤ 100000) (hB : B ≤ a) (hBw : B ≤ w.heap.size) :
    Calls Tryd.prog 84 #[.map (some a), .map (some b)] w fun e w' => e = .returned (.tuple #[]) ∧ SetIs w' a (na + nb) (fun x => S x || T x) ∧ Below B w w' ∧ ∀ i, i < w.heap.size → i ≠ a → w'.heap[i]? = w.heap[i]? := by
  have hal := hS.lt
  have hbl := hT.lt
  obtain ⟨Da, hDa, hSa⟩ := hS
  obtain ⟨Db, hDb, hTb⟩ := hT
  have hsz := hDb.size_le
  have HSA := Lib.hid hSa
  have HTB := Lib.hid hTb
  clear hSa hTb
  go_enter Tryd.func84, Tryd.ntmps84
  go_wp2_with (at_range; refine wpList_range_own _ (by rfl) _ 80 (by rfl) 9 82 keyed Tryd.underlying80 unitElem b nb Db (by rfl) hDb ?_; intro w0 hrg0 hg0 hs0)
  go_frame
  have hne : w.heap.size ≠ a := by omega
  go_loopw [] (fun wr => ∃ (left : Lit → Bool) (cnt m : Nat) (D : DataW Unit), wr.ranges Tryd.prog 9 unitElem b w.heap.size nb Db left cnt ∧ wr.ownsMap Tryd.prog 9 unitElem a m D ∧ Hid (∀ s, Maps.has D (kl s) = (S s || (T s && !left (kl s)))) ∧ m + cnt ≤ na + nb ∧ Below B w wr ∧ w.heap.size < wr.heap.size ∧ ∀ i, i < w.heap.size → i ≠ a → wr.heap[i]? = w.heap[i]?) (fun wr => wr.rangeLeft b w.heap.size)
  case atStart =>
    refine ⟨Maps.has Db, Maps.size Db, na, Da, hrg0, hDa.kept hg0 (by simp), fun s => ?_, by omega, (Below.refl _ _).grown hg0 hBw (fun k hk => by cases hk), by omega, fun i hi _ => hg0.block i hi (by simp)⟩
    rw [HSA.out, HTB.out]
    cases T s <;> simp
  case round =>
    obtain ⟨left, cnt, m, D, hrg, hDm, hh, hcnt, hbel, hsz2, hap⟩ := hrel
    have hle := hrg.left_eq
    go_wp2_with (first | (at_next; refine wpList_next_ranges _ (by rfl) _ (by rfl) 9 keyed unitElem Value.string (fun _ : Unit => .agg #[]) (fun key l h => (by obtain ⟨s, h1, _⟩ := key_inv h; exact ⟨s, h1⟩)) (fun v y h => ⟨(), (unitElem_inv h).1⟩) b w.heap.size nb Db left cnt (by rfl) hrg ?_ ?_))
    · intro hc0 hl0
      have hfin : SetIs wr a (na + nb) (fun x => S x || T x) := ⟨D, hDm.mono (by omega), fun s => by rw [hh.out, hl0]; simp⟩
      clear hle
      go_wp2
      go_returns
      exact ⟨rfl, hfin, hbel, hap⟩
    · intro x c l y w1 cnt1 hkx hlx hy hat hrg1 hlt hg1 hs1 hen
      obtain ⟨s', e1, rfl⟩ := key_inv hkx
      cases e1
      have hkey := keyed.key hkx
      have hTx : T x = true := by rw [← HTB.out]; exact has_true_of_atKey hat
      have HK := Lib.hid hkey
      have HT := Lib.hid hTx
      have HKX := Lib.hid hkx
      clear hkey hTx hkx hy hat hle
      have hD1 := (hDm.kept hg1 (fun e => hne (Option.some.inj e).symm)).alloc (.cells #[] 82)
      have hr1 := hrg1.alloc (.cells #[] 82)
      have hb1 := (hbel.grown hg1 (by omega) (fun k hk => by cases hk; exact hBw)).alloc (by omega) (.cells #[] 82)
      have hz1 : (w1.alloc (.cells #[] 82)).heap.size = w1.heap.size + 1 := by simp
      have HZ1 := Lib.hid hz1
      clear hz1
      go_wp2_with (at_mapUpdate; refine wpList_mapUpdate_own _ (by rfl) _ _ _ 80 (by rfl) 9 82 keyed Tryd.underlying80 unitElem a m D (by rfl) hD1 (by simp only [maxLen]; omega) (.string x) (.agg #[]) (kl x) (by rfl) (by rfl) HKX.out (.agg []) [] unitElem_mk ?_; intro w2 hD2 hg2; go_frame)
      have hr2 := hr1.kept hg2 (fun e => hab (Option.some.inj e).symm) (fun e => hne (Option.some.inj e))
      go_roundw
      case rel =>
        refine ⟨_, cnt1, m + 1, _, hr2, hD2, fun s => ?_, by omega, hb1.grown hg2 (by rw [HZ1.out]; omega) (fun k hk => by cases hk; exact hB), ?_, fun i hi hia => ?_⟩
        · rw [has_put2 D hDm.isMap x s HK.out, hh.out, same_iff x s HK.out]
          by_cases hsx : s = x
          · subst hsx
            rw [HT.out]; simp
          · simp [hsx]
        · have := hg2.size
          rw [HZ1.out] at this
          omega
        · rw [hg2.block i (by rw [HZ1.out]; omega) (fun e => hia (Option.some.inj e)), World.heap_alloc_lt' w1 _ (by omega), hg1.block i (by omega) (fun e => by have := Option.some.inj e; omega)]
          exact hap i hi hia
      case measure => rw [hr2.left_eq, hrg.left_eq]; exact hlt
end Go.Proofs.YtgopflklcfcocaaDoor
