/- names.places; what names a set lacks: plain. -/
import Derived.Test.YtgopflklcfcocaaDoorA43
namespace Go.Proofs.YtgopflklcfcocaaDoor
open Go.RowKit Go.Maps Go.ChangeMaps Go.WideShapes

/-- What names.places leaves. -/
def PlacesPost (rs : List PRow) (w : World) (e : Ending) (w' : World) : Prop := ∃ (b n : Nat) (F : ByteArray → Option Int), e = .returned (.map (some b)) ∧ TabIs w' b n F ∧ w.heap.size ≤ b ∧ (∀ s, (F s).isSome = memB s (namesL rs)) ∧ (∀ s v, F s = some v → ∃ (k : Nat) (h : k < rs.length), v = (k : Int) ∧ rs[k].p.name = s) ∧ Below w.heap.size w w'
set_option maxHeartbeats 4000000 in
set_option maxRecDepth 100000 in
theorem places_c (rs : List PRow) (V : Option Addr) (c : Nat) (w : World) (hx : ProvsAt w V rs) (hl : rs.length ≤ 256) :
    Calls Tryd.prog 67 #[.slice V rs.length c] w (PlacesPost rs w) := by
  have hmm := @run_makeMap Tryd.prog
  have htab0 : TabIs (w.alloc (.map #[] 0)) w.heap.size 0 (fun _ => none) := TabIs.new w
  have hb0 : Below w.heap.size w (w.alloc (.map #[] 0)) := (Below.refl _ _).alloc (Nat.le_refl _) _
  go_enter Tryd.func67, Tryd.ntmps67
  go_wp2
  try go_frame
  go_loopw [9] (fun i wr => ∃ (k n : Nat) (F : ByteArray → Option Int), k ≤ rs.length ∧ n ≤ k ∧ i = .int .i64 k ∧ TabIs wr w.heap.size n F ∧ Hid (∀ s, (F s).isSome = memB s ((namesL rs).take k)) ∧ Hid (∀ s v, F s = some v → ∃ (k : Nat) (h : k < rs.length), v = (k : Int) ∧ rs[k].p.name = s) ∧ Below w.heap.size w wr) (fun i _ => rs.length - (intOf i).toNat)
  case atStart => exact ⟨0, 0, _, by omega, by omega, rfl, htab0, fun s => rfl, fun s v h => (by cases h), hb0⟩
  case round =>
    obtain ⟨k, n, F, hk, hnk, rfl, htab, hF1, hF2, hbel⟩ := hrel
    by_cases hlt : k < rs.length
    · rcases (hx.below hbel).lies with h | ⟨b, off, rfl, hb, hc⟩
      · rw [h] at hlt; simp at hlt
      obtain ⟨g0, g1, g2, g3, g4, g5, g6, g7, g8⟩ := hc k hlt
      have hns := ((hx.below hbel).each rs[k] (List.getElem_mem hlt)).name
      have hmt := fun x => memB_take x (namesL rs) k (by rw [namesL_length]; exact hlt)
      simp only [namesL_get rs k hlt] at hmt
      have hkl := kl_of rs[k].p.name hns
      have hmlr := htab.lt
      have hbs := hbel.size
      obtain ⟨D, hD, hDs⟩ := htab
      have hD0 := fun o : Obj => hD.alloc o
      have HMT := Lib.hid hmt
      have HKL := Lib.hid hkl
      have HDS := Lib.hid hDs
      have HD0 := Lib.hid hD0
      clear hc hmt hkl hDs hD0
      go_wp2_with (at_mapUpdate; refine wpList_mapUpdate_own _ (by rfl) _ _ _ 84 (by rfl) 9 3 keyed Tryd.underlying84 (plainElem Tryd.prog 3) w.heap.size n D (by rfl) (HD0.out _) (by simp only [maxLen]; omega) (.string rs[k].p.name) (.int .i64 (k : Int)) (kl rs[k].p.name) (by rfl) (by rfl) HKL.out (.lit (.int .i64 (k : Int))) [] (plainElem_int Tryd.underlying3 (int_wf (by omega) (by omega))) ?_; intro w2 hD2 hg2; go_frame)
      go_roundw
      case rel =>
        refine ⟨k + 1, n + 1, _, by omega, by omega, by go_num, TabIs.put hD HDS.out hns hD2, fun x => ?_, fun x v h => ?_, (hbel.alloc hbs _).grown hg2 (by simp; omega) (fun g e => (by cases e; exact Nat.le_refl _))⟩
        · rw [HMT.out, ← hF1.out]
          by_cases hxs : x = rs[k].p.name <;> simp [hxs]
        · split at h
          · next hxs => cases h; exact ⟨k, hlt, rfl, hxs.symm⟩
          · exact hF2.out x v h
      case measure => simp [intOf]; omega
    · have hend : (namesL rs).take k = namesL rs := List.take_of_length_le (by rw [namesL_length]; omega)
      have HEND := Lib.hid hend
      clear hend
      go_wp2
      go_ret
      exact ⟨w.heap.size, n, F, rfl, htab, Nat.le_refl _, fun s => by rw [hF1.out, HEND.out], hF2.out, hbel⟩

/-- The names of one expression that a set lacks, put behind what is there. -/
def missStep (N : List ByteArray) : List ByteArray → List ByteArray → List ByteArray
  | [], out => out
  | s :: l, out => missStep N l (if memB s N = false ∧ memB s out = false then out ++ [s] else out)
def missFrom (N : List ByteArray) : List XProv → List ByteArray → List ByteArray
  | [], out => out
  | p :: ps, out => missFrom N ps (missStep N (textsF p.expr 3) out)
/-- The names that a set lacks. -/
def missL (ps : List XProv) : List ByteArray := missFrom (ps.map XProv.name) ps []
theorem missStep_drop (N l : List ByteArray) (k : Nat) (h : k < l.length) (out : List ByteArray) : missStep N (l.drop k) out = missStep N (l.drop (k + 1)) (if memB l[k] N = false ∧ memB l[k] out = false then out ++ [l[k]] else out) := by
  rw [List.drop_eq_getElem_cons h, missStep]
theorem missFrom_drop (N : List ByteArray) (ps : List XProv) (k : Nat) (h : k < ps.length) (out : List ByteArray) : missFrom N (ps.drop k) out = missFrom N (ps.drop (k + 1)) (missStep N (textsF ps[k].expr 3) out) := by
  rw [List.drop_eq_getElem_cons h, missFrom]
def missAns (ps : List XProv) : List ByteArray × (Int × Int) := if (setF ps).2 ≠ 0 then ([], setF ps) else (missL ps, (0, 0))
/-- What a call that answers with texts and a fault leaves. -/
def TextsFault (a : List ByteArray × (Int × Int)) (w : World) (e : Ending) (w' : World) : Prop := ∃ v, e = .returned (.tuple #[v, .agg #[.int .i64 a.2.1, .int .i64 a.2.2]]) ∧ w'.ownsRow w.heap.size 9 1 v a.1.length (a.1.map Value.string) ∧ Below w.heap.size w w'
theorem bad_none {ps : List XProv} {i : Nat} (h : badAt ps i = none) : ∀ p ∈ ps, provF p = 0 := by
  induction ps generalizing i with
  | nil => simp
  | cons q ps ih =>
    rw [badAt] at h
    split at h
    · cases h
    · next h0 =>
      intro p hp
      rw [List.mem_cons] at hp
      rcases hp with rfl | hp
      · simpa using h0
      · exact ih h p hp
theorem badAt_ne {ps : List XProv} {j i : Nat} {c : Int} (h : badAt ps j = some (i, c)) : c ≠ 0 := by
  induction ps generalizing j with
  | nil => cases h
  | cons q ps ih =>
    rw [badAt] at h
    split at h
    · next h0 => cases h; exact h0
    · exact ih h
theorem set_zero {ps : List XProv} (h : (setF ps).2 = 0) : ps.length ≤ 256 ∧ (∀ p ∈ ps, provF p = 0) ∧ twiceAt (ps.map XProv.name) [] 0 = none := by
  unfold setF at h
  split at h
  · cases h
  · next hl =>
    split at h
    · next i c hb => exact absurd h (badAt_ne hb)
    · next hb =>
      split at h
      · cases h
      · next ht => exact ⟨by omega, bad_none hb, ht⟩
theorem prov_zero {p : XProv} (h : provF p = 0) : checkF p.expr = 0 := by
  unfold provF at h
  split at h
  · cases h
  · split at h
    · exact h
    · next h2 => simpa using h2
theorem prov_len {p : XProv} (h : provF p = 0) : p.expr.length ≤ 256 := (check_zero (prov_zero h)).1
end Go.Proofs.YtgopflklcfcocaaDoor
