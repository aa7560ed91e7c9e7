/- Rename, the program's and the reference's. -/
import Derived.Test.YtgopflklcfcocaaDoorA23
namespace Go.Proofs.YtgopflklcfcocaaDoor
open Go.RowKit

def renOp (f t : ByteArray) (o : XOp) : XOp := if o.kind = 3 ∧ o.text = f then ⟨o.kind, o.n, o.int, t⟩ else o
/-- The first k elements turned, the others not. -/
def mixL (g : XOp → XOp) (es : List XOp) (k : Nat) : List XOp := (es.take k).map g ++ es.drop k
theorem mix_length (g : XOp → XOp) (es : List XOp) (k : Nat) (hk : k ≤ es.length) : (mixL g es k).length = es.length := by
  unfold mixL; rw [List.length_append, List.length_map, List.length_take, List.length_drop]; omega
theorem mix_get (g : XOp → XOp) (es : List XOp) (k : Nat) (hk : k < es.length) : (mixL g es k)[k]? = some es[k] := by
  unfold mixL
  rw [List.getElem?_append_right (by rw [List.length_map, List.length_take]; omega), List.length_map, List.length_take, Nat.min_eq_left (by omega), Nat.sub_self, List.getElem?_drop, Nat.add_zero, List.getElem?_eq_getElem hk]
theorem mix_next (g : XOp → XOp) (es : List XOp) (k : Nat) (hk : k < es.length) : mixL g es (k + 1) = (mixL g es k).set k (g es[k]) := by
  unfold mixL
  have hl : ((es.take k).map g).length = k := by rw [List.length_map, List.length_take]; omega
  rw [List.set_append_right _ _ (by omega), hl, Nat.sub_self, List.drop_eq_getElem_cons hk, List.set_cons_zero, List.take_succ_eq_append_getElem hk, List.map_append, List.append_assoc]
  rfl
theorem mix_same (g : XOp → XOp) (es : List XOp) (k : Nat) (hk : k < es.length) (h : g es[k] = es[k]) : mixL g es (k + 1) = mixL g es k := by
  rw [mix_next g es k hk, h]
  have h2 := mix_get g es k hk
  have hl := mix_length g es k (by omega)
  have h3 : (mixL g es k)[k]'(by omega) = es[k] := by
    rw [List.getElem?_eq_getElem (by omega)] at h2
    exact Option.some.inj h2
  rw [← h3, List.set_getElem_self]
theorem opCells_set (es : List XOp) (k : Nat) (h : k < es.length) (t : ByteArray) : (opCells es).set (k * 4 + 3) (.string t) = opCells (es.set k ⟨es[k].kind, es[k].n, es[k].int, t⟩) := by
  induction es generalizing k with
  | nil => simp at h
  | cons o es ih =>
    have hc : opCells (o :: es) = o.cells ++ opCells es := rfl
    have hl : o.cells.length = 4 := rfl
    rcases k with _ | k
    · rw [hc, List.set_append_left _ _ (by rw [hl]; omega)]
      rfl
    · rw [hc, List.set_append_right _ _ (by rw [hl]; omega), hl, show (k + 1) * 4 + 3 - 4 = k * 4 + 3 by omega, ih k (by simpa using h)]
      rfl
theorem own_op {w : World} {base : Nat} {e : TypeId} {g cap n : Nat} {es : List XOp} (h : w.ownsRow base e 4 (.slice (some ⟨g, 0, none⟩) n cap) n (opCells es)) (k : Nat) (o : XOp) (hk : es[k]? = some o) :
    w.cell? ⟨g, k * 4, none⟩ = some (.int .i64 o.kind) ∧ w.cell? ⟨g, k * 4 + 1, none⟩ = some (.int .i64 o.n) ∧ w.cell? ⟨g, k * 4 + 2, none⟩ = some (.int .i64 o.int) ∧ w.cell? ⟨g, k * 4 + 3, none⟩ = some (.string o.text) := by
  have hlt : k < es.length := by
    rcases Nat.lt_or_ge k es.length with h | h
    · exact h
    · rw [List.getElem?_eq_none h] at hk; cases hk
  have ho : es[k] = o := by rw [List.getElem?_eq_getElem hlt] at hk; exact Option.some.inj hk
  have hc := fun j u hu => h.cells (g := g) rfl j u hu
  simp only [add_zero] at hc
  obtain ⟨h0, h1, h2, h3⟩ := opCells_get es k hlt
  rw [ho] at h0 h1 h2 h3
  exact ⟨hc _ _ h0, hc _ _ h1, hc _ _ h2, hc _ _ h3⟩
/-- Rename's answer. -/
def renAns (es : List XOp) (f t : ByteArray) : Int × List XOp :=
  if checkF es ≠ 0 then (checkF es, []) else if isName f = false ∨ isName t = false then (2, []) else (0, es.map (renOp f t))
def RenPost (es : List XOp) (f t : ByteArray) (w : World) (e : Ending) (w' : World) : Prop := ∃ v, e = .returned (.tuple #[v, .int .i64 (renAns es f t).1]) ∧ w'.ownsRow w.heap.size 45 4 v (renAns es f t).2.length (opCells (renAns es f t).2) ∧ Below w.heap.size w w'
theorem ren_nil {es : List XOp} {f t : ByteArray} {k : Int} {w w' : World} (h : renAns es f t = (k, [])) (hb : Below w.heap.size w w') : RenPost es f t w (.returned (.tuple #[.slice none 0 0, .int .i64 k])) w' := by
  unfold RenPost
  rw [h]
  exact ⟨_, rfl, World.ownsRow_nil _ _ _ _, hb⟩
theorem ren_ok {es : List XOp} {f t : ByteArray} {v : Value} {w w' : World} (h : renAns es f t = (0, es.map (renOp f t))) (ho : w'.ownsRow w.heap.size 45 4 v es.length (opCells (es.map (renOp f t)))) (hb : Below w.heap.size w w') : RenPost es f t w (.returned (.tuple #[v, .int .i64 0])) w' := by
  unfold RenPost
  rw [h]
  exact ⟨v, rfl, by simpa using ho, hb⟩
theorem mix_all (g : XOp → XOp) (es : List XOp) : mixL g es es.length = es.map g := by unfold mixL; simp

set_option maxHeartbeats 4000000 in
set_option maxRecDepth 100000 in
theorem renameR_c (es : List XOp) (f t : ByteArray) (A : Option Addr) (c : Nat) (w : World) (hx : OpsAt w A es) (hl : es.length * 40 ≤ 140737488355328) (ht : ∀ o ∈ es, o.text.size ≤ 140737488355328) (hf : f.size ≤ 140737488355328) (htt : t.size ≤ 140737488355328) :
    Calls Tryd.prog 23 #[.slice A es.length c, .string f, .string t] w (RenPost es f t w) := by
  by_cases h0 : checkF es = 0
  · have hb0 : (checkF es != 0) = false := by simpa using h0
    obtain ⟨hlen, fr, b, hbg⟩ := check_zero h0
    obtain ⟨_, _, hpos, _⟩ := begins_good hbg
    clear hbg
    by_cases hnf : isName f = true
    · by_cases hnt : isName t = true
      · have hp : renAns es f t = (0, es.map (renOp f t)) := by unfold renAns; rw [if_neg (by simpa using h0), if_neg (by simp [hnf, hnt])]
        have HP := Lib.hid hp
        have HNF := Lib.hid hnf
        have HNT := Lib.hid hnt
        clear hp h0 hnf hnt
        rcases hx with hx0 | ⟨b0, off0, rfl, hx1⟩
        · rw [hx0] at hpos; simp at hpos
        have hx : OpsAt w (some ⟨b0, off0, none⟩) es := .inr ⟨b0, off0, rfl, hx1⟩
        clear hx1
        go_enter Tryd.func23, Tryd.ntmps23
        go_wp2_with (first | (go_at_call 14; refine (checkR_c es _ c _ hx hl ht).mono ?_; rintro e w1 ⟨rfl, hb1⟩) | (go_at_call_of 56 (Value.string f); refine (name_c f _ hf).mono ?_; rw [HNF.out]; rintro e w2 ⟨rfl, hb2⟩) | (go_at_call_of 56 (Value.string t); refine (name_c t _ htt).mono ?_; rw [HNT.out]; rintro e w3 ⟨rfl, hb3⟩) | (go_at_call 11; refine (copyExpr_c es _ c _ (((hx.below hb1).below hb2).below hb3) hl).mono ?_; rintro e w4 ⟨v, rfl, hown, hb4⟩; obtain ⟨g, cap, rfl, hg0, _⟩ := hown.form hpos))
        have hbw1 := hb1
        have hbw2 := hbw1.trans (hb2.mono hbw1.size)
        have hbw3 := hbw2.trans (hb3.mono hbw2.size)
        have own4 := hown.mono hbw3.size
        have hbw4 := hbw3.trans (hb4.mono hbw3.size)
        clear hown hb1 hb4
        go_loopw [10] (fun i wr => ∃ k : Nat, k ≤ es.length ∧ i = .int .i64 k ∧ wr.ownsRow w.heap.size 45 4 (.slice (some ⟨g, 0, none⟩) es.length cap) es.length (opCells (mixL (renOp f t) es k)) ∧ Below w.heap.size w wr) (fun i _ => es.length - (intOf i).toNat)
        case atStart => exact ⟨0, by omega, rfl, by simpa [mixL] using own4, hbw4⟩
        case round =>
          obtain ⟨k, hk, rfl, hown, hbel⟩ := hrel
          by_cases hlt : k < es.length
          · obtain ⟨c0, _, _, c3⟩ := own_op hown k es[k] (mix_get _ es k hlt)
            have hi0 : (0 : Int) ≤ (k : Int) := Int.natCast_nonneg _
            have hi1 : (k : Int) < (es.length : Int) := by omega
            have hgb := (own_blk hown).1
            by_cases h3 : es[k].kind = 3
            · have d3 : (es[k].kind == 3) = true := by simpa using h3
              by_cases hte : es[k].text = f
              · have dt : (es[k].text.toList == f.toList) = true := by rw [bytes_beq]; simpa using hte
                have hnx : mixL (renOp f t) es (k + 1) = (mixL (renOp f t) es k).set k ⟨es[k].kind, es[k].n, es[k].int, t⟩ := by rw [mix_next _ es k hlt]; unfold renOp; rw [if_pos ⟨h3, hte⟩]
                have HNX := Lib.hid hnx
                have hfz := hown.frozenAt (k * 4 + 3)
                clear hnx h3 hte
                go_wp2
                go_roundw
                case rel =>
                  go_light
                  refine ⟨k + 1, by omega, by go_num, ?_, hbel.setCell (p := ⟨g, k * 4 + 3, none⟩) hgb _⟩
                  have h5 := (hown.stored (k * 4 + 3) (.string t)).1
                  have hml := mix_length (renOp f t) es k hk
                  have hmg : (mixL (renOp f t) es k)[k]'(by omega) = es[k] := by
                    have h2 := mix_get (renOp f t) es k hlt
                    rw [List.getElem?_eq_getElem (by omega)] at h2
                    exact Option.some.inj h2
                  rw [opCells_set _ k (by omega), hmg, ← HNX.out] at h5
                  exact h5
                case measure => simp [intOf]; omega
              · have dt : (es[k].text.toList == f.toList) = false := by rw [bytes_beq]; simpa using hte
                have hnx := mix_same (renOp f t) es k hlt (by unfold renOp; rw [if_neg (fun h => hte h.2)])
                have HNX := Lib.hid hnx
                clear hnx h3 hte
                go_wp2
                go_roundw
                case rel => exact ⟨k + 1, by omega, by go_num, by rw [HNX.out]; exact hown, hbel⟩
                case measure => simp [intOf]; omega
            · have d3 : (es[k].kind == 3) = false := by simpa using h3
              have hnx := mix_same (renOp f t) es k hlt (by unfold renOp; rw [if_neg (fun h => h3 h.1)])
              have HNX := Lib.hid hnx
              clear hnx h3
              go_wp2
              go_roundw
              case rel => exact ⟨k + 1, by omega, by go_num, by rw [HNX.out]; exact hown, hbel⟩
              case measure => simp [intOf]; omega
          · have hke : k = es.length := by omega
            have HK := Lib.hid hke
            clear hke
            go_wp2
            go_ret2
            refine ren_ok HP.out ?_ hbel
            rw [HK.out, mix_all] at hown
            exact hown
      · have hnt' : isName t = false := by simpa using hnt
        have hp : renAns es f t = (2, []) := by unfold renAns; rw [if_neg (by simpa using h0), if_pos (.inr hnt')]
        have HP := Lib.hid hp
        have HNF := Lib.hid hnf
        have HNT := Lib.hid hnt'
        clear hp h0 hnf hnt hnt'
        go_enter Tryd.func23, Tryd.ntmps23
        go_wp2_with (first | (go_at_call 14; refine (checkR_c es _ c _ hx hl ht).mono ?_; rintro e w1 ⟨rfl, hb1⟩) | (go_at_call_of 56 (Value.string f); refine (name_c f _ hf).mono ?_; rw [HNF.out]; rintro e w2 ⟨rfl, hb2⟩) | (go_at_call_of 56 (Value.string t); refine (name_c t _ htt).mono ?_; rw [HNT.out]; rintro e w3 ⟨rfl, hb3⟩))
        have hbw1 := hb1
        have hbw2 := hbw1.trans (hb2.mono hbw1.size)
        have hbw3 := hbw2.trans (hb3.mono hbw2.size)
        go_ret2
        exact ren_nil HP.out hbw3
    · have hnf' : isName f = false := by simpa using hnf
      have hp : renAns es f t = (2, []) := by unfold renAns; rw [if_neg (by simpa using h0), if_pos (.inl hnf')]
      have HP := Lib.hid hp
      have HNF := Lib.hid hnf'
      clear hp h0 hnf hnf'
      go_enter Tryd.func23, Tryd.ntmps23
      go_wp2_with (first | (go_at_call 14; refine (checkR_c es _ c _ hx hl ht).mono ?_; rintro e w1 ⟨rfl, hb1⟩) | (go_at_call_of 56 (Value.string f); refine (name_c f _ hf).mono ?_; rw [HNF.out]; rintro e w2 ⟨rfl, hb2⟩))
      have hbw1 := hb1
      have hbw2 := hbw1.trans (hb2.mono hbw1.size)
      go_ret2
      exact ren_nil HP.out hbw2
  · have hb0 : (checkF es != 0) = true := by simpa using h0
    have hp : renAns es f t = (checkF es, []) := by unfold renAns; rw [if_pos h0]
    have HP := Lib.hid hp
    clear hp h0
    go_enter Tryd.func23, Tryd.ntmps23
    go_wp2_with (go_at_call 14; refine (checkR_c es _ c _ hx hl ht).mono ?_; rintro e w1 ⟨rfl, hb1⟩)
    go_ret2
    exact ren_nil HP.out hb1
set_option maxHeartbeats 4000000 in
set_option maxRecDepth 100000 in
theorem renameN_c (es : List XOp) (f t : ByteArray) (A : Option Addr) (c : Nat) (w : World) (hx : OpsAt w A es) (hl : es.length * 40 ≤ 140737488355328) (hkeys : KeysIn w) (ht : ∀ o ∈ es, o.text.size ≤ 140737488355328) (hf : f.size ≤ 140737488355328) (htt : t.size ≤ 140737488355328) :
    Calls Tryd.prog 22 #[.slice A es.length c, .string f, .string t] w (RenPost es f t w) := by
  by_cases h0 : checkF es = 0
  · have hb0 : (checkF es != 0) = false := by simpa using h0
    obtain ⟨hlen, fr, b, hbg⟩ := check_zero h0
    obtain ⟨_, _, hpos, _⟩ := begins_good hbg
    clear hbg
    by_cases hnf : isName f = true
    · by_cases hnt : isName t = true
      · have hp : renAns es f t = (0, es.map (renOp f t)) := by unfold renAns; rw [if_neg (by simpa using h0), if_neg (by simp [hnf, hnt])]
        have HP := Lib.hid hp
        have HNF := Lib.hid hnf
        have HNT := Lib.hid hnt
        clear hp h0 hnf hnt
        rcases hx with hx0 | ⟨b0, off0, rfl, hx1⟩
        · rw [hx0] at hpos; simp at hpos
        have hx : OpsAt w (some ⟨b0, off0, none⟩) es := .inr ⟨b0, off0, rfl, hx1⟩
        clear hx1
        go_enter Tryd.func22, Tryd.ntmps22
        go_wp2_with (first | (go_at_call 13; refine (check_c es _ c _ hx hl hkeys ht).mono ?_; rintro e w1 ⟨rfl, hb1⟩) | (go_at_call_of 54 (Value.string f); refine (isName_c f _ (hkeys.below hb1) hf).mono ?_; rw [HNF.out]; rintro e w' ⟨rfl, rfl⟩) | (go_at_call_of 54 (Value.string t); refine (isName_c t _ (hkeys.below hb1) htt).mono ?_; rw [HNT.out]; rintro e w' ⟨rfl, rfl⟩) | (go_at_call 61; refine (cloneOp_c es ⟨b0, off0, none⟩ c _ (hx.below hb1) hl).mono ?_; rintro e w4 ⟨v, rfl, hown, hb4⟩; obtain ⟨g, cap, rfl, hg0, _⟩ := hown.form hpos))
        have hbw1 := hb1
        have hbw3 := hbw1
        have own4 := hown.mono hbw3.size
        have hbw4 := hbw3.trans (hb4.mono hbw3.size)
        clear hown hb1 hb4
        go_loopw [28] (fun i wr => ∃ k : Nat, k ≤ es.length ∧ i = .int .i64 k ∧ wr.ownsRow w.heap.size 45 4 (.slice (some ⟨g, 0, none⟩) es.length cap) es.length (opCells (mixL (renOp f t) es k)) ∧ Below w.heap.size w wr) (fun i _ => es.length - (intOf i).toNat)
        case atStart => exact ⟨0, by omega, rfl, by simpa [mixL] using own4, hbw4⟩
        case round =>
          obtain ⟨k, hk, rfl, hown, hbel⟩ := hrel
          by_cases hlt : k < es.length
          · obtain ⟨c0, _, _, c3⟩ := own_op hown k es[k] (mix_get _ es k hlt)
            have hi0 : (0 : Int) ≤ (k : Int) := Int.natCast_nonneg _
            have hi1 : (k : Int) < (es.length : Int) := by omega
            have hgb := (own_blk hown).1
            by_cases h3 : es[k].kind = 3
            · have d3 : (es[k].kind == 3) = true := by simpa using h3
              by_cases hte : es[k].text = f
              · have dt : (es[k].text.toList == f.toList) = true := by rw [bytes_beq]; simpa using hte
                have hnx : mixL (renOp f t) es (k + 1) = (mixL (renOp f t) es k).set k ⟨es[k].kind, es[k].n, es[k].int, t⟩ := by rw [mix_next _ es k hlt]; unfold renOp; rw [if_pos ⟨h3, hte⟩]
                have HNX := Lib.hid hnx
                have hfz := hown.frozenAt (k * 4 + 3)
                clear hnx h3 hte
                go_wp2
                go_roundw
                case rel =>
                  go_light
                  refine ⟨k + 1, by omega, by go_num, ?_, hbel.setCell (p := ⟨g, k * 4 + 3, none⟩) hgb _⟩
                  have h5 := (hown.stored (k * 4 + 3) (.string t)).1
                  have hml := mix_length (renOp f t) es k hk
                  have hmg : (mixL (renOp f t) es k)[k]'(by omega) = es[k] := by
                    have h2 := mix_get (renOp f t) es k hlt
                    rw [List.getElem?_eq_getElem (by omega)] at h2
                    exact Option.some.inj h2
                  rw [opCells_set _ k (by omega), hmg, ← HNX.out] at h5
                  exact h5
                case measure => simp [intOf]; omega
              · have dt : (es[k].text.toList == f.toList) = false := by rw [bytes_beq]; simpa using hte
                have hnx := mix_same (renOp f t) es k hlt (by unfold renOp; rw [if_neg (fun h => hte h.2)])
                have HNX := Lib.hid hnx
                clear hnx h3 hte
                go_wp2
                go_roundw
                case rel => exact ⟨k + 1, by omega, by go_num, by rw [HNX.out]; exact hown, hbel⟩
                case measure => simp [intOf]; omega
            · have d3 : (es[k].kind == 3) = false := by simpa using h3
              have hnx := mix_same (renOp f t) es k hlt (by unfold renOp; rw [if_neg (fun h => h3 h.1)])
              have HNX := Lib.hid hnx
              clear hnx h3
              go_wp2
              go_roundw
              case rel => exact ⟨k + 1, by omega, by go_num, by rw [HNX.out]; exact hown, hbel⟩
              case measure => simp [intOf]; omega
          · have hke : k = es.length := by omega
            have HK := Lib.hid hke
            clear hke
            go_wp2
            go_ret2
            refine ren_ok HP.out ?_ hbel
            rw [HK.out, mix_all] at hown
            exact hown
      · have hnt' : isName t = false := by simpa using hnt
        have hp : renAns es f t = (2, []) := by unfold renAns; rw [if_neg (by simpa using h0), if_pos (.inr hnt')]
        have HP := Lib.hid hp
        have HNF := Lib.hid hnf
        have HNT := Lib.hid hnt'
        clear hp h0 hnf hnt hnt'
        go_enter Tryd.func22, Tryd.ntmps22
        go_wp2_with (first | (go_at_call 13; refine (check_c es _ c _ hx hl hkeys ht).mono ?_; rintro e w1 ⟨rfl, hb1⟩) | (go_at_call_of 54 (Value.string f); refine (isName_c f _ (hkeys.below hb1) hf).mono ?_; rw [HNF.out]; rintro e w' ⟨rfl, rfl⟩) | (go_at_call_of 54 (Value.string t); refine (isName_c t _ (hkeys.below hb1) htt).mono ?_; rw [HNT.out]; rintro e w' ⟨rfl, rfl⟩))
        have hbw1 := hb1
        have hbw3 := hbw1
        go_ret2
        exact ren_nil HP.out hbw3
    · have hnf' : isName f = false := by simpa using hnf
      have hp : renAns es f t = (2, []) := by unfold renAns; rw [if_neg (by simpa using h0), if_pos (.inl hnf')]
      have HP := Lib.hid hp
      have HNF := Lib.hid hnf'
      clear hp h0 hnf hnf'
      go_enter Tryd.func22, Tryd.ntmps22
      go_wp2_with (first | (go_at_call 13; refine (check_c es _ c _ hx hl hkeys ht).mono ?_; rintro e w1 ⟨rfl, hb1⟩) | (go_at_call_of 54 (Value.string f); refine (isName_c f _ (hkeys.below hb1) hf).mono ?_; rw [HNF.out]; rintro e w' ⟨rfl, rfl⟩))
      have hbw1 := hb1
      have hbw2 := hbw1
      go_ret2
      exact ren_nil HP.out hbw2
  · have hb0 : (checkF es != 0) = true := by simpa using h0
    have hp : renAns es f t = (checkF es, []) := by unfold renAns; rw [if_pos h0]
    have HP := Lib.hid hp
    clear hp h0
    go_enter Tryd.func22, Tryd.ntmps22
    go_wp2_with (go_at_call 13; refine (check_c es _ c _ hx hl hkeys ht).mono ?_; rintro e w1 ⟨rfl, hb1⟩)
    go_ret2
    exact ren_nil HP.out hb1
end Go.Proofs.YtgopflklcfcocaaDoor
