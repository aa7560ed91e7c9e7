/- The registry's Users. -/
import Derived.Test.YtofmdmmgbfbaoaaDoorR7
namespace Go.Proofs.YtofmdmmgbfbaoaaDoor
open Go.RowKit Go.Maps Go.ChangeMaps Go.WideShapes

def hasX (s : ByteArray) (es : List XOp) : Bool := es.any (hasOp s)
/-- What IndexFunc leaves. -/
def IdxPost (s : ByteArray) (es : List XOp) (w : World) (e : Ending) (w' : World) : Prop := ∃ i : Int, e = .returned (.int .i64 i) ∧ decide (0 ≤ i) = hasX s es ∧ Below w.heap.size w w'
set_option maxHeartbeats 2000000 in
theorem indexFn_c (es : List XOp) (s : ByteArray) (A : Option Addr) (c cb : Nat) (w : World) (hx : OpsAt w A es) (hl : es.length ≤ 140737488355328) (hcb : cb < w.heap.size) (hc : w.cell? ⟨cb, 0, none⟩ = some (.string s)) :
    Calls Tryd.prog 45 #[.slice A es.length c, .func (.func 33) #[] #[.pointer (some ⟨cb, 0, none⟩)]] w (IdxPost s es w) := by
  go_enter Tryd.func45, Tryd.ntmps45
  go_wp2
  go_loopw [8] (fun i wr => ∃ k : Nat, k ≤ es.length ∧ i = .int .i64 k ∧ Hid (hasX s (es.take k) = false) ∧ Below w.heap.size w wr) (fun i _ => es.length - (intOf i).toNat)
  case atStart => exact ⟨0, by omega, rfl, rfl, Below.refl _ _⟩
  case round =>
    obtain ⟨k, hk, rfl, hr, hbel⟩ := hrel
    by_cases hlt : k < es.length
    · rcases hx.below hbel with h | ⟨b, off, rfl, hb, hcc⟩
      · rw [h] at hlt; simp at hlt
      obtain ⟨g0, g1, g2, g3⟩ := hcc k hlt
      have hcr := (hbel.cell (p := ⟨cb, 0, none⟩) hcb).trans hc
      have hcbr : cb < wr.heap.size := Nat.lt_of_lt_of_le hcb hbel.size
      have hnx : hasX s (es.take (k + 1)) = (hasX s (es.take k) || hasOp s es[k]) := by unfold hasX; rw [List.take_succ_eq_append_getElem hlt, List.any_append]; simp
      have hus := users1_c es[k] s cb wr hcbr hcr
      have HNX := Lib.hid hnx
      have HUS := Lib.hid hus
      clear hcc hnx hus
      cases hh : hasOp s es[k]
      · have HH := Lib.hid hh
        clear hh
        go_wp2_with (go_at_call 33; refine HUS.out.mono ?_; rw [HH.out]; rintro e w1 ⟨rfl, hb1⟩)
        go_roundw
        case rel => exact ⟨k + 1, by omega, by go_num, by show hasX s _ = false; rw [HNX.out, hr.out, HH.out]; rfl, hbel.trans (hb1.mono hbel.size)⟩
        case measure => simp [intOf]; omega
      · have HH := Lib.hid hh
        have hall : hasX s es = true := by
          have h1 : es = es.take (k + 1) ++ es.drop (k + 1) := (List.take_append_drop _ _).symm
          have h2 : hasX s (es.take (k + 1)) = true := by rw [HNX.out, hh]; simp
          rw [h1]
          unfold hasX at h2 ⊢
          rw [List.any_append, h2]
          rfl
        have HA := Lib.hid hall
        clear hh hall
        go_wp2_with (go_at_call 33; refine HUS.out.mono ?_; rw [HH.out]; rintro e w1 ⟨rfl, hb1⟩)
        go_ret
        exact ⟨k, rfl, by rw [HA.out]; simp, hbel.trans (hb1.mono hbel.size)⟩
    · have hend : hasX s es = false := by rw [← hr.out, List.take_of_length_le (by omega)]
      have HE := Lib.hid hend
      clear hend
      go_wp2
      go_ret
      exact ⟨-1, rfl, by rw [HE.out]; rfl, hbel⟩
theorem containsFn_c (es : List XOp) (s : ByteArray) (A : Option Addr) (c cb : Nat) (w : World) (hx : OpsAt w A es) (hl : es.length ≤ 140737488355328) (hcb : cb < w.heap.size) (hc : w.cell? ⟨cb, 0, none⟩ = some (.string s)) :
    Calls Tryd.prog 32 #[.slice A es.length c, .func (.func 33) #[] #[.pointer (some ⟨cb, 0, none⟩)]] w fun e w' => e = .returned (.bool (hasX s es)) ∧ Below w.heap.size w w' := by
  have hi := indexFn_c es s A c cb w hx hl hcb hc
  have HI := Lib.hid hi
  clear hi
  go_enter Tryd.func32, Tryd.ntmps32
  go_wp2_with (go_at_call 45; refine HI.out.mono ?_; rintro e w1 ⟨i, rfl, hdi, hb1⟩; have HD := Lib.hid hdi; clear hdi)
  go_ret
  exact ⟨ret_bool HD.out, hb1⟩
def usersL (s : ByteArray) (rs : List PRow) : List ByteArray := namesL (rs.filter fun r => hasX s r.p.expr)
theorem users_next (s : ByteArray) (rs : List PRow) (k : Nat) (h : k < rs.length) : usersL s (rs.take (k + 1)) = usersL s (rs.take k) ++ (if hasX s rs[k].p.expr = true then [rs[k].p.name] else []) := by
  unfold usersL
  rw [List.take_succ_eq_append_getElem h, List.filter_append, namesL_app]
  congr 1
  by_cases hh : hasX s rs[k].p.expr = true <;> simp [hh, namesL]
set_option maxHeartbeats 4000000 in
set_option maxRecDepth 100000 in
theorem users_c (w : World) (base rb mb : Nat) (v : Value) (rs : List PRow) (s : ByteArray) {fz : Bool} (h : RegF w base rb mb v rs fz) :
    Calls Tryd.prog 19 #[.pointer (some ⟨rb, 0, none⟩), .string s] w (RowOnly (usersL s rs) w) := by
  obtain ⟨V, c, hv, hps⟩ := h.row
  subst hv
  have hlen := h.len
  obtain ⟨w0, hw0⟩ : ∃ w0 : World, w0 = w.alloc (.cells #[.string s] 9) := ⟨_, rfl⟩
  have hb0 : Below w.heap.size w w0 := by rw [hw0]; exact (Below.refl _ _).alloc (Nat.le_refl _) _
  have hc0 : w0.cell? ⟨w.heap.size, 0, none⟩ = some (.string s) := by rw [hw0]; simp
  have hz0 : w.heap.size < w0.heap.size := by rw [hw0]; simp
  have q0 := fun o => (h.below ((Below.refl w.heap.size w).alloc (Nat.le_refl _) o)).c0
  have hps0 := hps.below hb0
  clear h hps
  have HW := Lib.hid hw0
  clear hw0
  go_enter Tryd.func19, Tryd.ntmps19
  go_wp2
  go_loopw [5, 13] (fun v i wr => ∃ (k : Nat) (out : List ByteArray), k ≤ rs.length ∧ i = .int .i64 k ∧ out.length ≤ k ∧ Hid (out = usersL s (rs.take k)) ∧ wr.ownsRow w0.heap.size 9 1 v (out.map Value.string).length (out.map Value.string) ∧ Below w0.heap.size w0 wr) (fun _ i _ => rs.length - (intOf i).toNat)
  case atStart => exact ⟨0, [], by omega, rfl, by simp, rfl, World.ownsRow_nil _ _ _ _, by rw [HW.out]; exact Below.refl _ _⟩
  case round =>
    obtain ⟨k, out, hk, rfl, ho, hr, hown, hbel⟩ := hrel
    have hbs := hbel.size
    by_cases hlt : k < rs.length
    · rcases (hps0.below hbel).lies with h | ⟨b, off, rfl, hb, hc⟩
      · rw [h] at hlt; simp at hlt
      obtain ⟨g0, g1, g2, g3, g4, g5, g6, g7, g8⟩ := hc k hlt
      have hpk := (hps0.below hbel).each rs[k] (List.getElem_mem hlt)
      have hops := hpk.ops
      have hpl := hpk.len
      obtain ⟨A1, c1, hA1, hs, hl1⟩ := own_strs hown
      subst hA1
      have hnx := users_next s rs k hlt
      have hcw := (hbel.cell (p := ⟨w.heap.size, 0, none⟩) hz0).trans hc0
      have hzr : w.heap.size < wr.heap.size := Nat.lt_of_lt_of_le hz0 hbs
      have hal : ∀ o, Below wr.heap.size wr (wr.alloc o) := fun o => (Below.refl _ _).alloc (Nat.le_refl _) o
      have hct := fun o => containsFn_c rs[k].p.expr s rs[k].A rs[k].c w.heap.size (wr.alloc o) (hops.below (hal o)) (by omega) (by rw [al_size]; omega) (((hal o).cell (p := ⟨w.heap.size, 0, none⟩) hzr).trans hcw)
      have HNX := Lib.hid hnx
      have HCT := Lib.hid hct
      have HAL := Lib.hid hal
      clear hl1 hnx hc hct hpk hal
      cases hh : hasX s rs[k].p.expr
      · have HH := Lib.hid hh
        clear hh
        go_wp2_with (go_at_call 32; refine (HCT.out _).mono ?_; rw [HH.out]; rintro e w1 ⟨rfl, hb1'⟩; have hb1 : Below wr.heap.size wr w1 := (HAL.out _).trans (hb1'.mono (HAL.out _).size); clear hb1')
        go_roundw
        case rel => exact ⟨k + 1, out, by omega, by go_num, by omega, by have := hr.out; show out = _; rw [HNX.out, HH.out, this]; simp, own_below hown hb1, hbel.trans (hb1.mono hbs)⟩
        case measure => simp [intOf]; omega
      · have HH := Lib.hid hh
        clear hh
        go_wp2_with (first | (go_at_call 32; refine (HCT.out _).mono ?_; rw [HH.out]; rintro e w1 ⟨rfl, hb1'⟩; have hb1 : Below wr.heap.size wr w1 := (HAL.out _).trans (hb1'.mono (HAL.out _).size); have q9 : w1.cell? ⟨wr.heap.size, 0, none⟩ = some (.string rs[k].p.name) := (hb1'.cell (p := ⟨wr.heap.size, 0, none⟩) (by simp)).trans (by simp); clear hb1'; have hown1 := own_below hown hb1; have hbel1 := hbel.trans (hb1.mono hbs); have hbs1 := hbel1.size) | (at_builtin; refine app_one (w0 := w0) w0.heap.size (by rfl) _ _ 38 9 (.string ⟨#[]⟩) 16 (by rfl) Tryd.underlying38 info_str rfl (.slice A1 out.length c1) (out.map Value.string) (.string rs[k].p.name) (by rfl) _ (by rfl) rfl rfl hown1 hbel1 hbs1 (by simp; omega) (by simp; omega) ?_; intro v5 w5 hown5 hbel5 _ _))
        go_roundw
        case rel => exact ⟨k + 1, out ++ [rs[k].p.name], by omega, by go_num, by simp; omega, by have := hr.out; show out ++ [_] = _; rw [HNX.out, HH.out, this]; simp, by simpa using hown5, hbel5⟩
        case measure => simp [intOf]; omega
    · have hz : out = usersL s rs := by rw [hr.out, List.take_of_length_le (by omega)]
      have HZ := Lib.hid hz
      obtain ⟨A1, c1, hA1, hs, hl1⟩ := own_strs hown
      subst hA1
      clear hz hl1
      go_wp2
      go_ret
      unfold RowOnly
      rw [← HZ.out]
      exact ⟨A1, c1, rfl, hs, hb0.trans (hbel.mono hb0.size)⟩
end Go.Proofs.YtofmdmmgbfbaoaaDoor
