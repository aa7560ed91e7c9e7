/- The document's registry: Users. -/
import Derived.Test.YtofmdmmgbfbaoaaDoorP2
namespace Go.Proofs.YtofmdmmgbfbaoaaDoor
open Go.RowKit Go.Maps Go.ChangeMaps Go.WideShapes

theorem texts_kind {kind : Int} : ∀ {es : List XOp} {out : List ByteArray} {x : ByteArray}, x ∈ textsFrom kind es out → x ∈ out ∨ ∃ o ∈ es, o.kind = kind ∧ x = o.text
  | [], out, x, h => .inl h
  | o :: es, out, x, h => by
    rw [textsFrom] at h
    rcases texts_kind h with h | ⟨o', ho', hk, e⟩
    · split at h
      · next hc =>
        rw [List.mem_append, List.mem_singleton] at h
        rcases h with h | h
        · exact .inl h
        · exact .inr ⟨o, by simp, hc.1, h⟩
      · exact .inl h
    · exact .inr ⟨o', by simp [ho'], hk, e⟩
theorem memB_texts (es : List XOp) (s : ByteArray) : memB s (textsF es 3) = hasX s es := by
  rw [Bool.eq_iff_iff, memB_iff]
  unfold hasX
  rw [List.any_eq_true]
  constructor
  · intro h
    rcases texts_kind h with h | ⟨o, ho, hk, e⟩
    · simp at h
    · exact ⟨o, ho, by simp [hasOp, hk, e]⟩
  · rintro ⟨o, ho, h⟩
    simp [hasOp] at h
    rw [← h.2]
    exact texts_has es [] o ho h.1
theorem ask_yes {es : List XOp} (h : checkF es = 0) (kind : Int) : askAns es kind = (0, textsF es kind) := by unfold askAns; rw [if_neg (by simpa using h)]
set_option maxHeartbeats 4000000 in
set_option maxRecDepth 100000 in
theorem refUsers_c (ys : List PRow) (V : Option Addr) (c : Nat) (fz : Bool) (s : ByteArray) (w : World) (hx : ProvsAt w V ys) (hl : ys.length ≤ 256) (hok : ∀ y ∈ ys, checkF y.p.expr = 0) :
    Calls Tryd.prog 44 #[.agg #[.slice V ys.length c, .bool fz], .string s] w (RowOnly (usersL s ys) w) := by
  obtain ⟨w0, hw0⟩ : ∃ w0 : World, w0 = w.alloc (.cells #[.slice V ys.length c, .bool fz] 48) := ⟨_, rfl⟩
  have hb0 : Below w.heap.size w w0 := by rw [hw0]; exact (Below.refl _ _).alloc (Nat.le_refl _) _
  have hc0 : w0.cell? ⟨w.heap.size, 0, none⟩ = some (.slice V ys.length c) := by rw [hw0]; simp
  have hz0 : w.heap.size < w0.heap.size := by rw [hw0]; simp
  have hx0 := hx.below hb0
  have HW := Lib.hid hw0
  have HOK := Lib.hid hok
  clear hw0 hx hok
  go_enter Tryd.func44, Tryd.ntmps44
  go_wp2
  go_loopw [5, 6] (fun v i wr => ∃ (k : Nat) (out : List ByteArray), k ≤ ys.length ∧ i = .int .i64 k ∧ out.length ≤ k ∧ Hid (out = usersL s (ys.take k)) ∧ wr.ownsRow w0.heap.size 9 1 v (out.map Value.string).length (out.map Value.string) ∧ Below w0.heap.size w0 wr) (fun _ i _ => ys.length - (intOf i).toNat)
  case atStart =>
    refine ⟨0, [], by omega, rfl, by simp, rfl, ?_, ?_⟩
    · have h := World.ownsRow_made (base := w0.heap.size) (e := 9) (size := 1) w0 #[] 0 (Nat.le_refl _) (by simp [maxLen]) (by simp)
      rw [HW.out] at h ⊢
      rw [al_size] at h ⊢
      exact h
    · rw [HW.out]; exact (Below.refl _ _).alloc (Nat.le_refl _) _
  case round =>
    obtain ⟨k, out, hk, rfl, ho, hr, hown, hbel⟩ := hrel
    have hbs := hbel.size
    have hcw := (hbel.cell (p := ⟨w.heap.size, 0, none⟩) hz0).trans hc0
    have hzr : w.heap.size < wr.heap.size := Nat.lt_of_lt_of_le hz0 hbs
    by_cases hlt : k < ys.length
    · rcases (hx0.below hbel).lies with h | ⟨b, off, rfl, hb, hc⟩
      · rw [h] at hlt; simp at hlt
      obtain ⟨g0, g1, g2, g3, g4, g5, g6, g7, g8⟩ := hc k hlt
      have hpk := (hx0.below hbel).each ys[k] (List.getElem_mem hlt)
      obtain ⟨A1, c1, hA1, hs, hl1⟩ := own_strs hown
      subst hA1
      have hnx := users_next s ys k hlt
      have hck := HOK.out ys[k] (List.getElem_mem hlt)
      have hel := (check_zero hck).1
      have htl := texts_length (kind := 3) ys[k].p.expr []
      have has := (askedR_c ys[k].p.expr ys[k].A ys[k].c wr hpk.ops hpk.len hpk.text).mono (fun e w' hp => AskPost.row hp (ask_yes hck 3))
      have hmt := memB_texts ys[k].p.expr s
      have hTl : (textsF ys[k].p.expr 3).length ≤ 256 := by simp at htl; unfold textsF; omega
      have hi0 : (0 : Int) ≤ (k : Int) := Int.natCast_nonneg _
      have hi1 : (k : Int) < (ys.length : Int) := by omega
      generalize textsF ys[k].p.expr 3 = T at *
      have HNX := Lib.hid hnx
      have HAS := Lib.hid has
      have HMT := Lib.hid hmt
      clear hl1 hnx hc has hmt htl hel hck hpk
      cases hh : hasX s ys[k].p.expr
      · have HH := Lib.hid hh
        clear hh
        go_wp2_with (first | (go_at_call 62; refine HAS.out.mono ?_; rintro e w1 ⟨X1, d1, rfl, hs1, hb1⟩) | (go_at_call 63; refine (in_c T s X1 d1 _ hs1 (by omega)).mono ?_; rintro e w' ⟨rfl, rfl⟩; rw [HMT.out, HH.out]))
        go_roundw
        case rel => exact ⟨k + 1, out, by omega, by go_num, by omega, by have := hr.out; show out = _; rw [HNX.out, HH.out, this]; simp, own_below hown hb1, hbel.trans (hb1.mono hbs)⟩
        case measure => simp [intOf]; omega
      · have HH := Lib.hid hh
        clear hh
        go_wp2_with (first | (go_at_call 62; refine HAS.out.mono ?_; rintro e w1 ⟨X1, d1, rfl, hs1, hb1⟩; have q0 := (hb1.cell (p := ⟨b, off + k * 9, none⟩) hb).trans g0; have q1 := (hb1.cell (p := ⟨w.heap.size, 0, none⟩) hzr).trans hcw; have hown1 := own_below hown hb1; have hbel1 := hbel.trans (hb1.mono hbs); have hbs1 := hbel1.size) | (go_at_call 63; refine (in_c T s X1 d1 _ hs1 (by omega)).mono ?_; rintro e w' ⟨rfl, rfl⟩; rw [HMT.out, HH.out]) | (at_builtin; refine app_one (w0 := w0) w0.heap.size (by rfl) _ _ 38 9 (.string ⟨#[]⟩) 16 (by rfl) Tryd.underlying38 info_str rfl (.slice A1 out.length c1) (out.map Value.string) (.string ys[k].p.name) (by rfl) _ (by rfl) rfl rfl hown1 hbel1 hbs1 (by simp; omega) (by simp; omega) ?_; intro v5 w5 hown5 hbel5 _ _))
        go_roundw
        case rel => exact ⟨k + 1, out ++ [ys[k].p.name], by omega, by go_num, by simp; omega, by have := hr.out; show out ++ [_] = _; rw [HNX.out, HH.out, this]; simp, by simpa using hown5, hbel5⟩
        case measure => simp [intOf]; omega
    · have hz : out = usersL s ys := by rw [hr.out, List.take_of_length_le (by omega)]
      have HZ := Lib.hid hz
      obtain ⟨A1, c1, hA1, hs, hl1⟩ := own_strs hown
      subst hA1
      clear hz hl1
      go_wp2
      go_ret
      unfold RowOnly
      rw [← HZ.out]
      exact ⟨A1, c1, rfl, hs, hb0.trans (hbel.mono hb0.size)⟩
end Go.Proofs.YtofmdmmgbfbaoaaDoor
