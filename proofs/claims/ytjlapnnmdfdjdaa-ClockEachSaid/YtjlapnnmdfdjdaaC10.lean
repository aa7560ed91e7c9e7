/- A clock in memory: At, After, Every. -/
import Derived.Test.YtjlapnnmdfdjdaaC9
namespace Go.Proofs.Ytjlapnnmdfdjdaa
open Go.RowKit
/-- What a call of a clock leaves. -/
def ClkPost (B s : Nat) (w : World) (r : Value) (c : Clk) (e : Ending) (w' : World) : Prop := e = .returned r ∧ CAt B s w' c ∧ HMoves s 2 w w'
def two (p : Clk × Int × Int) : Value := .tuple #[.int .i64 p.2.1, .int .i64 p.2.2]
theorem at_c {B s : Nat} {w : World} {c : Clk} (h : CAt B s w c) (hf : c.Fine) (a : Int) : Calls Try.prog 24 #[cV s, .int .i64 a] w (ClkPost B s w (two (c.at_ a)) (c.at_ a).1) := by
  have hmay := may_c h a
  by_cases hc : a < c.now ∨ 1099511627776 < a
  · have e1 : c.at_ a = (c, 0, 1) := by unfold Clk.at_; rw [if_pos hc]
    rw [e1]
    have hd : decide (¬ (a < c.now ∨ 1099511627776 < a)) = false := by simp; omega
    rw [hd] at hmay
    have FIN := Lib.hid h
    have HM := Lib.hid hmay
    clear h hf hc e1 hd hmay
    go_enter Try.func24, Try.ntmps24
    go_wp2_with (go_at_call 35; refine HM.out.mono ?_; rintro e w1 ⟨rfl, rfl⟩)
    go_ret2
    exact ⟨rfl, FIN.out, HMoves.refl _ _ _⟩
  · have e1 : c.at_ a = c.set a 0 := by unfold Clk.at_; rw [if_neg hc]
    rw [e1]
    have hd : decide (¬ (a < c.now ∨ 1099511627776 < a)) = true := by simp; omega
    rw [hd] at hmay
    have hset := set_c h hf (a := a) (e := 0) (by omega) (by omega)
    have HM := Lib.hid hmay
    have HS := Lib.hid hset
    clear h hf hc e1 hd hmay hset
    go_enter Try.func24, Try.ntmps24
    go_wp2_with (first | (go_at_call 35; refine HM.out.mono ?_; rintro e w1 ⟨rfl, rfl⟩) | (go_at_call 32; refine HS.out.mono ?_; rintro e w2 ⟨rfl, hp⟩))
    go_ret2
    exact ⟨rfl, hp⟩
theorem after_c {B s : Nat} {w : World} {c : Clk} (h : CAt B s w c) (hf : c.Fine) (t : Int) : Calls Try.prog 17 #[cV s, .int .i64 t] w (ClkPost B s w (two (c.after t)) (c.after t).1) := by
  have c0 := h.now
  have hn0 := hf.ok.now0
  have hn1 := hf.ok.now1
  by_cases hc : t < 0 ∨ 1099511627776 - c.now < t
  · have e1 : c.after t = (c, 0, 1) := by unfold Clk.after; rw [if_pos hc]
    rw [e1]
    have FIN := Lib.hid h
    obtain ⟨now, last, L⟩ := c
    simp only at c0 hn0 hn1 hc FIN ⊢
    clear h hf e1
    by_cases h1 : t < 0
    · clear hc
      go_enter Try.func17, Try.ntmps17
      go_wp2
      go_ret2
      exact ⟨rfl, FIN.out, HMoves.refl _ _ _⟩
    · have h2 : 1099511627776 - now < t := hc.resolve_left h1
      clear hc
      go_enter Try.func17, Try.ntmps17
      go_wp2
      go_ret2
      exact ⟨rfl, FIN.out, HMoves.refl _ _ _⟩
  · have e1 : c.after t = c.set (c.now + t) 0 := by unfold Clk.after; rw [if_neg hc]
    rw [e1]
    have hset := set_c h hf (a := c.now + t) (e := 0) (by omega) (by omega)
    have h1 : ¬ t < 0 := by omega
    have h2 : ¬ 1099511627776 - c.now < t := by omega
    have HS := Lib.hid hset
    obtain ⟨n, hn⟩ : ∃ n, n = c.now := ⟨_, rfl⟩
    rw [← hn] at c0 HS h2 hn0 hn1 ⊢
    clear h hf hc e1 hset hn
    go_enter Try.func17, Try.ntmps17
    go_wp2_with (go_at_call 32; refine HS.out.mono ?_; rintro e w2 ⟨rfl, hp⟩)
    go_ret2
    exact ⟨rfl, hp⟩
theorem every_c {B s : Nat} {w : World} {c : Clk} (h : CAt B s w c) (hf : c.Fine) (f p : Int) : Calls Try.prog 25 #[cV s, .int .i64 f, .int .i64 p] w (ClkPost B s w (two (c.every f p)) (c.every f p).1) := by
  have hmay := may_c h f
  by_cases hc : f < c.now ∨ 1099511627776 < f ∨ p < 1 ∨ 1099511627776 < p
  · have e1 : c.every f p = (c, 0, 1) := by unfold Clk.every; rw [if_pos hc]
    rw [e1]
    have FIN := Lib.hid h
    obtain ⟨b, hb⟩ : ∃ b, b = decide (¬ (f < c.now ∨ 1099511627776 < f)) := ⟨_, rfl⟩
    rw [← hb] at hmay
    have HM := Lib.hid hmay
    cases b with
    | false =>
      clear h hf e1 hb hmay hc
      go_enter Try.func25, Try.ntmps25
      go_wp2_with (go_at_call 35; refine HM.out.mono ?_; rintro e w1 ⟨rfl, rfl⟩)
      go_ret2
      exact ⟨rfl, FIN.out, HMoves.refl _ _ _⟩
    | true =>
      have hc2 : p < 1 ∨ 1099511627776 < p := by
        have := of_decide_eq_true hb.symm
        omega
      clear h hf e1 hb hmay hc
      by_cases h1 : p < 1
      · clear hc2
        go_enter Try.func25, Try.ntmps25
        go_wp2_with (go_at_call 35; refine HM.out.mono ?_; rintro e w1 ⟨rfl, rfl⟩)
        go_ret2
        exact ⟨rfl, FIN.out, HMoves.refl _ _ _⟩
      · have h2 := hc2.resolve_left h1
        clear hc2
        go_enter Try.func25, Try.ntmps25
        go_wp2_with (go_at_call 35; refine HM.out.mono ?_; rintro e w1 ⟨rfl, rfl⟩)
        go_ret2
        exact ⟨rfl, FIN.out, HMoves.refl _ _ _⟩
  · have e1 : c.every f p = c.set f p := by unfold Clk.every; rw [if_neg hc]
    rw [e1]
    have hd : decide (¬ (f < c.now ∨ 1099511627776 < f)) = true := by simp; omega
    rw [hd] at hmay
    have hset := set_c h hf (a := f) (e := p) (by omega) (by omega)
    have h1 : ¬ p < 1 := by omega
    have h2 : ¬ 1099511627776 < p := by omega
    have HM := Lib.hid hmay
    have HS := Lib.hid hset
    clear h hf hc e1 hd hmay hset
    go_enter Try.func25, Try.ntmps25
    go_wp2_with (first | (go_at_call 35; refine HM.out.mono ?_; rintro e w1 ⟨rfl, rfl⟩) | (go_at_call 32; refine HS.out.mono ?_; rintro e w2 ⟨rfl, hp⟩))
    go_ret2
    exact ⟨rfl, hp⟩
end Go.Proofs.Ytjlapnnmdfdjdaa
