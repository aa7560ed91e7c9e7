/- PLAIN: a clock: what the theorems look at, step by step. -/
import Derived.Test.YtjlapnnmdfdjdaaC2
namespace Go.Proofs.Ytjlapnnmdfdjdaa
theorem timesF_length : ∀ (t : Tm) (m : Nat), (timesF t m).length = m
  | _, 0 => rfl
  | t, m + 1 => by unfold timesF; rw [List.length_cons, timesF_length]
theorem timesF_get : ∀ (t : Tm) (m i : Nat) (h : i < (timesF t m).length), (timesF t m)[i] = (t.n, t.a + i * t.e)
  | _, 0, _, h => by simp [timesF] at h
  | t, m + 1, 0, _ => by simp [timesF]
  | t, m + 1, i + 1, h => by
    have ih := timesF_get ⟨t.n, t.a + t.e, t.e⟩ m i (by simp [timesF] at h; exact h)
    simp only [timesF, List.getElem_cons_succ]
    rw [ih]
    rw [show ((i + 1 : Nat) : Int) * t.e = (i : Int) * t.e + t.e by rw [show ((i + 1 : Nat) : Int) = (i : Int) + 1 by omega, Int.add_mul, Int.one_mul]]
    simp only
    rw [show t.a + t.e + (i : Int) * t.e = t.a + ((i : Int) * t.e + t.e) by omega]
/-- How many of the first i are the number's. -/
def seenN (l : List (Int × Int)) (k : Int) (i : Nat) : Nat := ((l.take i).filter fun x => decide (x.1 = k)).length
theorem seenN_succ {l : List (Int × Int)} {k : Int} {i : Nat} (h : i < l.length) : seenN l k (i + 1) = if l[i].1 = k then seenN l k i + 1 else seenN l k i := by
  unfold seenN
  rw [List.take_succ_eq_append_getElem h, List.filter_append, List.length_append]
  by_cases c : l[i].1 = k <;> simp [c]
theorem each_step {l : List (Int × Int)} {t : Tm} {n : Nat} (hl : l.filter (fun x => decide (x.1 = t.n)) = timesF t n) {i : Nat} (hi : i < l.length) (hm : l[i].1 = t.n) : l[i].2 = t.a + (seenN l t.n i : Int) * t.e := by
  have hs : l = l.take i ++ l[i] :: l.drop (i + 1) := by rw [List.getElem_cons_drop, List.take_append_drop]
  have hf : timesF t n = (l.take i).filter (fun x => decide (x.1 = t.n)) ++ l[i] :: (l.drop (i + 1)).filter (fun x => decide (x.1 = t.n)) := by
    rw [← hl]
    conv => lhs; rw [hs]
    rw [List.filter_append, List.filter_cons, if_pos (by simp [hm])]
  have hlt : seenN l t.n i < (timesF t n).length := by
    rw [hf, List.length_append, List.length_cons]
    unfold seenN
    omega
  have hg := timesF_get t n (seenN l t.n i) hlt
  have hg2 : (timesF t n)[seenN l t.n i] = l[i] := by
    simp only [hf]
    rw [List.getElem_append_right (by unfold seenN; omega)]
    simp [seenN]
  rw [← hg2, hg]
theorem each_all {l : List (Int × Int)} {t : Tm} {n : Nat} (hl : l.filter (fun x => decide (x.1 = t.n)) = timesF t n) : seenN l t.n l.length = n := by
  unfold seenN
  rw [List.take_length, hl, timesF_length]
/-- What an Advance tells of what was pending. -/
structure AdvOk (s : Clk) (t : Int) (l : List (Int × Int)) : Prop where
  each : ∀ x ∈ s.L, l.filter (fun y => decide (y.1 = x.n)) = timesF x (cnt1 (s.now + t) x)
  order : l.Pairwise fun x y => x.2 < y.2 ∨ (x.2 = y.2 ∧ x.1 < y.1)
  total : l.length = cnt (s.now + t) s.L
  few : l.length ≤ 4096
  rng : ∀ x ∈ l, s.now ≤ x.2 ∧ x.2 ≤ s.now + t ∧ ∃ y ∈ s.L, y.n = x.1
theorem Clk.Ok.adv_ok {s : Clk} (h : s.Ok) {t : Int} (e : (s.adv t).2.2 = 0) : AdvOk s t (s.adv t).2.1 ∧ (s.adv t).1.now = s.now + t := by
  have c1 : ¬ (t < 0 ∨ 1099511627776 - s.now < t) := fun c => by unfold Clk.adv at e; rw [if_pos c] at e; cases e
  have c2 : ¬ 4096 < cnt (s.now + t) s.L := fun c => by unfold Clk.adv at e; rw [if_neg c1, if_pos c] at e; cases e
  have hA : s.adv t = (⟨s.now + t, s.last, (fires (s.now + t) (cnt (s.now + t) s.L) s.L).2⟩, (fires (s.now + t) (cnt (s.now + t) s.L) s.L).1, 0) := by unfold Clk.adv; rw [if_neg c1, if_neg c2]
  rw [hA]
  obtain ⟨_, h2, _, _⟩ := fires_more (to := s.now + t) (by omega) _ s.L s.now h.fit (Nat.le_refl _)
  refine ⟨⟨fun x hx => fires_each (by omega) _ s.L h.fit (Nat.le_refl _) x hx, fires_order _ _ h.fit, h2, by simp only; omega, fun x hx => ?_⟩, rfl⟩
  obtain ⟨⟨y, hy, h3, h4⟩, h5⟩ := fires_from _ _ _ hx
  have := h.fit.rng y hy
  exact ⟨by omega, h5, y, hy, h3.symm⟩
theorem Clk.adv_no {s : Clk} {t : Int} (e : (s.adv t).2.2 ≠ 0) : (s.adv t).1 = s ∧ (s.adv t).2.1 = [] ∧ (t < 0 ∨ 1099511627776 - s.now < t ∨ (s.adv t).2.2 = 3) := by
  unfold Clk.adv at e ⊢
  split
  · rename_i c
    exact ⟨rfl, rfl, by omega⟩
  · split
    · exact ⟨rfl, rfl, .inr (.inr rfl)⟩
    · rename_i c1 c2
      rw [if_neg c1, if_neg c2] at e
      exact absurd rfl e
/-- What the first is, is what fires next. -/
theorem Clk.Ok.next {s : Clk} (h : s.Ok) {x : Tm} {l : List Tm} (hL : s.L = x :: l) :
    s.now ≤ x.a ∧ x.a ≤ 1099511627776 ∧ (s.now < x.a → s.adv (x.a - 1 - s.now) = (⟨x.a - 1, s.last, s.L⟩, [], 0)) ∧
    ∀ s2 : Clk, s2.L = s.L → s2.now ≤ x.a → s2.Ok → (s2.adv (x.a - s2.now)).2.2 = 3 ∨ ((s2.adv (x.a - s2.now)).2.2 = 0 ∧ ∃ r, (s2.adv (x.a - s2.now)).2.1 = (x.n, x.a) :: r) := by
  have hr := h.fit.rng x (by rw [hL]; exact List.mem_cons_self)
  have hn := h.now0
  refine ⟨hr.1, hr.2.1, fun hlt => ?_, fun s2 h2 hle ho => ?_⟩
  · have h0 : cnt (s.now + (x.a - 1 - s.now)) s.L = 0 := by
      rw [hL]
      have hs := h.fit.sor
      rw [hL] at hs
      exact cnt_zero hs (by omega)
    unfold Clk.adv
    rw [if_neg (by omega), if_neg (by omega), h0, show s.now + (x.a - 1 - s.now) = x.a - 1 by omega]
    rfl
  · unfold Clk.adv
    have hn2 := ho.now0
    rw [if_neg (by omega)]
    split
    · exact .inl rfl
    · refine .inr ⟨rfl, ?_⟩
      simp only
      rw [show s2.now + (x.a - s2.now) = x.a by omega, h2, hL]
      have hp : 0 < cnt1 x.a x := cnt1_pos.2 (Int.le_refl _)
      obtain ⟨q, hq⟩ : ∃ q, cnt x.a (x :: l) = q + 1 := ⟨cnt x.a (x :: l) - 1, by rw [cnt_cons]; omega⟩
      rw [hq]
      unfold fires
      rw [if_pos (Int.le_refl _)]
      exact ⟨_, rfl⟩
end Go.Proofs.Ytjlapnnmdfdjdaa
