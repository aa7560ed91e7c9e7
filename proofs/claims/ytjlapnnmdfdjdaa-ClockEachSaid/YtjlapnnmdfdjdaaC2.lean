/- PLAIN: a clock: its calls, what they leave; the chapter's theorems on it. -/
import Derived.Test.YtjlapnnmdfdjdaaC1
namespace Go.Proofs.Ytjlapnnmdfdjdaa
/-- A clock: the time, how many timers were ever set, those that are pending. -/
structure Clk where
  now : Int
  last : Int
  L : List Tm
deriving Inhabited
structure Clk.Ok (s : Clk) : Prop where
  now0 : 0 ≤ s.now
  now1 : s.now ≤ 1099511627776
  last0 : 0 ≤ s.last
  fit : Fit s.now s.L
  num : ∀ t ∈ s.L, 1 ≤ t.n ∧ t.n ≤ s.last
  len : s.L.length ≤ 1024
def clk0 : Clk := ⟨0, 0, []⟩
theorem clk0_ok : clk0.Ok := ⟨by simp [clk0], by simp [clk0], by simp [clk0], ⟨by simp [clk0, Sor], by simp [clk0], by simp [clk0]⟩, by simp [clk0], by simp [clk0]⟩
def Clk.set (s : Clk) (a e : Int) : Clk × Int × Int := if 1024 ≤ s.L.length then (s, 0, 3) else (⟨s.now, s.last + 1, laid ⟨s.last + 1, a, e⟩ s.L⟩, s.last + 1, 0)
def Clk.at_ (s : Clk) (a : Int) : Clk × Int × Int := if a < s.now ∨ 1099511627776 < a then (s, 0, 1) else s.set a 0
def Clk.after (s : Clk) (t : Int) : Clk × Int × Int := if t < 0 ∨ 1099511627776 - s.now < t then (s, 0, 1) else s.set (s.now + t) 0
def Clk.every (s : Clk) (f p : Int) : Clk × Int × Int := if f < s.now ∨ 1099511627776 < f ∨ p < 1 ∨ 1099511627776 < p then (s, 0, 1) else s.set f p
def hasN (k : Int) (L : List Tm) : Bool := L.any fun t => decide (t.n = k)
def without (k : Int) (L : List Tm) : List Tm := L.filter fun t => !decide (t.n = k)
def Clk.stop (s : Clk) (k : Int) : Clk × Int := if hasN k s.L = true then (⟨s.now, s.last, without k s.L⟩, 0) else (s, 4)
def Clk.move (s : Clk) (k a : Int) : Clk × Int := match s.L.find? (fun t => decide (t.n = k)) with
  | none => (s, 4)
  | some t => if a < s.now ∨ 1099511627776 < a then (s, 1) else (⟨s.now, s.last, laid ⟨t.n, a, t.e⟩ (without k s.L)⟩, 0)
def Clk.adv (s : Clk) (t : Int) : Clk × List (Int × Int) × Int :=
  if t < 0 ∨ 1099511627776 - s.now < t then (s, [], 1)
  else if 4096 < cnt (s.now + t) s.L then (s, [], 3)
  else (⟨s.now + t, s.last, (fires (s.now + t) (cnt (s.now + t) s.L) s.L).2⟩, (fires (s.now + t) (cnt (s.now + t) s.L) s.L).1, 0)
theorem without_fit {now k : Int} {L : List Tm} (h : Fit now L) : Fit now (without k L) :=
  ⟨List.Pairwise.sublist List.filter_sublist h.sor, fun t ht => h.rng t ((List.mem_filter.1 ht).1), (List.filter_sublist.map _).nodup h.nod⟩
theorem without_no {k : Int} {L : List Tm} : ∀ t ∈ without k L, t.n ≠ k := fun t ht e => by
  have := (List.mem_filter.1 ht).2
  rw [e] at this
  simp at this
theorem laid_length (t : Tm) (L : List Tm) : (laid t L).length = L.length + 1 := by rw [(laid_perm t L).length_eq, List.length_cons]
theorem fire1_length (t : Tm) (L : List Tm) : (fire1 t L).length ≤ L.length + 1 := by unfold fire1; split <;> simp [laid_length]
theorem fires_length {to : Int} : ∀ (k : Nat) (L : List Tm), (fires to k L).2.length ≤ L.length
  | 0, _ => Nat.le_refl _
  | _ + 1, [] => Nat.le_refl _
  | k + 1, t :: L => by
    unfold fires
    split
    · have h1 := fires_length (to := to) k (fire1 t L)
      have h2 := fire1_length t L
      simp only [List.length_cons]
      omega
    · exact Nat.le_refl _
theorem fires_nums {to : Int} : ∀ (k : Nat) (L : List Tm) (x : Tm), x ∈ (fires to k L).2 → ∃ t ∈ L, t.n = x.n
  | 0, _, x, h => ⟨x, h, rfl⟩
  | _ + 1, [], x, h => by simp [fires] at h
  | k + 1, t :: L, x, h => by
    unfold fires at h
    split at h
    · obtain ⟨y, hy, e⟩ := fires_nums (to := to) k _ x h
      rcases mem_fire1 hy with hy | ⟨_, rfl⟩
      · exact ⟨y, List.mem_cons_of_mem _ hy, e⟩
      · exact ⟨t, List.mem_cons_self, e⟩
    · exact ⟨x, h, rfl⟩
theorem Clk.Ok.set {s : Clk} (h : s.Ok) {a e : Int} (ha : s.now ≤ a ∧ a ≤ 1099511627776) (he : 0 ≤ e ∧ e ≤ 1099511627776) : (s.set a e).1.Ok := by
  unfold Clk.set
  split
  · exact h
  · rename_i c
    refine ⟨h.now0, h.now1, by have := h.last0; simp only; omega, h.fit.laid (fun x hx q => by have := h.num x hx; simp only at q; omega) (by simp only; omega), fun t ht => ?_, by simp only [laid_length]; omega⟩
    have := h.last0
    rcases mem_laid.1 ht with rfl | ht
    · simp only; omega
    · have := h.num t ht; simp only; omega
theorem Clk.Ok.at_ {s : Clk} (h : s.Ok) (a : Int) : (s.at_ a).1.Ok := by
  unfold Clk.at_
  split
  · exact h
  · exact h.set (by omega) (by omega)
theorem Clk.Ok.after {s : Clk} (h : s.Ok) (t : Int) : (s.after t).1.Ok := by
  unfold Clk.after
  split
  · exact h
  · exact h.set (by omega) (by omega)
theorem Clk.Ok.every {s : Clk} (h : s.Ok) (f p : Int) : (s.every f p).1.Ok := by
  unfold Clk.every
  split
  · exact h
  · exact h.set (by omega) (by omega)
theorem Clk.Ok.stop {s : Clk} (h : s.Ok) (k : Int) : (s.stop k).1.Ok := by
  unfold Clk.stop
  split
  · exact ⟨h.now0, h.now1, h.last0, without_fit h.fit, fun t ht => h.num t ((List.mem_filter.1 ht).1), Nat.le_trans (List.length_filter_le _ _) h.len⟩
  · exact h
theorem without_length {k : Int} {L : List Tm} {t : Tm} (ht : t ∈ L) (e : t.n = k) : (without k L).length + 1 ≤ L.length := by
  have : (without k L).length < L.length := by
    unfold without
    refine List.length_filter_lt_length_iff_exists.2 ⟨t, ht, by simp [e]⟩
  omega
theorem Clk.Ok.move {s : Clk} (h : s.Ok) (k a : Int) : (s.move k a).1.Ok := by
  unfold Clk.move
  split
  · exact h
  · rename_i t ht
    have hm := List.mem_of_find?_eq_some ht
    have hk : t.n = k := by simpa using List.find?_some ht
    split
    · exact h
    · have hr := h.fit.rng t hm
      refine ⟨h.now0, h.now1, h.last0, (without_fit h.fit).laid (fun x hx q => without_no x hx (q.trans hk)) (by simp only; omega), fun x hx => ?_, by simp only [laid_length]; exact Nat.le_trans (without_length hm hk) h.len⟩
      rcases mem_laid.1 hx with rfl | hx
      · exact h.num t hm
      · exact h.num x ((List.mem_filter.1 hx).1)
theorem Clk.Ok.adv {s : Clk} (h : s.Ok) (t : Int) : (s.adv t).1.Ok := by
  unfold Clk.adv
  split
  · exact h
  · split
    · exact h
    · have hn := h.now0
      obtain ⟨_, _, h3, h4⟩ := fires_more (to := s.now + t) (by omega) _ s.L s.now h.fit (Nat.le_refl _)
      refine ⟨by simp only; omega, by simp only; omega, h.last0, h4.later h3, fun x hx => ?_, Nat.le_trans (fires_length _ _) h.len⟩
      obtain ⟨y, hy, e⟩ := fires_nums _ _ x hx
      have := h.num y hy
      simp only
      omega
/-- Time that goes by in two steps. -/
theorem Clk.Ok.split {s : Clk} (h : s.Ok) {a b : Int} (hb : 0 ≤ b) (e1 : (s.adv a).2.2 = 0) (e2 : ((s.adv a).1.adv b).2.2 = 0) (e3 : (s.adv (a + b)).2.2 = 0) :
    (s.adv (a + b)).2.1 = (s.adv a).2.1 ++ ((s.adv a).1.adv b).2.1 ∧ (s.adv (a + b)).1 = ((s.adv a).1.adv b).1 := by
  have hn := h.now0
  have c1 : ¬ (a < 0 ∨ 1099511627776 - s.now < a) := fun c => by unfold Clk.adv at e1; rw [if_pos c] at e1; cases e1
  have c2 : ¬ 4096 < cnt (s.now + a) s.L := fun c => by unfold Clk.adv at e1; rw [if_neg c1, if_pos c] at e1; cases e1
  have hA : s.adv a = (⟨s.now + a, s.last, (fires (s.now + a) (cnt (s.now + a) s.L) s.L).2⟩, (fires (s.now + a) (cnt (s.now + a) s.L) s.L).1, 0) := by unfold Clk.adv; rw [if_neg c1, if_neg c2]
  have c3 : ¬ (a + b < 0 ∨ 1099511627776 - s.now < a + b) := fun c => by unfold Clk.adv at e3; rw [if_pos c] at e3; cases e3
  have c4 : ¬ 4096 < cnt (s.now + (a + b)) s.L := fun c => by unfold Clk.adv at e3; rw [if_neg c3, if_pos c] at e3; cases e3
  have hC : s.adv (a + b) = (⟨s.now + (a + b), s.last, (fires (s.now + (a + b)) (cnt (s.now + (a + b)) s.L) s.L).2⟩, (fires (s.now + (a + b)) (cnt (s.now + (a + b)) s.L) s.L).1, 0) := by unfold Clk.adv; rw [if_neg c3, if_neg c4]
  rw [hA] at e2 ⊢
  rw [hC]
  simp only at e2 ⊢
  obtain ⟨L1, hL1⟩ : ∃ L1, L1 = (fires (s.now + a) (cnt (s.now + a) s.L) s.L).2 := ⟨_, rfl⟩
  obtain ⟨_, g2, g3, g4⟩ := fires_more (to := s.now + a) (by omega) _ s.L s.now h.fit (Nat.le_refl _)
  have hsp := fires_split (t1 := s.now + a) (t2 := s.now + a + b) (by omega) (cnt (s.now + a) s.L) (cnt (s.now + a + b) L1) s.L g2
  rw [← hL1] at hsp g3 g4 e2 ⊢
  have c5 : ¬ (b < 0 ∨ 1099511627776 - (s.now + a) < b) := by omega
  have c6 : ¬ 4096 < cnt (s.now + a + b) L1 := fun c => by unfold Clk.adv at e2; simp only at e2; rw [if_neg c5, if_pos c] at e2; cases e2
  have hB : (⟨s.now + a, s.last, L1⟩ : Clk).adv b = (⟨s.now + a + b, s.last, (fires (s.now + a + b) (cnt (s.now + a + b) L1) L1).2⟩, (fires (s.now + a + b) (cnt (s.now + a + b) L1) L1).1, 0) := by unfold Clk.adv; simp only; rw [if_neg c5, if_neg c6]
  rw [hB]
  simp only
  obtain ⟨f1, f2, f3, f4⟩ := fires_more (to := s.now + a + b) (by omega) _ L1 s.now g4 (Nat.le_refl _)
  have hlen : cnt (s.now + (a + b)) s.L = cnt (s.now + a) s.L + cnt (s.now + a + b) L1 := by
    rw [show s.now + (a + b) = s.now + a + b by omega]
    obtain ⟨q1, q2, q3, _⟩ := fires_more (to := s.now + a + b) (by omega) (cnt (s.now + a) s.L + cnt (s.now + a + b) L1 + cnt (s.now + a + b) s.L) s.L s.now h.fit (by omega)
    have h1 := congrArg (fun r => r.1.length) (fires_split (t1 := s.now + a) (t2 := s.now + a + b) (by omega) (cnt (s.now + a) s.L) (cnt (s.now + a + b) L1 + cnt (s.now + a + b) s.L) s.L g2)
    rw [← hL1, ← Nat.add_assoc, q1] at h1
    simp only [List.length_append] at h1
    have h2 := (fires_more (to := s.now + a + b) (by omega) (cnt (s.now + a + b) L1 + cnt (s.now + a + b) s.L) L1 s.now g4 (by omega)).1
    rw [h2, q2, g2, f2] at h1
    exact h1
  rw [hlen, show s.now + (a + b) = s.now + a + b by omega, hsp]
  exact ⟨rfl, rfl⟩
end Go.Proofs.Ytjlapnnmdfdjdaa
