/- PLAIN: timers in a row; what fires. -/
import Derived.Test.YtjlapnnmdfdjdaaProg
namespace Go.Proofs.Ytjlapnnmdfdjdaa
/-- A timer: its number, its time, its period. -/
structure Tm where
  n : Int
  a : Int
  e : Int
deriving DecidableEq, Inhabited
def Tm.lt (x y : Tm) : Bool := decide (x.a < y.a ∨ (x.a = y.a ∧ x.n < y.n))
theorem Tm.lt_iff {x y : Tm} : x.lt y = true ↔ x.a < y.a ∨ (x.a = y.a ∧ x.n < y.n) := by unfold Tm.lt; exact decide_eq_true_iff
theorem Tm.lt_no {x y : Tm} : x.lt y = false ↔ y.a < x.a ∨ (x.a = y.a ∧ y.n ≤ x.n) := by
  unfold Tm.lt
  rw [decide_eq_false_iff_not]
  omega
theorem Tm.lt_tr {x y z : Tm} (h : x.lt y = true) (k : y.lt z = true) : x.lt z = true := by
  rw [Tm.lt_iff] at *
  omega
/-- In the order in which they fire, each number once. -/
def Sor (L : List Tm) : Prop := L.Pairwise fun x y => x.lt y = true
def laid (t : Tm) : List Tm → List Tm
  | [] => [t]
  | x :: l => if t.lt x = true then t :: x :: l else x :: laid t l
theorem laid_perm (t : Tm) : ∀ L : List Tm, (laid t L).Perm (t :: L)
  | [] => List.Perm.refl _
  | x :: l => by
    unfold laid
    split
    · exact List.Perm.refl _
    · exact ((laid_perm t l).cons x).trans (List.Perm.swap t x l)
theorem mem_laid {t x : Tm} {L : List Tm} : x ∈ laid t L ↔ x = t ∨ x ∈ L := by rw [(laid_perm t L).mem_iff, List.mem_cons]
theorem laid_sor {t : Tm} : ∀ {L : List Tm}, Sor L → (∀ x ∈ L, x.n ≠ t.n) → Sor (laid t L)
  | [], _, _ => by simp [laid, Sor]
  | x :: l, h, hn => by
    obtain ⟨h1, h2⟩ := List.pairwise_cons.1 h
    unfold laid
    split
    · rename_i hc
      refine List.pairwise_cons.2 ⟨fun y hy => ?_, h⟩
      rcases List.mem_cons.1 hy with rfl | hy
      · exact hc
      · exact Tm.lt_tr hc (h1 y hy)
    · rename_i hc
      refine List.pairwise_cons.2 ⟨fun y hy => ?_, laid_sor h2 (fun y hy => hn y (List.mem_cons_of_mem _ hy))⟩
      rcases mem_laid.1 hy with rfl | hy
      · have h0 := Tm.lt_no.1 (Bool.eq_false_iff.2 hc)
        have := hn x List.mem_cons_self
        exact Tm.lt_iff.2 (by omega)
      · exact h1 y hy
theorem sor_uniq {A B : List Tm} (ha : Sor A) (hb : Sor B) (hp : A.Perm B) : A = B := by
  unfold Sor at ha hb
  refine List.Perm.eq_of_pairwise ?_ ha hb hp
  intro x y _ _ h k
  have h1 := Tm.lt_iff.1 h
  have h2 := Tm.lt_iff.1 k
  omega
/-! What fires. -/
/-- How often a timer comes to its time up to a time. -/
def cnt1 (to : Int) (t : Tm) : Nat := if to < t.a then 0 else if t.e ≤ 0 then 1 else 1 + ((to - t.a) / t.e).toNat
def cnt (to : Int) (L : List Tm) : Nat := (L.map (cnt1 to)).sum
theorem cnt_cons (to : Int) (t : Tm) (L : List Tm) : cnt to (t :: L) = cnt1 to t + cnt to L := by simp [cnt]
theorem cnt_perm {to : Int} {A B : List Tm} (h : A.Perm B) : cnt to A = cnt to B := (h.map _).sum_nat
/-- The row behind the first one's firing. -/
def fire1 (t : Tm) (L : List Tm) : List Tm := if 0 < t.e ∧ t.e ≤ 1099511627776 - t.a then laid ⟨t.n, t.a + t.e, t.e⟩ L else L
def fires (to : Int) : Nat → List Tm → List (Int × Int) × List Tm
  | 0, L => ([], L)
  | _ + 1, [] => ([], [])
  | k + 1, t :: L => if t.a ≤ to then ((t.n, t.a) :: (fires to k (fire1 t L)).1, (fires to k (fire1 t L)).2) else ([], t :: L)
theorem cnt1_pos {to : Int} {t : Tm} : 0 < cnt1 to t ↔ t.a ≤ to := by
  unfold cnt1
  split
  · omega
  · split <;> omega
theorem cnt1_next {to : Int} {t : Tm} (h : t.a ≤ to) (he : 0 < t.e) : cnt1 to ⟨t.n, t.a + t.e, t.e⟩ + 1 = cnt1 to t := by
  unfold cnt1
  rw [if_neg (show ¬ to < t.a by omega), if_neg (show ¬ t.e ≤ 0 by omega)]
  simp only
  have hd : 0 ≤ (to - t.a) / t.e := Int.ediv_nonneg (by omega) (by omega)
  by_cases c : to < t.a + t.e
  · rw [if_pos c]
    have : (to - t.a) / t.e = 0 := Int.ediv_eq_zero_of_lt (by omega) (by omega)
    rw [this, if_neg (show ¬ t.e ≤ 0 by omega)]
    rfl
  · rw [if_neg c, if_neg (show ¬ t.e ≤ 0 by omega)]
    have : (to - t.a) / t.e = (to - (t.a + t.e)) / t.e + 1 := by
      rw [show to - t.a = (to - (t.a + t.e)) + 1 * t.e by omega, Int.add_mul_ediv_right _ _ (by omega)]
    have h2 : 0 ≤ (to - (t.a + t.e)) / t.e := Int.ediv_nonneg (by omega) (by omega)
    rw [this]
    omega
theorem cnt1_last {to : Int} {t : Tm} (h : t.a ≤ to) (hm : to ≤ 1099511627776) (he : ¬ (0 < t.e ∧ t.e ≤ 1099511627776 - t.a)) : cnt1 to t = 1 := by
  unfold cnt1
  rw [if_neg (show ¬ to < t.a by omega)]
  split
  · rfl
  · have : (to - t.a) / t.e = 0 := Int.ediv_eq_zero_of_lt (by omega) (by omega)
    rw [this]
    rfl
theorem cnt_fire1 {to : Int} {t : Tm} {L : List Tm} (h : t.a ≤ to) (hm : to ≤ 1099511627776) : cnt to (fire1 t L) + 1 = cnt to (t :: L) := by
  rw [cnt_cons]
  unfold fire1
  split
  · rename_i c
    rw [cnt_perm (laid_perm _ L), cnt_cons]
    have := cnt1_next h c.1
    omega
  · rename_i c
    rw [cnt1_last h hm c]
    omega
theorem cnt_zero {to : Int} {t : Tm} {L : List Tm} (hs : Sor (t :: L)) (h : to < t.a) : cnt to (t :: L) = 0 := by
  have hall : ∀ x ∈ t :: L, cnt1 to x = 0 := fun x hx => by
    have hx2 : t.a ≤ x.a := by
      rcases List.mem_cons.1 hx with rfl | hx
      · omega
      · have := Tm.lt_iff.1 ((List.pairwise_cons.1 hs).1 x hx)
        omega
    unfold cnt1
    rw [if_pos (by omega)]
  have : ∀ l : List Tm, (∀ x ∈ l, cnt1 to x = 0) → cnt to l = 0 := fun l => by
    induction l with
    | nil => intro _; rfl
    | cons x l ih => intro h; rw [cnt_cons, h x List.mem_cons_self, ih fun y hy => h y (List.mem_cons_of_mem _ hy)]
  exact this _ hall
/-- Timers that may be pending at a time. -/
structure Fit (now : Int) (L : List Tm) : Prop where
  sor : Sor L
  rng : ∀ t ∈ L, now ≤ t.a ∧ t.a ≤ 1099511627776 ∧ 0 ≤ t.e ∧ t.e ≤ 1099511627776
  nod : (L.map (·.n)).Nodup
theorem Fit.tail {now : Int} {t : Tm} {L : List Tm} (h : Fit now (t :: L)) : Fit now L :=
  ⟨(List.pairwise_cons.1 h.sor).2, fun x hx => h.rng x (List.mem_cons_of_mem _ hx), (List.nodup_cons.1 (by simpa using h.nod)).2⟩
theorem Fit.fresh {now : Int} {t : Tm} {L : List Tm} (h : Fit now (t :: L)) : ∀ x ∈ L, x.n ≠ t.n := fun x hx e => by
  have := (List.nodup_cons.1 (show (t.n :: L.map (·.n)).Nodup by simpa using h.nod)).1
  exact this (List.mem_map.2 ⟨x, hx, e⟩)
theorem Fit.laid {now : Int} {t : Tm} {L : List Tm} (h : Fit now L) (hn : ∀ x ∈ L, x.n ≠ t.n) (hr : now ≤ t.a ∧ t.a ≤ 1099511627776 ∧ 0 ≤ t.e ∧ t.e ≤ 1099511627776) : Fit now (laid t L) := by
  refine ⟨laid_sor h.sor hn, fun x hx => ?_, ?_⟩
  · rcases mem_laid.1 hx with rfl | hx
    · exact hr
    · exact h.rng x hx
  · refine (((laid_perm t L).map (·.n)).nodup_iff).2 ?_
    rw [List.map_cons, List.nodup_cons]
    refine ⟨fun hm => ?_, h.nod⟩
    obtain ⟨x, hx, e⟩ := List.mem_map.1 hm
    exact hn x hx e
theorem Fit.fire1 {now : Int} {t : Tm} {L : List Tm} (h : Fit now (t :: L)) : Fit now (fire1 t L) := by
  unfold Proofs.Ytjlapnnmdfdjdaa.fire1
  have hr := h.rng t List.mem_cons_self
  split
  · rename_i c
    exact h.tail.laid h.fresh (by simp only; omega)
  · exact h.tail
theorem fires_more {to : Int} (hm : to ≤ 1099511627776) : ∀ (k : Nat) (L : List Tm) (now : Int), Fit now L → cnt to L ≤ k → fires to k L = fires to (cnt to L) L ∧ (fires to (cnt to L) L).1.length = cnt to L ∧ cnt to (fires to (cnt to L) L).2 = 0 ∧ Fit now (fires to (cnt to L) L).2
  | 0, L, now, hf, hk => by
    have h0 : cnt to L = 0 := by omega
    rw [h0]
    exact ⟨rfl, rfl, h0, hf⟩
  | k + 1, [], now, hf, _ => ⟨rfl, rfl, rfl, hf⟩
  | k + 1, t :: L, now, hf, hk => by
    by_cases c : t.a ≤ to
    · have hc := cnt_fire1 (L := L) c hm
      obtain ⟨q, hq⟩ : ∃ q, cnt to (t :: L) = q + 1 := ⟨_, hc.symm⟩
      have hq2 : cnt to (fire1 t L) = q := by omega
      obtain ⟨h1, h2, h3, h4⟩ := fires_more hm k (fire1 t L) now hf.fire1 (by omega)
      rw [hq2] at h1 h2 h3 h4
      rw [hq]
      unfold fires
      rw [if_pos c, if_pos c, h1]
      exact ⟨rfl, by simp only [List.length_cons, h2], h3, h4⟩
    · have h0 := cnt_zero hf.sor (to := to) (by omega)
      rw [h0]
      refine ⟨?_, rfl, h0, hf⟩
      unfold fires
      rw [if_neg c]
/-- In two steps as in one. -/
theorem fires_split {t1 t2 : Int} (h12 : t1 ≤ t2) : ∀ (k1 k2 : Nat) (L : List Tm), (fires t1 k1 L).1.length = k1 → fires t2 (k1 + k2) L = ((fires t1 k1 L).1 ++ (fires t2 k2 (fires t1 k1 L).2).1, (fires t2 k2 (fires t1 k1 L).2).2)
  | 0, k2, L, _ => by simp [fires]
  | k1 + 1, k2, [], h => by simp [fires] at h
  | k1 + 1, k2, t :: L, h => by
    by_cases c : t.a ≤ t1
    · have h' : (fires t1 k1 (fire1 t L)).1.length = k1 := by
        unfold fires at h
        rw [if_pos c] at h
        simpa using h
      have ih := fires_split h12 k1 k2 (fire1 t L) h'
      rw [show k1 + 1 + k2 = (k1 + k2) + 1 by omega]
      rw [fires, if_pos (show t.a ≤ t2 by omega), ih]
      simp only [fires, if_pos c, List.cons_append]
    · unfold fires at h
      rw [if_neg c] at h
      simp at h
end Go.Proofs.Ytjlapnnmdfdjdaa
