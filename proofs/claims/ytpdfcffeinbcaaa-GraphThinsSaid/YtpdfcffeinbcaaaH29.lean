/- PLAIN: there is an order just if nobody goes round; the counts by which the document finds the next. -/
import Derived.Test.YtpdfcffeinbcaaaH21
import Derived.Test.YtpdfcffeinbcaaaH26
import Derived.Test.YtpdfcffeinbcaaaH25
namespace Go.Proofs.Ytpdfcffeinbcaaa
open Go.RowKit
theorem deg_zero {g : XG} (hg : Good g) {out : List Int} {v : Int} : deg (nxt g) g.n.toNat out v = 0 ↔ ∀ u, Edg g u v → u ∈ out := by
  unfold deg degL
  rw [List.countP_eq_zero]
  have hn := hg.n0
  constructor
  · intro h u hu
    have hr := (hg.all _ hu).1
    simp only at hr
    apply Classical.byContradiction
    intro ho
    exact h u (mem_left.2 ⟨by omega, ho⟩) (decide_eq_true (mem_nxt.2 hu))
  · intro h u hu hd
    exact (mem_left.1 hu).2 (h u (mem_nxt.1 (of_decide_eq_true hd)))
/-- Each has all that lead to it ahead of it. -/
def Ahead (g : XG) (out : List Int) : Prop := ∀ (k : Nat) (h : k < out.length) (u : Int), Edg g u out[k] → u ∈ out.take k
theorem Ahead.next {g : XG} (hg : Good g) {out : List Int} {v : Int} (h : Ahead g out) (hv : v ∈ avail (nxt g) g.n.toNat out) : Ahead g (out ++ [v]) := by
  intro k hk u hu
  rcases Nat.lt_or_ge k out.length with c | c
  · rw [List.getElem_append_left c] at hu
    rw [List.take_append_of_le_length (by omega)]
    exact h k c u hu
  · have e : k = out.length := by simp at hk; omega
    subst e
    rw [List.getElem_append_right (Nat.le_refl _)] at hu
    simp at hu
    rw [List.take_append_of_le_length (Nat.le_refl _), List.take_length]
    exact (deg_zero hg).1 (mem_avail.1 hv).2.2 u hu
theorem ordGo_ahead {g : XG} (hg : Good g) : ∀ (k : Nat) {out : List Int}, Ahead g out → Ahead g (ordGo (nxt g) g.n.toNat k out)
  | 0, _, h => h
  | k + 1, out, h => by
    unfold ordGo
    cases hv : (avail (nxt g) g.n.toNat out).head? with
    | none => exact h
    | some v => exact ordGo_ahead hg k (h.next hg (List.mem_of_mem_head? hv))
theorem ord_ahead {g : XG} (hg : Good g) : Ahead g (ordF (nxt g) g.n.toNat) := ordGo_ahead hg _ (fun k h => by simp at h)
/-- What has a way to one stands ahead of it. -/
theorem ahead_tg {g : XG} {out : List Int} (h : Ahead g out) {x y : Int} (ht : TG g x y) : ∀ (k : Nat) (hk : k < out.length), out[k] = y → x ∈ out.take k := by
  induction ht with
  | single hxy => intro k hk e; subst e; exact h k hk _ hxy
  | tail _ hbc ih =>
    intro k hk e
    subst e
    have hb := h k hk _ hbc
    obtain ⟨j, hj, hjk⟩ := List.mem_take_iff_getElem.1 hb
    have hx := ih j (by omega) hjk
    obtain ⟨i, hi, hik⟩ := List.mem_take_iff_getElem.1 hx
    exact List.mem_take_iff_getElem.2 ⟨i, by omega, hik⟩
theorem whole_perm {n : Nat} {out : List Int} (hn : out.Nodup) (hr : ∀ x ∈ out, 0 ≤ x ∧ x < (n : Int)) (h : ∀ x, 0 ≤ x ∧ x < (n : Int) → x ∈ out) : out.length = n := by
  have : out.Perm (nodes n) := (List.perm_ext_iff_of_nodup hn (rising_nodup (nodes_rising n))).2 (fun x => by rw [mem_nodes]; exact ⟨hr x, h x⟩)
  rw [this.length_eq, nodes_length]
/-- While nobody goes round and not all are taken, one may come next. -/
theorem not_stuck {g : XG} (hg : Good g) (hno : ∀ x, ¬ TG g x x) {out : List Int} (hb : Begun (nxt g) g.n.toNat out) (hl : out.length < g.n.toNat) : avail (nxt g) g.n.toNat out ≠ [] := by
  intro hav
  have hex : ∃ v, (0 ≤ v ∧ v < (g.n.toNat : Int)) ∧ v ∉ out := by
    apply Classical.byContradiction
    intro hc
    have := whole_perm hb.nod hb.rng (fun x hx => by
      apply Classical.byContradiction
      intro ho
      exact hc ⟨x, hx, ho⟩)
    omega
  obtain ⟨v0, hv0⟩ := hex
  obtain ⟨v, hv, hfree⟩ := least_free (R := Edg g) g.n.toNat hno (fun v => (0 ≤ v ∧ v < (g.n.toNat : Int)) ∧ v ∉ out) (fun v h => h.1) _ v0 (Nat.le_refl _) hv0
  have hd : deg (nxt g) g.n.toNat out v = 0 := (deg_zero hg).2 (fun u hu => by
    apply Classical.byContradiction
    intro ho
    have hr := (hg.all _ hu).1
    simp only at hr
    have hn := hg.n0
    exact hfree u ⟨by omega, ho⟩ hu)
  have : v ∈ avail (nxt g) g.n.toNat out := mem_avail.2 ⟨hv.1, hv.2, hd⟩
  rw [hav] at this
  cases this
/-- KAHN: an order is there just if nobody goes round. -/
theorem ord_iff {g : XG} (hg : Good g) : (ordF (nxt g) g.n.toNat).length = g.n.toNat ↔ ∀ x, ¬ TG g x x := by
  have hb := ord_begun (nxt g) g.n.toNat
  constructor
  · intro h x ht
    have hr := (tg_in hg ht).1
    have hn := hg.n0
    have hx : x ∈ ordF (nxt g) g.n.toNat := by
      apply Classical.byContradiction
      intro hx
      have h2 : (x :: ordF (nxt g) g.n.toNat).length ≤ g.n.toNat := nodup_len _ _ (List.nodup_cons.2 ⟨hx, hb.nod⟩) (fun y hy => by
        rcases List.mem_cons.1 hy with rfl | hy
        · omega
        · exact hb.rng y hy)
      rw [List.length_cons] at h2
      omega
    obtain ⟨k, hk, rfl⟩ := List.mem_iff_getElem.1 hx
    exact nodup_take hb.nod hk (ahead_tg (ord_ahead hg) ht k hk rfl)
  · intro h
    have hl := hb.length
    rcases Nat.lt_or_ge (ordF (nxt g) g.n.toNat).length g.n.toNat with c | c
    · exact absurd (ord_stuck _ _) (not_stuck hg h hb c)
    · omega
theorem ord_round {g : XG} (hg : Good g) : (ordF (nxt g) g.n.toNat).length = g.n.toNat ↔ roundL g = [] := by
  rw [ord_iff hg, List.eq_nil_iff_forall_not_mem]
  exact forall_congr' (fun x => not_congr (mem_roundL hg).symm)
/-- How many edges lead to v from those left over. -/
def cnt (es : List (Int × Int)) (out : List Int) (v : Int) : Nat := es.countP fun e => decide (e.2 = v) && decide (e.1 ∉ out)
theorem cnt_le (es : List (Int × Int)) (out : List Int) (v : Int) : cnt es out v ≤ es.length := List.countP_le_length
theorem cnt_zero {g : XG} (hg : Good g) {out : List Int} {v : Int} : cnt g.es out v = 0 ↔ deg (nxt g) g.n.toNat out v = 0 := by
  rw [deg_zero hg]
  unfold cnt Edg
  rw [List.countP_eq_zero]
  constructor
  · intro h u hu
    apply Classical.byContradiction
    intro ho
    exact h _ hu (by simp [ho])
  · rintro h ⟨a, b⟩ he hd
    rw [Bool.and_eq_true, decide_eq_true_eq, decide_eq_true_eq] at hd
    obtain ⟨h1, h2⟩ := hd
    simp only at h1 h2
    subst h1
    exact h2 (h a he)
theorem cnt_step {es : List (Int × Int)} {out : List Int} {x : Int} (hx : x ∉ out) (v : Int) : cnt es out v = cnt es (out ++ [x]) v + (tgt es x).count v := by
  induction es with
  | nil => rfl
  | cons e es ih =>
    obtain ⟨a, b⟩ := e
    unfold cnt tgt at *
    simp only [List.countP_cons, List.filter_cons, ih]
    by_cases h1 : a = x
    · subst h1
      by_cases h2 : b = v
      · subst h2; simp [hx]; omega
      · simp [h2, List.count_cons]
    · by_cases h2 : b = v
      · subst h2
        by_cases h3 : a ∈ out <;> simp [h1, h3]
        omega
      · simp [h1, h2]
theorem cnt_snoc (es : List (Int × Int)) (a b v : Int) : cnt (es ++ [(a, b)]) [] v = cnt es [] v + if b = v then 1 else 0 := by
  unfold cnt
  rw [List.countP_append, List.countP_singleton]
  simp
/-- What the document keeps of a node. -/
def leftV (es : List (Int × Int)) (out : List Int) (v : Int) : Int := if v ∈ out then -1 else cnt es out v
/-- The same while the targets of x are counted down. -/
def leftM (es : List (Int × Int)) (out : List Int) (x : Int) (m : Nat) (v : Int) : Int := (if v ∈ out ++ [x] then -1 else (cnt es out v : Int)) - ((tgt es x).take m).count v
theorem leftM_zero (es : List (Int × Int)) (out : List Int) (x v : Int) : leftM es out x 0 v = if v = x then -1 else leftV es out v := by
  unfold leftM leftV
  by_cases e : v = x
  · subst e; simp
  · simp [e]
theorem leftM_next {es : List (Int × Int)} {out : List Int} {x : Int} {m : Nat} {y : Int} (hm : m < (tgt es x).length) (hy : (tgt es x)[m] = y) (v : Int) : leftM es out x (m + 1) v = if v = y then leftM es out x m y - 1 else leftM es out x m v := by
  unfold leftM
  rw [List.take_succ_eq_append_getElem hm, hy, List.count_append]
  by_cases e : v = y
  · subst e; simp; omega
  · have : List.count v [y] = 0 := by rw [List.count_singleton]; simp [Ne.symm e]
    rw [this, if_neg e]
    simp
theorem leftM_done {g : XG} (hg : Good g) {out : List Int} {x : Int} {m : Nat} (hb : Begun (nxt g) g.n.toNat out) (hx : x ∈ avail (nxt g) g.n.toNat out) (hm : (tgt g.es x).length ≤ m) (v : Int) : leftM g.es out x m v = leftV g.es (out ++ [x]) v := by
  obtain ⟨_, ho, hd⟩ := mem_avail.1 hx
  have hs := cnt_step (es := g.es) ho v
  unfold leftM leftV
  rw [List.take_of_length_le hm]
  by_cases e : v ∈ out ++ [x]
  · rw [if_pos e, if_pos e]
    have hz : (tgt g.es x).count v = 0 := by
      rw [List.count_eq_zero]
      intro hv
      have he : Edg g x v := mem_tgt.1 hv
      have hdv : deg (nxt g) g.n.toNat out v = 0 := by
        rcases List.mem_append.1 e with h | h
        · exact hb.free v h
        · simp at h; subst h; exact hd
      exact ho ((deg_zero hg).1 hdv x he)
    rw [hz]; simp
  · rw [if_neg e, if_neg e]
    omega
theorem leftV_zero {g : XG} (hg : Good g) {out : List Int} {v : Int} : leftV g.es out v = 0 ↔ v ∉ out ∧ deg (nxt g) g.n.toNat out v = 0 := by
  unfold leftV
  by_cases h : v ∈ out
  · simp [h]
  · simp only [if_neg h, ← cnt_zero hg]
    simp [h]
theorem leftV_bound (es : List (Int × Int)) (out : List Int) (v : Int) : -1 ≤ leftV es out v ∧ leftV es out v ≤ es.length := by
  have := cnt_le es out v
  unfold leftV; split <;> omega
theorem leftM_bound {es : List (Int × Int)} (out : List Int) (x : Int) (m : Nat) (v : Int) : -1 - (es.length : Int) ≤ leftM es out x m v ∧ leftM es out x m v ≤ es.length := by
  have h1 := cnt_le es out v
  have h2 : ((tgt es x).take m).count v ≤ ((tgt es x).take m).length := List.count_le_length
  rw [List.length_take] at h2
  have h3 := tgt_length es x
  unfold leftM; split <;> omega
theorem head_least {adj : Int → List Int} {n : Nat} {out rest : List Int} {x : Int} (h : avail adj n out = x :: rest) {k : Int} (hk : k ∈ avail adj n out) : x ≤ k := by
  have hr := avail_rising adj n out
  rw [h] at hr hk
  rcases List.mem_cons.1 hk with rfl | hk
  · exact Int.le_refl _
  · exact Int.le_of_lt ((List.pairwise_cons.1 hr).1 k hk)
end Go.Proofs.Ytpdfcffeinbcaaa
