/- PLAIN: the way along which the sum is greatest: where it begins, and who comes next. -/
import Derived.Test.YtpdfcffeinbcaaaH34
namespace Go.Proofs.Ytpdfcffeinbcaaa
open Go.RowKit
def nxStep (f : Int → Int) (s : Int × Int) (w : Int) : Int × Int := if s.1 < f w ∨ (f w = s.1 ∧ 0 ≤ s.2 ∧ w < s.2) then (f w, w) else s
/-- The greatest sum of those that are led to, and the least that has it; -1: none. -/
def nxS (f : Int → Int) (ws : List Int) : Int × Int := ws.foldl (nxStep f) (0, -1)
theorem nxS_nil (f : Int → Int) : nxS f [] = (0, -1) := rfl
theorem nxS_snoc (f : Int → Int) (ws : List Int) (w : Int) : nxS f (ws ++ [w]) = nxStep f (nxS f ws) w := by unfold nxS; rw [List.foldl_append]; rfl
/-- Who comes next. -/
structure IsNx (f : Int → Int) (ws : List Int) (who : Int) : Prop where
  none_ : maxs f 0 ws = 0 → who = -1
  some_ : maxs f 0 ws ≠ 0 → who ∈ ws ∧ f who = maxs f 0 ws ∧ ∀ w ∈ ws, f w = maxs f 0 ws → who ≤ w
theorem IsNx.uniq {f g : Int → Int} {a b : List Int} {x y : Int} (h : IsNx f a x) (k : IsNx g b y) (hm : ∀ z, z ∈ a ↔ z ∈ b) (hf : ∀ z ∈ a, f z = g z) : x = y := by
  have e := maxs_congr (c := 0) hm hf
  by_cases h0 : maxs f 0 a = 0
  · rw [h.none_ h0, k.none_ (e.symm.trans h0)]
  · obtain ⟨h1, h2, h3⟩ := h.some_ h0
    obtain ⟨k1, k2, k3⟩ := k.some_ (by rw [← e]; exact h0)
    have a1 := h3 y ((hm y).2 k1) (by rw [hf y ((hm y).2 k1), k2, e])
    have a2 := k3 x ((hm x).1 h1) (by rw [← hf x h1, h2, e])
    omega
theorem eq_concat {α : Type} (l : List α) (h : l ≠ []) : ∃ q v, l = q ++ [v] := by
  rcases List.eq_nil_or_concat l with e | ⟨q, v, e⟩
  · exact absurd e h
  · exact ⟨q, v, by rw [e, List.concat_eq_append]⟩
theorem nxS_is {f : Int → Int} : ∀ {ws : List Int}, (∀ w ∈ ws, 0 ≤ w) → (nxS f ws).1 = maxs f 0 ws ∧ IsNx f ws (nxS f ws).2 := by
  intro ws
  induction hn : ws.length generalizing ws with
  | zero =>
    intro _
    rw [List.eq_nil_of_length_eq_zero hn]
    exact ⟨rfl, ⟨fun _ => rfl, fun h => absurd rfl h⟩⟩
  | succ n ih =>
    intro hw
    obtain ⟨q, v, rfl⟩ := eq_concat ws (by intro e; rw [e] at hn; simp at hn)
    obtain ⟨h1, h2⟩ := ih (ws := q) (by simpa using hn) (fun w h => hw w (by simp [h]))
    have hv := hw v (by simp)
    have hg := maxs_ge f q 0
    rw [nxS_snoc]
    unfold nxStep
    rw [h1]
    by_cases c1 : maxs f 0 q < f v
    · rw [if_pos (.inl c1)]
      have hm : maxs f 0 (q ++ [v]) = f v := by rw [maxs_snoc]; omega
      refine ⟨hm.symm, ⟨fun h => by omega, fun _ => ⟨by simp, by rw [hm], fun w hw' he => ?_⟩⟩⟩
      rcases List.mem_append.1 hw' with h | h
      · have := hg.2 w h; omega
      · simp at h; omega
    · have hm : maxs f 0 (q ++ [v]) = maxs f 0 q := by rw [maxs_snoc]; omega
      by_cases c2 : f v = maxs f 0 q ∧ 0 ≤ (nxS f q).2 ∧ v < (nxS f q).2
      · rw [if_pos (.inr c2)]
        have hne : maxs f 0 q ≠ 0 := fun h => by have := h2.none_ h; omega
        obtain ⟨_, _, k3⟩ := h2.some_ hne
        refine ⟨by show f v = _; rw [hm]; exact c2.1, ⟨fun h => absurd (hm.symm.trans h) hne, fun _ => ⟨by simp, by rw [hm]; exact c2.1, fun w hw' he => ?_⟩⟩⟩
        rcases List.mem_append.1 hw' with h | h
        · have := k3 w h (by rw [← hm]; exact he); show v ≤ w; omega
        · simp at h; show v ≤ w; omega
      · rw [if_neg (by rintro (h | h); exact c1 h; exact c2 h)]
        refine ⟨by rw [hm]; exact h1, ⟨fun h => h2.none_ (hm.symm.trans h), fun h => ?_⟩⟩
        have hne : maxs f 0 q ≠ 0 := fun h' => h (hm.trans h')
        obtain ⟨k1, k2, k3⟩ := h2.some_ hne
        refine ⟨by simp [k1], by rw [hm]; exact k2, fun w hw' he => ?_⟩
        rw [hm] at he
        rcases List.mem_append.1 hw' with h | h
        · exact k3 w h he
        · simp at h
          subst h
          have h0 := hw _ (List.mem_append_left _ k1)
          apply Classical.byContradiction
          intro hc
          exact c2 ⟨he, h0, by omega⟩
/-- The first of the places below n at which f is greatest. -/
def fstF (f : Int → Int) : Nat → Int
  | 0 => -1
  | k + 1 => if fstF f k < 0 ∨ f (fstF f k) < f k then (k : Int) else fstF f k
theorem fstF_is (f : Int → Int) : ∀ n : Nat, 0 < n → (0 ≤ fstF f n ∧ fstF f n < (n : Int)) ∧ (∀ j : Nat, j < n → f j ≤ f (fstF f n)) ∧ ∀ j : Nat, (j : Int) < fstF f n → f j < f (fstF f n)
  | 0, h => by omega
  | 1, _ => by
    have e : fstF f 1 = 0 := by unfold fstF fstF; simp
    rw [e]
    refine ⟨by omega, fun j hj => ?_, fun j hj => by omega⟩
    have : j = 0 := by omega
    subst this; exact Int.le_refl _
  | k + 2, _ => by
    obtain ⟨h1, h2, h3⟩ := fstF_is f (k + 1) (by omega)
    have e : fstF f (k + 2) = if fstF f (k + 1) < 0 ∨ f (fstF f (k + 1)) < f ((k + 1 : Nat) : Int) then ((k + 1 : Nat) : Int) else fstF f (k + 1) := rfl
    rw [e]
    by_cases c : f (fstF f (k + 1)) < f ((k + 1 : Nat) : Int)
    · rw [if_pos (.inr c)]
      refine ⟨by omega, fun j hj => ?_, fun j hj => ?_⟩
      · rcases Nat.lt_or_ge j (k + 1) with c2 | c2
        · have := h2 j c2; omega
        · have : j = k + 1 := by omega
          subst this; exact Int.le_refl _
      · have := h2 j (by omega); omega
    · rw [if_neg (by rintro (h | h); omega; exact c h)]
      refine ⟨by omega, fun j hj => ?_, h3⟩
      rcases Nat.lt_or_ge j (k + 1) with c2 | c2
      · exact h2 j c2
      · have : j = k + 1 := by omega
        subst this; omega
/-- From a node on: each time who comes next. -/
def pathGo (nx : Int → Int) : Nat → Int → List Int
  | 0, at_ => [at_]
  | k + 1, at_ => if nx at_ < 0 then [at_] else at_ :: pathGo nx k (nx at_)
theorem pathGo_stop {nx : Int → Int} {a : Int} (h : nx a < 0) : ∀ k, pathGo nx k a = [a]
  | 0 => rfl
  | k + 1 => by rw [pathGo, if_pos h]
theorem pathGo_step {nx : Int → Int} {a : Int} {k : Nat} (h : ¬ nx a < 0) : pathGo nx (k + 1) a = a :: pathGo nx k (nx a) := by rw [pathGo, if_neg h]
/-- The sums of a graph without rounds. -/
def lonS (g : XG) (wt : Int → Int) : Int → Int := lonF wt (nxt g) wt (ordF (nxt g) g.n.toNat).reverse
def lonN (g : XG) (wt : Int → Int) (v : Int) : Int := (nxS (lonS g wt) (nxt g v)).2
theorem nodup_inj {l : List Int} (h : l.Nodup) {i j : Nat} (hi : i < l.length) (hj : j < l.length) (e : l[i] = l[j]) : i = j := by
  rcases Nat.lt_trichotomy i j with c | c | c
  · exact absurd e (List.pairwise_iff_getElem.1 h i j hi hj c)
  · exact c
  · exact absurd e.symm (List.pairwise_iff_getElem.1 h j i hj hi c)
theorem nodup_rev {l : List Int} (h : l.Nodup) : l.reverse.Nodup := List.pairwise_reverse.2 (h.imp (fun h => Ne.symm h))
/-- An order turned about is a way of reckoning. -/
theorem back_order {g : XG} (hg : Good g) (hl : (ordF (nxt g) g.n.toNat).length = g.n.toNat) : Back (nxt g) (ordF (nxt g) g.n.toNat).reverse := by
  have hb := ord_begun (nxt g) g.n.toNat
  have ha := ord_ahead hg
  obtain ⟨o, ho⟩ : ∃ o, o = ordF (nxt g) g.n.toNat := ⟨_, rfl⟩
  rw [← ho] at hb ha hl ⊢
  have hn := hg.n0
  refine ⟨nodup_rev hb.nod, fun k hk x hx => ?_⟩
  rw [List.length_reverse] at hk
  have hk2 : o.length - 1 - k < o.length := by omega
  rw [List.getElem_reverse] at hx
  have he : Edg g o[o.length - 1 - k] x := mem_nxt.1 hx
  have hxr := (hg.all _ he).2
  simp only at hxr
  have hxm : x ∈ o := by
    apply Classical.byContradiction
    intro hxo
    have h2 : (x :: o).length ≤ g.n.toNat := nodup_len _ _ (List.nodup_cons.2 ⟨hxo, hb.nod⟩) (fun y hy => by
      rcases List.mem_cons.1 hy with rfl | hy
      · omega
      · exact hb.rng y hy)
    rw [List.length_cons] at h2
    omega
  obtain ⟨j, hj, rfl⟩ := List.mem_iff_getElem.1 hxm
  have hin := ha j hj _ he
  obtain ⟨i, hi, hik⟩ := List.mem_take_iff_getElem.1 hin
  have hij : i = o.length - 1 - k := nodup_inj hb.nod _ _ hik
  refine List.mem_take_iff_getElem.2 ⟨o.length - 1 - j, by rw [List.length_reverse]; omega, ?_⟩
  rw [List.getElem_reverse]
  congr 1
  omega
theorem ord_all {g : XG} (hl : (ordF (nxt g) g.n.toNat).length = g.n.toNat) {x : Int} (hx : 0 ≤ x ∧ x < (g.n.toNat : Int)) : x ∈ ordF (nxt g) g.n.toNat := by
  have hb := ord_begun (nxt g) g.n.toNat
  apply Classical.byContradiction
  intro hxo
  have h2 : (x :: ordF (nxt g) g.n.toNat).length ≤ g.n.toNat := nodup_len _ _ (List.nodup_cons.2 ⟨hxo, hb.nod⟩) (fun y hy => by
    rcases List.mem_cons.1 hy with rfl | hy
    · exact hx
    · exact hb.rng y hy)
  rw [List.length_cons] at h2
  omega
theorem foldl_max_mem (l : List Int) : ∀ a, l.foldl max a = a ∨ l.foldl max a ∈ l := by
  induction l with
  | nil => intro a; simp
  | cons b l ih =>
    intro a
    rcases ih (max a b) with h | h
    · rw [List.foldl_cons, h]
      rcases Int.le_total a b with c | c
      · right; rw [Int.max_eq_right c]; simp
      · left; exact Int.max_eq_left c
    · right; rw [List.foldl_cons]; exact List.mem_cons_of_mem _ h
theorem foldl_max_ge (l : List Int) : ∀ a, a ≤ l.foldl max a ∧ ∀ x ∈ l, x ≤ l.foldl max a := by
  induction l with
  | nil => intro a; simp
  | cons b l ih =>
    intro a
    obtain ⟨h1, h2⟩ := ih (max a b)
    rw [List.foldl_cons]
    refine ⟨by omega, fun x hx => ?_⟩
    rcases List.mem_cons.1 hx with rfl | hx
    · omega
    · exact h2 x hx
theorem maxOf_mem {l : List Int} (h : 0 < l.length) : Lib.maxOf l ∈ l := by
  cases l with
  | nil => simp at h
  | cons a l =>
    show (a :: l).foldl max a ∈ a :: l
    rw [List.foldl_cons, Int.max_self]
    rcases foldl_max_mem l a with h | h
    · rw [h]; simp
    · exact List.mem_cons_of_mem _ h
theorem maxOf_ge {l : List Int} {x : Int} (h : x ∈ l) : x ≤ Lib.maxOf l := (foldl_max_ge l (l.headD 0)).2 x h
theorem idxOf_at {l : List Int} {x : Int} (h : x ∈ l) : ∃ k, Lib.idxOf l x = (k : Nat) ∧ ∃ hk : k < l.length, l[k] = x ∧ ∀ j (hj : j < l.length), j < k → l[j] ≠ x := by
  have hk : l.findIdx (· == x) < l.length := List.findIdx_lt_length_of_exists ⟨x, h, by simp⟩
  have h1 : l[l.findIdx (· == x)] = x := by simpa using List.findIdx_getElem (p := (· == x)) (w := hk)
  have h2 : ∀ j (hj : j < l.length), j < l.findIdx (· == x) → l[j] ≠ x := fun j hj hjk => by simpa using List.not_of_lt_findIdx hjk
  refine ⟨_, ?_, hk, h1, h2⟩
  have h3 := Lib.idxOf_hit l l.length (l.findIdx (· == x)) x hk (Nat.le_refl _) (by rw [List.getD_eq_getElem?_getD, List.getElem?_eq_getElem hk]; exact h1) (fun j hj => by rw [List.getD_eq_getElem?_getD, List.getElem?_eq_getElem (by omega)]; exact h2 j (by omega) hj)
  rwa [List.take_length] at h3
theorem nodes_get (f : Int → Int) (n k : Nat) (hk : k < ((nodes n).map f).length) : ((nodes n).map f)[k] = f k := by
  unfold nodes; simp
/-- The greatest, and where it stands first. -/
theorem first_max (f : Int → Int) {n : Nat} (hn : 0 < n) : Lib.maxOf ((nodes n).map f) = f (fstF f n) ∧ Lib.idxOf ((nodes n).map f) (Lib.maxOf ((nodes n).map f)) = fstF f n := by
  have hl : ((nodes n).map f).length = n := by rw [List.length_map, nodes_length]
  obtain ⟨h1, h2, h3⟩ := fstF_is f n hn
  obtain ⟨k, e1, hk, e2, e3⟩ := idxOf_at (maxOf_mem (l := (nodes n).map f) (by omega))
  rw [nodes_get] at e2
  obtain ⟨i, hi⟩ : ∃ i : Nat, fstF f n = (i : Int) := ⟨(fstF f n).toNat, by omega⟩
  rw [hi] at h1 h2 h3 ⊢
  have hin : i < n := by omega
  have hfi : f i ∈ (nodes n).map f := List.mem_map.2 ⟨(i : Int), mem_nodes.2 (by omega), rfl⟩
  have hm := maxOf_ge hfi
  have hki := h2 k (by omega)
  have heq : Lib.maxOf ((nodes n).map f) = f i := by omega
  refine ⟨heq, ?_⟩
  rw [e1]
  rcases Nat.lt_trichotomy k i with c | c | c
  · have := h3 k (by omega); omega
  · rw [c]
  · have := e3 i (by omega) c
    rw [nodes_get] at this
    omega
end Go.Proofs.Ytpdfcffeinbcaaa
