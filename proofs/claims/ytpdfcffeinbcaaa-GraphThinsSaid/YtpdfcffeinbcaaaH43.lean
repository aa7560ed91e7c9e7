/- PLAIN: Tarjan's way, and what it keeps. -/
import Derived.Test.YtpdfcffeinbcaaaH26
namespace Go.Proofs.Ytpdfcffeinbcaaa
open Go.RowKit
/-- What Tarjan's way holds: numbers, the least seen, the stack, how many, what is told. -/
structure TJ where
  idx : Int → Int
  low : Int → Int
  stk : List Int
  n : Nat
  out : List (List Int)
def setI (f : Int → Int) (v x : Int) : Int → Int := fun i => if i = v then x else f i
theorem setI_here (f : Int → Int) (v x : Int) : setI f v x v = x := if_pos rfl
theorem setI_far {f : Int → Int} {v x i : Int} (h : i ≠ v) : setI f v x i = f i := if_neg h
def tjPush (v : Int) (s : TJ) : TJ := { s with idx := setI s.idx v ((s.n : Int) + 1), low := setI s.low v ((s.n : Int) + 1), stk := s.stk ++ [v], n := s.n + 1 }
def tjLow (v x : Int) (s : TJ) : TJ := { s with low := setI s.low v (min (s.low v) x) }
def tjCut (v : Int) (l : List Int) : List Int := l.takeWhile fun x => decide (x ≠ v)
def tjFrom (v : Int) (l : List Int) : List Int := l.dropWhile fun x => decide (x ≠ v)
def tjPop (v : Int) (s : TJ) : TJ := { s with stk := tjCut v s.stk, out := s.out ++ [sortI (tjFrom v s.stk).reverse] }
def tjEnd (v : Int) (s : TJ) : TJ := if s.low v ≠ s.idx v then s else tjPop v s
def tjStep (go : Int → TJ → TJ) (v : Int) (s : TJ) (w : Int) : TJ := if s.idx w = 0 then tjLow v ((go w s).low w) (go w s) else if w ∈ s.stk then tjLow v (s.idx w) s else s
def tjVisit (adj : Int → List Int) : Nat → Int → TJ → TJ
  | 0, _, s => s
  | f + 1, v, s => tjEnd v ((adj v).foldl (tjStep (tjVisit adj f) v) (tjPush v s))
/-- b can be come to from a, or is a. -/
def Rc (g : XG) (a b : Int) : Prop := a = b ∨ TG g a b
theorem Rc.refl (g : XG) (a : Int) : Rc g a a := .inl rfl
theorem Rc.trans {g : XG} {a b c : Int} (h : Rc g a b) (k : Rc g b c) : Rc g a c := by
  rcases h with rfl | h
  · exact k
  · rcases k with rfl | k
    · exact .inr h
    · exact .inr (h.trans k)
theorem Rc.edge {g : XG} {a b : Int} (h : Edg g a b) : Rc g a b := .inr (.single h)
theorem same_rc {g : XG} {a b : Int} : Same g a b ↔ Rc g a b ∧ Rc g b a := by
  constructor
  · rintro (rfl | ⟨h, k⟩)
    · exact ⟨.refl _ _, .refl _ _⟩
    · exact ⟨.inr h, .inr k⟩
  · rintro ⟨h, k⟩
    rcases h with rfl | h
    · exact .refl _ _
    · rcases k with rfl | k
      · exact .refl _ _
      · exact .inr ⟨h, k⟩
/-- What is closed under edges is closed under ways. -/
theorem rc_closed {g : XG} {p : Int → Prop} (hp : ∀ x y, p x → Edg g x y → p y) {a b : Int} (h : Rc g a b) (ha : p a) : p b := by
  rcases h with rfl | h
  · exact ha
  · induction h with
    | single h => exact hp _ _ ha h
    | tail _ h ih => exact hp _ _ ih h
/-- How many are not yet come to. -/
def un (g : XG) (s : TJ) : Nat := (nodes g.n.toNat).countP fun x => decide (s.idx x = 0)
theorem countP_less {l : List Int} {p q : Int → Bool} (h : ∀ x ∈ l, p x = true → q x = true) {z : Int} (hz : z ∈ l) (h1 : q z = true) (h2 : p z = false) : l.countP p + 1 ≤ l.countP q := by
  induction l with
  | nil => cases hz
  | cons a l ih =>
    rw [List.countP_cons, List.countP_cons]
    have hm := List.countP_mono_left (p := p) (q := q) (l := l) (fun x hx => h x (List.mem_cons_of_mem _ hx))
    rcases List.mem_cons.1 hz with e | hz
    · subst e; rw [h1, h2]; simp; omega
    · have := ih (fun x hx => h x (List.mem_cons_of_mem _ hx)) hz
      cases hp : p a with
      | true => rw [h a List.mem_cons_self hp]; simp; omega
      | false => simp; omega
/-- What holds between any two steps; gs: the nodes that are gone into and not yet left. -/
structure TInv (g : XG) (gs : List Int) (s : TJ) : Prop where
  rise : s.stk.Pairwise fun a b => s.idx a < s.idx b
  vis : ∀ x, s.idx x ≠ 0 → (0 ≤ x ∧ x < g.n) ∧ 0 < s.idx x ∧ s.idx x ≤ s.n
  non : ∀ x ∈ s.stk, s.idx x ≠ 0
  gin : ∀ x ∈ gs, x ∈ s.stk
  blk : ∀ x y, s.idx x ≠ 0 → x ∉ gs → Edg g x y → s.idx y ≠ 0
  dn : ∀ x, s.idx x ≠ 0 → x ∉ s.stk → ∃ c ∈ s.out, x ∈ c
  cls : ∀ c ∈ s.out, c.Pairwise (· < ·) ∧ c ≠ [] ∧ ∀ x ∈ c, (s.idx x ≠ 0 ∧ x ∉ s.stk) ∧ ∀ y, y ∈ c ↔ (0 ≤ y ∧ y < g.n) ∧ Same g x y
  outn : s.out.Nodup
  clo : ∀ x y, (s.idx x ≠ 0 ∧ x ∉ s.stk) → Edg g x y → s.idx y ≠ 0 ∧ y ∉ s.stk
  up : ∀ y ∈ s.stk, ∃ a ∈ gs, s.idx a ≤ s.idx y ∧ Rc g y a
  dwn : ∀ a ∈ gs, ∀ y ∈ s.stk, s.idx a ≤ s.idx y → Rc g a y
  cnt : s.n + un g s ≤ g.n.toNat
/-- What going into v has done. -/
structure TPost (g : XG) (gs : List Int) (v : Int) (s t : TJ) : Prop where
  inv : TInv g gs t
  old : ∀ x, s.idx x ≠ 0 → t.idx x = s.idx x
  lowold : ∀ x, s.idx x ≠ 0 → t.low x = s.low x
  vis : t.idx v ≠ 0
  len : s.n ≤ t.n
  new : ∀ x, s.idx x = 0 → t.idx x ≠ 0 → (s.n : Int) < t.idx x
  seg : ∃ l, t.stk = s.stk ++ l ∧ (∀ x ∈ l, s.idx x = 0) ∧ (∀ x ∈ l, ∀ y ∈ s.stk, Edg g x y → t.low v ≤ s.idx y) ∧ (t.low v = t.idx v ∧ l = [] ∨ ∃ y ∈ s.stk, t.low v = s.idx y ∧ Rc g v y)
/-- What stands while v's edges are gone along: those to p are. -/
structure TL (g : XG) (gs : List Int) (v : Int) (s : TJ) (p : List Int) (t : TJ) : Prop where
  inv : TInv g (gs ++ [v]) t
  old : ∀ x, s.idx x ≠ 0 → t.idx x = s.idx x
  lowold : ∀ x, s.idx x ≠ 0 → t.low x = s.low x
  zero : s.idx v = 0
  snon : ∀ y ∈ s.stk, s.idx y ≠ 0
  at_ : t.idx v = (s.n : Int) + 1
  len : s.n ≤ t.n
  new : ∀ x, s.idx x = 0 → t.idx x ≠ 0 → (s.n : Int) < t.idx x
  seg : ∃ l, t.stk = s.stk ++ v :: l ∧ (∀ x ∈ l, s.idx x = 0) ∧ ∀ x ∈ l, ∀ y ∈ s.stk, Edg g x y → t.low v ≤ s.idx y
  gone : ∀ w ∈ p, t.idx w ≠ 0 ∧ (w ∈ s.stk → t.low v ≤ s.idx w)
  le : t.low v ≤ t.idx v
  lv : t.low v = t.idx v ∨ ∃ y ∈ s.stk, t.low v = s.idx y ∧ Rc g v y
section
variable {g : XG} {gs : List Int} {v : Int} {s t : TJ} {p : List Int}
theorem tl_start (h : TInv g gs s) (hv : s.idx v = 0) (hr : 0 ≤ v ∧ v < g.n) (hg : ∀ a ∈ gs, Rc g a v) : TL g gs v s [] (tjPush v s) := by
  have hvs : v ∉ s.stk := fun hm => h.non v hm hv
  have hne : ∀ x, s.idx x ≠ 0 → x ≠ v := fun x hx e => hx (by rw [e]; exact hv)
  have hi : ∀ x, x ≠ v → (tjPush v s).idx x = s.idx x := fun x hx => setI_far hx
  have hiv : (tjPush v s).idx v = (s.n : Int) + 1 := setI_here _ _ _
  have hst : (tjPush v s).stk = s.stk ++ [v] := rfl
  have hmem : ∀ x, x ∈ (tjPush v s).stk ↔ x ∈ s.stk ∨ x = v := fun x => by rw [hst]; simp
  have hk : ∀ x, (tjPush v s).idx x ≠ 0 ↔ s.idx x ≠ 0 ∨ x = v := fun x => by
    by_cases e : x = v
    · rw [e, hiv]; constructor
      · intro _; exact .inr rfl
      · intro _; omega
    · rw [hi x e]; simp [e]
  refine ⟨⟨?_, ?_, ?_, ?_, ?_, ?_, ?_, h.outn, ?_, ?_, ?_, ?_⟩, fun x hx => hi x (hne x hx), fun x hx => setI_far (hne x hx), hv, h.non, hiv, by show s.n ≤ s.n + 1; omega, ?_, ⟨[], rfl, by simp, by simp⟩, by simp, ?_, .inl ?_⟩
  · rw [hst, List.pairwise_append]
    refine ⟨h.rise.imp_of_mem (fun {a b} ha hb hab => by rw [hi a (hne a (h.non a ha)), hi b (hne b (h.non b hb))]; exact hab), by simp, fun a ha b hb => ?_⟩
    rw [List.mem_singleton.1 hb, hiv, hi a (hne a (h.non a ha))]
    have := (h.vis a (h.non a ha)).2.2
    omega
  · intro x hx
    rcases (hk x).1 hx with h1 | rfl
    · rw [hi x (hne x h1)]
      have := h.vis x h1
      exact ⟨this.1, this.2.1, by show s.idx x ≤ ((s.n + 1 : Nat) : Int); omega⟩
    · rw [hiv]; exact ⟨hr, by omega, by show (s.n : Int) + 1 ≤ ((s.n + 1 : Nat) : Int); omega⟩
  · intro x hx
    rcases (hmem x).1 hx with h1 | rfl
    · exact (hk x).2 (.inl (h.non x h1))
    · exact (hk x).2 (.inr rfl)
  · intro x hx
    rcases List.mem_append.1 hx with h1 | h1
    · exact (hmem x).2 (.inl (h.gin x h1))
    · exact (hmem x).2 (.inr (List.mem_singleton.1 h1))
  · intro x y hx hn he
    rcases (hk x).1 hx with h1 | rfl
    · exact (hk y).2 (.inl (h.blk x y h1 (fun hm => hn (List.mem_append_left _ hm)) he))
    · exact absurd (List.mem_append_right _ (List.mem_singleton.2 rfl)) hn
  · intro x hx hn
    rcases (hk x).1 hx with h1 | rfl
    · exact h.dn x h1 (fun hm => hn ((hmem x).2 (.inl hm)))
    · exact absurd ((hmem x).2 (.inr rfl)) hn
  · intro c hc
    obtain ⟨h1, h2, h3⟩ := h.cls c hc
    refine ⟨h1, h2, fun x hx => ?_⟩
    obtain ⟨⟨h4, h5⟩, h6⟩ := h3 x hx
    exact ⟨⟨(hk x).2 (.inl h4), fun hm => ((hmem x).1 hm).elim h5 (hne x h4)⟩, h6⟩
  · rintro x y ⟨hx, hn⟩ he
    rcases (hk x).1 hx with h1 | rfl
    · obtain ⟨h2, h3⟩ := h.clo x y ⟨h1, fun hm => hn ((hmem x).2 (.inl hm))⟩ he
      exact ⟨(hk y).2 (.inl h2), fun hm => ((hmem y).1 hm).elim h3 (hne y h2)⟩
    · exact absurd ((hmem x).2 (.inr rfl)) hn
  · intro y hy
    rcases (hmem y).1 hy with h1 | rfl
    · obtain ⟨a, ha, h2, h3⟩ := h.up y h1
      exact ⟨a, List.mem_append_left _ ha, by rw [hi a (hne a (h.non a (h.gin a ha))), hi y (hne y (h.non y h1))]; exact h2, h3⟩
    · exact ⟨y, by simp, Int.le_refl _, .refl _ _⟩
  · intro a ha0 y hy hle
    rcases List.mem_append.1 ha0 with ha | ha
    · rcases (hmem y).1 hy with h1 | h1
      · rw [hi a (hne a (h.non a (h.gin a ha))), hi y (hne y (h.non y h1))] at hle
        exact h.dwn a ha y h1 hle
      · rw [h1]; exact hg a ha
    · rw [List.mem_singleton.1 ha] at hle ⊢
      rcases (hmem y).1 hy with h1 | rfl
      · rw [hiv, hi y (hne y (h.non y h1))] at hle
        have := (h.vis y (h.non y h1)).2.2
        omega
      · exact .refl _ _
  · have h1 := h.cnt
    have h2 : un g (tjPush v s) + 1 ≤ un g s := countP_less (fun x _ hx => by
      rw [decide_eq_true_eq] at hx ⊢
      apply Classical.byContradiction
      intro hc
      exact (hk x).2 (.inl hc) hx) (z := v) (mem_nodes.2 (by omega)) (by simpa using hv) (by rw [decide_eq_false_iff_not, hiv]; omega)
    show s.n + 1 + un g (tjPush v s) ≤ _
    omega
  · intro x hx hn
    rcases (hk x).1 hn with h1 | rfl
    · exact absurd hx h1
    · rw [hiv]; omega
  · show setI s.low v ((s.n : Int) + 1) v ≤ _
    rw [setI_here, hiv]; exact Int.le_refl _
  · show setI s.low v ((s.n : Int) + 1) v = _
    rw [setI_here, hiv]
/-- Only v's least changes. -/
theorem TInv.lowered {x : Int} (h : TInv g gs t) : TInv g gs (tjLow v x t) := ⟨h.rise, h.vis, h.non, h.gin, h.blk, h.dn, h.cls, h.outn, h.clo, h.up, h.dwn, h.cnt⟩
theorem tl_step {f : Nat} {adj : Int → List Int} (h : TL g gs v s p t) {w : Int} (he : Edg g v w) (ih : t.idx w = 0 → TPost g (gs ++ [v]) w t (tjVisit adj f w t)) : TL g gs v s (p ++ [w]) (tjStep (tjVisit adj f) v t w) := by
  have hvt : t.idx v ≠ 0 := by have := h.at_; omega
  unfold tjStep
  by_cases hw : t.idx w = 0
  · rw [if_pos hw]
    have q := ih hw
    obtain ⟨u, hu⟩ : ∃ u, u = tjVisit adj f w t := ⟨_, rfl⟩
    rw [← hu] at q ⊢
    have hto : ∀ x, s.idx x ≠ 0 → t.idx x ≠ 0 := fun x hx => by rw [h.old x hx]; exact hx
    have hvs : s.idx v = 0 := h.zero
    have hnv : ∀ x, s.idx x ≠ 0 → x ≠ v := fun x hx e => hx (by rw [e]; exact hvs)
    have hlv : u.low v = t.low v := q.lowold v hvt
    have hiv : u.idx v = t.idx v := q.old v hvt
    have hlow : (tjLow v (u.low w) u).low v = min (t.low v) (u.low w) := by rw [← hlv]; exact setI_here _ _ _
    obtain ⟨l, hl1, hl2, hl3⟩ := h.seg
    obtain ⟨m, hm1, hm2, hm3, hm4⟩ := q.seg
    have hws : w ∉ s.stk := fun hm => h.inv.non w (by rw [hl1]; simp [hm]) hw
    refine ⟨q.inv.lowered, fun x hx => (q.old x (hto x hx)).trans (h.old x hx), fun x hx => ?_, hvs, h.snon, by show u.idx v = _; rw [hiv, h.at_], Nat.le_trans h.len q.len, fun x hx hx2 => ?_, ⟨l ++ m, ?_, ?_, ?_⟩, ?_, ?_, ?_⟩
    · show setI u.low v _ x = _
      rw [setI_far (hnv x hx), q.lowold x (hto x hx), h.lowold x hx]
    · by_cases e : t.idx x = 0
      · have := q.new x e hx2; have := h.len; show (s.n : Int) < u.idx x; omega
      · show (s.n : Int) < u.idx x
        rw [q.old x e]; exact h.new x hx e
    · show u.stk = _
      rw [hm1, hl1]; simp
    · intro x hx
      rcases List.mem_append.1 hx with h1 | h1
      · exact hl2 x h1
      · apply Classical.byContradiction
        intro hc
        exact hto x hc (hm2 x h1)
    · intro x hx y hy hxy
      rw [hlow]
      rcases List.mem_append.1 hx with h1 | h1
      · exact Int.le_trans (Int.min_le_left _ _) (hl3 x h1 y hy hxy)
      · have := hm3 x h1 y (by rw [hl1]; simp [hy]) hxy
        rw [h.old y (h.snon y hy)] at this
        exact Int.le_trans (Int.min_le_right _ _) this
    · intro z hz
      rcases List.mem_append.1 hz with h1 | h1
      · obtain ⟨h2, h3⟩ := h.gone z h1
        refine ⟨by show u.idx z ≠ 0; rw [q.old z h2]; exact h2, fun hzs => ?_⟩
        rw [hlow]
        exact Int.le_trans (Int.min_le_left _ _) (h3 hzs)
      · rw [List.mem_singleton.1 h1]
        exact ⟨q.vis, fun hm => absurd hm hws⟩
    · show (tjLow v (u.low w) u).low v ≤ u.idx v
      rw [hlow, hiv]
      have := h.le
      omega
    · show (tjLow v (u.low w) u).low v = u.idx v ∨ ∃ y ∈ s.stk, (tjLow v (u.low w) u).low v = s.idx y ∧ Rc g v y
      rw [hlow, hiv]
      have hle := h.le
      rcases hm4 with ⟨h5, h6⟩ | ⟨y, hy, h5, h6⟩
      · have hnw := q.new w hw (by exact q.vis)
        have hvn := (h.inv.vis v hvt).2.2
        rw [show min (t.low v) (u.low w) = t.low v by omega]
        exact h.lv
      · rcases Int.le_total (t.low v) (u.low w) with hc | hc
        · rw [show min (t.low v) (u.low w) = t.low v by omega]
          exact h.lv
        · rw [show min (t.low v) (u.low w) = u.low w by omega]
          have hy2 := hy
          rw [hl1] at hy2
          rcases List.mem_append.1 hy2 with h7 | h7
          · right
            exact ⟨y, h7, by rw [h5, h.old y (h.snon y h7)], (Rc.edge he).trans h6⟩
          · left
            have hyv : t.idx v ≤ t.idx y := by
              rcases List.mem_cons.1 h7 with rfl | h8
              · exact Int.le_refl _
              · have := h.inv.rise
                rw [hl1] at this
                have := (List.pairwise_cons.1 (List.pairwise_append.1 this).2.1).1 y h8
                omega
            omega
  · rw [if_neg hw]
    obtain ⟨l, hl1, hl2, hl3⟩ := h.seg
    by_cases hws : w ∈ t.stk
    · rw [if_pos hws]
      have hvs : s.idx v = 0 := h.zero
      have hnv : ∀ x, s.idx x ≠ 0 → x ≠ v := fun x hx e => hx (by rw [e]; exact hvs)
      have hlow : (tjLow v (t.idx w) t).low v = min (t.low v) (t.idx w) := setI_here _ _ _
      refine ⟨h.inv.lowered, h.old, fun x hx => ?_, hvs, h.snon, h.at_, h.len, h.new, ⟨l, hl1, hl2, fun x hx y hy hxy => ?_⟩, fun z hz => ?_, ?_, ?_⟩
      · show setI t.low v _ x = _
        rw [setI_far (hnv x hx), h.lowold x hx]
      · rw [hlow]
        exact Int.le_trans (Int.min_le_left _ _) (hl3 x hx y hy hxy)
      · rcases List.mem_append.1 hz with h1 | h1
        · obtain ⟨h2, h3⟩ := h.gone z h1
          exact ⟨h2, fun hzs => by rw [hlow]; exact Int.le_trans (Int.min_le_left _ _) (h3 hzs)⟩
        · rw [List.mem_singleton.1 h1]
          exact ⟨hw, fun hzs => by rw [hlow, ← h.old w (h.snon w hzs)]; exact Int.min_le_right _ _⟩
      · show (tjLow v (t.idx w) t).low v ≤ t.idx v
        rw [hlow]
        exact Int.le_trans (Int.min_le_left _ _) h.le
      · show (tjLow v (t.idx w) t).low v = t.idx v ∨ ∃ y ∈ s.stk, (tjLow v (t.idx w) t).low v = s.idx y ∧ Rc g v y
        rw [hlow]
        have hle := h.le
        rcases Int.le_total (t.low v) (t.idx w) with hc | hc
        · rw [show min (t.low v) (t.idx w) = t.low v by omega]
          exact h.lv
        · rw [show min (t.low v) (t.idx w) = t.idx w by omega]
          have hy2 := hws
          rw [hl1] at hy2
          rcases List.mem_append.1 hy2 with h7 | h7
          · exact .inr ⟨w, h7, h.old w (h.snon w h7), Rc.edge he⟩
          · left
            have hyv : t.idx v ≤ t.idx w := by
              rcases List.mem_cons.1 h7 with e | h8
              · rw [e]; exact Int.le_refl _
              · have := h.inv.rise
                rw [hl1] at this
                have := (List.pairwise_cons.1 (List.pairwise_append.1 this).2.1).1 w h8
                omega
            omega
    · rw [if_neg hws]
      refine ⟨h.inv, h.old, h.lowold, h.zero, h.snon, h.at_, h.len, h.new, ⟨l, hl1, hl2, hl3⟩, fun z hz => ?_, h.le, h.lv⟩
      rcases List.mem_append.1 hz with h1 | h1
      · exact h.gone z h1
      · rw [List.mem_singleton.1 h1]
        exact ⟨hw, fun hm => absurd (by rw [hl1]; simp [hm]) hws⟩
theorem tj_cut {a l : List Int} {v : Int} (h : v ∉ a) : tjCut v (a ++ v :: l) = a ∧ tjFrom v (a ++ v :: l) = v :: l := by
  unfold tjCut tjFrom
  have h1 : ∀ x ∈ a, decide (x ≠ v) = true := fun x hx => by
    rw [decide_eq_true_eq]; intro e; exact h (by rw [← e]; exact hx)
  refine ⟨?_, ?_⟩
  · rw [List.takeWhile_append_of_pos h1]; simp
  · rw [List.dropWhile_append_of_pos h1]; simp
theorem tl_end {adj : Int → List Int} (hs : TInv g gs s) (h : TL g gs v s (adj v) t) (ha : ∀ w, Edg g v w → w ∈ adj v) : TPost g gs v s (tjEnd v t) := by
  obtain ⟨l, hl1, hl2, hl3⟩ := h.seg
  have hvt : t.idx v ≠ 0 := by have := h.at_; omega
  have hgs : ∀ a ∈ gs, s.idx a ≠ 0 := fun a h1 => hs.non a (hs.gin a h1)
  have hrise := h.inv.rise
  rw [hl1, List.pairwise_append, List.pairwise_cons] at hrise
  obtain ⟨hr1, ⟨hr2, hr3⟩, hr4⟩ := hrise
  have hlv : ∀ x ∈ l, x ≠ v := fun x hx e => by have := hr2 x hx; rw [e] at this; omega
  have hvs : v ∉ s.stk := fun hm => hs.non v hm h.zero
  have hin : ∀ x, x ∈ t.stk ↔ x ∈ s.stk ∨ x ∈ v :: l := fun x => by rw [hl1, List.mem_append]
  have hC0 : ∀ x ∈ v :: l, s.idx x = 0 := fun x hx => by
    rcases List.mem_cons.1 hx with e | h1
    · rw [e]; exact h.zero
    · exact hl2 x h1
  have hCg : ∀ x ∈ v :: l, x ∉ gs := fun x hx hm => hgs x hm (hC0 x hx)
  have hCs : ∀ x ∈ v :: l, x ∉ s.stk := fun x hx hm => hs.non x hm (hC0 x hx)
  have hback : ∀ x ∈ v :: l, ∀ y ∈ s.stk, Edg g x y → t.low v ≤ s.idx y := fun x hx y hy he => by
    rcases List.mem_cons.1 hx with e | h1
    · subst e; exact (h.gone y (ha y he)).2 hy
    · exact hl3 x h1 y hy he
  have hblk : ∀ x y, t.idx x ≠ 0 → x ∉ gs → Edg g x y → t.idx y ≠ 0 := fun x y hx hn he => by
    by_cases e : x = v
    · subst e; exact (h.gone y (ha y he)).1
    · exact h.inv.blk x y hx (fun hm => by rcases List.mem_append.1 hm with h1 | h1; exact hn h1; exact e (List.mem_singleton.1 h1)) he
  unfold tjEnd
  by_cases hq : t.low v ≠ t.idx v
  · rw [if_pos hq]
    obtain ⟨y0, hy0, hy1, hy2⟩ := h.lv.resolve_left hq
    have hle := h.le
    refine ⟨⟨h.inv.rise, h.inv.vis, h.inv.non, fun x hx => h.inv.gin x (List.mem_append_left _ hx), hblk, h.inv.dn, h.inv.cls, h.inv.outn, h.inv.clo, fun y hy => ?_, fun a h1 y hy hl => h.inv.dwn a (List.mem_append_left _ h1) y hy hl, h.inv.cnt⟩, h.old, h.lowold, hvt, h.len, h.new, ⟨v :: l, hl1, hC0, hback, .inr ⟨y0, hy0, hy1, hy2⟩⟩⟩
    obtain ⟨a, h1, h2, h3⟩ := h.inv.up y hy
    rcases List.mem_append.1 h1 with h4 | h4
    · exact ⟨a, h4, h2, h3⟩
    · rw [List.mem_singleton.1 h4] at h2 h3
      obtain ⟨b, h5, h6, h7⟩ := hs.up y0 hy0
      exact ⟨b, h5, by rw [h.old b (hgs b h5)]; omega, (h3.trans hy2).trans h7⟩
  · rw [if_neg hq]
    have heq : t.low v = t.idx v := by
      apply Classical.byContradiction
      intro hc
      exact hq hc
    have hF1 : ∀ x ∈ v :: l, ∀ y, Edg g x y → y ∈ v :: l ∨ (t.idx y ≠ 0 ∧ y ∉ t.stk) := fun x hx y he => by
      have hy : t.idx y ≠ 0 := hblk x y (h.inv.non x ((hin x).2 (.inr hx))) (hCg x hx) he
      by_cases hm : y ∈ t.stk
      · rcases (hin y).1 hm with h1 | h1
        · have h2 := hback x hx y h1 he
          have h3 := (hs.vis y (hs.non y h1)).2.2
          have h4 := h.at_
          omega
        · exact .inl h1
      · exact .inr ⟨hy, hm⟩
    have hF2 : ∀ x y, (x ∈ v :: l ∨ (t.idx x ≠ 0 ∧ x ∉ t.stk)) → Edg g x y → y ∈ v :: l ∨ (t.idx y ≠ 0 ∧ y ∉ t.stk) := fun x y hx he => by
      rcases hx with h1 | h1
      · exact hF1 x h1 y he
      · exact .inr (h.inv.clo x y h1 he)
    have hF3 : ∀ x ∈ v :: l, Same g v x := fun x hx => by
      refine same_rc.2 ⟨h.inv.dwn v (by simp) x ((hin x).2 (.inr hx)) ?_, ?_⟩
      · rcases List.mem_cons.1 hx with e | h1
        · rw [e]; exact Int.le_refl _
        · have := hr2 x h1; omega
      · obtain ⟨a, h1, h2, h3⟩ := h.inv.up x ((hin x).2 (.inr hx))
        rcases List.mem_append.1 h1 with h4 | h4
        · rcases rc_closed hF2 h3 (.inl hx) with h5 | h5
          · exact absurd h4 (hCg a h5)
          · exact absurd ((hin a).2 (.inl (hs.gin a h4))) h5.2
        · rw [List.mem_singleton.1 h4] at h3; exact h3
    have hF4 : ∀ y, Same g v y → y ∈ v :: l := fun y hy => by
      obtain ⟨h1, h2⟩ := same_rc.1 hy
      rcases rc_closed hF2 h1 (.inl (List.mem_cons_self)) with h3 | h3
      · exact h3
      · have := rc_closed (p := fun x => t.idx x ≠ 0 ∧ x ∉ t.stk) (fun x y h4 he => h.inv.clo x y h4 he) h2 h3
        exact absurd ((hin v).2 (.inr List.mem_cons_self)) this.2
    obtain ⟨hc1, hc2⟩ := tj_cut (l := l) hvs
    have hstk : (tjPop v t).stk = s.stk := by show tjCut v t.stk = _; rw [hl1, hc1]
    have hout : (tjPop v t).out = t.out ++ [sortI (v :: l).reverse] := by show t.out ++ [sortI (tjFrom v t.stk).reverse] = _; rw [hl1, hc2]
    have hnod : (v :: l).Nodup := List.nodup_cons.2 ⟨fun hm => hlv v hm rfl, hr3.imp (fun {a b} hab e => by rw [e] at hab; omega)⟩
    have hmc : ∀ y, y ∈ sortI (v :: l).reverse ↔ y ∈ v :: l := fun y => by rw [(sortI_perm _).mem_iff, List.mem_reverse]
    have hts : ∀ y ∈ s.stk, t.idx y = s.idx y := fun y hy => h.old y (hs.non y hy)
    refine ⟨⟨?_, h.inv.vis, ?_, ?_, hblk, ?_, ?_, ?_, ?_, ?_, ?_, h.inv.cnt⟩, h.old, h.lowold, hvt, h.len, h.new, ⟨[], by rw [hstk]; simp, by simp, by simp, .inl ⟨heq, rfl⟩⟩⟩
    · rw [hstk]; exact hr1
    · rw [hstk]; intro x hx; show t.idx x ≠ 0; rw [hts x hx]; exact hs.non x hx
    · rw [hstk]; exact hs.gin
    · rw [hstk, hout]
      intro x hx hn
      by_cases hm : x ∈ t.stk
      · have := ((hin x).1 hm).resolve_left hn
        exact ⟨_, by simp, (hmc x).2 this⟩
      · obtain ⟨c, h1, h2⟩ := h.inv.dn x hx hm
        exact ⟨c, List.mem_append_left _ h1, h2⟩
    · rw [hstk, hout]
      intro c hc
      rcases List.mem_append.1 hc with h1 | h1
      · obtain ⟨h2, h3, h4⟩ := h.inv.cls c h1
        exact ⟨h2, h3, fun x hx => ⟨⟨(h4 x hx).1.1, fun hm => (h4 x hx).1.2 ((hin x).2 (.inl hm))⟩, (h4 x hx).2⟩⟩
      · rw [List.mem_singleton.1 h1]
        refine ⟨sort_rising (List.pairwise_reverse.2 (hnod.imp (fun h => Ne.symm h))), fun e => ?_, fun x hx => ?_⟩
        · have := (hmc v).2 List.mem_cons_self
          rw [e] at this; cases this
        · have hx2 := (hmc x).1 hx
          refine ⟨⟨h.inv.non x ((hin x).2 (.inr hx2)), hCs x hx2⟩, fun y => ?_⟩
          rw [hmc]
          constructor
          · intro hy
            exact ⟨(h.inv.vis y (h.inv.non y ((hin y).2 (.inr hy)))).1, (hF3 x hx2).symm.trans (hF3 y hy)⟩
          · rintro ⟨_, hy⟩
            exact hF4 y ((hF3 x hx2).trans hy)
    · rw [hout]
      refine List.nodup_append.2 ⟨h.inv.outn, by simp, fun a h1 b h2 e => ?_⟩
      rw [List.mem_singleton.1 h2] at e
      have h3 := (h.inv.cls a h1).2.2 v (by rw [e]; exact (hmc v).2 List.mem_cons_self)
      exact h3.1.2 ((hin v).2 (.inr List.mem_cons_self))
    · rw [hstk]
      rintro x y ⟨hx, hn⟩ he
      have hxx : x ∈ v :: l ∨ (t.idx x ≠ 0 ∧ x ∉ t.stk) := by
        by_cases hm : x ∈ t.stk
        · exact .inl (((hin x).1 hm).resolve_left hn)
        · exact .inr ⟨hx, hm⟩
      rcases hF2 x y hxx he with h1 | h1
      · exact ⟨h.inv.non y ((hin y).2 (.inr h1)), hCs y h1⟩
      · exact ⟨h1.1, fun hm => h1.2 ((hin y).2 (.inl hm))⟩
    · rw [hstk]
      intro y hy
      obtain ⟨a, h1, h2, h3⟩ := hs.up y hy
      exact ⟨a, h1, by show t.idx a ≤ t.idx y; rw [hts y hy, hts a (hs.gin a h1)]; exact h2, h3⟩
    · rw [hstk]
      intro a h1 y hy hle
      exact h.inv.dwn a (List.mem_append_left _ h1) y ((hin y).2 (.inl hy)) hle
end
theorem un_mono {g : XG} {s t : TJ} (h : ∀ x, s.idx x ≠ 0 → t.idx x ≠ 0) : un g t ≤ un g s :=
  List.countP_mono_left (fun x _ hx => by
    rw [decide_eq_true_eq] at hx ⊢
    apply Classical.byContradiction
    intro hc
    exact h x hc hx)
theorem un_pos {g : XG} {s : TJ} {v : Int} (hr : 0 ≤ v ∧ v < g.n) (hv : s.idx v = 0) : 0 < un g s :=
  List.countP_pos_iff.2 ⟨v, mem_nodes.2 (by omega), by simpa using hv⟩
theorem TPost.kept {g : XG} {gs : List Int} {v : Int} {s t : TJ} (h : TPost g gs v s t) : ∀ x, s.idx x ≠ 0 → t.idx x ≠ 0 := fun x hx => by rw [h.old x hx]; exact hx
theorem TL.calls {g : XG} {gs : List Int} {v w : Int} {s t : TJ} {p : List Int} (hs : TInv g gs s) (h : TL g gs v s p t) (he : Edg g v w) : ∀ a ∈ gs ++ [v], Rc g a w := fun a ha => by
  refine (h.inv.dwn a ha v (h.inv.gin v (by simp)) ?_).trans (.edge he)
  rcases List.mem_append.1 ha with h1 | h1
  · have h2 := hs.non a (hs.gin a h1)
    have h3 := (hs.vis a h2).2.2
    have h4 := h.at_
    rw [h.old a h2]; omega
  · rw [List.mem_singleton.1 h1]; exact Int.le_refl _
/-- Going into a node keeps what it must. -/
theorem tj_visit {g : XG} (hg : Good g) {adj : Int → List Int} (ha : ∀ v w, w ∈ adj v ↔ Edg g v w) : ∀ (f : Nat) (gs : List Int) (v : Int) (s : TJ), TInv g gs s → s.idx v = 0 → (0 ≤ v ∧ v < g.n) → (∀ a ∈ gs, Rc g a v) → un g s ≤ f → TPost g gs v s (tjVisit adj f v s)
  | 0, _, v, s, _, hv, hr, _, hf => by
    have := un_pos hr hv
    omega
  | f + 1, gs, v, s, hs, hv, hr, hc, hf => by
    have h0 := tl_start hs hv hr hc
    have hun : un g (tjPush v s) ≤ f := by
      have h1 : un g (tjPush v s) + 1 ≤ un g s := countP_less (fun x _ hx => by
        rw [decide_eq_true_eq] at hx ⊢
        apply Classical.byContradiction
        intro hc
        exact (by rw [h0.old x hc]; exact hc : (tjPush v s).idx x ≠ 0) hx) (z := v) (mem_nodes.2 (by omega)) (by simpa using hv) (by rw [decide_eq_false_iff_not, h0.at_]; omega)
      omega
    have key : ∀ (q p : List Int) (t : TJ), p ++ q = adj v → TL g gs v s p t → un g t ≤ f → TL g gs v s (adj v) (q.foldl (tjStep (tjVisit adj f) v) t) := by
      intro q
      induction q with
      | nil => intro p t hp ht _; rw [List.append_nil] at hp; rw [← hp]; exact ht
      | cons w q ih =>
        intro p t hp ht hu
        have he : Edg g v w := (ha v w).1 (by rw [← hp]; simp)
        have hw := (hg.all _ he).2
        have hst := tl_step (f := f) (adj := adj) ht he (fun h => tj_visit hg ha f (gs ++ [v]) w t ht.inv h hw (ht.calls hs he) hu)
        refine ih (p ++ [w]) _ (by rw [← hp]; simp) hst ?_
        refine Nat.le_trans (un_mono (fun x hx => ?_)) hu
        unfold tjStep
        by_cases h1 : t.idx w = 0
        · rw [if_pos h1]
          exact (tj_visit hg ha f (gs ++ [v]) w t ht.inv h1 hw (ht.calls hs he) hu).kept x hx
        · rw [if_neg h1]
          split <;> exact hx
    exact tl_end hs (key (adj v) [] _ rfl h0 hun) (fun w hw => (ha v w).2 hw)
/-- From nothing, over all nodes. -/
def tj0 : TJ := ⟨fun _ => 0, fun _ => 0, [], 0, []⟩
def tjOver (adj : Int → List Int) (f : Nat) (s : TJ) (v : Int) : TJ := if s.idx v = 0 then tjVisit adj f v s else s
def tjAll (adj : Int → List Int) (f : Nat) (k : Nat) : TJ := (nodes k).foldl (tjOver adj f) tj0
theorem tjAll_succ (adj : Int → List Int) (f k : Nat) : tjAll adj f (k + 1) = tjOver adj f (tjAll adj f k) k := by unfold tjAll; rw [nodes_succ, List.foldl_append]; rfl
theorem un_le (g : XG) (s : TJ) : un g s ≤ g.n.toNat := by
  unfold un
  have := List.countP_le_length (p := fun x => decide (s.idx x = 0)) (l := nodes g.n.toNat)
  rwa [nodes_length] at this
theorem tj0_inv (g : XG) : TInv g [] tj0 := ⟨.nil, fun x h => absurd rfl h, by simp [tj0], by simp, fun x y h => absurd rfl h, fun x h => absurd rfl h, by simp [tj0], .nil, fun x y h => absurd rfl h.1, by simp [tj0], by simp, by show 0 + un g tj0 ≤ _; have := un_le g tj0; omega⟩
theorem tj_all {g : XG} (hg : Good g) {adj : Int → List Int} (ha : ∀ v w, w ∈ adj v ↔ Edg g v w) {f : Nat} (hf : g.n.toNat ≤ f) : ∀ k : Nat, k ≤ g.n.toNat → TInv g [] (tjAll adj f k) ∧ ∀ x : Int, 0 ≤ x ∧ x < (k : Int) → (tjAll adj f k).idx x ≠ 0
  | 0, _ => ⟨tj0_inv g, fun x h => by omega⟩
  | k + 1, hk => by
    obtain ⟨h1, h2⟩ := tj_all hg ha hf k (by omega)
    rw [tjAll_succ]
    unfold tjOver
    by_cases h : (tjAll adj f k).idx k = 0
    · rw [if_pos h]
      have hp := tj_visit hg ha f [] k _ h1 h (by omega) (by simp) (Nat.le_trans (un_le g _) hf)
      refine ⟨hp.inv, fun x hx => ?_⟩
      by_cases e : x = (k : Int)
      · rw [e]; exact hp.vis
      · exact hp.kept x (h2 x (by omega))
    · rw [if_neg h]
      refine ⟨h1, fun x hx => ?_⟩
      by_cases e : x = (k : Int)
      · rw [e]; exact h
      · exact h2 x (by omega)
/-- With no node gone into the stack is empty. -/
theorem TInv.bare {g : XG} {s : TJ} (h : TInv g [] s) : s.stk = [] := by
  cases hs : s.stk with
  | nil => rfl
  | cons a l =>
    obtain ⟨b, hb, _⟩ := h.up a (by rw [hs]; simp)
    cases hb
/-- What is told at last: the components. -/
theorem tj_out {g : XG} (hg : Good g) {adj : Int → List Int} (ha : ∀ v w, w ∈ adj v ↔ Edg g v w) {f : Nat} (hf : g.n.toNat ≤ f) {c : List Int} : c ∈ (tjAll adj f g.n.toNat).out ↔ c ∈ compsF g := by
  obtain ⟨h1, h2⟩ := tj_all hg ha hf g.n.toNat (Nat.le_refl _)
  have hbare := h1.bare
  have hn := hg.n0
  have hall : ∀ c ∈ (tjAll adj f g.n.toNat).out, ∃ i : Nat, i < g.n.toNat ∧ ¬ Done g i i ∧ c = compRow g i := fun c hc => by
    obtain ⟨h3, h4, h5⟩ := h1.cls c hc
    cases c with
    | nil => exact absurd rfl h4
    | cons a l =>
      obtain ⟨h6, h7⟩ := h5 a List.mem_cons_self
      have hr := (h1.vis a h6.1).1
      obtain ⟨i, rfl⟩ : ∃ i : Nat, a = i := ⟨a.toNat, by omega⟩
      refine ⟨i, by omega, ?_, ?_⟩
      · rintro ⟨m, hm, hs⟩
        have := (h7 m).2 ⟨by omega, hs.symm⟩
        rcases List.mem_cons.1 this with e | e
        · omega
        · have := (List.pairwise_cons.1 h3).1 _ e; omega
      · refine rising_ext h3 (compRow_rising g i) (fun x => ?_)
        rw [h7, mem_compRow]
        constructor
        · rintro ⟨h8, h9⟩; exact ⟨by omega, h9⟩
        · rintro ⟨h8, h9⟩; exact ⟨by omega, h9⟩
  constructor
  · intro hc
    obtain ⟨i, h3, h4, rfl⟩ := hall c hc
    exact mem_comps.2 ⟨i, h3, h4, rfl⟩
  · intro hc
    obtain ⟨i, h3, h4, rfl⟩ := mem_comps.1 hc
    obtain ⟨c, h5, h6⟩ := h1.dn i (h2 i (by omega)) (by rw [hbare]; simp)
    obtain ⟨k, h7, h8, h9⟩ := hall c h5
    rw [h9] at h6
    have h10 := (mem_compRow.1 h6).2
    rcases Nat.lt_trichotomy i k with h11 | h11 | h11
    · exact absurd ⟨i, h11, h10.symm⟩ h8
    · subst h11; rw [← h9]; exact h5
    · exact absurd ⟨k, h11, h10⟩ h4
end Go.Proofs.Ytpdfcffeinbcaaa
