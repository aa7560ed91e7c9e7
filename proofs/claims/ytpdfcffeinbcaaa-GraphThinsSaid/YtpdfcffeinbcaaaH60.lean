/- PLAIN: levels rise along edges, and are no higher than they must be; where each stands in the order. -/
import Derived.Test.YtpdfcffeinbcaaaH31
import Derived.Test.YtpdfcffeinbcaaaH43
import Derived.Test.YtpdfcffeinbcaaaM2
import Derived.Test.YtpdfcffeinbcaaaH16
namespace Go.Proofs.Ytpdfcffeinbcaaa
open Go.RowKit
/-- What holds on the way. -/
structure LevTo (g : XG) (o : List Int) (k : Nat) (f : Int → Int) : Prop where
  up : ∀ a ∈ o.take k, ∀ b, Edg g a b → f a + 1 ≤ f b
  must : ∀ b, 0 < f b → ∃ a ∈ o.take k, Edg g a b ∧ f a + 1 = f b
theorem lev_to {g : XG} {o : List Int} (ha : Ahead g o) (hn : o.Nodup) (hno : ∀ x, ¬ TG g x x) : ∀ k, k ≤ o.length → LevTo g o k (levF (nxt g) (o.take k))
  | 0, _ => ⟨fun a h => by simp at h, fun b h => by simp [levF] at h⟩
  | k + 1, hk => by
    have hkl : k < o.length := by omega
    obtain ⟨h1, h2⟩ := lev_to ha hn hno k (by omega)
    rw [List.take_succ_eq_append_getElem hkl, levF_snoc]
    obtain ⟨v, hv⟩ : ∃ v, v = o[k] := ⟨_, rfl⟩
    have hstay : ∀ a ∈ o.take k ++ [v], a ∉ nxt g v := fun a hm hx => by
      have he : Edg g v a := mem_nxt.1 hx
      rw [hv, ← List.take_succ_eq_append_getElem hkl] at hm
      obtain ⟨j, hj, rfl⟩ := List.mem_iff_getElem.1 hm
      rw [List.length_take] at hj
      rw [List.getElem_take] at he
      have := ha j (by omega) v he
      obtain ⟨i, hi, e⟩ := List.mem_iff_getElem.1 this
      rw [List.length_take] at hi
      rw [List.getElem_take, hv] at e
      have := nd_inj hn _ _ e
      omega
    rw [← hv]
    obtain ⟨f, hf⟩ : ∃ f, f = levF (nxt g) (o.take k) := ⟨_, rfl⟩
    rw [← hf] at h1 h2 ⊢
    have hro := levRow_eq (no_self hno v) f
    have hold : ∀ a ∈ o.take k ++ [v], levRow v (nxt g v) f a = f a := fun a hm => by rw [hro, if_neg (hstay a hm)]
    have hge : ∀ b, f b ≤ levRow v (nxt g v) f b := fun b => by rw [hro]; split <;> omega
    have htk : o.take (k + 1) = o.take k ++ [v] := by rw [hv]; exact List.take_succ_eq_append_getElem hkl
    refine ⟨fun a hm b he => ?_, fun b hb => ?_⟩
    · rw [htk] at hm
      rw [hold a hm]
      rcases List.mem_append.1 hm with h3 | h3
      · have := h1 a h3 b he
        have := hge b
        omega
      · rw [List.mem_singleton.1 h3] at he ⊢
        rw [hro, if_pos (mem_nxt.2 he)]
        omega
    · rw [htk]
      by_cases hbv : b ∈ nxt g v ∧ f b < f v + 1
      · refine ⟨v, by simp, mem_nxt.1 hbv.1, ?_⟩
        rw [hold v (by simp), hro, if_pos hbv.1]
        omega
      · have e : levRow v (nxt g v) f b = f b := by
          rw [hro]
          by_cases h : b ∈ nxt g v
          · rw [if_pos h]
            have : ¬ f b < f v + 1 := fun c => hbv ⟨h, c⟩
            omega
          · rw [if_neg h]
        rw [e] at hb ⊢
        obtain ⟨a, h3, h4, h5⟩ := h2 b hb
        exact ⟨a, List.mem_append_left _ h3, h4, by rw [hold a (List.mem_append_left _ h3)]; exact h5⟩
/-- The order and the levels of a graph that has them. -/
structure KahnOk (g : XG) (o : List Int) (f : Int → Int) : Prop where
  nod : o.Nodup
  len : o.length = g.n.toNat
  rng : ∀ x ∈ o, 0 ≤ x ∧ x < g.n
  ahead : Ahead g o
  up : ∀ a b, Edg g a b → f a + 1 ≤ f b
  must : ∀ b, 0 < f b ↔ ∃ a, Edg g a b ∧ f a + 1 = f b
  bd : ∀ x, 0 ≤ f x ∧ f x ≤ g.n
theorem kahn_ok {g : XG} (h : ordE g = 0) : KahnOk g (ordF (nxt g) g.n.toNat) (levF (nxt g) (ordF (nxt g) g.n.toNat)) := by
  obtain ⟨hg, hl, hno⟩ := ordE_zero h
  have hb := ord_begun (nxt g) g.n.toNat
  have ha := ord_ahead hg
  have hn := hg.n0
  have hlv := lev_to ha hb.nod hno g.n.toNat (by omega)
  have htk : (ordF (nxt g) g.n.toNat).take g.n.toNat = ordF (nxt g) g.n.toNat := List.take_of_length_le (by omega)
  rw [htk] at hlv
  obtain ⟨h1, h2⟩ := hlv
  rw [htk] at h1 h2
  have hall : ∀ x, 0 ≤ x ∧ x < g.n → x ∈ ordF (nxt g) g.n.toNat := fun x hx => by
    apply Classical.byContradiction
    intro hc
    have h3 : (ordF (nxt g) g.n.toNat ++ [x]).Nodup := by
      rw [List.nodup_append]
      exact ⟨hb.nod, by simp, fun a ha b hb' e => by rw [List.mem_singleton.1 hb'] at e; rw [e] at ha; exact hc ha⟩
    have h4 := nodup_len g.n.toNat _ h3 (fun y hy => by
      rcases List.mem_append.1 hy with h5 | h5
      · exact hb.rng y h5
      · rw [List.mem_singleton.1 h5]; omega)
    rw [List.length_append, List.length_singleton] at h4
    omega
  have hup : ∀ a b, Edg g a b → levF (nxt g) (ordF (nxt g) g.n.toNat) a + 1 ≤ levF (nxt g) (ordF (nxt g) g.n.toNat) b := fun a b he => h1 a (hall a (hg.all _ he).1) b he
  have hbd := levF_bound (no_self hno) (ordF (nxt g) g.n.toNat)
  refine ⟨hb.nod, hl, fun x hx => by have := hb.rng x hx; omega, ha, hup, fun b => ⟨fun hb => ?_, fun ⟨a, he, e⟩ => ?_⟩, fun x => by have := hbd x; omega⟩
  · obtain ⟨a, _, h3, h4⟩ := h2 b hb
    exact ⟨a, h3, h4⟩
  · have := (hbd a).1
    omega
/-- Where each stands. -/
def plF (o : List Int) : Nat → Int → Int
  | 0 => fun _ => 0
  | i + 1 => setI (plF o i) (o.getD i 0) i
theorem plF_at {o : List Int} (hn : o.Nodup) : ∀ (i : Nat), i ≤ o.length → ∀ j (_ : j < i) (hjl : j < o.length), plF o i o[j] = j
  | 0, _, j, hj, _ => by omega
  | i + 1, hi, j, hj, hjl => by
    have e : o.getD i 0 = o[i] := by simp [List.getD, show i < o.length by omega]
    unfold plF
    rw [e]
    by_cases h : j = i
    · subst h; exact setI_here _ _ _
    · rw [setI_far (fun c => h (nd_inj hn _ _ c))]
      exact plF_at hn i (by omega) j (by omega) hjl
theorem KahnOk.place {g : XG} {o : List Int} {f : Int → Int} (h : KahnOk g o f) (hg : Good g) {a b : Int} (he : Edg g a b) : plF o g.n.toNat a < plF o g.n.toNat b := by
  have hn := hg.n0
  have hall : ∀ x, 0 ≤ x ∧ x < g.n → x ∈ o := fun x hx => by
    apply Classical.byContradiction
    intro hc
    have h3 : (o ++ [x]).Nodup := by
      rw [List.nodup_append]
      exact ⟨h.nod, by simp, fun a ha b hb' e => by rw [List.mem_singleton.1 hb'] at e; rw [e] at ha; exact hc ha⟩
    have h4 := nodup_len g.n.toNat _ h3 (fun y hy => by
      rcases List.mem_append.1 hy with h5 | h5
      · have := h.rng y h5; omega
      · rw [List.mem_singleton.1 h5]; omega)
    have := h.len
    rw [List.length_append, List.length_singleton] at h4
    omega
  obtain ⟨j, hj, rfl⟩ := List.mem_iff_getElem.1 (hall b (hg.all _ he).2)
  obtain ⟨i, hi, e⟩ := List.mem_iff_getElem.1 (h.ahead j hj a he)
  rw [List.length_take] at hi
  rw [List.getElem_take] at e
  rw [← e, plF_at h.nod g.n.toNat (by have := h.len; omega) i (by have := h.len; omega) (by omega), plF_at h.nod g.n.toNat (by have := h.len; omega) j (by have := h.len; omega) hj]
  omega
theorem plF_bound {o : List Int} : ∀ (i : Nat) (x : Int), 0 ≤ plF o i x ∧ plF o i x ≤ i
  | 0, x => ⟨Int.le_refl _, Int.le_refl _⟩
  | i + 1, x => by
    have := plF_bound (o := o) i x
    unfold plF setI
    split <;> omega
/-- Which must be as high as they are. -/
def needB (f : Int → Int) (es : List (Int × Int)) (b : Int) : Bool := es.any fun e => decide (e.2 = b) && decide (f e.1 + 1 = f e.2)
theorem needB_succ {f : Int → Int} {es : List (Int × Int)} {j : Nat} (hj : j < es.length) (x : Int) : needB f (es.take (j + 1)) x = if x = es[j].2 then (needB f (es.take j) x || decide (f es[j].1 + 1 = f es[j].2)) else needB f (es.take j) x := by
  unfold needB
  rw [List.take_succ_eq_append_getElem hj, List.any_append]
  by_cases h : x = es[j].2
  · rw [if_pos h]; simp [h]
  · rw [if_neg h]
    have : ¬ es[j].2 = x := fun e => h e.symm
    simp [this]
theorem KahnOk.needs {g : XG} {o : List Int} {f : Int → Int} (h : KahnOk g o f) (b : Int) : needB f g.es b = decide (0 < f b) := by
  rw [Bool.eq_iff_iff, decide_eq_true_eq, h.must]
  unfold needB
  rw [List.any_eq_true]
  constructor
  · rintro ⟨⟨a, c⟩, h1, h2⟩
    simp only [Bool.and_eq_true, decide_eq_true_eq] at h2
    obtain ⟨rfl, h3⟩ := h2
    exact ⟨a, h1, h3⟩
  · rintro ⟨a, h1, h2⟩
    exact ⟨(a, b), h1, by simp [h2]⟩
theorem KahnOk.of {g : XG} (h : ordE g = 0) : ∃ o f, KahnOk g o f ∧ ordL g = o ∧ levL g = (nodes g.n.toNat).map f := ⟨_, _, kahn_ok h, by unfold ordL; rw [if_pos h], by unfold levL; rw [if_pos h]⟩
theorem ordE_turn {g : XG} (h : ordE g = 0) : ordE (turnG g) = 0 := by
  obtain ⟨hg, _, hno⟩ := ordE_zero h
  have ht : turnG g = ⟨g.n, g.es.map swp⟩ := by unfold turnG; rw [if_pos (chkF_good.2 hg)]
  rw [ht]
  have hgt := good_turn hg
  unfold ordE
  rw [if_pos (chkF_good.2 hgt), if_pos ((ord_iff hgt).2 fun x hx => hno x (tg_turn.1 hx))]
end Go.Proofs.Ytpdfcffeinbcaaa
