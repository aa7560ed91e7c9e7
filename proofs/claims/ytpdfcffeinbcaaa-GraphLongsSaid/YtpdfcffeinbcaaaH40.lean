/- PLAIN: Longest, the document's way: the sums and who comes next, side by side. -/
import Derived.Test.YtpdfcffeinbcaaaH37
namespace Go.Proofs.Ytpdfcffeinbcaaa
open Go.RowKit
theorem IsNx.congr {f g : Int → Int} {a : List Int} {x : Int} (h : IsNx f a x) (hf : ∀ z ∈ a, f z = g z) : IsNx g a x := by
  have e := maxs_congr (c := 0) (fun z => (Iff.rfl : z ∈ a ↔ z ∈ a)) hf
  refine ⟨fun h0 => h.none_ (e.trans h0), fun h0 => ?_⟩
  obtain ⟨h1, h2, h3⟩ := h.some_ (fun hh => h0 (e.symm.trans hh))
  exact ⟨h1, by rw [← hf _ h1, h2, e], fun w hw he => h3 w hw (by rw [hf w hw, he, e])⟩
def lonP (wt : Int → Int) (adj : Int → List Int) (s : (Int → Int) × (Int → Int)) (v : Int) : (Int → Int) × (Int → Int) :=
  (lonRow wt v (adj v) s.1, fun i => if i = v then (nxS s.1 (adj v)).2 else s.2 i)
def lonFG (wt : Int → Int) (adj : Int → List Int) (p : List Int) : (Int → Int) × (Int → Int) := p.foldl (lonP wt adj) (fun _ => 0, fun _ => 0)
theorem lonFG_snoc (wt : Int → Int) (adj : Int → List Int) (p : List Int) (v : Int) : lonFG wt adj (p ++ [v]) = lonP wt adj (lonFG wt adj p) v := by unfold lonFG; rw [List.foldl_append]; rfl
theorem lonFG_fst (wt : Int → Int) (adj : Int → List Int) (p : List Int) : (lonFG wt adj p).1 = lonF wt adj (fun _ => 0) p := by
  induction hn : p.length generalizing p with
  | zero => rw [List.eq_nil_of_length_eq_zero hn]; rfl
  | succ n ih =>
    obtain ⟨q, v, rfl⟩ := eq_concat p (by intro e; rw [e] at hn; simp at hn)
    rw [lonFG_snoc, lonF_snoc, ← ih q (by simpa using hn)]
    rfl
theorem lonFG_is {wt : Int → Int} {adj : Int → List Int} (h0 : ∀ v, ∀ x ∈ adj v, 0 ≤ x) : ∀ {p : List Int}, Back adj p → ∀ i ∈ p, IsNx (lonF wt adj (fun _ => 0) p) (adj i) ((lonFG wt adj p).2 i) := by
  intro p
  induction hn : p.length generalizing p with
  | zero => intro _ i hi; rw [List.eq_nil_of_length_eq_zero hn] at hi; cases hi
  | succ n ih =>
    intro h i hi
    obtain ⟨q, v, rfl⟩ := eq_concat p (by intro e; rw [e] at hn; simp at hn)
    have hq : q.length = n := by simpa using hn
    have hst : ∀ z ∈ q, lonF wt adj (fun _ => 0) q z = lonF wt adj (fun _ => 0) (q ++ [v]) z := fun z hz => (lonF_stays h.nod hz).symm
    rw [lonFG_snoc]
    show IsNx _ _ (if i = v then (nxS (lonFG wt adj q).1 (adj v)).2 else (lonFG wt adj q).2 i)
    by_cases e : i = v
    · subst e
      rw [if_pos rfl, lonFG_fst]
      refine (nxS_is (h0 i)).2.congr (fun z hz => hst z ?_)
      have := h.ahead q.length (by simp) z (by rw [List.getElem_append_right (Nat.le_refl _)]; simpa using hz)
      rwa [take_prefix q [i] _ (Nat.le_refl _), List.take_length] at this
    · rw [if_neg e]
      have hiq : i ∈ q := by
        rcases List.mem_append.1 hi with h1 | h1
        · exact h1
        · simp at h1; exact absurd h1 e
      refine (ih hq h.left i hiq).congr (fun z hz => hst z ?_)
      obtain ⟨k, hk, rfl⟩ := List.mem_iff_getElem.1 hiq
      exact List.mem_of_mem_take (h.left.ahead k hk z hz)
theorem Back.congr {a b : Int → List Int} (hm : ∀ v x, x ∈ a v ↔ x ∈ b v) {p : List Int} (h : Back a p) : Back b p :=
  ⟨h.nod, fun k hk x hx => h.ahead k hk x ((hm _ x).2 hx)⟩
theorem tgt_nxt (g : XG) (v x : Int) : x ∈ nxt g v ↔ x ∈ tgt g.es v := by rw [mem_nxt, mem_tgt]
/-- What the document's two rows hold at last. -/
theorem LonOk.both {g : XG} {wts : List Int} (h : LonOk g wts) {i : Int} (hi : 0 ≤ i ∧ i < g.n) :
    (lonFG (wtF wts) (tgt g.es) (ordF (nxt g) g.n.toNat).reverse).1 i = lonT g wts i ∧ (lonFG (wtF wts) (tgt g.es) (ordF (nxt g) g.n.toNat).reverse).2 i = lonX g wts i := by
  have hn := h.good.n0
  have hall : ∀ z : Int, 0 ≤ z ∧ z < g.n → z ∈ (ordF (nxt g) g.n.toNat).reverse := fun z hz => List.mem_reverse.2 (ord_all h.full (by omega))
  have hs : ∀ z : Int, 0 ≤ z ∧ z < g.n → lonF (wtF wts) (tgt g.es) (fun _ => 0) (ordF (nxt g) g.n.toNat).reverse z = lonT g wts z := fun z hz =>
    (lonF_same (wt := wtF wts) (tgt_nxt g) (f0 := wtF wts) (g0 := fun _ => 0) h.back z (hall z hz)).symm
  refine ⟨by rw [lonFG_fst]; exact hs i hi, ?_⟩
  have hx := lonFG_is (wt := wtF wts) (adj := tgt g.es) (fun v x hx => (h.good.all _ (mem_tgt.1 hx)).2.1) (h.back.congr (tgt_nxt g)) i (hall i hi)
  exact hx.uniq (h.nx i).2 (fun z => (tgt_nxt g i z).symm) (fun z hz => hs z (h.good.all _ (mem_tgt.1 hz)).2)
theorem fstF_succ (f : Int → Int) (k : Nat) : fstF f (k + 1) = if fstF f k < 0 ∨ f (fstF f k) < f k then (k : Int) else fstF f k := rfl
theorem fstF_lt (f : Int → Int) (k : Nat) : fstF f k < (k : Int) ∧ -1 ≤ fstF f k := by
  induction k with
  | zero => exact ⟨by show (-1 : Int) < 0; omega, Int.le_refl _⟩
  | succ k ih => rw [fstF_succ]; split <;> omega
end Go.Proofs.Ytpdfcffeinbcaaa
