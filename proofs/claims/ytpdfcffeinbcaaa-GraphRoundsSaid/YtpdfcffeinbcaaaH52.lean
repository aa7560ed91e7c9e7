/- PLAIN: a shortest way round: both ways of finding it. -/
import Derived.Test.YtpdfcffeinbcaaaH51
namespace Go.Proofs.Ytpdfcffeinbcaaa
open Go.RowKit
def turnE (g : XG) : XG := ⟨g.n, g.es.map swp⟩
theorem mem_turnE {g : XG} {v w : Int} : w ∈ nxt (turnE g) v ↔ Edg g w v := mem_nxt.trans edg_turn
/-- How far each node is from n, along the edges. -/
def farG (g : XG) (n : Int) : Int → Int := farF (nxt (turnE g)) n (bfsF (nxt (turnE g)) g.n.toNat [n])
structure FarOk (g : XG) (n : Int) (f : Int → Int) : Prop where
  some_ : ∀ x, 0 ≤ f x ↔ Rc g x n
  zero : ∀ x, f x = 0 ↔ x = n
  par : ∀ x, 0 < f x → ∃ w, Edg g x w ∧ f x = f w + 1 ∧ 0 ≤ f w
  lip : ∀ u w, Edg g u w → 0 ≤ f w → 0 ≤ f u ∧ f u ≤ f w + 1
  bd : ∀ x, -1 ≤ f x ∧ f x ≤ g.n
theorem rch_rc {g : XG} {n x : Int} : Rch (nxt (turnE g)) [n] x ↔ Rc g x n := by
  constructor
  · intro h
    induction h with
    | base h => rw [List.mem_singleton.1 h]; exact .refl _ _
    | step _ hy ih => exact (Rc.edge (mem_turnE.1 hy)).trans ih
  · intro h
    rcases h with rfl | h
    · exact .base (List.mem_singleton.2 rfl)
    · have key : ∀ b, TG g x b → Rch (nxt (turnE g)) [n] b → Rch (nxt (turnE g)) [n] x := fun b h => by
        induction h with
        | single h => intro hb; exact hb.step (mem_turnE.2 h)
        | tail _ h ih => intro hb; exact ih (hb.step (mem_turnE.2 h))
      exact key n h (.base (List.mem_singleton.2 rfl))
theorem farG_ok {g : XG} (hg : Good g) {n : Int} (hn : 0 ≤ n ∧ n < g.n) : FarOk g n (farG g n) := by
  have hgt := good_turn hg
  have ha : ∀ x y, 0 ≤ x → x < (g.n.toNat : Int) → y ∈ nxt (turnE g) x → 0 ≤ y ∧ y < (g.n.toNat : Int) := fun x y _ _ hy => by
    have := (hg.all _ (mem_turnE.1 hy)).1
    simp only at this
    omega
  have hs : ∀ x ∈ [n], 0 ≤ x ∧ x < (g.n.toNat : Int) := fun x hx => by rw [List.mem_singleton.1 hx]; omega
  have hp : pushAll [] [n] = [n] := by simp [pushAll]
  have hb := bfs_start (adj := nxt (turnE g)) hs
  rw [hp] at hb
  have h := far_go (n := n) ha g.n.toNat [n] 0 (by omega) hb (far_start _ n)
  have hm := bfsF_mem ha hs
  have hl : (bfsF (nxt (turnE g)) g.n.toNat [n]).length ≤ g.n.toNat := nodup_len _ _ hm.1 hm.2.1
  have e : bfsGo (nxt (turnE g)) g.n.toNat [n] 0 = bfsF (nxt (turnE g)) g.n.toNat [n] := by unfold bfsF; rw [hp]
  rw [e] at h
  have hmem : ∀ x, 0 ≤ farG g n x ↔ x ∈ bfsF (nxt (turnE g)) g.n.toNat [n] := h.mem
  refine ⟨fun x => by rw [hmem, hm.2.2, rch_rc], h.zero, fun x hx => ?_, fun u w he hw => ?_, fun x => ?_⟩
  · have hne : x ≠ n := fun e => by have := (h.zero x).2 e; unfold farG at hx; omega
    obtain ⟨w, h1, h2, h3⟩ := h.par x ((hmem x).1 (by omega)) hne
    exact ⟨w, mem_turnE.1 h2, h3, (hmem w).2 h1⟩
  · obtain ⟨i, hi, e⟩ := List.mem_iff_getElem.1 ((hmem w).1 hw)
    have := h.lip i hi hi u (by rw [e]; exact mem_turnE.2 he)
    rwa [e] at this
  · have := farF_bound (nxt (turnE g)) n (bfsF (nxt (turnE g)) g.n.toNat [n]) x
    unfold farG
    omega
/-- The least of what is not below zero. -/
def bestF (f : Int → Int) (l : List Int) : Int := l.foldl (fun b w => if 0 ≤ f w ∧ (b < 0 ∨ f w < b) then f w else b) (-1)
theorem bestF_snoc (f : Int → Int) (l : List Int) (w : Int) : bestF f (l ++ [w]) = if 0 ≤ f w ∧ (bestF f l < 0 ∨ f w < bestF f l) then f w else bestF f l := by unfold bestF; rw [List.foldl_append]; rfl
def MinOf (f : Int → Int) (l : List Int) (r : Int) : Prop := 0 ≤ r ∧ (∃ w ∈ l, f w = r) ∧ ∀ w ∈ l, 0 ≤ f w → r ≤ f w
theorem best_to (f : Int → Int) (l : List Int) : ∀ j, j ≤ l.length → (bestF f (l.take j) = -1 ∧ ∀ w ∈ l.take j, f w < 0) ∨ MinOf f (l.take j) (bestF f (l.take j))
  | 0, _ => .inl ⟨rfl, by simp⟩
  | j + 1, hj => by
    rw [List.take_succ_eq_append_getElem (show j < l.length by omega), bestF_snoc]
    obtain ⟨w, hw⟩ : ∃ w, w = l[j] := ⟨_, rfl⟩
    rw [← hw]
    rcases best_to f l j (by omega) with ⟨h1, h2⟩ | ⟨h1, ⟨u, h2, h3⟩, h4⟩
    · by_cases h0 : 0 ≤ f w
      · right
        rw [if_pos ⟨h0, .inl (by omega)⟩]
        refine ⟨h0, ⟨w, by simp, rfl⟩, fun x hx hx0 => ?_⟩
        rcases List.mem_append.1 hx with h5 | h5
        · have := h2 x h5; omega
        · rw [List.mem_singleton.1 h5]; exact Int.le_refl _
      · left
        rw [if_neg (fun h => h0 h.1)]
        refine ⟨h1, fun x hx => ?_⟩
        rcases List.mem_append.1 hx with h5 | h5
        · exact h2 x h5
        · rw [List.mem_singleton.1 h5]; omega
    · right
      by_cases h0 : 0 ≤ f w ∧ f w < bestF f (l.take j)
      · rw [if_pos ⟨h0.1, .inr h0.2⟩]
        refine ⟨h0.1, ⟨w, by simp, rfl⟩, fun x hx hx0 => ?_⟩
        rcases List.mem_append.1 hx with h5 | h5
        · have := h4 x h5 hx0; omega
        · rw [List.mem_singleton.1 h5]; exact Int.le_refl _
      · rw [if_neg (fun h => h0 ⟨h.1, h.2.resolve_left (by omega)⟩)]
        refine ⟨h1, ⟨u, List.mem_append_left _ h2, h3⟩, fun x hx hx0 => ?_⟩
        rcases List.mem_append.1 hx with h5 | h5
        · exact h4 x h5 hx0
        · rw [List.mem_singleton.1 h5] at hx0 ⊢; omega
theorem best_spec (f : Int → Int) (l : List Int) : (bestF f l = -1 ∧ ∀ w ∈ l, f w < 0) ∨ MinOf f l (bestF f l) := by
  have := best_to f l l.length (Nat.le_refl _)
  rwa [List.take_length] at this
/-- The first of the least. -/
def fminF (f : Int → Int) (l : List Int) : Int := l.foldl (fun b w => if 0 ≤ f w ∧ (b < 0 ∨ f w < f b) then w else b) (-1)
theorem fminF_snoc (f : Int → Int) (l : List Int) (w : Int) : fminF f (l ++ [w]) = if 0 ≤ f w ∧ (fminF f l < 0 ∨ f w < f (fminF f l)) then w else fminF f l := by unfold fminF; rw [List.foldl_append]; rfl
theorem fmin_to (f : Int → Int) (l : List Int) (hl : ∀ w ∈ l, 0 ≤ w) : ∀ j, j ≤ l.length → (fminF f (l.take j) = -1 ∧ ∀ w ∈ l.take j, f w < 0) ∨
    (fminF f (l.take j) ∈ l.take j ∧ 0 ≤ f (fminF f (l.take j)) ∧ (∀ w ∈ l.take j, 0 ≤ f w → f (fminF f (l.take j)) ≤ f w) ∧ (l.take j).find? (fun w => f w == f (fminF f (l.take j))) = some (fminF f (l.take j)))
  | 0, _ => .inl ⟨rfl, by simp⟩
  | j + 1, hj => by
    have ih := fmin_to f l hl j (by omega)
    rw [List.take_succ_eq_append_getElem (show j < l.length by omega), fminF_snoc]
    have hw0 := hl _ (List.getElem_mem (show j < l.length by omega))
    obtain ⟨w, hw⟩ : ∃ w, w = l[j] := ⟨_, rfl⟩
    rw [← hw] at hw0 ⊢
    obtain ⟨b, hb⟩ : ∃ b, b = fminF f (l.take j) := ⟨_, rfl⟩
    rw [← hb] at ih ⊢
    rcases ih with ⟨h1, h2⟩ | ⟨h1, h2, h3, h4⟩
    · by_cases h0 : 0 ≤ f w
      · right
        rw [if_pos ⟨h0, .inl (by omega)⟩]
        refine ⟨by simp, h0, fun x hx hx0 => ?_, ?_⟩
        · rcases List.mem_append.1 hx with h5 | h5
          · have := h2 x h5; omega
          · rw [List.mem_singleton.1 h5]; exact Int.le_refl _
        · rw [List.find?_append, List.find?_eq_none.2 (fun x hx => by have := h2 x hx; simp; omega)]
          simp
      · left
        rw [if_neg (fun h => h0 h.1)]
        refine ⟨h1, fun x hx => ?_⟩
        rcases List.mem_append.1 hx with h5 | h5
        · exact h2 x h5
        · rw [List.mem_singleton.1 h5]; omega
    · right
      have hb0 : 0 ≤ b := hl b (List.mem_of_mem_take h1)
      by_cases h0 : 0 ≤ f w ∧ f w < f b
      · rw [if_pos ⟨h0.1, .inr h0.2⟩]
        refine ⟨by simp, h0.1, fun x hx hx0 => ?_, ?_⟩
        · rcases List.mem_append.1 hx with h5 | h5
          · have := h3 x h5 hx0; omega
          · rw [List.mem_singleton.1 h5]; exact Int.le_refl _
        · rw [List.find?_append, List.find?_eq_none.2 (fun x hx => by have := h3 x hx; simp; omega)]
          simp
      · rw [if_neg (fun h => h0 ⟨h.1, h.2.resolve_left (by omega)⟩)]
        refine ⟨List.mem_append_left _ h1, h2, fun x hx hx0 => ?_, ?_⟩
        · rcases List.mem_append.1 hx with h5 | h5
          · exact h3 x h5 hx0
          · rw [List.mem_singleton.1 h5] at hx0 ⊢; omega
        · rw [List.find?_append, h4]; rfl
/-- Where there is a least, the first of them is what is found. -/
theorem fmin_min {f : Int → Int} {l : List Int} (hl : ∀ w ∈ l, 0 ≤ w) {r : Int} (hr : MinOf f l r) : fminF f l ∈ l ∧ f (fminF f l) = r ∧ l.find? (fun w => f w == r) = some (fminF f l) := by
  have := fmin_to f l hl l.length (Nat.le_refl _)
  rw [List.take_length] at this
  obtain ⟨h0, ⟨w, h1, h2⟩, h3⟩ := hr
  rcases this with ⟨_, h5⟩ | ⟨h4, h5, h6, h7⟩
  · have := h5 w h1; omega
  · have e : f (fminF f l) = r := by
      have := h6 w h1 (by omega)
      have := h3 _ h4 h5
      omega
    rw [e] at h7
    exact ⟨h4, e, h7⟩
/-- The way on: to the first that is one nearer. -/
def stepTo (g : XG) (f : Int → Int) (at_ r : Int) : Int := ((nxt g at_).find? (fun w => f w == r)).getD at_
def cirGo (g : XG) (f : Int → Int) : Nat → Int → List Int
  | 0, _ => []
  | k + 1, a => stepTo g f a ((k : Int) + 1) :: cirGo g f k (stepTo g f a ((k : Int) + 1))
theorem cirGo_length (g : XG) (f : Int → Int) : ∀ (k : Nat) (a : Int), (cirGo g f k a).length = k
  | 0, _ => rfl
  | k + 1, a => by unfold cirGo; rw [List.length_cons, cirGo_length]
def cirE (g : XG) (n : Int) : Int := if chkF g = 0 then if nodeB g.n n = true then if bestF (farG g n) (nxt g n) < 0 then 4 else 0 else 1 else chkF g
def cirL (g : XG) (n : Int) : List Int := if cirE g n = 0 then n :: cirGo g (farG g n) (bestF (farG g n) (nxt g n)).toNat n else []
/-- A round is there just if the least is not below zero. -/
theorem best_goes {g : XG} (hg : Good g) {n : Int} (hn : 0 ≤ n ∧ n < g.n) : 0 ≤ bestF (farG g n) (nxt g n) ↔ TG g n n := by
  have hf := farG_ok hg hn
  constructor
  · intro h
    rcases best_spec (farG g n) (nxt g n) with ⟨h1, _⟩ | ⟨_, ⟨w, h2, h3⟩, _⟩
    · omega
    · have h4 := (hf.some_ w).1 (by omega)
      have h5 : Edg g n w := mem_nxt.1 h2
      rcases h4 with rfl | h4
      · exact .single h5
      · exact Relation.TransGen.trans (.single h5) h4
  · intro h
    have key : ∃ w, Edg g n w ∧ Rc g w n := by
      have : ∀ b, TG g n b → ∃ w, Edg g n w ∧ Rc g w b := fun b h => by
        induction h with
        | single h => exact ⟨_, h, .refl _ _⟩
        | tail _ h ih =>
          obtain ⟨w, h1, h2⟩ := ih
          exact ⟨w, h1, h2.trans (.edge h)⟩
      exact this n h
    obtain ⟨w, h1, h2⟩ := key
    have h3 := (hf.some_ w).2 h2
    rcases best_spec (farG g n) (nxt g n) with ⟨_, h4⟩ | h4
    · have := h4 w (mem_nxt.2 h1); omega
    · exact h4.1
/-- One step of the document's way: to the first of the least. -/
theorem cir_step {g : XG} (hg : Good g) {n : Int} (hn : 0 ≤ n ∧ n < g.n) {a : Int} {r : Nat} (hm : MinOf (farG g n) (nxt g a) r) :
    (fminF (farG g n) (nxt g a) = n ↔ r = 0) ∧ ∀ k, r = k + 1 → stepTo g (farG g n) a ((k : Int) + 1) = fminF (farG g n) (nxt g a) ∧ MinOf (farG g n) (nxt g (fminF (farG g n) (nxt g a))) k := by
  have hf := farG_ok hg hn
  have hl : ∀ w ∈ nxt g a, 0 ≤ w := fun w hw => (hg.all _ (mem_nxt.1 hw)).2.1
  obtain ⟨h1, h2, h3⟩ := fmin_min hl hm
  refine ⟨?_, fun k hk => ?_⟩
  · rw [← hf.zero, h2]; omega
  · subst hk
    have hc : ((k + 1 : Nat) : Int) = (k : Int) + 1 := by omega
    rw [hc] at h2 h3 hm
    refine ⟨by unfold stepTo; rw [h3]; rfl, by omega, ?_, fun w hw h0 => ?_⟩
    · obtain ⟨w, h4, h5, h6⟩ := hf.par (fminF (farG g n) (nxt g a)) (by omega)
      exact ⟨w, mem_nxt.2 h4, by omega⟩
    · have := (hf.lip _ _ (mem_nxt.1 hw) h0).2
      omega
end Go.Proofs.Ytpdfcffeinbcaaa
