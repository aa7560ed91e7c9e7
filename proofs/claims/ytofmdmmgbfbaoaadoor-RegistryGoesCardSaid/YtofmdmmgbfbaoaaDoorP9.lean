/- Add, and the document's Add, taken or not. -/
import Derived.Test.YtofmdmmgbfbaoaaDoorP8
namespace Go.Proofs.YtofmdmmgbfbaoaaDoor
open Go.RowKit Go.Maps Go.ChangeMaps Go.WideShapes

/-- What is added. -/
def addL (fz : Bool) (N : List ByteArray) (p : XProv) : List XProv := if (raddAns fz N p).2 = 0 then [p] else []
theorem radd_split (fz : Bool) (gs : List PRow) (p : XProv) : (fz = false ∧ provF p = 0 ∧ memB p.name (namesL gs) = false ∧ gs.length < 256 ∧ raddAns fz (namesL gs) p = ((gs.length : Int), 0)) ∨ ((raddAns fz (namesL gs) p).2 ≠ 0 ∧ (raddAns fz (namesL gs) p).1 = 0) := by
  unfold raddAns addAns
  cases fz
  · by_cases h0 : provF p = 0
    · cases hM : memB p.name (namesL gs)
      · by_cases h3 : 256 ≤ (namesL gs).length
        · exact .inr (by simp [h0, h3])
        · refine .inl ⟨rfl, h0, rfl, by rw [namesL_length] at h3; omega, ?_⟩
          rw [namesL_length] at h3 ⊢
          simp [h0, h3]
      · exact .inr (by simp [h0])
    · exact .inr (by simp [h0])
  · exact .inr (by simp)
/-- What Add leaves. -/
def AddPost (base rb mb : Nat) (v : Value) (gs : List PRow) (fz : Bool) (p : XProv) (w : World) (e : Ending) (w' : World) : Prop :=
  ∃ v' t, e = .returned (.tuple #[.int .i64 (raddAns fz (namesL gs) p).1, .int .i64 (raddAns fz (namesL gs) p).2]) ∧ RegF w' base rb mb v' (gs ++ t) fz ∧ t.map (·.p) = addL fz (namesL gs) p ∧ (∀ q ∈ t, Fresh w.heap.size w'.heap.size q.A) ∧ (∀ i, i < w.heap.size → ¬ RegT rb mb v i → w'.heap[i]? = w.heap[i]?) ∧ Below base w w' ∧ w.heap.size ≤ w'.heap.size ∧ (v'.ownBlock = v.ownBlock ∨ ∃ g, v'.ownBlock = some g ∧ w.heap.size ≤ g)
theorem add_c (w : World) (base rb mb : Nat) (v : Value) (gs : List PRow) (fz : Bool) (p : XProv) (A : Option Addr) (c : Nat) (h : RegF w base rb mb v gs fz) (hp : ProvAt w A p) (hkeys : KeysIn w) :
    Calls Tryd.prog 8 #[.pointer (some ⟨rb, 0, none⟩), p.val A c] w (AddPost base rb mb v gs fz p w) := by
  have hbl : base ≤ w.heap.size := by have := h.lo; have := h.rbl; omega
  have hno : ∀ (e : Ending) (w' : World), Below w.heap.size w w' → (raddAns fz (namesL gs) p).2 ≠ 0 → e = .returned (.tuple #[.int .i64 (raddAns fz (namesL gs) p).1, .int .i64 (raddAns fz (namesL gs) p).2]) → AddPost base rb mb v gs fz p w e w' := by
    intro e w' hb hn he
    refine ⟨v, [], he, by rw [List.append_nil]; exact h.below hb, ?_, fun q hq => (by simp at hq), fun i hi _ => hb.block i hi, hb.mono hbl, hb.size, .inl rfl⟩
    unfold addL
    rw [if_neg hn]
    rfl
  rcases radd_split fz gs p with ⟨rfl, h0, hM, hl, hA⟩ | ⟨hn, h1⟩
  · refine (add_yes w base rb mb v gs p A c h hp hkeys h0 hM hl).mono ?_
    rintro e w' ⟨he, v', A', c', hr, hf, hfr, hb, hat⟩
    refine ⟨v', [⟨p, A', c'⟩], by rw [hA]; exact he, hr, ?_, fun q hq => ?_, hfr, hb, hb.size, hat⟩
    · unfold addL
      rw [hA]
      rfl
    · rw [List.mem_singleton] at hq
      subst hq
      exact hf
  · cases fz
    · have h2 : (raddAns false (namesL gs) p).2 = (addAns (namesL gs) p).2 := rfl
      refine (add_no w base rb mb v gs p A c h hp hkeys (by rw [← h2]; exact hn)).mono ?_
      rintro e w' ⟨he, hb⟩
      exact hno e w' hb hn (by rw [h1]; exact he)
    · refine (add_fz w base rb mb v gs p A c h).mono ?_
      rintro e w' ⟨he, hb⟩
      exact hno e w' hb hn he
/-- What the document's Add leaves. -/
def RAddPost (N : List ByteArray) (ys : List PRow) (V : Option Addr) (fz : Bool) (p : XProv) (w : World) (e : Ending) (w' : World) : Prop :=
  ∃ V' c' t, e = .returned (.tuple #[.agg #[.slice V' (ys ++ t).length c', .bool fz], .int .i64 (raddAns fz N p).1, .int .i64 (raddAns fz N p).2]) ∧ ProvsAt w' V' (ys ++ t) ∧ t.map (·.p) = addL fz N p ∧ (∀ q ∈ t, Fresh w.heap.size w'.heap.size q.A) ∧ (ys ++ t).length ≤ c' ∧ Below w.heap.size w w' ∧ ((t = [] ∧ V' = V) ∨ Fresh w.heap.size w'.heap.size V')
theorem radd_c (ys : List PRow) (V : Option Addr) (cy : Nat) (fz : Bool) (p : XProv) (A : Option Addr) (c : Nat) (w : World) (hy : ProvsAt w V ys) (hl : ys.length ≤ 256) (hcap : ys.length ≤ cy) (hp : ProvAt w A p) :
    Calls Tryd.prog 26 #[.agg #[.slice V ys.length cy, .bool fz], p.val A c] w (RAddPost (namesL ys) ys V fz p w) := by
  rcases radd_split fz ys p with ⟨rfl, h0, hM, hl, hA⟩ | ⟨hn, h1⟩
  · refine (radd_yes ys V cy p A c w hy hl hp h0 hM).mono ?_
    rintro e w' ⟨V', c', A', d', he, hps, hf, hf2, hc, hb⟩
    refine ⟨V', c', [⟨p, A', d'⟩], by rw [hA, List.length_append]; exact he, hps, ?_, fun q hq => ?_, by rw [List.length_append]; exact hc, hb, .inr hf⟩
    · unfold addL
      rw [hA]
      rfl
    · rw [List.mem_singleton] at hq
      subst hq
      exact hf2
  · refine (radd_no ys V cy fz p A c w hy hl hp hn).mono ?_
    rintro e w' ⟨he, hb⟩
    refine ⟨V, cy, [], by rw [List.append_nil, h1]; exact he, by rw [List.append_nil]; exact hy.below hb, ?_, fun q hq => (by simp at hq), by rw [List.append_nil]; exact hcap, hb, .inl ⟨rfl, rfl⟩⟩
    unfold addL
    rw [if_neg hn]
    rfl
end Go.Proofs.YtofmdmmgbfbaoaaDoor
