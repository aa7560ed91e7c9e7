/- PLAIN: what is surely asked is asked; renamed to what is not in it, and back. -/
import Derived.Test.YtgopflklcfcocaaDoorA31
namespace Go.Proofs.YtgopflklcfcocaaDoor
open Go.RowKit

theorem cell_new (w : World) (cs : Array Value) (t : TypeId) (o : Nat) : (w.alloc (.cells cs t)).cell? ⟨w.heap.size, o, none⟩ = cs[o]? := by
  unfold World.cell?
  rw [heap_alloc_new]
  simp
theorem ren_kind (f t : ByteArray) (o : XOp) : (renOp f t o).kind = o.kind := by unfold renOp; split <;> rfl
theorem ren_n (f t : ByteArray) (o : XOp) : (renOp f t o).n = o.n := by unfold renOp; split <;> rfl
theorem ren_other (f t : ByteArray) (o : XOp) (h : o.kind ≠ 3) : renOp f t o = o := by unfold renOp; rw [if_neg (fun e => h e.1)]
theorem well_ren {f t : ByteArray} {o : XOp} (ht : isName t = true) (h : wellF o = true) : wellF (renOp f t o) = true := by
  unfold renOp
  split
  · next h3 =>
    obtain ⟨k, n, i, s⟩ := o
    obtain ⟨rfl, _⟩ := h3
    have ha : arityF ⟨3, n, i, t⟩ = arityF ⟨3, n, i, s⟩ := rfl
    unfold wellF at h ⊢
    rw [ha]
    split at h
    · simp at h
    · next hne =>
      rw [if_neg hne]
      simp at h ⊢
      exact ⟨h.1, ht⟩
  · exact h
theorem begins_ren {f t : ByteArray} (ht : isName t = true) : ∀ (es : List XOp) (i : Nat) (fr st : List Nat) (r : List Nat × List Nat), beginsFrom es i fr st = some r → beginsFrom (es.map (renOp f t)) i fr st = some r
  | [], _, _, _, _, h => h
  | o :: es, i, fr, st, r, h => by
    rw [List.map_cons, beginsFrom, ren_n]
    rw [beginsFrom] at h
    split at h
    · simp at h
    · next hne =>
      have hw : wellF o = true := by
        have : ¬ wellF o = false := fun e => hne (.inl e)
        simpa using this
      rw [if_neg (by rw [well_ren ht hw]; intro e; rcases e with e | e; simp at e; exact hne (.inr e))]
      exact begins_ren ht es _ _ _ _ h
theorem deep_ren (f t : ByteArray) : ∀ (es : List XOp) (st : List Nat), deepFrom (es.map (renOp f t)) st = deepFrom es st
  | [], _ => rfl
  | o :: es, st => by rw [List.map_cons, deepFrom, deepFrom, ren_n, deep_ren f t es]
theorem see_ren (f t : ByteArray) (o : XOp) (L : List ByteArray) : seeF (renOp f t o) L = seeF o L := by
  unfold renOp
  split
  · next h => unfold seeF; simp [h.1]
  · rfl
theorem walk_ren (f t : ByteArray) (es : List XOp) (fr : List Nat) : ∀ (n pos : Nat) (L : List ByteArray), walkF (es.map (renOp f t)) fr n pos L = walkF es fr n pos L
  | 0, _, _ => rfl
  | n + 1, pos, L => by
    rw [walkF, walkF, List.getElem?_map]
    cases h : es[pos]? with
    | none => rfl
    | some o =>
      simp only [Option.map_some]
      rw [see_ren, ren_n, ren_kind]
      congr 2
      funext x
      rw [walk_ren f t es fr n]
      congr 1
      by_cases hk : o.kind = 19
      · rw [ren_other f t o (by omega)]
      · rw [if_neg (fun h => hk h.1), if_neg (fun h => hk h.1)]
theorem check_ren {f t : ByteArray} {es : List XOp} (ht : isName t = true) (h : checkF es = 0) : checkF (es.map (renOp f t)) = 0 := by
  have hts : t.size ≤ 4096 := by
    unfold isName at ht
    simp at ht
    omega
  obtain ⟨hlen, fr, b, hb⟩ := check_zero h
  unfold checkF at h ⊢
  rw [List.length_map]
  have hb2 : beginsF (es.map (renOp f t)) = some (fr, [b]) := begins_ren ht es _ _ _ _ hb
  rw [hb] at h
  rw [hb2, if_neg (by omega)]
  rw [if_neg (by omega)] at h
  simp only at h ⊢
  rw [walk_ren]
  split at h
  · next hw =>
    rw [if_pos hw]
    split at h
    · simp at h
    · next hl =>
      have hl2 : ¬ longB (es.map (renOp f t)) = true := by
        intro e
        apply hl
        unfold longB at e ⊢
        rw [List.any_eq_true] at e ⊢
        obtain ⟨x, hx, hd⟩ := e
        obtain ⟨o, ho, rfl⟩ := List.mem_map.1 hx
        refine ⟨o, ho, ?_⟩
        unfold renOp at hd
        split at hd
        · simp at hd; omega
        · exact hd
      rw [if_neg hl2]
      unfold deepF at h ⊢
      rw [deep_ren]
      exact h
  · simp at h
/-- What a name comes to. -/
def renS (f t s : ByteArray) : ByteArray := if s = f then t else s
theorem ren_text (f t : ByteArray) (o : XOp) (h : o.kind = 3) : (renOp f t o).text = renS f t o.text := by
  unfold renOp renS
  by_cases e : o.text = f
  · rw [if_pos ⟨h, e⟩, if_pos e]
  · rw [if_neg (fun h => e h.2), if_neg e]
theorem renS_inj {f t a b : ByteArray} (ha : a ≠ t) (hb : b ≠ t) (h : renS f t a = renS f t b) : a = b := by
  unfold renS at h
  split at h
  · next h1 =>
    split at h
    · next h2 => rw [h1, h2]
    · exact absurd h.symm hb
  · split at h
    · exact absurd h ha
    · exact h
theorem memB_ren {f t a : ByteArray} {out : List ByteArray} (ha : a ≠ t) (ho : ∀ x ∈ out, x ≠ t) : memB (renS f t a) (out.map (renS f t)) = memB a out := by
  rw [Bool.eq_iff_iff, memB_iff, memB_iff, List.mem_map]
  constructor
  · rintro ⟨x, hx, e⟩
    rw [← renS_inj (ho x hx) ha e]; exact hx
  · intro h
    exact ⟨a, h, rfl⟩
theorem texts_ren {f t : ByteArray} : ∀ (es : List XOp) (out : List ByteArray), (∀ x ∈ out, x ≠ t) → (∀ o ∈ es, o.kind = 3 → o.text ≠ t) → textsFrom 3 (es.map (renOp f t)) (out.map (renS f t)) = (textsFrom 3 es out).map (renS f t)
  | [], _, _, _ => rfl
  | o :: es, out, ho, he => by
    rw [List.map_cons, textsFrom, textsFrom, ren_kind]
    by_cases h3 : o.kind = 3
    · have hot := he o (by simp) h3
      rw [ren_text f t o h3, memB_ren hot ho]
      by_cases hm : memB o.text out = false
      · rw [if_pos ⟨h3, hm⟩, if_pos ⟨h3, hm⟩]
        have e : out.map (renS f t) ++ [renS f t o.text] = (out ++ [o.text]).map (renS f t) := by simp
        rw [e]
        exact texts_ren es _ (fun x hx => by
          rw [List.mem_append, List.mem_singleton] at hx
          rcases hx with hx | hx
          · exact ho x hx
          · rw [hx]; exact hot) (fun o' h' => he o' (by simp [h']))
      · rw [if_neg (fun h => hm h.2), if_neg (fun h => hm h.2)]
        exact texts_ren es _ ho (fun o' h' => he o' (by simp [h']))
    · rw [if_neg (fun h => h3 h.1), if_neg (fun h => h3 h.1)]
      exact texts_ren es _ ho (fun o' h' => he o' (by simp [h']))
theorem texts_keep {kind : Int} : ∀ (es : List XOp) (out : List ByteArray) (x : ByteArray), x ∈ out → x ∈ textsFrom kind es out
  | [], _, _, h => h
  | o :: es, out, x, h => by
    rw [textsFrom]
    apply texts_keep es
    split
    · simp [h]
    · exact h
theorem texts_has {kind : Int} : ∀ (es : List XOp) (out : List ByteArray) (o : XOp), o ∈ es → o.kind = kind → o.text ∈ textsFrom kind es out
  | [], _, _, h, _ => by simp at h
  | o' :: es, out, o, h, hk => by
    rw [textsFrom]
    rw [List.mem_cons] at h
    rcases h with rfl | h
    · apply texts_keep
      split
      · simp
      · next hne =>
        have : ¬ memB o.text out = false := fun e => hne ⟨hk, e⟩
        rw [memB_not] at this
        exact Classical.not_not.1 this
    · exact texts_has es _ o h hk
theorem ren_back {f t : ByteArray} {es : List XOp} (h : ∀ o ∈ es, o.kind = 3 → o.text ≠ t) : (es.map (renOp f t)).map (renOp t f) = es := by
  rw [List.map_map]
  conv => rhs; rw [← List.map_id es]
  apply List.map_congr_left
  intro o ho
  simp only [Function.comp, id]
  obtain ⟨k, n, i, s⟩ := o
  by_cases h3 : k = 3
  · by_cases hs : s = f
    · have e : renOp f t ⟨k, n, i, s⟩ = ⟨k, n, i, t⟩ := by unfold renOp; rw [if_pos ⟨h3, hs⟩]
      rw [e]
      unfold renOp
      rw [if_pos ⟨h3, rfl⟩, hs]
    · have e : renOp f t ⟨k, n, i, s⟩ = ⟨k, n, i, s⟩ := by unfold renOp; rw [if_neg (fun h => hs h.2)]
      rw [e]
      unfold renOp
      rw [if_neg (fun e => h _ ho h3 e.2)]
  · rw [ren_other f t _ h3, ren_other t f _ h3]
theorem sure_in {es : List XOp} {x : ByteArray} (h : x ∈ sureL es) : memB x (textsF es 3) = true := by
  unfold sureL at h
  split at h
  · rw [memB_iff]
    exact (List.mem_filter.1 h).1
  · simp at h
/-- All that the law asks of a renaming. -/
theorem ren_law {f t : ByteArray} {es : List XOp} (h0 : checkF es = 0) (hf : isName f = true) (ht : isName t = true) (hm : memB t (textsF es 3) = false) :
    renAns es f t = (0, es.map (renOp f t)) ∧ askAns (es.map (renOp f t)) 3 = (0, (textsF es 3).map (renS f t)) ∧ renAns (es.map (renOp f t)) t f = (0, es) := by
  have hno : ∀ o ∈ es, o.kind = 3 → o.text ≠ t := fun o ho hk e => by
    rw [memB_not] at hm
    exact hm (e ▸ texts_has es [] o ho hk)
  have hc := check_ren (f := f) ht h0
  refine ⟨?_, ?_, ?_⟩
  · unfold renAns; rw [if_neg (by simpa using h0), if_neg (by simp [hf, ht])]
  · unfold askAns; rw [if_neg (by simpa using hc)]
    have := texts_ren (f := f) es [] (by simp) hno
    unfold textsF
    rw [← this]; rfl
  · unfold renAns; rw [if_neg (by simpa using hc), if_neg (by simp [hf, ht]), ren_back hno]
/-- The chapter's example. -/
def exW : List XOp := [⟨3, 0, 0, ⟨#[97]⟩⟩, ⟨3, 0, 0, ⟨#[98]⟩⟩, ⟨3, 0, 0, ⟨#[99]⟩⟩, ⟨6, 2, 0, ⟨#[]⟩⟩, ⟨3, 0, 0, ⟨#[99]⟩⟩, ⟨14, 3, 0, ⟨#[]⟩⟩]
theorem exW_ask : askAns exW 3 = (0, [⟨#[97]⟩, ⟨#[98]⟩, ⟨#[99]⟩]) := by kernel_rfl
theorem exW_sure : sureAns exW = (0, [⟨#[97]⟩, ⟨#[99]⟩]) := by kernel_rfl
end Go.Proofs.YtgopflklcfcocaaDoor
