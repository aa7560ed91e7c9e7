/- Sets of texts: map[string]struct{}. -/
import Derived.Test.YtgopflklcfcocaaDoorA26
import Derived.Maps.OwnSet
import Derived.Maps.RangeWalk
import Derived.StringKeys
namespace Go.Proofs.YtgopflklcfcocaaDoor
open Go.RowKit Go.Maps Go.ChangeMaps Go.WideShapes

theorem keyed : Keyed Tryd.prog 9 := string_keyed Tryd.underlying9
theorem zeroU (w : World) : (zeroValue 82).run Tryd.prog w = .ok (.agg #[]) w := by kernel_rfl
/-- A text as a key. -/
def kl (s : ByteArray) : Lit := .string s.data.toList
theorem kl_of (s : ByteArray) (h : s.size ≤ 140737488355328) : keyOf Tryd.prog 9 (.string s) = some (kl s) := Go.WideMaps.keyOf_string_mk Tryd.underlying9 (by simp only [maxLen]; omega)
theorem kl_inj {s t : ByteArray} (h : kl s = kl t) : s = t := by
  unfold kl at h
  injection h with h
  exact bytes_ext (by rw [ByteArray.toList_eq, ByteArray.toList_eq]; exact h)
/-- Block b is a set of texts, of at most n entries, that has just what S says. -/
def SetIs (w : World) (b n : Nat) (S : ByteArray → Bool) : Prop := ∃ D : DataW Unit, w.ownsMap Tryd.prog 9 unitElem b n D ∧ ∀ s, Maps.has D (kl s) = S s
theorem kl_key (s : ByteArray) (h : s.size ≤ 140737488355328) : WideAt.IsKeyLit (kl s) := keyed.key (kl_of s h)
theorem SetIs.new (w : World) : SetIs (w.alloc (.map #[] 0)) w.heap.size 0 (fun _ => false) := ⟨_, World.ownsMap_made w _ _ _, fun _ => rfl⟩
theorem SetIs.mono {w : World} {b n n' : Nat} {S : ByteArray → Bool} (h : SetIs w b n S) (hn : n ≤ n') : SetIs w b n' S := by
  obtain ⟨D, h1, h2⟩ := h
  exact ⟨D, h1.mono hn, h2⟩
theorem SetIs.same {w : World} {b n : Nat} {S T : ByteArray → Bool} (h : SetIs w b n S) (hs : ∀ s, S s = T s) : SetIs w b n T := by
  obtain ⟨D, h1, h2⟩ := h
  exact ⟨D, h1, fun s => (h2 s).trans (hs s)⟩
theorem SetIs.lt {w : World} {b n : Nat} {S : ByteArray → Bool} (h : SetIs w b n S) : b < w.heap.size := by
  obtain ⟨D, ⟨es, clock, hb, _⟩, _⟩ := h
  exact (Array.getElem?_eq_some_iff.1 hb).1
theorem SetIs.kept {w w' : World} {b n : Nat} {S : ByteArray → Bool} (h : SetIs w b n S) (hk : w'.heap[b]? = w.heap[b]?) : SetIs w' b n S := by
  obtain ⟨D, ⟨es, clock, hb, r⟩, h2⟩ := h
  exact ⟨D, ⟨es, clock, hk.trans hb, r⟩, h2⟩
theorem SetIs.below {w w' : World} {b n : Nat} {S : ByteArray → Bool} (h : SetIs w b n S) (hb : Below w.heap.size w w') : SetIs w' b n S := h.kept (hb.block b h.lt)
theorem has_put (D : DataW Unit) (hD : IsMap D) (s x : ByteArray) (hs : s.size ≤ 140737488355328) (d : DataW Unit) : Maps.has (D.put (kl s) d) (kl x) = (Maps.has D (kl x) || decide (x = s)) := by
  by_cases h : x = s
  · subst h
    rw [has_put_same hD (kl_key x hs) d]
    simp
  · rw [has_put_other (fun e => h (kl_inj e)) d]
    simp [h]
/-- m[s] = struct{}{} -/
theorem SetIs.put {w w' : World} {b n : Nat} {S : ByteArray → Bool} {D : DataW Unit} (hD : w.ownsMap Tryd.prog 9 unitElem b n D) (h2 : ∀ s, Maps.has D (kl s) = S s) {s : ByteArray} (hs : s.size ≤ 140737488355328) (h3 : w'.ownsMap Tryd.prog 9 unitElem b (n + 1) (D.put (kl s) (.agg []))) : SetIs w' b (n + 1) (fun x => S x || decide (x = s)) :=
  ⟨_, h3, fun x => by rw [has_put D hD.isMap s x hs, h2]⟩
theorem Below.map {B : Nat} {a w w' : World} {b : Nat} (h : Below B a w) (hg : w.grownBy w' (some b)) (hb : B ≤ b) (hw : B ≤ w.heap.size) : Below B a w' := h.grown hg hw (fun k hk => by cases hk; exact hb)
end Go.Proofs.YtgopflklcfcocaaDoor
