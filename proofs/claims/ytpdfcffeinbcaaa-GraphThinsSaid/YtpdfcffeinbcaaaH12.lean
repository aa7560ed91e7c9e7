/- PLAIN: what some nodes have a way to of one edge or more, without going through a node; places that are true. -/
import Derived.Test.YtpdfcffeinbcaaaH11
namespace Go.Proofs.Ytpdfcffeinbcaaa
open Go.RowKit
inductive Way (adj : Int → List Int) (wo : Int) (src : List Int) : Int → Prop
  | base {s y : Int} : s ∈ src → s ≠ wo → y ∈ adj s → y ≠ wo → Way adj wo src y
  | step {x y : Int} : Way adj wo src x → y ∈ adj x → y ≠ wo → Way adj wo src y
theorem Way.ne {adj : Int → List Int} {wo : Int} {src : List Int} {x : Int} (h : Way adj wo src x) : x ≠ wo := by cases h <;> assumption
def pushW (wo : Int) (all l : List Int) : List Int := l.foldl (fun a y => if y = wo ∨ y ∈ a then a else a ++ [y]) all
theorem pushW_snoc (wo : Int) (all l : List Int) (y : Int) : pushW wo all (l ++ [y]) = if y = wo ∨ y ∈ pushW wo all l then pushW wo all l else pushW wo all l ++ [y] := by
  unfold pushW; rw [List.foldl_append]; rfl
theorem pushW_cons (wo : Int) (all l : List Int) (y : Int) : pushW wo all (y :: l) = pushW wo (if y = wo ∨ y ∈ all then all else all ++ [y]) l := rfl
theorem pushW_pre (wo : Int) (l : List Int) : ∀ all : List Int, ∃ t, pushW wo all l = all ++ t ∧ (∀ y ∈ t, y ∈ l ∧ y ≠ wo ∧ y ∉ all) ∧ t.Nodup ∧ ∀ y ∈ l, y ≠ wo → y ∈ all ++ t := by
  induction l with
  | nil => intro all; exact ⟨[], by simp [pushW], by simp, by simp, by simp⟩
  | cons z l ih =>
    intro all
    rw [pushW_cons]
    by_cases h : z = wo ∨ z ∈ all
    · rw [if_pos h]
      obtain ⟨t, h1, h2, h3, h4⟩ := ih all
      refine ⟨t, h1, fun y hy => ⟨List.mem_cons_of_mem _ (h2 y hy).1, (h2 y hy).2⟩, h3, fun y hy hne => ?_⟩
      rcases List.mem_cons.1 hy with rfl | hy
      · exact List.mem_append_left _ (h.resolve_left hne)
      · exact h4 y hy hne
    · rw [if_neg h]
      obtain ⟨t, h1, h2, h3, h4⟩ := ih (all ++ [z])
      refine ⟨z :: t, by rw [h1]; simp, fun y hy => ?_, ?_, fun y hy hne => ?_⟩
      · rcases List.mem_cons.1 hy with rfl | hy
        · exact ⟨by simp, fun e => h (.inl e), fun e => h (.inr e)⟩
        · obtain ⟨a, b, c⟩ := h2 y hy
          exact ⟨List.mem_cons_of_mem _ a, b, fun e => c (List.mem_append_left _ e)⟩
      · rw [List.nodup_cons]
        exact ⟨fun hz => (h2 z hz).2.2 (by simp), h3⟩
      · rcases List.mem_cons.1 hy with rfl | hy
        · simp
        · have := h4 y hy hne
          simpa using this
structure Dfs (adj : Int → List Int) (wo : Int) (n : Nat) (src S todo : List Int) : Prop where
  nod : S.Nodup
  rng : ∀ x ∈ S, 0 ≤ x ∧ x < (n : Int)
  snd : ∀ x ∈ S, Way adj wo src x
  tod : ∀ t ∈ todo, t ∈ src ∨ t ∈ S
  clo : ∀ x, (x ∈ src ∨ x ∈ S) → x ≠ wo → x ∈ todo ∨ ∀ y ∈ adj x, y ≠ wo → y ∈ S
theorem dfs_start {adj : Int → List Int} {wo : Int} {n : Nat} {src : List Int} : Dfs adj wo n src [] src :=
  ⟨by simp, by simp, by simp, fun t h => .inl h, fun x hx _ => .inl (hx.elim id (fun h => by cases h))⟩
theorem Dfs.skip {adj : Int → List Int} {wo : Int} {n : Nat} {src S t : List Int} (h : Dfs adj wo n src S (t ++ [wo])) : Dfs adj wo n src S t :=
  ⟨h.nod, h.rng, h.snd, fun x hx => h.tod x (by simp [hx]), fun x hx hne => (h.clo x hx hne).imp (fun h => by simpa [hne] using h) id⟩
theorem Dfs.next {adj : Int → List Int} {wo : Int} {n : Nat} {src S t N : List Int} {x : Int} (h : Dfs adj wo n src S (t ++ [x])) (hx : x ≠ wo) (hN : pushW wo S (adj x) = S ++ N) (ha : ∀ y ∈ adj x, 0 ≤ y ∧ y < (n : Int)) : Dfs adj wo n src (S ++ N) (t ++ N) := by
  obtain ⟨N', h1, h2, h3, h4⟩ := pushW_pre wo (adj x) S
  rw [hN] at h1
  obtain rfl := List.append_cancel_left h1
  have hxw : (x ∈ src ∨ x ∈ S) := h.tod x (by simp)
  refine ⟨?_, fun y hy => ?_, fun y hy => ?_, fun y hy => ?_, fun z hz hne => ?_⟩
  · rw [List.nodup_append]
    exact ⟨h.nod, h3, fun a ha b hb e => by subst e; exact (h2 a hb).2.2 ha⟩
  · rcases List.mem_append.1 hy with hy | hy
    · exact h.rng y hy
    · exact ha y (h2 y hy).1
  · rcases List.mem_append.1 hy with hy | hy
    · exact h.snd y hy
    · obtain ⟨hy1, hy2, _⟩ := h2 y hy
      rcases hxw with hs | hs
      · exact .base hs hx hy1 hy2
      · exact .step (h.snd x hs) hy1 hy2
  · rcases List.mem_append.1 hy with hy | hy
    · exact (h.tod y (by simp [hy])).imp id (List.mem_append_left _)
    · exact .inr (List.mem_append_right _ hy)
  · have hold : (z ∈ src ∨ z ∈ S) → z ∈ t ++ N ∨ ∀ y ∈ adj z, y ≠ wo → y ∈ S ++ N := fun hz => by
      rcases h.clo z hz hne with hc | hc
      · rcases List.mem_append.1 hc with hc | hc
        · exact .inl (List.mem_append_left _ hc)
        · obtain rfl : z = x := by simpa using hc
          exact .inr h4
      · exact .inr (fun y hy hy2 => List.mem_append_left _ (hc y hy hy2))
    rcases hz with hz | hz
    · exact hold (.inl hz)
    · rcases List.mem_append.1 hz with hz | hz
      · exact hold (.inr hz)
      · exact .inl (List.mem_append_right _ hz)
theorem Dfs.end_ {adj : Int → List Int} {wo : Int} {n : Nat} {src S : List Int} (h : Dfs adj wo n src S []) (x : Int) : x ∈ S ↔ Way adj wo src x := by
  refine ⟨h.snd x, fun hw => ?_⟩
  induction hw with
  | base hs hne hy hy2 => exact (h.clo _ (.inl hs) hne).elim (fun h => by cases h) (fun hc => hc _ hy hy2)
  | step hx hy hy2 ih => exact (h.clo _ (.inr ih) hx.ne).elim (fun h => by cases h) (fun hc => hc _ hy hy2)
/-- The places below n that are true. -/
def toldL (f : Nat → Bool) (n : Nat) : List Int := ((List.range n).filter f).map Int.ofNat
theorem toldL_succ (f : Nat → Bool) (n : Nat) : toldL f (n + 1) = if f n = true then toldL f n ++ [(n : Int)] else toldL f n := by
  unfold toldL
  rw [List.range_succ, List.filter_append, List.map_append]
  by_cases h : f n = true
  · rw [if_pos h]; simp [h]
  · rw [if_neg h]; simp [h]
theorem mem_toldL {f : Nat → Bool} {n : Nat} {x : Int} : x ∈ toldL f n ↔ 0 ≤ x ∧ x < (n : Int) ∧ f x.toNat = true := by
  unfold toldL
  rw [List.mem_map]
  constructor
  · rintro ⟨i, hi, rfl⟩
    rw [List.mem_filter, List.mem_range] at hi
    exact ⟨Int.natCast_nonneg i, Int.ofNat_lt.2 hi.1, hi.2⟩
  · rintro ⟨h0, h1, h2⟩
    refine ⟨x.toNat, ?_, by simp [Int.ofNat_eq_natCast]; omega⟩
    rw [List.mem_filter, List.mem_range]
    exact ⟨by omega, h2⟩
theorem toldL_rising (f : Nat → Bool) (n : Nat) : (toldL f n).Pairwise (· < ·) := by
  unfold toldL
  rw [List.pairwise_map]
  exact (List.pairwise_lt_range.filter _).imp (by intro a b h; exact Int.ofNat_lt.2 h)
theorem toldL_len (f : Nat → Bool) (n : Nat) : (toldL f n).length ≤ n := by
  unfold toldL; rw [List.length_map]; exact Nat.le_trans (List.length_filter_le _ _) (by simp)
set_option maxHeartbeats 1000000 in
theorem told_c {w : World} {b n d : Nat} {f : Nat → Bool} (hn : n ≤ 4096) (hb : b < w.heap.size) (hc : ∀ i, i < n → w.cell? ⟨b, i, none⟩ = some (.bool (f i))) :
    Calls Try.prog 54 #[.slice (some ⟨b, 0, none⟩) n d] w (OwnInts (toldL f n) w) := by
  have HC := Lib.hid hc
  clear hc
  go_enter Try.func54, Try.ntmps54
  go_wp2
  have h0 : (w.alloc (.cells #[] 3)).ownsRow w.heap.size 3 1 (.slice (some ⟨w.heap.size, 0, none⟩) 0 0) 0 [] := World.ownsRow_made w #[] 0 (Nat.le_refl _) (by simp [maxLen]) (by simp)
  have hb0 : Below w.heap.size w (w.alloc (.cells #[] 3)) := (Below.refl _ _).alloc (Nat.le_refl _) _
  generalize w.alloc (.cells #[] 3) = w0 at *
  have H0 := Lib.hid h0
  have HB0 := Lib.hid hb0
  clear h0 hb0
  go_loopw [3, 4] (fun v i wr => ∃ j : Nat, i = .int .i64 j ∧ j ≤ n ∧ wr.ownsRow w.heap.size 3 1 v (toldL f j).length (I (toldL f j)) ∧ Below w.heap.size w wr) (fun _ i _ => n - (intOf i).toNat)
  case atStart => exact ⟨0, rfl, by omega, H0.out, HB0.out⟩
  case round =>
    obtain ⟨j, rfl, hj, hown, hbel⟩ := hrel
    by_cases hlt : j < n
    · have hj0 : (0 : Int) ≤ (j : Int) := by omega
      have hj1 : (j : Int) < (n : Int) := by omega
      have hcj := (hbel.cell (p := ⟨b, j, none⟩) hb).trans (HC.out j hlt)
      have hsucc := toldL_succ f j
      have hil : (I (toldL f j)).length = (toldL f j).length := List.length_map _
      have hlen := toldL_len f j
      have hown2 : wr.ownsRow w.heap.size 3 1 u3 (I (toldL f j)).length (I (toldL f j)) := by rw [hil]; exact hown
      have hbs := hbel.size
      have HSU := Lib.hid hsucc
      have HIL := Lib.hid hil
      have HOWN := Lib.hid hown
      have HOWN2 := Lib.hid hown2
      have HBEL := Lib.hid hbel
      clear hsucc hil hown hown2 hbel
      cases hf : f j with
      | true =>
        rw [hf] at hcj
        have HF := Lib.hid hf
        clear hf
        go_wp2_with (at_builtin; refine app_new w.heap.size (by rfl) _ _ 25 3 (.int .i64 0) 8 (by rfl) Try.underlying25 info_int rfl _ (I (toldL f j)) (.int .i64 (j : Int)) (by rfl) _ (by rfl) rfl rfl HOWN2.out hbs (by have := HIL.out; omega) (by have := HIL.out; omega) ?_; intro v5 w5 ho5 hg5 hb5 hs5)
        have hb5' : Below w.heap.size w w5 := HBEL.out.grown hg5 HBEL.out.size (fun k e => (HOWN.out.lt k e).1)
        have HB5 := Lib.hid hb5'
        rw [HIL.out] at ho5
        clear hb5' hg5 hb5
        go_roundw
        case rel =>
          refine ⟨j + 1, by go_num, by omega, ?_, HB5.out⟩
          rw [HSU.out, if_pos HF.out]
          have e : I (toldL f j ++ [(j : Int)]) = I (toldL f j) ++ [.int .i64 (j : Int)] := List.map_append
          rw [e, List.length_append]
          exact ho5
        case measure => simp [intOf]; omega
      | false =>
        rw [hf] at hcj
        have HF := Lib.hid hf
        clear hf
        go_wp2
        go_roundw
        case rel => exact ⟨j + 1, by go_num, by omega, by rw [HSU.out, if_neg (by rw [HF.out]; decide)]; exact HOWN.out, HBEL.out⟩
        case measure => simp [intOf]; omega
    · have hge : ¬ (j : Int) < (n : Int) := by omega
      obtain rfl : j = n := by omega
      obtain ⟨Y, dY, hvY, hrY⟩ := own_row1 hown
      rw [List.length_map] at hvY
      subst hvY
      have HOWN := Lib.hid hown
      have HBEL := Lib.hid hbel
      clear hown hbel hrY
      go_wp2
      go_ret
      exact ⟨Y, dY, rfl, HOWN.out, HBEL.out⟩
end Go.Proofs.Ytpdfcffeinbcaaa
