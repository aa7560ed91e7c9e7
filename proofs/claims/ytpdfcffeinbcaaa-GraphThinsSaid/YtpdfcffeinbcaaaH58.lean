/- The chapter's two examples. -/
import Derived.Test.YtpdfcffeinbcaaaH49
import Derived.Test.YtpdfcffeinbcaaaH38
import Derived.Test.YtpdfcffeinbcaaaH39
import Derived.Test.YtpdfcffeinbcaaaH18
namespace Go.Proofs.Ytpdfcffeinbcaaa
open Go.RowKit
theorem glong2_c (g : XG) (E : Option Addr) (d : Nat) (wts : List Int) (X : Option Addr) (c : Nat) (w : World) (h : GAt w E g) (hl : g.es.length ≤ 4611686018427387904) (hr : RowAt w X (I wts)) (hwl : wts.length ≤ 4611686018427387904) :
    Calls Try.prog 29 #[g.val E d, .slice X wts.length c] w (LonPost g wts w) := by
  by_cases hok : lonOk g wts
  · exact glong_yes g E d wts X c w h hl hr hok
  · exact glong_no g E d wts X c w h hl hr hwl hok
def gA : XG := ⟨4, [(0, 1), (1, 2), (2, 1), (2, 3)]⟩
def gB : XG := ⟨4, [(0, 2), (1, 2), (2, 3), (0, 3)]⟩
theorem gA_chk : chkF gA = 0 := by decide
theorem gB_chk : chkF gB = 0 := by decide
theorem gA_edge {a b : Int} : Edg gA a b ↔ (a = 0 ∧ b = 1) ∨ (a = 1 ∧ b = 2) ∨ (a = 2 ∧ b = 1) ∨ (a = 2 ∧ b = 3) := by
  unfold Edg gA
  simp
theorem gA_round : roundL gA = [1, 2] := by
  have hg := chkF_good.1 gA_chk
  refine rising_ext (by unfold roundL; rw [if_pos gA_chk]; exact toldL_rising _ _) (by simp) fun x => ?_
  rw [mem_roundL hg]
  have h12 : TG gA 1 2 := .single (gA_edge.2 (by simp))
  have h21 : TG gA 2 1 := .single (gA_edge.2 (by simp))
  constructor
  · intro h
    have hr := (tg_in hg h).1
    have h0 : ∀ a, ¬ TG gA a 0 := fun a h => by
      cases h with
      | single h => have := gA_edge.1 h; omega
      | tail _ h => have := gA_edge.1 h; omega
    have h3 : ∀ b, ¬ TG gA 3 b := fun b h => by
      induction h with
      | single h => have := gA_edge.1 h; omega
      | tail _ _ ih => exact ih
    have hn : gA.n = 4 := rfl
    have : x ≠ 0 := fun e => by subst e; exact h0 _ h
    have : x ≠ 3 := fun e => by subst e; exact h3 _ h
    simp
    omega
  · intro h
    simp at h
    rcases h with rfl | rfl
    · exact h12.trans h21
    · exact h21.trans h12
def adjB (i : Int) : List Int := if i = 0 then [2, 3] else if i = 1 then [2] else if i = 2 then [3] else []
theorem gB_next : nxt gB = adjB := by
  funext i
  refine rising_ext (nxt_rising gB i) ?_ fun x => ?_
  · unfold adjB
    repeat' split
    all_goals simp
  · rw [mem_nxt]
    unfold gB adjB
    simp
    repeat' split
    all_goals simp
    all_goals omega
theorem gB_ord : ordF adjB 4 = [0, 1, 2, 3] := by decide
theorem gB_ordE : ordE gB = 0 := by
  unfold ordE
  rw [if_pos gB_chk, gB_next]
  show (if (ordF adjB 4).length = 4 then (0 : Int) else 150) = 0
  rw [gB_ord]; rfl
theorem gB_ordL : ordL gB = [0, 1, 2, 3] := by
  unfold ordL
  rw [if_pos gB_ordE, gB_next]
  exact gB_ord
def wB : List Int := [5, 1, 1, 1]
theorem gB_lonE : lonE gB wB = 0 := by
  unfold lonE
  rw [if_neg (by rw [gB_chk]; simp), if_neg (by decide), gB_ordE]
theorem gB_lonOk : lonOk gB wB := ⟨gB_lonE, by decide⟩
def tB : Int → Int := lonF (wtF wB) adjB (wtF wB) [3, 2, 1, 0]
theorem gB_lonT : lonT gB wB = tB := by
  unfold lonT lonS tB
  rw [gB_next]
  show lonF (wtF wB) adjB (wtF wB) (ordF adjB 4).reverse = _
  rw [gB_ord]; rfl
theorem gB_sum : lonSum gB wB = 7 := by
  unfold lonSum
  rw [if_pos gB_lonOk, gB_lonT]
  show tB (fstF tB 4) = 7
  decide
theorem gB_way : lonWay gB wB = [0, 2, 3] := by
  unfold lonWay
  rw [if_pos gB_lonOk, gB_lonT]
  have e : lonX gB wB = fun v => (nxS tB (adjB v)).2 := by
    funext v
    unfold lonX lonN
    rw [show lonS gB (wtF wB) = tB from gB_lonT, gB_next]
  rw [e]
  show pathGo (fun v => (nxS tB (adjB v)).2) 4 (fstF tB 4) = _
  decide
end Go.Proofs.Ytpdfcffeinbcaaa
