/- PLAIN: what Longest answers. -/
import Derived.Test.YtpdfcffeinbcaaaH36
namespace Go.Proofs.Ytpdfcffeinbcaaa
open Go.RowKit
def wtF (wts : List Int) (i : Int) : Int := if i < 0 then 0 else wts.getD i.toNat 0
theorem wtF_get {wts : List Int} {i : Nat} (h : i < wts.length) : wtF wts i = wts[i] := by unfold wtF; rw [if_neg (by omega)]; simp [List.getD, h]
theorem wtF_bound {wts : List Int} (h : wts.any badB = false) (i : Int) : 0 ≤ wtF wts i ∧ wtF wts i ≤ 1099511627776 := by
  unfold wtF
  split
  · omega
  · rw [List.getD_eq_getElem?_getD]
    rcases Nat.lt_or_ge i.toNat wts.length with c | c
    · rw [List.getElem?_eq_getElem c]
      have := List.any_eq_false.1 h _ (List.getElem_mem c)
      unfold badB at this
      simp at this
      simpa using this
    · rw [List.getElem?_eq_none c]; simp
def lonE (g : XG) (wts : List Int) : Int := if chkF g ≠ 0 then chkF g else if wts.length ≠ g.n.toNat ∨ wts.any badB = true then 1 else ordE g
def lonT (g : XG) (wts : List Int) : Int → Int := lonS g (wtF wts)
def lonX (g : XG) (wts : List Int) : Int → Int := lonN g (wtF wts)
def lonOk (g : XG) (wts : List Int) : Prop := lonE g wts = 0 ∧ 0 < g.n
instance (g : XG) (wts : List Int) : Decidable (lonOk g wts) := by unfold lonOk; infer_instance
def lonSum (g : XG) (wts : List Int) : Int := if lonOk g wts then lonT g wts (fstF (lonT g wts) g.n.toNat) else 0
def lonWay (g : XG) (wts : List Int) : List Int := if lonOk g wts then pathGo (lonX g wts) g.n.toNat (fstF (lonT g wts) g.n.toNat) else []
structure LonOk (g : XG) (wts : List Int) : Prop where
  good : Good g
  len : wts.length = g.n.toNat
  fine : wts.any badB = false
  ord : ordE g = 0
  full : (ordF (nxt g) g.n.toNat).length = g.n.toNat
  no : ∀ x, ¬ TG g x x
  pos : 0 < g.n
theorem lonOk_is {g : XG} {wts : List Int} (h : lonOk g wts) : LonOk g wts := by
  obtain ⟨h, hp⟩ := h
  unfold lonE at h
  split at h
  · rename_i hc; exact absurd h hc
  · rename_i hc
    split at h
    · omega
    · rename_i hw
      obtain ⟨h1, h2, h3⟩ := ordE_zero h
      refine ⟨h1, ?_, ?_, h, h2, h3, hp⟩
      · apply Classical.byContradiction; intro hl; exact hw (.inl hl)
      · cases hb : wts.any badB with
        | false => rfl
        | true => exact absurd (.inr hb) hw
section
variable {g : XG} {wts : List Int}
theorem LonOk.back (h : LonOk g wts) : Back (nxt g) (ordF (nxt g) g.n.toNat).reverse := back_order h.good h.full
theorem LonOk.recur (h : LonOk g wts) {v : Int} (hv : 0 ≤ v ∧ v < g.n) : lonT g wts v = wtF wts v + maxs (lonT g wts) 0 (nxt g v) := by
  have hn := h.good.n0
  exact lonF_rec h.back (List.mem_reverse.2 (ord_all h.full (by omega)))
theorem LonOk.nx (h : LonOk g wts) (v : Int) : (nxS (lonT g wts) (nxt g v)).1 = maxs (lonT g wts) 0 (nxt g v) ∧ IsNx (lonT g wts) (nxt g v) (lonX g wts v) :=
  nxS_is (fun w hw => (h.good.all _ (mem_nxt.1 hw)).2.1)
theorem LonOk.bound (h : LonOk g wts) (v : Int) : 0 ≤ lonT g wts v ∧ lonT g wts v ≤ 4503599627370496 * 2 := by
  have hb := wtF_bound h.fine
  have := lonF_bound (wt := wtF wts) (adj := nxt g) (f0 := wtF wts) (by omega) hb hb (ordF (nxt g) g.n.toNat).reverse v
  have h1 := h.good.n1
  have h2 := h.good.n0
  rw [List.length_reverse, h.full] at this
  have h3 : ((g.n.toNat : Int) + 1) * 1099511627776 ≤ 4503599627370496 * 2 := by omega
  unfold lonT lonS
  omega
/-- One goes on just where something is left. -/
theorem LonOk.goes (h : LonOk g wts) {v : Int} : 0 < maxs (lonT g wts) 0 (nxt g v) ↔ ¬ lonX g wts v < 0 := by
  have hx := (h.nx v).2
  have hg := (maxs_ge (lonT g wts) (nxt g v) 0).1
  constructor
  · intro hp
    obtain ⟨h1, _, _⟩ := hx.some_ (by omega)
    have := (h.good.all _ (mem_nxt.1 h1)).2
    simp only at this
    omega
  · intro hn
    apply Classical.byContradiction
    intro hp
    have := hx.none_ (by omega)
    omega
theorem LonOk.next (h : LonOk g wts) {v : Int} (hp : 0 < maxs (lonT g wts) 0 (nxt g v)) : Edg g v (lonX g wts v) ∧ lonT g wts (lonX g wts v) = maxs (lonT g wts) 0 (nxt g v) ∧ ∀ w ∈ nxt g v, lonT g wts w = maxs (lonT g wts) 0 (nxt g v) → lonX g wts v ≤ w := by
  obtain ⟨h1, h2, h3⟩ := (h.nx v).2.some_ (by omega)
  exact ⟨mem_nxt.1 h1, h2, h3⟩
/-- A way so far: each leads on to all behind it. -/
structure OnWay (g : XG) (wts : List Int) (t : List Int) (v : Int) (k : Nat) : Prop where
  chain : (t ++ [v]).Pairwise (TG g)
  rng : ∀ x ∈ t ++ [v], 0 ≤ x ∧ x < g.n
  len : t.length + k = g.n.toNat
  whole : t ++ pathGo (lonX g wts) k v = lonWay g wts
theorem LonOk.start (h : LonOk g wts) (hok : lonOk g wts) : OnWay g wts [] (fstF (lonT g wts) g.n.toNat) g.n.toNat := by
  have hn := h.pos
  obtain ⟨h1, _, _⟩ := fstF_is (lonT g wts) g.n.toNat (by omega)
  refine ⟨by simp, fun x hx => ?_, by simp, ?_⟩
  · simp at hx; subst hx; omega
  · unfold lonWay; rw [if_pos hok]; rfl
theorem OnWay.at_ {t : List Int} {v : Int} {k : Nat} (h : OnWay g wts t v k) : 0 ≤ v ∧ v < g.n := h.rng v (by simp)
theorem OnWay.short {t : List Int} {v : Int} {k : Nat} (hl : LonOk g wts) (h : OnWay g wts t v k) : (t ++ [v]).length ≤ g.n.toNat := by
  have hn := hl.good.n0
  refine nodup_len _ _ ?_ (fun x hx => by have := h.rng x hx; omega)
  exact h.chain.imp (fun {a b} hab e => by subst e; exact hl.no _ hab)
theorem OnWay.step {t : List Int} {v : Int} {k : Nat} (hl : LonOk g wts) (h : OnWay g wts t v k) (hp : 0 < maxs (lonT g wts) 0 (nxt g v)) : ∃ k', k = k' + 1 ∧ OnWay g wts (t ++ [v]) (lonX g wts v) k' := by
  obtain ⟨he, _, _⟩ := hl.next hp
  have hr := (hl.good.all _ he).2
  simp only at hr
  have hc : ((t ++ [v]) ++ [lonX g wts v]).Pairwise (TG g) := by
    rw [List.pairwise_append]
    refine ⟨h.chain, by simp, fun a ha b hb => ?_⟩
    simp at hb
    subst hb
    rcases List.mem_append.1 ha with ha | ha
    · exact .tail ((List.pairwise_append.1 h.chain).2.2 a ha v (by simp)) he
    · simp at ha; subst ha; exact .single he
  have hrng : ∀ x ∈ (t ++ [v]) ++ [lonX g wts v], 0 ≤ x ∧ x < g.n := fun x hx => by
    rcases List.mem_append.1 hx with hx | hx
    · exact h.rng x hx
    · simp at hx; subst hx; exact hr
  have hn := hl.good.n0
  have hlen : ((t ++ [v]) ++ [lonX g wts v]).length ≤ g.n.toNat := nodup_len _ _ (hc.imp (fun {a b} hab e => by subst e; exact hl.no _ hab)) (fun x hx => by have := hrng x hx; omega)
  simp at hlen
  have hk := h.len
  obtain ⟨k', rfl⟩ : ∃ k', k = k' + 1 := ⟨k - 1, by omega⟩
  refine ⟨k', rfl, hc, hrng, by simp; omega, ?_⟩
  have := h.whole
  rw [pathGo_step ((hl.goes).1 hp)] at this
  rw [← this]; simp
theorem OnWay.done {t : List Int} {v : Int} {k : Nat} (hl : LonOk g wts) (h : OnWay g wts t v k) (hp : ¬ 0 < maxs (lonT g wts) 0 (nxt g v)) : t ++ [v] = lonWay g wts := by
  have hx : lonX g wts v < 0 := by
    apply Classical.byContradiction
    intro hn
    exact hp (hl.goes.2 hn)
  rw [← h.whole, pathGo_stop hx]
end
/-- The answer of Longest. -/
def LonPost (g : XG) (wts : List Int) (w : World) (e : Ending) (w' : World) : Prop := ∃ X d, e = .returned (.tuple #[.int .i64 (lonSum g wts), .slice X (lonWay g wts).length d, .int .i64 (lonE g wts)]) ∧ RowAt w' X (I (lonWay g wts)) ∧ Below w.heap.size w w'
theorem lonPost_no {g : XG} {wts : List Int} {w w' : World} (h : ¬ lonOk g wts) (hb : Below w.heap.size w w') {k : Int} (hk : lonE g wts = k) : LonPost g wts w (.returned (.tuple #[.int .i64 0, .slice none 0 0, .int .i64 k])) w' := by
  have h1 : lonSum g wts = 0 := by unfold lonSum; rw [if_neg h]
  have h2 : lonWay g wts = [] := by unfold lonWay; rw [if_neg h]
  exact ⟨none, 0, by rw [h1, h2, hk]; rfl, by rw [h2]; exact .inl rfl, hb⟩
end Go.Proofs.Ytpdfcffeinbcaaa
