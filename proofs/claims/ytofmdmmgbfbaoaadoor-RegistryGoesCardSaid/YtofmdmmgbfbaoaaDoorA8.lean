/- names.walk with Check's function. -/
import Derived.Test.YtofmdmmgbfbaoaaDoorA7
namespace Go.Proofs.YtofmdmmgbfbaoaaDoor
open Go.RowKit

def seeF (o : XOp) (L : List ByteArray) : Bool := o.kind != 4 || memB o.text L
theorem check1_c (es : List XOp) (L : List ByteArray) (A B : Option Addr) (c d pos bx : Nat) (w : World) (hx : OpsAt w A es) (hL : StrsAt w B L) (hl : es.length ≤ 256) (hll : L.length ≤ 140737488355328) (hp : pos < es.length) (hcx : w.cell? ⟨bx, 0, none⟩ = some (.slice A es.length c)) :
    Calls Tryd.prog 54 #[.int .i64 pos, .slice B L.length d, .pointer (some ⟨bx, 0, none⟩)] w fun e w' => e = .returned (.bool (seeF es[pos] L)) ∧ w = w' := by
  rcases hx with rfl | ⟨b, off, rfl, hb, hc⟩
  · simp at hp
  obtain ⟨h0, h1, h2, h3⟩ := hc pos hp
  clear hc
  go_enter Tryd.func54, Tryd.ntmps54
  go_wp2_with (go_at_call 49; refine (contains_str L _ _ _ _ hL hll).mono ?_; rintro e w' ⟨rfl, rfl⟩)
  all_goals (go_ret; refine ⟨ret_bool ?_, rfl⟩; simp [seeF, *])

/-- What walk comes to. -/
def walkF (es : List XOp) (fr : List Nat) : Nat → Nat → List ByteArray → Bool
  | 0, _, _ => false
  | f + 1, pos, L =>
    match es[pos]? with
    | none => false
    | some o => seeF o L && ((partsGo fr o.n.toNat pos).zipIdx.all fun x => walkF es fr f x.1 (if o.kind = 19 ∧ x.2 = 1 then L ++ [o.text] else L))
/-- What is known of a whole. -/
structure Whole (es : List XOp) (fr : List Nat) : Prop where
  len : es.length ≤ 256
  flen : fr.length = es.length
  fle : ∀ x ∈ fr, x ≤ 256
  parts : ∀ (pos : Nat) (h : pos < es.length), ∃ m : Nat, es[pos].n = (m : Int) ∧ m ≤ 256 ∧ chainOk fr m pos ∧ ∀ p ∈ partsGo fr m pos, p < pos

theorem walkF_unfold {es : List XOp} {fr : List Nat} {f pos : Nat} {L : List ByteArray} (h : pos < es.length) :
    walkF es fr (f + 1) pos L = (seeF es[pos] L && ((partsGo fr es[pos].n.toNat pos).zipIdx.all fun x => walkF es fr f x.1 (if es[pos].kind = 19 ∧ x.2 = 1 then L ++ [es[pos].text] else L))) := by
  rw [walkF, List.getElem?_eq_getElem h]
def locF (o : XOp) (L : List ByteArray) (j : Nat) : List ByteArray := if o.kind = 19 ∧ j = 1 then L ++ [o.text] else L
theorem zip_all {α : Type} {l : List α} {p : α × Nat → Bool} (h : ∀ j (hj : j < l.length), p (l[j], j) = true) : l.zipIdx.all p = true := by
  rw [List.all_eq_true]
  rintro ⟨x, j⟩ hx
  obtain ⟨_, hj, e⟩ := List.mem_zipIdx hx
  have h2 := h j (by simpa using hj)
  have e2 : x = l[j]'(by simpa using hj) := by simpa using e
  rw [e2]; exact h2
theorem zip_false {α : Type} {l : List α} {p : α × Nat → Bool} {j : Nat} (hj : j < l.length) (h : p (l[j], j) = false) : l.zipIdx.all p = false := by
  rw [List.all_eq_false]
  refine ⟨(l[j], j), ?_, by simp [h]⟩
  rw [List.mem_iff_getElem]
  exact ⟨j, by simpa using hj, by simp⟩
theorem all_false {α : Type} {l : List α} {p : α → Bool} {k : Nat} (h : k < l.length) (hp : p l[k] = false) : l.all p = false := by
  rw [List.all_eq_false]; exact ⟨l[k], List.getElem_mem h, by simp [hp]⟩

set_option maxHeartbeats 4000000 in
set_option maxRecDepth 100000 in
theorem walk_c (es : List XOp) (fr : List Nat) (A B : Option Addr) (c d bx : Nat) (W : Whole es fr) : ∀ (n pos f : Nat) (L : List ByteArray) (C : Option Addr) (cl : Nat) (w : World), pos < n → pos < es.length → pos < f → L.length + pos ≤ 600 →
    OpsAt w A es → NatsAt w B fr → StrsAt w C L → w.cell? ⟨bx, 0, none⟩ = some (.slice A es.length c) → bx < w.heap.size → (∀ o ∈ es, o.text.size ≤ 140737488355328) →
    Calls Tryd.prog 53 #[.slice A es.length c, .slice B fr.length d, .int .i64 pos, .slice C L.length cl, .func (.func 54) #[] #[.pointer (some ⟨bx, 0, none⟩)]] w
      fun e w' => e = .returned (.bool (walkF es fr f pos L)) ∧ Below w.heap.size w w' := by
  obtain ⟨i0, hi0, hz0, hz1, hz2⟩ := info_parts info_str
  intro n
  induction n with
  | zero => intro pos f L C cl w h; omega
  | succ n ih =>
    intro pos f L C cl w hpn hp hf hL hx hfr hLs hcx hbx ht
    obtain ⟨f, rfl⟩ : ∃ q, f = q + 1 := ⟨f - 1, by omega⟩
    have hu := walkF_unfold (fr := fr) (f := f) (L := L) hp
    obtain ⟨m, hm, hm2, hch, hpl⟩ := W.parts pos hp
    have hlen := W.len
    have hpm := partsGo_length fr m pos
    rw [hm, Int.toNat_natCast] at hu
    cases hs : seeF es[pos] L
    · rw [hs, Bool.false_and] at hu
      have HU := Lib.hid hu
      have HS := Lib.hid hs
      have HM := Lib.hid hm
      clear hu hs hm hpm
      go_enter Tryd.func53, Tryd.ntmps53
      go_wp2_with (go_at_call 54; refine (check1_c es L A C c cl pos bx _ hx hLs hlen (by omega) hp hcx).mono ?_; rw [HS.out]; rintro e w' ⟨rfl, rfl⟩)
      go_ret
      exact ⟨ret_bool HU.out.symm, Below.refl _ _⟩
    · rw [hs, Bool.true_and] at hu
      have HU := Lib.hid hu
      have HS := Lib.hid hs
      have HM := Lib.hid hm
      have HP := Lib.hid hpm
      have IH := Lib.hid ih
      have HW := Lib.hid W
      have HPL := Lib.hid hpl
      have HC := Lib.hid hch
      clear hu hs hm hpm ih hpl hch
      go_enter Tryd.func53, Tryd.ntmps53
      go_wp2_with (first | (go_at_call 54; refine (check1_c es L A C c cl pos bx _ hx hLs hlen (by omega) hp hcx).mono ?_; rw [HS.out]; rintro e w' ⟨rfl, rfl⟩) | (go_at_call 68; refine (parts_c es fr A B c d pos m _ hx hfr hlen (by rw [HW.out.flen]; exact hlen) hp HM.out hm2 HC.out HW.out.fle).mono ?_; rintro e w1 ⟨v, rfl, hown, hb1⟩; obtain ⟨V, cv, rfl, hvn, hvl⟩ := own_nats hown))
      have hbs := hb1.size
      go_loopw [24] (fun i wr => ∃ k : Nat, k ≤ m ∧ i = .int .i64 k ∧ Hid (∀ j (hj : j < (partsGo fr m pos).length), j < k → walkF es fr f (partsGo fr m pos)[j] (locF es[pos] L j) = true) ∧ Below w1.heap.size w1 wr) (fun i _ => m - (intOf i).toNat)
      case atStart => exact ⟨0, by omega, rfl, fun j _ h => by omega, Below.refl _ _⟩
      case round =>
        obtain ⟨k, hk, rfl, hr, hbel⟩ := hrel
        by_cases hlt : k < m
        · have hkp : k < (partsGo fr m pos).length := by rw [HP.out]; exact hlt
          have hpp := HPL.out _ (List.getElem_mem hkp)
          have hxr := (hx.below hb1).below hbel
          have hfrr := (hfr.below hb1).below hbel
          have hLr := (hLs.below hb1).below hbel
          have hvr := hvn.below hbel
          have hcxr := (hbel.cell (p := ⟨bx, 0, none⟩) (Nat.lt_of_lt_of_le hbx hbs)).trans ((hb1.cell (p := ⟨bx, 0, none⟩) hbx).trans hcx)
          have hbs2 := hbel.size
          rcases hvr with hv0 | ⟨bv, ov, rfl, hbv, hcv⟩
          · rw [hv0] at hkp; simp at hkp
          have hcvk := hcv k hkp
          clear hcv
          rcases hxr with hx0 | ⟨b, off, hAe, hb, hcr⟩
          · rw [hx0] at hp; simp at hp
          obtain ⟨h0, h1, h2, h3⟩ := hcr pos hp
          have hxr : OpsAt wr A es := .inr ⟨b, off, hAe, hb, hcr⟩
          clear hcr
          subst hAe
          by_cases hlet : es[pos].kind = 19 ∧ k = 1
          · have hloc : locF es[pos] L k = L ++ [es[pos].text] := by unfold locF; rw [if_pos hlet]
            have hb19 : (es[pos].kind == 19) = true := by simpa using hlet.1
            have hk1 : ((k : Int) == 1) = true := by simp; omega
            have HL := Lib.hid hloc
            have HNL := Lib.hid hlet
            clear hloc hlet
            have hi1 : (0 : Int) ≤ (pos : Int) := Int.natCast_nonneg _
            have hi2 : (pos : Int) < (es.length : Int) := by omega
            have hoo : (⟨b, off + pos * 4 + 3, none⟩ : Addr).block < wr.heap.size := hb
            go_wp2_with fail
            go_region_held3 (fun w' => w'.cell? ⟨b, off + pos * 4 + 3, none⟩ = some (.string es[pos].text)) (first | go_keep | (rw [hgrow.cell_far _ (by simp; omega) (fun e => by have h := (o3.lt _ e.symm).1; simp at h; omega)]; go_keep) | (rw [hgrow.cell_far _ (by simp; omega) (fun e => by have h := (o3.lt _ e.symm).1; simp at h; omega)]; simp; assumption) | (rw [hb3.cell (p := ⟨b, off + pos * 4 + 3, none⟩) (by simp; omega)]; go_keep) | (rw [hb3.cell (p := ⟨b, off + pos * 4 + 3, none⟩) (by simp; omega)]; simp; assumption))
              (first | (go_at_call 69; refine (clone_strs L C cl _ (hLr.below (by first | exact (Below.refl _ _).drew | exact ((Below.refl _ _).alloc (Nat.le_refl _) _).drew)) (by omega)).mono ?_; rintro e w3 ⟨v3, rfl, o3, hb3⟩; have hs3 : wr.heap.size ≤ w3.heap.size := Nat.le_trans (by simp) hb3.size) | ((refine step_append_lies _ (by rfl) _ _ _ (by rfl) wr.heap.size 9 i0 _ 1 16 Tryd.underlying38 hi0 hz0 hz1 hz2 rfl (by omega) v3 L.length _ (by rfl) (o3.alloc _) ⟨w3.heap.size, 0, none⟩ 1 1 [.string es[pos].text] (by rfl) (by rfl) (World.news_of_block (cs := #[.string es[pos].text]) (t := 9) (fr := (0, 0)) (heap_alloc_new _ _)) (by simp [Value.oneCell']) (by omega) (by simp only [maxLen]; omega) (by omega) (by simp; omega) (w3.heap.size + 1) (by simp) ?_); intro g4 cap4 w4 o4 hgrow hat hlt4) | ((refine step_append_lies _ (by rfl) _ _ _ (by rfl) _ 9 i0 _ 1 16 Tryd.underlying38 hi0 hz0 hz1 hz2 rfl (by omega) v3 L.length _ (by rfl) o3 ⟨wr.heap.size, 0, none⟩ 1 1 [.string es[pos].text] (by rfl) (by rfl) (fun j u hu => (hb3.cell (p := (⟨wr.heap.size, 0, none⟩ : Addr).add j) (by rw [add_any]; simp)).trans (cell_one_new _ _ _ j u hu)) (by simp [Value.oneCell']) (by omega) (by simp only [maxLen]; omega) (by omega) hb3.size w3.heap.size rfl ?_); intro g4 cap4 w4 o4 hgrow hat hlt4))
            all_goals
              have hge : ∀ q, v3.ownBlock = some q → wr.heap.size ≤ q := fun q hq => by have h := (o3.lt q hq).1; first | omega | (simp at h; omega)
              have bel4 : Below wr.heap.size wr w4 := by
                first
                  | exact (((Below.refl _ _).drew.trans hb3).alloc hs3 _).grown hgrow (by simp; omega) hge
                  | exact (((Below.refl _ _).alloc (Nat.le_refl _) _).drew.trans (hb3.mono (by simp))).grown hgrow hs3 hge
              have o5 : w4.ownsRow wr.heap.size 9 1 (.slice (some ⟨g4, 0, none⟩) (L.length + 1) cap4) (L.length + 1) ((L ++ [es[pos].text]).map Value.string) := by
                rw [List.map_append]
                rcases o4.2 with ⟨h, _⟩ | ⟨g', cap', cur, hv, hg, r⟩
                · cases h
                · cases hv
                  exact ⟨o4.1, .inr ⟨g4, cap4, cur, rfl, by first | omega | (simp at hg; omega), r⟩⟩
              obtain ⟨A5, c5, hA5, hs5, _⟩ := own_strs o5
              have hA6 : A5 = some ⟨g4, 0, none⟩ := by
                rw [List.length_append, List.length_singleton] at hA5
                injection hA5 with h _ _
                exact h.symm
              rw [hA6] at hs5
              have ih2 := IH.out (partsGo fr m pos)[k] f (L ++ [es[pos].text]) (some ⟨g4, 0, none⟩) cap4 w4 (by omega) (by omega) (by omega) (by rw [List.length_append, List.length_singleton]; omega) (hxr.below bel4) (hfrr.below bel4) hs5 ((bel4.cell (p := ⟨bx, 0, none⟩) (by simp; omega)).trans hcxr) (Nat.lt_of_lt_of_le (by omega) bel4.size) ht
              rw [List.length_append, List.length_singleton] at ih2
              have IH2 := Lib.hid ih2
              have hs4 := bel4.size
              clear ih2 hA5 hA6 hge o5 o4 hs5 hgrow hat o3
              go_wp2_with (go_at_call 53; refine IH2.out.mono ?_; rintro e w5 ⟨rfl, hb5⟩)
              · have hres : walkF es fr f (partsGo fr m pos)[k] (L ++ [es[pos].text]) = false := by
                  have : (!walkF es fr f (partsGo fr m pos)[k] (L ++ [es[pos].text])) = true := by assumption
                  simpa using this
                go_ret
                exact ⟨ret_bool (by rw [HU.out]; symm; exact zip_false hkp (by show walkF es fr f _ (locF es[pos] L k) = false; rw [HL.out]; exact hres)), hb1.trans ((hbel.trans ((bel4.trans (hb5.mono hs4)).mono hbs2)).mono hbs)⟩
              · have hres : walkF es fr f (partsGo fr m pos)[k] (L ++ [es[pos].text]) = true := by
                  have : (!walkF es fr f (partsGo fr m pos)[k] (L ++ [es[pos].text])) = false := by assumption
                  simpa using this
                go_roundw
                case rel =>
                  go_light
                  refine ⟨k + 1, by omega, by go_num, fun j hj hjk => ?_, hbel.trans ((bel4.trans (hb5.mono hs4)).mono hbs2)⟩
                  rcases Nat.lt_or_ge j k with h | h
                  · exact hr.out j hj h
                  · obtain rfl : j = k := by omega
                    rw [HL.out]; exact hres
                case measure => simp [intOf]; omega
          · have hloc : locF es[pos] L k = L := by unfold locF; rw [if_neg hlet]
            have hor : (es[pos].kind == 19) = false ∨ ((es[pos].kind == 19) = true ∧ ((k : Int) == 1) = false) := by
              by_cases h19 : es[pos].kind = 19
              · right; exact ⟨by simpa using h19, by simp; intro h; exact hlet ⟨h19, by omega⟩⟩
              · left; simpa using h19
            have HL := Lib.hid hloc
            have HNL := Lib.hid hlet
            clear hloc hlet
            rcases hor with hb19 | ⟨hb19, hk1⟩
            all_goals
              go_wp2_with (go_at_call 53; refine (IH.out (partsGo fr m pos)[k] f L C cl _ (by omega) (by omega) (by omega) (by omega) hxr hfrr hLr hcxr (by omega) ht).mono ?_; rintro e w2 ⟨rfl, hb2⟩)
              · have hres : walkF es fr f (partsGo fr m pos)[k] L = false := by
                  have : (!walkF es fr f (partsGo fr m pos)[k] L) = true := by assumption
                  simpa using this
                go_ret
                exact ⟨ret_bool (by rw [HU.out]; symm; exact zip_false hkp (by show walkF es fr f _ (locF es[pos] L k) = false; rw [HL.out]; exact hres)), hb1.trans ((hbel.trans (hb2.mono hbs2)).mono hbs)⟩
              · have hres : walkF es fr f (partsGo fr m pos)[k] L = true := by
                  have : (!walkF es fr f (partsGo fr m pos)[k] L) = false := by assumption
                  simpa using this
                go_roundw
                case rel =>
                  go_light
                  refine ⟨k + 1, by omega, by go_num, fun j hj hjk => ?_, hbel.trans (hb2.mono hbs2)⟩
                  rcases Nat.lt_or_ge j k with h | h
                  · exact hr.out j hj h
                  · obtain rfl : j = k := by omega
                    rw [HL.out]; exact hres
                case measure => simp [intOf]; omega
        · go_wp2
          go_ret
          refine ⟨ret_bool ?_, hb1.trans (hbel.mono hbs)⟩
          rw [HU.out]; symm
          exact zip_all (fun j hj => hr.out j hj (by rw [HP.out] at hj; omega))
end Go.Proofs.YtofmdmmgbfbaoaaDoor
