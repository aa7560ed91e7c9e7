/- A scheduler by a rule. -/
import Derived.Test.YtbgnchddeklmeaaK27
import Derived.Test.YtbgnchddeklmeaaK11
namespace Go.Proofs.Ytbgnchddeklmeaa
open Go.RowKit
theorem RowIn.wider {w : World} {lo n lo' n' : Nat} {bad : List Nat} {X : Option Addr} {xs : List Int} (h : RowIn w lo n bad X xs) (h1 : lo' ≤ lo) (h2 : lo + n ≤ lo' + n') : RowIn w lo' n' bad X xs := by
  rcases h with h | ⟨b, off, e, i1, i2, i3, i4, hc⟩
  · exact .inl h
  · exact .inr ⟨b, off, e, by omega, by omega, i3, i4, hc⟩
theorem SAt.wider {w : World} {lo n lo' n' s : Nat} {p : Pol} {last count : Int} {often : Nat → Int} (h : SAt w lo n s p last count often) (h1 : lo' ≤ lo) (h2 : lo + n ≤ lo' + n') (h3 : lo' + n' ≤ w.heap.size) : SAt w lo' n' s p last count often := by
  obtain ⟨i1, i2, i3, ty, pv, q, hS, hP⟩ := h
  refine ⟨by omega, by omega, h3, ty, pv, q, hS, ?_⟩
  rcases hP with hP | ⟨j1, j2, j3, j4, j5, X, d, j6, j7⟩ | ⟨j1, j2, j3, j4, X, d, j6, j7⟩ | ⟨j1, j2, b, j3, j4, j5, j6, j7, j8⟩ | ⟨j1, j2, j3, b, X, d, j4, j5, j6, j7, j8, j9, j10, j11, j12, j13⟩
  · exact .inl hP
  · exact .inr (.inl ⟨j1, j2, j3, j4, j5, X, d, j6, j7.wider h1 h2⟩)
  · exact .inr (.inr (.inl ⟨j1, j2, j3, j4, X, d, j6, j7.wider h1 h2⟩))
  · exact .inr (.inr (.inr (.inl ⟨j1, j2, b, j3, j4, by omega, by omega, j7, j8⟩)))
  · exact .inr (.inr (.inr (.inr ⟨j1, j2, j3, b, X, d, j4, j5, by omega, by omega, j8, j9, j10, j11, j12.wider h1 h2, j13⟩)))
theorem Fresh.later {w w1 w2 : World} {s : Nat} {p : Pol} (h : Fresh w1 w2 s p) (hb : Below w.heap.size w w1) : Fresh w w2 s p :=
  ⟨h.1.wider hb.size (by have := hb.size; have := h.2.size; omega) (by have := hb.size; have := h.2.size; omega), hb.trans (h.2.mono hb.size)⟩
theorem Made.later {k : Int} {p : Pol} {w w1 w2 : World} {e : Ending} (h : Made k p w1 e w2) (hb : Below w.heap.size w w1) : Made k p w e w2 := by
  unfold Made at h ⊢
  by_cases hk : k = 0
  · rw [if_pos hk] at h ⊢
    obtain ⟨s, he, hf⟩ := h
    exact ⟨s, he, hf.later hb⟩
  · rw [if_neg hk] at h ⊢
    exact ⟨h.1, hb.trans (h.2.mono hb.size)⟩
/-- Writes into a block that was there when the maker was called. -/
theorem Fresh.moves {w w1 w2 w3 : World} {g s : Nat} {p : Pol} (hb : Below w.heap.size w w1) (h : Fresh w1 w2 s p) (hg : w.heap.size ≤ g ∧ g < w1.heap.size) (hm : Moves [g] w2 w3) : Fresh w w3 s p :=
  ⟨(h.1.moves hm (by simp; omega)).wider hb.size (by have := hb.size; have := h.2.size; have := hm.2.2.2.1; omega) (by have := hb.size; have := h.2.size; have := hm.2.2.2.1; omega), (hb.trans (h.2.mono hb.size)).trans (hm.below (by have := hb.size; have := h.2.size; omega) (by simp; omega))⟩
theorem made_cases {k : Int} {p : Pol} {w : World} {e : Ending} {w' : World} (h : Made k p w e w') : (k = 0 ∧ ∃ s, e = .returned (.tuple #[.pointer (some ⟨s, 0, none⟩), .int .i64 k]) ∧ Fresh w w' s p) ∨ (k ≠ 0 ∧ e = .returned (.tuple #[.pointer none, .int .i64 k]) ∧ Below w.heap.size w w') := by
  unfold Made at h
  by_cases hk : k = 0
  · rw [if_pos hk] at h; exact .inl ⟨hk, by rw [hk]; exact h⟩
  · rw [if_neg hk] at h; exact .inr ⟨hk, h⟩
/-- What a rule makes: the code that it answers with, and the policy. -/
structure XRule where
  pol : Int
  steps : Int
  depth : Int
  list : List Int
  seed : Int
def XRule.val (x : XRule) (X : Option Addr) (d : Nat) : Value := .agg #[.int .i64 x.pol, .int .i64 x.steps, .int .i64 x.depth, .slice X x.list.length d, .int .u64 x.seed]
def XRule.k (x : XRule) : Int := if x.pol % 8 = 4 then scriptedE x.list else if x.pol % 8 = 5 then priorityE x.list else if x.pol % 8 = 7 then pctE x.steps x.depth else 0
def XRule.p (x : XRule) : Pol :=
  if x.pol % 8 = 0 then polOf 0 [] 0 else if x.pol % 8 = 1 then polOf 1 [] 0 else if x.pol % 8 = 2 then polOf 2 [] 0 else if x.pol % 8 = 3 then polOf 3 [] 0 else if x.pol % 8 = 4 then polOf 4 x.list 0
  else if x.pol % 8 = 5 then polOf 5 x.list 0 else if x.pol % 8 = 6 then polOf 6 [] (begS x.seed) else polOf 7 (ptsL (begS x.seed) x.steps x.depth.toNat) (stN (begS x.seed) x.depth.toNat)
theorem made_plain {p : Pol} {w w1 w2 : World} {e : Ending} {s : Nat} (h : Fresh w1 w2 s p) (hb : Below w.heap.size w w1) (he : e = .returned (.tuple #[.pointer (some ⟨s, 0, none⟩), .int .i64 0])) : Made 0 p w e w2 :=
  made_ok ⟨s, he, h.later hb⟩
set_option maxHeartbeats 2000000 in
theorem made15_plain (x : XRule) (X : Option Addr) (d : Nat) (w : World) (h : x.pol % 8 ≠ 4 ∧ x.pol % 8 ≠ 5) :
    Calls Try.prog 15 #[x.val X d] w (Made x.k x.p w) := by
  obtain ⟨pol, steps, depth, list, seed⟩ := x
  have h8 : pol % 8 = 0 ∨ pol % 8 = 1 ∨ pol % 8 = 2 ∨ pol % 8 = 3 ∨ pol % 8 = 6 ∨ pol % 8 = 7 := by simp only at h; omega
  clear h
  obtain ⟨m, hm⟩ : ∃ m, m = pol % 8 := ⟨_, rfl⟩
  unfold XRule.k XRule.p XRule.val
  simp only
  rw [← hm] at h8 ⊢
  have HM := Lib.hid hm
  have hb : ∀ o, Below w.heap.size w (w.alloc o) := fun o => (Below.refl _ _).alloc (Nat.le_refl _) o
  have HB := Lib.hid hb
  clear hm hb
  rcases h8 with rfl | rfl | rfl | rfl | rfl | rfl
  · go_enter Try.func15, Try.ntmps15
    go_wp2_with (first | (go_at_call 12; refine (among_c pol 8 _ (by omega)).mono ?_; rintro e w1 ⟨rfl, rfl⟩; rw [← HM.out]) | (go_at_call 31; refine (first_c _).mono ?_; rintro e w2 ⟨s, rfl, hf⟩))
    go_ret2
    exact made_plain hf (HB.out _) rfl
  · go_enter Try.func15, Try.ntmps15
    go_wp2_with (first | (go_at_call 12; refine (among_c pol 8 _ (by omega)).mono ?_; rintro e w1 ⟨rfl, rfl⟩; rw [← HM.out]) | (go_at_call 32; refine (last_c _).mono ?_; rintro e w2 ⟨s, rfl, hf⟩))
    go_ret2
    exact made_plain hf (HB.out _) rfl
  · go_enter Try.func15, Try.ntmps15
    go_wp2_with (first | (go_at_call 12; refine (among_c pol 8 _ (by omega)).mono ?_; rintro e w1 ⟨rfl, rfl⟩; rw [← HM.out]) | (go_at_call 8; refine (round_f _).mono ?_; rintro e w2 ⟨s, rfl, hf⟩))
    go_ret2
    exact made_plain hf (HB.out _) rfl
  · go_enter Try.func15, Try.ntmps15
    go_wp2_with (first | (go_at_call 12; refine (among_c pol 8 _ (by omega)).mono ?_; rintro e w1 ⟨rfl, rfl⟩; rw [← HM.out]) | (go_at_call 9; refine (fair_f _).mono ?_; rintro e w2 ⟨s, rfl, hf⟩))
    go_ret2
    exact made_plain hf (HB.out _) rfl
  · go_enter Try.func15, Try.ntmps15
    go_wp2_with (first | (go_at_call 12; refine (among_c pol 8 _ (by omega)).mono ?_; rintro e w1 ⟨rfl, rfl⟩; rw [← HM.out]) | (go_at_call 34; refine (seeded_f seed _).mono ?_; rintro e w2 ⟨s, rfl, hf⟩))
    go_ret2
    exact made_plain hf (HB.out _) rfl
  · go_enter Try.func15, Try.ntmps15
    go_wp2_with (first | (go_at_call 12; refine (among_c pol 8 _ (by omega)).mono ?_; rintro e w1 ⟨rfl, rfl⟩; rw [← HM.out]))
    go_at_call 35
    refine (pct_c seed steps depth _).mono ?_
    rintro e w2 hM
    rcases made_cases hM with ⟨hk, s, rfl, hf⟩ | ⟨hk, rfl, hb2⟩
    · have HK := Lib.hid hk
      clear hk
      go_wp2
      go_ret2
      exact (show Made (pctE steps depth) _ w _ _ from by rw [HK.out]; exact made_plain hf (HB.out _) rfl)
    · have HK := Lib.hid hk
      clear hk
      go_wp2
      go_ret2
      exact (show Made (pctE steps depth) _ w _ _ from made_no HK.out ⟨rfl, (HB.out _).trans (hb2.mono (HB.out _).size)⟩)
/-- The first n cells of block g are numbers, and may be written. -/
def NumsAt (w : World) (g n : Nat) : Prop := (∀ j, j < n → ∃ v, w.cell? ⟨g, j, none⟩ = some (.int .i64 v)) ∧ ∀ j, w.frozen? ⟨g, j, none⟩ = false
theorem NumsAt.set {w : World} {g n k : Nat} (h : NumsAt w g n) (v : Int) : NumsAt (w.setCell ⟨g, k, none⟩ (.int .i64 v)) g n := by
  refine ⟨fun j hj => ?_, fun j => by rw [World.frozen?_setCell]; exact h.2 j⟩
  obtain ⟨u, hu⟩ := h.1 j hj
  by_cases e : j = k
  · subst e; exact ⟨v, set_here _ _ _ _ _ hu⟩
  · exact ⟨u, (set_far _ _ _ _ _ (fun c => e c.symm)).trans hu⟩
theorem nums_of_own {w w' : World} {B cap n g : Nat} {xs : List Int} (h : w.ownsRow B 3 1 (.slice (some ⟨g, 0, none⟩) n cap) n (I xs)) (hb : Below w.heap.size w w') : NumsAt w' g n := by
  rcases own_ints_cases h with ⟨h0, _⟩ | ⟨g', cap', cur, hv, hn, _, hg, hh, h1, h2, h3, h4⟩
  · cases h0
  · cases hv
    refine ⟨fun j hj => ?_, fun j => ?_⟩
    · have h3 := h.cells (g := g) rfl j (.int .i64 (xs.getD j 0)) (by simp [List.getD, show j < xs.length by omega])
      rw [add_zero] at h3
      exact ⟨_, (hb.cell (p := ⟨g, j, none⟩) hg).trans h3⟩
    · rw [hb.frozen (p := ⟨g, j, none⟩) hg]
      unfold World.frozen?
      rw [hh]
      simp
theorem reads_row {w : World} {X : Option Addr} {xs : List Int} (h : RowAt w X (I xs)) : Reads w w.heap.size 1 X xs.length (I xs) := by
  refine ⟨by simp, fun h0 => ?_⟩
  rcases h with h | ⟨b, off, rfl, hl, hc⟩
  · rw [List.map_eq_nil_iff.1 h] at h0; simp at h0
  · exact ⟨_, rfl, hl, fun j u hu => by obtain ⟨h1, h2⟩ := List.getElem?_eq_some_iff.1 hu; rw [add_any, hc j h1, h2]⟩
/-- The caller's row (in a block B to C - 1) while it is filled with sevens. -/
def Sevens (B C : Nat) (X : Option Addr) (n : Nat) (w2 wr : World) : Prop := (n = 0 ∧ wr = w2) ∨ ∃ g, X = some ⟨g, 0, none⟩ ∧ B ≤ g ∧ g < C ∧ NumsAt wr g n ∧ Moves [g] w2 wr
theorem sevens_start {w1 w2 : World} {B : Nat} {X : Option Addr} {d : Nat} {xs : List Int} (h : w1.ownsRow B 3 1 (.slice X xs.length d) xs.length (I xs)) (hb : Below w1.heap.size w1 w2) : Sevens B w1.heap.size X xs.length w2 w2 := by
  rcases own_ints_cases h with ⟨_, h0, _⟩ | ⟨g, cap, cur, hv, _, hB, hg, _⟩
  · exact .inl ⟨h0, rfl⟩
  · cases hv
    exact .inr ⟨g, rfl, hB, hg, nums_of_own h hb, Moves.refl _ _⟩
theorem made_sevens {k : Int} {p : Pol} {w w1 w2 w3 : World} {e : Ending} {X : Option Addr} {n : Nat} (hb : Below w.heap.size w w1) (h : Made k p w1 e w2) (hs : Sevens w.heap.size w1.heap.size X n w2 w3) : Made k p w e w3 := by
  rcases hs with ⟨_, rfl⟩ | ⟨g, _, hB, hg, _, hm⟩
  · exact h.later hb
  · rcases made_cases h with ⟨rfl, s, rfl, hf⟩ | ⟨hk, rfl, hb2⟩
    · exact made_ok ⟨s, rfl, hf.moves hb ⟨hB, hg⟩ hm⟩
    · exact made_no hk ⟨rfl, (hb.trans (hb2.mono hb.size)).trans (hm.below (by have := hb.size; have := hb2.size; omega) (by simp; omega))⟩
set_option maxHeartbeats 4000000 in
set_option maxRecDepth 100000 in
theorem made15_list (x : XRule) (X : Option Addr) (d : Nat) (w : World) (h : x.pol % 8 = 4 ∨ x.pol % 8 = 5) (hr : RowAt w X (I x.list)) (hl : x.list.length ≤ 17592186044416) :
    Calls Try.prog 15 #[x.val X d] w (Made x.k x.p w) := by
  obtain ⟨pol, steps, depth, list, seed⟩ := x
  simp only at h hr hl
  obtain ⟨m, hm⟩ : ∃ m, m = pol % 8 := ⟨_, rfl⟩
  unfold XRule.k XRule.p XRule.val
  simp only
  rw [← hm] at h ⊢
  have HM := Lib.hid hm
  obtain ⟨i0, hi, hzz⟩ := Option.map_eq_some_iff.1 info_int
  simp only [Prod.mk.injEq] at hzz
  have HI := Lib.hid hi
  have HZ := Lib.hid hzz
  have h1 : ∀ u ∈ I list, u.oneCell' = true := by intro u hu; obtain ⟨v, _, rfl⟩ := List.mem_map.1 hu; rfl
  have hrd := fun o => (reads_row hr).alloc (Nat.le_refl _) o
  have hb1 : ∀ o, Below w.heap.size w (w.alloc o) := fun o => (Below.refl _ _).alloc (Nat.le_refl _) o
  have H1 := Lib.hid h1
  have HRD := Lib.hid hrd
  have HB1 := Lib.hid hb1
  have hrd2 : ∀ o o2, Reads ((w.alloc o).alloc o2) w.heap.size 1 X list.length (I list) := fun o o2 => (hrd o).alloc (by rw [al_size]; omega) o2
  have ho0 : ∀ o, ((w.alloc o).alloc (.cells #[] 3)).ownsRow w.heap.size 3 1 (.slice (some ⟨w.heap.size + 1, 0, none⟩) 0 0) 0 [] := fun o => by
    have := World.ownsRow_made (size := 1) (e := 3) (base := w.heap.size) (w.alloc o) #[] 0 (by rw [al_size]; omega) (by simp [maxLen]) (by simp)
    rwa [al_size] at this
  have HRD2 := Lib.hid hrd2
  have HO0 := Lib.hid ho0
  have HR := Lib.hid hr
  clear hrd2 ho0
  clear hi hzz hm h1 hrd hb1 hr
  rcases h with rfl | rfl
  · go_enter Try.func15, Try.ntmps15
    go_wp2_with (first | (go_at_call 12; refine (among_c pol 8 _ (by omega)).mono ?_; rintro e w1 ⟨rfl, rfl⟩; rw [← HM.out]) | (at_builtin; refine wpList_append_any _ (by rfl) _ _ 30 (by rfl) w.heap.size 3 i0 (.int .i64 0) 1 8 Try.underlying30 HI.out HZ.out.1 HZ.out.2.1 HZ.out.2.2 rfl (by decide) (.slice (some ⟨w.heap.size + 1, 0, none⟩) 0 0) 0 [] (by rfl) (HO0.out _) w.heap.size X list.length d (I list) (by rfl) (HRD2.out _ _) H1.out (by simp only [maxLen]; omega) (by omega) (by simp; omega) ?_; intro v1 w1 hown hg _))
    simp only [Nat.zero_add, List.nil_append] at hown
    obtain ⟨X2, d2, hv, hrow⟩ := own_row1 hown
    rw [List.length_map] at hv
    subst hv
    have hbw : Below w.heap.size w w1 := (((HB1.out _).alloc (by simp) _)).grown hg (by simp; omega) (fun k hk => by simp [Value.ownBlock] at hk; omega)
    have HBW := Lib.hid hbw
    have HOWN := Lib.hid hown
    have HSC := Lib.hid (scripted_c d2 hrow (by omega))
    clear hbw hown hrow hg
    go_at_call 17
    refine HSC.out.mono ?_
    rintro e w2 hM
    have HMM := Lib.hid hM
    have hs0 : Sevens w.heap.size w1.heap.size X2 list.length w2 w2 := sevens_start HOWN.out (by rcases made_cases hM with ⟨_, s, _, hf⟩ | ⟨_, _, hb2⟩; exact hf.2; exact hb2)
    have HS0 := Lib.hid hs0
    clear hs0
    rcases made_cases hM with ⟨hk, s, rfl, hf⟩ | ⟨hk, rfl, hb2⟩
    all_goals
      have HK := Lib.hid hk
      clear hk hM
      go_wp2
      go_loopw [40] (fun i wr => ∃ j : Nat, i = .int .i64 j ∧ j ≤ list.length ∧ Sevens w.heap.size w1.heap.size X2 list.length w2 wr) (fun i _ => list.length - (intOf i).toNat)
      case atStart => exact ⟨0, rfl, by omega, HS0.out⟩
      case round =>
        obtain ⟨j, rfl, hj, hsv⟩ := hrel
        by_cases hlt : j < list.length
        · have hj0 : (0 : Int) ≤ (j : Int) := Int.natCast_nonneg _
          have hj1 : (j : Int) < (list.length : Int) := by omega
          rcases hsv with ⟨h0, _⟩ | ⟨g, rfl, hB, hg, hnu, hmv⟩
          · omega
          obtain ⟨u, hu⟩ := hnu.1 j hlt
          have hz := hnu.2 j
          have HNU := Lib.hid hnu
          have HMV := Lib.hid hmv
          clear hnu hmv
          go_wp2
          go_roundw
          case rel => exact ⟨j + 1, by go_num, by omega, .inr ⟨g, rfl, hB, hg, HNU.out.set 7, HMV.out.trans (Moves.set (M := [g]) _ _ _ (by simp))⟩⟩
          case measure => simp [intOf]; omega
        · have hge : ¬ (j : Int) < (list.length : Int) := by omega
          have HSV := Lib.hid hsv
          clear hsv
          go_wp2
          go_ret2
          exact made_sevens HBW.out HMM.out HSV.out
  · go_enter Try.func15, Try.ntmps15
    go_wp2_with (first | (go_at_call 12; refine (among_c pol 8 _ (by omega)).mono ?_; rintro e w1 ⟨rfl, rfl⟩; rw [← HM.out]) | (at_builtin; refine wpList_append_any _ (by rfl) _ _ 30 (by rfl) w.heap.size 3 i0 (.int .i64 0) 1 8 Try.underlying30 HI.out HZ.out.1 HZ.out.2.1 HZ.out.2.2 rfl (by decide) (.slice (some ⟨w.heap.size + 1, 0, none⟩) 0 0) 0 [] (by rfl) (HO0.out _) w.heap.size X list.length d (I list) (by rfl) (HRD2.out _ _) H1.out (by simp only [maxLen]; omega) (by omega) (by simp; omega) ?_; intro v1 w1 hown hg _))
    simp only [Nat.zero_add, List.nil_append] at hown
    obtain ⟨X2, d2, hv, hrow⟩ := own_row1 hown
    rw [List.length_map] at hv
    subst hv
    have hbw : Below w.heap.size w w1 := (((HB1.out _).alloc (by simp) _)).grown hg (by simp; omega) (fun k hk => by simp [Value.ownBlock] at hk; omega)
    have HBW := Lib.hid hbw
    have HOWN := Lib.hid hown
    have HSC := Lib.hid (priority_c d2 hrow (by omega))
    clear hbw hown hrow hg
    go_at_call 33
    refine HSC.out.mono ?_
    rintro e w2 hM
    have HMM := Lib.hid hM
    have hs0 : Sevens w.heap.size w1.heap.size X2 list.length w2 w2 := sevens_start HOWN.out (by rcases made_cases hM with ⟨_, s, _, hf⟩ | ⟨_, _, hb2⟩; exact hf.2; exact hb2)
    have HS0 := Lib.hid hs0
    clear hs0
    rcases made_cases hM with ⟨hk, s, rfl, hf⟩ | ⟨hk, rfl, hb2⟩
    all_goals
      have HK := Lib.hid hk
      clear hk hM
      go_wp2
      go_loopw [62] (fun i wr => ∃ j : Nat, i = .int .i64 j ∧ j ≤ list.length ∧ Sevens w.heap.size w1.heap.size X2 list.length w2 wr) (fun i _ => list.length - (intOf i).toNat)
      case atStart => exact ⟨0, rfl, by omega, HS0.out⟩
      case round =>
        obtain ⟨j, rfl, hj, hsv⟩ := hrel
        by_cases hlt : j < list.length
        · have hj0 : (0 : Int) ≤ (j : Int) := Int.natCast_nonneg _
          have hj1 : (j : Int) < (list.length : Int) := by omega
          rcases hsv with ⟨h0, _⟩ | ⟨g, rfl, hB, hg, hnu, hmv⟩
          · omega
          obtain ⟨u, hu⟩ := hnu.1 j hlt
          have hz := hnu.2 j
          have HNU := Lib.hid hnu
          have HMV := Lib.hid hmv
          clear hnu hmv
          go_wp2
          go_roundw
          case rel => exact ⟨j + 1, by go_num, by omega, .inr ⟨g, rfl, hB, hg, HNU.out.set 7, HMV.out.trans (Moves.set (M := [g]) _ _ _ (by simp))⟩⟩
          case measure => simp [intOf]; omega
        · have hge : ¬ (j : Int) < (list.length : Int) := by omega
          have HSV := Lib.hid hsv
          clear hsv
          go_wp2
          go_ret2
          exact made_sevens HBW.out HMM.out HSV.out
end Go.Proofs.Ytbgnchddeklmeaa
