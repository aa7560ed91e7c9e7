/- The law NamesChecks. -/
import Derived.Test.YtgopflklcfcocaaDoorA18
namespace Go.Proofs.YtgopflklcfcocaaDoor
open Go.RowKit

/-- The cells of a provider that lies at g. -/
def ProvIn (w : World) (g : Nat) (p : XProv) (A : Option Addr) (c : Nat) : Prop :=
  w.cell? ⟨g, 0, none⟩ = some (.string p.name) ∧ w.cell? ⟨g, 1, none⟩ = some (.slice A p.expr.length c) ∧ w.cell? ⟨g, 2, none⟩ = some (.bool p.again) ∧ w.cell? ⟨g, 3, none⟩ = some (.int .i64 p.p1) ∧ w.cell? ⟨g, 4, none⟩ = some (.int .i64 p.p2) ∧ w.cell? ⟨g, 5, none⟩ = some (.int .i64 p.p3) ∧ w.cell? ⟨g, 6, none⟩ = some (.int .i64 p.p4) ∧ w.cell? ⟨g, 7, none⟩ = some (.int .i64 p.ck) ∧ w.cell? ⟨g, 8, none⟩ = some (.string p.ct)
theorem ProvIn.same {w w' : World} {g : Nat} {p : XProv} {A : Option Addr} {c : Nat} (h : ProvIn w g p A c) (hk : ∀ o, w'.cell? ⟨g, o, none⟩ = w.cell? ⟨g, o, none⟩) : ProvIn w' g p A c := by
  unfold ProvIn at *
  simp only [hk]
  exact h
/-- A provider lies in the cells of block w.heap.size, and since w only new things came. -/
def SS (w : World) (p : XProv) (A : Option Addr) (c : Nat) (w' : World) : Prop := Below w.heap.size w w' ∧ w.heap.size < w'.heap.size ∧ ProvIn w' w.heap.size p A c
section
variable {w W W' : World} {p : XProv} {A : Option Addr} {c : Nat}
theorem SS.below (h : SS w p A c W) (hb : Below W.heap.size W W') : SS w p A c W' :=
  ⟨h.1.trans (hb.mono (Nat.le_of_lt h.2.1)), Nat.lt_of_lt_of_le h.2.1 hb.size, h.2.2.same fun o => hb.cell (p := ⟨w.heap.size, o, none⟩) h.2.1⟩
theorem SS.alloc (h : SS w p A c W) (o : Obj) : SS w p A c (W.alloc o) := h.below ((Below.refl _ _).alloc (Nat.le_refl _) o)
theorem SS.drew (h : SS w p A c W) : SS w p A c W.drew := h.below (Below.refl _ _).drew
theorem SS.set (h : SS w p A c W) {q : Addr} {u : Value} (hq : w.heap.size < q.block) : SS w p A c (W.setCell q u) :=
  ⟨h.1.setCell (Nat.le_of_lt hq) u, by simpa [World.setCell] using h.2.1, h.2.2.same fun o => World.cell?_setCell_far _ _ _ _ (by simp; omega)⟩
end
theorem al_size (w : World) (o : Obj) : (w.alloc o).heap.size = w.heap.size + 1 := by simp
theorem dr_size (w : World) : w.drew.heap.size = w.heap.size := rfl
/-- A new provider's cells. -/
def Zer (w : World) (g : Nat) : Prop := g < w.heap.size ∧ (∀ o, w.frozen? ⟨g, o, none⟩ = false) ∧ w.cell? ⟨g, 0, none⟩ = some (.string ⟨#[]⟩) ∧ w.cell? ⟨g, 1, none⟩ = some (.slice none 0 0) ∧ w.cell? ⟨g, 2, none⟩ = some (.bool false) ∧ w.cell? ⟨g, 3, none⟩ = some (.int .i64 0) ∧ w.cell? ⟨g, 4, none⟩ = some (.int .i64 0) ∧ w.cell? ⟨g, 5, none⟩ = some (.int .i64 0) ∧ w.cell? ⟨g, 6, none⟩ = some (.int .i64 0) ∧ w.cell? ⟨g, 7, none⟩ = some (.int .i64 0) ∧ w.cell? ⟨g, 8, none⟩ = some (.string ⟨#[]⟩)
theorem Zer.below {W W' : World} {g : Nat} (h : Zer W g) (hb : Below W.heap.size W W') : Zer W' g := by
  obtain ⟨h0, hf, h1⟩ := h
  refine ⟨Nat.lt_of_lt_of_le h0 hb.size, fun o => (hb.frozen (p := ⟨g, o, none⟩) h0).trans (hf o), ?_⟩
  have hk : ∀ o, W'.cell? ⟨g, o, none⟩ = W.cell? ⟨g, o, none⟩ := fun o => hb.cell (p := ⟨g, o, none⟩) h0
  simp only [hk]
  exact h1
theorem Zer.new (W : World) (t : TypeId) : Zer (W.alloc (.cells #[.string ⟨#[]⟩, .slice none 0 0, .bool false, .int .i64 0, .int .i64 0, .int .i64 0, .int .i64 0, .int .i64 0, .string ⟨#[]⟩] t)) W.heap.size := ⟨by simp, fun o => by simp, by simp⟩
theorem Zer.new2 (W : World) (t : TypeId) : Zer (W.alloc (.cells #[.string ⟨#[]⟩, .slice none 0 0, .bool false, .int .i64 0, .int .i64 0, .int .i64 0, .int .i64 0, .int .i64 0, .string ⟨#[]⟩] t)).drew W.heap.size := Zer.new W t
theorem OpsAt.alloc {w : World} {A : Option Addr} {es : List XOp} (h : OpsAt w A es) (o : Obj) : OpsAt (w.alloc o) A es := h.below ((Below.refl _ _).alloc (Nat.le_refl _) o)
theorem OpsAt.over {w w' : World} {A : Option Addr} {es : List XOp} {o : Obj} (h : OpsAt w A es) (hb : Below (w.alloc o).heap.size (w.alloc o) w') : OpsAt w' A es := (h.alloc o).below hb
/-- A provider is stored at g. -/
def provChain (W : World) (g : Nat) (p : XProv) (A : Option Addr) (c : Nat) : World := (((((((((W.setCell ⟨g, 0, none⟩ (.string p.name)).setCell ⟨g, 1, none⟩ (.slice A p.expr.length c)).setCell ⟨g, 2, none⟩ (.bool p.again)).setCell ⟨g, 3, none⟩ (.int .i64 p.p1)).setCell ⟨g, 4, none⟩ (.int .i64 p.p2)).setCell ⟨g, 5, none⟩ (.int .i64 p.p3)).setCell ⟨g, 6, none⟩ (.int .i64 p.p4)).setCell ⟨g, 7, none⟩ (.int .i64 p.ck)).setCell ⟨g, 8, none⟩ (.string p.ct))
theorem ops_chain {W : World} {g : Nat} {p : XProv} {A B : Option Addr} {c : Nat} {es : List XOp} (h : OpsAt W B es) (hB : ∀ b o, B = some ⟨b, o, none⟩ → g ≠ b) : OpsAt (provChain W g p A c) B es := by
  unfold provChain
  exact ops_set (ops_set (ops_set (ops_set (ops_set (ops_set (ops_set (ops_set (ops_set h _ _ hB) _ _ hB) _ _ hB) _ _ hB) _ _ hB) _ _ hB) _ _ hB) _ _ hB) _ _ hB
theorem SS.chain {w W : World} {g : Nat} {p q : XProv} {A B : Option Addr} {c d : Nat} (h : SS w q B d W) (hg : w.heap.size < g) : SS w q B d (provChain W g p A c) := by
  unfold provChain
  exact ((((((((h.set hg).set hg).set hg).set hg).set hg).set hg).set hg).set hg).set hg
theorem chain_size (W : World) (g : Nat) (p : XProv) (A : Option Addr) (c : Nat) : (provChain W g p A c).heap.size = W.heap.size := by
  unfold provChain
  simp [World.setCell]
theorem prov_store {W : World} {g : Nat} (h : Zer W g) (p : XProv) (A : Option Addr) (c : Nat) : ProvIn (provChain W g p A c) g p A c := by
  obtain ⟨_, _, t0, t1, t2, t3, t4, t5, t6, t7, t8⟩ := h
  have hin : ∀ j (hj : j < 9), (W.setCells g 0 [.string p.name, .slice A p.expr.length c, .bool p.again, .int .i64 p.p1, .int .i64 p.p2, .int .i64 p.p3, .int .i64 p.p4, .int .i64 p.ck, .string p.ct]).cell? ⟨g, j, none⟩ = some ([.string p.name, .slice A p.expr.length c, .bool p.again, .int .i64 p.p1, .int .i64 p.p2, .int .i64 p.p3, .int .i64 p.p4, .int .i64 p.ck, .string p.ct][j]'hj) := by
    intro j hj
    have := World.cell?_setCells_in g [.string p.name, .slice A p.expr.length c, .bool p.again, .int .i64 p.p1, .int .i64 p.p2, .int .i64 p.p3, .int .i64 p.p4, .int .i64 p.ck, .string p.ct] 0 W (fun j hj => ?_) j hj
    · rw [Nat.zero_add] at this; exact this
    · rw [Nat.zero_add]
      simp only [List.length_cons, List.length_nil] at hj
      match j, hj with
      | 0, _ => rw [t0]; rfl
      | 1, _ => rw [t1]; rfl
      | 2, _ => rw [t2]; rfl
      | 3, _ => rw [t3]; rfl
      | 4, _ => rw [t4]; rfl
      | 5, _ => rw [t5]; rfl
      | 6, _ => rw [t6]; rfl
      | 7, _ => rw [t7]; rfl
      | 8, _ => rw [t8]; rfl
  exact ⟨hin 0 (by simp), hin 1 (by simp), hin 2 (by simp), hin 3 (by simp), hin 4 (by simp), hin 5 (by simp), hin 6 (by simp), hin 7 (by simp), hin 8 (by simp)⟩
theorem sameExpr_b (es : List XOp) (A B : Option Addr) (c d : Nat) (w : World) (hx : OpsAt w A es) (hy : OpsAt w B es) (hl : es.length * 40 ≤ 140737488355328) :
    Calls Tryd.prog 17 #[.slice A es.length c, .slice B es.length d] w fun e w' => e = .returned (.bool true) ∧ Below w.heap.size w w' := by
  refine (sameExpr_self es A B c d w hx hy hl).mono ?_
  rintro e w' ⟨rfl, k, rfl⟩
  exact ⟨rfl, below_drewN (Below.refl _ _) _⟩
/-- Two providers' cells are held. -/
def SS3 (wc : World) (g h : Nat) (p : XProv) (A B : Option Addr) (c d : Nat) (w' : World) : Prop := Below wc.heap.size wc w' ∧ ProvIn w' g p A c ∧ ProvIn w' h p B d
theorem SS3.below {wc W W' : World} {g h : Nat} {p : XProv} {A B : Option Addr} {c d : Nat} (H : SS3 wc g h p A B c d W) (hg : g < wc.heap.size) (hh : h < wc.heap.size) (hb : Below W.heap.size W W') : SS3 wc g h p A B c d W' :=
  ⟨H.1.trans (hb.mono H.1.size), H.2.1.same fun o => hb.cell (p := ⟨g, o, none⟩) (Nat.lt_of_lt_of_le hg H.1.size), H.2.2.same fun o => hb.cell (p := ⟨h, o, none⟩) (Nat.lt_of_lt_of_le hh H.1.size)⟩
theorem SS3.drew {wc W : World} {g h : Nat} {p : XProv} {A B : Option Addr} {c d : Nat} (H : SS3 wc g h p A B c d W) : SS3 wc g h p A B c d W.drew := ⟨H.1.trans ((Below.refl _ _).drew.mono H.1.size), H.2.1, H.2.2⟩
set_option maxHeartbeats 4000000 in
set_option maxRecDepth 100000 in
theorem namesChecks_c (es : List XOp) (p : XProv) (A B : Option Addr) (c d : Nat) (w : World) (hx : OpsAt w A es) (hl : es.length * 40 ≤ 140737488355328) (ht : ∀ o ∈ es, o.text.size ≤ 140737488355328) (hp : ProvAt w B p) (hkeys : KeysIn w) :
    Calls Tryd.prog 3 #[.slice A es.length c, p.val B d] w fun e w' => e = .returned (.bool true) ∧ Below w.heap.size w w' := by
  obtain ⟨n, fs, ag, p1, p2, p3, p4, ck, ct⟩ := p
  obtain ⟨hy, hpl, hn, hct, hpt⟩ := hp
  simp only [XProv.val] at *
  go_enter Tryd.func3, Tryd.ntmps3
  have hS0 : ∀ o, SS w ⟨n, fs, ag, p1, p2, p3, p4, ck, ct⟩ B d (w.alloc (.cells #[.string n, .slice B fs.length d, .bool ag, .int .i64 p1, .int .i64 p2, .int .i64 p3, .int .i64 p4, .int .i64 ck, .string ct] o)) := fun o => ⟨(Below.refl _ _).alloc (Nat.le_refl _) _, by simp, by simp [ProvIn]⟩
  have HS0 := Lib.hid hS0
  clear hS0
  go_upto_region 1 with (fail)
  go_cut [5, 6] (fun s5 s6 w' => ∃ A1 c1 B1 d1 g, s5 = .slice A1 es.length c1 ∧ s6 = .pointer (some ⟨g, 0, none⟩) ∧ OpsAt w' A1 es ∧ OpsAt w' B1 fs ∧ ProvIn w' g ⟨n, fs, ag, p1, p2, p3, p4, ck, ct⟩ B1 d1 ∧ g < w'.heap.size ∧ SS w ⟨n, fs, ag, p1, p2, p3, p4, ck, ct⟩ B d w')
  case first =>
    go_region_held3 (fun w' => Below w.heap.size w w' ∧ w.heap.size < w'.heap.size ∧ w'.cell? ⟨w.heap.size, 0, none⟩ = some (.string n) ∧ w'.cell? ⟨w.heap.size, 1, none⟩ = some (.slice B fs.length d) ∧ w'.cell? ⟨w.heap.size, 2, none⟩ = some (.bool ag) ∧ w'.cell? ⟨w.heap.size, 3, none⟩ = some (.int .i64 p1) ∧ w'.cell? ⟨w.heap.size, 4, none⟩ = some (.int .i64 p2) ∧ w'.cell? ⟨w.heap.size, 5, none⟩ = some (.int .i64 p3) ∧ w'.cell? ⟨w.heap.size, 6, none⟩ = some (.int .i64 p4) ∧ w'.cell? ⟨w.heap.size, 7, none⟩ = some (.int .i64 ck) ∧ w'.cell? ⟨w.heap.size, 8, none⟩ = some (.string ct))
      (first
        | (show SS w ⟨n, fs, ag, p1, p2, p3, p4, ck, ct⟩ B d _
           repeat (first | with_reducible exact HS0.out _ | with_reducible exact HS2.out | with_reducible exact HS1.out | with_reducible refine SS.drew ?_ | with_reducible refine SS.set ?_ (by simp <;> omega) | with_reducible refine SS.alloc ?_ _)))
      ((first | (go_at_call 11; have qq : SS w ⟨n, fs, ag, p1, p2, p3, p4, ck, ct⟩ B d _ := ‹_ ∧ _ ∧ _ ∧ _ ∧ _ ∧ _ ∧ _ ∧ _ ∧ _ ∧ _ ∧ _›; refine (copyExpr_f es A c _ (hx.below qq.1) hl).mono ?_; rintro e w1 ⟨A1, c1, rfl, hs1, hf1, hb⟩; have HS1 := Lib.hid (qq.below hb); clear qq; have hz1 := HS1.out.2.1; have HB1 := Lib.hid hb; (first | (have tz := (Zer.new _ _).below hb; have TZ := Lib.hid tz; obtain ⟨tt, tf, t0, t1, t2, t3, t4, t5, t6, t7, t8⟩ := tz; (try simp only [al_size] at tt tf t0 t1 t2 t3 t4 t5 t6 t7 t8)) | (have tz := (Zer.new2 _ _).below hb; have TZ := Lib.hid tz; obtain ⟨tt, tf, t0, t1, t2, t3, t4, t5, t6, t7, t8⟩ := tz; (try simp only [al_size] at tt tf t0 t1 t2 t3 t4 t5 t6 t7 t8)) | (have tz := TZ.out.below hb; clear tt tf t0 t1 t2 t3 t4 t5 t6 t7 t8 TZ; have TZ := Lib.hid tz; obtain ⟨tt, tf, t0, t1, t2, t3, t4, t5, t6, t7, t8⟩ := tz; (try simp only [al_size] at tt tf t0 t1 t2 t3 t4 t5 t6 t7 t8)) | skip); obtain ⟨hcc1, hff1⟩ := bcell hb) | (go_at_call 12; have qq : SS w ⟨n, fs, ag, p1, p2, p3, p4, ck, ct⟩ B d _ := ‹_ ∧ _ ∧ _ ∧ _ ∧ _ ∧ _ ∧ _ ∧ _ ∧ _ ∧ _ ∧ _›; refine (copyProv_c ⟨n, fs, ag, p1, p2, p3, p4, ck, ct⟩ B d _ (hy.below qq.1) hpl).mono ?_; rintro e w1 ⟨B1, d1, rfl, hs2, hf2, hb⟩; have HS2 := Lib.hid (qq.below hb); clear qq; simp only [XProv.val]; simp only at hs2; have hz2 := HS2.out.2.1; have HB2 := Lib.hid hb; (first | (have tz := (Zer.new _ _).below hb; have TZ := Lib.hid tz; obtain ⟨tt, tf, t0, t1, t2, t3, t4, t5, t6, t7, t8⟩ := tz; (try simp only [al_size] at tt tf t0 t1 t2 t3 t4 t5 t6 t7 t8)) | (have tz := (Zer.new2 _ _).below hb; have TZ := Lib.hid tz; obtain ⟨tt, tf, t0, t1, t2, t3, t4, t5, t6, t7, t8⟩ := tz; (try simp only [al_size] at tt tf t0 t1 t2 t3 t4 t5 t6 t7 t8)) | (have tz := TZ.out.below hb; clear tt tf t0 t1 t2 t3 t4 t5 t6 t7 t8 TZ; have TZ := Lib.hid tz; obtain ⟨tt, tf, t0, t1, t2, t3, t4, t5, t6, t7, t8⟩ := tz; (try simp only [al_size] at tt tf t0 t1 t2 t3 t4 t5 t6 t7 t8)) | skip); obtain ⟨hcc2, hff2⟩ := bcell hb)))
    · go_wp2_with fail
      go_meet
      refine ⟨A1, c1, B1, d1, _, rfl, rfl, ?_, ?_, ?_, ?_, ?_⟩
      · exact (hs1.below HB2.out).alloc _
      · exact hs2.alloc _
      · simp [ProvIn]
      · simp
      · exact HS2.out.alloc _
    · go_wp2_with fail
      go_meet
      refine ⟨A1, c1, B1, d1, _, rfl, rfl, ?_, ?_, ?_, ?_, ?_⟩
      · show OpsAt (provChain w1 _ ⟨n, fs, ag, p1, p2, p3, p4, ck, ct⟩ B1 d1) A1 es
        exact ops_chain (hs1.over HB2.out) (fun b o h => (by have h1 := hf1 b o h; try simp only [al_size, dr_size] at h1; omega))
      · show OpsAt (provChain w1 _ ⟨n, fs, ag, p1, p2, p3, p4, ck, ct⟩ B1 d1) B1 fs
        exact ops_chain hs2 (fun b o h => (by have h1 := hf2 b o h; try simp only [al_size] at h1; omega))
      · show ProvIn (provChain w1 _ ⟨n, fs, ag, p1, p2, p3, p4, ck, ct⟩ B1 d1) _ ⟨n, fs, ag, p1, p2, p3, p4, ck, ct⟩ B1 d1
        exact prov_store TZ.out ⟨n, fs, ag, p1, p2, p3, p4, ck, ct⟩ B1 d1
      · show _ < (provChain w1 _ ⟨n, fs, ag, p1, p2, p3, p4, ck, ct⟩ B1 d1).heap.size
        rw [chain_size]; exact tt
      · show SS w ⟨n, fs, ag, p1, p2, p3, p4, ck, ct⟩ B d (provChain w1 _ ⟨n, fs, ag, p1, p2, p3, p4, ck, ct⟩ B1 d1)
        exact HS2.out.chain hz1
    · go_wp2_with fail
      go_meet
      refine ⟨A1, c1, B1, d1, _, rfl, rfl, ?_, ?_, ?_, ?_, ?_⟩
      · show OpsAt (provChain w1 _ ⟨n, fs, ag, p1, p2, p3, p4, ck, ct⟩ B1 d1) A1 es
        exact ops_chain (hs1.below HB2.out) (fun b o h => (by have h1 := hf1 b o h; simp only [al_size, dr_size] at h1; omega))
      · show OpsAt (provChain w1 _ ⟨n, fs, ag, p1, p2, p3, p4, ck, ct⟩ B1 d1) B1 fs
        exact ops_chain hs2 (fun b o h => (by have h3 := (hf2 b o h).1; have h4 := HB1.out.size; simp only [al_size, dr_size] at h4; omega))
      · show ProvIn (provChain w1 _ ⟨n, fs, ag, p1, p2, p3, p4, ck, ct⟩ B1 d1) _ ⟨n, fs, ag, p1, p2, p3, p4, ck, ct⟩ B1 d1
        have tz := TZ.out
        rw [al_size] at tz
        exact prov_store tz ⟨n, fs, ag, p1, p2, p3, p4, ck, ct⟩ B1 d1
      · show _ < (provChain w1 _ ⟨n, fs, ag, p1, p2, p3, p4, ck, ct⟩ B1 d1).heap.size
        rw [chain_size]; exact tt
      · show SS w ⟨n, fs, ag, p1, p2, p3, p4, ck, ct⟩ B d (provChain w1 _ ⟨n, fs, ag, p1, p2, p3, p4, ck, ct⟩ B1 d1)
        exact HS2.out.chain (Nat.lt_succ_self _)
  case rest =>
    obtain ⟨A1, c1, B1, d1, g, rfl, rfl, hs1, hs2, hpi, hg, hss⟩ := hcut
    have hkc := hkeys.below hss.1
    have hxc := hx.below hss.1
    have hyc := hy.below hss.1
    have hbx := hss.2.1
    have h0 : SS3 wc g w.heap.size ⟨n, fs, ag, p1, p2, p3, p4, ck, ct⟩ B1 B d1 d wc := ⟨Below.refl _ _, hpi, hss.2.2⟩
    have hwc := hss.1
    have H0 := Lib.hid h0
    clear h0 hpi hss HS0
    go_wp2_with fail
    go_region_held3 (fun w' => Below wc.heap.size wc w' ∧ (w'.cell? ⟨g, 0, none⟩ = some (.string n) ∧ w'.cell? ⟨g, 1, none⟩ = some (.slice B1 fs.length d1) ∧ w'.cell? ⟨g, 2, none⟩ = some (.bool ag) ∧ w'.cell? ⟨g, 3, none⟩ = some (.int .i64 p1) ∧ w'.cell? ⟨g, 4, none⟩ = some (.int .i64 p2) ∧ w'.cell? ⟨g, 5, none⟩ = some (.int .i64 p3) ∧ w'.cell? ⟨g, 6, none⟩ = some (.int .i64 p4) ∧ w'.cell? ⟨g, 7, none⟩ = some (.int .i64 ck) ∧ w'.cell? ⟨g, 8, none⟩ = some (.string ct)) ∧ w'.cell? ⟨w.heap.size, 0, none⟩ = some (.string n) ∧ w'.cell? ⟨w.heap.size, 1, none⟩ = some (.slice B fs.length d) ∧ w'.cell? ⟨w.heap.size, 2, none⟩ = some (.bool ag) ∧ w'.cell? ⟨w.heap.size, 3, none⟩ = some (.int .i64 p1) ∧ w'.cell? ⟨w.heap.size, 4, none⟩ = some (.int .i64 p2) ∧ w'.cell? ⟨w.heap.size, 5, none⟩ = some (.int .i64 p3) ∧ w'.cell? ⟨w.heap.size, 6, none⟩ = some (.int .i64 p4) ∧ w'.cell? ⟨w.heap.size, 7, none⟩ = some (.int .i64 ck) ∧ w'.cell? ⟨w.heap.size, 8, none⟩ = some (.string ct))
      (first | (show SS3 wc g w.heap.size ⟨n, fs, ag, p1, p2, p3, p4, ck, ct⟩ B1 B d1 d _; first | with_reducible exact H0.out.drew | with_reducible exact HS.out | with_reducible exact HS.out.drew))
      ((first | (go_at_call 13; have qq : SS3 wc g w.heap.size ⟨n, fs, ag, p1, p2, p3, p4, ck, ct⟩ B1 B d1 d _ := ‹Below _ _ _ ∧ _ ∧ _›; refine (check_c es A1 c1 _ (hs1.below qq.1) hl (hkc.below qq.1) ht).mono ?_; rintro e w1 ⟨rfl, hb⟩; have HS := Lib.hid (qq.below hg hbx hb); clear qq) | (go_at_call 14; have qq : SS3 wc g w.heap.size ⟨n, fs, ag, p1, p2, p3, p4, ck, ct⟩ B1 B d1 d _ := ‹Below _ _ _ ∧ _ ∧ _›; refine (checkR_c es A c _ (hxc.below qq.1) hl ht).mono ?_; rintro e w1 ⟨rfl, hb⟩; have HS := Lib.hid (qq.below hg hbx hb); clear qq) | (go_at_call 15; have qq : SS3 wc g w.heap.size ⟨n, fs, ag, p1, p2, p3, p4, ck, ct⟩ B1 B d1 d _ := ‹Below _ _ _ ∧ _ ∧ _›; refine (checkProv_c ⟨n, fs, ag, p1, p2, p3, p4, ck, ct⟩ B1 d1 _ ⟨hs2.below qq.1, hpl, hn, hct, hpt⟩ (hkc.below qq.1)).mono ?_; rintro e w1 ⟨rfl, hb⟩; have HS := Lib.hid (qq.below hg hbx hb); clear qq) | (go_at_call 16; have qq : SS3 wc g w.heap.size ⟨n, fs, ag, p1, p2, p3, p4, ck, ct⟩ B1 B d1 d _ := ‹Below _ _ _ ∧ _ ∧ _›; refine (checkProvR_c ⟨n, fs, ag, p1, p2, p3, p4, ck, ct⟩ B d _ ⟨hyc.below qq.1, hpl, hn, hct, hpt⟩).mono ?_; rintro e w1 ⟨rfl, hb⟩; have HS := Lib.hid (qq.below hg hbx hb); clear qq) | (go_at_call 17; have qq : SS3 wc g w.heap.size ⟨n, fs, ag, p1, p2, p3, p4, ck, ct⟩ B1 B d1 d _ := ‹Below _ _ _ ∧ _ ∧ _›; refine (sameExpr_b es A1 A c1 c _ (hs1.below qq.1) (hxc.below qq.1) hl).mono ?_; rintro e w1 ⟨rfl, hb⟩; have HS := Lib.hid (qq.below hg hbx hb); clear qq) | (go_at_call 18; have qq : SS3 wc g w.heap.size ⟨n, fs, ag, p1, p2, p3, p4, ck, ct⟩ B1 B d1 d _ := ‹Below _ _ _ ∧ _ ∧ _›; refine (sameProv_c ⟨n, fs, ag, p1, p2, p3, p4, ck, ct⟩ B1 B d1 d _ (hs2.below qq.1) (hyc.below qq.1) hpl).mono ?_; rintro e w1 ⟨rfl, hb⟩; have HS := Lib.hid (qq.below hg hbx hb); clear qq)))
    have hfin := HS.out.1
    go_wp2
    go_ret
    exact ⟨rfl, hwc.trans (hfin.mono hwc.size)⟩
end Go.Proofs.YtgopflklcfcocaaDoor
