/- Shelves of a walk's own and rows that are read: one state for all of them, and the contracts in that word. Conditions: none. -/
import Derived.Test.YtjcbmfopcohcmaaEntRow
import Derived.Test.YtjcbmfopcohcmaaFew09
namespace Go.Proofs.Ytjcbmfopcohcmaa
open Go.RowKit Go.ChangeShapes Go.Maps
set_option maxRecDepth 100000
set_option linter.unusedVariables false
set_option linter.unusedSimpArgs false

/-- A shelf: its colour, its block, its entries. -/
structure Ob where
  π : List Int
  b : Nat
  L : List Ent
  ref : Bool := false
def Ob.Rep (c : Col) (w : World) (o : Ob) : Prop := if o.ref = true then RefR c o.π w o.b o.L ∧ ShelfOk o.L else ShelfR c o.π w o.b o.L
theorem Ob.Rep.step {C : List Int → Prop} {c c' : Col} {w w' : World} {o : Ob} (h : o.Rep c w) (hs : Stp C c w c' w') (hπ : ¬ C o.π) (hC : ¬ C []) : o.Rep c' w' := by
  unfold Ob.Rep at *
  split
  · rename_i hr; rw [if_pos hr] at h; exact ⟨h.1.step hs hπ hC, h.2⟩
  · rename_i hr; rw [if_neg hr] at h; exact h.step hs hπ hC
theorem Ob.Rep.shelf {c : Col} {w : World} {o : Ob} (h : o.Rep c w) (hr : o.ref = false) : ShelfR c o.π w o.b o.L := by
  unfold Ob.Rep at h
  rwa [if_neg (by rw [hr]; exact Bool.false_ne_true)] at h
theorem Ob.Rep.theRef {c : Col} {w : World} {o : Ob} (h : o.Rep c w) (hr : o.ref = true) : RefR c o.π w o.b o.L ∧ ShelfOk o.L := by
  unfold Ob.Rep at h
  rwa [if_pos hr] at h
theorem Ob.Rep.ok {c : Col} {w : World} {o : Ob} (h : o.Rep c w) : ShelfOk o.L := by
  unfold Ob.Rep at h
  split at h
  · exact h.2
  · exact shelf_ok h
theorem Ob.Rep.mk1 {c : Col} {w : World} {o : Ob} {L : List Ent} (hr : o.ref = false) (h : ShelfR c o.π w o.b L) : ({ o with L := L } : Ob).Rep c w := by
  obtain ⟨π, b, L0, r⟩ := o
  dsimp only at *
  subst hr
  exact h
theorem Ob.Rep.mk2 {c : Col} {w : World} {o : Ob} {L : List Ent} (hr : o.ref = true) (h : RefR c o.π w o.b L) (hk : ShelfOk L) : ({ o with L := L } : Ob).Rep c w := by
  obtain ⟨π, b, L0, r⟩ := o
  dsimp only at *
  subst hr
  exact ⟨h, hk⟩
/-- A slice of entries, and what it reads as. -/
structure Rw where
  A : Option Addr
  n : Nat
  cap : Nat
  l : List Ent
  bx : Option (Nat × Array Value)
/-- A row that is read; or a block of cells that nobody turns. -/
def Rw.Holds (c : Col) (w : World) (r : Rw) : Prop := match r.bx with
  | none => EntsAt w (fun b => c b = [] ∧ b < w.heap.size) r.A r.n r.cap r.l
  | some (b, C) => Box w b C ∧ c b = []
theorem Rw.Holds.ents {c : Col} {w : World} {r : Rw} (h : r.Holds c w) (hb : r.bx = none) : EntsAt w (fun b => c b = [] ∧ b < w.heap.size) r.A r.n r.cap r.l := by
  unfold Rw.Holds at h
  rw [hb] at h
  exact h
theorem Rw.Holds.step {C : List Int → Prop} {c c' : Col} {w w' : World} {r : Rw} (h : r.Holds c w) (hs : Stp C c w c' w') (hC : ¬ C []) : r.Holds c' w' := by
  obtain ⟨A, n, cap, l, bx⟩ := r
  cases bx with
  | none => exact (h.ents rfl).step hs hC
  | some x => exact ⟨h.1.only hs.only (by show ¬ C (c x.1); rw [h.2]; exact hC), (hs.col x.1 h.1.lt).trans h.2⟩
theorem Rw.Holds.recolor {c c' : Col} {w : World} {r : Rw} (h : r.Holds c w) (hc : ∀ k, c k = [] → c' k = []) : r.Holds c' w := by
  obtain ⟨A, n, cap, l, bx⟩ := r
  cases bx with
  | none => exact (h.ents rfl).move fun b hb hlt => ⟨rfl, hc b hb.1, hb.2⟩
  | some x => exact ⟨h.1, hc _ h.2⟩
structure St0 (W : World) (obs : List Ob) (rows : List Rw) (c : Col) (w : World) : Prop where
  stp : Stp (· ≠ []) (fun _ => []) W c w
  own : ∀ o ∈ obs, o.π ≠ [] ∧ o.L.length ≤ 10000 ∧ o.Rep c w
  apart : obs.Pairwise (fun a b => a.π ≠ b.π)
  reads : ∀ r ∈ rows, r.Holds c w
def St (W : World) (obs : List Ob) (rows : List Rw) (w : World) : Prop := ∃ c, St0 W obs rows c w
def setOb (obs : List Ob) (π : List Int) (L : List Ent) : List Ob := obs.map fun o => if o.π = π then { o with L := L } else o

theorem setOb_one (π : List Int) (b : Nat) (L L' : List Ent) (r : Bool) : setOb [⟨π, b, L, r⟩] π L' = [⟨π, b, L', r⟩] := by simp [setOb]
theorem setOb_fst {π π2 : List Int} (h : π2 ≠ π) (b b2 : Nat) (L L' L2 : List Ent) (r r2 : Bool) : setOb [⟨π, b, L, r⟩, ⟨π2, b2, L2, r2⟩] π L' = [⟨π, b, L', r⟩, ⟨π2, b2, L2, r2⟩] := by simp [setOb, h]
theorem setOb_snd {π π2 : List Int} (h : π2 ≠ π) (b b2 : Nat) (L L' L2 : List Ent) (r r2 : Bool) : setOb [⟨π2, b2, L2, r2⟩, ⟨π, b, L, r⟩] π L' = [⟨π2, b2, L2, r2⟩, ⟨π, b, L', r⟩] := by simp [setOb, h]
section
variable {W w w' : World} {obs : List Ob} {rows : List Rw} {c : Col}
theorem St0.later (h : St0 W obs rows c w) (hb : Below w.heap.size w w') : St0 W obs rows c w' where
  stp := h.stp.trans (Stp.of_below _ h.stp.fresh hb)
  own o ho := ⟨(h.own o ho).1, (h.own o ho).2.1, (h.own o ho).2.2.step (C := fun _ => False) (Stp.of_below _ h.stp.fresh hb) id id⟩
  apart := h.apart
  reads r hr := (h.reads r hr).step (C := fun _ => False) (Stp.of_below _ h.stp.fresh hb) id
theorem St.later (h : St W obs rows w) (hb : Below w.heap.size w w') : St W obs rows w' := by
  obtain ⟨c, h⟩ := h
  exact ⟨c, h.later hb⟩
theorem St.end (h : St W obs rows w) : Below W.heap.size W w := by
  obtain ⟨c, h⟩ := h
  exact h.stp.below (Nat.le_refl _) (fun k _ h => h rfl)
theorem St.start (h : ∀ r ∈ rows, r.bx = none ∧ EntsAt W (· < W.heap.size) r.A r.n r.cap r.l) : St W [] rows W :=
  ⟨fun _ => [], Stp.refl _ (fun k _ => rfl), (fun o ho => by simp at ho), List.Pairwise.nil, fun r hr => by
    obtain ⟨h1, h2⟩ := h r hr
    unfold Rw.Holds
    rw [h1]
    exact h2.move fun b hb hlt => ⟨rfl, rfl, hlt⟩⟩
theorem St.nil (W : World) : St W [] [] W := St.start (fun r hr => by simp at hr)
theorem St.row (h : St W obs rows w) {r : Rw} (hr : r ∈ rows) (hb : r.bx = none) : EntsAt w (· < w.heap.size) r.A r.n r.cap r.l := by
  obtain ⟨c, h⟩ := h
  exact ((h.reads r hr).ents hb).lt
theorem St.box (h : St W obs rows w) {r : Rw} (hr : r ∈ rows) {b : Nat} {C : Array Value} (hb : r.bx = some (b, C)) : Box w b C := by
  obtain ⟨c, h⟩ := h
  have := h.reads r hr
  unfold Rw.Holds at this
  rw [hb] at this
  exact this.1
theorem St.addBox (h : St W obs rows w) (C : Array Value) (T : TypeId) : St W obs (rows ++ [⟨none, 0, 0, [], some (w.heap.size, C)⟩]) (w.alloc (.cells C T)) := by
  obtain ⟨c, h⟩ := h
  have h2 := h.later (below_a1 w (.cells C T))
  refine ⟨c, h2.stp, h2.own, h2.apart, fun r hr => ?_⟩
  rcases List.mem_append.1 hr with hr | hr
  · exact h2.reads r hr
  · simp only [List.mem_singleton] at hr
    subst hr
    exact ⟨Box.new _ _ _, h.stp.fresh _ (Nat.le_refl _)⟩
theorem St.ok (h : St W obs rows w) {o : Ob} (ho : o ∈ obs) : ShelfOk o.L := by
  obtain ⟨c, h⟩ := h
  exact (h.own o ho).2.2.ok
theorem St.len (h : St W obs rows w) {o : Ob} (ho : o ∈ obs) : o.L.length ≤ 10000 := by
  obtain ⟨c, h⟩ := h
  exact (h.own o ho).2.1
theorem St.drop (h : St W obs rows w) {rows' : List Rw} (hr : ∀ r ∈ rows', r ∈ rows) : St W obs rows' w := by
  obtain ⟨c, h⟩ := h
  exact ⟨c, h.stp, h.own, h.apart, fun r hr' => h.reads r (hr r hr')⟩
theorem setOb_mem {π : List Int} {L : List Ent} {o : Ob} (h : o ∈ setOb obs π L) : (o ∈ obs ∧ o.π ≠ π) ∨ ∃ o' ∈ obs, o'.π = π ∧ o = { o' with L := L } := by
  obtain ⟨o', h1, h2⟩ := List.mem_map.1 h
  by_cases hp : o'.π = π
  · rw [if_pos hp] at h2; exact .inr ⟨o', h1, hp, h2.symm⟩
  · rw [if_neg hp] at h2; subst h2; exact .inl ⟨h1, hp⟩
theorem ob_one (h : obs.Pairwise (fun a b => a.π ≠ b.π)) {x y : Ob} (hx : x ∈ obs) (hy : y ∈ obs) (hp : x.π = y.π) : x = y := by
  induction obs with
  | nil => simp at hx
  | cons z r ih =>
    obtain ⟨p1, p2⟩ := List.pairwise_cons.1 h
    rcases List.mem_cons.1 hx with hx1 | hx1 <;> rcases List.mem_cons.1 hy with hy1 | hy1
    · rw [hx1, hy1]
    · exact absurd (by rw [← hx1]; exact hp) (p1 y hy1)
    · exact absurd (by rw [← hy1]; exact hp.symm) (p1 x hx1)
    · exact ih p2 hx1 hy1
theorem St0.turn {c' : Col} {o : Ob} {L' : List Ent} (h : St0 W obs rows c w) (ho : o ∈ obs) (st : Stp (· = o.π) c w c' w') (sh : ({ o with L := L' } : Ob).Rep c' w') (hl : L'.length ≤ 10000) : St0 W (setOb obs o.π L') rows c' w' where
  stp := h.stp.trans (st.mono fun x hx => by subst hx; exact (h.own o ho).1)
  own x hx := by
    rcases setOb_mem hx with ⟨h1, h2⟩ | ⟨o', h1, h2, rfl⟩
    · exact ⟨(h.own x h1).1, (h.own x h1).2.1, (h.own x h1).2.2.step st h2 (fun e => (h.own o ho).1 e.symm)⟩
    · obtain rfl := ob_one h.apart h1 ho h2
      exact ⟨(h.own o' h1).1, hl, sh⟩
  apart := by
    unfold setOb
    rw [List.pairwise_map]
    refine h.apart.imp fun {a b} hab => ?_
    split <;> split <;> exact hab
  reads r hr := (h.reads r hr).step st (fun e => (h.own o ho).1 e.symm)

theorem st_new (π : List Int) (h : St W obs rows w) (h0 : π ≠ []) (hπ : ∀ o ∈ obs, o.π ≠ π) : Calls Try.prog 37 #[] w fun e w' => ∃ b, e = .returned (.pointer (some ⟨b, 0, none⟩)) ∧ St W (obs ++ [⟨π, b, [], false⟩]) rows w' ∧ Below w.heap.size w w' := by
  obtain ⟨c, h⟩ := h
  refine (shelf_new (c := c) π w h.stp.fresh).mono ?_
  rintro e w' ⟨rfl, ⟨c', st, sh, _⟩, hb⟩
  refine ⟨_, rfl, ⟨c', ?_⟩, hb⟩
  exact {
    stp := h.stp.trans (st.mono fun x hx => by subst hx; exact h0)
    own := fun o ho => by
      rcases List.mem_append.1 ho with ho | ho
      · exact ⟨(h.own o ho).1, (h.own o ho).2.1, (h.own o ho).2.2.step st (hπ o ho) (fun e => h0 e.symm)⟩
      · simp only [List.mem_singleton] at ho
        subst ho
        exact ⟨h0, by simp, by unfold Ob.Rep; exact sh⟩
    apart := by
      rw [List.pairwise_append]
      exact ⟨h.apart, by simp, fun a ha b hb => by simp only [List.mem_singleton] at hb; subst hb; exact hπ a ha⟩
    reads := fun r hr => (h.reads r hr).step st (fun e => h0 e.symm) }
theorem st_join {obs' : List Ob} {n : Nat} {w : World} (h : St W obs rows w) (o : Ob) (ho : o ∈ obs) (hk : o.ref = false) (r : Rw) (hr : r ∈ rows) (hrb : r.bx = none) (hobs : setOb obs o.π (joinF o.L r.l).1 = obs') (hn : (joinF o.L r.l).2 = n) :
    Calls Try.prog 43 #[.pointer (some ⟨o.b, 0, none⟩), .slice r.A r.n r.cap] w fun e w' => e = .returned (.int .i64 n) ∧ St W obs' rows w' ∧ Boxes w w' := by
  obtain ⟨c, h⟩ := h
  refine (shelf_join ((h.own o ho).2.2.shelf hk) h.stp.fresh (h.own o ho).1 (h.own o ho).2.1 ((h.reads r hr).ents hrb)).mono ?_
  rintro e w' ⟨rfl, c', st, sh, hb⟩
  rw [hn]
  exact ⟨rfl, ⟨c', hobs ▸ h.turn ho st (Ob.Rep.mk1 hk sh) (joinF_len (h.own o ho).2.1 _).1⟩, hb⟩
theorem st_scan {w : World} {l : List Ent} (f t : Int) (h : St W obs rows w) (o : Ob) (ho : o ∈ obs) (hk : o.ref = false) (hl : scanL f t o.L = l) :
    Calls Try.prog 46 #[.pointer (some ⟨o.b, 0, none⟩), .agg #[.int .u32 f, .int .u32 t]] w fun e w' => ∃ A cap, e = .returned (.slice A l.length cap) ∧ St W obs (rows ++ [⟨A, l.length, cap, l, none⟩]) w' ∧ Below w.heap.size w w' := by
  obtain ⟨c, h⟩ := h
  have hL := (h.own o ho).2.1
  refine (scan_at ((h.own o ho).2.2.shelf hk) h.stp.fresh (by omega) f t).mono ?_
  rintro e w' ⟨A, n, cap, rfl, he, hb⟩
  rw [hl] at he
  obtain rfl := he.1
  have h2 := h.later hb
  refine ⟨A, cap, rfl, ⟨c, h2.stp, h2.own, h2.apart, fun r hr => ?_⟩, hb⟩
  rcases List.mem_append.1 hr with hr | hr
  · exact h2.reads r hr
  · simp only [List.mem_singleton] at hr
    subst hr
    exact he
theorem st_len {w : World} {n : Nat} (h : St W obs rows w) (o : Ob) (ho : o ∈ obs) (hk : o.ref = false) (hn : o.L.length = n) : Calls Try.prog 49 #[.pointer (some ⟨o.b, 0, none⟩)] w fun e w' => e = .returned (.int .i64 n) ∧ w = w' := by
  obtain ⟨c, h⟩ := h
  rw [← hn]
  exact shelf_len ((h.own o ho).2.2.shelf hk)
theorem st_same {w : World} {bo : Bool} (h : St W obs rows w) (r r' : Rw) (hr : r ∈ rows) (hr' : r' ∈ rows) (hrb : r.bx = none) (hrb' : r'.bx = none) (hb : decide (r.l = r'.l) = bo) : Calls Try.prog 15 #[.slice r.A r.n r.cap, .slice r'.A r'.n r'.cap] w fun e w' => e = .returned (.bool bo) ∧ Below w.heap.size w w' := by
  rw [← hb]
  exact entries_any w (h.row hr hrb) (h.row hr' hrb')
end
end Go.Proofs.Ytjcbmfopcohcmaa
