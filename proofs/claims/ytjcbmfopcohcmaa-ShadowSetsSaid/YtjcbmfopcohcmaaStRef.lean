/- Shelves and the document's shelves in one state: the rest of the contracts in that word. Conditions: none. -/
import Derived.Test.YtjcbmfopcohcmaaFreeze
import Derived.Test.YtjcbmfopcohcmaaRefCut
import Derived.Test.YtjcbmfopcohcmaaShelfNow
import Derived.Test.YtjcbmfopcohcmaaShelfFork
import Derived.Test.YtjcbmfopcohcmaaRefGet
namespace Go.Proofs.Ytjcbmfopcohcmaa
open Go.RowKit Go.ChangeShapes Go.Maps
set_option maxRecDepth 100000
set_option linter.unusedVariables false
set_option linter.unusedSimpArgs false

/-- A value that shows an entry whose values lie in old memory. -/
abbrev OldE (W : World) (m : EntC) (e : Ent) : Prop := EntNew W (· < W.heap.size) m e
section
variable {W w w' : World} {obs obs' : List Ob} {rows : List Rw} {c : Col}
theorem St0.old (h : St0 W obs rows c w) {m : EntC} {e : Ent} (he : OldE W m e) : EntNew w (Still c w) m e :=
  he.move fun b _ hlt => ⟨h.stp.only.block b hlt (fun h => h rfl), h.stp.col b hlt, Nat.lt_of_lt_of_le hlt h.stp.only.size⟩
theorem St.addRow (h : St W obs rows w) {A : Option Addr} {n cap : Nat} {l : List Ent} (hl : EntsAt W (· < W.heap.size) A n cap l) : St W obs (rows ++ [⟨A, n, cap, l, none⟩]) w := by
  obtain ⟨c, h⟩ := h
  refine ⟨c, h.stp, h.own, h.apart, fun r hr => ?_⟩
  rcases List.mem_append.1 hr with hr | hr
  · exact h.reads r hr
  · simp only [List.mem_singleton] at hr
    subst hr
    exact hl.move fun b _ hlt => ⟨h.stp.only.block b hlt (fun h => h rfl), h.stp.col b hlt, Nat.lt_of_lt_of_le hlt h.stp.only.size⟩
theorem St.sub (h : St W obs rows w) {rows' : List Rw} (hs : ∀ x ∈ obs', x ∈ obs) (ha : obs'.Pairwise (fun a b => a.π ≠ b.π)) (hr : ∀ r ∈ rows', r ∈ rows) : St W obs' rows' w := by
  obtain ⟨c, h⟩ := h
  exact ⟨c, h.stp, fun x hx => h.own x (hs x hx), ha, fun r hr' => h.reads r (hr r hr')⟩
/-- The document's shelf, made. -/
theorem st_rnew (π : List Int) (h : St W obs rows w) (h0 : π ≠ []) (hπ : ∀ o ∈ obs, o.π ≠ π) : St W (obs ++ [⟨π, w.heap.size, [], true⟩]) rows (w.alloc (.cells #[.slice none 0 0] 29)) := by
  obtain ⟨c, h⟩ := h
  have hb := below_a1 w (.cells #[.slice none 0 0] 29)
  have st0 : Stp (fun _ => False) c w c (w.alloc (.cells #[.slice none 0 0] 29)) := Stp.of_below _ h.stp.fresh hb
  have st := st0.paint (b := w.heap.size) (Nat.le_refl _) (by rw [size_alloc]; omega) π
  refine ⟨upd c w.heap.size π, h.stp.trans (st.mono fun _ h => h.elim), fun o ho => ?_, ?_, fun r hr => (h.reads r hr).step st id⟩
  · rcases List.mem_append.1 ho with ho | ho
    · exact ⟨(h.own o ho).1, (h.own o ho).2.1, (h.own o ho).2.2.step st id id⟩
    · simp only [List.mem_singleton] at ho
      subst ho
      exact ⟨h0, by simp, ⟨.slice none 0 0, Box.new _ _ _, upd_same _ _ _, EntRow.nil _ _ _⟩, ShelfOk.nil⟩
  · rw [List.pairwise_append]
    exact ⟨h.apart, by simp, fun a ha b hb => by simp only [List.mem_singleton] at hb; subst hb; exact hπ a ha⟩
theorem st_rjoin {n : Nat} {w : World} (h : St W obs rows w) (o : Ob) (ho : o ∈ obs) (hk : o.ref = true) (r : Rw) (hr : r ∈ rows) (hrb : r.bx = none) (hobs : setOb obs o.π (joinF o.L r.l).1 = obs') (hn : (joinF o.L r.l).2 = n) :
    Calls Try.prog 14 #[.pointer (some ⟨o.b, 0, none⟩), .slice r.A r.n r.cap] w fun e w' => e = .returned (.int .i64 n) ∧ St W obs' rows w' := by
  obtain ⟨c, h⟩ := h
  obtain ⟨q1, q2⟩ := (h.own o ho).2.2.theRef hk
  refine (ref_join q1 h.stp.fresh (h.own o ho).1 (h.own o ho).2.1 q2 ((h.reads r hr).ents hrb)).mono ?_
  rintro e w' ⟨rfl, c', st, sh⟩
  rw [hn]
  exact ⟨rfl, ⟨c', hobs ▸ h.turn ho st (Ob.Rep.mk2 hk sh (joinF_ok q2 _ ((h.reads r hr).ents hrb).oks)) (joinF_len (h.own o ho).2.1 _).1⟩⟩
theorem st_rscan {w : World} {l : List Ent} (f t : Int) (h : St W obs rows w) (o : Ob) (ho : o ∈ obs) (hk : o.ref = true) (hf : U32 f) (hl : scanL f t o.L = l) :
    Calls Try.prog 48 #[.pointer (some ⟨o.b, 0, none⟩), .agg #[.int .u32 f, .int .u32 t]] w fun e w' => ∃ A cap, e = .returned (.slice A l.length cap) ∧ St W obs (rows ++ [⟨A, l.length, cap, l, none⟩]) w' ∧ Below w.heap.size w w' := by
  obtain ⟨c, h⟩ := h
  obtain ⟨q1, q2⟩ := (h.own o ho).2.2.theRef hk
  refine (ref_scan f t q1 h.stp.fresh (h.own o ho).2.1 q2 hf).mono ?_
  rintro e w' ⟨A, cap, rfl, _, he, hb⟩
  rw [hl] at he ⊢
  have h2 := h.later hb
  refine ⟨A, cap, rfl, ⟨c, h2.stp, h2.own, h2.apart, fun r hr => ?_⟩, hb⟩
  rcases List.mem_append.1 hr with hr | hr
  · exact h2.reads r hr
  · simp only [List.mem_singleton] at hr
    subst hr
    exact he.imp fun b hb => ⟨h.stp.fresh b hb.1, hb.2⟩
theorem st_rput {w : World} {m : EntC} {e : Ent} {bo : Bool} {x : Int} (h : St W obs rows w) (o : Ob) (ho : o ∈ obs) (hk : o.ref = true) (he : OldE W m e) (hobs : setOb obs o.π (putF o.L e).1 = obs') (hb : (putF o.L e).2.1 = bo) (hx : (putF o.L e).2.2 = x) :
    Calls Try.prog 12 #[.pointer (some ⟨o.b, 0, none⟩), mkEnt m] w fun y w' => y = .returned (.tuple #[.bool bo, .int .i64 x]) ∧ St W obs' rows w' := by
  obtain ⟨c, h⟩ := h
  obtain ⟨q1, q2⟩ := (h.own o ho).2.2.theRef hk
  obtain ⟨e1, e2, e3, e4, e5, e6⟩ := h.old he
  obtain ⟨m1, m2, m3, m4, m5, m6, m7⟩ := m
  dsimp only at e1 e2 e3 e4 e6
  subst e1 e2 e3 e4
  refine (ref_put (e := e) q1 h.stp.fresh (h.own o ho).1 (h.own o ho).2.1 q2 e5 e6).mono ?_
  rintro y w' ⟨rfl, c', st, sh⟩
  rw [hb, hx]
  exact ⟨rfl, ⟨c', hobs ▸ h.turn ho st (Ob.Rep.mk2 hk sh (putF_ok q2 e5)) (putF_len (h.own o ho).2.1)⟩⟩
theorem st_put {w : World} {m : EntC} {e : Ent} {bo : Bool} {x : Int} (h : St W obs rows w) (o : Ob) (ho : o ∈ obs) (hk : o.ref = false) (he : OldE W m e) (hobs : setOb obs o.π (putF o.L e).1 = obs') (hb : (putF o.L e).2.1 = bo) (hx : (putF o.L e).2.2 = x) :
    Calls Try.prog 39 #[.pointer (some ⟨o.b, 0, none⟩), mkEnt m] w fun y w' => y = .returned (.tuple #[.bool bo, .int .i64 x]) ∧ St W obs' rows w' ∧ Boxes w w' := by
  obtain ⟨c, h⟩ := h
  have hL := (h.own o ho).2.1
  obtain ⟨e1, e2, e3, e4, e5, e6⟩ := h.old he
  obtain ⟨m1, m2, m3, m4, m5, m6, m7⟩ := m
  obtain ⟨ex, ⟨ei, ev, el⟩, eg⟩ := e
  dsimp only at e1 e2 e3 e4 e6
  subst e1 e2 e3 e4
  refine (shelf_put ((h.own o ho).2.2.shelf hk) h.stp.fresh (h.own o ho).1 ⟨m4, m5, m6, rfl, e5, e6⟩ (by omega)).mono ?_
  rintro y w' ⟨rfl, c', st, sh, hbx⟩
  rw [hb, hx]
  exact ⟨rfl, ⟨c', hobs ▸ h.turn ho st (Ob.Rep.mk1 hk sh) (putF_len hL)⟩, hbx⟩
theorem st_fork {w : World} (π : List Int) (h : St W obs rows w) (o : Ob) (ho : o ∈ obs) (hk : o.ref = false) (h0 : π ≠ []) (hπ : ∀ o ∈ obs, o.π ≠ π) :
    Calls Try.prog 51 #[.pointer (some ⟨o.b, 0, none⟩)] w fun e w' => ∃ b, e = .returned (.pointer (some ⟨b, 0, none⟩)) ∧ St W (obs ++ [⟨π, b, o.L, false⟩]) rows w' ∧ Below w.heap.size w w' := by
  obtain ⟨c, h⟩ := h
  refine (shelf_fork π ((h.own o ho).2.2.shelf hk) h.stp.fresh).mono ?_
  rintro e w' ⟨rfl, ⟨c', st, sh, _⟩, hb⟩
  refine ⟨_, rfl, ⟨c', ?_⟩, hb⟩
  exact {
    stp := h.stp.trans (st.mono fun x hx => by subst hx; exact h0)
    own := fun x hx => by
      rcases List.mem_append.1 hx with hx | hx
      · exact ⟨(h.own x hx).1, (h.own x hx).2.1, (h.own x hx).2.2.step st (hπ x hx) (fun e => h0 e.symm)⟩
      · simp only [List.mem_singleton] at hx
        subst hx
        exact ⟨h0, (h.own o ho).2.1, by unfold Ob.Rep; exact sh⟩
    apart := by
      rw [List.pairwise_append]
      exact ⟨h.apart, by simp, fun a ha b hb => by simp only [List.mem_singleton] at hb; subst hb; exact hπ a ha⟩
    reads := fun r hr => (h.reads r hr).step st (fun e => h0 e.symm) }
/-- The cell of the document's shelf. -/
theorem St.refLen (h : St W obs rows w) (o : Ob) (ho : o ∈ obs) (hk : o.ref = true) : ∃ A cap, Box w o.b #[.slice A o.L.length cap] := by
  obtain ⟨c, h⟩ := h
  obtain ⟨⟨v, hb, _, hr⟩, _⟩ := (h.own o ho).2.2.theRef hk
  obtain ⟨A, cap, rfl, _⟩ := hr.shape
  exact ⟨A, cap, hb⟩
end
end Go.Proofs.Ytjcbmfopcohcmaa
