/- The shadow: its map of owners' shelves; New, set. Conditions: the shadow is one. | The shadow's methods, in one state with shelves: Put, Set, Of, Drop. Conditions: the shadow is one. | The shadow's methods: Set, Of, Drop. Conditions: the shadow is one. | The shadow's methods: Drop, and Owners of one owner at most. Conditions: the shadow is one. | The shadow's Owners, of one owner at most; the law's awake. Conditions: the shadow is one. | The law's awake; the methods on no shadow. Conditions: none. -/
import Derived.Test.YtjcbmfopcohcmaaShelfPut
import Derived.Test.YtjcbmfopcohcmaaShelfCut
import Derived.Test.YtjcbmfopcohcmaaStRef
import Derived.Test.YtjcbmfopcohcmaaShelfNone
import Derived.Test.YtjcbmfopcohcmaaSortOne
import Derived.Test.YtjcbmfopcohcmaaRefCircle
import Derived.Test.YtjcbmfopcohcmaaPlain
namespace Go.Proofs.Ytjcbmfopcohcmaa
open Go.RowKit Go.ChangeShapes Go.Maps
set_option maxRecDepth 100000
set_option linter.unusedVariables false
set_option linter.unusedSimpArgs false

theorem own_keyed : Keyed Try.prog 91 := Keyed.of_law (deep_law_laid (m := 8) (by kernel_rfl) (by omega) (of_decide_eq_true (by kernel_rfl)) (by kernel_rfl) (by kernel_rfl))
/-- The owner's datum. -/
def KO (x : Int) : Lit := .string (keyBytes [.int .u32 x])
theorem keyOf_own {x : Int} (hx : U32 x) : keyOf Try.prog 91 (.agg #[.int .u32 x]) = some (KO x) := by
  have w1 : (Lit.int .u32 x).wf = true := by
    have := hx.1; have := hx.2
    simp [Lit.wf, IntKind.min, IntKind.max, IntKind.bits, IntKind.signed]; omega
  obtain ⟨m, hm⟩ : ∃ m, Try.prog.types.size = m + 1 := ⟨Try.prog.types.size - 1, by kernel_rfl⟩
  have hu := Try.underlying91
  have h1 : Try.prog.keyType 91 = true := by kernel_rfl
  have h2 : ∀ a : Value, (Value.agg #[a]).formed Try.prog 91 = true := fun a => by kernel_rfl
  have hc : Try.prog.cellsOf 91 = 1 := by kernel_rfl
  have hc1 : Try.prog.cellsOf 22 = 1 := by kernel_rfl
  have hcells : (Value.agg #[.int .u32 x]).cells.toList = [.int .u32 x] := rfl
  unfold keyOf
  simp only [hu, h1, h2, Bool.and_self, if_true, hcells, hm]
  simp [Program.keyLits, hu, hc, hc1, Try.underlying22, w1, KO]
theorem keyOf_own_inv {v : Value} {l : Lit} (h : keyOf Try.prog 91 v = some l) : ∃ x, U32 x ∧ v = .agg #[.int .u32 x] ∧ l = KO x := by
  obtain ⟨m, hm⟩ : ∃ m, Try.prog.types.size = m + 1 := ⟨Try.prog.types.size - 1, by kernel_rfl⟩
  have hu := Try.underlying91
  have h1 : Try.prog.keyType 91 = true := by kernel_rfl
  have hc : Try.prog.cellsOf 91 = 1 := by kernel_rfl
  have hc1 : Try.prog.cellsOf 22 = 1 := by kernel_rfl
  unfold keyOf at h
  simp only [hu, h1, Bool.true_and] at h
  by_cases hf : v.formed Try.prog 91 = true
  · rw [if_pos hf] at h
    cases v with
    | agg cs =>
      simp only [Value.formed, hu, hc, beq_iff_eq] at hf
      obtain ⟨a, rfl⟩ : ∃ a, cs = #[a] := by
        obtain ⟨l⟩ := cs
        match l, hf with
        | [a], _ => exact ⟨a, rfl⟩
      have hcells : (Value.agg #[a]).cells.toList = [a] := rfl
      simp only [hcells, hm] at h
      have q1 : ∀ (a : Value) (la : List Lit), Try.prog.keyLits (m + 1) 22 [a] = some la → ∃ x, a = .int .u32 x ∧ la = [.int .u32 x] ∧ (Lit.int .u32 x).wf = true := by
        intro a la h
        cases a <;> simp [Program.keyLits, Try.underlying22] at h
        obtain ⟨⟨rfl, w1⟩, rfl⟩ := h
        exact ⟨_, rfl, rfl, w1⟩
      have e : Try.prog.keyLits (m + 1 + 1) 91 [a] = Try.prog.keyLits (m + 1) 22 [a] := by
        conv => lhs; unfold Program.keyLits
        simp only [hu, hc]
        simp [hc1]
        cases Try.prog.keyLits (m + 1) 22 [a] with
        | none => rfl
        | some la => simp
      rw [e] at h
      cases ha : Try.prog.keyLits (m + 1) 22 [a] with
      | none => rw [ha] at h; simp at h
      | some la =>
        obtain ⟨x, rfl, rfl, w1⟩ := q1 _ _ ha
        rw [ha] at h
        simp at h
        exact ⟨x, u32_of w1, rfl, by rw [← h]; rfl⟩
    | _ => simp [Value.formed, hu] at hf
  · rw [if_neg hf] at h; cases h
theorem KO_inj {x x' : Int} (h1 : U32 x) (h3 : U32 x') (h : KO x = KO x') : x = x' := by
  have := own_keyed.inj (keyOf_own h1) (by rw [h]; exact keyOf_own h3)
  simp only [Value.agg.injEq, Array.mk.injEq, List.cons.injEq, Value.int.injEq, true_and, and_true] at this
  exact this
theorem KO_key (x : Int) : WideAt.IsKeyLit (KO x) := trivial

/-- A pointer. -/
def isPtr : Value → Bool
  | .pointer _ => true
  | _ => false
/-- An owner, and where its shelf lies. -/
structure OwnK where
  x : Int
  b : Nat
def kO (o : OwnK) : Lit := KO o.x
def valO (o : OwnK) (v : Value) : Prop := v = .pointer (some ⟨o.b, 0, none⟩) ∧ U32 o.x
/-- A shadow: a block with a map of shelves, by their owners. -/
def ShadR (c : Col) (π : List Int) (w : World) (sb : Nat) (S : List OwnK) : Prop :=
  ∃ (mb : Nat) (D : DataW Value), BoxT w 88 sb #[.map (some mb)] ∧ c sb = π ∧ c mb = π ∧ w.ownsMap Try.prog 91 (heldIf isPtr) mb S.length D ∧ MapOf kO valO D S
theorem ShadR.step {C : List Int → Prop} {c c' : Col} {w w' : World} {π : List Int} {b : Nat} {S : List OwnK} (h : ShadR c π w b S) (hs : Stp C c w c' w') (hπ : ¬ C π) : ShadR c' π w' b S := by
  obtain ⟨mb, D, hb, h1, h2, hm, hd⟩ := h
  exact ⟨mb, D, hb.only hs.only (by show ¬ C (c b); rw [h1]; exact hπ), (hs.col b hb.lt).trans h1, (hs.col mb hm.lt).trans h2, ownsMap_only hm hs.only (by show ¬ C (c mb); rw [h2]; exact hπ), hd⟩
theorem ShadR.later {c : Col} {w w' : World} {π : List Int} {b : Nat} {S : List OwnK} (h : ShadR c π w b S) (hf : Fresh c w) (hb : Below w.heap.size w w') : ShadR c π w' b S :=
  h.step (C := fun _ => False) (Stp.of_below _ hf hb) id
theorem shad_new {c : Col} (π : List Int) (w : World) (hf : Fresh c w) : Calls Try.prog 10 #[] w fun e w' => e = .returned (.pointer (some ⟨w.heap.size + 1, 0, none⟩)) ∧ (∃ c', Stp (· = π) c w c' w' ∧ ShadR c' π w' (w.heap.size + 1) []) ∧ Below w.heap.size w w' := by
  have hmm := @run_makeMap Try.prog
  go_enter Try.func10, Try.ntmps10
  go_wp2
  go_ret
  have hB : Below w.heap.size w ((w.alloc (.map #[] 0)).alloc (.cells #[.map (some w.heap.size)] 88)) := below_a2 w _ _
  refine ⟨rfl, ⟨fun k => if k = w.heap.size ∨ k = w.heap.size + 1 then π else c k, ⟨Only.of_below hB, fun k hk => if_neg (by omega), fun k hk => ?_⟩, ⟨w.heap.size, .map [], ?_, if_pos (.inr rfl), if_pos (.inl rfl), (World.ownsMap_made _ _ _ _).alloc _, MapOf.empty⟩⟩, hB⟩
  · simp only [size_alloc] at hk
    show (if _ then _ else _) = _
    rw [if_neg (by omega)]; exact hf k (by omega)
  · have := BoxT.new (w.alloc (.map #[] 0)) #[.map (some w.heap.size)] 88
    rwa [size_alloc] at this

def ownB (x : Int) (o : OwnK) : Bool := o.x == x
def findO (S : List OwnK) (x : Int) : Option OwnK := S.find? (ownB x)
/-- An owner's shelf is another one now. -/
def setO (S : List OwnK) (x : Int) (b : Nat) : List OwnK := if S.any (ownB x) = true then S.map fun o => if ownB x o then ⟨x, b⟩ else o else S ++ [⟨x, b⟩]
theorem setO_len (S : List OwnK) (x : Int) (b : Nat) : (setO S x b).length ≤ S.length + 1 := by unfold setO; split <;> simp
section
variable {D : DataW Value} {S : List OwnK}
theorem own_there {x : Int} {o : OwnK} (hd : MapOf kO valO D S) (h : findO S x = some o) : Maps.has D (KO x) = true ∧ (∀ z, D.atKey (KO x) z = .held (.pointer (some ⟨o.b, 0, none⟩))) ∧ o ∈ S ∧ o.x = x := by
  have h1 := List.mem_of_find?_eq_some h
  have h2 : o.x = x := by have := List.find?_some h; simpa [ownB] using this
  obtain ⟨q1, v, q2, q3⟩ := hd.has o h1
  have hk : kO o = KO x := by unfold kO; rw [h2]
  rw [hk] at q1 q3
  obtain ⟨rfl, _⟩ := q2
  exact ⟨q1, q3, h1, h2⟩
theorem own_not {x : Int} (hx : U32 x) (hd : MapOf kO valO D S) (h : findO S x = none) : Maps.has D (KO x) = false ∧ ∀ y ∈ S, kO y ≠ KO x := by
  have h1 : ∀ y ∈ S, kO y ≠ KO x := by
    intro y hy he
    obtain ⟨_, v, q2, _⟩ := hd.has y hy
    have := KO_inj q2.2 hx he
    have h3 := List.find?_eq_none.1 h y hy
    exact h3 (by simp [ownB, this])
  exact ⟨hd.none _ h1, h1⟩
end
theorem setO_map {D : DataW Value} {S : List OwnK} {x : Int} {b : Nat} (hx : U32 x) (hd : MapOf kO valO D S) (ht : Tidy D) : MapOf kO valO (D.put (KO x) (.held (.pointer (some ⟨b, 0, none⟩)))) (setO S x b) := by
  have hxy : ∀ y ∈ S, (kO y = KO x ↔ ownB x y = true) := fun y hy => by
    obtain ⟨_, v, q2, _⟩ := hd.has y hy
    constructor
    · intro h; simp [ownB, KO_inj q2.2 hx h]
    · intro h; simp [ownB] at h; unfold kO; rw [h]
  unfold setO
  by_cases h : S.any (ownB x) = true
  · rw [if_pos h]
    obtain ⟨y, hy, hyb⟩ := List.any_eq_true.1 h
    exact hd.set (x := ⟨x, b⟩) ht (KO_key x) ⟨y, hy, (hxy y hy).2 hyb⟩ (fun z hz hk => by rw [if_pos ((hxy z hz).1 hk)]) (fun z hz hk => by rw [if_neg (fun e => hk ((hxy z hz).2 e))]) ⟨rfl, hx⟩
  · rw [if_neg h]
    exact hd.add (x := ⟨x, b⟩) ht (KO_key x) (fun y hy hk => h (List.any_eq_true.2 ⟨y, hy, (hxy y hy).1 hk⟩)) ⟨rfl, hx⟩

set_option maxHeartbeats 1000000 in
theorem shad_set {c : Col} {π : List Int} {w : World} {sb b : Nat} {S : List OwnK} {x : Int} (h : ShadR c π w sb S) (hf : Fresh c w) (hS : S.length < 1000000) (hx : U32 x) :
    Calls Try.prog 38 #[.pointer (some ⟨sb, 0, none⟩), .int .u32 x, .pointer (some ⟨b, 0, none⟩)] w fun e w' => e = .returned (.tuple #[]) ∧ Stp (· = π) c w c w' ∧ ShadR c π w' sb (setO S x b) := by
  obtain ⟨mb, D, hb, hcb, hcm, hm, hd⟩ := h
  have hc := hb.box.cell
  obtain ⟨upd, hupd⟩ := heldIf_upd hm own_keyed Try.underlying86 (by unfold maxLen; omega) (keyOf_own hx)
  obtain ⟨u1, u2, u3⟩ := hupd w (.pointer (some ⟨b, 0, none⟩)) (Below.refl _ _) rfl
  have hmn : ∀ w : World, (binOp .eql 86 (.map (some mb)) (.map none)).run Try.prog w = .ok (.bool false) w := fun w => run_eql_map_nil w _ _ _ (some mb) Try.underlying86
  have hst : Stp (· = π) c w c (upd w (.pointer (some ⟨b, 0, none⟩))) := ⟨u3.mono (fun k _ hk => by subst hk; exact hcm), fun _ _ => rfl, fun k hk => hf k (Nat.le_trans u3.size hk)⟩
  have htt := ownsMap_tight u2
  have hmap := setO_map (b := b) hx hd (ownsMap_tidy hm own_keyed)
  rw [hmap.size] at htt
  have nb : sb ≠ mb := by
    rintro rfl
    obtain ⟨es, cl, h1, _⟩ := hm
    have h2 := hb
    unfold BoxT at h2
    rw [h2] at h1
    cases h1
  have hb' := hb.only u3 nb
  have HST := Lib.hid hst; have HTT := Lib.hid htt; have HMAP := Lib.hid hmap; have HB := Lib.hid hb'
  clear hst htt hmap hb' u2 u3 hupd hm hd hb hf
  generalize upd w (.pointer (some ⟨b, 0, none⟩)) = w2 at *
  go_enter Try.func38, Try.ntmps38
  go_wp2
  go_end0
  exact ⟨rfl, HST.out, mb, _, HB.out, hcb, hcm, HTT.out, HMAP.out⟩
theorem shad_look {c : Col} {π : List Int} {w w' : World} {sb : Nat} {S : List OwnK} {x : Int} (h : ShadR c π w sb S) (hx : U32 x) : ∃ mb, BoxT w 88 sb #[.map (some mb)] ∧ ∀ w' : World, Below w.heap.size w w' →
    (Instr.lookup 86 (.map (some mb)) (.agg #[.int .u32 x]) false).run Try.prog w' = .ok (.pointer ((findO S x).map fun o => ⟨o.b, 0, none⟩)) w' := by
  obtain ⟨mb, D, hb, _, _, hm, hd⟩ := h
  refine ⟨mb, hb, fun w' hb' => ?_⟩
  refine heldIf_run (ownsMap_only hm (Only.of_below (S := fun _ => False) hb') (fun h => h)) own_keyed Try.underlying86 (z := .pointer none) (by kernel_rfl) rfl (keyOf_own hx) ?_
  cases hf : findO S x with
  | some o => exact (own_there hd hf).2.1 _
  | none => exact atKey_of_not_has (own_not hx hd hf).1 _
end Go.Proofs.Ytjcbmfopcohcmaa

namespace Go.Proofs.Ytjcbmfopcohcmaa
open Go.RowKit Go.ChangeShapes Go.Maps
set_option maxRecDepth 100000
set_option linter.unusedVariables false
set_option linter.unusedSimpArgs false

abbrev TOP : Int := 4294967295
theorem all_any (w : World) : Calls Try.prog 47 #[] w fun e w' => e = .returned (.agg #[.int .u32 4294967295, .int .u32 4294967295]) ∧ Below w.heap.size w w' := by
  go_enter Try.func47, Try.ntmps47
  go_wp2
  exact bodyPost_ret (v := .agg #[.int .u32 4294967295, .int .u32 4294967295]) (by simp [results, Try.results47, go_sem]) rfl ⟨rfl, (by repeat (first | exact Below.refl _ _ | assumption | apply Below.drew | apply belowN | (refine Below.alloc ?_ (by first | exact Nat.le_refl _ | (simp; done) | (simp; omega)) _) | (refine Below.setCell ?_ (by first | exact Nat.le_refl _ | (simp; done) | (simp; omega)) _)))⟩
/-- A shadow, shelves and rows. -/
structure SH0 (W : World) (sb : Nat) (S : List OwnK) (obs : List Ob) (rows : List Rw) (c : Col) (w : World) : Prop where
  st : St0 W obs rows c w
  shad : ShadR c [7] w sb S
  len : S.length ≤ 1000
  apart : ∀ o ∈ obs, o.π ≠ [7]
def SH (W : World) (sb : Nat) (S : List OwnK) (obs : List Ob) (rows : List Rw) (w : World) : Prop := ∃ c, SH0 W sb S obs rows c w
section
variable {W w w' : World} {sb : Nat} {S S' : List OwnK} {obs obs' : List Ob} {rows : List Rw} {c c' : Col}
theorem SH0.later (h : SH0 W sb S obs rows c w) (hb : Below w.heap.size w w') : SH0 W sb S obs rows c w' := ⟨h.st.later hb, h.shad.later h.st.stp.fresh hb, h.len, h.apart⟩
theorem SH.later (h : SH W sb S obs rows w) (hb : Below w.heap.size w w') : SH W sb S obs rows w' := by obtain ⟨c, h⟩ := h; exact ⟨c, h.later hb⟩
theorem SH.stt (h : SH W sb S obs rows w) : St W obs rows w := by obtain ⟨c, h⟩ := h; exact ⟨c, h.st⟩
/-- One of the shelves is turned. -/
theorem SH0.turn {o : Ob} {L' : List Ent} (h : SH0 W sb S obs rows c w) (ho : o ∈ obs) (st : Stp (· = o.π) c w c' w') (sh : ({ o with L := L' } : Ob).Rep c' w') (hl : L'.length ≤ 10000) : SH0 W sb S (setOb obs o.π L') rows c' w' where
  st := h.st.turn ho st sh hl
  shad := h.shad.step st (fun e => h.apart o ho e.symm)
  len := h.len
  apart x hx := by
    rcases setOb_mem hx with ⟨h1, h2⟩ | ⟨o', h1, h2, rfl⟩
    · exact h.apart x h1
    · exact h.apart o' h1
/-- A shelf more. -/
theorem SH0.more {o : Ob} (h : SH0 W sb S obs rows c w) (st : Stp (· = o.π) c w c' w') (sh : o.Rep c' w') (hl : o.L.length ≤ 10000) (h0 : o.π ≠ []) (h7 : o.π ≠ [7]) (hπ : ∀ x ∈ obs, x.π ≠ o.π) : SH0 W sb S (obs ++ [o]) rows c' w' where
  st := {
    stp := h.st.stp.trans (st.mono fun x hx => by subst hx; exact h0)
    own := fun x hx => by
      rcases List.mem_append.1 hx with hx | hx
      · exact ⟨(h.st.own x hx).1, (h.st.own x hx).2.1, (h.st.own x hx).2.2.step st (hπ x hx) (fun e => h0 e.symm)⟩
      · simp only [List.mem_singleton] at hx; subst hx; exact ⟨h0, hl, sh⟩
    apart := by
      rw [List.pairwise_append]
      exact ⟨h.st.apart, by simp, fun a ha b hb => by simp only [List.mem_singleton] at hb; rw [hb]; exact hπ a ha⟩
    reads := fun r hr => (h.st.reads r hr).step st (fun e => h0 e.symm) }
  shad := h.shad.step st (fun e => h7 e.symm)
  len := h.len
  apart x hx := by
    rcases List.mem_append.1 hx with hx | hx
    · exact h.apart x hx
    · simp only [List.mem_singleton] at hx; subst hx; exact h7
/-- The map is turned. -/
theorem SH0.remap (h : SH0 W sb S obs rows c w) (st : Stp (· = [7]) c w c w') (sh : ShadR c [7] w' sb S') (hl : S'.length ≤ 1000) : SH0 W sb S' obs rows c w' where
  st := {
    stp := h.st.stp.trans (st.mono fun x hx => by rw [hx]; simp)
    own := fun x hx => ⟨(h.st.own x hx).1, (h.st.own x hx).2.1, (h.st.own x hx).2.2.step st (h.apart x hx) (by simp)⟩
    apart := h.st.apart
    reads := fun r hr => (h.st.reads r hr).step st (by simp) }
  shad := sh
  len := hl
  apart := h.apart
theorem SH0.addRow {A : Option Addr} {n cap : Nat} {l : List Ent} (h : SH0 W sb S obs rows c w) (he : EntsAt w (Still c w) A n cap l) : SH0 W sb S obs (rows ++ [⟨A, n, cap, l, none⟩]) c w where
  st := ⟨h.st.stp, h.st.own, h.st.apart, fun r hr => by
    rcases List.mem_append.1 hr with hr | hr
    · exact h.st.reads r hr
    · simp only [List.mem_singleton] at hr; subst hr; exact he⟩
  shad := h.shad
  len := h.len
  apart := h.apart
theorem sh_new {w : World} (h : St W obs rows w) (h7 : ∀ o ∈ obs, o.π ≠ [7]) : Calls Try.prog 10 #[] w fun e w' => ∃ sb, e = .returned (.pointer (some ⟨sb, 0, none⟩)) ∧ SH W sb [] obs rows w' ∧ Below w.heap.size w w' := by
  obtain ⟨c, h⟩ := h
  refine (shad_new (c := c) [7] w h.stp.fresh).mono ?_
  rintro e w' ⟨rfl, ⟨c', st, sh⟩, hb⟩
  exact ⟨_, rfl, ⟨c', ⟨h.stp.trans (st.mono fun x hx => by rw [hx]; simp), fun x hx => ⟨(h.own x hx).1, (h.own x hx).2.1, (h.own x hx).2.2.step st (h7 x hx) (by simp)⟩, h.apart, fun r hr => (h.reads r hr).step st (by simp)⟩, sh, by simp, h7⟩, hb⟩
theorem sh_rput {w : World} {m : EntC} {e : Ent} {bo : Bool} {x : Int} (h : SH W sb S obs rows w) (o : Ob) (ho : o ∈ obs) (hk : o.ref = true) (he : OldE W m e) (hobs : setOb obs o.π (putF o.L e).1 = obs') (hb : (putF o.L e).2.1 = bo) (hx : (putF o.L e).2.2 = x) :
    Calls Try.prog 12 #[.pointer (some ⟨o.b, 0, none⟩), mkEnt m] w fun y w' => y = .returned (.tuple #[.bool bo, .int .i64 x]) ∧ SH W sb S obs' rows w' := by
  obtain ⟨c, h⟩ := h
  obtain ⟨q1, q2⟩ := (h.st.own o ho).2.2.theRef hk
  obtain ⟨e1, e2, e3, e4, e5, e6⟩ := h.st.old he
  obtain ⟨m1, m2, m3, m4, m5, m6, m7⟩ := m
  dsimp only at e1 e2 e3 e4 e6
  subst e1 e2 e3 e4
  refine (ref_put (e := e) q1 h.st.stp.fresh (h.st.own o ho).1 (h.st.own o ho).2.1 q2 e5 e6).mono ?_
  rintro y w' ⟨rfl, c', st, sh⟩
  rw [hb, hx]
  exact ⟨rfl, ⟨c', hobs ▸ h.turn ho st (Ob.Rep.mk2 hk sh (putF_ok q2 e5)) (putF_len (h.st.own o ho).2.1)⟩⟩
theorem sh_rjoin {n : Nat} {w : World} (h : SH W sb S obs rows w) (o : Ob) (ho : o ∈ obs) (hk : o.ref = true) (r : Rw) (hr : r ∈ rows) (hrb : r.bx = none) (hobs : setOb obs o.π (joinF o.L r.l).1 = obs') (hn : (joinF o.L r.l).2 = n) :
    Calls Try.prog 14 #[.pointer (some ⟨o.b, 0, none⟩), .slice r.A r.n r.cap] w fun e w' => e = .returned (.int .i64 n) ∧ SH W sb S obs' rows w' := by
  obtain ⟨c, h⟩ := h
  obtain ⟨q1, q2⟩ := (h.st.own o ho).2.2.theRef hk
  refine (ref_join q1 h.st.stp.fresh (h.st.own o ho).1 (h.st.own o ho).2.1 q2 ((h.st.reads r hr).ents hrb)).mono ?_
  rintro e w' ⟨rfl, c', st, sh⟩
  rw [hn]
  exact ⟨rfl, ⟨c', hobs ▸ h.turn ho st (Ob.Rep.mk2 hk sh (joinF_ok q2 _ ((h.st.reads r hr).ents hrb).oks)) (joinF_len (h.st.own o ho).2.1 _).1⟩⟩
theorem sh_all {w : World} {l : List Ent} (h : SH W sb S obs rows w) (o : Ob) (ho : o ∈ obs) (hk : o.ref = true) (hl : scanL 4294967295 4294967295 o.L = l) :
    Calls Try.prog 17 #[.pointer (some ⟨o.b, 0, none⟩)] w fun e w' => ∃ A cap, e = .returned (.slice A l.length cap) ∧ SH W sb S obs (rows ++ [⟨A, l.length, cap, l, none⟩]) w' ∧ Below w.heap.size w w' := by
  obtain ⟨c, h⟩ := h
  obtain ⟨q1, q2⟩ := (h.st.own o ho).2.2.theRef hk
  have HC := Lib.hid (ref_scan 4294967295 4294967295 q1 h.st.stp.fresh (h.st.own o ho).2.1 q2 ⟨by decide, by decide⟩)
  have HL := Lib.hid hl; have HH := Lib.hid h
  clear hl h q1 q2
  go_enter Try.func17, Try.ntmps17
  go_wp2_with (go_at_call 48; go_loud ((with_reducible refine HC.out.mono ?_); rintro e1 w1 ⟨A1, cap1, rfl, _, he, hb⟩; rw [HL.out] at he ⊢))
  go_ret
  exact ⟨A1, cap1, rfl, ⟨c, (HH.out.later hb).addRow (he.imp fun k hk => ⟨HH.out.st.stp.fresh k hk.1, hk.2⟩)⟩, hb⟩
theorem sh_sput {w : World} {m : EntC} {e : Ent} {bo : Bool} {x : Int} (h : SH W sb S obs rows w) (o : Ob) (ho : o ∈ obs) (hk : o.ref = false) (he : OldE W m e) (hobs : setOb obs o.π (putF o.L e).1 = obs') (hb : (putF o.L e).2.1 = bo) (hx : (putF o.L e).2.2 = x) :
    Calls Try.prog 39 #[.pointer (some ⟨o.b, 0, none⟩), mkEnt m] w fun y w' => y = .returned (.tuple #[.bool bo, .int .i64 x]) ∧ SH W sb S obs' rows w' ∧ Boxes w w' := by
  obtain ⟨c, h⟩ := h
  have hL := (h.st.own o ho).2.1
  obtain ⟨e1, e2, e3, e4, e5, e6⟩ := h.st.old he
  obtain ⟨m1, m2, m3, m4, m5, m6, m7⟩ := m
  obtain ⟨ex, ⟨ei, ev, el⟩, eg⟩ := e
  dsimp only at e1 e2 e3 e4 e6
  subst e1 e2 e3 e4
  refine (shelf_put ((h.st.own o ho).2.2.shelf hk) h.st.stp.fresh (h.st.own o ho).1 ⟨m4, m5, m6, rfl, e5, e6⟩ (by omega)).mono ?_
  rintro y w' ⟨rfl, c', st, sh, hbx⟩
  rw [hb, hx]
  exact ⟨rfl, ⟨c', hobs ▸ h.turn ho st (Ob.Rep.mk1 hk sh) (putF_len hL)⟩, hbx⟩
theorem sh_snew {w : World} (π : List Int) (h : SH W sb S obs rows w) (h0 : π ≠ []) (h7 : π ≠ [7]) (hπ : ∀ o ∈ obs, o.π ≠ π) : Calls Try.prog 37 #[] w fun e w' => ∃ b, e = .returned (.pointer (some ⟨b, 0, none⟩)) ∧ SH W sb S (obs ++ [⟨π, b, [], false⟩]) rows w' ∧ Below w.heap.size w w' := by
  obtain ⟨c, h⟩ := h
  refine (shelf_new (c := c) π w h.st.stp.fresh).mono ?_
  rintro e w' ⟨rfl, ⟨c', st, sh, _⟩, hb⟩
  exact ⟨_, rfl, ⟨c', h.more (o := ⟨π, _, [], false⟩) st (by unfold Ob.Rep; exact sh) (by simp) h0 h7 hπ⟩, hb⟩
theorem sh_sjoin {n : Nat} {w : World} (h : SH W sb S obs rows w) (o : Ob) (ho : o ∈ obs) (hk : o.ref = false) (r : Rw) (hr : r ∈ rows) (hrb : r.bx = none) (hobs : setOb obs o.π (joinF o.L r.l).1 = obs') (hn : (joinF o.L r.l).2 = n) :
    Calls Try.prog 43 #[.pointer (some ⟨o.b, 0, none⟩), .slice r.A r.n r.cap] w fun e w' => e = .returned (.int .i64 n) ∧ SH W sb S obs' rows w' ∧ Boxes w w' := by
  obtain ⟨c, h⟩ := h
  refine (shelf_join ((h.st.own o ho).2.2.shelf hk) h.st.stp.fresh (h.st.own o ho).1 (h.st.own o ho).2.1 ((h.st.reads r hr).ents hrb)).mono ?_
  rintro e w' ⟨rfl, c', st, sh, hb⟩
  rw [hn]
  exact ⟨rfl, ⟨c', hobs ▸ h.turn ho st (Ob.Rep.mk1 hk sh) (joinF_len (h.st.own o ho).2.1 _).1⟩, hb⟩
theorem sh_map {w : World} {x : Int} {b : Nat} (h : SH W sb S obs rows w) (hS : S.length < 1000) (hx : U32 x) (hS' : setO S x b = S') : Calls Try.prog 38 #[.pointer (some ⟨sb, 0, none⟩), .int .u32 x, .pointer (some ⟨b, 0, none⟩)] w fun e w' => e = .returned (.tuple #[]) ∧ SH W sb S' obs rows w' := by
  obtain ⟨c, h⟩ := h
  refine (shad_set (b := b) h.shad h.st.stp.fresh (by omega) hx).mono ?_
  rintro e w' ⟨rfl, st, sh⟩
  have := setO_len S x b
  rw [hS'] at sh this
  exact ⟨rfl, ⟨c, h.remap st sh (by omega)⟩⟩
theorem sh_look {w : World} {x : Int} (h : SH W sb S obs rows w) (hx : U32 x) : ∃ mb, Box w sb #[.map (some mb)] ∧ ∀ w' : World, Below w.heap.size w w' →
    (Instr.lookup 86 (.map (some mb)) (.agg #[.int .u32 x]) false).run Try.prog w' = .ok (.pointer ((findO S x).map fun o => ⟨o.b, 0, none⟩)) w' := by
  obtain ⟨c, h⟩ := h
  obtain ⟨mb, h1, h2⟩ := shad_look (w' := w) h.shad hx
  exact ⟨mb, h1.box, h2⟩
theorem sh_slen {w : World} {n : Nat} (h : SH W sb S obs rows w) (o : Ob) (ho : o ∈ obs) (hk : o.ref = false) (hn : o.L.length = n) : Calls Try.prog 49 #[.pointer (some ⟨o.b, 0, none⟩)] w fun e w' => e = .returned (.int .i64 n) ∧ w = w' := by
  obtain ⟨c, h⟩ := h
  rw [← hn]
  exact shelf_len ((h.st.own o ho).2.2.shelf hk)
theorem sh_sscan {w : World} {l : List Ent} (f t : Int) (h : SH W sb S obs rows w) (o : Ob) (ho : o ∈ obs) (hk : o.ref = false) (hl : scanL f t o.L = l) :
    Calls Try.prog 46 #[.pointer (some ⟨o.b, 0, none⟩), .agg #[.int .u32 f, .int .u32 t]] w fun e w' => ∃ A cap, e = .returned (.slice A l.length cap) ∧ SH W sb S obs (rows ++ [⟨A, l.length, cap, l, none⟩]) w' ∧ Below w.heap.size w w' := by
  obtain ⟨c, h⟩ := h
  have hL := (h.st.own o ho).2.1
  refine (scan_at ((h.st.own o ho).2.2.shelf hk) h.st.stp.fresh (by omega) f t).mono ?_
  rintro e w' ⟨A, n, cap, rfl, he, hb⟩
  rw [hl] at he
  obtain rfl := he.1
  exact ⟨A, cap, rfl, ⟨c, (h.later hb).addRow he⟩, hb⟩

set_option maxHeartbeats 1000000 in
theorem sh_put_old {w : World} {m : EntC} {e : Ent} {bo : Bool} {x er : Int} (h : SH W sb S obs rows w) (o : Ob) (ho : o ∈ obs) (hk : o.ref = false) (hx : U32 x) (hS : findO S x = some ⟨x, o.b⟩) (he : OldE W m e) (hobs : setOb obs o.π (putF o.L e).1 = obs') (hb : (putF o.L e).2.1 = bo) (hr : (putF o.L e).2.2 = er) :
    Calls Try.prog 11 #[.pointer (some ⟨sb, 0, none⟩), .int .u32 x, mkEnt m] w fun y w' => y = .returned (.bool (er == 0)) ∧ SH W sb S obs' rows w' := by
  obtain ⟨m1, m2, m3, m4, m5, m6, m7⟩ := m
  have HE := Lib.hid he
  have SA := Lib.hid (h.later (below_a1 w (.cells #[.int .u32 m1, .int .u64 m2, .int .u64 m3, .slice m4 m5 m6, .bool m7] 36)))
  have X5 := Box.new w #[.int .u32 m1, .int .u64 m2, .int .u64 m3, .slice m4 m5 m6, .bool m7] 36
  obtain ⟨mb, hbx, hlk⟩ := sh_look SA.out hx
  have hl := hlk _ (Below.refl _ _)
  rw [hS] at hl
  simp only [Option.map_some] at hl
  have cs := hbx.cell; have zs := hbx.lt; have c5 := X5.cell; have z5 := X5.lt
  have HOB := Lib.hid hobs; have HBO := Lib.hid hb; have HR := Lib.hid hr; have HO := Lib.hid ho; have HKK := Lib.hid hk
  clear h he hbx hlk X5 hobs hb hr hS ho hk
  unfold mkEnt
  dsimp only
  go_enter Try.func11, Try.ntmps11
  go_wp2_with (go_at_call 39; go_loud ((refine (sh_sput (m := ⟨m1, m2, m3, m4, m5, m6, m7⟩) (e := e) SA.out o HO.out HKK.out HE.out HOB.out HBO.out HR.out).mono ?_); rintro e9 w9 ⟨rfl, hs9, hb9⟩; have SB := Lib.hid hs9; clear hs9 hb9))
  go_ret
  exact ⟨by first | rfl | simp, SB.out⟩
set_option maxHeartbeats 1000000 in
theorem sh_put_new {w : World} {m : EntC} {e : Ent} {x : Int} (π : List Int) (h : SH W sb S obs rows w) (h0 : π ≠ []) (h7 : π ≠ [7]) (hπ : ∀ o ∈ obs, o.π ≠ π) (hx : U32 x) (hS : findO S x = none) (hl : S.length < 1000) (he : OldE W m e) :
    Calls Try.prog 11 #[.pointer (some ⟨sb, 0, none⟩), .int .u32 x, mkEnt m] w fun y w' => y = .returned (.bool true) ∧ ∃ b, SH W sb (setO S x b) (obs ++ [⟨π, b, [e], false⟩]) rows w' := by
  obtain ⟨m1, m2, m3, m4, m5, m6, m7⟩ := m
  have HE := Lib.hid he
  have SA := Lib.hid (h.stt.addBox #[.int .u32 m1, .int .u64 m2, .int .u64 m3, .slice m4 m5 m6, .bool m7] 36)
  have SA' := Lib.hid (show SH W sb S obs (rows ++ [⟨none, 0, 0, [], some (w.heap.size, #[.int .u32 m1, .int .u64 m2, .int .u64 m3, .slice m4 m5 m6, .bool m7])⟩]) (w.alloc (.cells #[.int .u32 m1, .int .u64 m2, .int .u64 m3, .slice m4 m5 m6, .bool m7] 36)) by
    obtain ⟨c, h⟩ := h
    have h2 := h.later (below_a1 w (.cells #[.int .u32 m1, .int .u64 m2, .int .u64 m3, .slice m4 m5 m6, .bool m7] 36))
    refine ⟨c, ⟨h2.st.stp, h2.st.own, h2.st.apart, fun r hr => ?_⟩, h2.shad, h2.len, h2.apart⟩
    rcases List.mem_append.1 hr with hr | hr
    · exact h2.st.reads r hr
    · simp only [List.mem_singleton] at hr; subst hr; exact ⟨Box.new _ _ _, h.st.stp.fresh _ (Nat.le_refl _)⟩)
  have X5 := Box.new w #[.int .u32 m1, .int .u64 m2, .int .u64 m3, .slice m4 m5 m6, .bool m7] 36
  obtain ⟨mb, hbx, hlk⟩ := sh_look SA'.out hx
  have hlo := hlk _ (Below.refl _ _)
  rw [hS] at hlo
  simp only [Option.map_none] at hlo
  have cs := hbx.cell; have zs := hbx.lt; have c5 := X5.cell; have z5 := X5.lt
  have HX := Lib.hid hx; have HP := Lib.hid hπ
  clear h he hbx hlk X5 hS hx hπ SA
  unfold mkEnt
  dsimp only
  go_enter Try.func11, Try.ntmps11
  go_wp2_with (first
    | (go_at_call 37; go_loud ((with_reducible refine (sh_snew π SA'.out h0 h7 HP.out).mono ?_); rintro e8 w8 ⟨b, rfl, hs8, hb8⟩; have SB := Lib.hid hs8; clear hs8 hb8))
    | (go_at_call 38; go_loud ((with_reducible refine (sh_map SB.out hl HX.out rfl).mono ?_); rintro e7 w7 ⟨rfl, hs7⟩; have SC := Lib.hid hs7; have Y5 := SC.out.stt.box (r := ⟨none, 0, 0, [], some (w.heap.size, #[.int .u32 m1, .int .u64 m2, .int .u64 m3, .slice m4 m5 m6, .bool m7])⟩) (by simp) rfl; have c5 := Y5.cell; have z5 := Y5.lt; clear hs7 Y5))
    | (go_at_call 39; go_loud ((refine (sh_sput (m := ⟨m1, m2, m3, m4, m5, m6, m7⟩) (e := e) (bo := true) (x := 0) SC.out ⟨π, b, [], false⟩ (by simp) rfl HE.out rfl rfl rfl).mono ?_); rintro e9 w9 ⟨rfl, hs9, hb9⟩; have SD := Lib.hid hs9; clear hs9 hb9)))
  go_ret
  refine ⟨by first | rfl | simp, b, ?_⟩
  obtain ⟨c, h⟩ := SD.out
  refine ⟨c, ⟨h.st.stp, fun o ho => h.st.own o ?_, ?_, fun r hr => h.st.reads r (List.mem_append_left _ hr)⟩, h.shad, h.len, fun o ho => h.apart o ?_⟩
  all_goals
    have hse : setOb (obs ++ [⟨π, b, [], false⟩]) π (putF [] e).1 = obs ++ [⟨π, b, [e], false⟩] := by
      unfold setOb
      rw [List.map_append]
      congr 1
      · conv => rhs; rw [← List.map_id obs]
        exact List.map_congr_left fun o ho => if_neg (HP.out o ho)
      · simp only [List.map_cons, List.map_nil, if_true]
        rfl
    first
      | (rw [hse]; exact ho)
      | (have := h.st.apart; rw [hse] at this; exact this)
end
end Go.Proofs.Ytjcbmfopcohcmaa

namespace Go.Proofs.Ytjcbmfopcohcmaa
open Go.RowKit Go.ChangeShapes Go.Maps
set_option maxRecDepth 100000
set_option linter.unusedVariables false
set_option linter.unusedSimpArgs false

theorem setOb_last {obs : List Ob} {π : List Int} (h : ∀ o ∈ obs, o.π ≠ π) (b : Nat) (L L' : List Ent) (r : Bool) : setOb (obs ++ [⟨π, b, L, r⟩]) π L' = obs ++ [⟨π, b, L', r⟩] := by
  unfold setOb
  rw [List.map_append]
  congr 1
  · conv => rhs; rw [← List.map_id obs]
    exact List.map_congr_left fun o ho => if_neg (h o ho)
  · simp only [List.map_cons, List.map_nil, if_true]
theorem findO_set (S : List OwnK) (x : Int) (b : Nat) : findO (setO S x b) x = some ⟨x, b⟩ := by
  unfold setO findO
  by_cases h : S.any (ownB x) = true
  · rw [if_pos h]
    induction S with
    | nil => simp at h
    | cons y r ih =>
      rw [List.map_cons]
      by_cases hy : ownB x y = true
      · rw [if_pos hy]
        exact List.find?_cons_of_pos (by simp [ownB])
      · rw [if_neg hy, List.find?_cons_of_neg hy]
        refine ih ?_
        simpa [hy] using h
  · rw [if_neg h, List.find?_append]
    have : S.find? (ownB x) = none := List.find?_eq_none.2 fun y hy he => h (List.any_eq_true.2 ⟨y, hy, he⟩)
    rw [this]
    simp [ownB]
section
variable {W w w' : World} {sb : Nat} {S S' : List OwnK} {obs obs' : List Ob} {rows : List Rw} {c c' : Col}

set_option maxHeartbeats 1000000 in
theorem sh_set {x : Int} (π : List Int) (h : SH W sb S obs rows w) (h0 : π ≠ []) (h7 : π ≠ [7]) (hπ : ∀ o ∈ obs, o.π ≠ π) (hx : U32 x) (hl : S.length < 1000) (r : Rw) (hr : r ∈ rows) (hrb : r.bx = none) :
    Calls Try.prog 13 #[.pointer (some ⟨sb, 0, none⟩), .int .u32 x, .slice r.A r.n r.cap] w fun y w' => y = .returned (.tuple #[]) ∧ ∃ b, SH W sb (setO S x b) (obs ++ [⟨π, b, (joinF [] r.l).1, false⟩]) rows w' := by
  have SA := Lib.hid h; have HX := Lib.hid hx; have HP := Lib.hid hπ; have HR := Lib.hid hr; have HRB := Lib.hid hrb
  clear h hx hπ hr hrb
  go_enter Try.func13, Try.ntmps13
  go_wp2_with (first
    | (go_at_call 37; go_loud ((with_reducible refine (sh_snew π SA.out h0 h7 HP.out).mono ?_); rintro e8 w8 ⟨b, rfl, hs8, hb8⟩; have SB := Lib.hid hs8; clear hs8 hb8))
    | (go_at_call 43; go_loud ((refine (sh_sjoin SB.out ⟨π, b, [], false⟩ (by simp) rfl r HR.out HRB.out (setOb_last HP.out _ _ _ _) rfl).mono ?_); rintro e9 w9 ⟨rfl, hs9, hb9⟩; have SC := Lib.hid hs9; clear hs9 hb9))
    | (go_at_call 38; go_loud ((with_reducible refine (sh_map SC.out hl HX.out rfl).mono ?_); rintro e7 w7 ⟨rfl, hs7⟩; have SD := Lib.hid hs7; clear hs7)))
  go_end0
  exact ⟨rfl, b, SD.out⟩

set_option maxHeartbeats 1000000 in
theorem sh_of_old {x : Int} {l : List Ent} (h : SH W sb S obs rows w) (o : Ob) (ho : o ∈ obs) (hk : o.ref = false) (hx : U32 x) (hS : findO S x = some ⟨x, o.b⟩) (hl : scanL 4294967295 4294967295 o.L = l) :
    Calls Try.prog 16 #[.pointer (some ⟨sb, 0, none⟩), .int .u32 x] w fun e w' => ∃ A cap, e = .returned (.slice A l.length cap) ∧ SH W sb S obs (rows ++ [⟨A, l.length, cap, l, none⟩]) w' ∧ Below w.heap.size w w' := by
  obtain ⟨mb, hbx, hlk⟩ := sh_look h hx
  rw [hS] at hlk
  simp only [Option.map_some] at hlk
  have SA := Lib.hid h; have HO := Lib.hid ho; have HK := Lib.hid hk; have HL := Lib.hid hl
  have cs := hbx.cell; have zs := hbx.lt
  have S0 := Same.of (Below.refl w.heap.size w)
  clear h ho hk hl hx hS hbx
  go_enter Try.func16, Try.ntmps16
  go_upto_region 3 with fail
  go_region_held3 (fun w' => Same w w') (with_reducible (first | assumption | exact Same.drew _))
    (first
    | (go_at_call 47; go_loud ((with_reducible refine (all_any _).mono ?_); rintro e2 w2 ⟨rfl, hb2⟩; have S1 := Same.step (show Same w _ by (with_reducible (first | assumption | exact Same.drew _))) hb2; clear hb2))
    | (go_at_call 46; go_loud ((with_reducible refine (sh_sscan _ _ (SA.out.later (show Same w _ by (with_reducible (first | assumption | exact Same.drew _))).1) o HO.out HK.out HL.out).mono ?_); rintro e3 w3 ⟨A3, cap3, rfl, hs3, hb3⟩; have S2 := Same.step (show Same w _ by (with_reducible (first | assumption | exact Same.drew _))) hb3; have SB := Lib.hid hs3; clear hs3 hb3)))
  all_goals
    go_wp2
    go_ret
    exact ⟨A3, cap3, rfl, SB.out, (show Same w _ by (with_reducible (first | assumption | exact Same.drew _))).1⟩

set_option maxHeartbeats 1000000 in
theorem sh_of_new {x : Int} (h : SH W sb S obs rows w) (hx : U32 x) (hS : findO S x = none) :
    Calls Try.prog 16 #[.pointer (some ⟨sb, 0, none⟩), .int .u32 x] w fun e w' => e = .returned (.slice none 0 0) ∧ SH W sb S obs rows w' ∧ Below w.heap.size w w' := by
  obtain ⟨mb, hbx, hlk⟩ := sh_look h hx
  rw [hS] at hlk
  simp only [Option.map_none] at hlk
  have SA := Lib.hid h
  have cs := hbx.cell; have zs := hbx.lt
  have S0 := Same.of (Below.refl w.heap.size w)
  clear h hx hS hbx
  go_enter Try.func16, Try.ntmps16
  go_upto_region 3 with fail
  go_region_held3 (fun w' => Same w w') (with_reducible (first | assumption | exact Same.drew _))
    (first
    | (go_at_call 47; go_loud ((with_reducible refine (all_any _).mono ?_); rintro e2 w2 ⟨rfl, hb2⟩; have S1 := Same.step (show Same w _ by (with_reducible (first | assumption | exact Same.drew _))) hb2; clear hb2))
    | (go_at_call 46; go_loud ((with_reducible refine (none_scan _ _ _).mono ?_); rintro e3 w3 ⟨rfl, hb3⟩; have S2 := Same.step (show Same w _ by (with_reducible (first | assumption | exact Same.drew _))) hb3; clear hb3)))
  all_goals
    go_wp2
    go_ret
    exact ⟨rfl, SA.out.later (show Same w _ by (with_reducible (first | assumption | exact Same.drew _))).1, (show Same w _ by (with_reducible (first | assumption | exact Same.drew _))).1⟩
end
end Go.Proofs.Ytjcbmfopcohcmaa

namespace Go.Proofs.Ytjcbmfopcohcmaa
open Go.RowKit Go.ChangeShapes Go.Maps
set_option maxRecDepth 100000
set_option linter.unusedVariables false
set_option linter.unusedSimpArgs false

/-- All owners but one. -/
def dropO (S : List OwnK) (x : Int) : List OwnK := S.filter fun o => !ownB x o
structure KeyO where
  x : Int
structure PtrC where
  p : Option Addr
def mkOwn (a : KeyO) : Value := .agg #[.int .u32 a.x]
def mkPtr (a : PtrC) : Value := .pointer a.p
theorem own_shape (key : Value) (kl : Lit) (h : keyOf Try.prog 91 key = some kl) : ∃ a, key = mkOwn a := by obtain ⟨x, _, rfl, _⟩ := keyOf_own_inv h; exact ⟨⟨x⟩, rfl⟩
theorem ptr_shape (v : Value) (y : DataW Value × List MemPlace) (h : heldIf isPtr v = some y) : ∃ a, v = mkPtr a := by
  have := (heldIf_inv h).1
  cases v <;> simp [isPtr] at this
  exact ⟨⟨_⟩, rfl⟩
theorem ints_none (w : World) (D : Nat → Prop) : Ints w D .u32 4 none 0 0 [] := noInts w D
section
variable {W w w' : World} {sb : Nat} {S S' : List OwnK} {obs obs' : List Ob} {rows : List Rw} {c c' : Col}
theorem sh_del {x : Int} (h : SH W sb S obs rows w) (hx : U32 x) : ∃ (mb : Nat) (dr : World → World), Box w sb #[.map (some mb)] ∧ (∀ w' : World, Below w.heap.size w w' →
    (Instr.lookup 86 (.map (some mb)) (.agg #[.int .u32 x]) false).run Try.prog w' = .ok (.pointer ((findO S x).map fun o => ⟨o.b, 0, none⟩)) w') ∧
    ∀ w' : World, Below w.heap.size w w' → (Builtin.delete_ #[86, 91] 0 #[.map (some mb), .agg #[.int .u32 x]]).run Try.prog w' = .ok (.tuple #[]) (dr w') ∧ SH W sb (dropO S x) obs rows (dr w') := by
  obtain ⟨c, h⟩ := h
  obtain ⟨mb, D, hb, hcb, hcm, hm, hd⟩ := h.shad
  obtain ⟨dr, hdr⟩ := heldIf_drop hm own_keyed Try.underlying86 (keyOf_own hx) 0
  refine ⟨mb, dr, hb.box, fun w' hb' => ?_, fun w' hb' => ?_⟩
  · refine heldIf_run (ownsMap_only hm (Only.of_below (S := fun _ => False) hb') (fun h => h)) own_keyed Try.underlying86 (z := .pointer none) (by kernel_rfl) rfl (keyOf_own hx) ?_
    cases hf : findO S x with
    | some o => exact (own_there hd hf).2.1 _
    | none => exact atKey_of_not_has (own_not hx hd hf).1 _
  · obtain ⟨h1, h2, h3⟩ := hdr w' hb'
    have h' := h.later hb'
    have nb : sb ≠ mb := by
      rintro rfl
      obtain ⟨es, cl, h1, _⟩ := hm
      have h2 := hb
      unfold BoxT at h2
      rw [h2] at h1
      cases h1
    have hb2 : BoxT w' 88 sb #[.map (some mb)] := hb.only (Only.of_below (S := fun _ => False) hb') (fun h => h)
    have hdel : MapOf kO valO (D.del (KO x)) (dropO S x) := hd.del (ownsMap_tidy hm own_keyed) fun y hy => by
      obtain ⟨_, v, q2, _⟩ := hd.has y hy
      constructor
      · intro h2 h3
        have := KO_inj q2.2 hx h3
        simp [ownB, this] at h2
      · intro h2
        rw [Bool.not_eq_true', Bool.eq_false_iff]
        intro h3
        simp [ownB] at h3
        exact h2 (by unfold kO; rw [h3])
    have htt := ownsMap_tight h2
    rw [hdel.size] at htt
    refine ⟨h1, c, h'.remap ⟨h3.mono (fun k _ hk => by subst hk; exact hcm), fun _ _ => rfl, fun k hk => h'.st.stp.fresh k (Nat.le_trans h3.size hk)⟩ ⟨mb, _, hb2.only h3 nb, hcb, hcm, htt, hdel⟩ (Nat.le_trans (List.length_filter_le _ _) h.len)⟩

set_option maxHeartbeats 1000000 in
theorem sh_drop_old {x : Int} {n : Nat} (h : SH W sb S obs rows w) (o : Ob) (ho : o ∈ obs) (hk : o.ref = false) (hx : U32 x) (hS : findO S x = some ⟨x, o.b⟩) (hn : o.L.length = n) :
    Calls Try.prog 18 #[.pointer (some ⟨sb, 0, none⟩), .int .u32 x] w fun e w' => e = .returned (.int .i64 n) ∧ SH W sb (dropO S x) obs rows w' := by
  obtain ⟨mb, dr, hbx, hlk, hdl⟩ := sh_del h hx
  rw [hS] at hlk
  simp only [Option.map_some] at hlk
  have hlo := hlk _ (Below.refl _ _)
  obtain ⟨hd1, hd2⟩ := hdl _ (Below.refl _ _)
  have SA := Lib.hid h; have HO := Lib.hid ho; have HK := Lib.hid hk; have HN := Lib.hid hn; have SD := Lib.hid hd2
  have cs := hbx.cell; have zs := hbx.lt
  clear h ho hk hn hx hS hbx hlk hdl hd2
  go_enter Try.func18, Try.ntmps18
  go_wp2_with (go_at_call 49; go_loud ((with_reducible refine (sh_slen SA.out o HO.out HK.out HN.out).mono ?_); rintro e2 w2 ⟨rfl, rfl⟩))
  go_ret
  exact ⟨rfl, SD.out⟩
set_option maxHeartbeats 1000000 in
theorem sh_drop_new {x : Int} (h : SH W sb S obs rows w) (hx : U32 x) (hS : findO S x = none) :
    Calls Try.prog 18 #[.pointer (some ⟨sb, 0, none⟩), .int .u32 x] w fun e w' => e = .returned (.int .i64 0) ∧ SH W sb (dropO S x) obs rows w' := by
  obtain ⟨mb, dr, hbx, hlk, hdl⟩ := sh_del h hx
  rw [hS] at hlk
  simp only [Option.map_none] at hlk
  have hlo := hlk _ (Below.refl _ _)
  have HBX := Lib.hid hbx; have HDL := Lib.hid hdl
  have cs := hbx.cell; have zs := hbx.lt
  clear h hx hS hbx hlk hdl
  go_enter Try.func18, Try.ntmps18
  go_wp2_with (go_at_call 49; go_loud ((with_reducible refine (none_len _).mono ?_); rintro e2 w2 ⟨rfl, hb2⟩; have X2 := HBX.out.below hb2 zs; have c2 := X2.cell; have z2 := X2.lt; obtain ⟨hd1, hd2⟩ := HDL.out w2 hb2; have SD := Lib.hid hd2; clear hb2 hd2 X2))
  go_ret
  exact ⟨rfl, SD.out⟩
end
end Go.Proofs.Ytjcbmfopcohcmaa

namespace Go.Proofs.Ytjcbmfopcohcmaa
open Go.RowKit Go.ChangeShapes Go.Maps
set_option maxRecDepth 100000
set_option linter.unusedVariables false
set_option linter.unusedSimpArgs false

def ownL (ne : Bool) (x : Int) : List Int := bif ne then [x] else []
def ownN (ne : Bool) : Nat := bif ne then 1 else 0
theorem news_u32 {w : World} {b : Nat} {x : Int} (h : Box w b #[.int .u32 x]) : ∀ ad, some (⟨b, 0, none⟩ : Addr) = some ad → ∀ j u, [Value.int .u32 x][j]? = some u → w.cell? (ad.add j) = some u := by
  intro ad ha j u hu
  injection ha with ha
  subst ha
  have hj : j = 0 := by have := (List.getElem?_eq_some_iff.1 hu).1; simp at this; exact this
  subst hj
  rw [show (⟨b, 0, none⟩ : Addr).add 0 = ⟨b, 0, none⟩ from rfl, h.cell]
  simpa using hu
section
variable {W w w' : World} {sb : Nat} {S S' : List OwnK} {obs obs' : List Ob} {rows : List Rw} {c c' : Col}
set_option maxHeartbeats 1000000 in
theorem sh_owners0 (h : SH W sb [] obs rows w) :
    Calls Try.prog 19 #[.pointer (some ⟨sb, 0, none⟩)] w fun e w' => e = .returned (.slice none 0 0) ∧ SH W sb [] obs rows w' := by
  obtain ⟨c, h⟩ := h
  obtain ⟨mb, D, hb, _, _, hm, hd⟩ := h.shad
  have hc := hb.box.cell
  have zs := hb.box.lt
  have SA := Lib.hid h; have HM := Lib.hid hm; have HD := Lib.hid hd
  clear hd hm hb h
  go_enter Try.func19, Try.ntmps19
  go_wp2_with (first | (at_range; refine wpList_range_own _ rfl _ 86 rfl 91 89 own_keyed Try.underlying86 (heldIf isPtr) mb ([] : List OwnK).length D rfl HM.out ?_; intro w0 hrg0 hg0 hs0) | go_in)
  try go_frame
  have HR0 := Lib.hid hrg0; have HG0 := Lib.hid hg0
  clear hrg0 hg0 hs0
  go_loopw [3] (fun s wr => ∃ (left : Lit → Bool) (cnt : Nat), s = .slice none 0 0 ∧ wr.ranges Try.prog 91 (heldIf isPtr) mb w.heap.size ([] : List OwnK).length D left cnt ∧ Below w.heap.size w wr) (fun _ wr => wr.rangeLeft mb w.heap.size)
  case atStart => exact ⟨_, _, rfl, HR0.out, (Below.refl _ _).grown HG0.out (Nat.le_refl _) (fun j hj => by cases hj)⟩
  case round =>
    obtain ⟨left, cnt, rfl, hrg, hB⟩ := hrel
    have HB := Lib.hid hB; have HR := Lib.hid hrg
    clear hB
    go_wp2_with (first
      | (at_next; refine wpList_next_ranges _ rfl _ rfl 91 own_keyed (heldIf isPtr) mkOwn mkPtr own_shape ptr_shape mb w.heap.size ([] : List OwnK).length _ _ _ rfl hrg ?_ ?_)
      | go_in)
    · intro hc0 hl0
      go_wp2_with (go_at_call 50; go_loud ((with_reducible refine (osort_u32z _ _ _).mono ?_); rintro e2 w2 ⟨rfl, rfl⟩))
      go_ret
      exact ⟨rfl, _, SA.out.later HB.out⟩
    · intro x cc kl yd yp w2 cnt2 hkey hlk hv hat hrg2 hlt hg2 hs2 hen
      obtain ⟨e, he, _⟩ := rem_elem HD.out hv hat
      simp at he
set_option maxHeartbeats 1000000 in
theorem sh_owners1 {x : Int} {b : Nat} {ne : Bool} (h : SH W sb [⟨x, b⟩] obs rows w) (o : Ob) (ho : o ∈ obs) (hk : o.ref = false) (hob : o.b = b) (hx : U32 x) (hne : decide (0 < o.L.length) = ne) :
    Calls Try.prog 19 #[.pointer (some ⟨sb, 0, none⟩)] w fun e w' => ∃ A n cap, e = .returned (.slice A n cap) ∧ Ints w' (fun b => b < w'.heap.size) .u32 4 A n cap (ownL ne x) ∧ n = ownN ne ∧ SH W sb [⟨x, b⟩] obs rows w' ∧ Below w.heap.size w w' := by
  subst hob
  obtain ⟨c, h⟩ := h
  obtain ⟨mb, D, hb, _, _, hm, hd⟩ := h.shad
  have hc := hb.box.cell
  have zs := hb.box.lt
  have SA := Lib.hid h; have HM := Lib.hid hm; have HD := Lib.hid hd
  have HO := Lib.hid ho; have HK := Lib.hid hk; have HX := Lib.hid hx
  have HNE := Lib.hid hne
  have hlen := (h.st.own o ho).2.1
  obtain ⟨i0, hi0, hz0, hz1, hz2⟩ := run_u32_info
  have HI := Lib.hid hi0; have HZ0 := Lib.hid hz0; have HZ1 := Lib.hid hz1; have HZ2 := Lib.hid hz2
  obtain ⟨k, hkl⟩ : ∃ k, o.L.length = k := ⟨_, rfl⟩
  rw [hkl] at hne hlen
  have hpos : decide (0 < (k : Int)) = ne := by rw [← hne]; simp
  have HKL := Lib.hid hkl
  clear hkl hd hm hb h ho hk hx hi0 hz0 hz1 hz2
  go_enter Try.func19, Try.ntmps19
  go_wp2_with (first | (at_range; refine wpList_range_own _ rfl _ 86 rfl 91 89 own_keyed Try.underlying86 (heldIf isPtr) mb [(⟨x, o.b⟩ : OwnK)].length D rfl HM.out ?_; intro w0 hrg0 hg0 hs0) | go_in)
  try go_frame
  have HR0 := Lib.hid hrg0; have HG0 := Lib.hid hg0
  clear hrg0 hg0 hs0
  go_loopw [3] (fun s wr => ∃ (left : Lit → Bool) (cnt n cap : Nat) (A : Option Addr), s = .slice A n cap ∧ wr.ranges Try.prog 91 (heldIf isPtr) mb w.heap.size [(⟨x, o.b⟩ : OwnK)].length D left cnt ∧ Below w.heap.size w wr ∧
      (Rem kO [⟨x, o.b⟩] left = [⟨x, o.b⟩] ∧ A = none ∧ n = 0 ∧ cap = 0 ∨ Rem kO [⟨x, o.b⟩] left = [] ∧ n = ownN ne ∧ Ints wr (fun b => b < wr.heap.size) .u32 4 A n cap (ownL ne x))) (fun _ wr => wr.rangeLeft mb w.heap.size)
  case atStart => exact ⟨_, _, 0, 0, none, rfl, HR0.out, (Below.refl _ _).grown HG0.out (Nat.le_refl _) (fun j hj => by cases hj), .inl ⟨rem_start HD.out, rfl, rfl, rfl⟩⟩
  case round =>
    obtain ⟨left, cnt, n, cap, A, rfl, hrg, hB, hq⟩ := hrel
    have HB := Lib.hid hB; have HR := Lib.hid hrg; have HQ := Lib.hid hq
    clear hB hq
    go_wp2_with (first
      | (at_next; refine wpList_next_ranges _ rfl _ rfl 91 own_keyed (heldIf isPtr) mkOwn mkPtr own_shape ptr_shape mb w.heap.size [(⟨x, o.b⟩ : OwnK)].length _ _ _ rfl hrg ?_ ?_)
      | go_in)
    · intro hc0 hl0
      have hq := HQ.out
      rw [rem_done hl0] at hq
      rcases hq with ⟨h1, _⟩ | ⟨_, h1, h2⟩
      · cases h1
      have H1 := Lib.hid h1; have H2 := Lib.hid h2
      have hn : n = 0 ∨ n = 1 := by rw [h1]; cases ne <;> simp [ownN]
      clear h1 h2
      rcases hn with rfl | rfl
      · go_wp2_with (go_at_call 50; go_loud ((with_reducible refine (osort_u32z _ _ _).mono ?_); rintro e2 w2 ⟨rfl, rfl⟩))
        go_ret
        exact ⟨_, _, _, rfl, H2.out, H1.out, ⟨_, SA.out.later HB.out⟩, HB.out⟩
      · go_wp2_with (go_at_call 50; go_loud ((with_reducible refine (osort_u32o _ _ _).mono ?_); rintro e2 w2 ⟨rfl, rfl⟩))
        go_ret
        exact ⟨_, _, _, rfl, H2.out, H1.out, ⟨_, SA.out.later HB.out⟩, HB.out⟩
    · intro xx cc kl yd yp w2 cnt2 hkey hlk hv hat hrg2 hlt hg2 hs2 hen
      obtain ⟨e, he, hke, hev⟩ := rem_elem HD.out hv hat
      simp only [List.mem_singleton] at he
      subst he
      obtain ⟨y, hy, hye, hyk⟩ := keyOf_own_inv hkey
      have hxx : xx.x = x := by
        unfold mkOwn at hye
        simp only [Value.agg.injEq, Array.mk.injEq, List.cons.injEq, Value.int.injEq, true_and, and_true] at hye
        rw [hyk] at hke
        rw [hye]
        exact (KO_inj HX.out hy hke).symm
      have hcc : cc.p = some ⟨o.b, 0, none⟩ := by
        have := hev.1
        unfold mkPtr at this
        injection this
      have hp := rem_step HD.out.apart (by rw [← hke]; exact KO_key _) (List.mem_singleton.2 rfl) hke hlk
      have hq := HQ.out.resolve_right (fun h => by rw [h.1] at hp; exact absurd hp.length_eq (by simp))
      obtain ⟨q1, rfl, rfl, rfl⟩ := hq
      rw [q1] at hp
      have hrm : Rem kO [⟨x, o.b⟩] (fun z => left z && !z.sameKey kl) = [] := by
        have := hp.length_eq
        simp only [List.length_cons, List.length_nil] at this
        exact List.eq_nil_of_length_eq_zero (by omega)
      have HRM := Lib.hid hrm
      have HB2 := Lib.hid (below_grown HB.out hg2 (Nat.le_refl _)); have HR2 := Lib.hid hrg2; have HLT := Lib.hid hlt
      have z2 := HB2.out.size
      clear hp hrm q1 hg2 hs2 hrg2 hat hv hkey hlk hrg hlt hev hke hyk hye hy HQ
      obtain ⟨xq⟩ := xx
      obtain ⟨pq⟩ := cc
      dsimp only at hxx hcc
      subst hxx hcc
      unfold mkPtr mkOwn at hen
      dsimp only at hen
      have S2 := Lib.hid (show SH W sb [⟨xq, o.b⟩] obs rows (w2.alloc (.cells #[.int .u32 xq] 91)) from ⟨_, SA.out.later (HB2.out.alloc z2 _)⟩)
      cases ne with
      | false =>
        go_wp2_with (go_at_call 49; go_loud ((with_reducible refine (sh_slen (n := k) S2.out o HO.out HK.out HKL.out).mono ?_); rintro e3 w3 ⟨rfl, rfl⟩))
        refine ⟨⟨_, _, 0, 0, none, rfl, HR2.out.alloc _, HB2.out.alloc HB2.out.size _, .inr ⟨HRM.out, rfl, ints_none _ _⟩⟩, ?_⟩
        rw [(HR2.out.alloc _).left_eq, HR.out.left_eq]; exact HLT.out
      | true =>
        go_wp2_with (first
          | (go_at_call 49; go_loud ((with_reducible refine (sh_slen (n := k) S2.out o HO.out HK.out HKL.out).mono ?_); rintro e3 w3 ⟨rfl, rfl⟩))
          | (at_builtin; go_loud (refine wpList_append_nil _ rfl _ _ 32 rfl (w.heap.size) 22 i0 (.int .u32 0) 1 4 Try.underlying32 HI.out HZ0.out HZ1.out HZ2.out rfl (by decide) rfl _ 1 1 [.int .u32 xq] rfl rfl (fun h => by cases h) (news_u32 (Box.newAt (w2.alloc (.cells #[.int .u32 xq] 91)) #[.int .u32 xq] 22 (w2.heap.size + 1) (by rw [size_alloc]))) (fun u hu => by simp only [List.mem_singleton] at hu; subst hu; rfl) (by decide) (by decide) (by simp only [size_alloc]; omega) ?_; intro B7 cap7 w7 a7)))
        have h7 := a7.1
        have g7 := a7.2.1
        simp only [Nat.zero_add, List.nil_append] at h7
        obtain ⟨B', cap', he, hi⟩ := ints_of_row (xs := [xq]) h7 (by decide) (fun x hx => by simp only [List.mem_singleton] at hx; subst hx; have h1 := HX.out.1; have h2 := HX.out.2; simp [Lit.wf, IntKind.min, IntKind.max, IntKind.bits, IntKind.signed]; omega)
        injection he with he1 _ he2
        subst he1 he2
        have HB7 := ((HB2.out.alloc z2 (.cells #[.int .u32 xq] 91)).alloc (by rw [size_alloc]; omega) (.cells #[.int .u32 xq] 22)).grown g7 (by simp only [size_alloc]; omega) (fun j hj => by cases hj)
        have hr7 := ((HR2.out.alloc (.cells #[.int .u32 xq] 91)).alloc (.cells #[.int .u32 xq] 22)).kept g7 (by simp [Value.ownBlock]) (by simp [Value.ownBlock])
        refine ⟨⟨_, _, 1, cap7, B7, rfl, hr7, HB7, .inr ⟨HRM.out, rfl, hi.stays (fun _ _ => rfl) (fun b hb => hb.2)⟩⟩, ?_⟩
        rw [hr7.left_eq, HR.out.left_eq]; exact HLT.out
end
end Go.Proofs.Ytjcbmfopcohcmaa

namespace Go.Proofs.Ytjcbmfopcohcmaa
open Go.RowKit Go.ChangeShapes Go.Maps
set_option maxRecDepth 100000
set_option linter.unusedVariables false
set_option linter.unusedSimpArgs false

theorem ints_one {w : World} {b : Nat} {x : Int} (h : Box w b #[.int .u32 x]) (hx : U32 x) : Ints w (· < w.heap.size) .u32 4 (some ⟨b, 0, none⟩) 1 1 [x] := by
  refine ⟨rfl, Nat.le_refl _, by decide, by decide, (fun h => by cases h), fun y hy => ?_, fun _ => ⟨b, 0, rfl, h.lt, fun j hj => ?_⟩⟩
  · simp only [List.mem_singleton] at hy
    subst hy
    have h1 := hx.1; have h2 := hx.2
    simp [Lit.wf, IntKind.min, IntKind.max, IntKind.bits, IntKind.signed]; omega
  · obtain rfl : j = 0 := by omega
    rw [h.cell]; rfl
def e10 : Ent := ⟨1, ⟨1, 1, []⟩, false⟩
theorem e10_old (W : World) : OldE W ⟨1, 1, 1, none, 0, 0, false⟩ e10 := ⟨rfl, rfl, rfl, rfl, ⟨⟨by decide, by decide⟩, ⟨by decide, by decide⟩, ⟨by decide, by decide⟩, by simp [e10]⟩, noInts _ _⟩
theorem e10_scan : scanL 4294967295 4294967295 [e10] = [e10] := by
  unfold scanL
  rw [show List.filter (hasE 4294967295 4294967295) [e10] = [e10] from by decide]
  simp
set_option maxHeartbeats 1000000 in
theorem awake10 (W : World) : Calls Try.prog 9 #[] W fun e w' => e = .returned (.bool true) ∧ Below W.heap.size W w' := by
  have S0 := Lib.hid (St.nil W)
  have H5 := Lib.hid (show U32 5 from ⟨by decide, by decide⟩)
  have hpn : ∀ (w : World) (b : Nat), (binOp .neq 25 (.pointer (some ⟨b, 0, none⟩)) (.pointer none)).run Try.prog w = .ok (.bool true) w := fun w b => by rfl
  go_enter Try.func9, Try.ntmps9
  go_wp2_with (first
    | (go_at_call 10; go_loud ((with_reducible refine (sh_new S0.out (by simp)).mono ?_); rintro e w1 ⟨sb, rfl, hs, hb⟩; have SA := Lib.hid hs; clear hs hb))
    | (go_at_call 11; go_loud ((refine (sh_put_new (m := ⟨1, 1, 1, none, 0, 0, false⟩) (e := e10) (x := 5) [1] SA.out (by simp) (by simp) (by simp) H5.out rfl (by simp) (e10_old W)).mono ?_); rintro e w2 ⟨rfl, b, hs⟩; have SB := Lib.hid (show SH W sb [⟨5, b⟩] [⟨[1], b, [e10], false⟩] [] w2 from hs); clear hs))
    | (go_at_call 19; go_loud ((with_reducible refine (sh_owners1 (ne := true) SB.out ⟨[1], b, [e10], false⟩ (by simp) rfl rfl H5.out rfl).mono ?_); rintro e w3 ⟨A, n, cap, rfl, hi, hn1, hs, hb⟩; obtain rfl : n = 1 := hn1; have SC := Lib.hid (hs.later (below_a1 w3 (.cells #[.int .u32 5] 22))); have HI := Lib.hid (show Ints (w3.alloc (.cells #[.int .u32 5] 22)) (· < w3.heap.size) .u32 4 A 1 cap [5] from hi.stays (fun b hb => (below_a1 w3 (.cells #[.int .u32 5] 22)).block b hb) (fun _ h => h)); have HY := Lib.hid (ints_one (Box.new w3 #[.int .u32 5] 22) H5.out); clear hs hb hi))
    | (go_at_call 30; go_loud ((with_reducible refine (plain_u32 _ HI.out HY.out).mono ?_); rintro e w4 ⟨rfl, hd⟩; have SD := Lib.hid (SC.out.later hd.below); clear hd))
    | (go_at_call 16; go_loud ((with_reducible refine (sh_of_old SD.out ⟨[1], b, [e10], false⟩ (by simp) rfl H5.out rfl e10_scan).mono ?_); rintro e w5 ⟨A5, cap5, rfl, hs, hb⟩; have SE := Lib.hid hs; clear hs hb)))
  go_ret
  exact ⟨by first | rfl | simp, SE.out.stt.end⟩
theorem nsh_set (x : Int) (A : Option Addr) (n cap : Nat) (w : World) : Calls Try.prog 13 #[.pointer none, .int .u32 x, .slice A n cap] w fun e w' => e = .returned (.tuple #[]) ∧ w = w' := by
  go_enter Try.func13, Try.ntmps13
  go_wp2
  (try simp only [Exit.inBlock, Exit.then]); refine bodyPost_ret (results_none rfl _ _ _) rfl ?_
  exact ⟨rfl, rfl⟩
theorem nsh_put (p x id ver : Int) (s : Option Addr) (l c : Nat) (g : Bool) (w : World) : Calls Try.prog 11 #[.pointer none, .int .u32 p, .agg #[.int .u32 x, .int .u64 id, .int .u64 ver, .slice s l c, .bool g]] w fun e w' => e = .returned (.bool false) ∧ Below w.heap.size w w' := by
  go_enter Try.func11, Try.ntmps11
  go_wp2
  go_ret
  exact ⟨rfl, (by repeat (first | exact Below.refl _ _ | assumption | apply Below.drew | apply belowN | (refine Below.alloc ?_ (by first | exact Nat.le_refl _ | (simp; done) | (simp; omega)) _) | (refine Below.setCell ?_ (by first | exact Nat.le_refl _ | (simp; done) | (simp; omega)) _)))⟩
theorem nsh_of (x : Int) (w : World) : Calls Try.prog 16 #[.pointer none, .int .u32 x] w fun e w' => e = .returned (.slice none 0 0) ∧ w = w' := by
  go_enter Try.func16, Try.ntmps16
  go_wp2
  go_ret
  exact ⟨rfl, rfl⟩
theorem nsh_drop (x : Int) (w : World) : Calls Try.prog 18 #[.pointer none, .int .u32 x] w fun e w' => e = .returned (.int .i64 0) ∧ w = w' := by
  go_enter Try.func18, Try.ntmps18
  go_wp2
  go_ret
  exact ⟨rfl, rfl⟩
theorem nsh_owners (w : World) : Calls Try.prog 19 #[.pointer none] w fun e w' => e = .returned (.slice none 0 0) ∧ w = w' := by
  go_enter Try.func19, Try.ntmps19
  go_wp2_with (go_at_call 50; go_loud ((with_reducible refine (osort_u32z _ _ _).mono ?_); rintro e2 w2 ⟨rfl, rfl⟩))
  go_ret
  exact ⟨rfl, rfl⟩
theorem nsh_fork (w : World) : Calls Try.prog 20 #[.pointer none] w fun e w' => e = .returned (.pointer none) ∧ w = w' := by
  go_enter Try.func20, Try.ntmps20
  go_wp2
  go_ret
  exact ⟨rfl, rfl⟩
end Go.Proofs.Ytjcbmfopcohcmaa
