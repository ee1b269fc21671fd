/- The client: its words; New. Conditions: none. | The client: there, may, busy, find, waiting, GiveUp. Conditions: it is one. | The client: a write's message. Conditions: the values read so. | append to a slice that is full; the client: begin. Conditions: it is one. | Messages as elements; a cell of an element is set; the client: own. Conditions: it is a slice of messages. | The client: own. Conditions: it is a slice of messages. | The client: what a write waits for: a map by spots. Conditions: none. | The client: the words of writes. Conditions: it is one. -/
import Derived.Test.YtdpamikobmefeaaGreatStaBlk
import Derived.Laws.Rows
import Derived.Laws.Tables
import Derived.Deep.RegionLawGrows
namespace Go.Proofs.YtdpamikobmefeaaGreat
open Go.RowKit Go.ChangeShapes Go.Maps
set_option maxRecDepth 100000
set_option linter.unusedVariables false
set_option linter.unusedSimpArgs false

theorem ptr_info : ∃ i : TypeInfo, Tryz.prog.info? 89 = some i ∧ i.zero = some (.pointer none) ∧ i.size = 1 ∧ i.bytes = 8 := by
  obtain ⟨j0, jii, jz0, jz1, jz2⟩ := info_parts (show (Tryz.prog.info? 89).map (fun i => (i.zero, i.size, i.bytes)) = some (some (.pointer none), 1, 8) by kernel_rfl)
  exact ⟨j0, jii, jz0, jz1, jz2⟩
/-- Pointers to operations. -/
def ptrE : Elt Tryz.prog Nat where
  T := 89
  ST := 73
  k := 1
  bytes := 8
  zero := .pointer none
  rd := fun w D cs b => cs = [.pointer (some ⟨b, 0, none⟩)]
  pos := by omega
  len := fun h => by rw [h]; rfl
  one := fun h u hu => by subst h; simp only [List.mem_cons, List.not_mem_nil, or_false] at hu; rw [hu]; rfl
  move := fun h _ => h
  und := Tryz.underlying73
  info := ptr_info
  zlen := rfl
  blim := by omega
theorem u32s_info : ∃ i : TypeInfo, Tryz.prog.info? 35 = some i ∧ i.zero = some (.slice none 0 0) ∧ i.size = 1 ∧ i.bytes = 24 := by
  obtain ⟨j0, jii, jz0, jz1, jz2⟩ := info_parts (show (Tryz.prog.info? 35).map (fun i => (i.zero, i.size, i.bytes)) = some (some (.slice none 0 0), 1, 24) by kernel_rfl)
  exact ⟨j0, jii, jz0, jz1, jz2⟩
/-- Rows of numbers. -/
def u32sE : Elt Tryz.prog (List Int) where
  T := 35
  ST := 81
  k := 1
  bytes := 24
  zero := .slice none 0 0
  rd := fun w D cs xs => ∃ s n c, cs = [.slice s n c] ∧ Ints w D .u32 4 s n c xs
  pos := by omega
  len := fun ⟨s, n, c, h, _⟩ => by rw [h]; rfl
  one := fun ⟨s, n, c, h, _⟩ u hu => by subst h; simp only [List.mem_cons, List.not_mem_nil, or_false] at hu; rw [hu]; rfl
  move := fun ⟨s, n, c, h, hi⟩ hm => ⟨s, n, c, h, hi.move hm⟩
  und := Tryz.underlying81
  info := u32s_info
  zlen := rfl
  blim := by omega
theorem u32s_at {w : World} {D : Nat → Prop} {A : Option Addr} {n cap i : Nat} {l : List (List Int)} (h : u32sE.At w D A n cap l) (hi : i < n) : ∃ (b off : Nat) (xs : List Int) (s : Option Addr) (m c : Nat), A = some ⟨b, off, none⟩ ∧ D b ∧ l[i]? = some xs ∧ w.cell? ⟨b, off + i, none⟩ = some (.slice s m c) ∧ Ints w D .u32 4 s m c xs := by
  obtain ⟨h1, h2, h3, h4, h5⟩ := h
  obtain ⟨b, off, rfl, hd, hc⟩ := h5 (by omega)
  obtain ⟨x, hx⟩ : ∃ x, l[i]? = some x := ⟨_, List.getElem?_eq_getElem (by omega)⟩
  obtain ⟨cs, q0, s, m, c, rfl, hi⟩ := hc i x hx
  have := q0 0 _ rfl
  rw [show off + i * u32sE.k + 0 = off + i by show off + i * 1 + 0 = _; omega] at this
  exact ⟨b, off, x, s, m, c, rfl, hd, hx, this, hi⟩
theorem ptr_at {w : World} {D : Nat → Prop} {A : Option Addr} {n cap i : Nat} {l : List Nat} (h : ptrE.At w D A n cap l) (hi : i < n) : ∃ (b off : Nat) (x : Nat), A = some ⟨b, off, none⟩ ∧ D b ∧ l[i]? = some x ∧ w.cell? ⟨b, off + i, none⟩ = some (.pointer (some ⟨x, 0, none⟩)) := by
  obtain ⟨h1, h2, h3, h4, h5⟩ := h
  obtain ⟨b, off, rfl, hd, hc⟩ := h5 (by omega)
  obtain ⟨x, hx⟩ : ∃ x, l[i]? = some x := ⟨_, List.getElem?_eq_getElem (by omega)⟩
  obtain ⟨cs, q0, rfl⟩ := hc i x hx
  have := q0 0 _ rfl
  rw [show off + i * ptrE.k + 0 = off + i by show off + i * 1 + 0 = _; omega] at this
  exact ⟨b, off, x, rfl, hd, hx, this⟩
/-- What is held of an id. -/
structure HeldE where
  key : Int
  places : List (List Int)
  last : List Int
def isHeld : Value → Bool
  | .agg ⟨[.slice _ _ _, .slice _ _ _]⟩ => true
  | _ => false
def HVal (c : Col) (w : World) (x : HeldE) (v : Value) : Prop := ∃ pA pn pc lA ln lc, v = .agg #[.slice pA pn pc, .slice lA ln lc] ∧ U64 x.key ∧ u32sE.At w (Quiet c w) pA pn pc x.places ∧ Ints w (Quiet c w) .u32 4 lA ln lc x.last
theorem HVal.keep {π : List Int} {c c' : Col} {w w' : World} {x : HeldE} {v : Value} (h : HVal c w x v) (hk : Keeps π c w c' w') : HVal c' w' x v := by
  obtain ⟨pA, pn, pc, lA, ln, lc, rfl, h1, h2, h3⟩ := h
  exact ⟨pA, pn, pc, lA, ln, lc, rfl, h1, h2.move hk.quiet, h3.move hk.quiet⟩
def kH (x : HeldE) : Lit := .int .u64 x.key
def findH (H : List HeldE) (id : Int) : Option HeldE := H.find? fun x => x.key == id
def putH (H : List HeldE) (x : HeldE) : List HeldE := if (findH H x.key).isSome = true then H.map (fun y => if y.key == x.key then x else y) else H ++ [x]
/-- The places of an id. -/
def plH (H : List HeldE) (id : Int) : List (List Int) := match findH H id with | some o => o.places | none => []
def HeldR (c : Col) (π : List Int) (w : World) (mb : Nat) (H : List HeldE) : Prop :=
  ∃ (D : DataW Value), c mb = π ∧ w.ownsMap Tryz.prog 50 (heldIf isHeld) mb H.length D ∧ MapOf kH (HVal c w) D H
theorem HeldR.keep {π : List Int} {c c' : Col} {w w' : World} {b : Nat} {H : List HeldE} (h : HeldR c π w b H) (hk : Keeps π c w c' w') : HeldR c' π w' b H := by
  obtain ⟨D, h2, hm, hd⟩ := h
  exact ⟨D, (hk.col b hm.lt (.inr h2)).trans h2, ownsMap_only hm hk.only (fun hn => hn.2 h2), hd.imp fun x hx v hv => hv.keep hk⟩
def tHeld (π : List Int) (b : Nat) (H : List HeldE) : Thing := ⟨π, fun c w => HeldR c π w b H, fun h hk => h.keep hk⟩
section
variable {c : Col} {w : World} {D : DataW Value} {H : List HeldE}
theorem held_there {id : Int} {o : HeldE} (hd : MapOf kH (HVal c w) D H) (h : findH H id = some o) : ∃ v, HVal c w o v ∧ (∀ z, D.atKey (.int .u64 id) z = .held v) ∧ o ∈ H ∧ o.key = id := by
  have h1 := List.mem_of_find?_eq_some h
  have h2 : o.key = id := by simpa using List.find?_some h
  obtain ⟨q1, v, q2, q3⟩ := hd.has o h1
  have hk : kH o = .int .u64 id := by unfold kH; rw [h2]
  rw [hk] at q1 q3
  exact ⟨v, q2, q3, h1, h2⟩
theorem held_not {id : Int} (hd : MapOf kH (HVal c w) D H) (h : findH H id = none) : Maps.has D (.int .u64 id) = false ∧ ∀ y ∈ H, kH y ≠ .int .u64 id := by
  have h1 : ∀ y ∈ H, kH y ≠ .int .u64 id := by
    intro y hy he
    have := List.find?_eq_none.1 h y hy
    unfold kH at he
    simp only [Lit.int.injEq, true_and] at he
    exact this (by simpa using he)
  exact ⟨hd.none _ h1, h1⟩
theorem no_intsC (w : World) (D : Nat → Prop) : Ints w D .u32 4 none 0 0 [] := ⟨rfl, Nat.le_refl _, by omega, by omega, (fun _ => rfl), (fun x hx => by simp at hx), fun h => by omega⟩
/-- What a look-up tells. -/
theorem held_look (hd : MapOf kH (HVal c w) D H) (id : Int) : ∃ (pA : Option Addr) (pn pc : Nat) (lA : Option Addr) (ln lc : Nat), D.atKey (.int .u64 id) (.held (.agg #[.slice none 0 0, .slice none 0 0])) = .held (.agg #[.slice pA pn pc, .slice lA ln lc]) ∧ u32sE.At w (Quiet c w) pA pn pc (plH H id) := by
  unfold plH
  cases hfe : findH H id with
  | some o =>
    obtain ⟨v, ⟨pA, pn, pc, lA, ln, lc, rfl, _, h2, _⟩, h3, _, _⟩ := held_there hd hfe
    exact ⟨pA, pn, pc, lA, ln, lc, h3 _, h2⟩
  | none =>
    obtain ⟨h1, _⟩ := held_not hd hfe
    exact ⟨none, 0, 0, none, 0, 0, atKey_of_not_has h1 _, Elt.At.nil _ _⟩
theorem held_put {x : HeldE} {v : Value} (hd : MapOf kH (HVal c w) D H) (ht : Tidy D) (hv : HVal c w x v) : MapOf kH (HVal c w) (D.put (.int .u64 x.key) (.held v)) (putH H x) := by
  unfold putH
  cases hf : findH H x.key with
  | some o =>
    obtain ⟨_, _, _, hmem, e1⟩ := held_there hd hf
    rw [if_pos (show (some o).isSome = true from rfl)]
    exact hd.set ht (x := x) (f := fun y => if y.key == x.key then x else y) trivial ⟨o, hmem, by unfold kH; rw [e1]⟩
      (fun y hy he => if_pos (by unfold kH at he; simpa using he)) (fun y hy he => if_neg fun h => he (by unfold kH; simpa using h)) hv
  | none =>
    rw [if_neg (by simp)]
    exact hd.add ht (x := x) trivial (held_not hd hf).2 hv
end
theorem plH_put (H : List HeldE) (x : HeldE) : plH (putH H x) x.key = x.places := by
  unfold plH putH
  cases hf : findH H x.key with
  | some o =>
    rw [if_pos (show (some o).isSome = true from rfl)]
    have : findH (H.map (fun y => if y.key == x.key then x else y)) x.key = some x := by
      unfold findH at hf ⊢
      induction H with
      | nil => simp at hf
      | cons a t ih =>
        rw [List.map_cons, List.find?_cons]
        by_cases ha : a.key = x.key
        · simp [ha]
        · have h1 : (a.key == x.key) = false := by simpa using ha
          rw [List.find?_cons, h1] at hf
          simp only [h1, Bool.false_eq_true, if_false] at hf ⊢
          exact ih hf
    rw [this]
  | none =>
    rw [if_neg (by simp)]
    have : findH (H ++ [x]) x.key = some x := by
      unfold findH at hf ⊢
      rw [List.find?_append, hf]
      simp
    rw [this]
/-- The cells of clients: no operations. -/
abbrev cli0 (attrs : Int) (hm : Nat) : Array Value := #[.int .i64 attrs, .slice none 0 0, .slice none 0 0, .slice none 0 0, .slice none 0 0, .slice none 0 0, .slice none 0 0, .slice none 0 0, .slice none 0 0, .slice none 0 0, .slice none 0 0, .slice none 0 0, .slice none 0 0, .slice none 0 0, .slice none 0 0, .slice none 0 0, .slice none 0 0, .map (some hm)]
theorem cli_new {W w : World} {ts : List Thing} (π ρ : List Int) (attrs : Int) (ha1 : 1 ≤ attrs) (ha2 : attrs ≤ 8) (h : Sta W ts w) (hπ : π ≠ []) (hρ : ρ ≠ []) (hπρ : π ≠ ρ) (ho : ∀ x ∈ ts, x.π ≠ π ∧ x.π ≠ ρ) :
    Calls Tryz.prog 7 #[.int .i64 attrs] w fun e w' => ∃ b hm, e = .returned (.tuple #[.pointer (some ⟨b, 0, none⟩), .int .i64 0]) ∧ Sta W (ts ++ [tHeld ρ hm [], tBlk π b (cli0 attrs hm)]) w' := by
  have hmm := @run_makeMap Tryz.prog
  have HS := Lib.hid h; have HO := Lib.hid ho
  have h1 : ¬ attrs < 1 := by omega
  have h2 : ¬ (8 : Int) < attrs := by omega
  clear h ho
  go_enter Tryz.func7, Tryz.ntmps7
  go_wp2
  refine bodyPost_ret (v := .tuple #[.pointer (some ⟨w.heap.size + 1, 0, none⟩), .int .i64 0]) (by simp [results, Tryz.results7, go_sem]) rfl ?_
  refine ⟨w.heap.size + 1, rfl, w.heap.size, ?_⟩
  obtain ⟨c, hs⟩ := HS.out
  have hB1 : Below w.heap.size w (w.alloc (.map #[] 0)) := below_a1 w _
  have st1 : Stp (· = ρ) c w (fun k => if k = w.heap.size then ρ else c k) (w.alloc (.map #[] 0)) := by
    refine ⟨(Only.refl _ _).alloc _, fun k hk => if_neg (by omega), fun k hk => ?_⟩
    rw [size_alloc] at hk
    show (if _ then _ else _) = _
    rw [if_neg (by omega)]
    exact hs.fresh k (by omega)
  have s1 : Sta W (ts ++ [tHeld ρ w.heap.size []]) (w.alloc (.map #[] 0)) := ⟨_, hs.add (t := tHeld ρ w.heap.size []) hρ (fun x hx => (HO.out x hx).2) st1 ⟨.map [], if_pos rfl, World.ownsMap_made _ _ _ _, MapOf.empty⟩⟩
  have s2 := s1.addBlk π hπ (fun x hx => by
    rcases List.mem_append.1 hx with hx | hx
    · exact (HO.out x hx).1
    · simp only [List.mem_singleton] at hx; subst hx; exact fun e => hπρ e.symm) (cli0 attrs w.heap.size) 76
  rw [size_alloc, List.append_assoc] at s2
  exact s2
end Go.Proofs.YtdpamikobmefeaaGreat

namespace Go.Proofs.YtdpamikobmefeaaGreat
open Go.RowKit Go.ChangeShapes
set_option maxRecDepth 100000
set_option linter.unusedVariables false
set_option linter.unusedSimpArgs false

theorem there_yes (k : Nat) (hk : k < 16) (w : World) : Calls Tryz.prog 41 #[.int .i64 k] w fun e w' => e = .returned (.bool true) ∧ w = w' := by
  have h1 : (k : Int) < 16 := by omega
  go_enter Tryz.func41, Tryz.ntmps41
  go_wp2
  go_ret
  exact ⟨rfl, by first | rfl | trivial⟩
theorem may_ok {w : World} {cb k : Nat} {C : Array Value} {OA : Option Addr} {on oc : Nat} (hk : k < 16) (hX : Box w cb C) (hC : C[1 + k]? = some (.slice OA on oc)) (hon : on < 500) :
    Calls Tryz.prog 22 #[.pointer (some ⟨cb, 0, none⟩), .int .i64 k] w fun e w' => e = .returned (.int .i64 0) ∧ w = w' := by
  have c1 : w.cell? ⟨cb, 1 + k, none⟩ = some (.slice OA on oc) := (hX.cell (1 + k)).trans hC
  have fb := hX.free; have zb := hX.lt
  have h5 : ¬ (500 : Int) ≤ (on : Int) := by omega
  clear hX hC
  go_enter Tryz.func22, Tryz.ntmps22
  go_wp2_with (go_at_call 41; go_loud (refine (there_yes k hk _).mono ?_; rintro e1 w1 ⟨rfl, rfl⟩))
  go_ret
  exact ⟨rfl, by first | rfl | trivial⟩
/-- An operation's first cells. -/
structure OpC (w : World) (ob : Nat) (st : Int) (wr : Bool) (oid : Int) : Prop where
  c0 : w.cell? ⟨ob, 0, none⟩ = some (.int .i64 st)
  c1 : w.cell? ⟨ob, 1, none⟩ = some (.bool wr)
  c2 : w.cell? ⟨ob, 2, none⟩ = some (.int .u64 oid)
  lt : ob < w.heap.size
def busyF (st : Int) (wr : Bool) (oid id : Int) : Bool := wr && (oid == id) && (st == 1)
set_option maxHeartbeats 4000000 in
theorem busy1_no {w : World} {ob ib : Nat} {st : Int} {wr : Bool} {oid id : Int} (h : OpC w ob st wr oid) (hi : w.cell? ⟨ib, 0, none⟩ = some (.int .u64 id)) (zi : ib < w.heap.size) (hb : busyF st wr oid id = false) :
    Calls Tryz.prog 55 #[.pointer (some ⟨ob, 0, none⟩), .pointer (some ⟨ib, 0, none⟩)] w fun e w' => e = .returned (.bool false) ∧ Below w.heap.size w w' := by
  obtain ⟨c0, c1, c2, zb⟩ := h
  unfold busyF at hb
  cases wr with
  | false =>
    go_enter Tryz.func55, Tryz.ntmps55
    go_upto_region 1 with fail
    go_quiet (fail)
    all_goals
      go_wp2
      go_ret
      exact ⟨rfl, (by repeat (first | exact Below.refl _ _ | assumption | apply Below.drew | apply belowN | (refine Below.alloc ?_ (by first | exact Nat.le_refl _ | (simp; done) | (simp; omega)) _) | (refine Below.setCell ?_ (by first | exact Nat.le_refl _ | (simp; done) | (simp; omega)) _)))⟩
  | true =>
    by_cases h1 : oid = id
    · have h2 : (st == 1) = false := by subst h1; simpa using hb
      subst h1
      have h3 : ¬ st = 1 := by simpa using h2
      go_enter Tryz.func55, Tryz.ntmps55
      go_upto_region 1 with fail
      go_quiet (fail)
      all_goals
        go_wp2
        go_ret
        exact ⟨by first | rfl | simp [h3], (by repeat (first | exact Below.refl _ _ | assumption | apply Below.drew | apply belowN | (refine Below.alloc ?_ (by first | exact Nat.le_refl _ | (simp; done) | (simp; omega)) _) | (refine Below.setCell ?_ (by first | exact Nat.le_refl _ | (simp; done) | (simp; omega)) _)))⟩
    · have h2 : (oid == id) = false := by simpa using h1
      go_enter Tryz.func55, Tryz.ntmps55
      go_upto_region 1 with fail
      go_quiet (fail)
      all_goals
        go_wp2
        go_ret
        exact ⟨rfl, (by repeat (first | exact Below.refl _ _ | assumption | apply Below.drew | apply belowN | (refine Below.alloc ?_ (by first | exact Nat.le_refl _ | (simp; done) | (simp; omega)) _) | (refine Below.setCell ?_ (by first | exact Nat.le_refl _ | (simp; done) | (simp; omega)) _)))⟩
theorem OpC.below {w w' : World} {ob : Nat} {st : Int} {wr : Bool} {oid : Int} (h : OpC w ob st wr oid) (hb : Below w.heap.size w w') : OpC w' ob st wr oid :=
  ⟨(hb.cell (p := ⟨ob, 0, none⟩) h.lt).trans h.c0, (hb.cell (p := ⟨ob, 1, none⟩) h.lt).trans h.c1, (hb.cell (p := ⟨ob, 2, none⟩) h.lt).trans h.c2, Nat.lt_of_lt_of_le h.lt hb.size⟩
/-- None of the operations is a write of a record that waits. -/
def NotBusy (w : World) (bs : List Nat) (id : Int) : Prop := ∀ (j : Nat) ob, bs[j]? = some ob → ∃ st wr oid, OpC w ob st wr oid ∧ busyF st wr oid id = false
theorem NotBusy.below {w w' : World} {bs : List Nat} {id : Int} (h : NotBusy w bs id) (hb : Below w.heap.size w w') : NotBusy w' bs id := fun j ob hj => by
  obtain ⟨st, wr, oid, h1, h2⟩ := h j ob hj
  exact ⟨st, wr, oid, h1.below hb, h2⟩
theorem index_ops {w : World} {OA : Option Addr} {on oc ib : Nat} {bs : List Nat} {id : Int} (hat : ptrE.At w (· < w.heap.size) OA on oc bs) (hnb : NotBusy w bs id) (hi : w.cell? ⟨ib, 0, none⟩ = some (.int .u64 id)) (zi : ib < w.heap.size) :
    Calls Tryz.prog 90 #[.slice OA on oc, .func (.func 55) #[] #[.pointer (some ⟨ib, 0, none⟩)]] w fun e w' => e = .returned (.int .i64 (-1)) ∧ Below w.heap.size w w' := by
  have hn := hat.1
  have hc1 := hat.2.1; have hc2 := hat.2.2.1
  have HA := Lib.hid hat; have HN := Lib.hid hnb; have HI := Lib.hid hi
  clear hat hnb hi
  go_enter Tryz.func90, Tryz.ntmps90
  go_wp2
  go_loopw [8] (fun s8 wr => ∃ k : Nat, k ≤ on ∧ s8 = .int .i64 k ∧ Below w.heap.size w wr) (fun s _ => on - (intOf s).toNat)
  case atStart => exact ⟨0, Nat.zero_le _, rfl, Below.refl _ _⟩
  case round =>
    obtain ⟨k, hk, rfl, hB⟩ := hrel
    have HB := Lib.hid hB
    clear hB
    by_cases hlt : k < on
    · obtain ⟨bb, off, ob, rfl, zbb, hob, d0⟩ := ptr_at HA.out hlt
      have d := (HB.out.cell (p := ⟨bb, off + k, none⟩) zbb).trans d0
      have zb := Nat.lt_of_lt_of_le zbb HB.out.size
      obtain ⟨st, wr', oid, h1, h2⟩ := HN.out k ob hob
      have H1 := Lib.hid (h1.below HB.out); have H2 := Lib.hid h2
      have HI2 := Lib.hid ((HB.out.cell (p := ⟨ib, 0, none⟩) zi).trans HI.out)
      have zi2 := Nat.lt_of_lt_of_le zi HB.out.size
      clear d0 hob h1 h2 zbb
      go_wp2_with (go_at_call 55; go_loud (refine (busy1_no H1.out HI2.out zi2 H2.out).mono ?_; rintro e w2 ⟨rfl, hb2⟩; have HB2 := Lib.hid (below_from HB.out hb2 HB.out.size); clear hb2))
      go_roundw
      case rel => exact ⟨k + 1, by omega, by go_num, HB2.out⟩
      case measure => simp [intOf]; omega
    · go_wp2
      go_ret
      exact ⟨rfl, HB.out⟩
theorem contains_ops {w : World} {OA : Option Addr} {on oc ib : Nat} {bs : List Nat} {id : Int} (hat : ptrE.At w (· < w.heap.size) OA on oc bs) (hnb : NotBusy w bs id) (hi : w.cell? ⟨ib, 0, none⟩ = some (.int .u64 id)) (zi : ib < w.heap.size) :
    Calls Tryz.prog 54 #[.slice OA on oc, .func (.func 55) #[] #[.pointer (some ⟨ib, 0, none⟩)]] w fun e w' => e = .returned (.bool false) ∧ Below w.heap.size w w' := by
  have HI := Lib.hid (index_ops hat hnb hi zi)
  clear hat hnb hi
  go_enter Tryz.func54, Tryz.ntmps54
  go_wp2_with (go_at_call 90; go_loud (refine HI.out.mono ?_; rintro e w2 ⟨rfl, hb⟩; have HB := Lib.hid hb; clear hb))
  go_ret
  exact ⟨rfl, HB.out⟩
theorem busy_no {w : World} {cb k : Nat} {C : Array Value} {OA : Option Addr} {on oc : Nat} {bs : List Nat} {id : Int} (hk : k < 16) (hX : Box w cb C) (hC : C[1 + k]? = some (.slice OA on oc)) (hat : ptrE.At w (· < w.heap.size) OA on oc bs) (hnb : NotBusy w bs id) :
    Calls Tryz.prog 24 #[.pointer (some ⟨cb, 0, none⟩), .int .i64 k, .int .u64 id] w fun e w' => e = .returned (.bool false) ∧ Below w.heap.size w w' := by
  have hb1 := below_a1 w (.cells #[.int .u64 id] 50)
  have HX := hX.below hb1 hX.lt
  have c1 : (w.alloc (.cells #[.int .u64 id] 50)).cell? ⟨cb, 1 + k, none⟩ = some (.slice OA on oc) := (HX.cell (1 + k)).trans hC
  have fb := HX.free; have zb := HX.lt
  have HA := Lib.hid (hat.later hb1); have HN := Lib.hid (hnb.below hb1)
  have HI := Lib.hid (contains_ops HA.out HN.out ((Box.new w #[.int .u64 id] 50).cell 0) (Box.new w #[.int .u64 id] 50).lt)
  clear hX hC hat hnb HX hb1
  go_enter Tryz.func24, Tryz.ntmps24
  go_wp2_with (go_at_call 54; go_loud (refine HI.out.mono ?_; rintro e w2 ⟨rfl, hb⟩; have HB := Lib.hid (below_thru hb); clear hb))
  go_ret
  exact ⟨rfl, HB.out⟩
/-- An operation is found. -/
theorem find_op {w : World} {cb k n : Nat} {C : Array Value} {OA : Option Addr} {on oc ob : Nat} {bs : List Nat} (hk : k < 16) (hX : Box w cb C) (hC : C[1 + k]? = some (.slice OA on oc)) (hat : ptrE.At w (· < w.heap.size) OA on oc bs) (hn : 1 ≤ n) (ho : bs[n - 1]? = some ob) (hn2 : n < 1000000) :
    Calls Tryz.prog 42 #[.pointer (some ⟨cb, 0, none⟩), .int .i64 k, .int .i64 n] w fun e w' => e = .returned (.pointer (some ⟨ob, 0, none⟩)) ∧ Below w.heap.size w w' := by
  have c1 : w.cell? ⟨cb, 1 + k, none⟩ = some (.slice OA on oc) := (hX.cell (1 + k)).trans hC
  have fb := hX.free; have zb := hX.lt
  have hlen := hat.1
  have hlt := (List.getElem?_eq_some_iff.1 ho).1
  obtain ⟨bb, off, ob', rfl, zbb, hob, d0⟩ := ptr_at hat (show n - 1 < on by omega)
  obtain rfl := Option.some.inj (hob.symm.trans ho)
  have h1 : ¬ (n : Int) < 1 := by omega
  have h2 : ¬ (on : Int) < (n : Int) := by omega
  have h3 : IntKind.i64.wrap ((n : Int) - 1) = ((n - 1 : Nat) : Int) := by rw [show (n : Int) - 1 = ((n - 1 : Nat) : Int) by omega]; exact wrap_nat64 (by omega)
  have h4 : n - 1 < on := by omega
  clear hX hC hat ho hob hlen
  go_enter Tryz.func42, Tryz.ntmps42
  go_upto_region 3 with (go_at_call 41; go_loud (refine (there_yes k hk _).mono ?_; rintro e1 w1 ⟨rfl, rfl⟩))
  go_wp2
  go_ret
  exact ⟨rfl, (by repeat (first | exact Below.refl _ _ | assumption | apply Below.drew | apply belowN | (refine Below.alloc ?_ (by first | exact Nat.le_refl _ | (simp; done) | (simp; omega)) _) | (refine Below.setCell ?_ (by first | exact Nat.le_refl _ | (simp; done) | (simp; omega)) _)))⟩
/-- An operation that waits. -/
theorem waiting_op {w : World} {cb k n : Nat} {C : Array Value} {OA : Option Addr} {on oc ob : Nat} {bs : List Nat} {wr : Bool} {oid : Int} (hk : k < 16) (hX : Box w cb C) (hC : C[1 + k]? = some (.slice OA on oc)) (hat : ptrE.At w (· < w.heap.size) OA on oc bs) (hn : 1 ≤ n) (ho : bs[n - 1]? = some ob) (hn2 : n < 1000000) (hop : OpC w ob 1 wr oid) :
    Calls Tryz.prog 38 #[.pointer (some ⟨cb, 0, none⟩), .int .i64 k, .int .i64 n] w fun e w' => e = .returned (.tuple #[.pointer (some ⟨ob, 0, none⟩), .int .i64 0]) ∧ Below w.heap.size w w' := by
  have HF := Lib.hid (find_op hk hX hC hat hn ho hn2)
  have HO := Lib.hid hop
  clear hX hC hat ho hop
  go_enter Tryz.func38, Tryz.ntmps38
  go_wp2_with (first
    | (go_at_call 41; go_loud (refine (there_yes k hk _).mono ?_; rintro e1 w1 ⟨rfl, rfl⟩))
    | (go_at_call 42; go_loud (refine HF.out.mono ?_; rintro e2 w2 ⟨rfl, hb2⟩; have O2 := HO.out.below hb2; have c0 := O2.c0; have z0 := O2.lt; have HB2 := Lib.hid hb2; clear hb2 O2)))
  refine bodyPost_ret (v := .tuple #[.pointer (some ⟨ob, 0, none⟩), .int .i64 0]) (by simp [results, Tryz.results38, go_sem]) rfl ?_
  exact ⟨rfl, HB2.out⟩
/-- A write is given up. -/
theorem give_up {w : World} {cb k n : Nat} {C CO : Array Value} {OA : Option Addr} {on oc ob : Nat} {bs : List Nat} {oid : Int} (hk : k < 16) (hX : Box w cb C) (hC : C[1 + k]? = some (.slice OA on oc)) (hat : ptrE.At w (· < w.heap.size) OA on oc bs) (hn : 1 ≤ n) (ho : bs[n - 1]? = some ob) (hn2 : n < 1000000) (hop : OpC w ob 1 true oid) (hOX : Box w ob CO) :
    Calls Tryz.prog 13 #[.pointer (some ⟨cb, 0, none⟩), .int .i64 k, .int .i64 n] w fun e w' => e = .returned (.int .i64 0) ∧ ∃ w2, Below w.heap.size w w2 ∧ w' = (w2.setCell ⟨ob, 0, none⟩ (.int .i64 3)).setCell ⟨ob, 0, none⟩ (.int .i64 4) := by
  have HW := Lib.hid (waiting_op hk hX hC hat hn ho hn2 hop)
  have HO := Lib.hid hop; have HX := Lib.hid hOX
  clear hX hC hat ho hop hOX
  go_enter Tryz.func13, Tryz.ntmps13
  go_wp2_with (go_at_call 38; go_loud (refine HW.out.mono ?_; rintro e2 w2 ⟨rfl, hb2⟩; have O2 := HO.out.below hb2; have c0 := O2.c0; have c1 := O2.c1; have z0 := O2.lt; have X2 := HX.out.below hb2 HX.out.lt; have f0 := X2.free; have HB2 := Lib.hid hb2; clear hb2 O2 X2))
  go_ret
  exact ⟨rfl, w2, HB2.out, rfl⟩
end Go.Proofs.YtdpamikobmefeaaGreat

namespace Go.Proofs.YtdpamikobmefeaaGreat
open Go.RowKit Go.ChangeShapes
set_option maxRecDepth 100000
set_option linter.unusedVariables false
set_option linter.unusedSimpArgs false

theorem u32_wfC {v : Int} (h : U32 v) : (Lit.int .u32 v).wf = true := by
  have := h.1; have := h.2
  simp [Lit.wf, IntKind.min, IntKind.max, IntKind.bits, IntKind.signed]; omega
/-- record.Copy: the values lie in a block of their own. -/
def OwnBox (B : Nat) (xs : List Int) (w : World) (v : Value) : Prop := ∃ (g cap : Nat) (cur : Array Value), v = .slice (some ⟨g, 0, none⟩) xs.length cap ∧ Box w g cur ∧ cur.size = cap ∧ xs.length ≤ cap ∧ cap ≤ 9223372036854775807 ∧ B ≤ g ∧ cur.toList.take xs.length = xs.map (Value.int .u32)
theorem OwnBox.other {B : Nat} {xs : List Int} {w w' : World} {v : Value} {S : Nat → Prop} (h : OwnBox B xs w v) (ho : Only S w w') (hS : ∀ b, B ≤ b → ¬ S b) : OwnBox B xs w' v := by
  obtain ⟨g, cap, cur, rfl, h1, h2, h3, h4, h5, h6⟩ := h
  exact ⟨g, cap, cur, rfl, h1.only ho (hS g h5), h2, h3, h4, h5, h6⟩
theorem OwnBox.down {B B' : Nat} {xs : List Int} {w : World} {v : Value} (h : OwnBox B xs w v) (hB : B' ≤ B) : OwnBox B' xs w v := by
  obtain ⟨g, cap, cur, rfl, h1, h2, h3, h4, h5, h6⟩ := h
  exact ⟨g, cap, cur, rfl, h1, h2, h3, h4, Nat.le_trans hB h5, h6⟩
set_option maxHeartbeats 1000000 in
theorem copy_box {D : Nat → Prop} {A : Option Addr} {n c : Nat} {xs : List Int} (id ver : Int) (w : World) (hx : Ints w D .u32 4 A n c xs) (hD : ∀ b, D b → b < w.heap.size) (hn0 : 0 < n) :
    Calls Tryz.prog 93 #[.agg #[.int .u64 id, .int .u64 ver, .slice A n c]] w fun e w' => ∃ v, e = .returned (.agg #[.int .u64 id, .int .u64 ver, v]) ∧ OwnBox w.heap.size xs w' v ∧ Below w.heap.size w w' := by
  have h2 := Lib.hid ((hx.below (below_a1 w (.cells #[.int .u64 id, .int .u64 ver, .slice A n c] 52)) hD).below (below_a1 _ (.cells #[.int .u64 0, .int .u64 0, .slice none 0 0] 52)) (by intro b hb; have := hD b hb; simp; omega))
  have d2 := Lib.hid (show ∀ b, D b → b < ((w.alloc (.cells #[.int .u64 id, .int .u64 ver, .slice A n c] 52)).alloc (.cells #[.int .u64 0, .int .u64 0, .slice none 0 0] 52)).heap.size from by intro b hb; have := hD b hb; simp; omega)
  have hxl := hx.1
  clear hx hD
  go_enter Tryz.func93, Tryz.ntmps93
  go_wp2_with (go_at_call 25; go_loud ((with_reducible refine (clone_u32 _ h2.out d2.out).mono ?_); rintro e1 w1 hn; obtain ⟨v1, rfl, B, m, cap, rfl, hi, hb, T1, how⟩ := hn; simp only [size_alloc] at hi how; have X1 := ((Box.new w #[.int .u64 id, .int .u64 ver, .slice A n c] 52).alloc (.cells #[.int .u64 0, .int .u64 0, .slice none 0 0] 52)).below hb (by simp only [size_alloc]; omega); have X2 := (Box.newAt (w.alloc (.cells #[.int .u64 id, .int .u64 ver, .slice A n c] 52)) #[.int .u64 0, .int .u64 0, .slice none 0 0] 52 (w.heap.size + 1) (by rw [size_alloc])).below hb (by simp only [size_alloc]; omega); have c1 := X1.cell; have f1 := X1.free; have c2 := X2.cell; have f2 := X2.free; have z1 := X1.lt; have z2 := X2.lt; have HI := Lib.hid hi; have HW := Lib.hid how; have HB := Lib.hid ((below_a2 w _ _).trans (hb.mono (by simp only [size_alloc]; omega))); clear hi hb X1 X2 how))
  refine bodyPost_ret (v := .agg #[.int .u64 id, .int .u64 ver, .slice B m cap]) (by simp [results, Tryz.results93, go_sem, c1, f1, c2, f2]) rfl ?_
  refine ⟨.slice B m cap, rfl, ?_, ?_⟩
  · have hO : OwnBox (w.heap.size + 1 + 1) xs w1 (.slice B m cap) := by
      have hm : m = xs.length := HI.out.1.symm
      rcases HW.out.2 with ⟨e, h0⟩ | ⟨g, cap', cur, e, hg, hh, hn, hc, hs, ht⟩
      · injection e with _ e2 _
        omega
      · injection e with e1 e2 e3
        subst e1 e3
        refine ⟨g, cap, cur, by rw [hm], ⟨_, hh⟩, by simpa using hs, by omega, by unfold maxLen at hc; omega, hg, ?_⟩
        rw [← hm]; simpa using ht
    exact (OwnBox.other (S := fun k => k = w.heap.size ∨ k = w.heap.size + 1) hO ((((((Only.refl _ _).setCell (.inl (.inl rfl)) _).setCell (.inl (.inr rfl)) _).setCell (.inl (.inr rfl)) _).setCell (.inl (.inr rfl)) _)) (fun b hb => by omega)).down (by omega)
  · exact ((((HB.out.setCell (by exact Nat.le_refl _) _).setCell (by exact Nat.le_succ _) _).setCell (by exact Nat.le_succ _) _).setCell (by exact Nat.le_succ _) _)
theorem OwnBox.ints {B : Nat} {xs : List Int} {w : World} {v : Value} (h : OwnBox B xs w v) (hu : ∀ x ∈ xs, U32 x) (hb : xs.length * 4 ≤ 140737488351232) : ∃ s n c, v = .slice s n c ∧ Ints w (B ≤ ·) .u32 4 s n c xs := by
  obtain ⟨g, cap, cur, rfl, h1, h2, h3, h4, h5, h6⟩ := h
  refine ⟨_, _, _, rfl, rfl, h3, h4, hb, (fun h => by cases h), (fun x hx => u32_wfC (hu x hx)), fun hn => ⟨g, 0, rfl, h5, fun j hj => ?_⟩⟩
  rw [Nat.zero_add, h1.cell j]
  have q : cur.toList[j]? = (xs.map (Value.int .u32))[j]? := by
    rw [← h6, List.getElem?_take_of_lt (by omega)]
  rw [Array.getElem?_toList] at q
  rw [q, List.getElem?_map, List.getElem?_eq_getElem (by omega), List.getD_eq_getElem?_getD, List.getElem?_eq_getElem (by omega)]; rfl
/-- An element is set. -/
theorem OwnBox.set {B g n cap : Nat} {xs : List Int} {w : World} (h : OwnBox B xs w (.slice (some ⟨g, 0, none⟩) n cap)) {j : Nat} (hj : j < xs.length) (x : Int) : OwnBox B (xs.set j x) (w.setCell ⟨g, j, none⟩ (.int .u32 x)) (.slice (some ⟨g, 0, none⟩) n cap) := by
  obtain ⟨g', cap', cur, e, h1, h2, h3, h4, h5, h6⟩ := h
  injection e with e1 e2 e3
  injection e1 with e1
  injection e1 with e1
  subst e1 e2 e3
  refine ⟨g, cap, cur.setIfInBounds j (.int .u32 x), by rw [List.length_set], h1.set _, by simpa using h2, by simpa using h3, h4, h5, ?_⟩
  rw [List.length_set, List.map_set, ← h6, Array.toList_setIfInBounds, List.take_set]
/-- The message of a write. -/
def storeCells (client n hub : Int) (id ver target : Int) (gone : Bool) (s : Option Addr) (l c : Nat) : List Value :=
  [.int .i64 1, .int .i64 hub, .int .u32 0, .int .i64 client, .int .i64 n, .int .u32 target, .int .i64 0, .int .u32 0, .int .i64 0, .int .u32 target, .int .u64 id, .int .u64 ver, .slice s l c, .bool gone, .int .u32 0, .int .u32 0, .slice none 0 0, .slice none 0 0]
abbrev zeroM : Array Value := #[.int .i64 0, .int .i64 0, .int .u32 0, .int .i64 0, .int .i64 0, .int .u32 0, .int .i64 0, .int .u32 0, .int .i64 0, .int .u32 0, .int .u64 0, .int .u64 0, .slice none 0 0, .bool false, .int .u32 0, .int .u32 0, .slice none 0 0, .slice none 0 0]
/-- A message's cells stored. -/
def setM (w : World) (a : Nat) (k h : Int) (p : Int) (cl op : Int) (t : Int) (ho : Int) (ow : Int) (tu v i r : Int) (s : Value) (g : Bool) (f t2 : Int) (bx rs : Value) : World :=
  (((((((((((((((((w.setCell ⟨a, 0, none⟩ (.int .i64 k)).setCell ⟨a, 1, none⟩ (.int .i64 h)).setCell ⟨a, 2, none⟩ (.int .u32 p)).setCell ⟨a, 3, none⟩ (.int .i64 cl)).setCell ⟨a, 4, none⟩ (.int .i64 op)).setCell ⟨a, 5, none⟩ (.int .u32 t)).setCell ⟨a, 6, none⟩ (.int .i64 ho)).setCell ⟨a, 7, none⟩ (.int .u32 ow)).setCell ⟨a, 8, none⟩ (.int .i64 tu)).setCell ⟨a, 9, none⟩ (.int .u32 v)).setCell ⟨a, 10, none⟩ (.int .u64 i)).setCell ⟨a, 11, none⟩ (.int .u64 r)).setCell ⟨a, 12, none⟩ s).setCell ⟨a, 13, none⟩ (.bool g)).setCell ⟨a, 14, none⟩ (.int .u32 f)).setCell ⟨a, 15, none⟩ (.int .u32 t2)).setCell ⟨a, 16, none⟩ bx).setCell ⟨a, 17, none⟩ rs
theorem eight_only (w : World) (a : Nat) (k h : Int) (p : Int) (cl op : Int) (t : Int) (ho : Int) (ow : Int) (tu v i r : Int) (s : Value) (g : Bool) (f t2 : Int) (bx rs : Value) : Only (· = a) w (setM w a k h p cl op t ho ow tu v i r s g f t2 bx rs) := by
  unfold setM
  iterate 18 (refine Only.setCell (S := fun x => x = a) ?_ (.inl rfl) _)
  exact Only.refl _ _
set_option maxHeartbeats 1000000 in
theorem eight_box {w : World} {a : Nat} (hb : Box w a zeroM) (k h : Int) (p : Int) (cl op : Int) (t : Int) (ho : Int) (ow : Int) (tu v i r : Int) (s : Value) (g : Bool) (f t2 : Int) (bx rs : Value) : Box (setM w a k h p cl op t ho ow tu v i r s g f t2 bx rs) a #[.int .i64 k, .int .i64 h, .int .u32 p, .int .i64 cl, .int .i64 op, .int .u32 t, .int .i64 ho, .int .u32 ow, .int .i64 tu, .int .u32 v, .int .u64 i, .int .u64 r, s, .bool g, .int .u32 f, .int .u32 t2, bx, rs] := by
  have e : ((((((((((((((((((zeroM.setIfInBounds 0 (.int .i64 k)).setIfInBounds 1 (.int .i64 h)).setIfInBounds 2 (.int .u32 p)).setIfInBounds 3 (.int .i64 cl)).setIfInBounds 4 (.int .i64 op)).setIfInBounds 5 (.int .u32 t)).setIfInBounds 6 (.int .i64 ho)).setIfInBounds 7 (.int .u32 ow)).setIfInBounds 8 (.int .i64 tu)).setIfInBounds 9 (.int .u32 v)).setIfInBounds 10 (.int .u64 i)).setIfInBounds 11 (.int .u64 r)).setIfInBounds 12 s).setIfInBounds 13 (.bool g)).setIfInBounds 14 (.int .u32 f)).setIfInBounds 15 (.int .u32 t2)).setIfInBounds 16 bx).setIfInBounds 17 rs) = #[.int .i64 k, .int .i64 h, .int .u32 p, .int .i64 cl, .int .i64 op, .int .u32 t, .int .i64 ho, .int .u32 ow, .int .i64 tu, .int .u32 v, .int .u64 i, .int .u64 r, s, .bool g, .int .u32 f, .int .u32 t2, bx, rs] := by kernel_rfl
  exact (congrArg (Box (setM w a k h p cl op t ho ow tu v i r s g f t2 bx rs) a) e).mp ((((((((((((((((((hb.set (i := 0) (.int .i64 k)).set (i := 1) (.int .i64 h)).set (i := 2) (.int .u32 p)).set (i := 3) (.int .i64 cl)).set (i := 4) (.int .i64 op)).set (i := 5) (.int .u32 t)).set (i := 6) (.int .i64 ho)).set (i := 7) (.int .u32 ow)).set (i := 8) (.int .i64 tu)).set (i := 9) (.int .u32 v)).set (i := 10) (.int .u64 i)).set (i := 11) (.int .u64 r)).set (i := 12) s).set (i := 13) (.bool g)).set (i := 14) (.int .u32 f)).set (i := 15) (.int .u32 t2)).set (i := 16) bx).set (i := 17) rs)
set_option maxHeartbeats 4000000 in
theorem store_any {D : Nat → Prop} {A : Option Addr} {m cp : Nat} {vals : List Int} (client n : Int) (hub : Nat) (id ver target : Int) (gone : Bool) (w : World) (hx : Ints w D .u32 4 A m cp vals) (hD : ∀ b, D b → b < w.heap.size) (hh : hub < m) (ht : U32 target) (hu : ∀ x ∈ vals, U32 x) :
    Calls Tryz.prog 60 #[.int .i64 client, .int .i64 n, .int .i64 hub, .agg #[.int .u64 id, .int .u64 ver, .slice A m cp], .int .u32 target, .bool gone] w fun e w' => ∃ s l c, e = .returned (.agg (storeCells client n hub id ver target gone s l c).toArray) ∧ Ints w' (w.heap.size ≤ ·) .u32 4 s l c (vals.set hub target) ∧ Below w.heap.size w w' := by
  obtain rfl : m = vals.length := hx.1.symm
  have hmb := hx.2.2.2.1
  have HX := Lib.hid hx; have HD := Lib.hid hD; have HU := Lib.hid hu
  clear hx hD hu
  go_enter Tryz.func60, Tryz.ntmps60
  go_upto_region 1 with fail
  refine wp_abs (fun wx => Box wx w.heap.size #[.int .u64 id, .int .u64 ver, .slice A vals.length cp] ∧ Box wx (w.heap.size + 1) zeroM ∧ Below w.heap.size w wx) ⟨(Box.new w _ _).alloc _, Box.newAt (w.alloc _) _ _ _ (by rw [size_alloc]), below_a2 w _ _⟩ ?_
  rintro wx ⟨hx1, hx2, hbx⟩
  have HBX := Lib.hid hbx; have X1 := Lib.hid hx1; have X2 := Lib.hid hx2
  have HIX := Lib.hid (HX.out.move (w' := wx) (D' := (· < w.heap.size)) fun b hb _ => ⟨hbx.block b (HD.out b hb), HD.out b hb⟩)
  have c1 := hx1.cell; have f1 := hx1.free; have z1 := hx1.lt
  have z2 := hx2.lt
  have hm0 : 0 < vals.length := by omega
  clear hx1 hx2 hbx
  go_upto_region 2 with (go_at_call 93; go_loud (refine (copy_box id ver wx HIX.out (fun b hb => Nat.lt_of_lt_of_le hb HBX.out.size) hm0).mono ?_; rintro e3 w3 ⟨v3, rfl, ho3, hb3⟩; obtain ⟨g, cap, cur, rfl, hg1, hg2, hg3, hg4, hg5, hg6⟩ := (show OwnBox wx.heap.size vals w3 v3 from ho3); have X13 := X1.out.below hb3 z1; have c13 := X13.cell; have f13 := X13.free; have z13 := X13.lt; have HB3 := Lib.hid hb3; have HO3 := Lib.hid ho3; clear hb3 ho3 X13 hg1 hg2 hg3 hg4 hg6))
  refine wp_abs (fun wy => Box wy w.heap.size #[.int .u64 id, .int .u64 ver, .slice (some ⟨g, 0, none⟩) vals.length cap] ∧ Box wy (w.heap.size + 1) zeroM ∧ Below w.heap.size w wy ∧ OwnBox wx.heap.size vals wy (.slice (some ⟨g, 0, none⟩) vals.length cap)) ⟨?_, ?_, ?_, ?_⟩ ?_
  · have := (((X1.out.below HB3.out X1.out.lt).set (i := 0) (.int .u64 id)).set (i := 1) (.int .u64 ver)).set (i := 2) (.slice (some ⟨g, 0, none⟩) vals.length cap)
    simpa using this
  · exact (X2.out.below HB3.out X2.out.lt).only (three_only w3 w.heap.size _ _ _) (by omega)
  · exact three_below (below_from HBX.out HB3.out HBX.out.size) (Nat.le_refl _) _ _ _
  · exact HO3.out.other (three_only w3 w.heap.size _ _ _) (fun b hb => by omega)
  clear HB3 HO3 c13 f13 z13 c1 f1 X1 X2
  rintro wy ⟨hy1, hy2, hby, hoy⟩
  have Y1 := Lib.hid hy1; have Y2 := Lib.hid hy2; have HBY := Lib.hid hby; have HOY := Lib.hid hoy
  have c1 := hy1.cell; have f1 := hy1.free; have zy1 := hy1.lt
  obtain ⟨g', cap', cur', e', q1, q2, q3, q4, q5, q6⟩ := (show OwnBox wx.heap.size vals wy (.slice (some ⟨g, 0, none⟩) vals.length cap) from hoy)
  injection e' with e1 e2 e3
  injection e1 with e1
  injection e1 with e1
  subst e1 e3
  have fg := q1.free; have zg := q1.lt
  have hnn : ∃ u, wy.cell? ⟨g, hub, none⟩ = some u := ⟨_, (q1.cell hub).trans (Array.getElem?_eq_getElem (by omega))⟩
  obtain ⟨u0, hu0⟩ := hnn
  clear hy1 hy2 hby hoy q1 q2 q3 q4 q6
  go_upto_region 3 with fail
  refine wp_abs (fun wz => Box wz w.heap.size #[.int .u64 id, .int .u64 ver, .slice (some ⟨g, 0, none⟩) vals.length cap] ∧ Box wz (w.heap.size + 1) zeroM ∧ Below w.heap.size w wz ∧ OwnBox wx.heap.size (vals.set hub target) wz (.slice (some ⟨g, 0, none⟩) vals.length cap)) ⟨Y1.out.setOther (by show _ ≠ g; omega) _, Y2.out.setOther (by show _ ≠ g; omega) _, HBY.out.setCell (p := ⟨g, hub, none⟩) (by show _ ≤ g; have := HBX.out.size; omega) _, HOY.out.set hh target⟩ ?_
  clear c1 f1 zy1 fg zg hu0 Y1 Y2 HBY HOY
  rintro wz ⟨hz1, hz2, hbz, hoz⟩
  have c1 := hz1.cell; have f1 := hz1.free; have zz1 := hz1.lt
  have c2 := hz2.cell; have f2 := hz2.free; have zz2 := hz2.lt
  have HBZ := Lib.hid hbz; have HOZ := Lib.hid hoz; have Z2 := Lib.hid hz2
  clear hz1 hz2 hbz hoz
  obtain ⟨s9, l9, c9, e9, hi9⟩ := HOZ.out.ints (fun x hx => by rcases List.mem_or_eq_of_mem_set hx with h | h; exact HU.out x h; rw [h]; exact ht) (by simpa using hmb)
  injection e9 with e1 e2 e3
  subst e1 e2 e3
  have HI9 := Lib.hid hi9
  clear hi9
  go_wp2
  have ho := eight_only wz (w.heap.size + 1) 1 hub 0 client n target 0 0 0 target id ver (.slice (some ⟨g, 0, none⟩) vals.length cap) gone 0 0 (.slice none 0 0) (.slice none 0 0)
  have hbx := eight_box Z2.out 1 hub 0 client n target 0 0 0 target id ver (.slice (some ⟨g, 0, none⟩) vals.length cap) gone 0 0 (.slice none 0 0) (.slice none 0 0)
  obtain ⟨W9, hW9⟩ : ∃ W9, setM wz (w.heap.size + 1) 1 hub 0 client n target 0 0 0 target id ver (.slice (some ⟨g, 0, none⟩) vals.length cap) gone 0 0 (.slice none 0 0) (.slice none 0 0) = W9 := ⟨_, rfl⟩
  rw [hW9] at ho hbx
  unfold setM at hW9
  rw [hW9]
  clear hW9
  obtain ⟨T9, hT9⟩ := hbx
  refine bodyPost_ret (v := .agg (storeCells client n hub id ver target gone (some ⟨g, 0, none⟩) vals.length cap).toArray) (results_cell_row (p := 12) (ty := 58) Tryz.results60 _ W9 (w.heap.size + 1) T9 _ (0, 0) _ rfl hT9 Tryz.underlying58 rfl (by kernel_rfl)) rfl ?_
  exact ⟨_, _, _, rfl, HI9.out.move fun b hb hl => ⟨ho.block b hl (by show ¬ b = _; have hb : wx.heap.size ≤ b := hb; omega), by have hb : wx.heap.size ≤ b := hb; omega⟩, HBZ.out.trans (ho.below (B := w.heap.size) HBZ.out.size (fun k hk => by subst hk; omega))⟩
end Go.Proofs.YtdpamikobmefeaaGreat

namespace Go.Proofs.YtdpamikobmefeaaGreat
open Go.RowKit Go.ChangeShapes
set_option maxRecDepth 100000
set_option linter.unusedVariables false
set_option linter.unusedSimpArgs false

/-- append to a slice of data that is full. -/
theorem Sta.step_grows {α : Type} {E : Elt Tryz.prog α} {W w : World} {ts : List Thing} {ops : Array Oper} {o : Oper} {a : Act} {K : Act → World → Prop} {Q : Exit → Act → World → Prop} {F : Prop} {L N : List α} (hgd : o.guard = none) (s x : Operand)
    (ho : o.op = .call { callee := .builtin .append, args := #[s, x], argTypes := #[E.ST, E.ST] })
    (hst : Sta W ts w) (A : Option Addr) (n : Nat) (hs : a.eval s = .slice A n n) (hL : ∀ c, S0 W ts c w → E.At w (Quiet c w) A n n L) (ad : Addr) (m cp : Nat) (hx : a.eval x = .slice (some ad) m cp) (hN : ∀ c, S0 W ts c w → E.At w (Quiet c w) (some ad) m cp N) (hm : 0 < m) (hlen : n + m ≤ 1000000)
    (hK : ∀ A' c' w', Sta W (ts ++ [tAt E A' (n + m) c' (L ++ N)]) w' → Below w.heap.size w w' → K (a.put o.dst (.slice A' (n + m) c')) w') :
    if Region.wanted o (yielded ops a.tmps) = true then Oper.wp Tryz.prog o a w K Q else F := by
  obtain ⟨c, h⟩ := hst
  have hL := hL c h
  have hN := hN c h
  obtain ⟨M, q1, hk, q2, q3⟩ := hL.cellsOf
  obtain ⟨M', q1', hk', q2', q3'⟩ := hN.cellsOf
  obtain ⟨j0, jii, jz0, jz1, jz2⟩ := E.info
  have hby := E.blim
  have h1c : ∀ u ∈ M'.flatten, u.oneCell' = true := fun u hu => by
    obtain ⟨ms, hms, hu⟩ := List.mem_flatten.1 hu
    obtain ⟨j, hj⟩ := List.mem_iff_getElem?.1 hms
    have hjl := (List.getElem?_eq_some_iff.1 hj).1
    have := hN.1
    exact E.one (q3' j ms (N[j]'(by omega)) hj (List.getElem?_eq_getElem (by omega))) u hu
  have hb2 : (n + m) * E.bytes ≤ 1000000 * 100000 := Nat.mul_le_mul hlen hby
  refine step_append_grows hgd s x E.ST ho E.T j0 E.zero E.k E.bytes E.und jii jz0 jz1 jz2 E.zlen E.pos A n n M.flatten hs (fun e => ?_) (by rw [flatten_len hk, q1]) q2 ad m cp M'.flatten hx (by rw [flatten_len hk', q1']) (q2' ad rfl) h1c (by omega) (by unfold maxLen; omega) (by omega) fun v' w' hown hgr => ?_
  · have := hL.2.2.2.1 e
    exact ⟨this, this⟩
  · have hB : Below w.heap.size w w' := ⟨hgr.os, hgr.tape, hgr.output, hgr.size, fun i hi => hgr.block i hi (by simp)⟩
    obtain ⟨A', c', rfl, _⟩ := owns_shape hown
    have hrow : E.Row c [] w' (.slice A' (n + m) c') (L ++ N) := by
      have hln := hL.1
      have hNn := hN.1
      refine ⟨M ++ M', ?_, fun g hg => ?_, by simp [q1, q1', hln, hNn], fun ms hms => ?_, fun j ms e hms he => ?_⟩
      · rw [List.flatten_append, List.length_append, q1, q1']
        refine ⟨hown.1, ?_⟩
        rcases hown.2 with h1 | ⟨g, cap, cur, e1, e2, e3⟩
        · exact .inl h1
        · exact .inr ⟨g, cap, cur, e1, Nat.zero_le _, e3⟩
      · rcases hown.2 with ⟨h1, h2⟩ | ⟨g', cap, cur, e1, e2, e3⟩
        · omega
        · rw [e1] at hg
          simp only [Value.ownBlock] at hg
          injection hg with hg
          rw [← hg]; exact h.fresh g' e2
      · rcases List.mem_append.1 hms with hq | hq
        · exact hk ms hq
        · exact hk' ms hq
      · by_cases hj : j < n
        · rw [List.getElem?_append_left (by omega)] at hms he
          exact E.move (q3 j ms e hms he) fun b hb hlt => ⟨hB.block b hlt, hb.1, Nat.lt_of_lt_of_le hlt hB.size⟩
        · rw [List.getElem?_append_right (by omega)] at hms he
          rw [q1] at hms; rw [hln] at he
          exact E.move (q3' _ ms e hms he) fun b hb hlt => ⟨hB.block b hlt, hb.1, Nat.lt_of_lt_of_le hlt hB.size⟩
    exact hK A' c' w' ⟨c, (h.later hB).addData rfl hrow.at⟩ hB
theorem clip_ops {A : Option Addr} {n cap : Nat} (hn : n ≤ cap) (w : World) (hA : A = none → cap = 0) (h1 : ∀ ad, A = some ad → ∃ b off, ad = ⟨b, off, none⟩) (hb : n < 1000000) :
    Calls Tryz.prog 68 #[.slice A n cap] w fun e w' => e = .returned (.slice A n n) ∧ w = w' := by
  cases A with
  | none =>
    have hc := hA rfl
    subst hc
    obtain rfl : n = 0 := by omega
    go_enter Tryz.func68, Tryz.ntmps68
    go_wp2
    go_ret
    exact ⟨by first | rfl | simp, by first | rfl | trivial⟩
  | some ad =>
    obtain ⟨b, off, rfl⟩ := h1 ad rfl
    go_enter Tryz.func68, Tryz.ntmps68
    go_wp2
    go_ret
    exact ⟨by first | rfl | simp, by first | rfl | trivial⟩
/-- The things in the midst of begin. -/
def tsB (ts : List Thing) (i k : Nat) (π : List Int) (cb : Nat) (C : Array Value) (on : Nat) (bs : List Nat) (ob : Nat) (l10 l11 l15 : Bool) (θ : Nat × Option Addr × Nat) : List Thing :=
  (if l15 = true then ts.set i (tBlk π cb (C.setIfInBounds (1 + k) (.slice θ.2.1 (on + 1) θ.2.2))) else ts) ++ [if l10 = true then tBox θ.1 #[.pointer (some ⟨ob, 0, none⟩)] else tNone, if l11 = true then tAt ptrE θ.2.1 (on + 1) θ.2.2 (bs ++ [ob]) else tNone]
set_option maxHeartbeats 4000000 in
theorem cli_begin {W w : World} {ts : List Thing} {π : List Int} {cb k ob : Nat} {C : Array Value} {OA : Option Addr} {on oc : Nat} {bs : List Nat} (i j : Nat) (hk : k < 16) (h : Sta W ts w) (hi : ts[i]? = some (tBlk π cb C)) (hπ : π ≠ []) (hC : C[1 + k]? = some (.slice OA on oc)) (hj : ts[j]? = some (tAt ptrE OA on oc bs)) (hA : on = 0 → OA = none) (hon : on < 1000) :
    Calls Tryz.prog 35 #[.pointer (some ⟨cb, 0, none⟩), .int .i64 k, .pointer (some ⟨ob, 0, none⟩)] w fun e w' => ∃ A' c', e = .returned (.int .i64 ((on + 1 : Nat) : Int)) ∧ Sta W (ts.set i (tBlk π cb (C.setIfInBounds (1 + k) (.slice A' (on + 1) c'))) ++ [tAt ptrE A' (on + 1) c' (bs ++ [ob])]) w' := by
  have hk16 : (k : Int) < 16 := by omega
  have hil := (List.getElem?_eq_some_iff.1 hi).1
  have hjl := (List.getElem?_eq_some_iff.1 hj).1
  have hcl := (Array.getElem?_eq_some_iff.1 hC).1
  have hat := h.at (E := ptrE) hj
  have hblen := hat.1; have hoc := hat.2.1; have hoc2 := hat.2.2.1
  have hA2 : ∀ ad, OA = some ad → ∃ b off, ad = ⟨b, off, none⟩ := fun ad had => by
    by_cases h0 : on = 0
    · rw [hA h0] at had; cases had
    · obtain ⟨b, off, e, _⟩ := hat.2.2.2.2 (by omega)
      rw [e] at had; injection had with had
      exact ⟨b, off, had.symm⟩
  have hA3 : OA = none → on = 0 := fun e => by have := hat.2.2.2.1 e; omega
  have H := Lib.hid h; have HI := Lib.hid hi; have HJ := Lib.hid hj; have HC := Lib.hid hC
  clear h hi hj hC hat
  go_enter Tryz.func35, Tryz.ntmps35
  go_upto_region 1 with fail
  refine wp_regs (Θ := Nat × Option Addr × Nat) (by kernel_rfl) (by kernel_rfl) 29 rfl (by kernel_rfl) (fun θ q9 => if q9 = 10 then .slice (some ⟨θ.1, 0, none⟩) 1 1 else if q9 = 11 then .slice θ.2.1 (on + 1) θ.2.2 else ([.pointer (some ⟨cb, 0, none⟩), .int .i64 (k : Int), .pointer (some ⟨cb, 0, none⟩), .int .i64 (k : Int), .pointer (some ⟨cb, 0, none⟩), .pointer (some ⟨cb, 1, none⟩), .pointer (some ⟨cb, 1 + k, none⟩), .slice OA on oc, .slice OA on on, .pointer (some ⟨ob, 0, none⟩), undef, undef, .pointer (some ⟨cb, 0, none⟩), .pointer (some ⟨cb, 1, none⟩), .pointer (some ⟨cb, 1 + k, none⟩), undef] : List Value).getD q9 undef)
    (fun l θ w2 => Sta W (tsB ts i k π cb C on bs ob (l.getD 10 false) (l.getD 11 false) (l.getD 15 false) θ) w2) (0, none, 0) ?start ?step ?done
  case start => 
    have := ((H.out.later (Same.drew w).1).addData (t := tNone) rfl fun _ _ => trivial).addData (t := tNone) rfl fun _ _ => trivial
    rw [List.append_assoc] at this
    exact this
  case step =>
    intro l θ a w2 q o K5 ho h0 hsz hd hcl2 hJ hR hK
    have hq : q < 16 := (Array.getElem?_eq_some_iff.1 ho).1
    have hof := getD_ff h0
    have cl : ∀ j k, Region.waitsFor .any _ j k = true → l.getD k false = false → l.getD j false = false := fun j k hw hk => by
      cases hj : l.getD j false with
      | false => rfl
      | true => rw [hcl2 j k hw hj] at hk; cases hk
    have so : ∀ k, q ≠ k → (l.setIfInBounds q true).getD k false = l.getD k false := fun k hk => getD_set_other hk
    have se : (l.setIfInBounds q true).getD q false = true := getD_set_self (by rw [hsz]; exact (Array.getElem?_eq_some_iff.1 ho).1)
    have hc : q = 0 ∨ q = 1 ∨ q = 2 ∨ q = 3 ∨ q = 4 ∨ q = 5 ∨ q = 6 ∨ q = 7 ∨ q = 8 ∨ q = 9 ∨ q = 10 ∨ q = 11 ∨ q = 12 ∨ q = 13 ∨ q = 14 ∨ q = 15 := by omega
    rcases hc with rfl | rfl | rfl | rfl | rfl | rfl | rfl | rfl | rfl | rfl | rfl | rfl | rfl | rfl | rfl | rfl
    · obtain rfl := Option.some.inj ho
      have e0 : a.tmps[0]? = some (.pointer (some ⟨cb, 0, none⟩)) := (hR.outer 0 (by kernel_rfl)).trans rfl
      clear hsz h0 hd hcl2 cl hof
      unfold StepTo
      go_simp
      exact hK θ w2 (by simp only [so 10 (by decide), so 11 (by decide), so 15 (by decide)]; exact hJ) (fun _ _ _ => rfl)
    · obtain rfl := Option.some.inj ho
      have e1 : a.tmps[1]? = some (.int .i64 (k : Int)) := (hR.outer 1 (by kernel_rfl)).trans rfl
      clear hsz h0 hd hcl2 cl hof
      unfold StepTo
      go_simp
      exact hK θ w2 (by simp only [so 10 (by decide), so 11 (by decide), so 15 (by decide)]; exact hJ) (fun _ _ _ => rfl)
    · obtain rfl := Option.some.inj ho
      have e0 : a.tmps[0]? = some (.pointer (some ⟨cb, 0, none⟩)) := (hR.outer 0 (by kernel_rfl)).trans rfl
      clear hsz h0 hd hcl2 cl hof
      unfold StepTo
      go_simp
      exact hK θ w2 (by simp only [so 10 (by decide), so 11 (by decide), so 15 (by decide)]; exact hJ) (fun _ _ _ => rfl)
    · obtain rfl := Option.some.inj ho
      have e1 : a.tmps[1]? = some (.int .i64 (k : Int)) := (hR.outer 1 (by kernel_rfl)).trans rfl
      clear hsz h0 hd hcl2 cl hof
      unfold StepTo
      go_simp
      exact hK θ w2 (by simp only [so 10 (by decide), so 11 (by decide), so 15 (by decide)]; exact hJ) (fun _ _ _ => rfl)
    · obtain rfl := Option.some.inj ho
      have e9 : a.tmps[9]? = some (.pointer (some ⟨cb, 0, none⟩)) := hR.reg 2 _ 9 rfl rfl (hd 2 (by kernel_rfl))
      clear hsz h0 hd hcl2 cl hof
      unfold StepTo
      go_simp
      exact hK θ w2 (by simp only [so 10 (by decide), so 11 (by decide), so 15 (by decide)]; exact hJ) (fun _ _ _ => rfl)
    · obtain rfl := Option.some.inj ho
      have e11 : a.tmps[11]? = some (.pointer (some ⟨cb, 0, none⟩)) := hR.reg 4 _ 11 rfl rfl (hd 4 (by kernel_rfl))
      clear hsz h0 hd hcl2 cl hof
      unfold StepTo
      go_simp
      exact hK θ w2 (by simp only [so 10 (by decide), so 11 (by decide), so 15 (by decide)]; exact hJ) (fun _ _ _ => rfl)
    · obtain rfl := Option.some.inj ho
      have e10 : a.tmps[10]? = some (.int .i64 (k : Int)) := hR.reg 3 _ 10 rfl rfl (hd 3 (by kernel_rfl))
      have e12 : a.tmps[12]? = some (.pointer (some ⟨cb, 1, none⟩)) := hR.reg 5 _ 12 rfl rfl (hd 5 (by kernel_rfl))
      clear hsz h0 hd hcl2 cl hof
      unfold StepTo
      go_simp
      exact hK θ w2 (by simp only [so 10 (by decide), so 11 (by decide), so 15 (by decide)]; exact hJ) (fun _ _ _ => rfl)
    · obtain rfl := Option.some.inj ho
      have e13 : a.tmps[13]? = some (.pointer (some ⟨cb, 1 + k, none⟩)) := hR.reg 6 _ 13 rfl rfl (hd 6 (by kernel_rfl))
      have q8 := cl 8 7 (by kernel_rfl) hof
      have q11 := cl 11 8 (by kernel_rfl) q8
      have q15 := cl 15 11 (by kernel_rfl) q11
      have hbx : Box w2 cb C := hJ.blk (i := i) (π := π) (by unfold tsB; rw [q15, if_neg (by simp), List.getElem?_append_left hil]; exact HI.out)
      have c1 : w2.cell? ⟨cb, 1 + k, none⟩ = some (.slice OA on oc) := (hbx.cell (1 + k)).trans HC.out
      have fb := hbx.free; have zb := hbx.lt
      clear hbx
      clear hsz h0 hd hcl2 cl hof
      unfold StepTo
      go_simp
      exact hK θ w2 (by simp only [so 10 (by decide), so 11 (by decide), so 15 (by decide)]; exact hJ) (fun _ _ _ => rfl)
    · obtain rfl := Option.some.inj ho
      have e14 : a.tmps[14]? = some (.slice OA on oc) := hR.reg 7 _ 14 rfl rfl (hd 7 (by kernel_rfl))
      clear hsz h0 hd hcl2 cl hof
      unfold StepTo
      go_simp
      go_at_call 68
      refine (clip_ops hoc w2 (fun e => by have := hA3 e; have := H.out.at (E := ptrE) HJ.out; exact this.2.2.2.1 e) hA2 (by omega)).mono ?_
      rintro e5 w5 ⟨rfl, rfl⟩
      exact hK θ _ (by simp only [so 10 (by decide), so 11 (by decide), so 15 (by decide)]; exact hJ) (fun _ _ _ => rfl)
    · obtain rfl := Option.some.inj ho
      have e2 : a.tmps[2]? = some (.pointer (some ⟨ob, 0, none⟩)) := (hR.outer 2 (by kernel_rfl)).trans rfl
      clear hsz h0 hd hcl2 cl hof
      unfold StepTo
      go_simp
      exact hK θ w2 (by simp only [so 10 (by decide), so 11 (by decide), so 15 (by decide)]; exact hJ) (fun _ _ _ => rfl)
    · obtain rfl := Option.some.inj ho
      have e16 : a.tmps[16]? = some (.pointer (some ⟨ob, 0, none⟩)) := hR.reg 9 _ 16 rfl rfl (hd 9 (by kernel_rfl))
      have q11 := cl 11 10 (by kernel_rfl) hof
      have q15 := cl 15 11 (by kernel_rfl) q11
      clear hsz h0 hd hcl2 cl
      have hJ2 := hJ.boxIn (t := tNone) ts.length #[.pointer (some ⟨ob, 0, none⟩)] 89 (by unfold tsB; rw [hof, q15, if_neg (by simp), List.getElem?_append_right (Nat.le_refl _)]; simp) rfl rfl
      unfold StepTo
      go_simp
      refine hK (w2.heap.size, θ.2.1, θ.2.2) _ ?_ (fun j hj _ => by simp only [if_neg hj])
      simp only [se, so 11 (by decide), so 15 (by decide), q11, q15]
      unfold tsB at hJ2 ⊢
      simp only [hof, q11, q15, Bool.false_eq_true, if_false, if_true] at hJ2 ⊢
      simpa using hJ2
    · obtain rfl := Option.some.inj ho
      have e15 : a.tmps[15]? = some (.slice OA on on) := hR.reg 8 _ 15 rfl rfl (hd 8 (by kernel_rfl))
      have e17 : a.tmps[17]? = some (.slice (some ⟨θ.1, 0, none⟩) 1 1) := hR.reg 10 _ 17 rfl rfl (hd 10 (by kernel_rfl))
      have q15 := cl 15 11 (by kernel_rfl) hof
      have q10 := hd 10 (by kernel_rfl)
      clear hsz h0 hd hcl2 cl
      simp only [hof, q10, q15] at hJ
      unfold StepTo
      refine Sta.step_grows (E := ptrE) (L := bs) (N := [ob]) rfl (.tmp 15) (.tmp 17) rfl hJ OA on (by simp [Act.eval, e15]) (fun c h => ?_) ⟨θ.1, 0, none⟩ 1 1 (by simp [Act.eval, e17]) (fun c h => ?_) (by omega) (by omega) ?_
      · have h1 := (show ptrE.At w2 (Quiet c w2) OA on oc bs from h.data (i := j) (by unfold tsB; simp only [Bool.false_eq_true, if_false]; rw [List.getElem?_append_left hjl]; exact HJ.out)).head (m := on) (cap' := on) (Nat.le_refl _) (Nat.le_refl _) (by omega) hA3
        rwa [List.take_of_length_le (by omega)] at h1
      · have h2 := h.box (i := ts.length) (b := θ.1) (C := #[.pointer (some ⟨ob, 0, none⟩)]) (by unfold tsB; simp only [Bool.false_eq_true, if_false, if_true]; rw [List.getElem?_append_right (Nat.le_refl _)]; simp)
        exact Elt.At.one h2.1 h2.2 rfl
      · intro A9 c9 w9 hst hb9
        refine hK (θ.1, A9, c9) w9 ?_ (fun j hj _ => by simp only [if_neg hj])
        simp only [se, so 10 (by decide), so 15 (by decide), q10, q15]
        unfold tsB at hst ⊢
        simp only [Bool.false_eq_true, if_false, if_true] at hst ⊢
        refine hst.pick ?_
        rw [List.append_assoc]
        exact (List.Sublist.refl ts).append (.cons_cons _ (.cons _ (List.Sublist.refl _)))
    · obtain rfl := Option.some.inj ho
      have e7 : a.tmps[7]? = some (.pointer (some ⟨cb, 0, none⟩)) := hR.reg 0 _ 7 rfl rfl (hd 0 (by kernel_rfl))
      clear hsz h0 hd hcl2 cl hof
      unfold StepTo
      go_simp
      exact hK θ w2 (by simp only [so 10 (by decide), so 11 (by decide), so 15 (by decide)]; exact hJ) (fun _ _ _ => rfl)
    · obtain rfl := Option.some.inj ho
      have e19 : a.tmps[19]? = some (.pointer (some ⟨cb, 0, none⟩)) := hR.reg 12 _ 19 rfl rfl (hd 12 (by kernel_rfl))
      clear hsz h0 hd hcl2 cl hof
      unfold StepTo
      go_simp
      exact hK θ w2 (by simp only [so 10 (by decide), so 11 (by decide), so 15 (by decide)]; exact hJ) (fun _ _ _ => rfl)
    · obtain rfl := Option.some.inj ho
      have e8 : a.tmps[8]? = some (.int .i64 (k : Int)) := hR.reg 1 _ 8 rfl rfl (hd 1 (by kernel_rfl))
      have e20 : a.tmps[20]? = some (.pointer (some ⟨cb, 1, none⟩)) := hR.reg 13 _ 20 rfl rfl (hd 13 (by kernel_rfl))
      clear hsz h0 hd hcl2 cl hof
      unfold StepTo
      go_simp
      exact hK θ w2 (by simp only [so 10 (by decide), so 11 (by decide), so 15 (by decide)]; exact hJ) (fun _ _ _ => rfl)
    · obtain rfl := Option.some.inj ho
      have e18 : a.tmps[18]? = some (.slice θ.2.1 (on + 1) θ.2.2) := hR.reg 11 _ 18 rfl rfl (hd 11 (by kernel_rfl))
      have e21 : a.tmps[21]? = some (.pointer (some ⟨cb, 1 + k, none⟩)) := hR.reg 14 _ 21 rfl rfl (hd 14 (by kernel_rfl))
      have q11 := hd 11 (by kernel_rfl)
      simp only [hof, q11] at hJ
      have hJ2 := hJ.store (i := i) (π := π) (b := cb) (C := C) (1 + k) (.slice θ.2.1 (on + 1) θ.2.2) (by unfold tsB; simp only [Bool.false_eq_true, if_false]; rw [List.getElem?_append_left hil]; exact HI.out) hπ rfl
      have hbx : Box w2 cb C := hJ.blk (i := i) (π := π) (by unfold tsB; simp only [Bool.false_eq_true, if_false]; rw [List.getElem?_append_left hil]; exact HI.out)
      have cb1 : w2.cell? ⟨cb, 1 + k, none⟩ = some (.slice OA on oc) := (hbx.cell (1 + k)).trans HC.out
      have fb := hbx.free; have zb := hbx.lt
      clear hsz h0 hd hcl2 cl hbx
      unfold StepTo
      go_simp
      refine hK θ _ ?_ (fun _ _ _ => rfl)
      simp only [se, so 10 (by decide), so 11 (by decide), q11]
      unfold tsB at hJ2 ⊢
      simp only [Bool.false_eq_true, if_false, if_true] at hJ2 ⊢
      rw [List.set_append_left _ _ hil] at hJ2
      exact hJ2
  case done =>
    intro l θ a w2 hall hJ hR
    have ha := (hR.whole [some 7, some 8, some 9, some 10, some 11, some 12, some 13, some 14, some 15, some 16, some 17, some 18, some 19, some 20, some 21, none] rfl rfl (by kernel_rfl) hall).trans (b := _) (c := ⟨#[.pointer (some ⟨cb, 0, none⟩), .int .i64 (k : Int), .pointer (some ⟨ob, 0, none⟩), undef, undef, undef, .int .i64 0, .pointer (some ⟨cb, 0, none⟩), .int .i64 (k : Int), .pointer (some ⟨cb, 0, none⟩), .int .i64 (k : Int), .pointer (some ⟨cb, 0, none⟩), .pointer (some ⟨cb, 1, none⟩), .pointer (some ⟨cb, 1 + k, none⟩), .slice OA on oc, .slice OA on on, .pointer (some ⟨ob, 0, none⟩), .slice (some ⟨θ.1, 0, none⟩) 1 1, .slice θ.2.1 (on + 1) θ.2.2, .pointer (some ⟨cb, 0, none⟩), .pointer (some ⟨cb, 1, none⟩), .pointer (some ⟨cb, 1 + k, none⟩), undef, undef, undef, undef, undef, undef, undef], []⟩) (by kernel_rfl)
    subst ha
    simp only [hall 10 (by show 10 < 16; omega), hall 11 (by show 11 < 16; omega), hall 15 (by show 15 < 16; omega)] at hJ
    have HE := Lib.hid (hJ.pick (ts' := ts.set i (tBlk π cb (C.setIfInBounds (1 + k) (.slice θ.2.1 (on + 1) θ.2.2))) ++ [tAt ptrE θ.2.1 (on + 1) θ.2.2 (bs ++ [ob])]) (by unfold tsB; simp only [if_true]; exact (List.Sublist.refl _).append (.cons _ (List.Sublist.refl _))))
    have hbx : Box w2 cb (C.setIfInBounds (1 + k) (.slice θ.2.1 (on + 1) θ.2.2)) := HE.out.blk (i := i) (π := π) (by rw [List.getElem?_append_left (by simpa using hil), List.getElem?_set_self hil])
    have cb1 : w2.cell? ⟨cb, 1 + k, none⟩ = some (.slice θ.2.1 (on + 1) θ.2.2) := by rw [hbx.cell (1 + k), Array.getElem?_setIfInBounds_self_of_lt hcl]
    have fb := hbx.free; have zb := hbx.lt
    clear hR hall hJ hbx
    go_wp2
    go_ret
    exact ⟨θ.2.1, θ.2.2, rfl, HE.out⟩
end Go.Proofs.YtdpamikobmefeaaGreat

namespace Go.Proofs.YtdpamikobmefeaaGreat
open Go.RowKit Go.ChangeShapes
set_option maxRecDepth 100000
set_option linter.unusedVariables false
set_option linter.unusedSimpArgs false

structure Msg where
  kind : Int
  hub : Int
  point : Int
  client : Int
  op : Int
  target : Int
  hops : Int
  owner : Int
  turn : Int
  value : Int
  rc : Rec
  gone : Bool
  sf : Int
  st : Int
  box : List Rng
  recs : List Rec
def msgCells (m : Msg) (s : Option Addr) (l c : Nat) (bA : Option Addr) (bn bc : Nat) (rA : Option Addr) (rn rk : Nat) : List Value :=
  [.int .i64 m.kind, .int .i64 m.hub, .int .u32 m.point, .int .i64 m.client, .int .i64 m.op, .int .u32 m.target, .int .i64 m.hops, .int .u32 m.owner, .int .i64 m.turn, .int .u32 m.value, .int .u64 m.rc.id, .int .u64 m.rc.ver, .slice s l c, .bool m.gone, .int .u32 m.sf, .int .u32 m.st, .slice bA bn bc, .slice rA rn rk]
def msgRd (w : World) (D : Nat → Prop) (cs : List Value) (m : Msg) : Prop := ∃ s l c bA bn bc rA rn rk, cs = msgCells m s l c bA bn bc rA rn rk ∧ Ints w D .u32 4 s l c m.rc.vals ∧ RngsAt w D bA bn bc m.box ∧ recE.At w D rA rn rk m.recs
theorem msg_info : ∃ i : TypeInfo, Tryz.prog.info? 58 = some i ∧ i.zero = some (.agg zeroM) ∧ i.size = 18 ∧ i.bytes = 184 := by
  obtain ⟨j0, jii, jz0, jz1, jz2⟩ := info_parts (show (Tryz.prog.info? 58).map (fun i => (i.zero, i.size, i.bytes)) = some (some (.agg zeroM), 18, 184) by kernel_rfl)
  exact ⟨j0, jii, jz0, jz1, jz2⟩
def msgE : Elt Tryz.prog Msg where
  T := 58
  ST := 32
  k := 18
  bytes := 184
  zero := .agg zeroM
  rd := msgRd
  pos := by omega
  len := fun ⟨s, l, c, bA, bn, bc, rA, rn, rk, h, _⟩ => by rw [h]; rfl
  one := fun ⟨s, l, c, bA, bn, bc, rA, rn, rk, h, _⟩ u hu => by
    subst h
    simp only [msgCells, List.mem_cons, List.not_mem_nil, or_false] at hu
    rcases hu with rfl | rfl | rfl | rfl | rfl | rfl | rfl | rfl | rfl | rfl | rfl | rfl | rfl | rfl | rfl | rfl | rfl | rfl <;> rfl
  move := fun ⟨s, l, c, bA, bn, bc, rA, rn, rk, h, h1, h2, h3⟩ hm => ⟨s, l, c, bA, bn, bc, rA, rn, rk, h, h1.move hm, h2.move hm, h3.move hm⟩
  und := Tryz.underlying32
  info := msg_info
  zlen := rfl
  blim := by omega
/-- A cell of an element of a row is set. -/
theorem Sta.editAt {α : Type} {E : Elt Tryz.prog α} {W w : World} {ts ts' : List Thing} {π : List Int} {g n cap i : Nat} {l : List α} (j t : Nat) (v : Value) (x x' : α) (h : Sta W ts w) (hi : ts[i]? = some (tRow E π (.slice (some ⟨g, 0, none⟩) n cap) l)) (hπ : π ≠ []) (hx : l[j]? = some x) (ht : t < E.k)
    (hrd : ∀ c, S0 W ts c w → ∀ cs, E.rd w (Quiet c w) cs x → E.rd w (Quiet c w) (cs.set t v) x') (hts : ts.set i (tRow E π (.slice (some ⟨g, 0, none⟩) n cap) (l.set j x')) = ts') : Sta W ts' (w.setCell ⟨g, j * E.k + t, none⟩ v) := by
  obtain ⟨c, h⟩ := h
  have hr : E.Row c π w (.slice (some ⟨g, 0, none⟩) n cap) l := h.get hi
  obtain ⟨cur, b1, b2, b3, b4⟩ := hr.cur
  have hjl := (List.getElem?_eq_some_iff.1 hx).1
  have hlt : j * E.k + t < cur.size := by
    have : (j + 1) * E.k ≤ l.length * E.k := Nat.mul_le_mul_right _ hjl
    rw [Nat.add_mul, Nat.one_mul] at this
    omega
  have he : ∀ (q : Nat) y, (l.set j x')[q]? = some y → ∃ cs, (∀ (u : Nat) z, cs[u]? = some z → (cur.setIfInBounds (j * E.k + t) v)[q * E.k + u]? = some z) ∧ E.rd w (Quiet c w) cs y := fun q y hq => by
    rw [List.getElem?_set] at hq
    have hbx : Box w g cur := ⟨_, b1⟩
    by_cases hjq : j = q
    · subst hjq
      rw [if_pos rfl, if_pos hjl] at hq
      injection hq with hq
      subst hq
      obtain ⟨cs, c1, c2⟩ := hr.cells hx
      refine ⟨cs.set t v, fun u z hz => ?_, hrd c h cs c2⟩
      rw [List.getElem?_set] at hz
      by_cases hut : t = u
      · subst hut
        rw [if_pos rfl] at hz
        split at hz
        · rw [Array.getElem?_setIfInBounds, if_pos rfl, if_pos hlt]; exact hz
        · cases hz
      · rw [if_neg hut] at hz
        rw [Array.getElem?_setIfInBounds, if_neg (by omega), ← hbx.cell]
        exact c1 u z hz
    · rw [if_neg hjq] at hq
      obtain ⟨cs, c1, c2⟩ := hr.cells hq
      refine ⟨cs, fun u z hz => ?_, c2⟩
      have hu : u < E.k := by rw [← E.len c2]; exact (List.getElem?_eq_some_iff.1 hz).1
      have hne : j * E.k + t ≠ q * E.k + u := fun e => by
        apply hjq
        have h1 : (j * E.k + t) / E.k = j := by rw [Nat.mul_comm, Nat.mul_add_div E.pos, Nat.div_eq_of_lt ht]; omega
        have h2 : (q * E.k + u) / E.k = q := by rw [Nat.mul_comm, Nat.mul_add_div E.pos, Nat.div_eq_of_lt hu]; omega
        rw [← h1, ← h2, e]
      rw [Array.getElem?_setIfInBounds, if_neg hne, ← hbx.cell]
      exact c1 u z hz
  obtain ⟨st, hr'⟩ := hr.edit (L' := l.set j x') (cur' := cur.setIfInBounds (j * E.k + t) v) (w' := w.setCell ⟨g, j * E.k + t, none⟩ v) h.fresh hπ (by simp) b1 (b1.set _) (by simp) ((Only.refl (· = g) w).setCell (p := ⟨g, j * E.k + t, none⟩) (.inl rfl) _) he
  exact Sta.turn h hi hπ (t' := tRow E π (.slice (some ⟨g, 0, none⟩) n cap) (l.set j x')) rfl st hr' hts
/-- An empty row just made. -/
theorem Sta.addRow {α : Type} {W w : World} {ts : List Thing} (E : Elt Tryz.prog α) (π : List Int) (h : Sta W ts w) (hπ : π ≠ []) (ho : ∀ x ∈ ts, x.π ≠ π) : Sta W (ts ++ [tRow E π (.slice (some ⟨w.heap.size, 0, none⟩) 0 0) []]) (w.alloc (.cells #[] E.T)) := by
  obtain ⟨c, h⟩ := h
  have st : Stp (· = π) c w (fun k => if k = w.heap.size then π else c k) (w.alloc (.cells #[] E.T)) := by
    refine ⟨(Only.refl _ _).alloc _, fun k hk => if_neg (by omega), fun k hk => ?_⟩
    rw [size_alloc] at hk
    show (if _ then _ else _) = _
    rw [if_neg (by omega)]
    exact h.fresh k (by omega)
  refine ⟨_, h.add (t := tRow E π _ []) hπ ho st ⟨[], ?_, fun g hg => ?_, rfl, (fun m hm => by simp at hm), fun j m x hm => by simp at hm⟩⟩
  · exact ⟨by simp, .inr ⟨w.heap.size, 0, #[], rfl, Nat.zero_le _, BoxT.new w #[] E.T, Nat.le_refl _, by unfold maxLen; omega, by simp, by simp⟩⟩
  · simp only [Value.ownBlock] at hg
    injection hg with hg
    show (if _ then _ else _) = _
    rw [if_pos hg.symm]
theorem clone_msgs {W w : World} {ts : List Thing} {A : Option Addr} {n cap : Nat} {l : List Msg} (π : List Int) (h : Sta W ts w) (hπ : π ≠ []) (ho : ∀ x ∈ ts, x.π ≠ π) (hl : ∀ c, S0 W ts c w → msgE.At w (Quiet c w) A n cap l) (hn : n ≤ 10000) :
    Calls Tryz.prog 72 #[.slice A n cap] w fun e w' => ∃ B c', e = .returned (.slice B n c') ∧ Sta W (ts ++ [tRow msgE π (.slice B n c') l]) w' := by
  have qS := eql_slice_nil (P := Tryz.prog) Tryz.underlying32
  obtain ⟨c0, h0⟩ := id h
  have hl0 := hl c0 h0
  have hln := hl0.1
  cases A with
  | none =>
    have hc := hl0.2.2.2.1 rfl
    have hnc := hl0.2.1
    obtain rfl : n = 0 := by omega
    obtain rfl : l = [] := List.eq_nil_of_length_eq_zero hln
    have S1 := Lib.hid (h.rowNil msgE π hπ ho)
    clear hl0 h0 hl
    go_enter Tryz.func72, Tryz.ntmps72
    go_wp2
    go_ret
    exact ⟨none, 0, rfl, S1.out⟩
  | some ad =>
    have S2 : Sta W (ts ++ [tAt msgE (some ad) n cap l, tRow msgE π (.slice (some ⟨w.heap.size, 0, none⟩) 0 0) []]) (w.alloc (.cells #[] 58)) := by
      have q : Sta W (ts ++ [tAt msgE (some ad) n cap l]) w := ⟨c0, h0.addData rfl hl0⟩
      have := q.addRow msgE π hπ (fun x hx => by
        rcases List.mem_append.1 hx with hx | hx
        · exact ho x hx
        · simp only [List.mem_singleton] at hx; subst hx; exact fun e => hπ e.symm)
      rwa [List.append_assoc] at this
    have S1 := Lib.hid S2
    clear hl0 h0 h hl S2
    go_enter Tryz.func72, Tryz.ntmps72
    go_wp2_with (at_builtin; go_loud (refine Sta.wpList_append (E := msgE) (L := ([] : List Msg)) (N := l) (ts.length + 1) rfl _ _ rfl (.slice (some ⟨w.heap.size, 0, none⟩) 0 0) rfl S1.out (by rw [List.getElem?_append_right (by omega)]; simp) hπ (some ad) n cap rfl (fun c h1 => h1.data (i := ts.length) (by rw [List.getElem?_append_right (Nat.le_refl _)]; simp)) (by show 0 + n ≤ _; omega) ?_; intro B2 cap2 w2 st2))
    have S3 : Sta W (ts ++ [tRow msgE π (.slice B2 n cap2) l]) w2 := by
      refine st2.pick ?_
      rw [List.set_append_right _ _ (by omega), show ts.length + 1 - ts.length = 1 by omega]
      simp only [List.length_nil, Nat.zero_add, List.nil_append]
      exact (List.Sublist.refl ts).append (.cons _ (List.Sublist.refl _))
    go_ret
    exact ⟨B2, cap2, by simp, S3⟩
end Go.Proofs.YtdpamikobmefeaaGreat

namespace Go.Proofs.YtdpamikobmefeaaGreat
open Go.RowKit Go.ChangeShapes
set_option maxRecDepth 100000
set_option linter.unusedVariables false
set_option linter.unusedSimpArgs false

def tRngs (A : Option Addr) (n cap : Nat) (xs : List Rng) : Thing := ⟨[], fun c w => RngsAt w (Quiet c w) A n cap xs, fun h hk => h.move hk.quiet⟩
theorem Sta.addRngs {W w w' : World} {ts : List Thing} {A : Option Addr} {n cap : Nat} {xs : List Rng} (h : Sta W ts w) (hb : Below w.heap.size w w') (hl : RngsAt w' (w.heap.size ≤ ·) A n cap xs) : Sta W (ts ++ [tRngs A n cap xs]) w' := by
  obtain ⟨c, h⟩ := h
  exact ⟨c, (h.later hb).addData rfl (hl.move fun b hb' hlt => ⟨rfl, h.fresh b hb', hlt⟩)⟩
theorem msg_same {w : World} {D : Nat → Prop} {cs : List Value} {m : Msg} (t : Nat) (v : Value) (hv : ∀ s l c bA bn bc rA rn rk, (msgCells m s l c bA bn bc rA rn rk)[t]? = some v) (h : msgRd w D cs m) : msgRd w D (cs.set t v) m := by
  obtain ⟨s, l, c, bA, bn, bc, rA, rn, rk, rfl, h1, h2, h3⟩ := h
  refine ⟨s, l, c, bA, bn, bc, rA, rn, rk, ?_, h1, h2, h3⟩
  apply List.ext_getElem?
  intro j
  rw [List.getElem?_set]
  by_cases hj : t = j
  · subst hj
    have hq := hv s l c bA bn bc rA rn rk
    rw [if_pos rfl, if_pos (List.getElem?_eq_some_iff.1 hq).1, hq]
  · rw [if_neg hj]
theorem msg_vals {w : World} {D : Nat → Prop} {cs : List Value} {m : Msg} {A : Option Addr} {n k : Nat} (hi : Ints w D .u32 4 A n k m.rc.vals) (h : msgRd w D cs m) : msgRd w D (cs.set 12 (.slice A n k)) m := by
  obtain ⟨s, l, c, bA, bn, bc, rA, rn, rk, rfl, h1, h2, h3⟩ := h
  exact ⟨A, n, k, bA, bn, bc, rA, rn, rk, rfl, hi, h2, h3⟩
theorem msg_box {w : World} {D : Nat → Prop} {cs : List Value} {m : Msg} {A : Option Addr} {n k : Nat} (hi : RngsAt w D A n k m.box) (h : msgRd w D cs m) : msgRd w D (cs.set 16 (.slice A n k)) m := by
  obtain ⟨s, l, c, bA, bn, bc, rA, rn, rk, rfl, h1, h2, h3⟩ := h
  exact ⟨s, l, c, A, n, k, rA, rn, rk, rfl, h1, hi, h3⟩
theorem set_same {α : Type} {l : List α} {j : Nat} {x : α} (h : l[j]? = some x) : l.set j x = l := by
  apply List.ext_getElem?
  intro i
  rw [List.getElem?_set]
  by_cases hij : j = i
  · subst hij; rw [if_pos rfl, if_pos (List.getElem?_eq_some_iff.1 h).1, h]
  · rw [if_neg hij]
/-- A cell of a message of a row is set, and it reads as it did. -/
theorem Sta.editM {W w : World} {ts : List Thing} {π : List Int} {g n cap i : Nat} {l : List Msg} (j t : Nat) (v : Value) (x : Msg) (h : Sta W ts w) (hi : ts[i]? = some (tRow msgE π (.slice (some ⟨g, 0, none⟩) n cap) l)) (hπ : π ≠ []) (hx : l[j]? = some x) (ht : t < 18)
    (hrd : ∀ c, S0 W ts c w → ∀ cs, msgRd w (Quiet c w) cs x → msgRd w (Quiet c w) (cs.set t v) x) : Sta W ts (w.setCell ⟨g, j * 18 + t, none⟩ v) := by
  refine Sta.editAt (E := msgE) j t v x x h hi hπ hx ht hrd ?_
  rw [set_same hx]
  exact set_same hi
set_option maxHeartbeats 4000000 in
theorem cli_own {W w : World} {ts : List Thing} {A : Option Addr} {n cap : Nat} {l : List Msg} (π : List Int) (h : Sta W ts w) (hπ : π ≠ []) (ho : ∀ x ∈ ts, x.π ≠ π) (hl : ∀ c, S0 W ts c w → msgE.At w (Quiet c w) A n cap l) (hn : n ≤ 10000) :
    Calls Tryz.prog 40 #[.slice A n cap] w fun e w' => ∃ B c', e = .returned (.slice B n c') ∧ Sta W (ts ++ [tAt msgE B n c' l]) w' := by
  have hln : l.length = n := by
    obtain ⟨c0, h0⟩ := h
    exact (hl c0 h0).1
  have HC := Lib.hid (clone_msgs π h hπ ho hl hn)
  clear h hl
  go_enter Tryz.func40, Tryz.ntmps40
  go_wp2_with (go_at_call 72; go_loud (refine HC.out.mono ?_; rintro e1 w1 ⟨B, c', rfl, hs1⟩; have S1 := Lib.hid hs1; clear hs1 HC))
  go_loopw [9] (fun s9 wr => ∃ i : Nat, i ≤ n ∧ s9 = .int .i64 i ∧ Sta W (ts ++ [tRow msgE π (.slice B n c') l]) wr) (fun s _ => n - (intOf s).toNat)
  case atStart => exact ⟨0, Nat.zero_le _, rfl, S1.out⟩
  case round =>
    obtain ⟨i, hi, rfl, hs⟩ := hrel
    have HS := Lib.hid hs
    have hrow : (ts ++ [tRow msgE π (.slice B n c') l])[ts.length]? = some (tRow msgE π (.slice B n c') l) := by rw [List.getElem?_append_right (Nat.le_refl _)]; simp
    have HROW := Lib.hid hrow
    clear S1
    by_cases hlt : i < n
    · obtain ⟨m, hm⟩ : ∃ m, l[i]? = some m := ⟨_, List.getElem?_eq_getElem (by omega)⟩
      obtain ⟨c, hr⟩ := hs.row hrow
      obtain ⟨A1, cap1, e1, q1, q2, q3, q4⟩ := hr.shape
      injection e1 with e1 e2 e3
      subst e1 e3
      clear e2
      cases B with
      | none => have := (q3 rfl).1; omega
      | some ad =>
      obtain ⟨g, rfl, _, zg⟩ := q4 ad rfl
      obtain ⟨cur, bb1, _⟩ := hr.cur
      have fg := (show Box wr g cur from ⟨_, bb1⟩).free
      obtain ⟨cs, hcs, s0, l0, k0, bA, bn, bc, rA, rn, rk, rfl, hI, hR, _⟩ := hr.cells hm
      have hc : ∀ (t : Nat) u, (msgCells m s0 l0 k0 bA bn bc rA rn rk)[t]? = some u → wr.cell? ⟨g, i * 18 + t, none⟩ = some u := hcs
      have d9 := hc 9 _ rfl; have d10 := hc 10 _ rfl; have d11 := hc 11 _ rfl; have d12 := hc 12 _ rfl; have d13 := hc 13 _ rfl; have d16 := hc 16 _ rfl
      have HI := Lib.hid (hI.move (D' := (· < wr.heap.size)) fun b hb hl => ⟨rfl, hl⟩)
      have HM := Lib.hid hm
      clear hs hr hcs hc q1 q2 q3 q4 hI hR hm bb1
      go_upto_region 6 with (go_at_call 73; go_loud (refine (entry_any m.value m.rc.id m.rc.ver m.gone wr HI.out (fun b hb => hb)).mono ?_; rintro e2 w2 ⟨v2, rfl, ⟨A2, n2, k2, rfl, hi2⟩, hb2⟩; have S2 := Lib.hid (HS.out.addInts hb2 hi2); have f9 : w2.cell? ⟨g, i * 18 + 9, none⟩ = some (.int .u32 m.value) := (hb2.cell (p := ⟨g, i * 18 + 9, none⟩) zg).trans d9; have f10 : w2.cell? ⟨g, i * 18 + 9 + 1, none⟩ = some (.int .u64 m.rc.id) := (hb2.cell (p := ⟨g, i * 18 + 10, none⟩) zg).trans d10; have f11 : w2.cell? ⟨g, i * 18 + 9 + 2, none⟩ = some (.int .u64 m.rc.ver) := (hb2.cell (p := ⟨g, i * 18 + 11, none⟩) zg).trans d11; have f12 : w2.cell? ⟨g, i * 18 + 9 + 3, none⟩ = some (.slice s0 l0 k0) := (hb2.cell (p := ⟨g, i * 18 + 12, none⟩) zg).trans d12; have f13 : w2.cell? ⟨g, i * 18 + 9 + 4, none⟩ = some (.bool m.gone) := (hb2.cell (p := ⟨g, i * 18 + 13, none⟩) zg).trans d13; have fg2 : ∀ i, w2.frozen? ⟨g, i, none⟩ = false := fun i => (hb2.frozen (p := ⟨g, i, none⟩) zg).trans (fg i); have zg2 := Nat.lt_of_lt_of_le zg hb2.size; have HB2 := Lib.hid hb2; clear hi2 hb2))
      have X2 : Sta W ((ts ++ [tRow msgE π (.slice (some ⟨g, 0, none⟩) n c') l]) ++ [tInts A2 n2 k2 m.rc.vals]) w2 := S2.out
      have hri : ((ts ++ [tRow msgE π (.slice (some ⟨g, 0, none⟩) n c') l]) ++ [tInts A2 n2 k2 m.rc.vals])[ts.length]? = some (tRow msgE π (.slice (some ⟨g, 0, none⟩) n c') l) := by
        rw [List.getElem?_append_left (by simp)]; exact HROW.out
      have hii : ((ts ++ [tRow msgE π (.slice (some ⟨g, 0, none⟩) n c') l]) ++ [tInts A2 n2 k2 m.rc.vals])[ts.length + 1]? = some (tInts A2 n2 k2 m.rc.vals) := by
        rw [List.getElem?_append_right (by simp)]; simp
      have Y1 := X2.editM i 9 (.int .u32 m.value) m hri hπ HM.out (by omega) (fun c h cs => msg_same 9 _ (fun _ _ _ _ _ _ _ _ _ => rfl))
      have Y2 := Y1.editM i 10 (.int .u64 m.rc.id) m hri hπ HM.out (by omega) (fun c h cs => msg_same 10 _ (fun _ _ _ _ _ _ _ _ _ => rfl))
      have Y3 := Y2.editM i 11 (.int .u64 m.rc.ver) m hri hπ HM.out (by omega) (fun c h cs => msg_same 11 _ (fun _ _ _ _ _ _ _ _ _ => rfl))
      have Y4 := Y3.editM i 12 (.slice A2 n2 k2) m hri hπ HM.out (by omega) (fun c h cs => msg_vals (h.get hii))
      have Y5 := Y4.editM i 13 (.bool m.gone) m hri hπ HM.out (by omega) (fun c h cs => msg_same 13 _ (fun _ _ _ _ _ _ _ _ _ => rfl))
      refine wp_abs (fun wx => Sta W (ts ++ [tRow msgE π (.slice (some ⟨g, 0, none⟩) n c') l]) wx) (Y5.pick (List.sublist_append_left _ _)) ?_
      clear X2 hri hii Y1 Y2 Y3 Y4 Y5 S2 f9 f10 f11 f12 f13 fg2 zg2 HB2 d9 d10 d11 d12 d13 d16 fg zg HI HS
      intro wx hsx
      have HS := Lib.hid hsx
      obtain ⟨cx, hr⟩ := hsx.row HROW.out
      obtain ⟨cur, bb1, _⟩ := hr.cur
      have hbg : Box wx g cur := ⟨_, bb1⟩
      have fg := hbg.free
      have zg := hbg.lt
      obtain ⟨cs, hcs, s1, l1, k1, bA1, bn1, bc1, rA1, rn1, rk1, rfl, hI, hR, _⟩ := hr.cells HM.out
      have d16 : wx.cell? ⟨g, i * 18 + 16, none⟩ = some (.slice bA1 bn1 bc1) := hcs 16 _ rfl
      have HR := Lib.hid (hR.move (D' := (· < wx.heap.size)) fun b hb hl => ⟨rfl, hl⟩)
      clear hsx hr hcs hI hR bb1 hbg
      go_wp2_with (go_at_call 30; go_loud (refine (clone_rngs wx HR.out (fun b hb => hb)).mono ?_; rintro e3 w3 ⟨B3, n3, k3, rfl, hr3, hb3⟩; have S3 := Lib.hid (HS.out.addRngs hb3 hr3); have f16 : w3.cell? ⟨g, i * 18 + 16, none⟩ = some (.slice bA1 bn1 bc1) := (hb3.cell (p := ⟨g, i * 18 + 16, none⟩) zg).trans d16; have fg3 : ∀ i, w3.frozen? ⟨g, i, none⟩ = false := fun i => (hb3.frozen (p := ⟨g, i, none⟩) zg).trans (fg i); have zg3 := Nat.lt_of_lt_of_le zg hb3.size; clear hr3 hb3))
      have Z1 : Sta W ((ts ++ [tRow msgE π (.slice (some ⟨g, 0, none⟩) n c') l]) ++ [tRngs B3 n3 k3 m.box]) w3 := S3.out
      have hri : ((ts ++ [tRow msgE π (.slice (some ⟨g, 0, none⟩) n c') l]) ++ [tRngs B3 n3 k3 m.box])[ts.length]? = some (tRow msgE π (.slice (some ⟨g, 0, none⟩) n c') l) := by
        rw [List.getElem?_append_left (by simp)]; exact HROW.out
      have hii : ((ts ++ [tRow msgE π (.slice (some ⟨g, 0, none⟩) n c') l]) ++ [tRngs B3 n3 k3 m.box])[ts.length + 1]? = some (tRngs B3 n3 k3 m.box) := by
        rw [List.getElem?_append_right (by simp)]; simp
      have Z2 := Z1.editM i 16 (.slice B3 n3 k3) m hri hπ HM.out (by omega) (fun c h cs => msg_box (h.get hii))
      have HZ := Lib.hid (Z2.pick (List.sublist_append_left _ _))
      clear Z1 hri hii Z2 S3
      go_roundw
      case rel => exact ⟨i + 1, by omega, by go_num, HZ.out⟩
      case measure => simp [intOf]; omega
    · have HF := Lib.hid (HS.out.freeze (i := ts.length) (π := π) (E := msgE) HROW.out hπ rfl)
      go_wp2
      go_ret
      refine ⟨B, c', rfl, ?_⟩
      have := HF.out
      rw [List.set_append_right _ _ (Nat.le_refl _)] at this
      simpa [hln] using this
end Go.Proofs.YtdpamikobmefeaaGreat

namespace Go.Proofs.YtdpamikobmefeaaGreat
open Go.RowKit Go.ChangeShapes Go.Maps
set_option maxRecDepth 100000
set_option linter.unusedVariables false
set_option linter.unusedSimpArgs false

theorem spot_keyed : Keyed Tryz.prog 108 := Keyed.of_law (deep_law_laid (m := 8) (by kernel_rfl) (by omega) (of_decide_eq_true (by kernel_rfl)) (by kernel_rfl) (by kernel_rfl))
def KS (x y : Int) : Lit := .string (keyBytes [.int .i64 x, .int .u32 y])
theorem keyOf_spot {x y : Int} (h1 : -9223372036854775808 ≤ x) (h2 : x < 9223372036854775808) (hy : U32 y) : keyOf Tryz.prog 108 (.agg #[.int .i64 x, .int .u32 y]) = some (KS x y) := by
  have w1 : (Lit.int .u32 y).wf = true := u32_wfC hy
  have w0 : (Lit.int .i64 x).wf = true := by simp [Lit.wf, IntKind.min, IntKind.max, IntKind.bits, IntKind.signed]; omega
  obtain ⟨m, hm⟩ : ∃ m, Tryz.prog.types.size = m + 1 := ⟨Tryz.prog.types.size - 1, by kernel_rfl⟩
  have hu := Tryz.underlying108
  have q1 : Tryz.prog.keyType 108 = true := by kernel_rfl
  have q2 : ∀ a b : Value, (Value.agg #[a, b]).formed Tryz.prog 108 = true := fun a b => by kernel_rfl
  have hc : Tryz.prog.cellsOf 108 = 2 := by kernel_rfl
  have hc1 : Tryz.prog.cellsOf 27 = 1 := by kernel_rfl
  have hc0 : Tryz.prog.cellsOf 3 = 1 := by kernel_rfl
  have hcells : (Value.agg #[.int .i64 x, .int .u32 y]).cells.toList = [.int .i64 x, .int .u32 y] := rfl
  unfold keyOf
  simp only [hu, q1, q2, Bool.and_self, if_true, hcells, hm]
  simp [Program.keyLits, hu, hc, hc1, hc0, Tryz.underlying27, Tryz.underlying3, w1, w0, KS]
def isBoolV : Value → Bool
  | .bool _ => true
  | _ => false
/-- A map by spots, of at most so many. -/
def tMapN (π : List Int) (mb N : Nat) : Thing := ⟨π, fun c w => c mb = π ∧ ∃ (n : Nat) (D : DataW Value), n ≤ N ∧ w.ownsMap Tryz.prog 108 (heldIf isBoolV) mb n D, fun {c c' w w'} h hk => by
  obtain ⟨h1, n, D, h2, h3⟩ := h
  exact ⟨(hk.col mb h3.lt (.inr h1)).trans h1, n, D, h2, ownsMap_only h3 hk.only (fun hn => hn.2 h1)⟩⟩
theorem Sta.mapSet {W w : World} {ts : List Thing} {π : List Int} {mb N : Nat} {x y : Int} (i : Nat) (h : Sta W ts w) (hi : ts[i]? = some (tMapN π mb N)) (hπ : π ≠ []) (hN : N < 1000000) (h1 : -9223372036854775808 ≤ x) (h2 : x < 9223372036854775808) (hy : U32 y) :
    ∃ w', (Instr.mapUpdate 93 (.map (some mb)) (.agg #[.int .i64 x, .int .u32 y]) (.bool true)).run Tryz.prog w = .ok () w' ∧ Sta W (ts.set i (tMapN π mb (N + 1))) w' := by
  obtain ⟨c, h⟩ := h
  obtain ⟨hc, n, D, hn, hm⟩ := h.get hi
  obtain ⟨upd, hupd⟩ := heldIf_upd hm spot_keyed Tryz.underlying93 (by unfold maxLen; omega) (keyOf_spot h1 h2 hy)
  obtain ⟨u1, u2, u3⟩ := hupd w (.bool true) (Below.refl _ _) rfl
  have st : Stp (· = π) c w c (upd w (.bool true)) := ⟨u3.mono fun k _ hk => by subst hk; exact hc, fun _ _ => rfl, fun k hk => h.fresh k (Nat.le_trans u3.size hk)⟩
  exact ⟨_, u1, Sta.turn h hi hπ (t' := tMapN π mb (N + 1)) rfl st ⟨hc, n + 1, _, by omega, u2⟩ rfl⟩
end Go.Proofs.YtdpamikobmefeaaGreat

namespace Go.Proofs.YtdpamikobmefeaaGreat
open Go.RowKit Go.ChangeShapes Go.Maps
set_option maxRecDepth 100000
set_option linter.unusedVariables false
set_option linter.unusedSimpArgs false

/-- A write's message. -/
def stM (client n : Int) (id : Int) (vs : List Int) (hub : Nat) (v : Int) (gone : Bool) : Msg := ⟨1, hub, 0, client, n, v, 0, 0, 0, v, ⟨id, n, vs.set hub v⟩, gone, 0, 0, [], []⟩
theorem stM_rd {w : World} {D : Nat → Prop} {client n id : Int} {vs : List Int} {hub : Nat} {v : Int} {gone : Bool} {s : Option Addr} {l k : Nat} (hi : Ints w D .u32 4 s l k (vs.set hub v)) : msgRd w D (storeCells client n hub id n v gone s l k) (stM client n id vs hub v gone) :=
  ⟨s, l, k, none, 0, 0, none, 0, 0, rfl, hi, rngsAt (Elt.At.nil w D) (by omega), Elt.At.nil _ _⟩
/-- The messages of a hub: where it is put; where it is erased. -/
def hubM (client n id : Int) (vs : List Int) (put : Bool) (hub : Nat) (v0 : Int) (pl : List Int) : List Msg :=
  (if put = true then [stM client n id vs hub v0 false] else []) ++ (pl.filter fun v => !put || v != v0).map fun v => stM client n id vs hub v true
/-- The cells of an operation that writes. -/
abbrev opC (st : Int) (id : Int) (vM : Value) (wm : Nat) (vV : Value) : Array Value := #[.int .i64 st, .bool true, .int .u64 id, vM, .map (some wm), vV, .int .i64 0, .int .i64 0, .slice none 0 0, .int .u64 0, .bool false, .pointer none, .pointer none]
/-- The things in the midst of writes. -/
def tsW (πo : List Int) (ob rb hb wm : Nat) (id n : Int) (vA : Option Addr) (vn vc : Nat) (vs : List Int) (pA : Option Addr) (pn pc : Nat) (P : List (List Int)) (lA : Option Addr) (ln lc : Nat) (vM vV : Value) (msgs : List Msg) (vals : List (List Int)) (rest : List Thing) : List Thing :=
  [tInts vA vn vc vs, tAt u32sE pA pn pc P, tBox rb #[.int .u64 id, .int .u64 n, .slice vA vn vc], tMapN [9] wm 0, tBlk πo ob (opC 1 id vM wm vV), tRow msgE [7] vM msgs, tRow u32sE [8] vV vals] ++ rest
theorem Sta.addD {W w : World} {ts : List Thing} {t : Thing} (h : Sta W ts w) (hp : t.π = []) (ht : ∀ c, S0 W ts c w → t.R c w) : Sta W (ts ++ [t]) w := by
  obtain ⟨c, h⟩ := h
  exact ⟨c, h.addData hp (ht c h)⟩
theorem Sta.addMap {W w : World} {ts : List Thing} (π : List Int) (h : Sta W ts w) (hπ : π ≠ []) (ho : ∀ x ∈ ts, x.π ≠ π) : Sta W (ts ++ [tMapN π w.heap.size 0]) (w.alloc (.map #[] 0)) := by
  obtain ⟨c, hs⟩ := h
  have st1 : Stp (· = π) c w (fun k => if k = w.heap.size then π else c k) (w.alloc (.map #[] 0)) := by
    refine ⟨(Only.refl _ _).alloc _, fun k hk => if_neg (by omega), fun k hk => ?_⟩
    rw [size_alloc] at hk
    show (if _ then _ else _) = _
    rw [if_neg (by omega)]
    exact hs.fresh k (by omega)
  exact ⟨_, hs.add (t := tMapN π w.heap.size 0) hπ ho st1 ⟨if_pos rfl, 0, .map [], Nat.le_refl _, World.ownsMap_made _ _ _ _⟩⟩
theorem Sta.perm' {W w : World} {ts ts' : List Thing} (h : Sta W ts w) (hp : ts.Perm ts') : Sta W ts' w := by
  obtain ⟨c, h⟩ := h
  refine ⟨c, h.stp, fun t ht => h.own t (hp.mem_iff.2 ht), ?_⟩
  have h1 : ts.Pairwise (fun a b => (a.π ≠ [] → a.π ≠ b.π) ∧ (b.π ≠ [] → b.π ≠ a.π)) := h.apart.imp fun {a b} hab => ⟨hab, fun hb e => hab (by rw [← e]; exact hb) e.symm⟩
  exact ((hp.pairwise_iff (fun {a b} h => ⟨h.2, h.1⟩)).1 h1).imp fun h => h.1
/-- What is there as the hubs begin. -/
theorem tsW_start {W w : World} {ts : List Thing} {πo : List Int} {id n : Int} {vA : Option Addr} {vn vc : Nat} {vs : List Int} {pA : Option Addr} {pn pc : Nat} {P : List (List Int)} {lA : Option Addr} {ln lc : Nat} (h : Sta W ts w) (hv : ∀ c, S0 W ts c w → Ints w (Quiet c w) .u32 4 vA vn vc vs) (hp : ∀ c, S0 W ts c w → u32sE.At w (Quiet c w) pA pn pc P)
    (hπo : πo ≠ []) (ho : ∀ x ∈ ts, x.π ≠ πo ∧ x.π ≠ [7] ∧ x.π ≠ [8] ∧ x.π ≠ [9]) (hπo2 : πo ≠ [7] ∧ πo ≠ [8] ∧ πo ≠ [9]) (T1 T2 T3 : TypeId) :
    Sta W (tsW πo (w.heap.size + 3) w.heap.size (w.heap.size + 1) (w.heap.size + 2) id n vA vn vc vs pA pn pc P lA ln lc (.slice none 0 0) (.slice none 0 0) [] [] ts)
      ((((w.alloc (.cells #[.int .u64 id, .int .u64 n, .slice vA vn vc] T1)).alloc (.cells #[.slice pA pn pc, .slice lA ln lc] T2)).alloc (.map #[] 0)).alloc (.cells (opC 1 id (.slice none 0 0) (w.heap.size + 2) (.slice none 0 0)) T3)) := by
  have s1 := h.addD (t := tInts vA vn vc vs) rfl hv
  have s2 := s1.addD (t := tAt u32sE pA pn pc P) rfl (fun c hc => hp c ⟨hc.stp, fun t ht => hc.own t (by simp [ht]), (List.pairwise_append.1 hc.apart).1⟩)
  have s3 := (s2.addBox #[.int .u64 id, .int .u64 n, .slice vA vn vc] T1).later (below_a1 _ (.cells #[.slice pA pn pc, .slice lA ln lc] T2))
  have s4 := s3.addMap [9] (by simp) (fun x hx => by
    simp only [List.mem_append, List.mem_singleton] at hx
    rcases hx with ((hx | rfl) | rfl) | rfl
    · exact (ho x hx).2.2.2
    · simp [tInts]
    · simp [tAt]
    · simp [tBox])
  have s5 := s4.addBlk πo hπo (fun x hx => by
    simp only [List.mem_append, List.mem_singleton] at hx
    rcases hx with (((hx | rfl) | rfl) | rfl) | rfl
    · exact (ho x hx).1
    · exact fun e => hπo e.symm
    · exact fun e => hπo e.symm
    · exact fun e => hπo e.symm
    · exact fun e => hπo2.2.2 e.symm) (opC 1 id (.slice none 0 0) (w.heap.size + 2) (.slice none 0 0)) T3
  have s6 := s5.rowNil msgE [7] (by simp) (fun x hx => by
    simp only [List.mem_append, List.mem_singleton] at hx
    rcases hx with ((((hx | rfl) | rfl) | rfl) | rfl) | rfl
    · exact (ho x hx).2.1
    · simp [tInts]
    · simp [tAt]
    · simp [tBox]
    · simp [tMapN]
    · exact hπo2.1)
  have s7 := s6.rowNil u32sE [8] (by simp) (fun x hx => by
    simp only [List.mem_append, List.mem_singleton] at hx
    rcases hx with (((((hx | rfl) | rfl) | rfl) | rfl) | rfl) | rfl
    · exact (ho x hx).2.2.1
    · simp [tInts]
    · simp [tAt]
    · simp [tBox]
    · simp [tMapN]
    · exact hπo2.2.1
    · simp [tRow])
  simp only [size_alloc] at s7
  refine Sta.perm' s7 ?_
  unfold tsW
  simp only [List.append_assoc, List.cons_append, List.nil_append]
  exact List.perm_append_comm
/-- The messages of the first hubs. -/
def allM (client n id : Int) (vs : List Int) (put : Bool) (P : List (List Int)) (q : Nat) : List Msg := (List.range q).flatMap fun j => hubM client n id vs put j (vs.getD j 0) (P.getD j [])
theorem allM_succ (client n id : Int) (vs : List Int) (put : Bool) (P : List (List Int)) (q : Nat) : allM client n id vs put P (q + 1) = allM client n id vs put P q ++ hubM client n id vs put q (vs.getD q 0) (P.getD q []) := by
  unfold allM
  rw [List.range_succ, List.flatMap_append]
  simp
theorem hubM_len (client n id : Int) (vs : List Int) (put : Bool) (hub : Nat) (v0 : Int) (pl : List Int) : (hubM client n id vs put hub v0 pl).length ≤ pl.length + 1 := by
  unfold hubM
  rw [List.length_append, List.length_map]
  have := List.length_filter_le (fun v => !put || v != v0) pl
  split <;> simp <;> omega
theorem allM_len {client n id : Int} {vs : List Int} {put : Bool} {P : List (List Int)} (hP : ∀ (q : Nat) p, P[q]? = some p → p.length ≤ 1000) (q : Nat) : (allM client n id vs put P q).length ≤ q * 1001 := by
  induction q with
  | zero => simp [allM]
  | succ q ih =>
    rw [allM_succ, List.length_append]
    have h1 := hubM_len client n id vs put q (vs.getD q 0) (P.getD q [])
    have h2 : (P.getD q []).length ≤ 1000 := by
      rw [List.getD_eq_getElem?_getD]
      cases hq : P[q]? with
      | none => simp
      | some p => exact hP q p hq
    omega
def allV (put : Bool) (vs : List Int) (q : Nat) : List (List Int) := if put = true then (vs.take q).map fun v => [v] else []
/-- The things in the midst of one message more. -/
def tsV (πo : List Int) (ob rb wm : Nat) (id n : Int) (vA : Option Addr) (vn vc : Nat) (vs : List Int) (pA : Option Addr) (pn pc : Nat) (P : List (List Int)) (vM vV : Value) (msgs : List Msg) (vals : List (List Int)) (rest : List Thing) (cl : Int) (hub : Nat) (v : Int) (gone : Bool) (lc lb la ls : Bool) (θ : Option Addr × Nat × Nat × Nat × Option Addr × Nat) : List Thing :=
  [tInts vA vn vc vs, tAt u32sE pA pn pc P, tBox rb #[.int .u64 id, .int .u64 n, .slice vA vn vc], tMapN [9] wm 0, tBlk πo ob (opC 1 id (if ls = true then .slice θ.2.2.2.2.1 (msgs.length + 1) θ.2.2.2.2.2 else vM) wm vV),
   (if la = true then tRow msgE [7] (.slice θ.2.2.2.2.1 (msgs.length + 1) θ.2.2.2.2.2) (msgs ++ [stM cl n id vs hub v gone]) else tRow msgE [7] vM msgs), tRow u32sE [8] vV vals,
   (if lc = true then tInts θ.1 θ.2.1 θ.2.2.1 (vs.set hub v) else tNone), (if lb = true then tBox θ.2.2.2.1 (storeCells cl n hub id n v gone θ.1 θ.2.1 θ.2.2.1).toArray else tNone)] ++ rest
theorem Sta.intsIn {W w w' : World} {ts ts' : List Thing} {t : Thing} (i : Nat) {A : Option Addr} {n k : Nat} {xs : List Int} (h : Sta W ts w) (hb : Below w.heap.size w w') (hl : Ints w' (w.heap.size ≤ ·) .u32 4 A n k xs) (hi : ts[i]? = some t) (hp : t.π = []) (hts : ts.set i (tInts A n k xs) = ts') : Sta W ts' w' := by
  obtain ⟨c, h⟩ := h
  subst hts
  exact ⟨c, (h.later hb).setData (t := t) (t' := tInts A n k xs) i hi hp.symm (hl.move fun b hb' hlt => ⟨rfl, h.fresh b hb', hlt⟩)⟩
theorem tsV_end {W w : World} {πo : List Int} {ob rb hb wm : Nat} {id n : Int} {vA : Option Addr} {vn vc : Nat} {vs : List Int} {pA : Option Addr} {pn pc : Nat} {P : List (List Int)} {lA : Option Addr} {ln lk : Nat} {vM vV : Value} {msgs : List Msg} {vals : List (List Int)} {rest : List Thing} {cl : Int} {hub : Nat} {v : Int} {gone : Bool} {θ : Option Addr × Nat × Nat × Nat × Option Addr × Nat}
    (h : Sta W (tsV πo ob rb wm id n vA vn vc vs pA pn pc P vM vV msgs vals rest cl hub v gone true true true true θ) w) : Sta W (tsW πo ob rb hb wm id n vA vn vc vs pA pn pc P lA ln lk (.slice θ.2.2.2.2.1 (msgs.length + 1) θ.2.2.2.2.2) vV (msgs ++ [stM cl n id vs hub v gone]) vals rest) w := by
  refine h.pick ?_
  unfold tsV tsW
  simp only [if_true, List.cons_append, List.nil_append]
  repeat (first | exact List.Sublist.refl _ | refine .cons_cons _ ?_)
  exact .cons _ (.cons _ (List.Sublist.refl _))
theorem tsV_start {W w : World} {πo : List Int} {ob rb hb wm : Nat} {id n : Int} {vA : Option Addr} {vn vc : Nat} {vs : List Int} {pA : Option Addr} {pn pc : Nat} {P : List (List Int)} {lA : Option Addr} {ln lk : Nat} {vM vV : Value} {msgs : List Msg} {vals : List (List Int)} {rest : List Thing} (cl : Int) (hub : Nat) (v : Int) (gone : Bool) (θ : Option Addr × Nat × Nat × Nat × Option Addr × Nat)
    (h : Sta W (tsW πo ob rb hb wm id n vA vn vc vs pA pn pc P lA ln lk vM vV msgs vals rest) w) : Sta W (tsV πo ob rb wm id n vA vn vc vs pA pn pc P vM vV msgs vals rest cl hub v gone false false false false θ) w := by
  have h2 := (h.addData (t := tNone) rfl fun _ _ => trivial).addData (t := tNone) rfl fun _ _ => trivial
  refine Sta.perm' h2 ?_
  unfold tsV tsW
  simp only [Bool.false_eq_true, if_false, List.cons_append, List.nil_append, List.append_assoc]
  repeat (first | exact List.Perm.refl _ | refine .cons _ ?_)
  exact List.perm_append_comm
theorem ints_cell {w : World} {D : Nat → Prop} {b off n k q : Nat} {xs : List Int} (h : Ints w D .u32 4 (some ⟨b, off, none⟩) n k xs) (hq : q < n) : w.cell? ⟨b, off + q, none⟩ = some (.int .u32 (xs.getD q 0)) := by
  obtain ⟨_, _, _, _, _, _, h7⟩ := h
  obtain ⟨b', off', e, _, hc⟩ := h7 (by omega)
  injection e with e
  injection e with e1 e2
  subst e1 e2
  exact hc q hq
theorem ints_u32 {xs : List Int} {q : Nat} (h : ∀ x ∈ xs, U32 x) (hq : q < xs.length) : U32 (xs.getD q 0) := by
  rw [List.getD_eq_getElem?_getD, List.getElem?_eq_getElem hq]
  exact h _ (List.getElem_mem hq)
/-- The things in the midst of one value more. -/
def tsU (πo : List Int) (ob rb wm : Nat) (id n : Int) (vA : Option Addr) (vn vc : Nat) (vs : List Int) (pA : Option Addr) (pn pc : Nat) (P : List (List Int)) (vM vV : Value) (msgs : List Msg) (vals : List (List Int)) (rest : List Thing) (v : Int) (l2 l3 la ls : Bool) (θ : Nat × Nat × Option Addr × Nat) : List Thing :=
  [tInts vA vn vc vs, tAt u32sE pA pn pc P, tBox rb #[.int .u64 id, .int .u64 n, .slice vA vn vc], tMapN [9] wm 0, tBlk πo ob (opC 1 id vM wm (if ls = true then .slice θ.2.2.1 (vals.length + 1) θ.2.2.2 else vV)),
   tRow msgE [7] vM msgs, (if la = true then tRow u32sE [8] (.slice θ.2.2.1 (vals.length + 1) θ.2.2.2) (vals ++ [[v]]) else tRow u32sE [8] vV vals),
   (if l2 = true then tBox θ.1 #[.int .u32 v] else tNone), (if l3 = true then tBox θ.2.1 #[.slice (some ⟨θ.1, 0, none⟩) 1 1] else tNone)] ++ rest
theorem tsU_end {W w : World} {πo : List Int} {ob rb hb wm : Nat} {id n : Int} {vA : Option Addr} {vn vc : Nat} {vs : List Int} {pA : Option Addr} {pn pc : Nat} {P : List (List Int)} {lA : Option Addr} {ln lk : Nat} {vM vV : Value} {msgs : List Msg} {vals : List (List Int)} {rest : List Thing} {v : Int} {θ : Nat × Nat × Option Addr × Nat}
    (h : Sta W (tsU πo ob rb wm id n vA vn vc vs pA pn pc P vM vV msgs vals rest v true true true true θ) w) : Sta W (tsW πo ob rb hb wm id n vA vn vc vs pA pn pc P lA ln lk vM (.slice θ.2.2.1 (vals.length + 1) θ.2.2.2) msgs (vals ++ [[v]]) rest) w := by
  refine h.pick ?_
  unfold tsU tsW
  simp only [if_true, List.cons_append, List.nil_append]
  repeat (first | exact List.Sublist.refl _ | refine .cons_cons _ ?_)
  exact .cons _ (.cons _ (List.Sublist.refl _))
theorem tsU_start {W w : World} {πo : List Int} {ob rb hb wm : Nat} {id n : Int} {vA : Option Addr} {vn vc : Nat} {vs : List Int} {pA : Option Addr} {pn pc : Nat} {P : List (List Int)} {lA : Option Addr} {ln lk : Nat} {vM vV : Value} {msgs : List Msg} {vals : List (List Int)} {rest : List Thing} (v : Int) (θ : Nat × Nat × Option Addr × Nat)
    (h : Sta W (tsW πo ob rb hb wm id n vA vn vc vs pA pn pc P lA ln lk vM vV msgs vals rest) w) : Sta W (tsU πo ob rb wm id n vA vn vc vs pA pn pc P vM vV msgs vals rest v false false false false θ) w := by
  have h2 := (h.addData (t := tNone) rfl fun _ _ => trivial).addData (t := tNone) rfl fun _ _ => trivial
  refine Sta.perm' h2 ?_
  unfold tsU tsW
  simp only [Bool.false_eq_true, if_false, List.cons_append, List.nil_append, List.append_assoc]
  repeat (first | exact List.Perm.refl _ | refine .cons _ ?_)
  exact List.perm_append_comm
theorem allV_succ {vs : List Int} {q : Nat} (hq : q < vs.length) : allV true vs (q + 1) = allV true vs q ++ [[vs.getD q 0]] := by
  unfold allV
  rw [if_pos rfl, if_pos rfl, List.take_add_one, List.getElem?_eq_getElem hq, Option.toList_some, List.map_append, List.getD_eq_getElem?_getD, List.getElem?_eq_getElem hq]
  rfl
theorem allV_len (put : Bool) (vs : List Int) (q : Nat) : (allV put vs q).length ≤ q := by
  unfold allV
  split
  · simp; omega
  · simp
theorem u32s_cell {w : World} {D : Nat → Prop} {b off n cap q : Nat} {P : List (List Int)} {pl : List Int} {s : Option Addr} {m k : Nat} (h : u32sE.At w D (some ⟨b, off, none⟩) n cap P) (hpl : P[q]? = some pl) (hc : w.cell? ⟨b, off + q, none⟩ = some (.slice s m k)) : Ints w D .u32 4 s m k pl := by
  have hq : q < n := by rw [← h.1]; exact (List.getElem?_eq_some_iff.1 hpl).1
  obtain ⟨b', off', xs, s', m', k', e, _, hx, hc', hi⟩ := u32s_at h hq
  injection e with e
  injection e with e1 e2
  subst e1 e2
  obtain rfl := Option.some.inj (hpl.symm.trans hx)
  have e3 := hc.symm.trans hc'
  injection e3 with e3
  injection e3 with a1 a2 a3
  subst a1 a2 a3
  exact hi
def partM (client n id : Int) (vs : List Int) (hub : Nat) (v0 : Int) (pl : List Int) : List Msg := (pl.filter fun v => v != v0).map fun v => stM client n id vs hub v true
theorem partM_succ {client n id : Int} {vs : List Int} {hub : Nat} {v0 v : Int} {pl : List Int} {u : Nat} (hv : pl[u]? = some v) : partM client n id vs hub v0 (pl.take (u + 1)) = if v = v0 then partM client n id vs hub v0 (pl.take u) else partM client n id vs hub v0 (pl.take u) ++ [stM client n id vs hub v true] := by
  unfold partM
  rw [take_snocR hv, List.filter_append, List.map_append]
  by_cases h : v = v0
  · rw [if_pos h]; simp [h]
  · rw [if_neg h]; simp [h]
theorem hub_part {client n id : Int} {vs : List Int} {P : List (List Int)} {q : Nat} {v0 : Int} {pl : List Int} (hv : vs.getD q 0 = v0) (hp : P[q]? = some pl) : allM client n id vs true P (q + 1) = (allM client n id vs true P q ++ [stM client n id vs q v0 false]) ++ partM client n id vs q v0 pl := by
  rw [allM_succ, hv, List.getD_eq_getElem?_getD, hp]
  unfold hubM partM
  simp
theorem partM_len (client n id : Int) (vs : List Int) (hub : Nat) (v0 : Int) (pl : List Int) : (partM client n id vs hub v0 pl).length ≤ pl.length := by
  unfold partM
  rw [List.length_map]
  exact List.length_filter_le _ _
theorem setRow_new (w : World) (C0 C : Array Value) (T : TypeId) : Below w.heap.size w ((w.alloc (.cells C0 T)).setRow w.heap.size C) ∧ Box ((w.alloc (.cells C0 T)).setRow w.heap.size C) w.heap.size C := by
  have hb := below_a1 w (.cells C0 T)
  refine ⟨⟨by rw [setRow_os]; exact hb.os, by rw [setRow_tape]; exact hb.tape, by rw [setRow_output]; exact hb.output, by rw [setRow_size]; exact hb.size, fun i hi => ?_⟩, ⟨T, setRow_heap _ _ C0 C T (0, 0) (BoxT.new w C0 T)⟩⟩
  rw [setRow_other _ _ _ _ (by omega)]
  exact hb.block i hi
theorem msg_one (m : Msg) (s : Option Addr) (l c : Nat) (bA : Option Addr) (bn bc : Nat) (rA : Option Addr) (rn rk : Nat) : (msgCells m s l c bA bn bc rA rn rk).toArray.all (·.oneCell') = true := by
  unfold msgCells
  simp [Value.oneCell']
theorem Sta.rowNew {W w : World} {ts : List Thing} (h : Sta W ts w) (C0 C : Array Value) (T : TypeId) : Sta W (tBox w.heap.size C :: ts) ((w.alloc (.cells C0 T)).setRow w.heap.size C) := by
  obtain ⟨hb, hx⟩ := setRow_new w C0 C T
  obtain ⟨c, hs⟩ := h
  exact Sta.perm' ⟨c, (hs.later hb).addData (t := tBox w.heap.size C) rfl ⟨hx, hs.fresh _ (Nat.le_refl _)⟩⟩ (List.perm_append_comm (l₂ := [tBox w.heap.size C]))
theorem allM_spots {client n id : Int} {vs : List Int} {P : List (List Int)} (hu : ∀ x ∈ vs, U32 x) (hP : ∀ (q : Nat) p, P[q]? = some p → ∀ x ∈ p, U32 x) {q : Nat} (hq : q ≤ vs.length) : ∀ m ∈ allM client n id vs true P q, 0 ≤ m.hub ∧ m.hub < q ∧ U32 m.target := by
  intro m hm
  unfold allM at hm
  obtain ⟨j, hj, hm⟩ := List.mem_flatMap.1 hm
  have hjq := List.mem_range.1 hj
  unfold hubM at hm
  rw [if_pos rfl] at hm
  rcases List.mem_append.1 hm with h | h
  · simp only [List.mem_singleton] at h
    subst h
    exact ⟨by show (0 : Int) ≤ (j : Int); omega, by show (j : Int) < q; omega, ints_u32 hu (by omega)⟩
  · obtain ⟨v, hv, rfl⟩ := List.mem_map.1 h
    refine ⟨by show (0 : Int) ≤ (j : Int); omega, by show (j : Int) < q; omega, ?_⟩
    have hv2 := (List.mem_filter.1 hv).1
    rw [List.getD_eq_getElem?_getD] at hv2
    cases hp : P[j]? with
    | none => rw [hp] at hv2; simp at hv2
    | some p => rw [hp] at hv2; exact hP j p hp v hv2
end Go.Proofs.YtdpamikobmefeaaGreat
