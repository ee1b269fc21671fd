/- The client: its words; New. Conditions: none. -/
import Derived.Test.YtdpamikobmefeaaStaBlk
namespace Go.Proofs.Ytdpamikobmefeaa
open Go.RowKit Go.ChangeShapes Go.Maps
set_option maxRecDepth 100000
set_option linter.unusedVariables false
set_option linter.unusedSimpArgs false

theorem ptr_info : ∃ i : TypeInfo, Try.prog.info? 136 = some i ∧ i.zero = some (.pointer none) ∧ i.size = 1 ∧ i.bytes = 8 := by
  obtain ⟨j0, jii, jz0, jz1, jz2⟩ := info_parts (show (Try.prog.info? 136).map (fun i => (i.zero, i.size, i.bytes)) = some (some (.pointer none), 1, 8) by kernel_rfl)
  exact ⟨j0, jii, jz0, jz1, jz2⟩
/-- Pointers to operations. -/
def ptrE : Elt Try.prog Nat where
  T := 136
  ST := 120
  k := 1
  bytes := 8
  zero := .pointer none
  rd := fun w D cs b => cs = [.pointer (some ⟨b, 0, none⟩)]
  pos := by omega
  len := fun h => by rw [h]; rfl
  one := fun h u hu => by subst h; simp only [List.mem_cons, List.not_mem_nil, or_false] at hu; rw [hu]; rfl
  move := fun h _ => h
  und := Try.underlying120
  info := ptr_info
  zlen := rfl
  blim := by omega
theorem u32s_info : ∃ i : TypeInfo, Try.prog.info? 35 = some i ∧ i.zero = some (.slice none 0 0) ∧ i.size = 1 ∧ i.bytes = 24 := by
  obtain ⟨j0, jii, jz0, jz1, jz2⟩ := info_parts (show (Try.prog.info? 35).map (fun i => (i.zero, i.size, i.bytes)) = some (some (.slice none 0 0), 1, 24) by kernel_rfl)
  exact ⟨j0, jii, jz0, jz1, jz2⟩
/-- Rows of numbers. -/
def u32sE : Elt Try.prog (List Int) where
  T := 35
  ST := 129
  k := 1
  bytes := 24
  zero := .slice none 0 0
  rd := fun w D cs xs => ∃ s n c, cs = [.slice s n c] ∧ Ints w D .u32 4 s n c xs
  pos := by omega
  len := fun ⟨s, n, c, h, _⟩ => by rw [h]; rfl
  one := fun ⟨s, n, c, h, _⟩ u hu => by subst h; simp only [List.mem_cons, List.not_mem_nil, or_false] at hu; rw [hu]; rfl
  move := fun ⟨s, n, c, h, hi⟩ hm => ⟨s, n, c, h, hi.move hm⟩
  und := Try.underlying129
  info := u32s_info
  zlen := rfl
  blim := by omega
theorem u32s_at {w : World} {D : Nat → Prop} {A : Option Addr} {n cap i : Nat} {l : List (List Int)} (h : u32sE.At w D A n cap l) (hi : i < n) : ∃ (b off : Nat) (xs : List Int) (s : Option Addr) (m c : Nat), A = some ⟨b, off, none⟩ ∧ D b ∧ l[i]? = some xs ∧ w.cell? ⟨b, off + i, none⟩ = some (.slice s m c) ∧ Ints w D .u32 4 s m c xs := by
  obtain ⟨h1, h2, h3, h4, h5⟩ := h
  obtain ⟨b, off, rfl, hd, hc⟩ := h5 (by omega)
  obtain ⟨x, hx⟩ : ∃ x, l[i]? = some x := ⟨_, List.getElem?_eq_getElem (by omega)⟩
  obtain ⟨cs, q0, s, m, c, rfl, hi⟩ := hc i x hx
  have := q0 0 _ rfl
  rw [show off + i * u32sE.k + 0 = off + i by show off + i * 1 + 0 = _; omega] at this
  exact ⟨b, off, x, s, m, c, rfl, hd, hx, this, hi⟩
theorem ptr_at {w : World} {D : Nat → Prop} {A : Option Addr} {n cap i : Nat} {l : List Nat} (h : ptrE.At w D A n cap l) (hi : i < n) : ∃ (b off : Nat) (x : Nat), A = some ⟨b, off, none⟩ ∧ D b ∧ l[i]? = some x ∧ w.cell? ⟨b, off + i, none⟩ = some (.pointer (some ⟨x, 0, none⟩)) := by
  obtain ⟨h1, h2, h3, h4, h5⟩ := h
  obtain ⟨b, off, rfl, hd, hc⟩ := h5 (by omega)
  obtain ⟨x, hx⟩ : ∃ x, l[i]? = some x := ⟨_, List.getElem?_eq_getElem (by omega)⟩
  obtain ⟨cs, q0, rfl⟩ := hc i x hx
  have := q0 0 _ rfl
  rw [show off + i * ptrE.k + 0 = off + i by show off + i * 1 + 0 = _; omega] at this
  exact ⟨b, off, x, rfl, hd, hx, this⟩
/-- What is held of an id. -/
structure HeldE where
  key : Int
  places : List (List Int)
  last : List Int
def isHeld : Value → Bool
  | .agg ⟨[.slice _ _ _, .slice _ _ _]⟩ => true
  | _ => false
def HVal (c : Col) (w : World) (x : HeldE) (v : Value) : Prop := ∃ pA pn pc lA ln lc, v = .agg #[.slice pA pn pc, .slice lA ln lc] ∧ U64 x.key ∧ u32sE.At w (Quiet c w) pA pn pc x.places ∧ Ints w (Quiet c w) .u32 4 lA ln lc x.last
theorem HVal.keep {π : List Int} {c c' : Col} {w w' : World} {x : HeldE} {v : Value} (h : HVal c w x v) (hk : Keeps π c w c' w') : HVal c' w' x v := by
  obtain ⟨pA, pn, pc, lA, ln, lc, rfl, h1, h2, h3⟩ := h
  exact ⟨pA, pn, pc, lA, ln, lc, rfl, h1, h2.move hk.quiet, h3.move hk.quiet⟩
def kH (x : HeldE) : Lit := .int .u64 x.key
def findH (H : List HeldE) (id : Int) : Option HeldE := H.find? fun x => x.key == id
def putH (H : List HeldE) (x : HeldE) : List HeldE := if (findH H x.key).isSome = true then H.map (fun y => if y.key == x.key then x else y) else H ++ [x]
/-- The places of an id. -/
def plH (H : List HeldE) (id : Int) : List (List Int) := match findH H id with | some o => o.places | none => []
def HeldR (c : Col) (π : List Int) (w : World) (mb : Nat) (H : List HeldE) : Prop :=
  ∃ (D : DataW Value), c mb = π ∧ w.ownsMap Try.prog 24 (heldIf isHeld) mb H.length D ∧ MapOf kH (HVal c w) D H
theorem HeldR.keep {π : List Int} {c c' : Col} {w w' : World} {b : Nat} {H : List HeldE} (h : HeldR c π w b H) (hk : Keeps π c w c' w') : HeldR c' π w' b H := by
  obtain ⟨D, h2, hm, hd⟩ := h
  exact ⟨D, (hk.col b hm.lt (.inr h2)).trans h2, ownsMap_only hm hk.only (fun hn => hn.2 h2), hd.imp fun x hx v hv => hv.keep hk⟩
def tHeld (π : List Int) (b : Nat) (H : List HeldE) : Thing := ⟨π, fun c w => HeldR c π w b H, fun h hk => h.keep hk⟩
section
variable {c : Col} {w : World} {D : DataW Value} {H : List HeldE}
theorem held_there {id : Int} {o : HeldE} (hd : MapOf kH (HVal c w) D H) (h : findH H id = some o) : ∃ v, HVal c w o v ∧ (∀ z, D.atKey (.int .u64 id) z = .held v) ∧ o ∈ H ∧ o.key = id := by
  have h1 := List.mem_of_find?_eq_some h
  have h2 : o.key = id := by simpa using List.find?_some h
  obtain ⟨q1, v, q2, q3⟩ := hd.has o h1
  have hk : kH o = .int .u64 id := by unfold kH; rw [h2]
  rw [hk] at q1 q3
  exact ⟨v, q2, q3, h1, h2⟩
theorem held_not {id : Int} (hd : MapOf kH (HVal c w) D H) (h : findH H id = none) : Maps.has D (.int .u64 id) = false ∧ ∀ y ∈ H, kH y ≠ .int .u64 id := by
  have h1 : ∀ y ∈ H, kH y ≠ .int .u64 id := by
    intro y hy he
    have := List.find?_eq_none.1 h y hy
    unfold kH at he
    simp only [Lit.int.injEq, true_and] at he
    exact this (by simpa using he)
  exact ⟨hd.none _ h1, h1⟩
theorem no_intsC (w : World) (D : Nat → Prop) : Ints w D .u32 4 none 0 0 [] := ⟨rfl, Nat.le_refl _, by omega, by omega, (fun _ => rfl), (fun x hx => by simp at hx), fun h => by omega⟩
/-- What a look-up tells. -/
theorem held_look (hd : MapOf kH (HVal c w) D H) (id : Int) : ∃ (pA : Option Addr) (pn pc : Nat) (lA : Option Addr) (ln lc : Nat), D.atKey (.int .u64 id) (.held (.agg #[.slice none 0 0, .slice none 0 0])) = .held (.agg #[.slice pA pn pc, .slice lA ln lc]) ∧ u32sE.At w (Quiet c w) pA pn pc (plH H id) := by
  unfold plH
  cases hfe : findH H id with
  | some o =>
    obtain ⟨v, ⟨pA, pn, pc, lA, ln, lc, rfl, _, h2, _⟩, h3, _, _⟩ := held_there hd hfe
    exact ⟨pA, pn, pc, lA, ln, lc, h3 _, h2⟩
  | none =>
    obtain ⟨h1, _⟩ := held_not hd hfe
    exact ⟨none, 0, 0, none, 0, 0, atKey_of_not_has h1 _, Elt.At.nil _ _⟩
theorem held_put {x : HeldE} {v : Value} (hd : MapOf kH (HVal c w) D H) (ht : Tidy D) (hv : HVal c w x v) : MapOf kH (HVal c w) (D.put (.int .u64 x.key) (.held v)) (putH H x) := by
  unfold putH
  cases hf : findH H x.key with
  | some o =>
    obtain ⟨_, _, _, hmem, e1⟩ := held_there hd hf
    rw [if_pos (show (some o).isSome = true from rfl)]
    exact hd.set ht (x := x) (f := fun y => if y.key == x.key then x else y) trivial ⟨o, hmem, by unfold kH; rw [e1]⟩
      (fun y hy he => if_pos (by unfold kH at he; simpa using he)) (fun y hy he => if_neg fun h => he (by unfold kH; simpa using h)) hv
  | none =>
    rw [if_neg (by simp)]
    exact hd.add ht (x := x) trivial (held_not hd hf).2 hv
end
theorem plH_put (H : List HeldE) (x : HeldE) : plH (putH H x) x.key = x.places := by
  unfold plH putH
  cases hf : findH H x.key with
  | some o =>
    rw [if_pos (show (some o).isSome = true from rfl)]
    have : findH (H.map (fun y => if y.key == x.key then x else y)) x.key = some x := by
      unfold findH at hf ⊢
      induction H with
      | nil => simp at hf
      | cons a t ih =>
        rw [List.map_cons, List.find?_cons]
        by_cases ha : a.key = x.key
        · simp [ha]
        · have h1 : (a.key == x.key) = false := by simpa using ha
          rw [List.find?_cons, h1] at hf
          simp only [h1, Bool.false_eq_true, if_false] at hf ⊢
          exact ih hf
    rw [this]
  | none =>
    rw [if_neg (by simp)]
    have : findH (H ++ [x]) x.key = some x := by
      unfold findH at hf ⊢
      rw [List.find?_append, hf]
      simp
    rw [this]
/-- The cells of clients: no operations. -/
abbrev cli0 (attrs : Int) (hm : Nat) : Array Value := #[.int .i64 attrs, .slice none 0 0, .slice none 0 0, .slice none 0 0, .slice none 0 0, .slice none 0 0, .slice none 0 0, .slice none 0 0, .slice none 0 0, .slice none 0 0, .slice none 0 0, .slice none 0 0, .slice none 0 0, .slice none 0 0, .slice none 0 0, .slice none 0 0, .slice none 0 0, .map (some hm)]
theorem cli_new {W w : World} {ts : List Thing} (π ρ : List Int) (attrs : Int) (ha1 : 1 ≤ attrs) (ha2 : attrs ≤ 8) (h : Sta W ts w) (hπ : π ≠ []) (hρ : ρ ≠ []) (hπρ : π ≠ ρ) (ho : ∀ x ∈ ts, x.π ≠ π ∧ x.π ≠ ρ) :
    Calls Try.prog 34 #[.int .i64 attrs] w fun e w' => ∃ b hm, e = .returned (.tuple #[.pointer (some ⟨b, 0, none⟩), .int .i64 0]) ∧ Sta W (ts ++ [tHeld ρ hm [], tBlk π b (cli0 attrs hm)]) w' := by
  have hmm := @run_makeMap Try.prog
  have HS := Lib.hid h; have HO := Lib.hid ho
  have h1 : ¬ attrs < 1 := by omega
  have h2 : ¬ (8 : Int) < attrs := by omega
  clear h ho
  go_enter Try.func34, Try.ntmps34
  go_wp2
  refine bodyPost_ret (v := .tuple #[.pointer (some ⟨w.heap.size + 1, 0, none⟩), .int .i64 0]) (by simp [results, Try.results34, go_sem]) rfl ?_
  refine ⟨w.heap.size + 1, rfl, w.heap.size, ?_⟩
  obtain ⟨c, hs⟩ := HS.out
  have hB1 : Below w.heap.size w (w.alloc (.map #[] 0)) := below_a1 w _
  have st1 : Stp (· = ρ) c w (fun k => if k = w.heap.size then ρ else c k) (w.alloc (.map #[] 0)) := by
    refine ⟨(Only.refl _ _).alloc _, fun k hk => if_neg (by omega), fun k hk => ?_⟩
    rw [size_alloc] at hk
    show (if _ then _ else _) = _
    rw [if_neg (by omega)]
    exact hs.fresh k (by omega)
  have s1 : Sta W (ts ++ [tHeld ρ w.heap.size []]) (w.alloc (.map #[] 0)) := ⟨_, hs.add (t := tHeld ρ w.heap.size []) hρ (fun x hx => (HO.out x hx).2) st1 ⟨.map [], if_pos rfl, World.ownsMap_made _ _ _ _, MapOf.empty⟩⟩
  have s2 := s1.addBlk π hπ (fun x hx => by
    rcases List.mem_append.1 hx with hx | hx
    · exact (HO.out x hx).1
    · simp only [List.mem_singleton] at hx; subst hx; exact fun e => hπρ e.symm) (cli0 attrs w.heap.size) 123
  rw [size_alloc, List.append_assoc] at s2
  exact s2
end Go.Proofs.Ytdpamikobmefeaa
