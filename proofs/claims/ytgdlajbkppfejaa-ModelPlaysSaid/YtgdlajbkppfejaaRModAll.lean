/- Blocks and rows of numbers among the things of a walk. Conditions: none. | The document's model: drop, Get, Find. Conditions: it is one. | The document's model: Get, Find. Conditions: it is one. | The document's model: note. Conditions: it is one. | The document's model: Put, Delete. Conditions: it is one. | The document's model: Delete. Conditions: it is one. -/
import Derived.Test.YtgdlajbkppfejaaGathSta
import Derived.Test.YtgdlajbkppfejaaStaMore
import Derived.Test.YtgdlajbkppfejaaRPut18
import Derived.Test.YtgdlajbkppfejaaModelMore
import Derived.Test.YtgdlajbkppfejaaRegs
namespace Go.Proofs.Ytgdlajbkppfejaa
open Go.RowKit Go.ChangeShapes
set_option maxRecDepth 100000
set_option linter.unusedVariables false
set_option linter.unusedSimpArgs false

/-- A block of one's own. -/
def tBlk (π : List Int) (b : Nat) (C : Array Value) : Thing := ⟨π, fun c w => Box w b C ∧ c b = π, fun {c c' w w'} h hk => ⟨h.1.only hk.only (fun hn => hn.2 h.2), (hk.col b h.1.lt (.inr h.2)).trans h.2⟩⟩
section
variable {W w w' : World} {ts ts' : List Thing} {π : List Int} {c c' : Col} {i b : Nat} {C : Array Value}
theorem Sta.blk (h : Sta W ts w) (hi : ts[i]? = some (tBlk π b C)) : Box w b C := by
  obtain ⟨c, h⟩ := h
  exact (h.get hi).1
theorem Sta.addBlk (h : Sta W ts w) (π : List Int) (hπ : π ≠ []) (ho : ∀ x ∈ ts, x.π ≠ π) (C : Array Value) (T : TypeId) : Sta W (ts ++ [tBlk π w.heap.size C]) (w.alloc (.cells C T)) := by
  obtain ⟨c, h⟩ := h
  have st : Stp (· = π) c w (fun k => if k = w.heap.size then π else c k) (w.alloc (.cells C T)) := by
    refine ⟨(Only.refl _ _).alloc _, fun k hk => if_neg (by omega), fun k hk => ?_⟩
    rw [size_alloc] at hk
    rw [if_neg (by omega)]
    exact h.fresh k (by omega)
  exact ⟨_, h.add (t := tBlk π w.heap.size C) hπ ho st ⟨Box.new _ _ _, if_pos rfl⟩⟩
theorem Sta.store (j : Nat) (v : Value) (h : Sta W ts w) (hi : ts[i]? = some (tBlk π b C)) (hπ : π ≠ []) (hts : ts.set i (tBlk π b (C.setIfInBounds j v)) = ts') : Sta W ts' (w.setCell ⟨b, j, none⟩ v) := by
  obtain ⟨c, h⟩ := h
  obtain ⟨h1, h2⟩ := h.get hi
  have st : Stp (· = π) c w c (w.setCell ⟨b, j, none⟩ v) := ⟨(Only.refl _ _).setCell (p := ⟨b, j, none⟩) (.inl h2) _, fun _ _ => rfl, fun k hk => h.fresh k (by rw [size_setCell] at hk; exact hk)⟩
  exact Sta.turn h hi hπ (t' := tBlk π b (C.setIfInBounds j v)) rfl st ⟨h1.set v, h2⟩ hts
end
theorem u64_infoE : ∃ i : TypeInfo, Try.prog.info? 24 = some i ∧ i.zero = some (.int .u64 0) ∧ i.size = 1 ∧ i.bytes = 8 := by
  obtain ⟨j0, jii, jz0, jz1, jz2⟩ := info_parts (show (Try.prog.info? 24).map (fun i => (i.zero, i.size, i.bytes)) = some (some (.int .u64 0), 1, 8) by kernel_rfl)
  exact ⟨j0, jii, jz0, jz1, jz2⟩
def u64E : Elt Try.prog Int where
  T := 24
  ST := 57
  k := 1
  bytes := 8
  zero := .int .u64 0
  rd := fun w D cs b => cs = [.int .u64 b]
  pos := by omega
  len := fun h => by rw [h]; rfl
  one := fun h u hu => by subst h; simp only [List.mem_cons, List.not_mem_nil, or_false] at hu; rw [hu]; rfl
  move := fun h _ => h
  und := Try.underlying57
  info := u64_infoE
  zlen := rfl
  blim := by omega
theorem u64_at {w : World} {D : Nat → Prop} {A : Option Addr} {n cap i : Nat} {l : List Int} (h : u64E.At w D A n cap l) (hi : i < n) : ∃ (b off : Nat) (x : Int), A = some ⟨b, off, none⟩ ∧ D b ∧ l[i]? = some x ∧ w.cell? ⟨b, off + i, none⟩ = some (.int .u64 x) := by
  obtain ⟨h1, h2, h3, h4, h5⟩ := h
  obtain ⟨b, off, rfl, hd, hc⟩ := h5 (by omega)
  obtain ⟨x, hx⟩ : ∃ x, l[i]? = some x := ⟨_, List.getElem?_eq_getElem (by omega)⟩
  obtain ⟨cs, q0, rfl⟩ := hc i x hx
  have := q0 0 _ rfl
  rw [show off + i * u64E.k + 0 = off + i by show off + i * 1 + 0 = _; omega] at this
  exact ⟨b, off, x, rfl, hd, hx, this⟩
section
variable {W w w' : World} {ts ts' : List Thing} {π : List Int} {c c' : Col} {i g n cap : Nat} {l : List Int}
/-- A number of a row is set. -/
theorem Sta.setU (j : Nat) (x : Int) (h : Sta W ts w) (hi : ts[i]? = some (tRow u64E π (.slice (some ⟨g, 0, none⟩) n cap) l)) (hπ : π ≠ []) (hj : j < l.length) (hts : ts.set i (tRow u64E π (.slice (some ⟨g, 0, none⟩) n cap) (l.set j x)) = ts') : Sta W ts' (w.setCell ⟨g, j, none⟩ (.int .u64 x)) := by
  obtain ⟨c, h⟩ := h
  have hr : u64E.Row c π w (.slice (some ⟨g, 0, none⟩) n cap) l := h.get hi
  obtain ⟨cur, b1, b2, b3, b4⟩ := hr.cur
  have hk : u64E.k = 1 := rfl
  have b3' : l.length ≤ cur.size := by simpa [hk] using b3
  have he : ∀ (q : Nat) y, (l.set j x)[q]? = some y → ∃ cs, (∀ (t : Nat) u, cs[t]? = some u → (cur.setIfInBounds j (.int .u64 x))[q * u64E.k + t]? = some u) ∧ u64E.rd w (Quiet c w) cs y := fun q y hq => by
    rw [List.getElem?_set] at hq
    refine ⟨[.int .u64 y], fun t u hu => ?_, rfl⟩
    have ht : t = 0 := by
      rcases t with _ | t
      · rfl
      · simp at hu
    subst ht
    simp only [List.getElem?_cons_zero, Option.some.injEq] at hu
    subst hu
    rw [hk, Nat.mul_one, Nat.add_zero, Array.getElem?_setIfInBounds]
    by_cases hjq : j = q
    · subst hjq
      rw [if_pos rfl, if_pos (by omega)]
      rw [if_pos rfl, if_pos hj] at hq
      injection hq with hq
      rw [hq]
    · rw [if_neg hjq] at hq ⊢
      obtain ⟨cs, c1, rfl⟩ := hr.cells hq
      have := c1 0 _ rfl
      rw [hk, Nat.mul_one, Nat.add_zero] at this
      have bc := (show Box w g cur from ⟨_, b1⟩).cell q
      rw [← bc]; exact this
  obtain ⟨st, hr'⟩ := hr.edit (L' := l.set j x) (cur' := cur.setIfInBounds j (.int .u64 x)) (w' := w.setCell ⟨g, j, none⟩ (.int .u64 x)) h.fresh hπ (by simp) b1 (b1.set _) (by simp) ((Only.refl (· = g) w).setCell (p := ⟨g, j, none⟩) (.inl rfl) _) he
  exact Sta.turn h hi hπ (t' := tRow u64E π (.slice (some ⟨g, 0, none⟩) n cap) (l.set j x)) rfl st hr' hts
/-- The block of a row. -/
theorem Sta.rowAt {α : Type} {E : Elt Try.prog α} {v : Value} {l : List α} (h : Sta W ts w) (hi : ts[i]? = some (tRow E π v l)) : ∃ A cap, v = .slice A l.length cap ∧ l.length ≤ cap ∧ cap ≤ 9223372036854775807 ∧ (A = none → l.length = 0 ∧ cap = 0) ∧ (∀ ad, A = some ad → ∃ g, ad = ⟨g, 0, none⟩ ∧ g < w.heap.size) ∧ E.At w (· < w.heap.size) A l.length cap l := by
  obtain ⟨c, hr⟩ := h.row hi
  obtain ⟨A, cap, rfl, q1, q2, q3, q4⟩ := hr.shape
  exact ⟨A, cap, rfl, q1, q2, q3, fun ad had => (by obtain ⟨g, e, _, hlt⟩ := q4 ad had; exact ⟨g, e, hlt⟩), hr.any⟩
end
/-- The document's records, less one; what is had of an id; where an id lies. -/
def dropR (L : List Rec) (id : Int) : List Rec := L.filter fun r => r.id != id
def getR (L : List Rec) (id : Int) : Option Rec := L.find? fun r => r.id == id
def ixI (I : List Int) (id : Int) : Int := match I.findIdx? (fun x => x == id) with | some i => i | none => -1
def lastI (I V : List Int) (id : Int) : Int := match I.findIdx? (fun x => x == id) with | some i => V.getD i 0 | none => 0
theorem ixI_at {I V : List Int} {id x : Int} {i : Nat} (hx : I[i]? = some id) (hv : V[i]? = some x) (hn : ∀ (j : Nat) y, j < i → I[j]? = some y → y ≠ id) : ixI I id = i ∧ lastI I V id = x := by
  have h1 : I.findIdx? (fun x => x == id) = some i := by
    rw [List.findIdx?_eq_some_iff_getElem]
    obtain ⟨hi, hxe⟩ := List.getElem?_eq_some_iff.1 hx
    refine ⟨hi, by rw [hxe]; simp, fun j hj => ?_⟩
    have := hn j _ hj (List.getElem?_eq_getElem (by omega))
    simpa using this
  refine ⟨by unfold ixI; rw [h1], by unfold lastI; rw [h1]; simp [hv]⟩
theorem ixI_none {I V : List Int} {id : Int} (hn : ∀ (j : Nat) y, I[j]? = some y → y ≠ id) : ixI I id = -1 ∧ lastI I V id = 0 := by
  have h1 : I.findIdx? (fun x => x == id) = none := by
    rw [List.findIdx?_eq_none_iff]
    intro x hx
    obtain ⟨j, hj⟩ := List.mem_iff_getElem?.1 hx
    simpa using hn j x hj
  exact ⟨by unfold ixI; rw [h1], by unfold lastI; rw [h1]⟩
theorem ixI_cases (I : List Int) (id : Int) : (∃ i : Nat, ixI I id = i ∧ I[i]? = some id) ∨ ixI I id = -1 := by
  unfold ixI
  cases h : I.findIdx? (fun x => x == id) with
  | none => exact .inr rfl
  | some i =>
    rw [List.findIdx?_eq_some_iff_getElem] at h
    obtain ⟨hi, h1, _⟩ := h
    exact .inl ⟨i, rfl, by rw [List.getElem?_eq_getElem hi]; simpa using h1⟩
/-- The document's model in the midst of a walk: its block, its rows, its records; and one thing more. -/
def tsM (M : Thing) (rb : Nat) (attrs : Int) (LA : Option Addr) (ln lc : Nat) (vI vV : Value) (I V : List Int) (L : List Rec) : List Thing :=
  [M, tBlk [2] rb #[.int .i64 attrs, .slice LA ln lc, vI, vV], tRow u64E [3] vI I, tRow u64E [4] vV V, tAt recE LA ln lc L]
def RM (W : World) (M : Thing) (rb : Nat) (attrs : Int) (I V : List Int) (L : List Rec) (w : World) : Prop :=
  I.length = V.length ∧ ∃ (LA : Option Addr) (ln lc : Nat) (vI vV : Value), Sta W (tsM M rb attrs LA ln lc vI vV I V L) w
theorem RM.later {W w w' : World} {M : Thing} {rb : Nat} {attrs : Int} {I V : List Int} {L : List Rec} (h : RM W M rb attrs I V L w) (hb : Below w.heap.size w w') : RM W M rb attrs I V L w' := by
  obtain ⟨h0, LA, ln, lc, vI, vV, hs⟩ := h
  exact ⟨h0, LA, ln, lc, vI, vV, hs.later hb⟩
set_option maxHeartbeats 2000000 in
theorem rm_last {W w : World} {M : Thing} {rb : Nat} {attrs : Int} {I V : List Int} {L : List Rec} (id : Int) (h : RM W M rb attrs I V L w) :
    Calls Try.prog 53 #[.pointer (some ⟨rb, 0, none⟩), .int .u64 id] w fun e w' => e = .returned (.tuple #[.int .u64 (lastI I V id), .int .i64 (ixI I id)]) ∧ w = w' := by
  obtain ⟨h0, LA, ln, lc, vI, vV, hs⟩ := h
  have hbx := hs.blk (i := 1) rfl
  have cb := hbx.cell; have fb := hbx.free; have zb := hbx.lt
  obtain ⟨IA, ic, rfl, i1, i2, i3, i4, iat⟩ := hs.rowAt (i := 2) (l := I) rfl
  obtain ⟨VA, vc, rfl, v1, v2, v3, v4, vat⟩ := hs.rowAt (i := 3) (l := V) rfl
  have HI := Lib.hid iat; have HV := Lib.hid vat; have H0 := Lib.hid h0
  clear hs hbx iat vat i3 i4 v3 v4
  go_enter Try.func53, Try.ntmps53
  go_wp2
  go_loopw [6] (fun s wr => ∃ k : Nat, k ≤ I.length ∧ s = .int .i64 k ∧ wr = w ∧ ∀ (j : Nat) y, j < k → I[j]? = some y → y ≠ id) (fun s _ => I.length - (intOf s).toNat)
  case atStart => exact ⟨0, Nat.zero_le _, rfl, rfl, fun j y hj => by omega⟩
  case round =>
    obtain ⟨k, hk, rfl, rfl, hall⟩ := hrel
    have HA := Lib.hid hall
    clear hall
    by_cases hlt : k < I.length
    · obtain ⟨bI, oI, x, rfl, dI, hxI, cI⟩ := u64_at HI.out hlt
      obtain ⟨bV, oV, y, rfl, dV, hyV, cV⟩ := u64_at HV.out (show k < V.length by rw [← H0.out]; exact hlt)
      have hltV : k < V.length := by rw [← H0.out]; exact hlt
      have HX := Lib.hid hxI; have HY := Lib.hid hyV
      clear hxI hyV
      by_cases he : x = id
      · subst he
        have HE := Lib.hid (ixI_at HX.out HY.out HA.out)
        go_wp2
        refine bodyPost_ret (v := .tuple #[.int .u64 y, .int .i64 k]) (by simp [results, Try.results53, go_sem]) rfl ?_
        rw [HE.out.1, HE.out.2]
        exact ⟨rfl, rfl⟩
      · have he' : (x == id) = false := by simpa using he
        have HN : Hid (∀ (j : Nat) y, j < k + 1 → I[j]? = some y → y ≠ id) := fun j y hj hy => by
          by_cases hjk : j = k
          · subst hjk; rw [HX.out] at hy; injection hy with hy; subst hy; exact he
          · exact HA.out j y (by omega) hy
        clear he
        go_wp2
        go_roundw
        case rel => exact ⟨k + 1, by omega, by go_num, by first | rfl | trivial, HN.out⟩
        case measure => simp [intOf]; omega
    · have HE := Lib.hid (ixI_none (V := V) (id := id) (I := I) fun j y hy => HA.out j y (by have := (List.getElem?_eq_some_iff.1 hy).1; omega) hy)
      go_wp2
      refine bodyPost_ret (v := .tuple #[.int .u64 0, .int .i64 (-1)]) (by simp [results, Try.results53, go_sem]) rfl ?_
      rw [HE.out.1, HE.out.2]
      exact ⟨rfl, by first | rfl | trivial⟩
end Go.Proofs.Ytgdlajbkppfejaa

namespace Go.Proofs.Ytgdlajbkppfejaa
open Go.RowKit Go.ChangeShapes
set_option maxRecDepth 100000
set_option linter.unusedVariables false
set_option linter.unusedSimpArgs false

theorem rec_data {W w : World} {ts : List Thing} {c : Col} {i bb off ln lc k m cp : Nat} {L : List Rec} {r : Rec} {s : Option Addr} (h : S0 W ts c w) (hi : ts[i]? = some (tAt recE (some ⟨bb, off, none⟩) ln lc L)) (hr : L[k]? = some r) (d2 : w.cell? ⟨bb, off + k * 3 + 2, none⟩ = some (.slice s m cp)) :
    recRd w (Quiet c w) [.int .u64 r.id, .int .u64 r.ver, .slice s m cp] r ∧ Ints w (Quiet c w) .u32 4 s m cp r.vals := by
  have q := recsAt (h.data hi)
  have hk := (List.getElem?_eq_some_iff.1 hr).1
  obtain ⟨b, off', e, hb, hc⟩ := q.2.2.2.2 (by have := q.1; omega)
  injection e with e
  injection e with e1 e2
  subst e1 e2
  obtain ⟨hok, s', m', c', p0, p1, p2, hint⟩ := hc k r hr
  have e3 := d2.symm.trans p2
  injection e3 with e3
  injection e3 with a1 a2 a3
  subst a1 a2 a3
  exact ⟨⟨s, m, cp, rfl, hok, hint⟩, hint⟩
theorem dropR_step {L : List Rec} {k : Nat} {r : Rec} {id : Int} (hr : L[k]? = some r) : dropR (L.take (k + 1)) id = if r.id = id then dropR (L.take k) id else dropR (L.take k) id ++ [r] := by
  rw [take_snocR hr]
  unfold dropR
  rw [List.filter_append]
  by_cases h : r.id = id
  · rw [if_pos h]; simp [h]
  · rw [if_neg h]; simp [h]
set_option maxHeartbeats 4000000 in
theorem rm_drop {W w : World} {M : Thing} {rb : Nat} {attrs : Int} {I V : List Int} {L : List Rec} (id : Int) (hM : M.π = [1]) (hL : L.length ≤ 10000) (h : RM W M rb attrs I V L w) :
    Calls Try.prog 51 #[.pointer (some ⟨rb, 0, none⟩), .int .u64 id] w fun e w' => e = .returned (.tuple #[]) ∧ RM W M rb attrs I V (dropR L id) w' := by
  obtain ⟨h0, LA, ln, lc, vI, vV, hs⟩ := h
  have H0 := Lib.hid h0
  have hln : L.length = ln := (hs.at (i := 4) (E := recE) rfl).1
  have S0 := Lib.hid (hs.rowNil recE [5] (by simp) (by simp [tsM, tBlk, tRow, tAt, hM]))
  clear hs h0 hM
  go_enter Try.func51, Try.ntmps51
  go_wp2
  go_loopw [4, 5] (fun s4 s5 wr => ∃ k : Nat, k ≤ L.length ∧ s5 = .int .i64 k ∧ Sta W (tsM M rb attrs LA ln lc vI vV I V L ++ [tRow recE [5] s4 (dropR (L.take k) id)]) wr) (fun _ s _ => L.length - (intOf s).toNat)
  case atStart => exact ⟨0, Nat.zero_le _, rfl, S0.out⟩
  case round =>
    obtain ⟨k, hk, rfl, hs⟩ := hrel
    have HS := Lib.hid hs
    have hbx := hs.blk (i := 1) rfl
    have cb := hbx.cell; have fb := hbx.free; have zb := hbx.lt
    obtain ⟨OA, oc, rfl, o1, o2, o3⟩ := hs.shape (i := 5) (E := recE) rfl
    have hdl : (dropR (L.take k) id).length ≤ k := Nat.le_trans (List.length_filter_le _ _) (by simp; omega)
    have hat := hs.at (i := 4) (E := recE) rfl
    clear hs hbx S0
    by_cases hlt : k < L.length
    · obtain ⟨bb, off, rfl, zbb, hc⟩ := (recsAt hat).2.2.2.2 (by omega)
      obtain ⟨r, hr⟩ : ∃ r, L[k]? = some r := ⟨_, List.getElem?_eq_getElem hlt⟩
      obtain ⟨hok, s, m, cp, d0, d1, d2, hint⟩ := hc k r hr
      have HR := Lib.hid hr; have HD2 := Lib.hid d2; have HT := Lib.hid (dropR_step (id := id) hr)
      clear hc hok hint hr hat
      by_cases he : r.id = id
      · have he' : (r.id != id) = false := by simpa using he
        rw [if_pos he] at HT
        clear he
        go_wp2
        go_roundw
        case rel => exact ⟨k + 1, by omega, by go_num, by rw [HT.out]; exact HS.out⟩
        case measure => simp [intOf]; omega
      · have he' : (r.id != id) = true := by simpa using he
        rw [if_neg he] at HT
        clear he
        go_wp2_with (at_builtin; go_loud (refine Sta.wpList_push (E := recE) 5 rfl _ _ rfl _ rfl HS.out rfl (by simp) rfl (fun c h => (rec_data h (i := 4) rfl HR.out HD2.out).1) (by omega) ?_; intro B2 cap2 w2 st2))
        go_roundw
        case rel => exact ⟨k + 1, by omega, by go_num, by rw [HT.out]; exact st2⟩
        case measure => simp [intOf]; omega
    · have HE : Hid (L.take k = L) := List.take_of_length_le (by omega)
      rw [HE.out] at HS ⊢
      clear HE
      have S2 := Lib.hid (((HS.out.freeze (i := 5) (π := [5]) (E := recE) rfl (by simp) rfl).store (i := 1) 1 (.slice OA (dropR L id).length oc) rfl (by simp) rfl).pick (ts' := tsM M rb attrs OA (dropR L id).length oc vI vV I V (dropR L id)) (by simp [tsM]))
      clear hat
      go_wp2
      go_end0
      exact ⟨rfl, H0.out, _, _, _, _, _, S2.out⟩
end Go.Proofs.Ytgdlajbkppfejaa

namespace Go.Proofs.Ytgdlajbkppfejaa
open Go.RowKit Go.ChangeShapes
set_option maxRecDepth 100000
set_option linter.unusedVariables false
set_option linter.unusedSimpArgs false

theorem no_intsR (w : World) (D : Nat → Prop) : Ints w D .u32 4 none 0 0 [] := ⟨rfl, Nat.le_refl _, by omega, by omega, (fun _ => rfl), (fun x hx => by simp at hx), fun h => by omega⟩
/-- Numbers that are data. -/
def tInts (A : Option Addr) (n cap : Nat) (xs : List Int) : Thing := ⟨[], fun c w => Ints w (Quiet c w) .u32 4 A n cap xs, fun h hk => h.move hk.quiet⟩
theorem Sta.addInts {W w w' : World} {ts : List Thing} {A : Option Addr} {n cap : Nat} {xs : List Int} (h : Sta W ts w) (hb : Below w.heap.size w w') (hl : Ints w' (w.heap.size ≤ ·) .u32 4 A n cap xs) : Sta W (ts ++ [tInts A n cap xs]) w' := by
  obtain ⟨c, h⟩ := h
  exact ⟨c, (h.later hb).addData rfl (hl.move fun b hb' hlt => ⟨rfl, h.fresh b hb', hlt⟩)⟩
def gotR (L : List Rec) (id : Int) : Rec := (getR L id).getD ⟨0, 0, []⟩
theorem getR_at {L : List Rec} {id : Int} {k : Nat} {r : Rec} (hr : L[k]? = some r) (he : r.id = id) (hn : ∀ (j : Nat) y, j < k → L[j]? = some y → y.id ≠ id) : getR L id = some r := by
  unfold getR
  rw [List.find?_eq_some_iff_getElem]
  obtain ⟨hi, hxe⟩ := List.getElem?_eq_some_iff.1 hr
  refine ⟨by simpa using he, k, hi, hxe, fun j hj => ?_⟩
  have := hn j _ hj (List.getElem?_eq_getElem (by omega))
  simpa using this
theorem getR_none {L : List Rec} {id : Int} (hn : ∀ (j : Nat) y, L[j]? = some y → y.id ≠ id) : getR L id = none := by
  unfold getR
  rw [List.find?_eq_none]
  intro x hx
  obtain ⟨j, hj⟩ := List.mem_iff_getElem?.1 hx
  simpa using hn j x hj
theorem three_only (w : World) (a : Nat) (u0 u1 u2 : Value) : Only (· = a) w (((w.setCell ⟨a, 0, none⟩ u0).setCell ⟨a, 1, none⟩ u1).setCell ⟨a, 2, none⟩ u2) := (((Only.refl (· = a) w).setCell (p := ⟨a, 0, none⟩) (.inl rfl) _).setCell (p := ⟨a, 1, none⟩) (.inl rfl) _).setCell (p := ⟨a, 2, none⟩) (.inl rfl) _
theorem three_below {w w2 : World} {B a : Nat} (h : Below B w w2) (hB : B ≤ a) (u0 u1 u2 : Value) : Below B w (((w2.setCell ⟨a, 0, none⟩ u0).setCell ⟨a, 1, none⟩ u1).setCell ⟨a, 2, none⟩ u2) := ((h.setCell (p := ⟨a, 0, none⟩) hB _).setCell (p := ⟨a, 1, none⟩) hB _).setCell (p := ⟨a, 2, none⟩) hB _
set_option maxHeartbeats 4000000 in
theorem rm_get {W w : World} {M : Thing} {rb : Nat} {attrs : Int} {I V : List Int} {L : List Rec} (id : Int) (h : RM W M rb attrs I V L w) :
    Calls Try.prog 30 #[.pointer (some ⟨rb, 0, none⟩), .int .u64 id] w fun e w' => ∃ s n k, e = .returned (.tuple #[.agg #[.int .u64 (gotR L id).id, .int .u64 (gotR L id).ver, .slice s n k], .bool (getR L id).isSome]) ∧ Ints w' (w.heap.size ≤ ·) .u32 4 s n k (gotR L id).vals ∧ Below w.heap.size w w' := by
  obtain ⟨h0, LA, ln, lc, vI, vV, hs⟩ := h
  have hln : L.length = ln := (hs.at (i := 4) (E := recE) rfl).1
  have HS0 := Lib.hid (hs.later (below_a1 w (.cells #[.int .u64 0, .int .u64 0, .slice none 0 0] 37)))
  clear hs h0
  go_enter Try.func30, Try.ntmps30
  go_wp2
  go_loopw [6] (fun s6 wr => ∃ k : Nat, k ≤ L.length ∧ s6 = .int .i64 k ∧ Sta W (tsM M rb attrs LA ln lc vI vV I V L) wr ∧ Below w.heap.size w wr ∧ Box wr w.heap.size #[.int .u64 0, .int .u64 0, .slice none 0 0] ∧ ∀ (j : Nat) y, j < k → L[j]? = some y → y.id ≠ id) (fun s _ => L.length - (intOf s).toNat)
  case atStart => exact ⟨0, Nat.zero_le _, rfl, HS0.out, below_a1 _ _, Box.new _ _ _, fun j y hj => by omega⟩
  case round =>
    obtain ⟨k, hk, rfl, hs, hb, hbx, hall⟩ := hrel
    have HS := Lib.hid hs; have HA := Lib.hid hall; have HB := Lib.hid hb; have HX := Lib.hid hbx
    have hbl := hs.blk (i := 1) rfl
    have cb := hbl.cell; have fb := hbl.free; have zb := hbl.lt
    have c4 := hbx.cell; have f4 := hbx.free; have z4 := hbx.lt
    have hat := hs.at (i := 4) (E := recE) rfl
    have hb1 := hat.2.1; have hb2 := hat.2.2.1
    clear hs hbl HS0 hall hb hbx
    have HZ : Hid (w.heap.size < wr.heap.size) := z4
    by_cases hlt : k < L.length
    · obtain ⟨bb, off, rfl, zbb, hc⟩ := (recsAt hat).2.2.2.2 (by omega)
      obtain ⟨r, hr⟩ : ∃ r, L[k]? = some r := ⟨_, List.getElem?_eq_getElem hlt⟩
      obtain ⟨hok, s, m, cp, d0, d1, d2, hint⟩ := hc k r hr
      have HR := Lib.hid hr; have HI := Lib.hid hint
      clear hc hok hint hr hat
      by_cases he : r.id = id
      · have HG := Lib.hid (getR_at HR.out he HA.out)
        subst he
        go_wp2_with (go_at_call 42; go_loud (refine (hcopy_any_R r.id r.ver _ HI.out (fun b hb => hb)).mono ?_; rintro e2 w2 ⟨v2, rfl, ⟨A2, n2, k2, rfl, hi2⟩, hb2⟩; have HI2 := Lib.hid hi2; have HB2 := Lib.hid hb2; have X2 := HX.out.below hb2 z4; have c42 := X2.cell; have f42 := X2.free; have z42 := X2.lt; clear hi2 hb2 X2))
        refine bodyPost_ret (v := .tuple #[.agg #[.int .u64 r.id, .int .u64 r.ver, .slice A2 n2 k2], .bool true]) (by simp [results, Try.results30, go_sem, c42, f42]) rfl ?_
        unfold gotR
        rw [HG.out]
        have hsz := HZ.out
        exact ⟨A2, n2, k2, rfl, HI2.out.move fun b hb hl => ⟨(three_only w2 w.heap.size _ _ _).block b hl (by show ¬ b = _; have hb : _ ≤ b := hb; omega), by have hb : _ ≤ b := hb; omega⟩, three_below (below_from HB.out HB2.out HB.out.size) (Nat.le_refl _) _ _ _⟩
      · have he' : (r.id == id) = false := by simpa using he
        have HN : Hid (∀ (j : Nat) y, j < k + 1 → L[j]? = some y → y.id ≠ id) := fun j y hj hy => by
          by_cases hjk : j = k
          · subst hjk; rw [HR.out] at hy; injection hy with hy; subst hy; exact he
          · exact HA.out j y (by omega) hy
        clear he
        go_wp2
        go_roundw
        case rel => exact ⟨k + 1, by omega, by go_num, HS.out, HB.out, HX.out, HN.out⟩
        case measure => simp [intOf]; omega
    · have HG := Lib.hid (getR_none (L := L) (id := id) fun j y hy => HA.out j y (by have := (List.getElem?_eq_some_iff.1 hy).1; omega) hy)
      clear hat
      go_wp2
      refine bodyPost_ret (v := .tuple #[.agg #[.int .u64 0, .int .u64 0, .slice none 0 0], .bool false]) (by simp [results, Try.results30, go_sem, c4, f4]) rfl ?_
      unfold gotR
      rw [HG.out]
      refine ⟨none, 0, 0, rfl, no_intsR _ _, ?_⟩
      first
        | exact three_below HB.out (Nat.le_refl _) _ _ _
        | exact HB.out
theorem filt_step {L : List Rec} {k : Nat} {r : Rec} {bl : List Rng} (hr : L[k]? = some r) : (L.take (k + 1)).filter (fun r => matchF bl r.vals) = if matchF bl r.vals = true then (L.take k).filter (fun r => matchF bl r.vals) ++ [r] else (L.take k).filter (fun r => matchF bl r.vals) := by
  rw [take_snocR hr, List.filter_append]
  by_cases h : matchF bl r.vals = true
  · rw [if_pos h]; simp [h]
  · rw [if_neg h]; simp [h]
set_option maxHeartbeats 4000000 in
theorem rm_find {W w : World} {M : Thing} {rb : Nat} {attrs : Int} {I V : List Int} {L : List Rec} {BA : Option Addr} {bn bc : Nat} {bl : List Rng} (hL : L.length ≤ 10000) (h : RM W M rb attrs I V L w) (hblW : RngsAt W (· < W.heap.size) BA bn bc bl) :
    Calls Try.prog 31 #[.pointer (some ⟨rb, 0, none⟩), .slice BA bn bc] w fun e w' => ∃ (A : Option Addr) (l : List Rec) (cap : Nat), e = .returned (.slice A l.length cap) ∧ l = (if rightB attrs bl = true then L.filter (fun r => matchF bl r.vals) else []) ∧ Below w.heap.size w w' ∧ recE.At w' (· < w'.heap.size) A l.length cap l := by
  obtain ⟨h0, LA, ln, lc, vI, vV, hs⟩ := h
  have hat0 := hs.at (i := 4) (E := recE) rfl
  have hln : L.length = ln := hat0.1
  have hbx := hs.blk (i := 1) rfl
  have hWe := hs.end
  have hbl : RngsAt w (· < w.heap.size) BA bn bc bl := hblW.move fun b hb _ => ⟨hWe.block b hb, Nat.lt_of_lt_of_le hb hWe.size⟩
  have cb := hbx.cell; have fb := hbx.free; have zb := hbx.lt
  have SS := Lib.hid (((Sta.start w).addData (t := tBox rb #[.int .i64 attrs, .slice LA ln lc, vI, vV]) rfl (fun c hc => ⟨hbx, hc.col rb hbx.lt⟩)).addAt hat0)
  have S0 := Lib.hid (SS.out.rowNil recE [5] (by simp) (by simp [tBox, tAt]))
  have HBL := Lib.hid (fun (w' : World) (h : Below w.heap.size w w') => hbl.move (w' := w') (D' := (· < w.heap.size)) fun b hb _ => ⟨h.block b hb, hb⟩)
  have HE0 := Lib.hid (Below.refl w.heap.size w)
  clear hs h0 hbl hblW hbx hat0 hWe
  cases hrb : rightB attrs bl with
  | false =>
    have HRB := Lib.hid hrb
    clear hrb
    go_enter Try.func31, Try.ntmps31
    go_wp2_with (go_at_call 24; go_loud (refine (r05right_any attrs _ (HBL.out _ HE0.out) (fun b hb => Nat.lt_of_lt_of_le hb HE0.out.size)).mono ?_; rintro e1 w1 ⟨rfl, hb1⟩; rw [HRB.out]; have S1 := Lib.hid (SS.out.later hb1); clear hb1))
    go_ret
    exact ⟨none, [], 0, rfl, rfl, S1.out.end, Elt.At.nil _ _⟩
  | true =>
    have HRB := Lib.hid hrb
    clear hrb
    go_enter Try.func31, Try.ntmps31
    go_wp2_with (go_at_call 24; go_loud (refine (r05right_any attrs _ (HBL.out _ HE0.out) (fun b hb => Nat.lt_of_lt_of_le hb HE0.out.size)).mono ?_; rintro e1 w1 ⟨rfl, hb1⟩; rw [HRB.out]; have S1 := Lib.hid (S0.out.later hb1); clear hb1))
    clear cb fb zb
    go_loopw [5, 6] (fun s5 s6 wr => ∃ k : Nat, k ≤ L.length ∧ s6 = .int .i64 k ∧ Sta w [tBox rb #[.int .i64 attrs, .slice LA ln lc, vI, vV], tAt recE LA ln lc L, tRow recE [5] s5 ((L.take k).filter (fun r => matchF bl r.vals))] wr) (fun _ s _ => L.length - (intOf s).toNat)
    case atStart => exact ⟨0, Nat.zero_le _, rfl, S1.out⟩
    case round =>
      obtain ⟨k, hk, rfl, hs⟩ := hrel
      have HS := Lib.hid hs
      have hbx := hs.box (i := 0) rfl
      have cb := hbx.cell; have fb := hbx.free; have zb := hbx.lt
      have hE := hs.end
      obtain ⟨OA, oc, rfl, o1, o2, o3⟩ := hs.shape (i := 2) (E := recE) rfl
      have hdl : ((L.take k).filter (fun r => matchF bl r.vals)).length ≤ k := Nat.le_trans (List.length_filter_le _ _) (by simp; omega)
      have hat := hs.at (i := 1) (E := recE) rfl
      have HE := Lib.hid hE
      clear hs hbx S1 S0 SS HE0 hE
      by_cases hlt : k < L.length
      · obtain ⟨bb, off, rfl, zbb, hc⟩ := (recsAt hat).2.2.2.2 (by omega)
        obtain ⟨r, hr⟩ : ∃ r, L[k]? = some r := ⟨_, List.getElem?_eq_getElem hlt⟩
        obtain ⟨hok, s, m, cp, d0, d1, d2, hint⟩ := hc k r hr
        have HR := Lib.hid hr; have HT := Lib.hid (filt_step (bl := bl) hr); have HI := Lib.hid hint; have HOK := Lib.hid hok
        obtain ⟨mb, hmb⟩ : ∃ mb, matchF bl r.vals = mb := ⟨_, rfl⟩
        rw [hmb] at HT
        have HM := Lib.hid hmb
        obtain ⟨F, hF⟩ : ∃ F, (L.take k).filter (fun r => matchF bl r.vals) = F := ⟨_, rfl⟩
        rw [hF] at HT HS hdl o1 o3 ⊢
        have HD := Lib.hid (fun (w' : World) (h : Below wr.heap.size wr w') => And.intro ((h.cell (p := ⟨bb, off + k * 3, none⟩) zbb).trans d0) (And.intro ((h.cell (p := ⟨bb, off + k * 3 + 1, none⟩) zbb).trans d1) ((h.cell (p := ⟨bb, off + k * 3 + 2, none⟩) zbb).trans d2)))
        clear hc hok hint hr hat hmb hF
        cases mb with
        | false =>
          rw [if_neg (by simp)] at HT
          go_wp2_with (go_at_call 25; go_loud (refine (r05match_any wr (HBL.out wr HE.out) HI.out HOK.out.2.2 (fun b hb => Nat.lt_of_lt_of_le hb HE.out.size) (fun b hb => hb)).mono ?_; rintro e7 w7 ⟨rfl, hb7⟩; rw [HM.out]; have S7 := Lib.hid (HS.out.later hb7); have HB7 := Lib.hid hb7; clear hb7))
          go_roundw
          case rel => exact ⟨k + 1, by omega, by go_num, by rw [HT.out]; exact S7.out⟩
          case measure => simp [intOf]; omega
        | true =>
          rw [if_pos rfl] at HT
          go_upto_region 8 with (go_at_call 25; go_loud (refine (r05match_any wr (HBL.out wr HE.out) HI.out HOK.out.2.2 (fun b hb => Nat.lt_of_lt_of_le hb HE.out.size) (fun b hb => hb)).mono ?_; rintro e7 w7 ⟨rfl, hb7⟩; rw [HM.out]; have S7 := Lib.hid (HS.out.later hb7); have HB7 := Lib.hid hb7; clear hb7))
          obtain ⟨e0, e1, e2⟩ := HD.out w7 HB7.out
          have hbx := S7.out.box (i := 0) rfl
          have cb7 := hbx.cell; have fb7 := hbx.free; have zb7 := hbx.lt
          have zbb7 := Nat.lt_of_lt_of_le zbb HB7.out.size
          clear cb fb zb d0 d1 d2 hbx zbb
          go_wp2_with (first
            | (go_at_call 42; go_loud (refine (hcopy_any_R r.id r.ver _ (HI.out.move (w' := w7) (D' := (· < w7.heap.size)) fun b hb hlt => ⟨HB7.out.block b hlt, Nat.lt_of_lt_of_le hlt HB7.out.size⟩) (fun b hb => hb)).mono ?_; rintro e8 w8 ⟨v8, rfl, ⟨A8, n8, k8, rfl, hi8⟩, hb8⟩; have S8 := Lib.hid (S7.out.addInts hb8 hi8); clear hi8 hb8))
            | (at_builtin; go_loud (refine Sta.wpList_push (E := recE) (r := r) 2 rfl _ _ rfl _ rfl S8.out rfl (by simp) rfl (fun c h => ⟨A8, n8, k8, rfl, HOK.out, h.get (i := 3) rfl⟩) (by omega) ?_; intro B2 cap2 w2 st2)))
          have S9 := Lib.hid (st2.pick (ts' := [tBox rb #[.int .i64 attrs, .slice (some ⟨bb, off, none⟩) ln lc, vI, vV], tAt recE (some ⟨bb, off, none⟩) ln lc L, tRow recE [5] (.slice B2 (F.length + 1) cap2) (F ++ [r])]) (by simp))
          clear st2
          go_roundw
          case rel => exact ⟨k + 1, by omega, by go_num, by rw [HT.out]; exact S9.out⟩
          case measure => simp [intOf]; omega
      · have HEq : Hid (L.take k = L) := List.take_of_length_le (by omega)
        rw [HEq.out] at HS
        have S2 := Lib.hid (HS.out.freeze (i := 2) (π := [5]) (E := recE) rfl (by simp) rfl)
        have ha := Lib.hid (S2.out.at (i := 2) (E := recE) rfl)
        have S3 := Lib.hid S2.out.end
        rw [HEq.out]
        clear hat S2 HS
        go_wp2
        go_ret
        exact ⟨OA, _, oc, rfl, by first | rfl | (rw [HRB.out]; rfl) | simp, S3.out, ha.out⟩
end Go.Proofs.Ytgdlajbkppfejaa

namespace Go.Proofs.Ytgdlajbkppfejaa
open Go.RowKit Go.ChangeShapes
set_option maxRecDepth 100000
set_option linter.unusedVariables false
set_option linter.unusedSimpArgs false

/-- Data in the place of data. -/
theorem S0.setData {W w : World} {ts : List Thing} {t t' : Thing} {c : Col} (i : Nat) (h : S0 W ts c w) (hi : ts[i]? = some t) (hp : t'.π = t.π) (ht : t'.R c w) : S0 W (ts.set i t') c w := by
  refine ⟨h.stp, fun x hx => ?_, ?_⟩
  · rcases List.mem_or_eq_of_mem_set hx with hx | rfl
    · exact h.own x hx
    · exact ht
  · have key : ∀ l : List Thing, l.Pairwise (fun a b => a.π ≠ [] → a.π ≠ b.π) ↔ (l.map Thing.π).Pairwise (fun a b => a ≠ [] → a ≠ b) := fun l => by rw [List.pairwise_map]
    rw [key]
    have e : (ts.set i t').map Thing.π = ts.map Thing.π := by
      rw [List.map_set, hp]
      obtain ⟨i1, i2⟩ := List.getElem?_eq_some_iff.1 hi
      apply List.ext_getElem?
      intro j
      rw [List.getElem?_set]
      by_cases hij : i = j
      · subst hij
        rw [if_pos rfl, if_pos (by simpa using i1), List.getElem?_map, hi]; rfl
      · rw [if_neg hij]
    rw [e, ← key]
    exact h.apart
/-- A block just made in the place of data. -/
theorem Sta.boxIn {W w : World} {ts ts' : List Thing} {t : Thing} (i : Nat) (C : Array Value) (T : TypeId) (h : Sta W ts w) (hi : ts[i]? = some t) (hp : t.π = []) (hts : ts.set i (tBox w.heap.size C) = ts') : Sta W ts' (w.alloc (.cells C T)) := by
  obtain ⟨c, h⟩ := h
  subst hts
  exact ⟨c, (h.later (below_a1 w (.cells C T))).setData (t := t) (t' := tBox w.heap.size C) i hi hp.symm ⟨Box.new _ _ _, h.fresh _ (Nat.le_refl _)⟩⟩
def tNone : Thing := ⟨[], fun _ _ => True, fun _ _ => trivial⟩
structure NoteP where
  b1 : Nat
  B1 : Option Addr
  c1 : Nat
  b2 : Nat
  B2 : Option Addr
  c2 : Nat
/-- The things in the midst of note. -/
def tsN (M : Thing) (rb : Nat) (attrs : Int) (LA : Option Addr) (ln lc : Nat) (vI vV : Value) (I V : List Int) (L : List Rec) (id ver : Int) (l7 l14 l8 l15 l18 l21 : Bool) (θ : NoteP) : List Thing :=
  [M, tBlk [2] rb #[.int .i64 attrs, .slice LA ln lc, (if l18 = true then .slice θ.B1 (I.length + 1) θ.c1 else vI), (if l21 = true then .slice θ.B2 (V.length + 1) θ.c2 else vV)],
   (if l8 = true then tRow u64E [3] (.slice θ.B1 (I.length + 1) θ.c1) (I ++ [id]) else tRow u64E [3] vI I), (if l15 = true then tRow u64E [4] (.slice θ.B2 (V.length + 1) θ.c2) (V ++ [ver]) else tRow u64E [4] vV V), tAt recE LA ln lc L,
   (if l7 = true then tBox θ.b1 #[.int .u64 id] else tNone), (if l14 = true then tBox θ.b2 #[.int .u64 ver] else tNone)]
def noteI (I : List Int) (id : Int) : List Int := if ixI I id = -1 then I ++ [id] else I
def noteV (I V : List Int) (id ver : Int) : List Int := if ixI I id = -1 then V ++ [ver] else V.set (ixI I id).toNat ver
theorem getD_ff {l : Array Bool} {i : Nat} (h : l.getD i true = false) : l.getD i false = false := by
  by_cases hi : i < l.size
  · simp [hi] at h ⊢; exact h
  · simp [hi] at h
set_option maxHeartbeats 8000000 in
theorem rm_note {W w : World} {M : Thing} {rb : Nat} {attrs : Int} {I V : List Int} {L : List Rec} (id ver : Int) (hM : M.π = [1]) (hL : I.length ≤ 10000) (h : RM W M rb attrs I V L w) :
    Calls Try.prog 52 #[.pointer (some ⟨rb, 0, none⟩), .int .u64 id, .int .u64 ver] w fun e w' => e = .returned (.tuple #[]) ∧ RM W M rb attrs (noteI I id) (noteV I V id ver) L w' := by
  have HRM := Lib.hid h
  obtain ⟨h0, LA, ln, lc, vI, vV, hs⟩ := h
  have H0 := Lib.hid h0
  have hLV : V.length ≤ 10000 := by omega
  have hbx := hs.blk (i := 1) rfl
  have cb := hbx.cell; have fb := hbx.free; have zb := hbx.lt
  rcases ixI_cases I id with ⟨i, hix, hii⟩ | hix
  · obtain ⟨VA, vc, rfl, v1, v2, v3, v4, vat⟩ := hs.rowAt (i := 3) (l := V) rfl
    have hil := (List.getElem?_eq_some_iff.1 hii).1
    have hiV : i < V.length := by omega
    obtain ⟨bV, oV, y, e1, dV, hyV, cV⟩ := u64_at vat hiV
    obtain ⟨g, e2, hg⟩ := v4 _ e1
    injection e2 with e3 e4
    subst e3 e4 e1
    rw [Nat.zero_add] at cV
    obtain ⟨c0, hrw⟩ := hs.row (i := 3) (l := V) rfl
    obtain ⟨cur, bb1, _⟩ := hrw.cur
    have fV := (show Box w bV cur from ⟨_, bb1⟩).free
    clear hrw bb1
    have HS := Lib.hid hs
    have HIX := Lib.hid hix
    have HN := Lib.hid (show noteI I id = I ∧ noteV I V id ver = V.set i ver from by unfold noteI noteV; rw [hix]; exact ⟨if_neg (by omega), by rw [if_neg (by omega)]; rfl⟩)
    have HS2 := Lib.hid (hs.setU (i := 3) i ver rfl (by simp) hiV rfl)
    have hlt0 : ¬ (i : Int) < 0 := by omega
    clear hs h0 hbx vat v4 hix hii hyV hM v3
    go_enter Try.func52, Try.ntmps52
    go_wp2_with (go_at_call 53; go_loud (refine (rm_last id HRM.out).mono ?_; rintro e w2 ⟨rfl, rfl⟩; rw [HIX.out]))
    go_end0
    rw [HN.out.1, HN.out.2]
    exact ⟨rfl, by rw [List.length_set]; exact H0.out, _, _, _, _, _, HS2.out⟩
  · obtain ⟨IA, ic, rfl, i1, i2, i3, i4, iat⟩ := hs.rowAt (i := 2) (l := I) rfl
    obtain ⟨VA, vc, rfl, v1, v2, v3, v4, vat⟩ := hs.rowAt (i := 3) (l := V) rfl
    have HIX := Lib.hid hix
    have HN := Lib.hid (show noteI I id = I ++ [id] ∧ noteV I V id ver = V ++ [ver] from by unfold noteI noteV; rw [hix]; exact ⟨if_pos rfl, if_pos rfl⟩)
    have HS := Lib.hid hs
    clear hs h0 hbx iat vat i4 v4 hix hM i3 v3
    go_enter Try.func52, Try.ntmps52
    go_upto_region 2 with (go_at_call 53; go_loud (refine (rm_last id HRM.out).mono ?_; rintro e w2 ⟨rfl, rfl⟩; rw [HIX.out]))
    clear cb fb zb
    refine wp_regs (Θ := NoteP) (by kernel_rfl) (by kernel_rfl) 43 rfl (by kernel_rfl) (fun θ i => if i = 7 then .slice (some ⟨θ.b1, 0, none⟩) 1 1 else if i = 8 then .slice θ.B1 (I.length + 1) θ.c1 else if i = 14 then .slice (some ⟨θ.b2, 0, none⟩) 1 1 else if i = 15 then .slice θ.B2 (V.length + 1) θ.c2 else ([.pointer (some ⟨rb, 0, none⟩), .pointer (some ⟨rb, 0, none⟩), .pointer (some ⟨rb, 0, none⟩), .pointer (some ⟨rb, 0, none⟩), .pointer (some ⟨rb, 2, none⟩), .slice IA I.length ic, .int .u64 id, undef, undef, .pointer (some ⟨rb, 0, none⟩), .pointer (some ⟨rb, 0, none⟩), .pointer (some ⟨rb, 3, none⟩), .slice VA V.length vc, .int .u64 ver, undef, undef, .pointer (some ⟨rb, 0, none⟩), .pointer (some ⟨rb, 2, none⟩), undef, .pointer (some ⟨rb, 0, none⟩), .pointer (some ⟨rb, 3, none⟩), undef] : List Value).getD i undef)
      (fun l θ w2 => Sta W (tsN M rb attrs LA ln lc (.slice IA I.length ic) (.slice VA V.length vc) I V L id ver (l.getD 7 false) (l.getD 14 false) (l.getD 8 false) (l.getD 15 false) (l.getD 18 false) (l.getD 21 false) θ) w2) ⟨0, none, 0, 0, none, 0⟩ ?start ?step ?done
    case start =>
      exact ((HS.out.later (Same.drew _).1).addData (t := tNone) rfl fun _ _ => trivial).addData (t := tNone) rfl fun _ _ => trivial
    case step =>
      intro l θ a w2 i o K ho h0 hsz hd hcl hJ hR hK
      have hi : i < 22 := (Array.getElem?_eq_some_iff.1 ho).1
      have hof := getD_ff h0
      have cl : ∀ j k, Region.waitsFor .any _ j k = true → l.getD k false = false → l.getD j false = false := fun j k hw hk => by
        cases hj : l.getD j false with
        | false => rfl
        | true => rw [hcl j k hw hj] at hk; cases hk
      have so : ∀ k, i ≠ k → (l.setIfInBounds i true).getD k false = l.getD k false := fun k hk => getD_set_other hk
      have se : (l.setIfInBounds i true).getD i false = true := getD_set_self (by rw [hsz]; exact (Array.getElem?_eq_some_iff.1 ho).1)

      have hc : i = 0 ∨ i = 1 ∨ i = 2 ∨ i = 3 ∨ i = 4 ∨ i = 5 ∨ i = 6 ∨ i = 7 ∨ i = 8 ∨ i = 9 ∨ i = 10 ∨ i = 11 ∨ i = 12 ∨ i = 13 ∨ i = 14 ∨ i = 15 ∨ i = 16 ∨ i = 17 ∨ i = 18 ∨ i = 19 ∨ i = 20 ∨ i = 21 := by omega
      rcases hc with rfl | rfl | rfl | rfl | rfl | rfl | rfl | rfl | rfl | rfl | rfl | rfl | rfl | rfl | rfl | rfl | rfl | rfl | rfl | rfl | rfl | rfl
      · obtain rfl := Option.some.inj ho
        have e0 : a.tmps[0]? = some (.pointer (some ⟨rb, 0, none⟩)) := (hR.outer 0 (by kernel_rfl)).trans rfl
        clear hsz h0 hd hcl cl hof
        unfold StepTo
        go_simp
        exact hK θ w2 (by simp only [so 7 (by decide), so 14 (by decide), so 8 (by decide), so 15 (by decide), so 18 (by decide), so 21 (by decide)]; exact hJ) (fun _ _ _ => rfl)
      · obtain rfl := Option.some.inj ho
        have e0 : a.tmps[0]? = some (.pointer (some ⟨rb, 0, none⟩)) := (hR.outer 0 (by kernel_rfl)).trans rfl
        clear hsz h0 hd hcl cl hof
        unfold StepTo
        go_simp
        exact hK θ w2 (by simp only [so 7 (by decide), so 14 (by decide), so 8 (by decide), so 15 (by decide), so 18 (by decide), so 21 (by decide)]; exact hJ) (fun _ _ _ => rfl)
      · obtain rfl := Option.some.inj ho
        have e0 : a.tmps[0]? = some (.pointer (some ⟨rb, 0, none⟩)) := (hR.outer 0 (by kernel_rfl)).trans rfl
        clear hsz h0 hd hcl cl hof
        unfold StepTo
        go_simp
        exact hK θ w2 (by simp only [so 7 (by decide), so 14 (by decide), so 8 (by decide), so 15 (by decide), so 18 (by decide), so 21 (by decide)]; exact hJ) (fun _ _ _ => rfl)
      · obtain rfl := Option.some.inj ho
        have e18 : a.tmps[18]? = some (.pointer (some ⟨rb, 0, none⟩)) := hR.reg 2 _ 18 rfl rfl (hd 2 (by kernel_rfl))
        clear hsz h0 hd hcl cl hof
        unfold StepTo
        go_simp
        exact hK θ w2 (by simp only [so 7 (by decide), so 14 (by decide), so 8 (by decide), so 15 (by decide), so 18 (by decide), so 21 (by decide)]; exact hJ) (fun _ _ _ => rfl)
      · obtain rfl := Option.some.inj ho
        have e19 : a.tmps[19]? = some (.pointer (some ⟨rb, 0, none⟩)) := hR.reg 3 _ 19 rfl rfl (hd 3 (by kernel_rfl))
        clear hsz h0 hd hcl cl hof
        unfold StepTo
        go_simp
        exact hK θ w2 (by simp only [so 7 (by decide), so 14 (by decide), so 8 (by decide), so 15 (by decide), so 18 (by decide), so 21 (by decide)]; exact hJ) (fun _ _ _ => rfl)
      · obtain rfl := Option.some.inj ho
        have e20 : a.tmps[20]? = some (.pointer (some ⟨rb, 2, none⟩)) := hR.reg 4 _ 20 rfl rfl (hd 4 (by kernel_rfl))
        have q8 := cl 8 5 (by kernel_rfl) hof
        have q18 := cl 18 8 (by kernel_rfl) q8
        have hbx := hJ.blk (i := 1) rfl
        simp only [q18, Bool.false_eq_true, if_false] at hbx
        have cb := hbx.cell; have fb := hbx.free; have zb := hbx.lt
        have cbx : w2.cell? ⟨rb, 2, none⟩ = some (.slice IA I.length ic) := cb 2
        clear hsz h0 hd hcl cl hof hbx cb
        unfold StepTo
        go_simp
        exact hK θ w2 (by simp only [so 7 (by decide), so 14 (by decide), so 8 (by decide), so 15 (by decide), so 18 (by decide), so 21 (by decide)]; exact hJ) (fun _ _ _ => rfl)
      · obtain rfl := Option.some.inj ho
        have e1 : a.tmps[1]? = some (.int .u64 id) := (hR.outer 1 (by kernel_rfl)).trans rfl
        clear hsz h0 hd hcl cl hof
        unfold StepTo
        go_simp
        exact hK θ w2 (by simp only [so 7 (by decide), so 14 (by decide), so 8 (by decide), so 15 (by decide), so 18 (by decide), so 21 (by decide)]; exact hJ) (fun _ _ _ => rfl)
      · obtain rfl := Option.some.inj ho
        have e22 : a.tmps[22]? = some (.int .u64 id) := hR.reg 6 _ 22 rfl rfl (hd 6 (by kernel_rfl))
        have hJ2 := hJ.boxIn (t := tNone) 5 #[.int .u64 id] 24 (by unfold tsN; rw [hof]; rfl) rfl rfl
        clear hsz h0 hd hcl cl
        unfold StepTo
        go_simp
        refine hK ⟨w2.heap.size, θ.B1, θ.c1, θ.b2, θ.B2, θ.c2⟩ _ ?_ (fun j hj _ => by simp only [if_neg hj])
        simp only [se, so 14 (by decide), so 8 (by decide), so 15 (by decide), so 18 (by decide), so 21 (by decide)]
        unfold tsN at hJ2 ⊢
        exact hJ2
      · obtain rfl := Option.some.inj ho
        have e21 : a.tmps[21]? = some (.slice IA I.length ic) := hR.reg 5 _ 21 rfl rfl (hd 5 (by kernel_rfl))
        have e23 : a.tmps[23]? = some (.slice (some ⟨θ.b1, 0, none⟩) 1 1) := hR.reg 7 _ 23 rfl rfl (hd 7 (by kernel_rfl))
        have q18 := cl 18 8 (by kernel_rfl) hof
        have q7 := hd 7 (by kernel_rfl)
        obtain ⟨c, hJ0⟩ := hJ
        have hrow : u64E.Row c [3] w2 (.slice IA I.length ic) I := by have := hJ0.get (i := 2) (by unfold tsN; rw [hof]; rfl); exact this
        have hbox : Box w2 θ.b1 #[.int .u64 id] ∧ c θ.b1 = [] := by have := hJ0.get (i := 5) (by unfold tsN; rw [q7]; rfl); exact this
        unfold StepTo
        refine u64E.step_append rfl (.tmp 21) (.tmp 23) rfl (.slice IA I.length ic) (by simp [Act.eval, e21]) hrow hJ0.fresh (by simp) (some ⟨θ.b1, 0, none⟩) 1 1 (by simp [Act.eval, e23]) (N := [id]) (Elt.At.one hbox.1 ⟨hbox.2, hbox.1.lt⟩ rfl) (by omega) ?_
        intro B cap w3 c3 st hr
        refine hK ⟨θ.b1, B, cap, θ.b2, θ.B2, θ.c2⟩ w3 ?_ (fun j hj _ => by simp only [if_neg hj])
        have hJ3 := Sta.turn hJ0 (i := 2) (t := tRow u64E [3] (.slice IA I.length ic) I) (t' := tRow u64E [3] (.slice B (I.length + 1) cap) (I ++ [id])) (by unfold tsN; rw [hof]; rfl) (by simp [tRow]) rfl st hr rfl
        simp only [se, so 7 (by decide), so 14 (by decide), so 15 (by decide), so 18 (by decide), so 21 (by decide)]
        unfold tsN at hJ3 ⊢
        simp only [q18, Bool.false_eq_true, if_false] at hJ3 ⊢
        exact hJ3
      · obtain rfl := Option.some.inj ho
        have e0 : a.tmps[0]? = some (.pointer (some ⟨rb, 0, none⟩)) := (hR.outer 0 (by kernel_rfl)).trans rfl
        clear hsz h0 hd hcl cl hof
        unfold StepTo
        go_simp
        exact hK θ w2 (by simp only [so 7 (by decide), so 14 (by decide), so 8 (by decide), so 15 (by decide), so 18 (by decide), so 21 (by decide)]; exact hJ) (fun _ _ _ => rfl)
      · obtain rfl := Option.some.inj ho
        have e25 : a.tmps[25]? = some (.pointer (some ⟨rb, 0, none⟩)) := hR.reg 9 _ 25 rfl rfl (hd 9 (by kernel_rfl))
        clear hsz h0 hd hcl cl hof
        unfold StepTo
        go_simp
        exact hK θ w2 (by simp only [so 7 (by decide), so 14 (by decide), so 8 (by decide), so 15 (by decide), so 18 (by decide), so 21 (by decide)]; exact hJ) (fun _ _ _ => rfl)
      · obtain rfl := Option.some.inj ho
        have e26 : a.tmps[26]? = some (.pointer (some ⟨rb, 0, none⟩)) := hR.reg 10 _ 26 rfl rfl (hd 10 (by kernel_rfl))
        clear hsz h0 hd hcl cl hof
        unfold StepTo
        go_simp
        exact hK θ w2 (by simp only [so 7 (by decide), so 14 (by decide), so 8 (by decide), so 15 (by decide), so 18 (by decide), so 21 (by decide)]; exact hJ) (fun _ _ _ => rfl)
      · obtain rfl := Option.some.inj ho
        have e27 : a.tmps[27]? = some (.pointer (some ⟨rb, 3, none⟩)) := hR.reg 11 _ 27 rfl rfl (hd 11 (by kernel_rfl))
        have q8 := cl 15 12 (by kernel_rfl) hof
        have q18 := cl 21 15 (by kernel_rfl) q8
        have hbx := hJ.blk (i := 1) rfl
        simp only [q18, Bool.false_eq_true, if_false] at hbx
        have cb := hbx.cell; have fb := hbx.free; have zb := hbx.lt
        have cbx : w2.cell? ⟨rb, 3, none⟩ = some (.slice VA V.length vc) := cb 3
        clear hsz h0 hd hcl cl hof hbx cb
        unfold StepTo
        go_simp
        exact hK θ w2 (by simp only [so 7 (by decide), so 14 (by decide), so 8 (by decide), so 15 (by decide), so 18 (by decide), so 21 (by decide)]; exact hJ) (fun _ _ _ => rfl)
      · obtain rfl := Option.some.inj ho
        have e2 : a.tmps[2]? = some (.int .u64 ver) := (hR.outer 2 (by kernel_rfl)).trans rfl
        clear hsz h0 hd hcl cl hof
        unfold StepTo
        go_simp
        exact hK θ w2 (by simp only [so 7 (by decide), so 14 (by decide), so 8 (by decide), so 15 (by decide), so 18 (by decide), so 21 (by decide)]; exact hJ) (fun _ _ _ => rfl)
      · obtain rfl := Option.some.inj ho
        have e29 : a.tmps[29]? = some (.int .u64 ver) := hR.reg 13 _ 29 rfl rfl (hd 13 (by kernel_rfl))
        have hJ2 := hJ.boxIn (t := tNone) 6 #[.int .u64 ver] 24 (by unfold tsN; rw [hof]; rfl) rfl rfl
        clear hsz h0 hd hcl cl
        unfold StepTo
        go_simp
        refine hK ⟨θ.b1, θ.B1, θ.c1, w2.heap.size, θ.B2, θ.c2⟩ _ ?_ (fun j hj _ => by simp only [if_neg hj])
        simp only [se, so 7 (by decide), so 8 (by decide), so 15 (by decide), so 18 (by decide), so 21 (by decide)]
        unfold tsN at hJ2 ⊢
        exact hJ2
      · obtain rfl := Option.some.inj ho
        have e28 : a.tmps[28]? = some (.slice VA V.length vc) := hR.reg 12 _ 28 rfl rfl (hd 12 (by kernel_rfl))
        have e30 : a.tmps[30]? = some (.slice (some ⟨θ.b2, 0, none⟩) 1 1) := hR.reg 14 _ 30 rfl rfl (hd 14 (by kernel_rfl))
        have q18 := cl 21 15 (by kernel_rfl) hof
        have q7 := hd 14 (by kernel_rfl)
        obtain ⟨c, hJ0⟩ := hJ
        have hrow : u64E.Row c [4] w2 (.slice VA V.length vc) V := by have := hJ0.get (i := 3) (by unfold tsN; rw [hof]; rfl); exact this
        have hbox : Box w2 θ.b2 #[.int .u64 ver] ∧ c θ.b2 = [] := by have := hJ0.get (i := 6) (by unfold tsN; rw [q7]; rfl); exact this
        unfold StepTo
        refine u64E.step_append rfl (.tmp 28) (.tmp 30) rfl (.slice VA V.length vc) (by simp [Act.eval, e28]) hrow hJ0.fresh (by simp) (some ⟨θ.b2, 0, none⟩) 1 1 (by simp [Act.eval, e30]) (N := [ver]) (Elt.At.one hbox.1 ⟨hbox.2, hbox.1.lt⟩ rfl) (by omega) ?_
        intro B cap w3 c3 st hr
        refine hK ⟨θ.b1, θ.B1, θ.c1, θ.b2, B, cap⟩ w3 ?_ (fun j hj _ => by simp only [if_neg hj])
        have hJ3 := Sta.turn hJ0 (i := 3) (t := tRow u64E [4] (.slice VA V.length vc) V) (t' := tRow u64E [4] (.slice B (V.length + 1) cap) (V ++ [ver])) (by unfold tsN; rw [hof]; rfl) (by simp [tRow]) rfl st hr rfl
        simp only [se, so 7 (by decide), so 14 (by decide), so 8 (by decide), so 18 (by decide), so 21 (by decide)]
        unfold tsN at hJ3 ⊢
        simp only [q18, Bool.false_eq_true, if_false] at hJ3 ⊢
        exact hJ3
      · obtain rfl := Option.some.inj ho
        have e16 : a.tmps[16]? = some (.pointer (some ⟨rb, 0, none⟩)) := hR.reg 0 _ 16 rfl rfl (hd 0 (by kernel_rfl))
        clear hsz h0 hd hcl cl hof
        unfold StepTo
        go_simp
        exact hK θ w2 (by simp only [so 7 (by decide), so 14 (by decide), so 8 (by decide), so 15 (by decide), so 18 (by decide), so 21 (by decide)]; exact hJ) (fun _ _ _ => rfl)
      · obtain rfl := Option.some.inj ho
        have e32 : a.tmps[32]? = some (.pointer (some ⟨rb, 0, none⟩)) := hR.reg 16 _ 32 rfl rfl (hd 16 (by kernel_rfl))
        clear hsz h0 hd hcl cl hof
        unfold StepTo
        go_simp
        exact hK θ w2 (by simp only [so 7 (by decide), so 14 (by decide), so 8 (by decide), so 15 (by decide), so 18 (by decide), so 21 (by decide)]; exact hJ) (fun _ _ _ => rfl)
      · obtain rfl := Option.some.inj ho
        have e24 : a.tmps[24]? = some (.slice θ.B1 (I.length + 1) θ.c1) := hR.reg 8 _ 24 rfl rfl (hd 8 (by kernel_rfl))
        have e33 : a.tmps[33]? = some (.pointer (some ⟨rb, 2, none⟩)) := hR.reg 17 _ 33 rfl rfl (hd 17 (by kernel_rfl))
        have q8 := hd 8 (by kernel_rfl)
        have hJ2 := hJ.store (i := 1) (π := [2]) (b := rb) 2 (.slice θ.B1 (I.length + 1) θ.c1) rfl (by simp) rfl
        have hbx := hJ.blk (i := 1) rfl
        have cb := hbx.cell; have fb := hbx.free; have zb := hbx.lt
        clear hsz h0 hd hcl cl hbx
        unfold StepTo
        go_simp
        refine hK θ _ ?_ (fun _ _ _ => rfl)
        simp only [se, so 7 (by decide), so 14 (by decide), so 8 (by decide), so 15 (by decide), so 21 (by decide)]
        unfold tsN at hJ2 ⊢
        exact hJ2
      · obtain rfl := Option.some.inj ho
        have e17 : a.tmps[17]? = some (.pointer (some ⟨rb, 0, none⟩)) := hR.reg 1 _ 17 rfl rfl (hd 1 (by kernel_rfl))
        clear hsz h0 hd hcl cl hof
        unfold StepTo
        go_simp
        exact hK θ w2 (by simp only [so 7 (by decide), so 14 (by decide), so 8 (by decide), so 15 (by decide), so 18 (by decide), so 21 (by decide)]; exact hJ) (fun _ _ _ => rfl)
      · obtain rfl := Option.some.inj ho
        have e34 : a.tmps[34]? = some (.pointer (some ⟨rb, 0, none⟩)) := hR.reg 19 _ 34 rfl rfl (hd 19 (by kernel_rfl))
        clear hsz h0 hd hcl cl hof
        unfold StepTo
        go_simp
        exact hK θ w2 (by simp only [so 7 (by decide), so 14 (by decide), so 8 (by decide), so 15 (by decide), so 18 (by decide), so 21 (by decide)]; exact hJ) (fun _ _ _ => rfl)
      · obtain rfl := Option.some.inj ho
        have e31 : a.tmps[31]? = some (.slice θ.B2 (V.length + 1) θ.c2) := hR.reg 15 _ 31 rfl rfl (hd 15 (by kernel_rfl))
        have e35 : a.tmps[35]? = some (.pointer (some ⟨rb, 3, none⟩)) := hR.reg 20 _ 35 rfl rfl (hd 20 (by kernel_rfl))
        have q8 := hd 15 (by kernel_rfl)
        have hJ2 := hJ.store (i := 1) (π := [2]) (b := rb) 3 (.slice θ.B2 (V.length + 1) θ.c2) rfl (by simp) rfl
        have hbx := hJ.blk (i := 1) rfl
        have cb := hbx.cell; have fb := hbx.free; have zb := hbx.lt
        clear hsz h0 hd hcl cl hbx
        unfold StepTo
        go_simp
        refine hK θ _ ?_ (fun _ _ _ => rfl)
        simp only [se, so 7 (by decide), so 14 (by decide), so 8 (by decide), so 15 (by decide), so 18 (by decide)]
        unfold tsN at hJ2 ⊢
        exact hJ2
    case done =>
      intro l θ a w2 hall hJ hR
      have hda := hR.defers
      rw [hall 7 (by show 7 < 22; omega), hall 14 (by show 14 < 22; omega), hall 8 (by show 8 < 22; omega), hall 15 (by show 15 < 22; omega), hall 18 (by show 18 < 22; omega), hall 21 (by show 21 < 22; omega)] at hJ
      have HE := Lib.hid (hJ.pick (ts' := tsM M rb attrs LA ln lc (.slice θ.B1 (I.length + 1) θ.c1) (.slice θ.B2 (V.length + 1) θ.c2) (I ++ [id]) (V ++ [ver]) L) (by simp [tsN, tsM]))
      clear hall hJ
      show bodyPost _ _ _ _ _ _
      refine bodyPost_end (results_none Try.results52 _ _ _) hda ?_
      rw [HN.out.1, HN.out.2]
      exact ⟨rfl, by simp [H0.out], _, _, _, _, _, HE.out⟩
end Go.Proofs.Ytgdlajbkppfejaa

namespace Go.Proofs.Ytgdlajbkppfejaa
open Go.RowKit Go.ChangeShapes
set_option maxRecDepth 100000
set_option linter.unusedVariables false
set_option linter.unusedSimpArgs false

/-- A thing, and a block of data. -/
def tAnd (t : Thing) (b : Nat) (C : Array Value) : Thing := ⟨t.π, fun c w => t.R c w ∧ Box w b C ∧ c b = [], fun {c c' w w'} h hk => ⟨t.keep h.1 hk, h.2.1.only hk.only (fun hn => hn.1 h.2.2), (hk.col b h.2.1.lt (.inl h.2.2)).trans h.2.2⟩⟩
theorem RM.andBox {W w : World} {M : Thing} {rb : Nat} {attrs : Int} {I V : List Int} {L : List Rec} (h : RM W M rb attrs I V L w) (C : Array Value) (T : TypeId) : RM W (tAnd M w.heap.size C) rb attrs I V L (w.alloc (.cells C T)) := by
  obtain ⟨h0, LA, ln, lc, vI, vV, c, hs⟩ := h
  have h1 := hs.later (below_a1 w (.cells C T))
  exact ⟨h0, LA, ln, lc, vI, vV, c, h1.setData (t := M) (t' := tAnd M w.heap.size C) 0 rfl rfl ⟨h1.get (i := 0) rfl, Box.new _ _ _, hs.fresh _ (Nat.le_refl _)⟩⟩
theorem RM.less {W w : World} {M : Thing} {rb b : Nat} {C : Array Value} {attrs : Int} {I V : List Int} {L : List Rec} (h : RM W (tAnd M b C) rb attrs I V L w) : RM W M rb attrs I V L w := by
  obtain ⟨h0, LA, ln, lc, vI, vV, c, hs⟩ := h
  exact ⟨h0, LA, ln, lc, vI, vV, c, hs.setData (t := tAnd M b C) (t' := M) 0 rfl rfl (show (tAnd M b C).R c w from hs.get (i := 0) rfl).1⟩
theorem RM.box {W w : World} {M : Thing} {rb b : Nat} {C : Array Value} {attrs : Int} {I V : List Int} {L : List Rec} (h : RM W (tAnd M b C) rb attrs I V L w) : Box w b C := by
  obtain ⟨h0, LA, ln, lc, vI, vV, c, hs⟩ := h
  exact (show (tAnd M b C).R c w from hs.get (i := 0) rfl).2.1
theorem dropR_le (L : List Rec) (id : Int) : (dropR L id).length ≤ L.length := List.length_filter_le _ _
/-- The things in the midst of a put. -/
def tsP (M : Thing) (rb : Nat) (attrs : Int) (LA : Option Addr) (ln lc : Nat) (vI vV : Value) (I V : List Int) (L L9 : List Rec) (l6 l12 : Bool) (θ : Option Addr × Nat × Nat) : List Thing :=
  [M, tBlk [2] rb #[.int .i64 attrs, (if l12 = true then .slice θ.1 θ.2.1 θ.2.2 else .slice LA ln lc), vI, vV], tRow u64E [3] vI I, tRow u64E [4] vV V, tAt recE LA ln lc L, (if l6 = true then tAt recE θ.1 θ.2.1 θ.2.2 L9 else tNone)]
/-- Whether a put is one. -/
def rputB (attrs : Int) (I V : List Int) (r : Rec) : Bool := rightF attrs r.id r.ver r.vals.length && !(!(ixI I r.id == -1) && decide (r.ver ≤ lastI I V r.id))
theorem RM.ints {W w : World} {ts : List Thing} {c : Col} {s : Option Addr} {m cp : Nat} {xs : List Int} (h : S0 W ts c w) (hv : Ints W (· < W.heap.size) .u32 4 s m cp xs) : Ints w (Quiet c w) .u32 4 s m cp xs := hv.move h.first
set_option maxHeartbeats 8000000 in
theorem rm_put {W w : World} {M : Thing} {rb : Nat} {attrs : Int} {I V : List Int} {L : List Rec} (r : Rec) {s : Option Addr} {m cp : Nat} (hM : M.π = [1]) (hL : L.length ≤ 4000) (hI : I.length ≤ 9000) (h : RM W M rb attrs I V L w) (ha1 : -9223372036854775808 ≤ attrs) (ha2 : attrs < 9223372036854775808)
    (hok : r.ok) (hv : Ints W (· < W.heap.size) .u32 4 s m cp r.vals) :
    Calls Try.prog 28 #[.pointer (some ⟨rb, 0, none⟩), .agg #[.int .u64 r.id, .int .u64 r.ver, .slice s m cp]] w fun e w' => e = .returned (.bool (rputB attrs I V r)) ∧ (rputB attrs I V r = true → RM W M rb attrs (noteI I r.id) (noteV I V r.id r.ver) (putR (dropR L r.id) r).1 w') ∧ (rputB attrs I V r = false → RM W M rb attrs I V L w') := by
  have hok' := hok
  obtain ⟨⟨hid1, hid2⟩, ⟨hv1, hv2⟩, _⟩ := hok'
  have hml : r.vals.length = m := hv.1
  have hm64 : (m : Int) ≤ 9223372036854775807 := by have := hv.2.1; have := hv.2.2.1; omega
  have HR := Lib.hid (fun (w' : World) => rright_any attrs r.id r.ver s m cp w' hid1 (by omega) hv1 (by omega) ha1 ha2 hm64)
  have HM := Lib.hid hM; have HV := Lib.hid hv; have HOK := Lib.hid hok
  have HRM := Lib.hid h
  have hdl := dropR_le L r.id
  clear hid1 hid2 hv1 hv2 ha1 ha2 hm64 hM hv hok h
  obtain ⟨rt, hrt⟩ : ∃ rt, rightF attrs r.id r.ver m = rt := ⟨_, rfl⟩
  rw [hrt] at HR
  have HRT := Lib.hid (show rightF attrs r.id r.ver r.vals.length = rt by rw [hml]; exact hrt)
  clear hrt hml
  go_enter Try.func28, Try.ntmps28
  go_upto_region 1 with fail
  refine wp_abs (fun wx => RM W (tAnd M w.heap.size #[.int .u64 r.id, .int .u64 r.ver, .slice s m cp]) rb attrs I V L wx) (HRM.out.andBox _ _) ?_
  generalize hb3 : w.heap.size = b3
  clear hb3 HRM
  rintro wx hrm
  have hx3 := hrm.box
  have HRM := Lib.hid hrm; have X3 := Lib.hid hx3
  have c3 := hx3.cell; have f3 := hx3.free; have z3 := hx3.lt
  obtain ⟨h0, LA, ln, lc, vI, vV, hs⟩ := hrm
  have HM2 := Lib.hid (show (tAnd M b3 #[.int .u64 r.id, .int .u64 r.ver, .slice s m cp]).π = [1] from HM.out)
  have H0 := Lib.hid h0; have HS := Lib.hid hs
  have HL4 := Lib.hid (hs.at (i := 4) (E := recE) rfl).1
  have XB := Lib.hid (hs.blk (i := 1) rfl)
  clear h0 hs hx3
  obtain ⟨lv, hlv⟩ : ∃ lv, lastI I V r.id = lv := ⟨_, rfl⟩
  have HLV := Lib.hid hlv
  clear hlv
  cases rt with
  | false =>
    obtain ⟨iy, hiy⟩ : ∃ iy, ixI I r.id = iy := ⟨_, rfl⟩
    have HIX := Lib.hid hiy
    clear hiy
    have HB : Hid (rputB attrs I V r = false) := by show rputB attrs I V r = _; unfold rputB; rw [HRT.out]; rfl
    go_upto_region 2 with (go_at_call 53; go_loud (refine (rm_last r.id HRM.out).mono ?_; rintro e w2 ⟨rfl, rfl⟩; rw [HLV.out, HIX.out]))
    refine wp_regs (Θ := Unit) (by kernel_rfl) (by kernel_rfl) 53 rfl (by kernel_rfl) (fun _ i => ([.pointer (some ⟨rb, 0, none⟩), .pointer (some ⟨rb, 0, none⟩), .pointer (some ⟨rb, 0, none⟩), .int .i64 attrs, .agg #[.int .u64 r.id, .int .u64 r.ver, .slice s m cp], .bool false, .bool true, .bool true, undef, undef, undef, undef, undef, undef, undef, undef, .bool true] : List Value).getD i undef) (fun _ _ w2 => Same wx w2) () (Same.drew _) ?step ?done
    case step =>
      intro listed θ a w2 i o K ho h0 hs hd hcl hJ hR hK
      have hi : i < 17 := (Array.getElem?_eq_some_iff.1 ho).1
      have X32 := X3.out.below hJ.1 X3.out.lt
      have XB2 := XB.out.below hJ.1 XB.out.lt
      have hc : i = 0 ∨ i = 1 ∨ i = 2 ∨ i = 3 ∨ i = 4 ∨ i = 5 ∨ i = 6 ∨ i = 7 ∨ i = 8 ∨ i = 9 ∨ i = 10 ∨ i = 11 ∨ i = 12 ∨ i = 13 ∨ i = 14 ∨ i = 15 ∨ i = 16 := by omega
      rcases hc with rfl | rfl | rfl | rfl | rfl | rfl | rfl | rfl | rfl | rfl | rfl | rfl | rfl | rfl | rfl | rfl | rfl
      · obtain rfl := Option.some.inj ho
        have e0 : a.tmps[0]? = some (.pointer (some ⟨rb, 0, none⟩)) := (hR.outer 0 (by kernel_rfl)).trans rfl
        clear hs h0 hd hcl
        unfold StepTo
        go_simp
        exact hK () w2 hJ (fun _ _ _ => rfl)
      · obtain rfl := Option.some.inj ho
        have e14 : a.tmps[14]? = some (.pointer (some ⟨rb, 0, none⟩)) := hR.reg 0 _ 14 rfl rfl (hd 0 (by kernel_rfl))
        clear hs h0 hd hcl
        unfold StepTo
        go_simp
        exact hK () w2 hJ (fun _ _ _ => rfl)
      · obtain rfl := Option.some.inj ho
        have e15 : a.tmps[15]? = some (.pointer (some ⟨rb, 0, none⟩)) := hR.reg 1 _ 15 rfl rfl (hd 1 (by kernel_rfl))
        clear hs h0 hd hcl
        unfold StepTo
        go_simp
        exact hK () w2 hJ (fun _ _ _ => rfl)
      · obtain rfl := Option.some.inj ho
        have e16 : a.tmps[16]? = some (.pointer (some ⟨rb, 0, none⟩)) := hR.reg 2 _ 16 rfl rfl (hd 2 (by kernel_rfl))
        have cb := XB2.cell; have fb := XB2.free; have zb2 := XB2.lt
        clear hs h0 hd hcl
        unfold StepTo
        go_simp
        exact hK () w2 hJ (fun _ _ _ => rfl)
      · obtain rfl := Option.some.inj ho
        have e3 : a.tmps[3]? = some (.pointer (some ⟨b3, 0, none⟩)) := (hR.outer 3 (by kernel_rfl)).trans rfl
        have c3 := X32.cell; have f3 := X32.free; have z3 := X32.lt
        clear hs h0 hd hcl
        unfold StepTo
        go_simp
        exact hK () w2 hJ (fun _ _ _ => rfl)
      · obtain rfl := Option.some.inj ho
        have e17 : a.tmps[17]? = some (.int .i64 attrs) := hR.reg 3 _ 17 rfl rfl (hd 3 (by kernel_rfl))
        have e18 : a.tmps[18]? = some (.agg #[.int .u64 r.id, .int .u64 r.ver, .slice s m cp]) := hR.reg 4 _ 18 rfl rfl (hd 4 (by kernel_rfl))
        clear hs h0 hd hcl
        unfold StepTo
        go_simp
        go_at_call 54
        refine (HR.out w2).mono ?_
        rintro e w3 ⟨rfl, rfl⟩
        exact hK () _ (hJ.alloc _) (fun _ _ _ => rfl)
      · obtain rfl := Option.some.inj ho
        have e19 : a.tmps[19]? = some (.bool false) := hR.reg 5 _ 19 rfl rfl (hd 5 (by kernel_rfl))
        clear hs h0 hd hcl
        unfold StepTo
        go_simp
        exact hK () w2 hJ (fun _ _ _ => rfl)
      · obtain rfl := Option.some.inj ho
        have e20 : a.tmps[20]? = some (.bool true) := hR.reg 6 _ 20 rfl rfl (hd 6 (by kernel_rfl))
        clear hs h0 hd hcl
        unfold StepTo
        go_simp
        exact hK () w2 hJ (fun _ _ _ => rfl)
      · obtain rfl := Option.some.inj ho
        have e21 : a.tmps[21]? = some (.bool true) := hR.reg 7 _ 21 rfl rfl (hd 7 (by kernel_rfl))
        clear hs h0 hd hcl
        unfold StepTo
        go_simp
        exact hK () w2 hJ (fun _ _ _ => rfl)
      · obtain rfl := Option.some.inj ho
        have e21 : a.tmps[21]? = some (.bool true) := hR.reg 7 _ 21 rfl rfl (hd 7 (by kernel_rfl))
        clear hs h0 hd hcl
        unfold StepTo
        go_simp
        exact hK () w2 hJ (fun _ _ _ => rfl)
      · obtain rfl := Option.some.inj ho
        have e21 : a.tmps[21]? = some (.bool true) := hR.reg 7 _ 21 rfl rfl (hd 7 (by kernel_rfl))
        clear hs h0 hd hcl
        unfold StepTo
        go_simp
        exact hK () w2 hJ (fun _ _ _ => rfl)
      · obtain rfl := Option.some.inj ho
        have e24 : a.tmps[24]? = some (undef) := hR.reg 10 _ 24 rfl rfl (hd 10 (by kernel_rfl))
        clear hs h0 hd hcl
        unfold StepTo
        go_simp
        exact hK () w2 hJ (fun _ _ _ => rfl)
      · obtain rfl := Option.some.inj ho
        have e24 : a.tmps[24]? = some (undef) := hR.reg 10 _ 24 rfl rfl (hd 10 (by kernel_rfl))
        clear hs h0 hd hcl
        unfold StepTo
        go_simp
        exact hK () w2 hJ (fun _ _ _ => rfl)
      · obtain rfl := Option.some.inj ho
        have e24 : a.tmps[24]? = some (undef) := hR.reg 10 _ 24 rfl rfl (hd 10 (by kernel_rfl))
        clear hs h0 hd hcl
        unfold StepTo
        go_simp
        exact hK () w2 hJ (fun _ _ _ => rfl)
      · obtain rfl := Option.some.inj ho
        have e24 : a.tmps[24]? = some (undef) := hR.reg 10 _ 24 rfl rfl (hd 10 (by kernel_rfl))
        clear hs h0 hd hcl
        unfold StepTo
        go_simp
        exact hK () w2 hJ (fun _ _ _ => rfl)
      · obtain rfl := Option.some.inj ho
        have e21 : a.tmps[21]? = some (.bool true) := hR.reg 7 _ 21 rfl rfl (hd 7 (by kernel_rfl))
        clear hs h0 hd hcl
        unfold StepTo
        go_simp
        exact hK () w2 hJ (fun _ _ _ => rfl)
      · obtain rfl := Option.some.inj ho
        have e21 : a.tmps[21]? = some (.bool true) := hR.reg 7 _ 21 rfl rfl (hd 7 (by kernel_rfl))
        clear hs h0 hd hcl
        unfold StepTo
        go_simp
        exact hK () w2 hJ (fun _ _ _ => rfl)
    case done =>
      intro listed θ a w2 hall hJ hR
      have ha := (hR.whole [some 14, some 15, some 16, some 17, some 18, some 19, some 20, some 21, some 22, some 23, some 24, some 25, some 26, some 27, some 28, some 29, some 30] rfl rfl (by kernel_rfl) hall).trans (b := _) (c := ⟨#[.pointer (some ⟨rb, 0, none⟩), .agg #[.int .u64 r.id, .int .u64 r.ver, .slice s m cp], undef, .pointer (some ⟨b3, 0, none⟩), .bool false, .int .u64 lv, .int .i64 iy, .tuple #[.int .u64 lv, .int .i64 iy], .pointer (some ⟨rb, 0, none⟩), .pointer (some ⟨b3, 0, none⟩), .int .u64 r.id, .tuple #[.int .u64 lv, .int .i64 iy], .int .u64 lv, .int .i64 iy, .pointer (some ⟨rb, 0, none⟩), .pointer (some ⟨rb, 0, none⟩), .pointer (some ⟨rb, 0, none⟩), .int .i64 attrs, .agg #[.int .u64 r.id, .int .u64 r.ver, .slice s m cp], .bool false, .bool true, .bool true, undef, undef, undef, undef, undef, undef, undef, undef, .bool true, undef, undef, undef, undef, undef, undef, undef, undef, undef, undef, undef, undef, undef, undef, undef, undef, undef, undef, undef, undef, undef, undef], []⟩) (by kernel_rfl)
      subst ha
      have HJ := Lib.hid hJ
      clear hR hall hJ
      go_wp2
      go_ret
      rw [HB.out]
      exact ⟨rfl, fun h => (by cases h), fun _ => (HRM.out.later HJ.out.1).less⟩
  | true =>
    rcases ixI_cases I r.id with ⟨ix, hix, _⟩ | hix
    · have HIX := Lib.hid hix
      clear hix
      by_cases hle : r.ver ≤ lv
      · have HB : Hid (rputB attrs I V r = false) := by show rputB attrs I V r = _; unfold rputB; rw [HRT.out, HIX.out, HLV.out, decide_eq_true hle, show ((ix : Int) == -1) = false by rw [beq_eq_false_iff_ne]; omega]; rfl
        go_upto_region 2 with (go_at_call 53; go_loud (refine (rm_last r.id HRM.out).mono ?_; rintro e w2 ⟨rfl, rfl⟩; rw [HLV.out, HIX.out]))
        refine wp_regs (Θ := Unit) (by kernel_rfl) (by kernel_rfl) 53 rfl (by kernel_rfl) (fun _ i => ([.pointer (some ⟨rb, 0, none⟩), .pointer (some ⟨rb, 0, none⟩), .pointer (some ⟨rb, 0, none⟩), .int .i64 attrs, .agg #[.int .u64 r.id, .int .u64 r.ver, .slice s m cp], .bool true, .bool false, .bool false, .int .i64 (ix : Int), .bool true, .bool true, .pointer (some ⟨b3, 1, none⟩), .int .u64 r.ver, .int .u64 lv, .bool true, .bool true, .bool true] : List Value).getD i undef) (fun _ _ w2 => Same wx w2) () (Same.drew _) ?step ?done
        case step =>
          intro listed θ a w2 i o K ho h0 hs hd hcl hJ hR hK
          have hi : i < 17 := (Array.getElem?_eq_some_iff.1 ho).1
          have X32 := X3.out.below hJ.1 X3.out.lt
          have XB2 := XB.out.below hJ.1 XB.out.lt
          have hc : i = 0 ∨ i = 1 ∨ i = 2 ∨ i = 3 ∨ i = 4 ∨ i = 5 ∨ i = 6 ∨ i = 7 ∨ i = 8 ∨ i = 9 ∨ i = 10 ∨ i = 11 ∨ i = 12 ∨ i = 13 ∨ i = 14 ∨ i = 15 ∨ i = 16 := by omega
          rcases hc with rfl | rfl | rfl | rfl | rfl | rfl | rfl | rfl | rfl | rfl | rfl | rfl | rfl | rfl | rfl | rfl | rfl
          · obtain rfl := Option.some.inj ho
            have e0 : a.tmps[0]? = some (.pointer (some ⟨rb, 0, none⟩)) := (hR.outer 0 (by kernel_rfl)).trans rfl
            clear hs h0 hd hcl
            unfold StepTo
            go_simp
            exact hK () w2 hJ (fun _ _ _ => rfl)
          · obtain rfl := Option.some.inj ho
            have e14 : a.tmps[14]? = some (.pointer (some ⟨rb, 0, none⟩)) := hR.reg 0 _ 14 rfl rfl (hd 0 (by kernel_rfl))
            clear hs h0 hd hcl
            unfold StepTo
            go_simp
            exact hK () w2 hJ (fun _ _ _ => rfl)
          · obtain rfl := Option.some.inj ho
            have e15 : a.tmps[15]? = some (.pointer (some ⟨rb, 0, none⟩)) := hR.reg 1 _ 15 rfl rfl (hd 1 (by kernel_rfl))
            clear hs h0 hd hcl
            unfold StepTo
            go_simp
            exact hK () w2 hJ (fun _ _ _ => rfl)
          · obtain rfl := Option.some.inj ho
            have e16 : a.tmps[16]? = some (.pointer (some ⟨rb, 0, none⟩)) := hR.reg 2 _ 16 rfl rfl (hd 2 (by kernel_rfl))
            have cb := XB2.cell; have fb := XB2.free; have zb2 := XB2.lt
            clear hs h0 hd hcl
            unfold StepTo
            go_simp
            exact hK () w2 hJ (fun _ _ _ => rfl)
          · obtain rfl := Option.some.inj ho
            have e3 : a.tmps[3]? = some (.pointer (some ⟨b3, 0, none⟩)) := (hR.outer 3 (by kernel_rfl)).trans rfl
            have c3 := X32.cell; have f3 := X32.free; have z3 := X32.lt
            clear hs h0 hd hcl
            unfold StepTo
            go_simp
            exact hK () w2 hJ (fun _ _ _ => rfl)
          · obtain rfl := Option.some.inj ho
            have e17 : a.tmps[17]? = some (.int .i64 attrs) := hR.reg 3 _ 17 rfl rfl (hd 3 (by kernel_rfl))
            have e18 : a.tmps[18]? = some (.agg #[.int .u64 r.id, .int .u64 r.ver, .slice s m cp]) := hR.reg 4 _ 18 rfl rfl (hd 4 (by kernel_rfl))
            clear hs h0 hd hcl
            unfold StepTo
            go_simp
            go_at_call 54
            refine (HR.out w2).mono ?_
            rintro e w3 ⟨rfl, rfl⟩
            exact hK () _ (hJ.alloc _) (fun _ _ _ => rfl)
          · obtain rfl := Option.some.inj ho
            have e19 : a.tmps[19]? = some (.bool true) := hR.reg 5 _ 19 rfl rfl (hd 5 (by kernel_rfl))
            clear hs h0 hd hcl
            unfold StepTo
            go_simp
            exact hK () w2 hJ (fun _ _ _ => rfl)
          · obtain rfl := Option.some.inj ho
            have e20 : a.tmps[20]? = some (.bool false) := hR.reg 6 _ 20 rfl rfl (hd 6 (by kernel_rfl))
            clear hs h0 hd hcl
            unfold StepTo
            go_simp
            exact hK () w2 hJ (fun _ _ _ => rfl)
          · obtain rfl := Option.some.inj ho
            have e21 : a.tmps[21]? = some (.bool false) := hR.reg 7 _ 21 rfl rfl (hd 7 (by kernel_rfl))
            have e6 : a.tmps[6]? = some (.int .i64 (ix : Int)) := (hR.outer 6 (by kernel_rfl)).trans rfl
            clear hs h0 hd hcl
            unfold StepTo
            go_simp
            exact hK () w2 hJ (fun _ _ _ => rfl)
          · obtain rfl := Option.some.inj ho
            have e21 : a.tmps[21]? = some (.bool false) := hR.reg 7 _ 21 rfl rfl (hd 7 (by kernel_rfl))
            have e22 : a.tmps[22]? = some (.int .i64 (ix : Int)) := hR.reg 8 _ 22 rfl rfl (hd 8 (by kernel_rfl))
            clear hs h0 hd hcl
            unfold StepTo
            go_simp
            exact hK () w2 hJ (fun _ _ _ => rfl)
          · obtain rfl := Option.some.inj ho
            have e21 : a.tmps[21]? = some (.bool false) := hR.reg 7 _ 21 rfl rfl (hd 7 (by kernel_rfl))
            have e23 : a.tmps[23]? = some (.bool true) := hR.reg 9 _ 23 rfl rfl (hd 9 (by kernel_rfl))
            clear hs h0 hd hcl
            unfold StepTo
            go_simp
            exact hK () w2 hJ (fun _ _ _ => rfl)
          · obtain rfl := Option.some.inj ho
            have e24 : a.tmps[24]? = some (.bool true) := hR.reg 10 _ 24 rfl rfl (hd 10 (by kernel_rfl))
            have e3 : a.tmps[3]? = some (.pointer (some ⟨b3, 0, none⟩)) := (hR.outer 3 (by kernel_rfl)).trans rfl
            clear hs h0 hd hcl
            unfold StepTo
            go_simp
            exact hK () w2 hJ (fun _ _ _ => rfl)
          · obtain rfl := Option.some.inj ho
            have e24 : a.tmps[24]? = some (.bool true) := hR.reg 10 _ 24 rfl rfl (hd 10 (by kernel_rfl))
            have e25 : a.tmps[25]? = some (.pointer (some ⟨b3, 1, none⟩)) := hR.reg 11 _ 25 rfl rfl (hd 11 (by kernel_rfl))
            have c3 := X32.cell; have f3 := X32.free; have z3 := X32.lt
            clear hs h0 hd hcl
            unfold StepTo
            go_simp
            exact hK () w2 hJ (fun _ _ _ => rfl)
          · obtain rfl := Option.some.inj ho
            have e24 : a.tmps[24]? = some (.bool true) := hR.reg 10 _ 24 rfl rfl (hd 10 (by kernel_rfl))
            have e5 : a.tmps[5]? = some (.int .u64 lv) := (hR.outer 5 (by kernel_rfl)).trans rfl
            clear hs h0 hd hcl
            unfold StepTo
            go_simp
            exact hK () w2 hJ (fun _ _ _ => rfl)
          · obtain rfl := Option.some.inj ho
            have e24 : a.tmps[24]? = some (.bool true) := hR.reg 10 _ 24 rfl rfl (hd 10 (by kernel_rfl))
            have e26 : a.tmps[26]? = some (.int .u64 r.ver) := hR.reg 12 _ 26 rfl rfl (hd 12 (by kernel_rfl))
            have e27 : a.tmps[27]? = some (.int .u64 lv) := hR.reg 13 _ 27 rfl rfl (hd 13 (by kernel_rfl))
            clear hs h0 hd hcl
            unfold StepTo
            go_simp
            exact hK () w2 hJ (fun _ _ _ => rfl)
          · obtain rfl := Option.some.inj ho
            have e21 : a.tmps[21]? = some (.bool false) := hR.reg 7 _ 21 rfl rfl (hd 7 (by kernel_rfl))
            have e24 : a.tmps[24]? = some (.bool true) := hR.reg 10 _ 24 rfl rfl (hd 10 (by kernel_rfl))
            have e28 : a.tmps[28]? = some (.bool true) := hR.reg 14 _ 28 rfl rfl (hd 14 (by kernel_rfl))
            clear hs h0 hd hcl
            unfold StepTo
            go_simp
            exact hK () w2 hJ (fun _ _ _ => rfl)
          · obtain rfl := Option.some.inj ho
            have e21 : a.tmps[21]? = some (.bool false) := hR.reg 7 _ 21 rfl rfl (hd 7 (by kernel_rfl))
            have e29 : a.tmps[29]? = some (.bool true) := hR.reg 15 _ 29 rfl rfl (hd 15 (by kernel_rfl))
            clear hs h0 hd hcl
            unfold StepTo
            go_simp
            exact hK () w2 hJ (fun _ _ _ => rfl)
        case done =>
          intro listed θ a w2 hall hJ hR
          have ha := (hR.whole [some 14, some 15, some 16, some 17, some 18, some 19, some 20, some 21, some 22, some 23, some 24, some 25, some 26, some 27, some 28, some 29, some 30] rfl rfl (by kernel_rfl) hall).trans (b := _) (c := ⟨#[.pointer (some ⟨rb, 0, none⟩), .agg #[.int .u64 r.id, .int .u64 r.ver, .slice s m cp], undef, .pointer (some ⟨b3, 0, none⟩), .bool false, .int .u64 lv, .int .i64 (ix : Int), .tuple #[.int .u64 lv, .int .i64 (ix : Int)], .pointer (some ⟨rb, 0, none⟩), .pointer (some ⟨b3, 0, none⟩), .int .u64 r.id, .tuple #[.int .u64 lv, .int .i64 (ix : Int)], .int .u64 lv, .int .i64 (ix : Int), .pointer (some ⟨rb, 0, none⟩), .pointer (some ⟨rb, 0, none⟩), .pointer (some ⟨rb, 0, none⟩), .int .i64 attrs, .agg #[.int .u64 r.id, .int .u64 r.ver, .slice s m cp], .bool true, .bool false, .bool false, .int .i64 (ix : Int), .bool true, .bool true, .pointer (some ⟨b3, 1, none⟩), .int .u64 r.ver, .int .u64 lv, .bool true, .bool true, .bool true, undef, undef, undef, undef, undef, undef, undef, undef, undef, undef, undef, undef, undef, undef, undef, undef, undef, undef, undef, undef, undef, undef], []⟩) (by kernel_rfl)
          subst ha
          have HJ := Lib.hid hJ
          clear hR hall hJ
          go_wp2
          go_ret
          rw [HB.out]
          exact ⟨rfl, fun h => (by cases h), fun _ => (HRM.out.later HJ.out.1).less⟩
      · have HB : Hid (rputB attrs I V r = true) := by show rputB attrs I V r = _; unfold rputB; rw [HRT.out, HLV.out, decide_eq_false hle]; simp
        have hle2 : lv < r.ver := by omega
        have hle3 : decide (r.ver ≤ lv) = false := decide_eq_false hle
        go_upto_region 2 with (go_at_call 53; go_loud (refine (rm_last r.id HRM.out).mono ?_; rintro e w2 ⟨rfl, rfl⟩; rw [HLV.out, HIX.out]))
        refine wp_regs (Θ := Unit) (by kernel_rfl) (by kernel_rfl) 53 rfl (by kernel_rfl) (fun _ i => ([.pointer (some ⟨rb, 0, none⟩), .pointer (some ⟨rb, 0, none⟩), .pointer (some ⟨rb, 0, none⟩), .int .i64 attrs, .agg #[.int .u64 r.id, .int .u64 r.ver, .slice s m cp], .bool true, .bool false, .bool false, .int .i64 (ix : Int), .bool true, .bool true, .pointer (some ⟨b3, 1, none⟩), .int .u64 r.ver, .int .u64 lv, .bool false, .bool false, .bool false] : List Value).getD i undef) (fun _ _ w2 => Same wx w2) () (Same.drew _) ?step ?done
        case step =>
          intro listed θ a w2 i o K ho h0 hs hd hcl hJ hR hK
          have hi : i < 17 := (Array.getElem?_eq_some_iff.1 ho).1
          have X32 := X3.out.below hJ.1 X3.out.lt
          have XB2 := XB.out.below hJ.1 XB.out.lt
          have hc : i = 0 ∨ i = 1 ∨ i = 2 ∨ i = 3 ∨ i = 4 ∨ i = 5 ∨ i = 6 ∨ i = 7 ∨ i = 8 ∨ i = 9 ∨ i = 10 ∨ i = 11 ∨ i = 12 ∨ i = 13 ∨ i = 14 ∨ i = 15 ∨ i = 16 := by omega
          rcases hc with rfl | rfl | rfl | rfl | rfl | rfl | rfl | rfl | rfl | rfl | rfl | rfl | rfl | rfl | rfl | rfl | rfl
          · obtain rfl := Option.some.inj ho
            have e0 : a.tmps[0]? = some (.pointer (some ⟨rb, 0, none⟩)) := (hR.outer 0 (by kernel_rfl)).trans rfl
            clear hs h0 hd hcl
            unfold StepTo
            go_simp
            exact hK () w2 hJ (fun _ _ _ => rfl)
          · obtain rfl := Option.some.inj ho
            have e14 : a.tmps[14]? = some (.pointer (some ⟨rb, 0, none⟩)) := hR.reg 0 _ 14 rfl rfl (hd 0 (by kernel_rfl))
            clear hs h0 hd hcl
            unfold StepTo
            go_simp
            exact hK () w2 hJ (fun _ _ _ => rfl)
          · obtain rfl := Option.some.inj ho
            have e15 : a.tmps[15]? = some (.pointer (some ⟨rb, 0, none⟩)) := hR.reg 1 _ 15 rfl rfl (hd 1 (by kernel_rfl))
            clear hs h0 hd hcl
            unfold StepTo
            go_simp
            exact hK () w2 hJ (fun _ _ _ => rfl)
          · obtain rfl := Option.some.inj ho
            have e16 : a.tmps[16]? = some (.pointer (some ⟨rb, 0, none⟩)) := hR.reg 2 _ 16 rfl rfl (hd 2 (by kernel_rfl))
            have cb := XB2.cell; have fb := XB2.free; have zb2 := XB2.lt
            clear hs h0 hd hcl
            unfold StepTo
            go_simp
            exact hK () w2 hJ (fun _ _ _ => rfl)
          · obtain rfl := Option.some.inj ho
            have e3 : a.tmps[3]? = some (.pointer (some ⟨b3, 0, none⟩)) := (hR.outer 3 (by kernel_rfl)).trans rfl
            have c3 := X32.cell; have f3 := X32.free; have z3 := X32.lt
            clear hs h0 hd hcl
            unfold StepTo
            go_simp
            exact hK () w2 hJ (fun _ _ _ => rfl)
          · obtain rfl := Option.some.inj ho
            have e17 : a.tmps[17]? = some (.int .i64 attrs) := hR.reg 3 _ 17 rfl rfl (hd 3 (by kernel_rfl))
            have e18 : a.tmps[18]? = some (.agg #[.int .u64 r.id, .int .u64 r.ver, .slice s m cp]) := hR.reg 4 _ 18 rfl rfl (hd 4 (by kernel_rfl))
            clear hs h0 hd hcl
            unfold StepTo
            go_simp
            go_at_call 54
            refine (HR.out w2).mono ?_
            rintro e w3 ⟨rfl, rfl⟩
            exact hK () _ (hJ.alloc _) (fun _ _ _ => rfl)
          · obtain rfl := Option.some.inj ho
            have e19 : a.tmps[19]? = some (.bool true) := hR.reg 5 _ 19 rfl rfl (hd 5 (by kernel_rfl))
            clear hs h0 hd hcl
            unfold StepTo
            go_simp
            exact hK () w2 hJ (fun _ _ _ => rfl)
          · obtain rfl := Option.some.inj ho
            have e20 : a.tmps[20]? = some (.bool false) := hR.reg 6 _ 20 rfl rfl (hd 6 (by kernel_rfl))
            clear hs h0 hd hcl
            unfold StepTo
            go_simp
            exact hK () w2 hJ (fun _ _ _ => rfl)
          · obtain rfl := Option.some.inj ho
            have e21 : a.tmps[21]? = some (.bool false) := hR.reg 7 _ 21 rfl rfl (hd 7 (by kernel_rfl))
            have e6 : a.tmps[6]? = some (.int .i64 (ix : Int)) := (hR.outer 6 (by kernel_rfl)).trans rfl
            clear hs h0 hd hcl
            unfold StepTo
            go_simp
            exact hK () w2 hJ (fun _ _ _ => rfl)
          · obtain rfl := Option.some.inj ho
            have e21 : a.tmps[21]? = some (.bool false) := hR.reg 7 _ 21 rfl rfl (hd 7 (by kernel_rfl))
            have e22 : a.tmps[22]? = some (.int .i64 (ix : Int)) := hR.reg 8 _ 22 rfl rfl (hd 8 (by kernel_rfl))
            clear hs h0 hd hcl
            unfold StepTo
            go_simp
            exact hK () w2 hJ (fun _ _ _ => rfl)
          · obtain rfl := Option.some.inj ho
            have e21 : a.tmps[21]? = some (.bool false) := hR.reg 7 _ 21 rfl rfl (hd 7 (by kernel_rfl))
            have e23 : a.tmps[23]? = some (.bool true) := hR.reg 9 _ 23 rfl rfl (hd 9 (by kernel_rfl))
            clear hs h0 hd hcl
            unfold StepTo
            go_simp
            exact hK () w2 hJ (fun _ _ _ => rfl)
          · obtain rfl := Option.some.inj ho
            have e24 : a.tmps[24]? = some (.bool true) := hR.reg 10 _ 24 rfl rfl (hd 10 (by kernel_rfl))
            have e3 : a.tmps[3]? = some (.pointer (some ⟨b3, 0, none⟩)) := (hR.outer 3 (by kernel_rfl)).trans rfl
            clear hs h0 hd hcl
            unfold StepTo
            go_simp
            exact hK () w2 hJ (fun _ _ _ => rfl)
          · obtain rfl := Option.some.inj ho
            have e24 : a.tmps[24]? = some (.bool true) := hR.reg 10 _ 24 rfl rfl (hd 10 (by kernel_rfl))
            have e25 : a.tmps[25]? = some (.pointer (some ⟨b3, 1, none⟩)) := hR.reg 11 _ 25 rfl rfl (hd 11 (by kernel_rfl))
            have c3 := X32.cell; have f3 := X32.free; have z3 := X32.lt
            clear hs h0 hd hcl
            unfold StepTo
            go_simp
            exact hK () w2 hJ (fun _ _ _ => rfl)
          · obtain rfl := Option.some.inj ho
            have e24 : a.tmps[24]? = some (.bool true) := hR.reg 10 _ 24 rfl rfl (hd 10 (by kernel_rfl))
            have e5 : a.tmps[5]? = some (.int .u64 lv) := (hR.outer 5 (by kernel_rfl)).trans rfl
            clear hs h0 hd hcl
            unfold StepTo
            go_simp
            exact hK () w2 hJ (fun _ _ _ => rfl)
          · obtain rfl := Option.some.inj ho
            have e24 : a.tmps[24]? = some (.bool true) := hR.reg 10 _ 24 rfl rfl (hd 10 (by kernel_rfl))
            have e26 : a.tmps[26]? = some (.int .u64 r.ver) := hR.reg 12 _ 26 rfl rfl (hd 12 (by kernel_rfl))
            have e27 : a.tmps[27]? = some (.int .u64 lv) := hR.reg 13 _ 27 rfl rfl (hd 13 (by kernel_rfl))
            clear hs h0 hd hcl
            unfold StepTo
            go_simp
            exact hK () w2 hJ (fun _ _ _ => rfl)
          · obtain rfl := Option.some.inj ho
            have e21 : a.tmps[21]? = some (.bool false) := hR.reg 7 _ 21 rfl rfl (hd 7 (by kernel_rfl))
            have e24 : a.tmps[24]? = some (.bool true) := hR.reg 10 _ 24 rfl rfl (hd 10 (by kernel_rfl))
            have e28 : a.tmps[28]? = some (.bool false) := hR.reg 14 _ 28 rfl rfl (hd 14 (by kernel_rfl))
            clear hs h0 hd hcl
            unfold StepTo
            go_simp
            exact hK () w2 hJ (fun _ _ _ => rfl)
          · obtain rfl := Option.some.inj ho
            have e21 : a.tmps[21]? = some (.bool false) := hR.reg 7 _ 21 rfl rfl (hd 7 (by kernel_rfl))
            have e29 : a.tmps[29]? = some (.bool false) := hR.reg 15 _ 29 rfl rfl (hd 15 (by kernel_rfl))
            clear hs h0 hd hcl
            unfold StepTo
            go_simp
            exact hK () w2 hJ (fun _ _ _ => rfl)
        case done =>
          intro listed θ a w2 hall hJ hR
          have ha := (hR.whole [some 14, some 15, some 16, some 17, some 18, some 19, some 20, some 21, some 22, some 23, some 24, some 25, some 26, some 27, some 28, some 29, some 30] rfl rfl (by kernel_rfl) hall).trans (b := _) (c := ⟨#[.pointer (some ⟨rb, 0, none⟩), .agg #[.int .u64 r.id, .int .u64 r.ver, .slice s m cp], undef, .pointer (some ⟨b3, 0, none⟩), .bool false, .int .u64 lv, .int .i64 (ix : Int), .tuple #[.int .u64 lv, .int .i64 (ix : Int)], .pointer (some ⟨rb, 0, none⟩), .pointer (some ⟨b3, 0, none⟩), .int .u64 r.id, .tuple #[.int .u64 lv, .int .i64 (ix : Int)], .int .u64 lv, .int .i64 (ix : Int), .pointer (some ⟨rb, 0, none⟩), .pointer (some ⟨rb, 0, none⟩), .pointer (some ⟨rb, 0, none⟩), .int .i64 attrs, .agg #[.int .u64 r.id, .int .u64 r.ver, .slice s m cp], .bool true, .bool false, .bool false, .int .i64 (ix : Int), .bool true, .bool true, .pointer (some ⟨b3, 1, none⟩), .int .u64 r.ver, .int .u64 lv, .bool false, .bool false, .bool false, undef, undef, undef, undef, undef, undef, undef, undef, undef, undef, undef, undef, undef, undef, undef, undef, undef, undef, undef, undef, undef, undef], []⟩) (by kernel_rfl)
          subst ha
          have HJ := Lib.hid hJ
          clear hR hall hJ
          have S1 := Lib.hid (HRM.out.later HJ.out.1)
          have X31 := S1.out.box
          have c31 := X31.cell; have f31 := X31.free; have z31 := X31.lt
          clear HJ c3 f3 z3 X31 HRM XB HS H0 HL4 X3
          go_upto_region 5 with (go_at_call 51; go_loud (refine (rm_drop r.id HM2.out (by omega) S1.out).mono ?_; rintro e4 w4 ⟨rfl, h4⟩; have S4 := Lib.hid h4; clear h4 S1))
          clear c31 f31 z31
          obtain ⟨h0, LA9, n9, c9, vI, vV, hs4⟩ := S4.out
          have hn9 : (dropR L r.id).length = n9 := (hs4.at (i := 4) (E := recE) rfl).1
          have HS4 := Lib.hid hs4; have H0 := Lib.hid h0
          clear hs4 h0
          obtain ⟨⟨L9, pb⟩, hpb⟩ : ∃ p, putR (dropR L r.id) r = p := ⟨_, rfl⟩
          have HPB := Lib.hid hpb
          clear hpb
          refine wp_regs (Θ := Option Addr × Nat × Nat) (by kernel_rfl) (by kernel_rfl) 53 rfl (by kernel_rfl) (fun θ i => if i = 6 ∨ i = 7 then .tuple #[.slice θ.1 θ.2.1 θ.2.2, .bool pb] else if i = 8 then .slice θ.1 θ.2.1 θ.2.2 else ([.pointer (some ⟨rb, 0, none⟩), .pointer (some ⟨rb, 0, none⟩), .pointer (some ⟨rb, 0, none⟩), .pointer (some ⟨rb, 1, none⟩), .slice LA9 n9 c9, .agg #[.int .u64 r.id, .int .u64 r.ver, .slice s m cp], undef, undef, undef, .bool pb, .pointer (some ⟨rb, 0, none⟩), .pointer (some ⟨rb, 1, none⟩), undef] : List Value).getD i undef)
            (fun l θ w2 => Sta W (tsP (tAnd M b3 #[.int .u64 r.id, .int .u64 r.ver, .slice s m cp]) rb attrs LA9 n9 c9 vI vV I V (dropR L r.id) L9 (l.getD 6 false) (l.getD 12 false) θ) w2) (none, 0, 0) ?start5 ?step5 ?done5
          case start5 => exact (HS4.out.later (Same.drew _).1).addData (t := tNone) rfl fun _ _ => trivial
          case step5 =>
            intro l θ a w2 i o K ho h0 hsz hd hcl hJ hR hK
            have hi : i < 13 := (Array.getElem?_eq_some_iff.1 ho).1
            have hof := getD_ff h0
            have cl : ∀ j k, Region.waitsFor .any _ j k = true → l.getD k false = false → l.getD j false = false := fun j k hw hk => by
              cases hj : l.getD j false with
              | false => rfl
              | true => rw [hcl j k hw hj] at hk; cases hk
            have so : ∀ k, i ≠ k → (l.setIfInBounds i true).getD k false = l.getD k false := fun k hk => getD_set_other hk
            have se : (l.setIfInBounds i true).getD i false = true := getD_set_self (by rw [hsz]; exact (Array.getElem?_eq_some_iff.1 ho).1)
            have hc : i = 0 ∨ i = 1 ∨ i = 2 ∨ i = 3 ∨ i = 4 ∨ i = 5 ∨ i = 6 ∨ i = 7 ∨ i = 8 ∨ i = 9 ∨ i = 10 ∨ i = 11 ∨ i = 12 := by omega
            rcases hc with rfl | rfl | rfl | rfl | rfl | rfl | rfl | rfl | rfl | rfl | rfl | rfl | rfl
            · obtain rfl := Option.some.inj ho
              have e0 : a.tmps[0]? = some (.pointer (some ⟨rb, 0, none⟩)) := (hR.outer 0 (by kernel_rfl)).trans rfl
              clear hsz h0 hd hcl cl hof
              unfold StepTo
              go_simp
              exact hK θ w2 (by simp only [so 6 (by decide), so 12 (by decide)]; exact hJ) (fun _ _ _ => rfl)
            · obtain rfl := Option.some.inj ho
              have e0 : a.tmps[0]? = some (.pointer (some ⟨rb, 0, none⟩)) := (hR.outer 0 (by kernel_rfl)).trans rfl
              clear hsz h0 hd hcl cl hof
              unfold StepTo
              go_simp
              exact hK θ w2 (by simp only [so 6 (by decide), so 12 (by decide)]; exact hJ) (fun _ _ _ => rfl)
            · obtain rfl := Option.some.inj ho
              have e37 : a.tmps[37]? = some (.pointer (some ⟨rb, 0, none⟩)) := hR.reg 1 _ 37 rfl rfl (hd 1 (by kernel_rfl))
              clear hsz h0 hd hcl cl hof
              unfold StepTo
              go_simp
              exact hK θ w2 (by simp only [so 6 (by decide), so 12 (by decide)]; exact hJ) (fun _ _ _ => rfl)
            · obtain rfl := Option.some.inj ho
              have e38 : a.tmps[38]? = some (.pointer (some ⟨rb, 0, none⟩)) := hR.reg 2 _ 38 rfl rfl (hd 2 (by kernel_rfl))
              clear hsz h0 hd hcl cl hof
              unfold StepTo
              go_simp
              exact hK θ w2 (by simp only [so 6 (by decide), so 12 (by decide)]; exact hJ) (fun _ _ _ => rfl)
            · obtain rfl := Option.some.inj ho
              have e39 : a.tmps[39]? = some (.pointer (some ⟨rb, 1, none⟩)) := hR.reg 3 _ 39 rfl rfl (hd 3 (by kernel_rfl))
              have q6 := cl 6 4 (by kernel_rfl) hof
              have q7 := cl 7 6 (by kernel_rfl) q6
              have q8 := cl 8 7 (by kernel_rfl) q7
              have q12 := cl 12 8 (by kernel_rfl) q8
              have hbx := hJ.blk (i := 1) rfl
              simp only [q12, Bool.false_eq_true, if_false] at hbx
              have cb := hbx.cell; have fb := hbx.free; have zb := hbx.lt
              have cbx : w2.cell? ⟨rb, 1, none⟩ = some (.slice LA9 n9 c9) := cb 1
              clear hbx cb
              clear hsz h0 hd hcl cl hof
              unfold StepTo
              go_simp
              exact hK θ w2 (by simp only [so 6 (by decide), so 12 (by decide)]; exact hJ) (fun _ _ _ => rfl)
            · obtain rfl := Option.some.inj ho
              have e3 : a.tmps[3]? = some (.pointer (some ⟨b3, 0, none⟩)) := (hR.outer 3 (by kernel_rfl)).trans rfl
              obtain ⟨c5, hg⟩ := hJ.get (i := 0) rfl
              have hbx : Box w2 b3 #[.int .u64 r.id, .int .u64 r.ver, .slice s m cp] := hg.2.1
              have cb := hbx.cell; have fb := hbx.free; have zb := hbx.lt
              clear hbx hg
              clear hsz h0 hd hcl cl hof
              unfold StepTo
              go_simp
              exact hK θ w2 (by simp only [so 6 (by decide), so 12 (by decide)]; exact hJ) (fun _ _ _ => rfl)
            · obtain rfl := Option.some.inj ho
              have e40 : a.tmps[40]? = some (.slice LA9 n9 c9) := hR.reg 4 _ 40 rfl rfl (hd 4 (by kernel_rfl))
              have e41 : a.tmps[41]? = some (.agg #[.int .u64 r.id, .int .u64 r.ver, .slice s m cp]) := hR.reg 5 _ 41 rfl rfl (hd 5 (by kernel_rfl))
              have Q7 := cl 7 6 (by kernel_rfl) hof
              have Q8 := cl 8 7 (by kernel_rfl) Q7
              have Q12 := cl 12 8 (by kernel_rfl) Q8
              obtain ⟨c5, hJ0⟩ := hJ
              have hcon := r18put (D := Quiet c5 w2) (id := r.id) (ver := r.ver) (vals := r.vals) w2 (show recE.At w2 (Quiet c5 w2) LA9 n9 c9 (dropR L r.id) from hJ0.data (i := 4) rfl) (RM.ints hJ0 HV.out) HOK.out (fun b hb => hb.2) (by omega)
              rw [show putR (dropR L r.id) ⟨r.id, r.ver, r.vals⟩ = (L9, pb) from HPB.out] at hcon
              have HC := Lib.hid hcon
              clear hcon hsz h0 hd hcl cl
              unfold StepTo
              go_simp
              go_at_call 40
              refine HC.out.mono ?_
              rintro e5 w5 ⟨A5, n5, k5, rfl, ha5, hb5⟩
              refine hK (A5, n5, k5) w5 ?_ (fun j hj hl => ?_)
              · have h5 := (hJ0.later hb5).setData (t := tNone) (t' := tAt recE A5 n5 k5 L9) 5 (by unfold tsP; rw [hof]; rfl) rfl (ha5.move fun x hx hlt => ⟨rfl, by rcases hx.1 with q | q; exact q.1; exact hJ0.fresh x q, hx.2⟩)
                simp only [se, so 12 (by decide)]
                have q12 : l.getD 12 false = false := Q12
                unfold tsP at h5 ⊢
                simp only [q12, Bool.false_eq_true, if_false] at h5 ⊢
                exact ⟨c5, h5⟩
              · by_cases e7 : j = 7
                · subst e7; exact absurd hl (by rw [Q7]; exact Bool.false_ne_true)
                · by_cases e8 : j = 8
                  · subst e8; exact absurd hl (by rw [Q8]; exact Bool.false_ne_true)
                  · have e67 : ¬ (j = 6 ∨ j = 7) := by omega
                    simp only [if_neg e67, if_neg e8]
            · obtain rfl := Option.some.inj ho
              have e42 : a.tmps[42]? = some (.tuple #[.slice θ.1 θ.2.1 θ.2.2, .bool pb]) := hR.reg 6 _ 42 rfl rfl (hd 6 (by kernel_rfl))
              clear hsz h0 hd hcl cl hof
              unfold StepTo
              go_simp
              exact hK θ w2 (by simp only [so 6 (by decide), so 12 (by decide)]; exact hJ) (fun _ _ _ => rfl)
            · obtain rfl := Option.some.inj ho
              have e35 : a.tmps[35]? = some (.tuple #[.slice θ.1 θ.2.1 θ.2.2, .bool pb]) := hR.reg 7 _ 35 rfl rfl (hd 7 (by kernel_rfl))
              clear hsz h0 hd hcl cl hof
              unfold StepTo
              go_simp
              exact hK θ w2 (by simp only [so 6 (by decide), so 12 (by decide)]; exact hJ) (fun _ _ _ => rfl)
            · obtain rfl := Option.some.inj ho
              have e35 : a.tmps[35]? = some (.tuple #[.slice θ.1 θ.2.1 θ.2.2, .bool pb]) := hR.reg 7 _ 35 rfl rfl (hd 7 (by kernel_rfl))
              clear hsz h0 hd hcl cl hof
              unfold StepTo
              go_simp
              exact hK θ w2 (by simp only [so 6 (by decide), so 12 (by decide)]; exact hJ) (fun _ _ _ => rfl)
            · obtain rfl := Option.some.inj ho
              have e36 : a.tmps[36]? = some (.pointer (some ⟨rb, 0, none⟩)) := hR.reg 0 _ 36 rfl rfl (hd 0 (by kernel_rfl))
              clear hsz h0 hd hcl cl hof
              unfold StepTo
              go_simp
              exact hK θ w2 (by simp only [so 6 (by decide), so 12 (by decide)]; exact hJ) (fun _ _ _ => rfl)
            · obtain rfl := Option.some.inj ho
              have e45 : a.tmps[45]? = some (.pointer (some ⟨rb, 0, none⟩)) := hR.reg 10 _ 45 rfl rfl (hd 10 (by kernel_rfl))
              clear hsz h0 hd hcl cl hof
              unfold StepTo
              go_simp
              exact hK θ w2 (by simp only [so 6 (by decide), so 12 (by decide)]; exact hJ) (fun _ _ _ => rfl)
            · obtain rfl := Option.some.inj ho
              have e43 : a.tmps[43]? = some (.slice θ.1 θ.2.1 θ.2.2) := hR.reg 8 _ 43 rfl rfl (hd 8 (by kernel_rfl))
              have e46 : a.tmps[46]? = some (.pointer (some ⟨rb, 1, none⟩)) := hR.reg 11 _ 46 rfl rfl (hd 11 (by kernel_rfl))
              have q8 := hd 8 (by kernel_rfl)
              have hJ2 := hJ.store (i := 1) (π := [2]) (b := rb) 1 (.slice θ.1 θ.2.1 θ.2.2) rfl (by simp) rfl
              have hbx := hJ.blk (i := 1) rfl
              have cb := hbx.cell; have fb := hbx.free; have zb := hbx.lt
              clear hsz h0 hd hcl cl hbx
              unfold StepTo
              go_simp
              refine hK θ _ ?_ (fun _ _ _ => rfl)
              simp only [se, so 6 (by decide)]
              unfold tsP at hJ2 ⊢
              exact hJ2
          case done5 =>
            intro l θ a w2 hall hJ hR
            have ha := (hR.whole [some 36, some 37, some 38, some 39, some 40, some 41, some 42, some 35, some 43, some 44, some 45, some 46, none] rfl rfl (by kernel_rfl) hall).trans (b := _) (c := ⟨#[.pointer (some ⟨rb, 0, none⟩), .agg #[.int .u64 r.id, .int .u64 r.ver, .slice s m cp], undef, .pointer (some ⟨b3, 0, none⟩), .bool false, .int .u64 lv, .int .i64 (ix : Int), .tuple #[.int .u64 lv, .int .i64 (ix : Int)], .pointer (some ⟨rb, 0, none⟩), .pointer (some ⟨b3, 0, none⟩), .int .u64 r.id, .tuple #[.int .u64 lv, .int .i64 (ix : Int)], .int .u64 lv, .int .i64 (ix : Int), .pointer (some ⟨rb, 0, none⟩), .pointer (some ⟨rb, 0, none⟩), .pointer (some ⟨rb, 0, none⟩), .int .i64 attrs, .agg #[.int .u64 r.id, .int .u64 r.ver, .slice s m cp], .bool true, .bool false, .bool false, .int .i64 (ix : Int), .bool true, .bool true, .pointer (some ⟨b3, 1, none⟩), .int .u64 r.ver, .int .u64 lv, .bool false, .bool false, .bool false, .pointer (some ⟨rb, 0, none⟩), .pointer (some ⟨b3, 0, none⟩), .int .u64 r.id, .tuple #[], .tuple #[.slice θ.1 θ.2.1 θ.2.2, .bool pb], .pointer (some ⟨rb, 0, none⟩), .pointer (some ⟨rb, 0, none⟩), .pointer (some ⟨rb, 0, none⟩), .pointer (some ⟨rb, 1, none⟩), .slice LA9 n9 c9, .agg #[.int .u64 r.id, .int .u64 r.ver, .slice s m cp], .tuple #[.slice θ.1 θ.2.1 θ.2.2, .bool pb], .slice θ.1 θ.2.1 θ.2.2, .bool pb, .pointer (some ⟨rb, 0, none⟩), .pointer (some ⟨rb, 1, none⟩), undef, undef, undef, undef, undef, undef], []⟩) (by kernel_rfl)
            subst ha
            simp only [hall 6 (by show 6 < 13; omega), hall 12 (by show 12 < 13; omega)] at hJ
            have S5 := Lib.hid (show RM W (tAnd M b3 #[.int .u64 r.id, .int .u64 r.ver, .slice s m cp]) rb attrs I V L9 w2 from ⟨H0.out, _, _, _, _, _, hJ.pick (ts' := tsM (tAnd M b3 #[.int .u64 r.id, .int .u64 r.ver, .slice s m cp]) rb attrs θ.1 θ.2.1 θ.2.2 vI vV I V L9) (by simp [tsP, tsM])⟩)
            have X5 := S5.out.box
            have c5 := X5.cell; have f5 := X5.free; have z5 := X5.lt
            clear hR hall hJ X5 S4 HS4
            go_wp2_with (go_at_call 52; go_loud (refine (rm_note r.id r.ver HM2.out (by omega) S5.out).mono ?_; rintro e6 w6 ⟨rfl, h6⟩; have S6 := Lib.hid h6.less; clear h6))
            go_ret
            rw [HB.out, HPB.out]
            exact ⟨rfl, fun _ => S6.out, fun h => (by cases h)⟩
    · have HIX := Lib.hid hix
      clear hix
      have HB : Hid (rputB attrs I V r = true) := by show rputB attrs I V r = _; unfold rputB; rw [HRT.out, HIX.out]; rfl
      go_upto_region 2 with (go_at_call 53; go_loud (refine (rm_last r.id HRM.out).mono ?_; rintro e w2 ⟨rfl, rfl⟩; rw [HLV.out, HIX.out]))
      refine wp_regs (Θ := Unit) (by kernel_rfl) (by kernel_rfl) 53 rfl (by kernel_rfl) (fun _ i => ([.pointer (some ⟨rb, 0, none⟩), .pointer (some ⟨rb, 0, none⟩), .pointer (some ⟨rb, 0, none⟩), .int .i64 attrs, .agg #[.int .u64 r.id, .int .u64 r.ver, .slice s m cp], .bool true, .bool false, .bool false, .int .i64 (-1), .bool false, .bool false, undef, undef, undef, undef, .bool false, .bool false] : List Value).getD i undef) (fun _ _ w2 => Same wx w2) () (Same.drew _) ?step ?done
      case step =>
        intro listed θ a w2 i o K ho h0 hs hd hcl hJ hR hK
        have hi : i < 17 := (Array.getElem?_eq_some_iff.1 ho).1
        have X32 := X3.out.below hJ.1 X3.out.lt
        have XB2 := XB.out.below hJ.1 XB.out.lt
        have hc : i = 0 ∨ i = 1 ∨ i = 2 ∨ i = 3 ∨ i = 4 ∨ i = 5 ∨ i = 6 ∨ i = 7 ∨ i = 8 ∨ i = 9 ∨ i = 10 ∨ i = 11 ∨ i = 12 ∨ i = 13 ∨ i = 14 ∨ i = 15 ∨ i = 16 := by omega
        rcases hc with rfl | rfl | rfl | rfl | rfl | rfl | rfl | rfl | rfl | rfl | rfl | rfl | rfl | rfl | rfl | rfl | rfl
        · obtain rfl := Option.some.inj ho
          have e0 : a.tmps[0]? = some (.pointer (some ⟨rb, 0, none⟩)) := (hR.outer 0 (by kernel_rfl)).trans rfl
          clear hs h0 hd hcl
          unfold StepTo
          go_simp
          exact hK () w2 hJ (fun _ _ _ => rfl)
        · obtain rfl := Option.some.inj ho
          have e14 : a.tmps[14]? = some (.pointer (some ⟨rb, 0, none⟩)) := hR.reg 0 _ 14 rfl rfl (hd 0 (by kernel_rfl))
          clear hs h0 hd hcl
          unfold StepTo
          go_simp
          exact hK () w2 hJ (fun _ _ _ => rfl)
        · obtain rfl := Option.some.inj ho
          have e15 : a.tmps[15]? = some (.pointer (some ⟨rb, 0, none⟩)) := hR.reg 1 _ 15 rfl rfl (hd 1 (by kernel_rfl))
          clear hs h0 hd hcl
          unfold StepTo
          go_simp
          exact hK () w2 hJ (fun _ _ _ => rfl)
        · obtain rfl := Option.some.inj ho
          have e16 : a.tmps[16]? = some (.pointer (some ⟨rb, 0, none⟩)) := hR.reg 2 _ 16 rfl rfl (hd 2 (by kernel_rfl))
          have cb := XB2.cell; have fb := XB2.free; have zb2 := XB2.lt
          clear hs h0 hd hcl
          unfold StepTo
          go_simp
          exact hK () w2 hJ (fun _ _ _ => rfl)
        · obtain rfl := Option.some.inj ho
          have e3 : a.tmps[3]? = some (.pointer (some ⟨b3, 0, none⟩)) := (hR.outer 3 (by kernel_rfl)).trans rfl
          have c3 := X32.cell; have f3 := X32.free; have z3 := X32.lt
          clear hs h0 hd hcl
          unfold StepTo
          go_simp
          exact hK () w2 hJ (fun _ _ _ => rfl)
        · obtain rfl := Option.some.inj ho
          have e17 : a.tmps[17]? = some (.int .i64 attrs) := hR.reg 3 _ 17 rfl rfl (hd 3 (by kernel_rfl))
          have e18 : a.tmps[18]? = some (.agg #[.int .u64 r.id, .int .u64 r.ver, .slice s m cp]) := hR.reg 4 _ 18 rfl rfl (hd 4 (by kernel_rfl))
          clear hs h0 hd hcl
          unfold StepTo
          go_simp
          go_at_call 54
          refine (HR.out w2).mono ?_
          rintro e w3 ⟨rfl, rfl⟩
          exact hK () _ (hJ.alloc _) (fun _ _ _ => rfl)
        · obtain rfl := Option.some.inj ho
          have e19 : a.tmps[19]? = some (.bool true) := hR.reg 5 _ 19 rfl rfl (hd 5 (by kernel_rfl))
          clear hs h0 hd hcl
          unfold StepTo
          go_simp
          exact hK () w2 hJ (fun _ _ _ => rfl)
        · obtain rfl := Option.some.inj ho
          have e20 : a.tmps[20]? = some (.bool false) := hR.reg 6 _ 20 rfl rfl (hd 6 (by kernel_rfl))
          clear hs h0 hd hcl
          unfold StepTo
          go_simp
          exact hK () w2 hJ (fun _ _ _ => rfl)
        · obtain rfl := Option.some.inj ho
          have e21 : a.tmps[21]? = some (.bool false) := hR.reg 7 _ 21 rfl rfl (hd 7 (by kernel_rfl))
          have e6 : a.tmps[6]? = some (.int .i64 (-1)) := (hR.outer 6 (by kernel_rfl)).trans rfl
          clear hs h0 hd hcl
          unfold StepTo
          go_simp
          exact hK () w2 hJ (fun _ _ _ => rfl)
        · obtain rfl := Option.some.inj ho
          have e21 : a.tmps[21]? = some (.bool false) := hR.reg 7 _ 21 rfl rfl (hd 7 (by kernel_rfl))
          have e22 : a.tmps[22]? = some (.int .i64 (-1)) := hR.reg 8 _ 22 rfl rfl (hd 8 (by kernel_rfl))
          clear hs h0 hd hcl
          unfold StepTo
          go_simp
          exact hK () w2 hJ (fun _ _ _ => rfl)
        · obtain rfl := Option.some.inj ho
          have e21 : a.tmps[21]? = some (.bool false) := hR.reg 7 _ 21 rfl rfl (hd 7 (by kernel_rfl))
          have e23 : a.tmps[23]? = some (.bool false) := hR.reg 9 _ 23 rfl rfl (hd 9 (by kernel_rfl))
          clear hs h0 hd hcl
          unfold StepTo
          go_simp
          exact hK () w2 hJ (fun _ _ _ => rfl)
        · obtain rfl := Option.some.inj ho
          have e24 : a.tmps[24]? = some (.bool false) := hR.reg 10 _ 24 rfl rfl (hd 10 (by kernel_rfl))
          clear hs h0 hd hcl
          unfold StepTo
          go_simp
          exact hK () w2 hJ (fun _ _ _ => rfl)
        · obtain rfl := Option.some.inj ho
          have e24 : a.tmps[24]? = some (.bool false) := hR.reg 10 _ 24 rfl rfl (hd 10 (by kernel_rfl))
          clear hs h0 hd hcl
          unfold StepTo
          go_simp
          exact hK () w2 hJ (fun _ _ _ => rfl)
        · obtain rfl := Option.some.inj ho
          have e24 : a.tmps[24]? = some (.bool false) := hR.reg 10 _ 24 rfl rfl (hd 10 (by kernel_rfl))
          clear hs h0 hd hcl
          unfold StepTo
          go_simp
          exact hK () w2 hJ (fun _ _ _ => rfl)
        · obtain rfl := Option.some.inj ho
          have e24 : a.tmps[24]? = some (.bool false) := hR.reg 10 _ 24 rfl rfl (hd 10 (by kernel_rfl))
          clear hs h0 hd hcl
          unfold StepTo
          go_simp
          exact hK () w2 hJ (fun _ _ _ => rfl)
        · obtain rfl := Option.some.inj ho
          have e21 : a.tmps[21]? = some (.bool false) := hR.reg 7 _ 21 rfl rfl (hd 7 (by kernel_rfl))
          have e24 : a.tmps[24]? = some (.bool false) := hR.reg 10 _ 24 rfl rfl (hd 10 (by kernel_rfl))
          clear hs h0 hd hcl
          unfold StepTo
          go_simp
          exact hK () w2 hJ (fun _ _ _ => rfl)
        · obtain rfl := Option.some.inj ho
          have e21 : a.tmps[21]? = some (.bool false) := hR.reg 7 _ 21 rfl rfl (hd 7 (by kernel_rfl))
          have e29 : a.tmps[29]? = some (.bool false) := hR.reg 15 _ 29 rfl rfl (hd 15 (by kernel_rfl))
          clear hs h0 hd hcl
          unfold StepTo
          go_simp
          exact hK () w2 hJ (fun _ _ _ => rfl)
      case done =>
        intro listed θ a w2 hall hJ hR
        have ha := (hR.whole [some 14, some 15, some 16, some 17, some 18, some 19, some 20, some 21, some 22, some 23, some 24, some 25, some 26, some 27, some 28, some 29, some 30] rfl rfl (by kernel_rfl) hall).trans (b := _) (c := ⟨#[.pointer (some ⟨rb, 0, none⟩), .agg #[.int .u64 r.id, .int .u64 r.ver, .slice s m cp], undef, .pointer (some ⟨b3, 0, none⟩), .bool false, .int .u64 lv, .int .i64 (-1), .tuple #[.int .u64 lv, .int .i64 (-1)], .pointer (some ⟨rb, 0, none⟩), .pointer (some ⟨b3, 0, none⟩), .int .u64 r.id, .tuple #[.int .u64 lv, .int .i64 (-1)], .int .u64 lv, .int .i64 (-1), .pointer (some ⟨rb, 0, none⟩), .pointer (some ⟨rb, 0, none⟩), .pointer (some ⟨rb, 0, none⟩), .int .i64 attrs, .agg #[.int .u64 r.id, .int .u64 r.ver, .slice s m cp], .bool true, .bool false, .bool false, .int .i64 (-1), .bool false, .bool false, undef, undef, undef, undef, .bool false, .bool false, undef, undef, undef, undef, undef, undef, undef, undef, undef, undef, undef, undef, undef, undef, undef, undef, undef, undef, undef, undef, undef, undef], []⟩) (by kernel_rfl)
        subst ha
        have HJ := Lib.hid hJ
        clear hR hall hJ
        have S1 := Lib.hid (HRM.out.later HJ.out.1)
        have X31 := S1.out.box
        have c31 := X31.cell; have f31 := X31.free; have z31 := X31.lt
        clear HJ c3 f3 z3 X31 HRM XB HS H0 HL4 X3
        go_upto_region 5 with (go_at_call 51; go_loud (refine (rm_drop r.id HM2.out (by omega) S1.out).mono ?_; rintro e4 w4 ⟨rfl, h4⟩; have S4 := Lib.hid h4; clear h4 S1))
        clear c31 f31 z31
        obtain ⟨h0, LA9, n9, c9, vI, vV, hs4⟩ := S4.out
        have hn9 : (dropR L r.id).length = n9 := (hs4.at (i := 4) (E := recE) rfl).1
        have HS4 := Lib.hid hs4; have H0 := Lib.hid h0
        clear hs4 h0
        obtain ⟨⟨L9, pb⟩, hpb⟩ : ∃ p, putR (dropR L r.id) r = p := ⟨_, rfl⟩
        have HPB := Lib.hid hpb
        clear hpb
        refine wp_regs (Θ := Option Addr × Nat × Nat) (by kernel_rfl) (by kernel_rfl) 53 rfl (by kernel_rfl) (fun θ i => if i = 6 ∨ i = 7 then .tuple #[.slice θ.1 θ.2.1 θ.2.2, .bool pb] else if i = 8 then .slice θ.1 θ.2.1 θ.2.2 else ([.pointer (some ⟨rb, 0, none⟩), .pointer (some ⟨rb, 0, none⟩), .pointer (some ⟨rb, 0, none⟩), .pointer (some ⟨rb, 1, none⟩), .slice LA9 n9 c9, .agg #[.int .u64 r.id, .int .u64 r.ver, .slice s m cp], undef, undef, undef, .bool pb, .pointer (some ⟨rb, 0, none⟩), .pointer (some ⟨rb, 1, none⟩), undef] : List Value).getD i undef)
          (fun l θ w2 => Sta W (tsP (tAnd M b3 #[.int .u64 r.id, .int .u64 r.ver, .slice s m cp]) rb attrs LA9 n9 c9 vI vV I V (dropR L r.id) L9 (l.getD 6 false) (l.getD 12 false) θ) w2) (none, 0, 0) ?start5 ?step5 ?done5
        case start5 => exact (HS4.out.later (Same.drew _).1).addData (t := tNone) rfl fun _ _ => trivial
        case step5 =>
          intro l θ a w2 i o K ho h0 hsz hd hcl hJ hR hK
          have hi : i < 13 := (Array.getElem?_eq_some_iff.1 ho).1
          have hof := getD_ff h0
          have cl : ∀ j k, Region.waitsFor .any _ j k = true → l.getD k false = false → l.getD j false = false := fun j k hw hk => by
            cases hj : l.getD j false with
            | false => rfl
            | true => rw [hcl j k hw hj] at hk; cases hk
          have so : ∀ k, i ≠ k → (l.setIfInBounds i true).getD k false = l.getD k false := fun k hk => getD_set_other hk
          have se : (l.setIfInBounds i true).getD i false = true := getD_set_self (by rw [hsz]; exact (Array.getElem?_eq_some_iff.1 ho).1)
          have hc : i = 0 ∨ i = 1 ∨ i = 2 ∨ i = 3 ∨ i = 4 ∨ i = 5 ∨ i = 6 ∨ i = 7 ∨ i = 8 ∨ i = 9 ∨ i = 10 ∨ i = 11 ∨ i = 12 := by omega
          rcases hc with rfl | rfl | rfl | rfl | rfl | rfl | rfl | rfl | rfl | rfl | rfl | rfl | rfl
          · obtain rfl := Option.some.inj ho
            have e0 : a.tmps[0]? = some (.pointer (some ⟨rb, 0, none⟩)) := (hR.outer 0 (by kernel_rfl)).trans rfl
            clear hsz h0 hd hcl cl hof
            unfold StepTo
            go_simp
            exact hK θ w2 (by simp only [so 6 (by decide), so 12 (by decide)]; exact hJ) (fun _ _ _ => rfl)
          · obtain rfl := Option.some.inj ho
            have e0 : a.tmps[0]? = some (.pointer (some ⟨rb, 0, none⟩)) := (hR.outer 0 (by kernel_rfl)).trans rfl
            clear hsz h0 hd hcl cl hof
            unfold StepTo
            go_simp
            exact hK θ w2 (by simp only [so 6 (by decide), so 12 (by decide)]; exact hJ) (fun _ _ _ => rfl)
          · obtain rfl := Option.some.inj ho
            have e37 : a.tmps[37]? = some (.pointer (some ⟨rb, 0, none⟩)) := hR.reg 1 _ 37 rfl rfl (hd 1 (by kernel_rfl))
            clear hsz h0 hd hcl cl hof
            unfold StepTo
            go_simp
            exact hK θ w2 (by simp only [so 6 (by decide), so 12 (by decide)]; exact hJ) (fun _ _ _ => rfl)
          · obtain rfl := Option.some.inj ho
            have e38 : a.tmps[38]? = some (.pointer (some ⟨rb, 0, none⟩)) := hR.reg 2 _ 38 rfl rfl (hd 2 (by kernel_rfl))
            clear hsz h0 hd hcl cl hof
            unfold StepTo
            go_simp
            exact hK θ w2 (by simp only [so 6 (by decide), so 12 (by decide)]; exact hJ) (fun _ _ _ => rfl)
          · obtain rfl := Option.some.inj ho
            have e39 : a.tmps[39]? = some (.pointer (some ⟨rb, 1, none⟩)) := hR.reg 3 _ 39 rfl rfl (hd 3 (by kernel_rfl))
            have q6 := cl 6 4 (by kernel_rfl) hof
            have q7 := cl 7 6 (by kernel_rfl) q6
            have q8 := cl 8 7 (by kernel_rfl) q7
            have q12 := cl 12 8 (by kernel_rfl) q8
            have hbx := hJ.blk (i := 1) rfl
            simp only [q12, Bool.false_eq_true, if_false] at hbx
            have cb := hbx.cell; have fb := hbx.free; have zb := hbx.lt
            have cbx : w2.cell? ⟨rb, 1, none⟩ = some (.slice LA9 n9 c9) := cb 1
            clear hbx cb
            clear hsz h0 hd hcl cl hof
            unfold StepTo
            go_simp
            exact hK θ w2 (by simp only [so 6 (by decide), so 12 (by decide)]; exact hJ) (fun _ _ _ => rfl)
          · obtain rfl := Option.some.inj ho
            have e3 : a.tmps[3]? = some (.pointer (some ⟨b3, 0, none⟩)) := (hR.outer 3 (by kernel_rfl)).trans rfl
            obtain ⟨c5, hg⟩ := hJ.get (i := 0) rfl
            have hbx : Box w2 b3 #[.int .u64 r.id, .int .u64 r.ver, .slice s m cp] := hg.2.1
            have cb := hbx.cell; have fb := hbx.free; have zb := hbx.lt
            clear hbx hg
            clear hsz h0 hd hcl cl hof
            unfold StepTo
            go_simp
            exact hK θ w2 (by simp only [so 6 (by decide), so 12 (by decide)]; exact hJ) (fun _ _ _ => rfl)
          · obtain rfl := Option.some.inj ho
            have e40 : a.tmps[40]? = some (.slice LA9 n9 c9) := hR.reg 4 _ 40 rfl rfl (hd 4 (by kernel_rfl))
            have e41 : a.tmps[41]? = some (.agg #[.int .u64 r.id, .int .u64 r.ver, .slice s m cp]) := hR.reg 5 _ 41 rfl rfl (hd 5 (by kernel_rfl))
            have Q7 := cl 7 6 (by kernel_rfl) hof
            have Q8 := cl 8 7 (by kernel_rfl) Q7
            have Q12 := cl 12 8 (by kernel_rfl) Q8
            obtain ⟨c5, hJ0⟩ := hJ
            have hcon := r18put (D := Quiet c5 w2) (id := r.id) (ver := r.ver) (vals := r.vals) w2 (show recE.At w2 (Quiet c5 w2) LA9 n9 c9 (dropR L r.id) from hJ0.data (i := 4) rfl) (RM.ints hJ0 HV.out) HOK.out (fun b hb => hb.2) (by omega)
            rw [show putR (dropR L r.id) ⟨r.id, r.ver, r.vals⟩ = (L9, pb) from HPB.out] at hcon
            have HC := Lib.hid hcon
            clear hcon hsz h0 hd hcl cl
            unfold StepTo
            go_simp
            go_at_call 40
            refine HC.out.mono ?_
            rintro e5 w5 ⟨A5, n5, k5, rfl, ha5, hb5⟩
            refine hK (A5, n5, k5) w5 ?_ (fun j hj hl => ?_)
            · have h5 := (hJ0.later hb5).setData (t := tNone) (t' := tAt recE A5 n5 k5 L9) 5 (by unfold tsP; rw [hof]; rfl) rfl (ha5.move fun x hx hlt => ⟨rfl, by rcases hx.1 with q | q; exact q.1; exact hJ0.fresh x q, hx.2⟩)
              simp only [se, so 12 (by decide)]
              have q12 : l.getD 12 false = false := Q12
              unfold tsP at h5 ⊢
              simp only [q12, Bool.false_eq_true, if_false] at h5 ⊢
              exact ⟨c5, h5⟩
            · by_cases e7 : j = 7
              · subst e7; exact absurd hl (by rw [Q7]; exact Bool.false_ne_true)
              · by_cases e8 : j = 8
                · subst e8; exact absurd hl (by rw [Q8]; exact Bool.false_ne_true)
                · have e67 : ¬ (j = 6 ∨ j = 7) := by omega
                  simp only [if_neg e67, if_neg e8]
          · obtain rfl := Option.some.inj ho
            have e42 : a.tmps[42]? = some (.tuple #[.slice θ.1 θ.2.1 θ.2.2, .bool pb]) := hR.reg 6 _ 42 rfl rfl (hd 6 (by kernel_rfl))
            clear hsz h0 hd hcl cl hof
            unfold StepTo
            go_simp
            exact hK θ w2 (by simp only [so 6 (by decide), so 12 (by decide)]; exact hJ) (fun _ _ _ => rfl)
          · obtain rfl := Option.some.inj ho
            have e35 : a.tmps[35]? = some (.tuple #[.slice θ.1 θ.2.1 θ.2.2, .bool pb]) := hR.reg 7 _ 35 rfl rfl (hd 7 (by kernel_rfl))
            clear hsz h0 hd hcl cl hof
            unfold StepTo
            go_simp
            exact hK θ w2 (by simp only [so 6 (by decide), so 12 (by decide)]; exact hJ) (fun _ _ _ => rfl)
          · obtain rfl := Option.some.inj ho
            have e35 : a.tmps[35]? = some (.tuple #[.slice θ.1 θ.2.1 θ.2.2, .bool pb]) := hR.reg 7 _ 35 rfl rfl (hd 7 (by kernel_rfl))
            clear hsz h0 hd hcl cl hof
            unfold StepTo
            go_simp
            exact hK θ w2 (by simp only [so 6 (by decide), so 12 (by decide)]; exact hJ) (fun _ _ _ => rfl)
          · obtain rfl := Option.some.inj ho
            have e36 : a.tmps[36]? = some (.pointer (some ⟨rb, 0, none⟩)) := hR.reg 0 _ 36 rfl rfl (hd 0 (by kernel_rfl))
            clear hsz h0 hd hcl cl hof
            unfold StepTo
            go_simp
            exact hK θ w2 (by simp only [so 6 (by decide), so 12 (by decide)]; exact hJ) (fun _ _ _ => rfl)
          · obtain rfl := Option.some.inj ho
            have e45 : a.tmps[45]? = some (.pointer (some ⟨rb, 0, none⟩)) := hR.reg 10 _ 45 rfl rfl (hd 10 (by kernel_rfl))
            clear hsz h0 hd hcl cl hof
            unfold StepTo
            go_simp
            exact hK θ w2 (by simp only [so 6 (by decide), so 12 (by decide)]; exact hJ) (fun _ _ _ => rfl)
          · obtain rfl := Option.some.inj ho
            have e43 : a.tmps[43]? = some (.slice θ.1 θ.2.1 θ.2.2) := hR.reg 8 _ 43 rfl rfl (hd 8 (by kernel_rfl))
            have e46 : a.tmps[46]? = some (.pointer (some ⟨rb, 1, none⟩)) := hR.reg 11 _ 46 rfl rfl (hd 11 (by kernel_rfl))
            have q8 := hd 8 (by kernel_rfl)
            have hJ2 := hJ.store (i := 1) (π := [2]) (b := rb) 1 (.slice θ.1 θ.2.1 θ.2.2) rfl (by simp) rfl
            have hbx := hJ.blk (i := 1) rfl
            have cb := hbx.cell; have fb := hbx.free; have zb := hbx.lt
            clear hsz h0 hd hcl cl hbx
            unfold StepTo
            go_simp
            refine hK θ _ ?_ (fun _ _ _ => rfl)
            simp only [se, so 6 (by decide)]
            unfold tsP at hJ2 ⊢
            exact hJ2
        case done5 =>
          intro l θ a w2 hall hJ hR
          have ha := (hR.whole [some 36, some 37, some 38, some 39, some 40, some 41, some 42, some 35, some 43, some 44, some 45, some 46, none] rfl rfl (by kernel_rfl) hall).trans (b := _) (c := ⟨#[.pointer (some ⟨rb, 0, none⟩), .agg #[.int .u64 r.id, .int .u64 r.ver, .slice s m cp], undef, .pointer (some ⟨b3, 0, none⟩), .bool false, .int .u64 lv, .int .i64 (-1), .tuple #[.int .u64 lv, .int .i64 (-1)], .pointer (some ⟨rb, 0, none⟩), .pointer (some ⟨b3, 0, none⟩), .int .u64 r.id, .tuple #[.int .u64 lv, .int .i64 (-1)], .int .u64 lv, .int .i64 (-1), .pointer (some ⟨rb, 0, none⟩), .pointer (some ⟨rb, 0, none⟩), .pointer (some ⟨rb, 0, none⟩), .int .i64 attrs, .agg #[.int .u64 r.id, .int .u64 r.ver, .slice s m cp], .bool true, .bool false, .bool false, .int .i64 (-1), .bool false, .bool false, undef, undef, undef, undef, .bool false, .bool false, .pointer (some ⟨rb, 0, none⟩), .pointer (some ⟨b3, 0, none⟩), .int .u64 r.id, .tuple #[], .tuple #[.slice θ.1 θ.2.1 θ.2.2, .bool pb], .pointer (some ⟨rb, 0, none⟩), .pointer (some ⟨rb, 0, none⟩), .pointer (some ⟨rb, 0, none⟩), .pointer (some ⟨rb, 1, none⟩), .slice LA9 n9 c9, .agg #[.int .u64 r.id, .int .u64 r.ver, .slice s m cp], .tuple #[.slice θ.1 θ.2.1 θ.2.2, .bool pb], .slice θ.1 θ.2.1 θ.2.2, .bool pb, .pointer (some ⟨rb, 0, none⟩), .pointer (some ⟨rb, 1, none⟩), undef, undef, undef, undef, undef, undef], []⟩) (by kernel_rfl)
          subst ha
          simp only [hall 6 (by show 6 < 13; omega), hall 12 (by show 12 < 13; omega)] at hJ
          have S5 := Lib.hid (show RM W (tAnd M b3 #[.int .u64 r.id, .int .u64 r.ver, .slice s m cp]) rb attrs I V L9 w2 from ⟨H0.out, _, _, _, _, _, hJ.pick (ts' := tsM (tAnd M b3 #[.int .u64 r.id, .int .u64 r.ver, .slice s m cp]) rb attrs θ.1 θ.2.1 θ.2.2 vI vV I V L9) (by simp [tsP, tsM])⟩)
          have X5 := S5.out.box
          have c5 := X5.cell; have f5 := X5.free; have z5 := X5.lt
          clear hR hall hJ X5 S4 HS4
          go_wp2_with (go_at_call 52; go_loud (refine (rm_note r.id r.ver HM2.out (by omega) S5.out).mono ?_; rintro e6 w6 ⟨rfl, h6⟩; have S6 := Lib.hid h6.less; clear h6))
          go_ret
          rw [HB.out, HPB.out]
          exact ⟨rfl, fun _ => S6.out, fun h => (by cases h)⟩
end Go.Proofs.Ytgdlajbkppfejaa

namespace Go.Proofs.Ytgdlajbkppfejaa
open Go.RowKit Go.ChangeShapes
set_option maxRecDepth 100000
set_option linter.unusedVariables false
set_option linter.unusedSimpArgs false

/-- Whether a deletion is one. -/
def rdelB (L : List Rec) (id ver : Int) : Bool := (getR L id).isSome && decide ((gotR L id).ver < ver)
set_option maxHeartbeats 4000000 in
theorem rm_del {W w : World} {M : Thing} {rb : Nat} {attrs : Int} {I V : List Int} {L : List Rec} (id ver : Int) (hM : M.π = [1]) (hL : L.length ≤ 4000) (hI : I.length ≤ 9000) (h : RM W M rb attrs I V L w) :
    Calls Try.prog 27 #[.pointer (some ⟨rb, 0, none⟩), .int .u64 id, .int .u64 ver] w fun e w' => e = .returned (.bool (rdelB L id ver)) ∧ (rdelB L id ver = true → RM W M rb attrs (noteI I id) (noteV I V id ver) (dropR L id) w') ∧ (rdelB L id ver = false → RM W M rb attrs I V L w') := by
  have HRM := Lib.hid h; have HM := Lib.hid hM
  obtain ⟨is, his⟩ : ∃ is, (getR L id).isSome = is := ⟨_, rfl⟩
  obtain ⟨gr, hgr⟩ : ∃ gr, gotR L id = gr := ⟨_, rfl⟩
  have HIS := Lib.hid his; have HGR := Lib.hid hgr
  have hdl := dropR_le L id
  clear h hM his hgr
  cases is with
  | false =>
    have HB : Hid (rdelB L id ver = false) := by show rdelB L id ver = _; unfold rdelB; rw [HIS.out]; rfl
    go_enter Try.func27, Try.ntmps27
    go_wp2_with (go_at_call 30; go_loud (refine (rm_get id HRM.out).mono ?_; rintro e2 w2 ⟨s2, n2, k2, rfl, hi2, hb2⟩; rw [HIS.out, HGR.out]; have S2 := Lib.hid (HRM.out.later hb2); clear hi2 hb2))
    go_ret
    rw [HB.out]
    exact ⟨rfl, fun h => (by cases h), fun _ => S2.out.later (below_a1 _ _)⟩
  | true =>
    by_cases hv : gr.ver < ver
    · have HB : Hid (rdelB L id ver = true) := by show rdelB L id ver = _; unfold rdelB; rw [HIS.out, HGR.out, decide_eq_true hv]; rfl
      have hv2 : decide (ver ≤ gr.ver) = false := decide_eq_false (by omega)
      have hv3 : ¬ ver ≤ gr.ver := by omega
      go_enter Try.func27, Try.ntmps27
      go_wp2_with (first
        | (go_at_call 30; go_loud (refine (rm_get id HRM.out).mono ?_; rintro e2 w2 ⟨s2, n2, k2, rfl, hi2, hb2⟩; rw [HIS.out, HGR.out]; have S2 := Lib.hid (HRM.out.later hb2); clear hi2 hb2))
        | (go_at_call 51; go_loud (refine (rm_drop id HM.out (by omega) (S2.out.later (below_a1 _ _))).mono ?_; rintro e3 w3 ⟨rfl, h3⟩; have S3 := Lib.hid h3; clear h3))
        | (go_at_call 52; go_loud (refine (rm_note id ver HM.out (by omega) S3.out).mono ?_; rintro e4 w4 ⟨rfl, h4⟩; have S4 := Lib.hid h4; clear h4)))
      go_ret
      rw [HB.out]
      exact ⟨rfl, fun _ => S4.out, fun h => (by cases h)⟩
    · have HB : Hid (rdelB L id ver = false) := by show rdelB L id ver = _; unfold rdelB; rw [HIS.out, HGR.out, decide_eq_false hv]; rfl
      have hv2 : decide (ver ≤ gr.ver) = true := decide_eq_true (by omega)
      have hv3 : ver ≤ gr.ver := by omega
      clear hv
      go_enter Try.func27, Try.ntmps27
      go_wp2_with (go_at_call 30; go_loud (refine (rm_get id HRM.out).mono ?_; rintro e2 w2 ⟨s2, n2, k2, rfl, hi2, hb2⟩; rw [HIS.out, HGR.out]; have S2 := Lib.hid (HRM.out.later hb2); clear hi2 hb2))
      go_ret
      rw [HB.out]
      exact ⟨rfl, fun h => (by cases h), fun _ => S2.out.later (below_a1 _ _)⟩
end Go.Proofs.Ytgdlajbkppfejaa
