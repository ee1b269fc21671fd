/- Messages as elements; a cell of an element is set; the client: own. Conditions: it is a slice of messages. -/
import Derived.Test.YtdpamikobmefeaaCliD
namespace Go.Proofs.Ytdpamikobmefeaa
open Go.RowKit Go.ChangeShapes
set_option maxRecDepth 100000
set_option linter.unusedVariables false
set_option linter.unusedSimpArgs false

structure Msg where
  kind : Int
  hub : Int
  point : Int
  client : Int
  op : Int
  target : Int
  hops : Int
  owner : Int
  turn : Int
  value : Int
  rc : Rec
  gone : Bool
  sf : Int
  st : Int
  box : List Rng
  recs : List Rec
def msgCells (m : Msg) (s : Option Addr) (l c : Nat) (bA : Option Addr) (bn bc : Nat) (rA : Option Addr) (rn rk : Nat) : List Value :=
  [.int .i64 m.kind, .int .i64 m.hub, .int .u32 m.point, .int .i64 m.client, .int .i64 m.op, .int .u32 m.target, .int .i64 m.hops, .int .u32 m.owner, .int .i64 m.turn, .int .u32 m.value, .int .u64 m.rc.id, .int .u64 m.rc.ver, .slice s l c, .bool m.gone, .int .u32 m.sf, .int .u32 m.st, .slice bA bn bc, .slice rA rn rk]
def msgRd (w : World) (D : Nat → Prop) (cs : List Value) (m : Msg) : Prop := ∃ s l c bA bn bc rA rn rk, cs = msgCells m s l c bA bn bc rA rn rk ∧ Ints w D .u32 4 s l c m.rc.vals ∧ RngsAt w D bA bn bc m.box ∧ recE.At w D rA rn rk m.recs
theorem msg_info : ∃ i : TypeInfo, Try.prog.info? 82 = some i ∧ i.zero = some (.agg zeroM) ∧ i.size = 18 ∧ i.bytes = 184 := by
  obtain ⟨j0, jii, jz0, jz1, jz2⟩ := info_parts (show (Try.prog.info? 82).map (fun i => (i.zero, i.size, i.bytes)) = some (some (.agg zeroM), 18, 184) by kernel_rfl)
  exact ⟨j0, jii, jz0, jz1, jz2⟩
def msgE : Elt Try.prog Msg where
  T := 82
  ST := 73
  k := 18
  bytes := 184
  zero := .agg zeroM
  rd := msgRd
  pos := by omega
  len := fun ⟨s, l, c, bA, bn, bc, rA, rn, rk, h, _⟩ => by rw [h]; rfl
  one := fun ⟨s, l, c, bA, bn, bc, rA, rn, rk, h, _⟩ u hu => by
    subst h
    simp only [msgCells, List.mem_cons, List.not_mem_nil, or_false] at hu
    rcases hu with rfl | rfl | rfl | rfl | rfl | rfl | rfl | rfl | rfl | rfl | rfl | rfl | rfl | rfl | rfl | rfl | rfl | rfl <;> rfl
  move := fun ⟨s, l, c, bA, bn, bc, rA, rn, rk, h, h1, h2, h3⟩ hm => ⟨s, l, c, bA, bn, bc, rA, rn, rk, h, h1.move hm, h2.move hm, h3.move hm⟩
  und := Try.underlying73
  info := msg_info
  zlen := rfl
  blim := by omega
/-- A cell of an element of a row is set. -/
theorem Sta.editAt {α : Type} {E : Elt Try.prog α} {W w : World} {ts ts' : List Thing} {π : List Int} {g n cap i : Nat} {l : List α} (j t : Nat) (v : Value) (x x' : α) (h : Sta W ts w) (hi : ts[i]? = some (tRow E π (.slice (some ⟨g, 0, none⟩) n cap) l)) (hπ : π ≠ []) (hx : l[j]? = some x) (ht : t < E.k)
    (hrd : ∀ c, S0 W ts c w → ∀ cs, E.rd w (Quiet c w) cs x → E.rd w (Quiet c w) (cs.set t v) x') (hts : ts.set i (tRow E π (.slice (some ⟨g, 0, none⟩) n cap) (l.set j x')) = ts') : Sta W ts' (w.setCell ⟨g, j * E.k + t, none⟩ v) := by
  obtain ⟨c, h⟩ := h
  have hr : E.Row c π w (.slice (some ⟨g, 0, none⟩) n cap) l := h.get hi
  obtain ⟨cur, b1, b2, b3, b4⟩ := hr.cur
  have hjl := (List.getElem?_eq_some_iff.1 hx).1
  have hlt : j * E.k + t < cur.size := by
    have : (j + 1) * E.k ≤ l.length * E.k := Nat.mul_le_mul_right _ hjl
    rw [Nat.add_mul, Nat.one_mul] at this
    omega
  have he : ∀ (q : Nat) y, (l.set j x')[q]? = some y → ∃ cs, (∀ (u : Nat) z, cs[u]? = some z → (cur.setIfInBounds (j * E.k + t) v)[q * E.k + u]? = some z) ∧ E.rd w (Quiet c w) cs y := fun q y hq => by
    rw [List.getElem?_set] at hq
    have hbx : Box w g cur := ⟨_, b1⟩
    by_cases hjq : j = q
    · subst hjq
      rw [if_pos rfl, if_pos hjl] at hq
      injection hq with hq
      subst hq
      obtain ⟨cs, c1, c2⟩ := hr.cells hx
      refine ⟨cs.set t v, fun u z hz => ?_, hrd c h cs c2⟩
      rw [List.getElem?_set] at hz
      by_cases hut : t = u
      · subst hut
        rw [if_pos rfl] at hz
        split at hz
        · rw [Array.getElem?_setIfInBounds, if_pos rfl, if_pos hlt]; exact hz
        · cases hz
      · rw [if_neg hut] at hz
        rw [Array.getElem?_setIfInBounds, if_neg (by omega), ← hbx.cell]
        exact c1 u z hz
    · rw [if_neg hjq] at hq
      obtain ⟨cs, c1, c2⟩ := hr.cells hq
      refine ⟨cs, fun u z hz => ?_, c2⟩
      have hu : u < E.k := by rw [← E.len c2]; exact (List.getElem?_eq_some_iff.1 hz).1
      have hne : j * E.k + t ≠ q * E.k + u := fun e => by
        apply hjq
        have h1 : (j * E.k + t) / E.k = j := by rw [Nat.mul_comm, Nat.mul_add_div E.pos, Nat.div_eq_of_lt ht]; omega
        have h2 : (q * E.k + u) / E.k = q := by rw [Nat.mul_comm, Nat.mul_add_div E.pos, Nat.div_eq_of_lt hu]; omega
        rw [← h1, ← h2, e]
      rw [Array.getElem?_setIfInBounds, if_neg hne, ← hbx.cell]
      exact c1 u z hz
  obtain ⟨st, hr'⟩ := hr.edit (L' := l.set j x') (cur' := cur.setIfInBounds (j * E.k + t) v) (w' := w.setCell ⟨g, j * E.k + t, none⟩ v) h.fresh hπ (by simp) b1 (b1.set _) (by simp) ((Only.refl (· = g) w).setCell (p := ⟨g, j * E.k + t, none⟩) (.inl rfl) _) he
  exact Sta.turn h hi hπ (t' := tRow E π (.slice (some ⟨g, 0, none⟩) n cap) (l.set j x')) rfl st hr' hts
/-- An empty row just made. -/
theorem Sta.addRow {α : Type} {W w : World} {ts : List Thing} (E : Elt Try.prog α) (π : List Int) (h : Sta W ts w) (hπ : π ≠ []) (ho : ∀ x ∈ ts, x.π ≠ π) : Sta W (ts ++ [tRow E π (.slice (some ⟨w.heap.size, 0, none⟩) 0 0) []]) (w.alloc (.cells #[] E.T)) := by
  obtain ⟨c, h⟩ := h
  have st : Stp (· = π) c w (fun k => if k = w.heap.size then π else c k) (w.alloc (.cells #[] E.T)) := by
    refine ⟨(Only.refl _ _).alloc _, fun k hk => if_neg (by omega), fun k hk => ?_⟩
    rw [size_alloc] at hk
    show (if _ then _ else _) = _
    rw [if_neg (by omega)]
    exact h.fresh k (by omega)
  refine ⟨_, h.add (t := tRow E π _ []) hπ ho st ⟨[], ?_, fun g hg => ?_, rfl, (fun m hm => by simp at hm), fun j m x hm => by simp at hm⟩⟩
  · exact ⟨by simp, .inr ⟨w.heap.size, 0, #[], rfl, Nat.zero_le _, BoxT.new w #[] E.T, Nat.le_refl _, by unfold maxLen; omega, by simp, by simp⟩⟩
  · simp only [Value.ownBlock] at hg
    injection hg with hg
    show (if _ then _ else _) = _
    rw [if_pos hg.symm]
theorem clone_msgs {W w : World} {ts : List Thing} {A : Option Addr} {n cap : Nat} {l : List Msg} (π : List Int) (h : Sta W ts w) (hπ : π ≠ []) (ho : ∀ x ∈ ts, x.π ≠ π) (hl : ∀ c, S0 W ts c w → msgE.At w (Quiet c w) A n cap l) (hn : n ≤ 10000) :
    Calls Try.prog 119 #[.slice A n cap] w fun e w' => ∃ B c', e = .returned (.slice B n c') ∧ Sta W (ts ++ [tRow msgE π (.slice B n c') l]) w' := by
  have qS := eql_slice_nil (P := Try.prog) Try.underlying73
  obtain ⟨c0, h0⟩ := id h
  have hl0 := hl c0 h0
  have hln := hl0.1
  cases A with
  | none =>
    have hc := hl0.2.2.2.1 rfl
    have hnc := hl0.2.1
    obtain rfl : n = 0 := by omega
    obtain rfl : l = [] := List.eq_nil_of_length_eq_zero hln
    have S1 := Lib.hid (h.rowNil msgE π hπ ho)
    clear hl0 h0 hl
    go_enter Try.func119, Try.ntmps119
    go_wp2
    go_ret
    exact ⟨none, 0, rfl, S1.out⟩
  | some ad =>
    have S2 : Sta W (ts ++ [tAt msgE (some ad) n cap l, tRow msgE π (.slice (some ⟨w.heap.size, 0, none⟩) 0 0) []]) (w.alloc (.cells #[] 82)) := by
      have q : Sta W (ts ++ [tAt msgE (some ad) n cap l]) w := ⟨c0, h0.addData rfl hl0⟩
      have := q.addRow msgE π hπ (fun x hx => by
        rcases List.mem_append.1 hx with hx | hx
        · exact ho x hx
        · simp only [List.mem_singleton] at hx; subst hx; exact fun e => hπ e.symm)
      rwa [List.append_assoc] at this
    have S1 := Lib.hid S2
    clear hl0 h0 h hl S2
    go_enter Try.func119, Try.ntmps119
    go_wp2_with (at_builtin; go_loud (refine Sta.wpList_append (E := msgE) (L := ([] : List Msg)) (N := l) (ts.length + 1) rfl _ _ rfl (.slice (some ⟨w.heap.size, 0, none⟩) 0 0) rfl S1.out (by rw [List.getElem?_append_right (by omega)]; simp) hπ (some ad) n cap rfl (fun c h1 => h1.data (i := ts.length) (by rw [List.getElem?_append_right (Nat.le_refl _)]; simp)) (by show 0 + n ≤ _; omega) ?_; intro B2 cap2 w2 st2))
    have S3 : Sta W (ts ++ [tRow msgE π (.slice B2 n cap2) l]) w2 := by
      refine st2.pick ?_
      rw [List.set_append_right _ _ (by omega), show ts.length + 1 - ts.length = 1 by omega]
      simp only [List.length_nil, Nat.zero_add, List.nil_append]
      exact (List.Sublist.refl ts).append (.cons _ (List.Sublist.refl _))
    go_ret
    exact ⟨B2, cap2, by simp, S3⟩
end Go.Proofs.Ytdpamikobmefeaa
