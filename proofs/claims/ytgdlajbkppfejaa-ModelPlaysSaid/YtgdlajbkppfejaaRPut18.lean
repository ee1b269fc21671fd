/- The document's put of records by rising ids. Conditions: the row reads so. -/
import Derived.Test.YtgdlajbkppfejaaGathSta
import Derived.Test.YtgdlajbkppfejaaHCopy
import Derived.Test.YtgdlajbkppfejaaStaMore
import Derived.Deep.RegionLaw
namespace Go.Proofs.Ytgdlajbkppfejaa
open Go.RowKit Go.ChangeShapes
set_option maxRecDepth 100000
set_option linter.unusedVariables false
set_option linter.unusedSimpArgs false

/-- A colouring of one's own: what is read is data. -/
noncomputable def colOf (D : Nat → Prop) (B : Nat) : Col := open Classical in fun b => if D b ∨ B ≤ b then [] else [2]
theorem colOf_D {D : Nat → Prop} {B b : Nat} (h : D b) : colOf D B b = [] := by unfold colOf; exact if_pos (.inl h)
theorem colOf_new {D : Nat → Prop} {B b : Nat} (h : B ≤ b) : colOf D B b = [] := by unfold colOf; exact if_pos (.inr h)
theorem colOf_old {D : Nat → Prop} {B b : Nat} (h : colOf D B b = []) : D b ∨ B ≤ b := by
  unfold colOf at h
  split at h
  · assumption
  · cases h
theorem colOf_ne {D : Nat → Prop} {B b : Nat} : colOf D B b ≠ [1] := by
  unfold colOf
  split <;> simp
/-- What put hands back. -/
def PutAns (w : World) (D : Nat → Prop) (l : List Rec) (bo : Bool) (e : Ending) (w' : World) : Prop :=
  ∃ A n cap, e = .returned (.tuple #[.slice A n cap, .bool bo]) ∧ recE.At w' (fun b => (D b ∨ w.heap.size ≤ b) ∧ b < w'.heap.size) A n cap l ∧ Below w.heap.size w w'
/-- A row of one's own, handed back. -/
theorem put_end {w w7 : World} {D : Nat → Prop} {c7 : Col} {A : Option Addr} {n cap : Nat} {l : List Rec} (st : Stp (· = [1]) (colOf D w.heap.size) w c7 w7) (hr : recE.Row c7 [1] w7 (.slice A n cap) l) :
    recE.At w7 (fun b => (D b ∨ w.heap.size ≤ b) ∧ b < w7.heap.size) A n cap l ∧ Below w.heap.size w w7 := by
  refine ⟨hr.reads.imp fun b hb => ⟨?_, hb.2⟩, st.below (Nat.le_refl _) fun k _ => colOf_ne⟩
  by_cases hlt : b < w.heap.size
  · have := st.col b hlt
    rcases hb.1 with h | h
    · exact absurd (this.symm.trans h) colOf_ne
    · exact colOf_old (this.symm.trans h)
  · exact .inr (by omega)
/-- Where a chain of appends stands: the row, the record that was copied, the block that holds it. -/
def T3 (r : Rec) (c0 : Col) (wy wc : World) (v : Value) (L : List Rec) (cp : Option RecC) (bx : Option Nat) : Prop :=
  ∃ c, Stp (· = [1]) c0 wy c wc ∧ recE.Row c [1] wc v L ∧ (∀ m, cp = some m → recRd wc (Quiet c wc) (encRC m) r) ∧ ∀ m b, cp = some m → bx = some b → Box wc b (encRC m).toArray ∧ Quiet c wc b
section
variable {r : Rec} {c0 : Col} {wy wc wd : World} {v : Value} {L : List Rec} {cp : Option RecC} {bx : Option Nat} {m : RecC}
theorem T3.start (hf : Fresh c0 wy) : T3 r c0 wy wy (.slice none 0 0) [] none none := ⟨c0, Stp.refl _ hf, Elt.Row.nil _ _ _, (fun m h => by cases h), fun m b h => by cases h⟩
theorem T3.later (h : T3 r c0 wy wc v L cp bx) (hb : Below wc.heap.size wc wd) : T3 r c0 wy wd v L cp bx := by
  obtain ⟨c, st, hr, h1, h2⟩ := h
  refine ⟨c, st.trans (Stp.of_below _ st.fresh hb), hr.later st.fresh hb, fun m hm => ?_, fun m b hm hb' => ?_⟩
  · obtain ⟨s, l, q, e, hok, hi⟩ := h1 m hm
    exact ⟨s, l, q, e, hok, hi.move fun b hb' hlt => ⟨hb.block b hlt, hb'.1, Nat.lt_of_lt_of_le hlt hb.size⟩⟩
  · obtain ⟨b1, b2, b3⟩ := h2 m b hm hb'
    exact ⟨b1.below hb b3, b2, Nat.lt_of_lt_of_le b3 hb.size⟩
theorem T3.drew (h : T3 r c0 wy wc v L cp bx) : T3 r c0 wy wc.drew v L cp bx := h.later (Same.drew wc).1
theorem T3.copied {s : Option Addr} {n k : Nat} (h : T3 r c0 wy wc v L none none) (hb : Below wc.heap.size wc wd) (hi : Ints wd (wc.heap.size ≤ ·) .u32 4 s n k r.vals) (hok : r.ok) : T3 r c0 wy wd v L (some ⟨r.id, r.ver, s, n, k⟩) none := by
  obtain ⟨c, st, hr, h1, h2⟩ := h
  refine ⟨c, st.trans (Stp.of_below _ st.fresh hb), hr.later st.fresh hb, fun m hm => ?_, fun m b hm hb' => by cases hb'⟩
  injection hm with hm; subst hm
  exact ⟨s, n, k, rfl, hok, hi.move fun b hb' hlt => ⟨rfl, st.fresh b hb', hlt⟩⟩
theorem T3.box {T : TypeId} (h : T3 r c0 wy wc v L (some m) none) : T3 r c0 wy (wc.alloc (.cells (encRC m).toArray T)) v L (some m) (some wc.heap.size) := by
  obtain ⟨c, st, hr, h1, h2⟩ := h
  have hb := below_a1 wc (.cells (encRC m).toArray T)
  refine ⟨c, st.trans (Stp.of_below _ st.fresh hb), hr.later st.fresh hb, fun m hm => ?_, fun m' b hm hb' => ?_⟩
  · obtain ⟨s, l, q, e, hok, hi⟩ := h1 m hm
    exact ⟨s, l, q, e, hok, hi.move fun b hb' hlt => ⟨hb.block b hlt, hb'.1, Nat.lt_of_lt_of_le hlt hb.size⟩⟩
  · injection hm with hm; injection hb' with hb'; subst hm hb'
    exact ⟨Box.new _ _ _, st.fresh _ (Nat.le_refl _), by rw [size_alloc]; omega⟩
theorem T3.cell (h : T3 r c0 wy wc v L cp bx) {b : Nat} (hb : Quiet c0 wy b) : (∀ i, wc.cell? ⟨b, i, none⟩ = wy.cell? ⟨b, i, none⟩) ∧ (∀ i, wc.frozen? ⟨b, i, none⟩ = wy.frozen? ⟨b, i, none⟩) ∧ b < wc.heap.size := by
  obtain ⟨c, st, _⟩ := h
  have hn : ¬ c0 b = [1] := by rw [hb.1]; simp
  exact ⟨fun i => st.only.cell b i hb.2 hn, fun i => st.only.frozen b i hb.2 hn, Nat.lt_of_lt_of_le hb.2 st.only.size⟩
theorem T3.turned {c c' : Col} {w' : World} {v' : Value} {L' : List Rec} (st : Stp (· = [1]) c0 wy c wc) (h1 : ∀ m, cp = some m → recRd wc (Quiet c wc) (encRC m) r) (h2 : ∀ m b, cp = some m → bx = some b → Box wc b (encRC m).toArray ∧ Quiet c wc b)
    (st' : Stp (· = [1]) c wc c' w') (hr : recE.Row c' [1] w' v' L') : T3 r c0 wy w' v' L' cp bx := by
  have mv : ∀ b, Quiet c wc b → b < wc.heap.size → w'.heap[b]? = wc.heap[b]? ∧ Quiet c' w' b := fun b hb hlt => ⟨st'.only.block b hlt (by show ¬ c b = [1]; rw [hb.1]; simp), (st'.col b hlt).trans hb.1, Nat.lt_of_lt_of_le hlt st'.only.size⟩
  refine ⟨c', st.trans st', hr, fun m hm => ?_, fun m b hm hb' => ?_⟩
  · obtain ⟨s, l, q, e, hok, hi⟩ := h1 m hm
    exact ⟨s, l, q, e, hok, hi.move mv⟩
  · obtain ⟨b1, b2⟩ := h2 m b hm hb'
    exact ⟨b1.only st'.only (by show ¬ c b = [1]; rw [b2.1]; simp), (mv b b2 b2.2).2⟩
/-- append of a part of what was there. -/
theorem T3.step {ops : Array Oper} {o : Oper} {a : Act} {K : Act → World → Prop} {Q : Exit → Act → World → Prop} {F : Prop} {N : List Rec} (hgd : o.guard = none) (s x : Operand)
    (ho : o.op = .call { callee := .builtin .append, args := #[s, x], argTypes := #[recE.ST, recE.ST] })
    (hs : a.eval s = v) (A : Option Addr) (n cap : Nat) (hx : a.eval x = .slice A n cap) (h : T3 r c0 wy wc v L cp bx) (hN : recE.At wy (Quiet c0 wy) A n cap N) {q : Nat} (hq : L.length + n = q) (hlen : q ≤ 1000000)
    (hK : ∀ B cap w', T3 r c0 wy w' (.slice B q cap) (L ++ N) cp bx → K (a.put o.dst (.slice B q cap)) w') :
    if Region.wanted o (yielded ops a.tmps) = true then Oper.wp Try.prog o a wc K Q else F := by
  subst hq
  obtain ⟨c, st, hr, h1, h2⟩ := h
  refine Elt.step_append (E := recE) hgd s x ho v hs hr st.fresh (by simp) A n cap hx (hN.move fun b hb hlt => ⟨st.only.block b hlt (by show ¬ c0 b = [1]; rw [hb.1]; simp), (st.col b hlt).trans hb.1, Nat.lt_of_lt_of_le hlt st.only.size⟩) hlen fun B cap w' c' st' hr' => ?_
  exact hK B cap w' (T3.turned st h1 h2 st' hr')
theorem T3.copy {s : Option Addr} {n k : Nat} (h : T3 r c0 wy wc v L none none) (hi : Ints wy (Quiet c0 wy) .u32 4 s n k r.vals) (hok : r.ok) :
    Calls Try.prog 42 #[.agg #[.int .u64 r.id, .int .u64 r.ver, .slice s n k]] wc fun e w' => ∃ s' n' k', e = .returned (.agg #[.int .u64 r.id, .int .u64 r.ver, .slice s' n' k']) ∧ T3 r c0 wy w' v L (some ⟨r.id, r.ver, s', n', k'⟩) none := by
  obtain ⟨c, st, hr, h1, h2⟩ := id h
  refine (hcopy_any_R r.id r.ver wc (D := Quiet c wc) (hi.move fun b hb hlt => ⟨st.only.block b hlt (by show ¬ c0 b = [1]; rw [hb.1]; simp), (st.col b hlt).trans hb.1, Nat.lt_of_lt_of_le hlt st.only.size⟩) (fun b hb => hb.2)).mono ?_
  rintro e w' ⟨v', rfl, ⟨s', n', k', rfl, hi'⟩, hb⟩
  exact ⟨s', n', k', rfl, h.copied hb hi' hok⟩
/-- append of the copied record. -/
theorem T3.push {ops : Array Oper} {o : Oper} {a : Act} {K : Act → World → Prop} {Q : Exit → Act → World → Prop} {F : Prop} {b : Nat} (hgd : o.guard = none) (s x : Operand)
    (ho : o.op = .call { callee := .builtin .append, args := #[s, x], argTypes := #[recE.ST, recE.ST] })
    (hs : a.eval s = v) (hx : a.eval x = .slice (some ⟨b, 0, none⟩) 1 1) (h : T3 r c0 wy wc v L (some m) (some b)) {q : Nat} (hq : L.length + 1 = q) (hlen : q ≤ 1000000)
    (hK : ∀ B cap w', T3 r c0 wy w' (.slice B q cap) (L ++ [r]) (some m) (some b) → K (a.put o.dst (.slice B q cap)) w') :
    if Region.wanted o (yielded ops a.tmps) = true then Oper.wp Try.prog o a wc K Q else F := by
  subst hq
  obtain ⟨c, st, hr, h1, h2⟩ := h
  obtain ⟨b1, b2⟩ := h2 m b rfl rfl
  refine Elt.step_append (E := recE) hgd s x ho v hs hr st.fresh (by simp) (some ⟨b, 0, none⟩) 1 1 hx (Elt.At.one b1 b2 (show recE.rd wc (Quiet c wc) (encRC m) r from h1 m rfl)) hlen fun B cap w' c' st' hr' => ?_
  exact hK B cap w' (T3.turned st h1 h2 st' hr')
end
/-- What a chain of appends hands back. -/
theorem T3.ans {w wy w7 : World} {D : Nat → Prop} {r : Rec} {A : Option Addr} {n cap : Nat} {l : List Rec} {cp : Option RecC} {bx : Option Nat} (hB : Below w.heap.size w wy) (h : T3 r (colOf D w.heap.size) wy w7 (.slice A n cap) l cp bx) :
    PutAns w D l true (.returned (.tuple #[.slice A n cap, .bool true])) w7 := by
  obtain ⟨c, st, hr, _⟩ := h
  obtain ⟨h1, h2⟩ := put_end ((Stp.of_below _ (fun b hb => colOf_new hb) hB).trans st) hr
  exact ⟨A, n, cap, rfl, h1, h2⟩
/-- The rest of a slice. -/
theorem at_rest {P : Program} {α : Type} {E : Elt P α} {w : World} {D : Nat → Prop} {A : Option Addr} {n cap : Nat} {l : List α} (h : E.At w D A n cap l) {k : Nat} (hk : k ≤ n) : E.At w D (if cap = k then A else A.map (·.add (k * E.k))) (n - k) (cap - k) (l.drop k) := by
  obtain ⟨h1, h2, h3, h4, h5⟩ := id h
  by_cases hn : 0 < n
  · obtain ⟨b, off, rfl, hd, hc⟩ := h5 hn
    by_cases hc' : cap = k
    · rw [if_pos hc']
      have : l.drop k = [] := List.drop_of_length_le (by omega)
      rw [this]
      exact ⟨by simp; omega, by omega, by omega, (fun h => by cases h), fun h => by omega⟩
    · rw [if_neg hc', Option.map_some, addr_add]
      have := h.part k (n - k) (cap - k) (by omega) (by omega) (by omega)
      rwa [List.take_of_length_le (by simp; omega)] at this
  · have hn0 : n = 0 := by omega
    have hk0 : k = 0 := by omega
    subst hn0 hk0
    have hl : l = [] := List.eq_nil_of_length_eq_zero h1
    subst hl
    refine ⟨rfl, by omega, by omega, fun hA => ?_, fun h => by omega⟩
    split at hA
    · have := h4 hA; omega
    · cases A with
      | none => have := h4 rfl; omega
      | some ad => cases hA
theorem at_rest2 {w : World} {D : Nat → Prop} {b off n cap : Nat} {l : List Rec} (h : recE.At w D (some ⟨b, off, none⟩) n cap l) {k : Nat} (hk : k ≤ n) : recE.At w D (if cap = k then some ⟨b, off, none⟩ else some ⟨b, off + k * 3, none⟩) (n - k) (cap - k) (l.drop k) := by
  have := at_rest h hk
  rw [Option.map_some, addr_add] at this
  exact this
set_option maxHeartbeats 8000000 in
theorem r18put {D : Nat → Prop} {A : Option Addr} {n cap : Nat} {l : List Rec} {id ver : Int} {s : Option Addr} {m cp : Nat} {vals : List Int} (w : World) (hl : recE.At w D A n cap l) (hi : Ints w D .u32 4 s m cp vals) (hok : Rec.ok ⟨id, ver, vals⟩) (hD : ∀ b, D b → b < w.heap.size) (hn : n ≤ 10000) :
    Calls Try.prog 40 #[.slice A n cap, .agg #[.int .u64 id, .int .u64 ver, .slice s m cp]] w (PutAns w D (putR l ⟨id, ver, vals⟩).1 (putR l ⟨id, ver, vals⟩).2) := by
  obtain ⟨hln, hnc, hcm, hA0, hcells⟩ := recsAt hl
  have HL := Lib.hid hl; have HI := Lib.hid hi; have HOK := Lib.hid hok; have HD := Lib.hid hD; have HN := Lib.hid hln; have HC := Lib.hid hcells
  clear hl hi hok hD hln hcells
  go_enter Try.func40, Try.ntmps40
  go_wp2
  go_loopw [6] (fun s6 wr => ∃ k : Nat, k ≤ n ∧ s6 = .int .i64 k ∧ (∀ (j : Nat) x, j < k → l[j]? = some x → x.id < id) ∧ Box wr w.heap.size #[.int .u64 id, .int .u64 ver, .slice s m cp] ∧ Below w.heap.size w wr) (fun s _ => n - (intOf s).toNat)
  case atStart => exact ⟨0, Nat.zero_le _, rfl, (fun j x hj => by omega), Box.new _ _ _, below_a1 _ _⟩
  case round =>
    obtain ⟨k, hk, rfl, hall, hbx, hbl⟩ := hrel
    have HALL := Lib.hid hall; have HBX := Lib.hid hbx; have HBL := Lib.hid hbl
    have c3 := hbx.cell; have z3 := hbx.lt; have f3 := hbx.free
    clear hall hbx hbl
    by_cases hlt : k < n
    · obtain ⟨x, hx⟩ : ∃ x, l[k]? = some x := ⟨_, List.getElem?_eq_getElem (by rw [HN.out]; exact hlt)⟩
      obtain ⟨bb, off, rfl, hbb, hcc⟩ := HC.out (by omega)
      obtain ⟨xok, xs, xm, xc, p0, p1, p2, _⟩ := hcc k x hx
      have HXC := Lib.hid (fun (wr : World) (hB : Below w.heap.size w wr) => And.intro ((hB.cell (p := ⟨bb, off + k * 3, none⟩) (HD.out bb hbb)).trans p0) (And.intro ((hB.cell (p := ⟨bb, off + k * 3 + 1, none⟩) (HD.out bb hbb)).trans p1) (Nat.lt_of_lt_of_le (HD.out bb hbb) hB.size)))
      obtain ⟨d0, d1, zbb⟩ := HXC.out wr HBL.out
      have HX := Lib.hid hx
      clear hcc p0 p1 p2 hbb hx xok
      by_cases h1 : x.id < id
      · go_upto_region 2 with fail
        go_quiet (fail)
        go_wp2
        go_roundw
        case rel => exact ⟨k + 1, by omega, by go_num, (fun j y hj hy => by
          by_cases hjk : j < k
          · exact HALL.out j y hjk hy
          · obtain rfl : j = k := by omega
            rw [HX.out] at hy; injection hy with hy; rw [← hy]; exact h1), HBX.out.drewN _, belowN HBL.out _⟩
        case measure => simp [intOf]; omega
      · have HE := Lib.hid (putR_at (r := ⟨id, ver, vals⟩) (l := l) (k := k) (by rw [HN.out]; exact hk) HALL.out (fun y hy => by rw [HX.out] at hy; injection hy with hy; subst hy; exact h1))
        rw [HX.out] at HE
        dsimp only at HE
        --[1
        by_cases h2 : x.id = id
        · by_cases h3 : ver ≤ x.ver
          · rw [if_pos h2, if_pos h3] at HE
            have h2' : (x.id == id) = true := by rw [beq_iff_eq]; exact h2
            clear h2
            go_upto_region 2 with fail
            go_quiet (fail)
            go_upto_region 4 with fail
            refine wp_abs (fun wx => Box wx w.heap.size #[.int .u64 id, .int .u64 ver, .slice s m cp] ∧ Below w.heap.size w wx) ⟨HBX.out.drewN _, belowN HBL.out _⟩ ?_
            clear c3 z3 f3 HBX HBL d0 d1 zbb
            rintro wr ⟨X, hB⟩
            have HBX := Lib.hid X; have HBL := Lib.hid hB
            have c3 := X.cell; have f3 := X.free; have z3 := X.lt
            clear X hB
            obtain ⟨d0, d1, zbb⟩ := HXC.out wr HBL.out
            go_quiet (fail)
            go_upto_region 5 with fail
            refine wp_abs (fun wx => Box wx w.heap.size #[.int .u64 id, .int .u64 ver, .slice s m cp] ∧ Below w.heap.size w wx) ⟨HBX.out.drewN _, belowN HBL.out _⟩ ?_
            clear c3 z3 f3 HBX HBL d0 d1 zbb
            rintro wr ⟨X, hB⟩
            have HBX := Lib.hid X; have HBL := Lib.hid hB
            have c3 := X.cell; have f3 := X.free; have z3 := X.lt
            clear X hB
            obtain ⟨d0, d1, zbb⟩ := HXC.out wr HBL.out
            go_quiet (fail)
            go_wp2
            refine bodyPost_ret (v := .tuple #[.slice (some ⟨bb, off, none⟩) n cap, .bool false]) (by simp [results, Try.results40, go_sem]) rfl ?_
            rw [HE.out]
            exact ⟨_, _, _, rfl, HL.out.move fun b hb hlt => ⟨(belowN HBL.out _).block b hlt, .inl hb, Nat.lt_of_lt_of_le hlt (belowN HBL.out _).size⟩, belowN HBL.out _⟩
          · rw [if_pos h2, if_neg h3] at HE
            have h2' : (x.id == id) = true := by rw [beq_iff_eq]; exact h2
            clear h2
            go_upto_region 2 with fail
            go_quiet (fail)
            go_upto_region 4 with fail
            refine wp_abs (fun wx => Box wx w.heap.size #[.int .u64 id, .int .u64 ver, .slice s m cp] ∧ Below w.heap.size w wx) ⟨HBX.out.drewN _, belowN HBL.out _⟩ ?_
            clear c3 z3 f3 HBX HBL d0 d1 zbb
            rintro wr ⟨X, hB⟩
            have HBX := Lib.hid X; have HBL := Lib.hid hB
            have c3 := X.cell; have f3 := X.free; have z3 := X.lt
            clear X hB
            obtain ⟨d0, d1, zbb⟩ := HXC.out wr HBL.out
            go_quiet (fail)
            go_upto_region 5 with fail
            refine wp_abs (fun wx => Box wx w.heap.size #[.int .u64 id, .int .u64 ver, .slice s m cp] ∧ Below w.heap.size w wx) ⟨HBX.out.drewN _, belowN HBL.out _⟩ ?_
            clear c3 z3 f3 HBX HBL d0 d1 zbb
            rintro wr ⟨X, hB⟩
            have HBX := Lib.hid X; have HBL := Lib.hid hB
            have c3 := X.cell; have f3 := X.free; have z3 := X.lt
            clear X hB
            obtain ⟨d0, d1, zbb⟩ := HXC.out wr HBL.out
            go_quiet (fail)
            go_upto_region 7 with fail
            refine wp_abs (fun wx => Box wx w.heap.size #[.int .u64 id, .int .u64 ver, .slice s m cp] ∧ Below w.heap.size w wx) ⟨HBX.out.drewN _, belowN HBL.out _⟩ ?_
            clear c3 z3 f3 HBX HBL d0 d1 zbb
            rintro wr ⟨X, hB⟩
            have HBX := Lib.hid X; have HBL := Lib.hid hB
            have c3 := X.cell; have f3 := X.free; have z3 := X.lt
            clear X hB
            obtain ⟨d0, d1, zbb⟩ := HXC.out wr HBL.out
            clear d0 d1 zbb
            have HF0 : Hid (Fresh (colOf D w.heap.size) wr) := fun b hb => colOf_new (Nat.le_trans HBL.out.size hb)
            have HQ : Hid (∀ b, D b → b < w.heap.size → wr.heap[b]? = w.heap[b]? ∧ Quiet (colOf D w.heap.size) wr b) := fun b hb hlt => ⟨HBL.out.block b hlt, colOf_D hb, Nat.lt_of_lt_of_le hlt HBL.out.size⟩
            have HAT := Lib.hid (HL.out.move HQ.out)
            have HIQ := Lib.hid (HI.out.move HQ.out)
            have HQB := Lib.hid (show Quiet (colOf D w.heap.size) wr w.heap.size from ⟨colOf_new (Nat.le_refl _), z3⟩)
            have P1 := Lib.hid (HAT.out.head (m := k) (cap' := cap) (by omega) (by omega) (by omega) hA0)
            obtain ⟨A3, hA3⟩ : ∃ A3, (if cap = k + 1 then some (⟨bb, off, none⟩ : Addr) else some ⟨bb, off + (k + 1) * 3, none⟩) = A3 := ⟨_, rfl⟩
            have P3 : Hid (recE.At wr (Quiet (colOf D w.heap.size) wr) A3 (n - (k + 1)) (cap - (k + 1)) (l.drop (k + 1))) := by
              rw [← hA3]; exact at_rest2 HAT.out (by omega)
            have T0 := Lib.hid (T3.start (r := ⟨id, ver, vals⟩) HF0.out)
            have hk2 : k ≤ cap := by omega
            have hk3 : k + 1 ≤ cap := by omega
            have hk7 : 0 ≤ (k : Int) + 1 := by omega
            have hk4 : ((k : Int) + 1).toNat = k + 1 := by omega
            have hk5 : (k : Int) + 1 ≤ (n : Int) := by omega
            have hk6 : IntKind.i64.wrap ((k : Int) + 1) = (k : Int) + 1 := by simp only [IntKind.wrap, IntKind.bits, IntKind.signed]; simp; omega
            have HLT : Hid ((l.take k).length = k) := by have := HN.out; show (l.take k).length = k; simp; omega
            have HLE := Lib.hid (show k ≤ 10000 from by omega)
            have HLD : Hid ((l.drop (k + 1)).length = n - (k + 1)) := by have := HN.out; show (l.drop (k + 1)).length = _; simp; omega
            have TT := Lib.hid T0.out.drew
            clear T0 HAT
            go_region_law (first
              | (refine T3.step (q := k) rfl _ _ rfl rfl (some ⟨bb, off, none⟩) k cap rfl (by first | exact TT.out | exact TT.out.box) P1.out (by simp) (by omega) ?_; intro B5 cap5 w5 t5; rw [List.nil_append] at t5; clear TT; have TT := Lib.hid t5; have q3 := t5.cell HQB.out; have c5 := fun i => (q3.1 i).trans (c3 i); have f5 := fun i => (q3.2.1 i).trans (f3 i); have z5 := q3.2.2; clear t5 q3)
              | (refine T3.push (q := k + 1) rfl _ _ rfl rfl rfl (by first | exact TT.out | exact TT.out.box) (by rw [HLT.out]) (by omega) ?_; intro B6 cap6 w6 t6; clear TT; have TT := Lib.hid t6; clear t6)
              | (refine T3.step (q := k + 1 + (n - (k + 1))) rfl _ _ rfl rfl A3 (n - (k + 1)) (cap - (k + 1)) rfl TT.out P3.out (by rw [List.length_append, HLT.out]; rfl) (by omega) ?_; intro B7 cap7 w7 t7; clear TT; have TT := Lib.hid t7; clear t7)
              | (go_simp; go_at_call 42; refine (T3.copy (r := ⟨id, ver, vals⟩) TT.out HIQ.out HOK.out).mono ?_; rintro e4 w4 ⟨s4, n4, k4, rfl, t4⟩; clear TT; have TT := Lib.hid t4; clear t4))
            all_goals
              go_wp2
              refine bodyPost_ret (v := .tuple #[.slice B7 (k + 1 + (n - (k + 1))) cap7, .bool true]) (by simp [results, Try.results40, go_sem]) rfl ?_
              rw [HE.out]
              exact T3.ans HBL.out TT.out
        · rw [if_neg h2] at HE
          have h2' : (x.id == id) = false := by rw [beq_eq_false_iff_ne]; exact h2
          clear h2
          go_upto_region 2 with fail
          go_quiet (fail)
          go_upto_region 4 with fail
          refine wp_abs (fun wx => Box wx w.heap.size #[.int .u64 id, .int .u64 ver, .slice s m cp] ∧ Below w.heap.size w wx) ⟨HBX.out.drewN _, belowN HBL.out _⟩ ?_
          clear c3 z3 f3 HBX HBL d0 d1 zbb
          rintro wr ⟨X, hB⟩
          have HBX := Lib.hid X; have HBL := Lib.hid hB
          have c3 := X.cell; have f3 := X.free; have z3 := X.lt
          clear X hB
          obtain ⟨d0, d1, zbb⟩ := HXC.out wr HBL.out
          go_quiet (fail)
          go_upto_region 8 with fail
          refine wp_abs (fun wx => Box wx w.heap.size #[.int .u64 id, .int .u64 ver, .slice s m cp] ∧ Below w.heap.size w wx) ⟨HBX.out.drewN _, belowN HBL.out _⟩ ?_
          clear c3 z3 f3 HBX HBL d0 d1 zbb
          rintro wr ⟨X, hB⟩
          have HBX := Lib.hid X; have HBL := Lib.hid hB
          have c3 := X.cell; have f3 := X.free; have z3 := X.lt
          clear X hB
          obtain ⟨d0, d1, zbb⟩ := HXC.out wr HBL.out
          clear d0 d1 zbb
          have HF0 : Hid (Fresh (colOf D w.heap.size) wr) := fun b hb => colOf_new (Nat.le_trans HBL.out.size hb)
          have HQ : Hid (∀ b, D b → b < w.heap.size → wr.heap[b]? = w.heap[b]? ∧ Quiet (colOf D w.heap.size) wr b) := fun b hb hlt => ⟨HBL.out.block b hlt, colOf_D hb, Nat.lt_of_lt_of_le hlt HBL.out.size⟩
          have HAT := Lib.hid (HL.out.move HQ.out)
          have HIQ := Lib.hid (HI.out.move HQ.out)
          have HQB := Lib.hid (show Quiet (colOf D w.heap.size) wr w.heap.size from ⟨colOf_new (Nat.le_refl _), z3⟩)
          have P1 := Lib.hid (HAT.out.head (m := k) (cap' := cap) (by omega) (by omega) (by omega) hA0)
          obtain ⟨A3, hA3⟩ : ∃ A3, (if cap = k then some (⟨bb, off, none⟩ : Addr) else some ⟨bb, off + (k) * 3, none⟩) = A3 := ⟨_, rfl⟩
          have P3 : Hid (recE.At wr (Quiet (colOf D w.heap.size) wr) A3 (n - (k)) (cap - (k)) (l.drop (k))) := by
            rw [← hA3]; exact at_rest2 HAT.out (by omega)
          have T0 := Lib.hid (T3.start (r := ⟨id, ver, vals⟩) HF0.out)
          have hk2 : k ≤ cap := by omega
          have HLT : Hid ((l.take k).length = k) := by have := HN.out; show (l.take k).length = k; simp; omega
          have HLE := Lib.hid (show k ≤ 10000 from by omega)
          have HLD : Hid ((l.drop (k)).length = n - (k)) := by have := HN.out; show (l.drop (k)).length = _; simp; omega
          have TT := Lib.hid T0.out.drew
          clear T0 HAT
          go_region_law (first
            | (refine T3.step (q := k) rfl _ _ rfl rfl (some ⟨bb, off, none⟩) k cap rfl (by first | exact TT.out | exact TT.out.box) P1.out (by simp) (by omega) ?_; intro B5 cap5 w5 t5; rw [List.nil_append] at t5; clear TT; have TT := Lib.hid t5; have q3 := t5.cell HQB.out; have c5 := fun i => (q3.1 i).trans (c3 i); have f5 := fun i => (q3.2.1 i).trans (f3 i); have z5 := q3.2.2; clear t5 q3)
            | (refine T3.push (q := k + 1) rfl _ _ rfl rfl rfl (by first | exact TT.out | exact TT.out.box) (by rw [HLT.out]) (by omega) ?_; intro B6 cap6 w6 t6; clear TT; have TT := Lib.hid t6; clear t6)
            | (refine T3.step (q := k + 1 + (n - (k))) rfl _ _ rfl rfl A3 (n - (k)) (cap - (k)) rfl TT.out P3.out (by rw [List.length_append, HLT.out]; rfl) (by omega) ?_; intro B7 cap7 w7 t7; clear TT; have TT := Lib.hid t7; clear t7)
            | (go_simp; go_at_call 42; refine (T3.copy (r := ⟨id, ver, vals⟩) TT.out HIQ.out HOK.out).mono ?_; rintro e4 w4 ⟨s4, n4, k4, rfl, t4⟩; clear TT; have TT := Lib.hid t4; clear t4))
          all_goals
            go_wp2
            refine bodyPost_ret (v := .tuple #[.slice B7 (k + 1 + (n - (k))) cap7, .bool true]) (by simp [results, Try.results40, go_sem]) rfl ?_
            rw [HE.out]
            exact T3.ans HBL.out TT.out
        --1]
    · have HE := Lib.hid (putR_at (r := ⟨id, ver, vals⟩) (l := l) (k := k) (by rw [HN.out]; exact hk) HALL.out (fun x hx => by have := (List.getElem?_eq_some_iff.1 hx).1; rw [HN.out] at this; omega))
      have hnone : l[k]? = none := List.getElem?_eq_none (by rw [HN.out]; omega)
      rw [hnone] at HE
      clear hnone
      --<<
      go_upto_region 2 with fail
      go_quiet (fail)
      go_upto_region 4 with fail
      refine wp_abs (fun wx => Box wx w.heap.size #[.int .u64 id, .int .u64 ver, .slice s m cp] ∧ Below w.heap.size w wx) ⟨HBX.out.drewN _, belowN HBL.out _⟩ ?_
      clear c3 z3 f3 HBX HBL
      rintro wr ⟨X, hB⟩
      have HBX := Lib.hid X; have HBL := Lib.hid hB
      have c3 := X.cell; have f3 := X.free; have z3 := X.lt
      clear X hB
      go_quiet (fail)
      go_upto_region 8 with fail
      refine wp_abs (fun wx => Box wx w.heap.size #[.int .u64 id, .int .u64 ver, .slice s m cp] ∧ Below w.heap.size w wx) ⟨HBX.out.drewN _, belowN HBL.out _⟩ ?_
      clear c3 z3 f3 HBX HBL
      rintro wr ⟨X, hB⟩
      have HBX := Lib.hid X; have HBL := Lib.hid hB
      have c3 := X.cell; have f3 := X.free; have z3 := X.lt
      clear X hB
      have HF0 : Hid (Fresh (colOf D w.heap.size) wr) := fun b hb => colOf_new (Nat.le_trans HBL.out.size hb)
      have HQ : Hid (∀ b, D b → b < w.heap.size → wr.heap[b]? = w.heap[b]? ∧ Quiet (colOf D w.heap.size) wr b) := fun b hb hlt => ⟨HBL.out.block b hlt, colOf_D hb, Nat.lt_of_lt_of_le hlt HBL.out.size⟩
      have HAT := Lib.hid (HL.out.move HQ.out)
      have HIQ := Lib.hid (HI.out.move HQ.out)
      have HQB := Lib.hid (show Quiet (colOf D w.heap.size) wr w.heap.size from ⟨colOf_new (Nat.le_refl _), z3⟩)
      have P1 := Lib.hid (HAT.out.head (m := k) (cap' := cap) (by omega) (by omega) (by omega) hA0)
      obtain ⟨A3, hA3⟩ : ∃ A3, (if cap = k then A else A.map (·.add ((k) * 3))) = A3 := ⟨_, rfl⟩
      have P3 : Hid (recE.At wr (Quiet (colOf D w.heap.size) wr) A3 (n - (k)) (cap - (k)) (l.drop (k))) := by
        rw [← hA3]; exact at_rest HAT.out (by omega)
      have T0 := Lib.hid (T3.start (r := ⟨id, ver, vals⟩) HF0.out)
      have hk2 : k ≤ cap := by omega
      have HLT : Hid ((l.take k).length = k) := by have := HN.out; show (l.take k).length = k; simp; omega
      have HLE := Lib.hid (show k ≤ 10000 from by omega)
      have HLD : Hid ((l.drop (k)).length = n - (k)) := by have := HN.out; show (l.drop (k)).length = _; simp; omega
      have TT := Lib.hid T0.out.drew
      clear T0 HAT
      go_region_law (first
        | (refine T3.step (q := k) rfl _ _ rfl rfl A k cap rfl (by first | exact TT.out | exact TT.out.box) P1.out (by simp) (by omega) ?_; intro B5 cap5 w5 t5; rw [List.nil_append] at t5; clear TT; have TT := Lib.hid t5; have q3 := t5.cell HQB.out; have c5 := fun i => (q3.1 i).trans (c3 i); have f5 := fun i => (q3.2.1 i).trans (f3 i); have z5 := q3.2.2; clear t5 q3)
        | (refine T3.push (q := k + 1) rfl _ _ rfl rfl rfl (by first | exact TT.out | exact TT.out.box) (by rw [HLT.out]) (by omega) ?_; intro B6 cap6 w6 t6; clear TT; have TT := Lib.hid t6; clear t6)
        | (refine T3.step (q := k + 1 + (n - (k))) rfl _ _ rfl rfl A3 (n - (k)) (cap - (k)) rfl TT.out P3.out (by rw [List.length_append, HLT.out]; rfl) (by omega) ?_; intro B7 cap7 w7 t7; clear TT; have TT := Lib.hid t7; clear t7)
        | (go_simp; go_at_call 42; refine (T3.copy (r := ⟨id, ver, vals⟩) TT.out HIQ.out HOK.out).mono ?_; rintro e4 w4 ⟨s4, n4, k4, rfl, t4⟩; clear TT; have TT := Lib.hid t4; clear t4))
      all_goals
        go_wp2
        refine bodyPost_ret (v := .tuple #[.slice B7 (k + 1 + (n - (k))) cap7, .bool true]) (by simp [results, Try.results40, go_sem]) rfl ?_
        rw [HE.out]
        exact T3.ans HBL.out TT.out
      -->>
end Go.Proofs.Ytgdlajbkppfejaa
