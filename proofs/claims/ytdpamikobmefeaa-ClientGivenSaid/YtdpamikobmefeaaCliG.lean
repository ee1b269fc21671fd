/- The client: the words of writes. Conditions: it is one. -/
import Derived.Test.YtdpamikobmefeaaCliK
namespace Go.Proofs.Ytdpamikobmefeaa
open Go.RowKit Go.ChangeShapes Go.Maps
set_option maxRecDepth 100000
set_option linter.unusedVariables false
set_option linter.unusedSimpArgs false

/-- A write's message. -/
def stM (client n : Int) (id : Int) (vs : List Int) (hub : Nat) (v : Int) (gone : Bool) : Msg := ⟨1, hub, 0, client, n, v, 0, 0, 0, v, ⟨id, n, vs.set hub v⟩, gone, 0, 0, [], []⟩
theorem stM_rd {w : World} {D : Nat → Prop} {client n id : Int} {vs : List Int} {hub : Nat} {v : Int} {gone : Bool} {s : Option Addr} {l k : Nat} (hi : Ints w D .u32 4 s l k (vs.set hub v)) : msgRd w D (storeCells client n hub id n v gone s l k) (stM client n id vs hub v gone) :=
  ⟨s, l, k, none, 0, 0, none, 0, 0, rfl, hi, rngsAt (Elt.At.nil w D) (by omega), Elt.At.nil _ _⟩
/-- The messages of a hub: where it is put; where it is erased. -/
def hubM (client n id : Int) (vs : List Int) (put : Bool) (hub : Nat) (v0 : Int) (pl : List Int) : List Msg :=
  (if put = true then [stM client n id vs hub v0 false] else []) ++ (pl.filter fun v => !put || v != v0).map fun v => stM client n id vs hub v true
/-- The cells of an operation that writes. -/
abbrev opC (st : Int) (id : Int) (vM : Value) (wm : Nat) (vV : Value) : Array Value := #[.int .i64 st, .bool true, .int .u64 id, vM, .map (some wm), vV, .int .i64 0, .int .i64 0, .slice none 0 0, .int .u64 0, .bool false, .pointer none, .pointer none]
/-- The things in the midst of writes. -/
def tsW (πo : List Int) (ob rb hb wm : Nat) (id n : Int) (vA : Option Addr) (vn vc : Nat) (vs : List Int) (pA : Option Addr) (pn pc : Nat) (P : List (List Int)) (lA : Option Addr) (ln lc : Nat) (vM vV : Value) (msgs : List Msg) (vals : List (List Int)) (rest : List Thing) : List Thing :=
  [tInts vA vn vc vs, tAt u32sE pA pn pc P, tBox rb #[.int .u64 id, .int .u64 n, .slice vA vn vc], tMapN [9] wm 0, tBlk πo ob (opC 1 id vM wm vV), tRow msgE [7] vM msgs, tRow u32sE [8] vV vals] ++ rest
theorem Sta.addD {W w : World} {ts : List Thing} {t : Thing} (h : Sta W ts w) (hp : t.π = []) (ht : ∀ c, S0 W ts c w → t.R c w) : Sta W (ts ++ [t]) w := by
  obtain ⟨c, h⟩ := h
  exact ⟨c, h.addData hp (ht c h)⟩
theorem Sta.addMap {W w : World} {ts : List Thing} (π : List Int) (h : Sta W ts w) (hπ : π ≠ []) (ho : ∀ x ∈ ts, x.π ≠ π) : Sta W (ts ++ [tMapN π w.heap.size 0]) (w.alloc (.map #[] 0)) := by
  obtain ⟨c, hs⟩ := h
  have st1 : Stp (· = π) c w (fun k => if k = w.heap.size then π else c k) (w.alloc (.map #[] 0)) := by
    refine ⟨(Only.refl _ _).alloc _, fun k hk => if_neg (by omega), fun k hk => ?_⟩
    rw [size_alloc] at hk
    show (if _ then _ else _) = _
    rw [if_neg (by omega)]
    exact hs.fresh k (by omega)
  exact ⟨_, hs.add (t := tMapN π w.heap.size 0) hπ ho st1 ⟨if_pos rfl, 0, .map [], Nat.le_refl _, World.ownsMap_made _ _ _ _⟩⟩
theorem Sta.perm' {W w : World} {ts ts' : List Thing} (h : Sta W ts w) (hp : ts.Perm ts') : Sta W ts' w := by
  obtain ⟨c, h⟩ := h
  refine ⟨c, h.stp, fun t ht => h.own t (hp.mem_iff.2 ht), ?_⟩
  have h1 : ts.Pairwise (fun a b => (a.π ≠ [] → a.π ≠ b.π) ∧ (b.π ≠ [] → b.π ≠ a.π)) := h.apart.imp fun {a b} hab => ⟨hab, fun hb e => hab (by rw [← e]; exact hb) e.symm⟩
  exact ((hp.pairwise_iff (fun {a b} h => ⟨h.2, h.1⟩)).1 h1).imp fun h => h.1
/-- What is there as the hubs begin. -/
theorem tsW_start {W w : World} {ts : List Thing} {πo : List Int} {id n : Int} {vA : Option Addr} {vn vc : Nat} {vs : List Int} {pA : Option Addr} {pn pc : Nat} {P : List (List Int)} {lA : Option Addr} {ln lc : Nat} (h : Sta W ts w) (hv : ∀ c, S0 W ts c w → Ints w (Quiet c w) .u32 4 vA vn vc vs) (hp : ∀ c, S0 W ts c w → u32sE.At w (Quiet c w) pA pn pc P)
    (hπo : πo ≠ []) (ho : ∀ x ∈ ts, x.π ≠ πo ∧ x.π ≠ [7] ∧ x.π ≠ [8] ∧ x.π ≠ [9]) (hπo2 : πo ≠ [7] ∧ πo ≠ [8] ∧ πo ≠ [9]) (T1 T2 T3 : TypeId) :
    Sta W (tsW πo (w.heap.size + 3) w.heap.size (w.heap.size + 1) (w.heap.size + 2) id n vA vn vc vs pA pn pc P lA ln lc (.slice none 0 0) (.slice none 0 0) [] [] ts)
      ((((w.alloc (.cells #[.int .u64 id, .int .u64 n, .slice vA vn vc] T1)).alloc (.cells #[.slice pA pn pc, .slice lA ln lc] T2)).alloc (.map #[] 0)).alloc (.cells (opC 1 id (.slice none 0 0) (w.heap.size + 2) (.slice none 0 0)) T3)) := by
  have s1 := h.addD (t := tInts vA vn vc vs) rfl hv
  have s2 := s1.addD (t := tAt u32sE pA pn pc P) rfl (fun c hc => hp c ⟨hc.stp, fun t ht => hc.own t (by simp [ht]), (List.pairwise_append.1 hc.apart).1⟩)
  have s3 := (s2.addBox #[.int .u64 id, .int .u64 n, .slice vA vn vc] T1).later (below_a1 _ (.cells #[.slice pA pn pc, .slice lA ln lc] T2))
  have s4 := s3.addMap [9] (by simp) (fun x hx => by
    simp only [List.mem_append, List.mem_singleton] at hx
    rcases hx with ((hx | rfl) | rfl) | rfl
    · exact (ho x hx).2.2.2
    · simp [tInts]
    · simp [tAt]
    · simp [tBox])
  have s5 := s4.addBlk πo hπo (fun x hx => by
    simp only [List.mem_append, List.mem_singleton] at hx
    rcases hx with (((hx | rfl) | rfl) | rfl) | rfl
    · exact (ho x hx).1
    · exact fun e => hπo e.symm
    · exact fun e => hπo e.symm
    · exact fun e => hπo e.symm
    · exact fun e => hπo2.2.2 e.symm) (opC 1 id (.slice none 0 0) (w.heap.size + 2) (.slice none 0 0)) T3
  have s6 := s5.rowNil msgE [7] (by simp) (fun x hx => by
    simp only [List.mem_append, List.mem_singleton] at hx
    rcases hx with ((((hx | rfl) | rfl) | rfl) | rfl) | rfl
    · exact (ho x hx).2.1
    · simp [tInts]
    · simp [tAt]
    · simp [tBox]
    · simp [tMapN]
    · exact hπo2.1)
  have s7 := s6.rowNil u32sE [8] (by simp) (fun x hx => by
    simp only [List.mem_append, List.mem_singleton] at hx
    rcases hx with (((((hx | rfl) | rfl) | rfl) | rfl) | rfl) | rfl
    · exact (ho x hx).2.2.1
    · simp [tInts]
    · simp [tAt]
    · simp [tBox]
    · simp [tMapN]
    · exact hπo2.2.1
    · simp [tRow])
  simp only [size_alloc] at s7
  refine Sta.perm' s7 ?_
  unfold tsW
  simp only [List.append_assoc, List.cons_append, List.nil_append]
  exact List.perm_append_comm
/-- The messages of the first hubs. -/
def allM (client n id : Int) (vs : List Int) (put : Bool) (P : List (List Int)) (q : Nat) : List Msg := (List.range q).flatMap fun j => hubM client n id vs put j (vs.getD j 0) (P.getD j [])
theorem allM_succ (client n id : Int) (vs : List Int) (put : Bool) (P : List (List Int)) (q : Nat) : allM client n id vs put P (q + 1) = allM client n id vs put P q ++ hubM client n id vs put q (vs.getD q 0) (P.getD q []) := by
  unfold allM
  rw [List.range_succ, List.flatMap_append]
  simp
theorem hubM_len (client n id : Int) (vs : List Int) (put : Bool) (hub : Nat) (v0 : Int) (pl : List Int) : (hubM client n id vs put hub v0 pl).length ≤ pl.length + 1 := by
  unfold hubM
  rw [List.length_append, List.length_map]
  have := List.length_filter_le (fun v => !put || v != v0) pl
  split <;> simp <;> omega
theorem allM_len {client n id : Int} {vs : List Int} {put : Bool} {P : List (List Int)} (hP : ∀ (q : Nat) p, P[q]? = some p → p.length ≤ 1000) (q : Nat) : (allM client n id vs put P q).length ≤ q * 1001 := by
  induction q with
  | zero => simp [allM]
  | succ q ih =>
    rw [allM_succ, List.length_append]
    have h1 := hubM_len client n id vs put q (vs.getD q 0) (P.getD q [])
    have h2 : (P.getD q []).length ≤ 1000 := by
      rw [List.getD_eq_getElem?_getD]
      cases hq : P[q]? with
      | none => simp
      | some p => exact hP q p hq
    omega
def allV (put : Bool) (vs : List Int) (q : Nat) : List (List Int) := if put = true then (vs.take q).map fun v => [v] else []
/-- The things in the midst of one message more. -/
def tsV (πo : List Int) (ob rb wm : Nat) (id n : Int) (vA : Option Addr) (vn vc : Nat) (vs : List Int) (pA : Option Addr) (pn pc : Nat) (P : List (List Int)) (vM vV : Value) (msgs : List Msg) (vals : List (List Int)) (rest : List Thing) (cl : Int) (hub : Nat) (v : Int) (gone : Bool) (lc lb la ls : Bool) (θ : Option Addr × Nat × Nat × Nat × Option Addr × Nat) : List Thing :=
  [tInts vA vn vc vs, tAt u32sE pA pn pc P, tBox rb #[.int .u64 id, .int .u64 n, .slice vA vn vc], tMapN [9] wm 0, tBlk πo ob (opC 1 id (if ls = true then .slice θ.2.2.2.2.1 (msgs.length + 1) θ.2.2.2.2.2 else vM) wm vV),
   (if la = true then tRow msgE [7] (.slice θ.2.2.2.2.1 (msgs.length + 1) θ.2.2.2.2.2) (msgs ++ [stM cl n id vs hub v gone]) else tRow msgE [7] vM msgs), tRow u32sE [8] vV vals,
   (if lc = true then tInts θ.1 θ.2.1 θ.2.2.1 (vs.set hub v) else tNone), (if lb = true then tBox θ.2.2.2.1 (storeCells cl n hub id n v gone θ.1 θ.2.1 θ.2.2.1).toArray else tNone)] ++ rest
theorem Sta.intsIn {W w w' : World} {ts ts' : List Thing} {t : Thing} (i : Nat) {A : Option Addr} {n k : Nat} {xs : List Int} (h : Sta W ts w) (hb : Below w.heap.size w w') (hl : Ints w' (w.heap.size ≤ ·) .u32 4 A n k xs) (hi : ts[i]? = some t) (hp : t.π = []) (hts : ts.set i (tInts A n k xs) = ts') : Sta W ts' w' := by
  obtain ⟨c, h⟩ := h
  subst hts
  exact ⟨c, (h.later hb).setData (t := t) (t' := tInts A n k xs) i hi hp.symm (hl.move fun b hb' hlt => ⟨rfl, h.fresh b hb', hlt⟩)⟩
theorem tsV_end {W w : World} {πo : List Int} {ob rb hb wm : Nat} {id n : Int} {vA : Option Addr} {vn vc : Nat} {vs : List Int} {pA : Option Addr} {pn pc : Nat} {P : List (List Int)} {lA : Option Addr} {ln lk : Nat} {vM vV : Value} {msgs : List Msg} {vals : List (List Int)} {rest : List Thing} {cl : Int} {hub : Nat} {v : Int} {gone : Bool} {θ : Option Addr × Nat × Nat × Nat × Option Addr × Nat}
    (h : Sta W (tsV πo ob rb wm id n vA vn vc vs pA pn pc P vM vV msgs vals rest cl hub v gone true true true true θ) w) : Sta W (tsW πo ob rb hb wm id n vA vn vc vs pA pn pc P lA ln lk (.slice θ.2.2.2.2.1 (msgs.length + 1) θ.2.2.2.2.2) vV (msgs ++ [stM cl n id vs hub v gone]) vals rest) w := by
  refine h.pick ?_
  unfold tsV tsW
  simp only [if_true, List.cons_append, List.nil_append]
  repeat (first | exact List.Sublist.refl _ | refine .cons_cons _ ?_)
  exact .cons _ (.cons _ (List.Sublist.refl _))
theorem tsV_start {W w : World} {πo : List Int} {ob rb hb wm : Nat} {id n : Int} {vA : Option Addr} {vn vc : Nat} {vs : List Int} {pA : Option Addr} {pn pc : Nat} {P : List (List Int)} {lA : Option Addr} {ln lk : Nat} {vM vV : Value} {msgs : List Msg} {vals : List (List Int)} {rest : List Thing} (cl : Int) (hub : Nat) (v : Int) (gone : Bool) (θ : Option Addr × Nat × Nat × Nat × Option Addr × Nat)
    (h : Sta W (tsW πo ob rb hb wm id n vA vn vc vs pA pn pc P lA ln lk vM vV msgs vals rest) w) : Sta W (tsV πo ob rb wm id n vA vn vc vs pA pn pc P vM vV msgs vals rest cl hub v gone false false false false θ) w := by
  have h2 := (h.addData (t := tNone) rfl fun _ _ => trivial).addData (t := tNone) rfl fun _ _ => trivial
  refine Sta.perm' h2 ?_
  unfold tsV tsW
  simp only [Bool.false_eq_true, if_false, List.cons_append, List.nil_append, List.append_assoc]
  repeat (first | exact List.Perm.refl _ | refine .cons _ ?_)
  exact List.perm_append_comm
theorem ints_cell {w : World} {D : Nat → Prop} {b off n k q : Nat} {xs : List Int} (h : Ints w D .u32 4 (some ⟨b, off, none⟩) n k xs) (hq : q < n) : w.cell? ⟨b, off + q, none⟩ = some (.int .u32 (xs.getD q 0)) := by
  obtain ⟨_, _, _, _, _, _, h7⟩ := h
  obtain ⟨b', off', e, _, hc⟩ := h7 (by omega)
  injection e with e
  injection e with e1 e2
  subst e1 e2
  exact hc q hq
theorem ints_u32 {xs : List Int} {q : Nat} (h : ∀ x ∈ xs, U32 x) (hq : q < xs.length) : U32 (xs.getD q 0) := by
  rw [List.getD_eq_getElem?_getD, List.getElem?_eq_getElem hq]
  exact h _ (List.getElem_mem hq)
/-- The things in the midst of one value more. -/
def tsU (πo : List Int) (ob rb wm : Nat) (id n : Int) (vA : Option Addr) (vn vc : Nat) (vs : List Int) (pA : Option Addr) (pn pc : Nat) (P : List (List Int)) (vM vV : Value) (msgs : List Msg) (vals : List (List Int)) (rest : List Thing) (v : Int) (l2 l3 la ls : Bool) (θ : Nat × Nat × Option Addr × Nat) : List Thing :=
  [tInts vA vn vc vs, tAt u32sE pA pn pc P, tBox rb #[.int .u64 id, .int .u64 n, .slice vA vn vc], tMapN [9] wm 0, tBlk πo ob (opC 1 id vM wm (if ls = true then .slice θ.2.2.1 (vals.length + 1) θ.2.2.2 else vV)),
   tRow msgE [7] vM msgs, (if la = true then tRow u32sE [8] (.slice θ.2.2.1 (vals.length + 1) θ.2.2.2) (vals ++ [[v]]) else tRow u32sE [8] vV vals),
   (if l2 = true then tBox θ.1 #[.int .u32 v] else tNone), (if l3 = true then tBox θ.2.1 #[.slice (some ⟨θ.1, 0, none⟩) 1 1] else tNone)] ++ rest
theorem tsU_end {W w : World} {πo : List Int} {ob rb hb wm : Nat} {id n : Int} {vA : Option Addr} {vn vc : Nat} {vs : List Int} {pA : Option Addr} {pn pc : Nat} {P : List (List Int)} {lA : Option Addr} {ln lk : Nat} {vM vV : Value} {msgs : List Msg} {vals : List (List Int)} {rest : List Thing} {v : Int} {θ : Nat × Nat × Option Addr × Nat}
    (h : Sta W (tsU πo ob rb wm id n vA vn vc vs pA pn pc P vM vV msgs vals rest v true true true true θ) w) : Sta W (tsW πo ob rb hb wm id n vA vn vc vs pA pn pc P lA ln lk vM (.slice θ.2.2.1 (vals.length + 1) θ.2.2.2) msgs (vals ++ [[v]]) rest) w := by
  refine h.pick ?_
  unfold tsU tsW
  simp only [if_true, List.cons_append, List.nil_append]
  repeat (first | exact List.Sublist.refl _ | refine .cons_cons _ ?_)
  exact .cons _ (.cons _ (List.Sublist.refl _))
theorem tsU_start {W w : World} {πo : List Int} {ob rb hb wm : Nat} {id n : Int} {vA : Option Addr} {vn vc : Nat} {vs : List Int} {pA : Option Addr} {pn pc : Nat} {P : List (List Int)} {lA : Option Addr} {ln lk : Nat} {vM vV : Value} {msgs : List Msg} {vals : List (List Int)} {rest : List Thing} (v : Int) (θ : Nat × Nat × Option Addr × Nat)
    (h : Sta W (tsW πo ob rb hb wm id n vA vn vc vs pA pn pc P lA ln lk vM vV msgs vals rest) w) : Sta W (tsU πo ob rb wm id n vA vn vc vs pA pn pc P vM vV msgs vals rest v false false false false θ) w := by
  have h2 := (h.addData (t := tNone) rfl fun _ _ => trivial).addData (t := tNone) rfl fun _ _ => trivial
  refine Sta.perm' h2 ?_
  unfold tsU tsW
  simp only [Bool.false_eq_true, if_false, List.cons_append, List.nil_append, List.append_assoc]
  repeat (first | exact List.Perm.refl _ | refine .cons _ ?_)
  exact List.perm_append_comm
theorem allV_succ {vs : List Int} {q : Nat} (hq : q < vs.length) : allV true vs (q + 1) = allV true vs q ++ [[vs.getD q 0]] := by
  unfold allV
  rw [if_pos rfl, if_pos rfl, List.take_add_one, List.getElem?_eq_getElem hq, Option.toList_some, List.map_append, List.getD_eq_getElem?_getD, List.getElem?_eq_getElem hq]
  rfl
theorem allV_len (put : Bool) (vs : List Int) (q : Nat) : (allV put vs q).length ≤ q := by
  unfold allV
  split
  · simp; omega
  · simp
theorem u32s_cell {w : World} {D : Nat → Prop} {b off n cap q : Nat} {P : List (List Int)} {pl : List Int} {s : Option Addr} {m k : Nat} (h : u32sE.At w D (some ⟨b, off, none⟩) n cap P) (hpl : P[q]? = some pl) (hc : w.cell? ⟨b, off + q, none⟩ = some (.slice s m k)) : Ints w D .u32 4 s m k pl := by
  have hq : q < n := by rw [← h.1]; exact (List.getElem?_eq_some_iff.1 hpl).1
  obtain ⟨b', off', xs, s', m', k', e, _, hx, hc', hi⟩ := u32s_at h hq
  injection e with e
  injection e with e1 e2
  subst e1 e2
  obtain rfl := Option.some.inj (hpl.symm.trans hx)
  have e3 := hc.symm.trans hc'
  injection e3 with e3
  injection e3 with a1 a2 a3
  subst a1 a2 a3
  exact hi
def partM (client n id : Int) (vs : List Int) (hub : Nat) (v0 : Int) (pl : List Int) : List Msg := (pl.filter fun v => v != v0).map fun v => stM client n id vs hub v true
theorem partM_succ {client n id : Int} {vs : List Int} {hub : Nat} {v0 v : Int} {pl : List Int} {u : Nat} (hv : pl[u]? = some v) : partM client n id vs hub v0 (pl.take (u + 1)) = if v = v0 then partM client n id vs hub v0 (pl.take u) else partM client n id vs hub v0 (pl.take u) ++ [stM client n id vs hub v true] := by
  unfold partM
  rw [take_snocR hv, List.filter_append, List.map_append]
  by_cases h : v = v0
  · rw [if_pos h]; simp [h]
  · rw [if_neg h]; simp [h]
theorem hub_part {client n id : Int} {vs : List Int} {P : List (List Int)} {q : Nat} {v0 : Int} {pl : List Int} (hv : vs.getD q 0 = v0) (hp : P[q]? = some pl) : allM client n id vs true P (q + 1) = (allM client n id vs true P q ++ [stM client n id vs q v0 false]) ++ partM client n id vs q v0 pl := by
  rw [allM_succ, hv, List.getD_eq_getElem?_getD, hp]
  unfold hubM partM
  simp
theorem partM_len (client n id : Int) (vs : List Int) (hub : Nat) (v0 : Int) (pl : List Int) : (partM client n id vs hub v0 pl).length ≤ pl.length := by
  unfold partM
  rw [List.length_map]
  exact List.length_filter_le _ _
theorem setRow_new (w : World) (C0 C : Array Value) (T : TypeId) : Below w.heap.size w ((w.alloc (.cells C0 T)).setRow w.heap.size C) ∧ Box ((w.alloc (.cells C0 T)).setRow w.heap.size C) w.heap.size C := by
  have hb := below_a1 w (.cells C0 T)
  refine ⟨⟨by rw [setRow_os]; exact hb.os, by rw [setRow_tape]; exact hb.tape, by rw [setRow_output]; exact hb.output, by rw [setRow_size]; exact hb.size, fun i hi => ?_⟩, ⟨T, setRow_heap _ _ C0 C T (0, 0) (BoxT.new w C0 T)⟩⟩
  rw [setRow_other _ _ _ _ (by omega)]
  exact hb.block i hi
theorem msg_one (m : Msg) (s : Option Addr) (l c : Nat) (bA : Option Addr) (bn bc : Nat) (rA : Option Addr) (rn rk : Nat) : (msgCells m s l c bA bn bc rA rn rk).toArray.all (·.oneCell') = true := by
  unfold msgCells
  simp [Value.oneCell']
theorem Sta.rowNew {W w : World} {ts : List Thing} (h : Sta W ts w) (C0 C : Array Value) (T : TypeId) : Sta W (tBox w.heap.size C :: ts) ((w.alloc (.cells C0 T)).setRow w.heap.size C) := by
  obtain ⟨hb, hx⟩ := setRow_new w C0 C T
  obtain ⟨c, hs⟩ := h
  exact Sta.perm' ⟨c, (hs.later hb).addData (t := tBox w.heap.size C) rfl ⟨hx, hs.fresh _ (Nat.le_refl _)⟩⟩ (List.perm_append_comm (l₂ := [tBox w.heap.size C]))
theorem allM_spots {client n id : Int} {vs : List Int} {P : List (List Int)} (hu : ∀ x ∈ vs, U32 x) (hP : ∀ (q : Nat) p, P[q]? = some p → ∀ x ∈ p, U32 x) {q : Nat} (hq : q ≤ vs.length) : ∀ m ∈ allM client n id vs true P q, 0 ≤ m.hub ∧ m.hub < q ∧ U32 m.target := by
  intro m hm
  unfold allM at hm
  obtain ⟨j, hj, hm⟩ := List.mem_flatMap.1 hm
  have hjq := List.mem_range.1 hj
  unfold hubM at hm
  rw [if_pos rfl] at hm
  rcases List.mem_append.1 hm with h | h
  · simp only [List.mem_singleton] at h
    subst h
    exact ⟨by show (0 : Int) ≤ (j : Int); omega, by show (j : Int) < q; omega, ints_u32 hu (by omega)⟩
  · obtain ⟨v, hv, rfl⟩ := List.mem_map.1 h
    refine ⟨by show (0 : Int) ≤ (j : Int); omega, by show (j : Int) < q; omega, ?_⟩
    have hv2 := (List.mem_filter.1 hv).1
    rw [List.getD_eq_getElem?_getD] at hv2
    cases hp : P[j]? with
    | none => rw [hp] at hv2; simp at hv2
    | some p => rw [hp] at hv2; exact hP j p hp v hv2
end Go.Proofs.Ytdpamikobmefeaa
