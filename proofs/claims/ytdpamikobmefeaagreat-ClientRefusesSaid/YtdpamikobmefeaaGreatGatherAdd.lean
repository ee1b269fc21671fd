/- gather.Add. Conditions: the gathering is one, the records read so. -/
import Derived.Test.YtdpamikobmefeaaGreatGather
import Derived.LoopN
namespace Go.Proofs.YtdpamikobmefeaaGreat
open Go.RowKit Go.ChangeShapes Go.Maps
set_option maxRecDepth 100000
set_option linter.unusedVariables false
set_option linter.unusedSimpArgs false

/-- A slice of records that is handed in. -/
def RecsAt (w : World) (D : Nat → Prop) (A : Option Addr) (n cap : Nat) (l : List Rec) : Prop :=
  l.length = n ∧ n ≤ cap ∧ cap ≤ 9223372036854775807 ∧ (A = none → cap = 0) ∧ (0 < n → ∃ b off, A = some ⟨b, off, none⟩ ∧ D b ∧ ∀ j r, l[j]? = some r → r.ok ∧
    ∃ s m c, w.cell? ⟨b, off + j * 3, none⟩ = some (.int .u64 r.id) ∧ w.cell? ⟨b, off + j * 3 + 1, none⟩ = some (.int .u64 r.ver) ∧ w.cell? ⟨b, off + j * 3 + 2, none⟩ = some (.slice s m c) ∧ Ints w D .u32 4 s m c r.vals)
def findG (L : List Rec) (id : Int) : Option Rec := L.find? fun r => r.id == id
def setG (L : List Rec) (r : Rec) : List Rec := L.map fun y => if y.id == r.id then r else y
/-- One record. -/
def addF (bl : List Rng) (L : List Rec) (r : Rec) : List Rec × Int :=
  if matchF bl r.vals = true then
    match findG L r.id with
    | some o => if o.ver < r.ver then (setG L r, 1) else (L, 0)
    | none => (L ++ [r], 1)
  else (L, 0)
def addsF (bl : List Rng) (L : List Rec) (l : List Rec) : List Rec × Int := l.foldl (fun s r => ((addF bl s.1 r).1, s.2 + (addF bl s.1 r).2)) (L, 0)
theorem addsF_snoc (bl : List Rng) (L : List Rec) (l : List Rec) (r : Rec) : addsF bl L (l ++ [r]) = ((addF bl (addsF bl L l).1 r).1, (addsF bl L l).2 + (addF bl (addsF bl L l).1 r).2) := by unfold addsF; rw [List.foldl_append]; rfl
theorem addF_len (bl : List Rng) (L : List Rec) (r : Rec) : (addF bl L r).1.length ≤ L.length + 1 ∧ 0 ≤ (addF bl L r).2 ∧ (addF bl L r).2 ≤ 1 := by
  unfold addF
  split
  · split
    · split
      · refine ⟨by simp [setG], by simp, by simp⟩
      · refine ⟨by simp, by simp, by simp⟩
    · refine ⟨by simp, by simp, by simp⟩
  · refine ⟨by simp, by simp, by simp⟩
theorem addsF_from (bl : List Rng) : ∀ (l : List Rec) (M : List Rec) (t : Int), (l.foldl (fun s r => ((addF bl s.1 r).1, s.2 + (addF bl s.1 r).2)) (M, t)).1.length ≤ M.length + l.length ∧ t ≤ (l.foldl (fun s r => ((addF bl s.1 r).1, s.2 + (addF bl s.1 r).2)) (M, t)).2 ∧
    (l.foldl (fun s r => ((addF bl s.1 r).1, s.2 + (addF bl s.1 r).2)) (M, t)).2 ≤ t + l.length
  | [], M, t => by simp
  | r :: l, M, t => by
    have h := addF_len bl M r
    have ih := addsF_from bl l (addF bl M r).1 (t + (addF bl M r).2)
    simp only [List.foldl_cons, List.length_cons] at ih ⊢
    refine ⟨?_, ?_, ?_⟩ <;> omega
theorem addsF_len (bl : List Rng) (L : List Rec) (l : List Rec) : (addsF bl L l).1.length ≤ L.length + l.length ∧ 0 ≤ (addsF bl L l).2 ∧ (addsF bl L l).2 ≤ l.length := by
  have := addsF_from bl l L 0
  unfold addsF
  refine ⟨this.1, this.2.1, by have := this.2.2; omega⟩

section
variable {c : Col} {w : World} {D : DataW Value} {L : List Rec}
theorem gath_there {id : Int} {o : Rec} (hd : MapOf kR (RVal c w) D L) (h : findG L id = some o) : Maps.has D (.int .u64 id) = true ∧ ∃ v, RVal c w o v ∧ (∀ z, D.atKey (.int .u64 id) z = .held v) ∧ o ∈ L ∧ o.id = id := by
  have h1 := List.mem_of_find?_eq_some h
  have h2 : o.id = id := by simpa using List.find?_some h
  obtain ⟨q1, v, q2, q3⟩ := hd.has o h1
  have hk : kR o = .int .u64 id := by unfold kR; rw [h2]
  rw [hk] at q1 q3
  exact ⟨q1, v, q2, q3, h1, h2⟩
theorem gath_not {id : Int} (hd : MapOf kR (RVal c w) D L) (h : findG L id = none) : Maps.has D (.int .u64 id) = false ∧ ∀ y ∈ L, kR y ≠ .int .u64 id := by
  have h1 : ∀ y ∈ L, kR y ≠ .int .u64 id := by
    intro y hy he
    have := List.find?_eq_none.1 h y hy
    unfold kR at he
    simp only [Lit.int.injEq, true_and] at he
    exact this (by simpa using he)
  exact ⟨hd.none _ h1, h1⟩
/-- What a look-up tells. -/
theorem gath_look {id : Int} (hd : MapOf kR (RVal c w) D L) : ∃ (is : Bool) (oi ov : Int) (os : Option Addr) (ol oc : Nat), D.atKey (.int .u64 id) (.held (.agg #[.int .u64 0, .int .u64 0, .slice none 0 0])) = .held (.agg #[.int .u64 oi, .int .u64 ov, .slice os ol oc]) ∧ Maps.has D (.int .u64 id) = is ∧
    ((is = true ∧ ∃ o, findG L id = some o ∧ o.ver = ov ∧ RVal c w o (.agg #[.int .u64 oi, .int .u64 ov, .slice os ol oc])) ∨ (is = false ∧ findG L id = none)) := by
  cases hfe : findG L id with
  | some o =>
    obtain ⟨h1, v, h2, h3, h4, _⟩ := gath_there hd hfe
    have h2' := h2
    obtain ⟨s', l', c', rfl, hok, _⟩ := h2
    exact ⟨true, o.id, o.ver, s', l', c', h3 _, h1, .inl ⟨rfl, o, rfl, rfl, h2'⟩⟩
  | none =>
    obtain ⟨h1, _⟩ := gath_not hd hfe
    exact ⟨false, 0, 0, none, 0, 0, atKey_of_not_has h1 _, h1, .inr ⟨rfl, rfl⟩⟩
end

section
variable {c : Col} {π : List Int} {w w3 w4 : World} {g mb : Nat} {L : List Rec} {D : DataW Value} {id ver : Int} {s : Option Addr} {l cp : Nat} {vals : List Int} {bl : List Rng} {A : Option Addr} {n m : Nat}
theorem gput_val (hf : Fresh c w) (hok : Rec.ok ⟨id, ver, vals⟩) (hzm : mb < w.heap.size) (ho : Only (· = mb) w3 w4) (hn : NewD w.heap.size .u32 4 vals w3 (.slice s l cp)) : RVal c w4 ⟨id, ver, vals⟩ (.agg #[.int .u64 id, .int .u64 ver, .slice s l cp]) := by
  obtain ⟨A, n, cap, e, hi⟩ := NewD.data (w := w) (c := c) (hn.only ho (fun k hk => by show ¬ k = mb; omega)) hf
  injection e with e1 e2 e3
  subst e1 e2 e3
  exact ⟨s, l, cp, rfl, hok, hi⟩
theorem not_map {T : TypeId} {C : Array Value} {R : Value → Option (DataW Value × List MemPlace)} {k : TypeId} {n : Nat} (hb : BoxT w T g C) (hm : w.ownsMap Tryz.prog k R mb n D) : g ≠ mb := by
  rintro rfl
  obtain ⟨es, cl, h1, _⟩ := hm
  unfold BoxT at hb
  rw [hb] at h1
  cases h1
theorem gput_boxes {R : Value → Option (DataW Value × List MemPlace)} {k : TypeId} (hm : w.ownsMap Tryz.prog k R mb n D) (h3 : Below w.heap.size w w3) (ho : Only (· = mb) w3 w4) : Boxes w w4 := by
  intro j C hk
  refine (hk.below h3 hk.lt).only ho ?_
  show j ≠ mb
  obtain ⟨T, hk⟩ := hk
  exact not_map hk hm
theorem gput_stp (hcm : c mb = π) (hf : Fresh c w) (h3 : Below w.heap.size w w3) (hzm : mb < w.heap.size) (ho : Only (· = mb) w3 w4) : Stp (· = π) c w c w4 :=
  ⟨Only.trans (b := w3) (Only.of_below (S := fun k => c k = π) h3) (ho.mono (S' := fun k => c k = π) fun k _ hk => by subst hk; exact hcm), fun _ _ => rfl, fun k hk => hf k (Nat.le_trans (Nat.le_trans h3.size ho.size) hk)⟩
theorem gput_to (hb : BoxT w 134 g #[.slice A n m, .map (some mb)]) (hcb : c g = π) (hcm : c mb = π) (hr : RngsAt w (fun b => c b = [] ∧ b < w.heap.size) A n m bl) (hm : w.ownsMap Tryz.prog 50 (heldIf isRec) mb L.length D) (hd : MapOf kR (RVal c w) D L) (hf : Fresh c w) (hπ : π ≠ [])
    (hok : Rec.ok ⟨id, ver, vals⟩) (h3 : Below w.heap.size w w3) (hn : NewD w.heap.size .u32 4 vals w3 (.slice s l cp))
    (hu : w4.ownsMap Tryz.prog 50 (heldIf isRec) mb (L.length + 1) (D.put (.int .u64 id) (.held (.agg #[.int .u64 id, .int .u64 ver, .slice s l cp])))) (ho : Only (· = mb) w3 w4) {L' : List Rec} (hL : (findG L id = none ∧ L' = L ++ [⟨id, ver, vals⟩]) ∨ (∃ o, findG L id = some o) ∧ L' = setG L ⟨id, ver, vals⟩) :
    GathTo π g bl L' c w w4 := by
  have st := gput_stp hcm hf h3 hm.lt ho
  have hd4 : MapOf kR (RVal c w4) D L := hd.imp fun e _ v hv => hv.step st hπ.symm
  have hv := gput_val hf hok hm.lt ho hn
  have hbx : BoxT w4 134 g #[.slice A n m, .map (some mb)] := (hb.only (Only.of_below (S := fun _ => False) h3) (fun h => h)).only ho (not_map hb hm)
  have hrr : RngsAt w4 (fun b => c b = [] ∧ b < w4.heap.size) A n m bl := hr.move fun b hb hlt => ⟨st.only.block b hlt (by show ¬ c b = π; rw [hb.1]; exact hπ.symm), hb.1, Nat.lt_of_lt_of_le hlt st.only.size⟩
  rcases hL with ⟨hf0, rfl⟩ | ⟨⟨o, ho'⟩, rfl⟩
  · have hadd := hd4.add (ownsMap_tidy hm u64_key) (x := ⟨id, ver, vals⟩) trivial (gath_not hd hf0).2 hv
    exact ⟨c, st, ⟨A, n, m, mb, _, hbx, hcb, hcm, hrr, by rw [List.length_append]; exact hu, hadd⟩, gput_boxes hm h3 ho⟩
  · obtain ⟨_, _, _, _, hmem, e1⟩ := gath_there hd ho'
    have hset := hd4.set (ownsMap_tidy hm u64_key) (x := ⟨id, ver, vals⟩) (f := fun y => if y.id == id then ⟨id, ver, vals⟩ else y) trivial ⟨o, hmem, by unfold kR; rw [e1]⟩
      (fun y hy he => if_pos (by unfold kR at he; simpa using he)) (fun y hy he => if_neg fun h => he (by unfold kR; simpa using h)) hv
    have ht := ownsMap_tight hu
    rw [show D.put (.int .u64 id) _ = D.put (kR ⟨id, ver, vals⟩) _ from rfl, hset.size] at ht
    exact ⟨c, st, ⟨A, n, m, mb, _, hbx, hcb, hcm, hrr, by simpa [setG] using ht, hset⟩, gput_boxes hm h3 ho⟩
end
theorem looked_set3 {wx w2 : World} {a1 a2 a3 z1 z2 z3 : Value} {is : Bool} (h : Same wx w2) (hb : Box w2 wx.heap.size #[z1, z2, z3]) : Looked wx #[a1, a2, a3] is (.pointer (some ⟨wx.heap.size, 0, none⟩)) (.bool is)
    (((w2.setCell ⟨wx.heap.size, 0, none⟩ a1).setCell ⟨wx.heap.size, 1, none⟩ a2).setCell ⟨wx.heap.size, 2, none⟩ a3) :=
  ⟨_, rfl, rfl, ((hb.set a1).set a2).set a3, ((h.set (Nat.le_refl _) _).set (Nat.le_refl _) _).set (Nat.le_refl _) _ |>.1, Nat.le_refl _⟩
end Go.Proofs.YtdpamikobmefeaaGreat
