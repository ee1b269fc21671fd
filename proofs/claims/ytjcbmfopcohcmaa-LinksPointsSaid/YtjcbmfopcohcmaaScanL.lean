/- What a scan tells, as one list; Scan, Cut and Join in that word. Conditions: the shelf is one. -/
import Derived.Test.YtjcbmfopcohcmaaScanOne
import Derived.Test.YtjcbmfopcohcmaaEntsSame
import Derived.Test.YtjcbmfopcohcmaaShelfCut
namespace Go.Proofs.Ytjcbmfopcohcmaa
open Go.RowKit Go.ChangeShapes Go.Maps
set_option maxRecDepth 100000
set_option linter.unusedVariables false
set_option linter.unusedSimpArgs false

/-- The entries of a span, in their order. -/
def scanL (f t : Int) (L : List Ent) : List Ent := (L.filter (hasE f t)).mergeSort (fun a b => !ltE f b a)
theorem ltE_trans (f : Int) : ∀ a b c : Ent, (!ltE f b a) = true → (!ltE f c b) = true → (!ltE f c a) = true := by
  intro a b c h1 h2
  unfold ltE at *
  simp only [Bool.not_eq_true', decide_eq_false_iff_not] at *
  omega
theorem ltE_total (f : Int) : ∀ a b : Ent, (!ltE f b a || !ltE f a b) = true := by
  intro a b
  unfold ltE
  simp only [Bool.or_eq_true, Bool.not_eq_true', decide_eq_false_iff_not]
  omega
theorem scanL_perm (f t : Int) (L : List Ent) : (scanL f t L).Perm (L.filter (hasE f t)) := List.mergeSort_perm _ _
theorem scanL_sorted (f t : Int) (L : List Ent) : (scanL f t L).Pairwise (fun a b => ltE f b a = false) := by
  have := List.pairwise_mergeSort (le := fun a b : Ent => !ltE f b a) (ltE_trans f) (ltE_total f) (L.filter (hasE f t))
  exact this.imp fun h => by simpa using h
theorem scanL_mem {f t : Int} {L : List Ent} {e : Ent} : e ∈ scanL f t L ↔ e ∈ L ∧ hasE f t e = true := by rw [(scanL_perm f t L).mem_iff, List.mem_filter]
theorem scanL_len (f t : Int) (L : List Ent) : (scanL f t L).length = (L.filter (hasE f t)).length := (scanL_perm f t L).length_eq
/-- Entries of unlike keys, each as entries are. -/
def ShelfOk (L : List Ent) : Prop := L.Pairwise (fun a b => ¬ (a.value = b.value ∧ a.rc.id = b.rc.id)) ∧ ∀ e ∈ L, e.ok
theorem ShelfOk.one {L : List Ent} (h : ShelfOk L) : ∀ a ∈ L, ∀ b ∈ L, a.value = b.value → a.rc.id = b.rc.id → a = b := by
  intro a ha b hb h1 h2
  have key : ∀ {l : List Ent}, l.Pairwise (fun a b => ¬ (a.value = b.value ∧ a.rc.id = b.rc.id)) → a ∈ l → b ∈ l → a = b := by
    intro l hl
    induction l with
    | nil => intro hx; simp at hx
    | cons z r ih =>
      intro hx hy
      obtain ⟨p1, p2⟩ := List.pairwise_cons.1 hl
      rcases List.mem_cons.1 hx with hx1 | hx1 <;> rcases List.mem_cons.1 hy with hy1 | hy1
      · rw [hx1, hy1]
      · exact absurd ⟨by rw [← hx1]; exact h1, by rw [← hx1]; exact h2⟩ (p1 b hy1)
      · exact absurd ⟨by rw [← hy1]; exact h1.symm, by rw [← hy1]; exact h2.symm⟩ (p1 a hx1)
      · exact ih p2 hx1 hy1
  exact key h.1 ha hb
theorem ShelfOk.nil : ShelfOk [] := ⟨List.Pairwise.nil, fun e h => by simp at h⟩
theorem ShelfOk.perm {L L' : List Ent} (h : ShelfOk L) (hp : L.Perm L') : ShelfOk L' := ⟨(hp.pairwise_iff (fun {a b} h => fun e => h ⟨e.1.symm, e.2.symm⟩)).1 h.1, fun e he => h.2 e (hp.mem_iff.2 he)⟩
theorem ShelfOk.filter {L : List Ent} (h : ShelfOk L) (p : Ent → Bool) : ShelfOk (L.filter p) := ⟨h.1.filter p, fun e he => h.2 e (List.mem_filter.1 he).1⟩
theorem ShelfOk.scan {L : List Ent} (h : ShelfOk L) (f t : Int) : ShelfOk (scanL f t L) := (h.filter _).perm (scanL_perm f t L).symm
theorem shelf_ok {c : Col} {π : List Int} {w : World} {b : Nat} {L : List Ent} (h : ShelfR c π w b L) : ShelfOk L := by
  obtain ⟨mb, D, _, _, _, _, hd⟩ := h
  exact ⟨hd.apart.imp fun {a b} h e => h (by unfold kE; rw [e.1, e.2]), fun e he => by obtain ⟨_, v, hv, _⟩ := hd.has e he; exact hv.ok⟩
theorem scanL_one {f t : Int} {L M : List Ent} (hL : ShelfOk L) (hp : M.Perm (L.filter (hasE f t))) (hs : M.Pairwise (fun a b => ltE f b a = false)) : M = scanL f t L := by
  have hm : ∀ a ∈ M, a ∈ L := fun a ha => (List.mem_filter.1 (hp.mem_iff.1 ha)).1
  exact sortE_one (f := f) (hp.trans (scanL_perm f t L).symm) hs (scanL_sorted f t L) (fun a ha => (hL.2 a (hm a ha)).1) (fun a ha b hb => hL.one a (hm a ha) b (hm b hb))
/-- Scans of permuted entries are one list. -/
theorem scanL_congr {f t : Int} {L L' : List Ent} (hL : ShelfOk L) (hp : L.Perm L') : scanL f t L' = scanL f t L := scanL_one hL ((scanL_perm f t L').trans (hp.filter _).symm) (scanL_sorted f t L')
theorem hasE_all (f : Int) {e : Ent} (h : e.ok) : hasE f f e = true := by
  obtain ⟨⟨h0, h1⟩, _⟩ := h
  have := (far_bd ((f + 1) % 4294967296) e.value).2
  unfold hasE hasF sizeF
  simpa using this
theorem scanL_all {f : Int} {L : List Ent} (h : ShelfOk L) : (scanL f f L).Perm L := by
  have := scanL_perm f f L
  rwa [List.filter_eq_self.2 fun e he => hasE_all f (h.2 e he)] at this

theorem EntsAt.move {w w' : World} {D D' : Nat → Prop} {A : Option Addr} {n cap : Nat} {l : List Ent} (h : EntsAt w D A n cap l) (hw : ∀ b, D b → b < w.heap.size → w'.heap[b]? = w.heap[b]? ∧ D' b) : EntsAt w' D' A n cap l := by
  obtain ⟨h1, h2, h3⟩ := h
  refine ⟨h1, h2, fun hn => ?_⟩
  obtain ⟨b, off, rfl, hd, hc⟩ := h3 hn
  obtain ⟨e0, he0⟩ : ∃ e, l[0]? = some e := ⟨_, List.getElem?_eq_getElem (by omega)⟩
  obtain ⟨c0, hc0, _⟩ := hc 0 e0 he0
  have hlt : b < w.heap.size := World.block_lt_of_cell? w _ (hc0 0 _ rfl)
  refine ⟨b, off, rfl, (hw b hd hlt).2, fun j e he => ?_⟩
  obtain ⟨c, hcell, hent⟩ := hc j e he
  exact ⟨c, fun t u hu => by rw [← hcell t u hu]; exact World.cell?_of_block (hw b hd hlt).1, hent.move hw⟩
theorem EntsAt.step {C : List Int → Prop} {c c' : Col} {w w' : World} {A : Option Addr} {n cap : Nat} {l : List Ent} (h : EntsAt w (fun b => c b = [] ∧ b < w.heap.size) A n cap l) (hs : Stp C c w c' w') (hC : ¬ C []) : EntsAt w' (fun b => c' b = [] ∧ b < w'.heap.size) A n cap l :=
  h.move fun b hb hlt => ⟨hs.only.block b hlt (by show ¬ C (c b); rw [hb.1]; exact hC), (hs.col b hlt).trans hb.1, Nat.lt_of_lt_of_le hlt hs.only.size⟩
theorem EntsAt.lt {c : Col} {w : World} {A : Option Addr} {n cap : Nat} {l : List Ent} (h : EntsAt w (fun b => c b = [] ∧ b < w.heap.size) A n cap l) : EntsAt w (· < w.heap.size) A n cap l := h.move fun b hb hlt => ⟨rfl, hlt⟩
theorem EntsAt.below {w w' : World} {A : Option Addr} {n cap : Nat} {l : List Ent} (h : EntsAt w (· < w.heap.size) A n cap l) (hb : Below w.heap.size w w') : EntsAt w' (· < w'.heap.size) A n cap l :=
  h.move fun b _ hlt => ⟨hb.block b hlt, Nat.lt_of_lt_of_le hlt hb.size⟩
/-- A scan's row, wherever it lies. -/
theorem scan_row {base : Nat} {L : List Ent} {w : World} {v : Value} {M : List EntC} (h : ScanRow base (eOf L) w v M) : ∃ A cap, v = .slice A M.length cap ∧ EntsAt w (fun b => base ≤ b ∧ b < w.heap.size) A M.length cap (M.map (eOf L)) := by
  obtain ⟨A, cap, rfl, h1, h2, h3, h4⟩ := owns_shape h.row
  refine ⟨A, cap, rfl, by rw [List.length_map], by omega, fun hn => ?_⟩
  cases A with
  | none => have := (h3 rfl).1; omega
  | some ad =>
    obtain ⟨g, cur, rfl, hb, hs, htk⟩ := h4 ad rfl
    refine ⟨g, 0, rfl, ownBlock_lt h.row rfl, fun j e he => ?_⟩
    rw [List.getElem?_map] at he
    obtain ⟨c, hc, rfl⟩ := Option.map_eq_some_iff.1 he
    refine ⟨c, fun t u hu => ?_, (h.ents c (List.mem_of_getElem? hc)).move fun b hb hlt => ⟨rfl, hb.1, hb.2.1⟩⟩
    have ht : t < 5 := (List.getElem?_eq_some_iff.1 hu).1
    have h9 := ecCells_at hc t ht
    have hk := (List.getElem?_eq_some_iff.1 hc).1
    rw [hu, ← htk, List.getElem?_take_of_lt (by omega), Array.getElem?_toList] at h9
    rw [Nat.zero_add, hb.box.cell]
    exact h9

theorem scan_at {c : Col} {π : List Int} {w : World} {b : Nat} {L : List Ent} (h : ShelfR c π w b L) (hf : Fresh c w) (hL : L.length < 1000000) (f t : Int) :
    Calls Try.prog 46 #[.pointer (some ⟨b, 0, none⟩), .agg #[.int .u32 f, .int .u32 t]] w fun e w' => ∃ A n cap, e = .returned (.slice A n cap) ∧ EntsAt w' (fun k => c k = [] ∧ k < w'.heap.size) A n cap (scanL f t L) ∧ Below w.heap.size w w' := by
  refine (shelf_scan h hL f t).mono ?_
  rintro e w' ⟨v, M, rfl, hr, hp, hs, hb⟩
  obtain ⟨A, cap, rfl, he⟩ := scan_row hr
  rw [scanL_one (shelf_ok h) hp (scan_sortedE hr hs)] at he
  exact ⟨A, _, cap, rfl, he.move fun b hb hlt => ⟨rfl, hf b (by omega), hlt⟩, hb⟩
end Go.Proofs.Ytjcbmfopcohcmaa
