/- The document's model, in plain words: what it has is what the model has. Conditions: none. | ModelPlays' plain law: the document's rows follow what is known. Conditions: none. | ModelPlays: its deeds as elements; the model's contracts beside the document's model. Conditions: none. -/
import Derived.Test.YtgdlajbkppfejaaModelMore
import Derived.Test.YtgdlajbkppfejaaRModAll
import Derived.Test.YtgdlajbkppfejaaRModAll
import Derived.Test.YtgdlajbkppfejaaModPutNo
import Derived.Test.YtgdlajbkppfejaaAwake24
import Derived.Test.YtgdlajbkppfejaaLaw
namespace Go.Proofs.Ytgdlajbkppfejaa
open Go.RowKit Go.ChangeShapes
set_option maxRecDepth 100000
set_option linter.unusedVariables false
set_option linter.unusedSimpArgs false

/-- What is known reads so. -/
def WellK (K : List Kn) : Prop := OneK K ∧ ∀ x ∈ K, (x.is = true → x.rc.id = x.key ∧ x.rc.ver = x.ver) ∧ (x.is = false → x.rc = ⟨0, 0, []⟩)
theorem WellK.nil : WellK [] := ⟨OneK.nil, fun x hx => by simp at hx⟩
theorem mem_putK {K : List Kn} (h : OneK K) (x y : Kn) : y ∈ putK K x ↔ y = x ∨ (y ∈ K ∧ y.key ≠ x.key) := by
  unfold putK
  split
  · next hs =>
    unfold setK
    rw [List.mem_map]
    constructor
    · rintro ⟨z, hz, rfl⟩
      split
      · exact .inl rfl
      · next hn => exact .inr ⟨hz, by simpa using hn⟩
    · rintro (rfl | ⟨h1, h2⟩)
      · obtain ⟨o, ho⟩ := Option.isSome_iff_exists.1 hs
        obtain ⟨q1, q2⟩ := findK_some ho
        exact ⟨o, q1, by rw [if_pos (by simpa using q2)]⟩
      · exact ⟨y, h1, by rw [if_neg (by simpa using h2)]⟩
  · next hs =>
    have hn : ∀ z ∈ K, z.key ≠ x.key := fun z hz e => by
      apply hs
      rw [← e, findK_of h hz]; rfl
    rw [List.mem_append, List.mem_singleton]
    constructor
    · rintro (h1 | rfl)
      · exact .inr ⟨h1, hn y h1⟩
      · exact .inl rfl
    · rintro (rfl | ⟨h1, _⟩)
      · exact .inr rfl
      · exact .inl h1
theorem WellK.putK {K : List Kn} (h : WellK K) {x : Kn} (hx : (x.is = true → x.rc.id = x.key ∧ x.rc.ver = x.ver) ∧ (x.is = false → x.rc = ⟨0, 0, []⟩)) : WellK (putK K x) := by
  refine ⟨h.1.putK x, fun y hy => ?_⟩
  rcases (mem_putK h.1 x y).1 hy with rfl | ⟨h1, _⟩
  · exact hx
  · exact h.2 y h1
theorem WellK.mput {K : List Kn} (h : WellK K) (attrs : Int) (r : Rec) : WellK (mputF attrs K r).1 := by
  unfold mputF
  split
  · split
    · exact h
    · exact h.putK (x := ⟨r.id, r.ver, true, r⟩) ⟨fun _ => ⟨rfl, rfl⟩, fun h => by cases h⟩
  · exact h
theorem WellK.mdel {K : List Kn} (h : WellK K) (id ver : Int) : WellK (mdelF K id ver).1 := by
  unfold mdelF
  split
  · split
    · exact h
    · exact h.putK (x := ⟨id, ver, false, ⟨0, 0, []⟩⟩) ⟨fun h => (by cases h), fun _ => rfl⟩
  · exact h
/-- The document's records are those that are there, by rising ids. -/
def MRef (K : List Kn) (L : List Rec) : Prop := Up L ∧ ∀ r, r ∈ L ↔ ∃ x ∈ K, x.is = true ∧ x.rc = r
theorem MRef.nil : MRef [] [] := ⟨List.Pairwise.nil, fun r => by simp⟩
theorem dropR_mem {L : List Rec} {id : Int} {r : Rec} : r ∈ dropR L id ↔ r ∈ L ∧ r.id ≠ id := by unfold dropR; rw [List.mem_filter]; simp
theorem dropR_up {L : List Rec} (h : Up L) (id : Int) : Up (dropR L id) := h.filter _
theorem dropR_len (L : List Rec) (id : Int) : (dropR L id).length ≤ L.length := List.length_filter_le _ _
theorem putR_drop {L : List Rec} (h : Up L) (r : Rec) : (putR (dropR L r.id) r).2 = true := by
  rw [putR_told (dropR_up h _)]
  have : (dropR L r.id).find? (fun x => x.id == r.id) = none := by
    rw [List.find?_eq_none]
    intro x hx
    have := (dropR_mem.1 hx).2
    simpa using this
  rw [this]
theorem MRef.put {K : List Kn} {L : List Rec} (hw : WellK K) (h : MRef K L) (r : Rec) (v : Int) : MRef (putK K ⟨r.id, v, true, r⟩) (putR (dropR L r.id) r).1 := by
  refine ⟨putR_up (dropR_up h.1 _) r, fun y => ?_⟩
  rw [putR_mem (dropR_up h.1 _), if_pos (putR_drop h.1 r)]
  constructor
  · rintro (rfl | ⟨h1, h2⟩)
    · exact ⟨_, (mem_putK hw.1 _ _).2 (.inl rfl), rfl, rfl⟩
    · obtain ⟨x, x1, x2, rfl⟩ := (h.2 y).1 (dropR_mem.1 h1).1
      refine ⟨x, (mem_putK hw.1 _ _).2 (.inr ⟨x1, ?_⟩), x2, rfl⟩
      show x.key ≠ r.id
      rw [← ((hw.2 x x1).1 x2).1]; exact h2
  · rintro ⟨x, x1, x2, rfl⟩
    rcases (mem_putK hw.1 _ _).1 x1 with rfl | ⟨x1, x3⟩
    · exact .inl rfl
    · have x3 : x.rc.id ≠ r.id := by rw [((hw.2 x x1).1 x2).1]; exact x3
      exact .inr ⟨dropR_mem.2 ⟨(h.2 _).2 ⟨x, x1, x2, rfl⟩, x3⟩, x3⟩
theorem MRef.drop {K : List Kn} {L : List Rec} (hw : WellK K) (h : MRef K L) (id v : Int) : MRef (putK K ⟨id, v, false, ⟨0, 0, []⟩⟩) (dropR L id) := by
  refine ⟨dropR_up h.1 _, fun y => ?_⟩
  constructor
  · intro h1
    obtain ⟨h1, h2⟩ := dropR_mem.1 h1
    obtain ⟨x, x1, x2, rfl⟩ := (h.2 y).1 h1
    refine ⟨x, (mem_putK hw.1 _ _).2 (.inr ⟨x1, ?_⟩), x2, rfl⟩
    show x.key ≠ id
    rw [← ((hw.2 x x1).1 x2).1]; exact h2
  · rintro ⟨x, x1, x2, rfl⟩
    rcases (mem_putK hw.1 _ _).1 x1 with rfl | ⟨x1, x3⟩
    · cases x2
    · exact dropR_mem.2 ⟨(h.2 _).2 ⟨x, x1, x2, rfl⟩, by rw [((hw.2 x x1).1 x2).1]; exact x3⟩
theorem MRef.get {K : List Kn} {L : List Rec} (hw : WellK K) (h : MRef K L) (id : Int) : isK K id = (getR L id).isSome ∧ recK K id = (getR L id).getD ⟨0, 0, []⟩ := by
  have none_of : (∀ x ∈ K, x.is = true → x.key ≠ id) → getR L id = none := fun hn => by
    unfold getR
    rw [List.find?_eq_none]
    intro r hr
    obtain ⟨x, x1, x2, rfl⟩ := (h.2 r).1 hr
    have := hn x x1 x2
    rw [← ((hw.2 x x1).1 x2).1] at this
    simpa using this
  unfold isK recK
  cases e : findK K id with
  | none =>
    rw [none_of fun x hx _ hk => by subst hk; rw [findK_of hw.1 hx] at e; cases e]
    exact ⟨rfl, rfl⟩
  | some x =>
    obtain ⟨x1, rfl⟩ := findK_some e
    cases hx : x.is with
    | false =>
      rw [none_of fun y hy h2 hk => by rw [hw.1.same hy x1 hk] at h2; rw [hx] at h2; cases h2]
      exact ⟨hx, (hw.2 x x1).2 hx⟩
    | true =>
      have hm : x.rc ∈ L := (h.2 _).2 ⟨x, x1, hx, rfl⟩
      have hs : getR L x.key = some x.rc := by
        unfold getR
        cases e2 : L.find? (fun r => r.id == x.key) with
        | none =>
          have := List.find?_eq_none.1 e2 x.rc hm
          rw [((hw.2 x x1).1 hx).1] at this
          simp at this
        | some r =>
          have r1 := List.mem_of_find?_eq_some e2
          have r2 : r.id = x.key := by simpa using List.find?_some e2
          obtain ⟨y, y1, y2, rfl⟩ := (h.2 r).1 r1
          rw [((hw.2 y y1).1 y2).1] at r2
          rw [hw.1.same y1 x1 r2]
      rw [hs]
      exact ⟨hx, rfl⟩
theorem lastK_ver {K : List Kn} (hw : WellK K) {id : Int} (h : isK K id = true) : (recK K id).ver = lastK K id := by
  unfold isK at h; unfold recK lastK
  cases e : findK K id with
  | none => rfl
  | some x =>
    rw [e] at h
    obtain ⟨x1, rfl⟩ := findK_some e
    exact ((hw.2 x x1).1 h).2
theorem MRef.len {K : List Kn} {L : List Rec} (hw : WellK K) (h : MRef K L) : K.countP isB = L.length := by
  have nd : L.Nodup := h.1.imp fun {a b} h e => by subst e; omega
  have e : ((K.filter isB).map Kn.rc).Perm L := by
    refine (List.perm_ext_iff_of_nodup ?_ nd).2 fun r => ?_
    · unfold List.Nodup
      rw [List.pairwise_map]
      have hn := hw.1
      unfold OneK List.Nodup at hn
      rw [List.pairwise_map] at hn
      have hn2 := hn.filter isB
      refine List.Pairwise.imp_of_mem ?_ hn2
      intro a b ha hb hne he
      obtain ⟨a1, a2⟩ := List.mem_filter.1 ha
      obtain ⟨b1, b2⟩ := List.mem_filter.1 hb
      apply hne
      rw [← ((hw.2 a a1).1 a2).1, ← ((hw.2 b b1).1 b2).1, he]
    · rw [List.mem_map, h.2 r]
      constructor
      · rintro ⟨x, hx, rfl⟩
        obtain ⟨x1, x2⟩ := List.mem_filter.1 hx
        exact ⟨x, x1, x2, rfl⟩
      · rintro ⟨x, x1, x2, rfl⟩
        exact ⟨x, List.mem_filter.2 ⟨x1, x2⟩, rfl⟩
  rw [List.countP_eq_length_filter, ← e.length_eq, List.length_map]
theorem MRef.le {K : List Kn} {L : List Rec} (hw : WellK K) (h : MRef K L) : L.length ≤ K.length := by rw [← h.len hw]; exact List.countP_le_length
/-- What a box finds. -/
theorem MRef.find {K : List Kn} {L : List Rec} {bl : List Rng} {ks : List Int} {ls : List Kn} (hw : WellK K) (h : MRef K L) (hf : FoundOf bl K ks ls) (hk : ∀ x ∈ K, x.key ∈ ks) : ls.map Kn.rc = L.filter fun r => matchF bl r.vals := by
  refine up_one ?_ (h.1.filter _) fun r => ?_
  · show (ls.map Kn.rc).Pairwise _
    rw [List.pairwise_map]
    refine List.Pairwise.imp_of_mem ?_ hf.1
    intro a b ha hb hne
    obtain ⟨a1, a2, _⟩ := (hf.2 a).1 ha
    obtain ⟨b1, b2, _⟩ := (hf.2 b).1 hb
    unfold hitK at a2 b2
    rw [Bool.and_eq_true] at a2 b2
    rw [((hw.2 a a1).1 a2.1).1, ((hw.2 b b1).1 b2.1).1]
    exact hne
  · rw [List.mem_map, List.mem_filter, h.2 r]
    constructor
    · rintro ⟨x, hx, rfl⟩
      obtain ⟨x1, x2, _⟩ := (hf.2 x).1 hx
      unfold hitK at x2
      rw [Bool.and_eq_true] at x2
      exact ⟨⟨x, x1, x2.1, rfl⟩, x2.2⟩
    · rintro ⟨⟨x, x1, x2, rfl⟩, x3⟩
      refine ⟨x, (hf.2 x).2 ⟨x1, ?_, hk x x1⟩, rfl⟩
      unfold hitK
      rw [Bool.and_eq_true]
      exact ⟨x2, x3⟩
/-- The place of an id among those that are known; -1: there is none. -/
def ixK (K : List Kn) (id : Int) : Int := match K.findIdx? (fun x => x.key == id) with | some i => i | none => -1
theorem ixK_at {K : List Kn} {id : Int} {i : Nat} {x : Kn} (hx : K[i]? = some x) (he : x.key = id) (hn : ∀ (j : Nat) y, j < i → K[j]? = some y → y.key ≠ id) : ixK K id = i ∧ lastK K id = x.ver ∧ findK K id = some x := by
  have h1 : K.findIdx? (fun x => x.key == id) = some i := by
    rw [List.findIdx?_eq_some_iff_getElem]
    obtain ⟨hi, hxe⟩ := List.getElem?_eq_some_iff.1 hx
    refine ⟨hi, by rw [hxe]; simpa using he, fun j hj => ?_⟩
    have := hn j _ hj (List.getElem?_eq_getElem (by omega))
    simpa using this
  have h2 : findK K id = some x := by
    unfold findK
    rw [List.find?_eq_some_iff_getElem]
    obtain ⟨hi, hxe⟩ := List.getElem?_eq_some_iff.1 hx
    refine ⟨by simpa using he, i, hi, hxe, fun j hj => ?_⟩
    have := hn j _ hj (List.getElem?_eq_getElem (by omega))
    simpa using this
  refine ⟨by unfold ixK; rw [h1], by unfold lastK; rw [h2], h2⟩
theorem ixK_none {K : List Kn} {id : Int} (hn : ∀ (j : Nat) y, K[j]? = some y → y.key ≠ id) : ixK K id = -1 ∧ lastK K id = 0 ∧ findK K id = none := by
  have h2 : findK K id = none := by
    unfold findK
    rw [List.find?_eq_none]
    intro x hx
    obtain ⟨j, hj⟩ := List.mem_iff_getElem?.1 hx
    simpa using hn j x hj
  have h1 : K.findIdx? (fun x => x.key == id) = none := by
    rw [List.findIdx?_eq_none_iff]
    intro x hx
    obtain ⟨j, hj⟩ := List.mem_iff_getElem?.1 hx
    simpa using hn j x hj
  exact ⟨by unfold ixK; rw [h1], by unfold lastK; rw [h2], h2⟩
/-- The rows of the ids and of the versions, behind a put. -/
theorem putK_rows {K : List Kn} (h : OneK K) (x : Kn) : (∃ (i : Nat) (o : Kn), ixK K x.key = i ∧ K[i]? = some o ∧ (putK K x).map Kn.key = K.map Kn.key ∧ (putK K x).map Kn.ver = (K.map Kn.ver).set i x.ver) ∨ (ixK K x.key = -1 ∧ (putK K x).map Kn.key = K.map Kn.key ++ [x.key] ∧ (putK K x).map Kn.ver = K.map Kn.ver ++ [x.ver]) := by
  cases e : K.findIdx? (fun y => y.key == x.key) with
  | none =>
    right
    rw [List.findIdx?_eq_none_iff] at e
    have hn : ∀ (j : Nat) y, K[j]? = some y → y.key ≠ x.key := fun j y hj => by simpa using e y (List.mem_of_getElem? hj)
    obtain ⟨h1, _, h3⟩ := ixK_none hn
    have hp : putK K x = K ++ [x] := by unfold putK; rw [h3]; rfl
    rw [hp]
    exact ⟨h1, by simp, by simp⟩
  | some i =>
    left
    rw [List.findIdx?_eq_some_iff_getElem] at e
    obtain ⟨hi, h1, h2⟩ := e
    have hx : K[i]? = some K[i] := List.getElem?_eq_getElem hi
    obtain ⟨q1, _, q3⟩ := ixK_at (id := x.key) hx (by simpa using h1) fun j y hj hy => by
      have := h2 j hj
      rw [List.getElem?_eq_getElem (by omega)] at hy
      injection hy with hy
      subst hy
      simpa using this
    have hp : putK K x = setK K x := by unfold putK; rw [q3]; rfl
    refine ⟨i, K[i], q1, hx, by rw [hp]; exact setK_keys K x, ?_⟩
    rw [hp]
    apply List.ext_getElem?
    intro j
    unfold setK
    rw [List.map_map, List.getElem?_map, List.getElem?_set]
    by_cases hij : i = j
    · subst hij
      rw [if_pos rfl, if_pos (by simpa using hi), hx]
      simp only [Option.map_some, Function.comp, h1, if_true]
    · rw [if_neg hij, List.getElem?_map]
      cases hj : K[j]? with
      | none => rfl
      | some y =>
        have : (y.key == x.key) = false := by
          rw [beq_eq_false_iff_ne]
          intro e
          apply hij
          have hk : (K.map Kn.key)[i]? = (K.map Kn.key)[j]? := by
            rw [List.getElem?_map, List.getElem?_map, hx, hj]
            simp only [Option.map_some]
            rw [e, show K[i].key = x.key from by simpa using h1]
          exact (List.getElem?_inj (by simpa using hi) h).1 hk
        simp only [Option.map_some, Function.comp, this, if_false, Bool.false_eq_true]
end Go.Proofs.Ytgdlajbkppfejaa

namespace Go.Proofs.Ytgdlajbkppfejaa
open Go.RowKit Go.ChangeShapes
set_option maxRecDepth 100000
set_option linter.unusedVariables false
set_option linter.unusedSimpArgs false

theorem ixI_K (K : List Kn) (id : Int) : ixI (K.map Kn.key) id = ixK K id ∧ lastI (K.map Kn.key) (K.map Kn.ver) id = lastK K id := by
  cases e : K.findIdx? (fun x => x.key == id) with
  | none =>
    rw [List.findIdx?_eq_none_iff] at e
    have hn : ∀ (j : Nat) y, K[j]? = some y → y.key ≠ id := fun j y hj => by simpa using e y (List.mem_of_getElem? hj)
    obtain ⟨a1, a2, _⟩ := ixK_none hn
    obtain ⟨b1, b2⟩ := ixI_none (I := K.map Kn.key) (V := K.map Kn.ver) (id := id) fun j y hy => by
      rw [List.getElem?_map] at hy
      cases hj : K[j]? with
      | none => rw [hj] at hy; cases hy
      | some x => rw [hj] at hy; simp only [Option.map_some, Option.some.injEq] at hy; subst hy; exact hn j x hj
    rw [a1, a2, b1, b2]
    exact ⟨rfl, rfl⟩
  | some i =>
    rw [List.findIdx?_eq_some_iff_getElem] at e
    obtain ⟨hi, h1, h2⟩ := e
    have hx : K[i]? = some K[i] := List.getElem?_eq_getElem hi
    have hk : K[i].key = id := by simpa using h1
    have hn : ∀ (j : Nat) y, j < i → K[j]? = some y → y.key ≠ id := fun j y hj hy => by
      have := h2 j hj
      rw [List.getElem?_eq_getElem (by omega)] at hy
      injection hy with hy
      subst hy
      simpa using this
    obtain ⟨a1, a2, _⟩ := ixK_at hx hk hn
    obtain ⟨b1, b2⟩ := ixI_at (I := K.map Kn.key) (V := K.map Kn.ver) (id := id) (x := K[i].ver) (i := i) (by rw [List.getElem?_map, hx]; simp [hk]) (by rw [List.getElem?_map, hx]; rfl) fun j y hj hy => by
      rw [List.getElem?_map] at hy
      cases hjj : K[j]? with
      | none => rw [hjj] at hy; cases hy
      | some x => rw [hjj] at hy; simp only [Option.map_some, Option.some.injEq] at hy; subst hy; exact hn j x hj hjj
    rw [a1, a2, b1, b2]
    exact ⟨rfl, rfl⟩
/-- The rows behind a note. -/
theorem note_K {K : List Kn} (h : OneK K) (x : Kn) : (putK K x).map Kn.key = noteI (K.map Kn.key) x.key ∧ (putK K x).map Kn.ver = noteV (K.map Kn.key) (K.map Kn.ver) x.key x.ver := by
  obtain ⟨e, _⟩ := ixI_K K x.key
  rcases putK_rows h x with ⟨i, o, h1, h2, h3, h4⟩ | ⟨h1, h3, h4⟩
  · unfold noteI noteV
    rw [e, h1, if_neg (by omega), if_neg (by omega), h3, h4]
    exact ⟨rfl, rfl⟩
  · unfold noteI noteV
    rw [e, h1, if_pos rfl, if_pos rfl, h3, h4]
    exact ⟨rfl, rfl⟩
theorem plays_put {K : List Kn} {L : List Rec} (hw : WellK K) (hm : MRef K L) (attrs : Int) (r : Rec) :
    (mputF attrs K r).2 = rputB attrs (K.map Kn.key) (K.map Kn.ver) r ∧ (rputB attrs (K.map Kn.key) (K.map Kn.ver) r = true → (mputF attrs K r).1.map Kn.key = noteI (K.map Kn.key) r.id ∧ (mputF attrs K r).1.map Kn.ver = noteV (K.map Kn.key) (K.map Kn.ver) r.id r.ver ∧ MRef (mputF attrs K r).1 (putR (dropR L r.id) r).1) ∧
      (rputB attrs (K.map Kn.key) (K.map Kn.ver) r = false → (mputF attrs K r).1 = K) := by
  obtain ⟨e1, e2⟩ := ixI_K K r.id
  cases hr : rightF attrs r.id r.ver r.vals.length with
  | false =>
    have h1 : mputF attrs K r = (K, false) := by unfold mputF; rw [hr]; rfl
    have h2 : rputB attrs (K.map Kn.key) (K.map Kn.ver) r = false := by unfold rputB; rw [hr]; rfl
    rw [h1, h2]
    exact ⟨rfl, fun h => (by cases h), fun _ => rfl⟩
  | true =>
    have hv : 1 ≤ r.ver := by
      unfold rightF at hr
      simp only [Bool.and_eq_true, decide_eq_true_eq] at hr
      exact hr.2
    by_cases hle : r.ver ≤ lastK K r.id
    · have h1 : mputF attrs K r = (K, false) := by unfold mputF; rw [hr, if_pos rfl, if_pos hle]
      have hne : ixK K r.id ≠ -1 := fun e => by
        have : lastK K r.id = 0 := by
          rcases putK_rows hw.1 ⟨r.id, 0, true, r⟩ with ⟨i, o, q1, _⟩ | ⟨q1, _⟩
          · rw [show (⟨r.id, 0, true, r⟩ : Kn).key = r.id from rfl, e] at q1; omega
          · cases e3 : K.findIdx? (fun x => x.key == r.id) with
            | some i => unfold ixK at e; rw [e3] at e; simp only at e; omega
            | none =>
              rw [List.findIdx?_eq_none_iff] at e3
              exact (ixK_none (K := K) (id := r.id) fun j y hj => by simpa using e3 y (List.mem_of_getElem? hj)).2.1
        omega
      have h2 : rputB attrs (K.map Kn.key) (K.map Kn.ver) r = false := by
        unfold rputB
        rw [hr, e1, e2, decide_eq_true hle, show (ixK K r.id == -1) = false by rw [beq_eq_false_iff_ne]; exact hne]
        rfl
      rw [h1, h2]
      exact ⟨rfl, fun h => (by cases h), fun _ => rfl⟩
    · have h1 : mputF attrs K r = (putK K ⟨r.id, r.ver, true, r⟩, true) := by unfold mputF; rw [hr, if_pos rfl, if_neg hle]
      have h2 : rputB attrs (K.map Kn.key) (K.map Kn.ver) r = true := by
        unfold rputB
        rw [hr, e2, decide_eq_false hle]
        simp
      rw [h1, h2]
      obtain ⟨n1, n2⟩ := note_K hw.1 ⟨r.id, r.ver, true, r⟩
      exact ⟨rfl, fun _ => ⟨n1, n2, hm.put hw r r.ver⟩, fun h => (by cases h)⟩
theorem plays_del {K : List Kn} {L : List Rec} (hw : WellK K) (hm : MRef K L) (id ver : Int) :
    (mdelF K id ver).2 = rdelB L id ver ∧ (rdelB L id ver = true → (mdelF K id ver).1.map Kn.key = noteI (K.map Kn.key) id ∧ (mdelF K id ver).1.map Kn.ver = noteV (K.map Kn.key) (K.map Kn.ver) id ver ∧ MRef (mdelF K id ver).1 (dropR L id)) ∧
      (rdelB L id ver = false → (mdelF K id ver).1 = K) := by
  obtain ⟨g1, g2⟩ := hm.get hw id
  cases hi : isK K id with
  | false =>
    have h1 : mdelF K id ver = (K, false) := by unfold mdelF; rw [hi]; rfl
    have h2 : rdelB L id ver = false := by unfold rdelB; rw [← g1, hi]; rfl
    rw [h1, h2]
    exact ⟨rfl, fun h => (by cases h), fun _ => rfl⟩
  | true =>
    have hl := lastK_ver hw hi
    have hg : (gotR L id).ver = lastK K id := by unfold gotR; rw [← g2]; exact hl
    by_cases hle : ver ≤ lastK K id
    · have h1 : mdelF K id ver = (K, false) := by unfold mdelF; rw [hi, if_pos rfl, if_pos hle]
      have h2 : rdelB L id ver = false := by unfold rdelB; rw [← g1, hi, hg, decide_eq_false (by omega)]; rfl
      rw [h1, h2]
      exact ⟨rfl, fun h => (by cases h), fun _ => rfl⟩
    · have h1 : mdelF K id ver = (putK K ⟨id, ver, false, ⟨0, 0, []⟩⟩, true) := by unfold mdelF; rw [hi, if_pos rfl, if_neg hle]
      have h2 : rdelB L id ver = true := by unfold rdelB; rw [← g1, hi, hg, decide_eq_true (by omega)]; rfl
      rw [h1, h2]
      obtain ⟨n1, n2⟩ := note_K hw.1 ⟨id, ver, false, ⟨0, 0, []⟩⟩
      exact ⟨rfl, fun _ => ⟨n1, n2, hm.drop hw id ver⟩, fun h => (by cases h)⟩
theorem plays_put2 {K : List Kn} {L : List Rec} (hw : WellK K) (hm : MRef K L) (attrs : Int) (r : Rec) : ∃ L2, MRef (mputF attrs K r).1 L2 ∧ ∀ (W : World) (M : Thing) (rb : Nat) (w : World), (rputB attrs (K.map Kn.key) (K.map Kn.ver) r = true → RM W M rb attrs (noteI (K.map Kn.key) r.id) (noteV (K.map Kn.key) (K.map Kn.ver) r.id r.ver) (putR (dropR L r.id) r).1 w) →
    (rputB attrs (K.map Kn.key) (K.map Kn.ver) r = false → RM W M rb attrs (K.map Kn.key) (K.map Kn.ver) L w) → RM W M rb attrs ((mputF attrs K r).1.map Kn.key) ((mputF attrs K r).1.map Kn.ver) L2 w := by
  obtain ⟨_, h1, h2⟩ := plays_put hw hm attrs r
  cases hb : rputB attrs (K.map Kn.key) (K.map Kn.ver) r with
  | true =>
    obtain ⟨a1, a2, a3⟩ := h1 hb
    exact ⟨_, a3, fun W M rb w h _ => by rw [a1, a2]; exact h rfl⟩
  | false =>
    rw [h2 hb]
    exact ⟨L, hm, fun W M rb w _ h => h rfl⟩
theorem plays_del2 {K : List Kn} {L : List Rec} (hw : WellK K) (hm : MRef K L) (attrs id ver : Int) : ∃ L2, MRef (mdelF K id ver).1 L2 ∧ ∀ (W : World) (M : Thing) (rb : Nat) (w : World), (rdelB L id ver = true → RM W M rb attrs (noteI (K.map Kn.key) id) (noteV (K.map Kn.key) (K.map Kn.ver) id ver) (dropR L id) w) →
    (rdelB L id ver = false → RM W M rb attrs (K.map Kn.key) (K.map Kn.ver) L w) → RM W M rb attrs ((mdelF K id ver).1.map Kn.key) ((mdelF K id ver).1.map Kn.ver) L2 w := by
  obtain ⟨_, h1, h2⟩ := plays_del hw hm id ver
  cases hb : rdelB L id ver with
  | true =>
    obtain ⟨a1, a2, a3⟩ := h1 hb
    exact ⟨_, a3, fun W M rb w h _ => by rw [a1, a2]; exact h rfl⟩
  | false =>
    rw [h2 hb]
    exact ⟨L, hm, fun W M rb w _ h => h rfl⟩
theorem mput_len (attrs : Int) (K : List Kn) (r : Rec) : (mputF attrs K r).1.length ≤ K.length + 1 := by
  unfold mputF
  split
  · split
    · simp
    · exact putK_len _ _
  · simp
theorem mdel_len (K : List Kn) (id ver : Int) : (mdelF K id ver).1.length ≤ K.length + 1 := by
  unfold mdelF
  split
  · split
    · simp
    · exact putK_len _ _
  · simp
end Go.Proofs.Ytgdlajbkppfejaa

namespace Go.Proofs.Ytgdlajbkppfejaa
open Go.RowKit Go.ChangeShapes
set_option maxRecDepth 100000
set_option linter.unusedVariables false
set_option linter.unusedSimpArgs false

structure OpR where
  erase : Bool
  rc : Rec
theorem op_info : ∃ i : TypeInfo, Try.prog.info? 61 = some i ∧ i.zero = some (.agg #[.bool false, .int .u64 0, .int .u64 0, .slice none 0 0]) ∧ i.size = 4 ∧ i.bytes = 48 := by
  obtain ⟨j0, jii, jz0, jz1, jz2⟩ := info_parts (show (Try.prog.info? 61).map (fun i => (i.zero, i.size, i.bytes)) = some (some (.agg #[.bool false, .int .u64 0, .int .u64 0, .slice none 0 0]), 4, 48) by kernel_rfl)
  exact ⟨j0, jii, jz0, jz1, jz2⟩
def opRd (w : World) (D : Nat → Prop) (cs : List Value) (o : OpR) : Prop := ∃ s m c, cs = [.bool o.erase, .int .u64 o.rc.id, .int .u64 o.rc.ver, .slice s m c] ∧ o.rc.ok ∧ Ints w D .u32 4 s m c o.rc.vals
def opE : Elt Try.prog OpR where
  T := 61
  ST := 55
  k := 4
  bytes := 48
  zero := .agg #[.bool false, .int .u64 0, .int .u64 0, .slice none 0 0]
  rd := opRd
  pos := by omega
  len := fun ⟨s, m, c, h, _⟩ => by rw [h]; rfl
  one := fun ⟨s, m, c, h, _⟩ u hu => by subst h; simp only [List.mem_cons, List.not_mem_nil, or_false] at hu; rcases hu with rfl | rfl | rfl | rfl <;> rfl
  move := fun ⟨s, m, c, h, hok, hi⟩ hm => ⟨s, m, c, h, hok, hi.move hm⟩
  und := Try.underlying55
  info := op_info
  zlen := rfl
  blim := by omega
theorem ops_open {w : World} {D : Nat → Prop} {v : Value} {y : (Sh.sl (.st (.pair .bool (.pair (.st shRecC) .unit))) 48).T} (h : Sh.Val w D (.sl (.st (.pair .bool (.pair (.st shRecC) .unit))) 48) v y) : ∃ A n cap l, v = .slice A n cap ∧ opE.At w D A n cap l := by
  obtain ⟨A, n, cap, l, h1, h2, h3⟩ := Elt.open (E := opE) (s := .st (.pair .bool (.pair (.st shRecC) .unit))) rfl h fun cl x hx => by
    obtain ⟨c1, c2, rfl, rfl, c3, c4, rfl, h2, h3⟩ := hx
    cases h3
    obtain ⟨r, s, l, c, rfl, hr, hi⟩ := rec_cells h2
    exact ⟨⟨_, r⟩, s, l, c, rfl, hr, hi⟩
  simp only [List.cons.injEq, and_true] at h1
  exact ⟨A, n, cap, l, h1, h3⟩
theorem op_at {w : World} {D : Nat → Prop} {A : Option Addr} {n cap i : Nat} {l : List OpR} (h : opE.At w D A n cap l) (hi : i < n) : ∃ (b off : Nat) (o : OpR) (s : Option Addr) (m c : Nat), A = some ⟨b, off, none⟩ ∧ D b ∧ l[i]? = some o ∧ w.cell? ⟨b, off + i * 4, none⟩ = some (.bool o.erase) ∧ w.cell? ⟨b, off + i * 4 + 1, none⟩ = some (.int .u64 o.rc.id) ∧ w.cell? ⟨b, off + i * 4 + 2, none⟩ = some (.int .u64 o.rc.ver) ∧ w.cell? ⟨b, off + i * 4 + 3, none⟩ = some (.slice s m c) ∧ o.rc.ok ∧ Ints w D .u32 4 s m c o.rc.vals := by
  obtain ⟨h1, h2, h3, h4, h5⟩ := h
  obtain ⟨b, off, rfl, hd, hc⟩ := h5 (by omega)
  obtain ⟨o, ho⟩ : ∃ o, l[i]? = some o := ⟨_, List.getElem?_eq_getElem (by omega)⟩
  obtain ⟨cs, q, s, m, c, rfl, hok, hint⟩ := hc i o ho
  have q0 := q 0 _ rfl; have q1 := q 1 _ rfl; have q2 := q 2 _ rfl; have q3 := q 3 _ rfl
  exact ⟨b, off, o, s, m, c, rfl, hd, ho, q0, q1, q2, q3, hok, hint⟩
section
variable {W w : World} {b rb : Nat} {attrs : Int} {K : List Kn} {I V : List Int} {L : List Rec}
theorem rmo_put (r : Rec) {s : Option Addr} {m cp : Nat} (h : RM W (tModel [1] b attrs K) rb attrs I V L w) (hK : K.length ≤ 10000) (ha1 : -9223372036854775808 ≤ attrs) (ha2 : attrs < 9223372036854775808) (hok : r.ok) (hv : Ints W (· < W.heap.size) .u32 4 s m cp r.vals) :
    Calls Try.prog 21 #[.pointer (some ⟨b, 0, none⟩), .agg #[.int .u64 r.id, .int .u64 r.ver, .slice s m cp]] w fun e w' => e = .returned (.bool (mputF attrs K r).2) ∧ RM W (tModel [1] b attrs (mputF attrs K r).1) rb attrs I V L w' := by
  obtain ⟨h0, LA, ln, lc, vI, vV, hs⟩ := h
  cases hr : rightF attrs r.id r.ver r.vals.length with
  | true =>
    refine (mo_put (r := r) 0 hs rfl (by simp) hK ha1 ha2 hok (fun c h => hv.move h.first) hr (L' := (mputF attrs K r).1) (bo := (mputF attrs K r).2) rfl rfl).mono ?_
    rintro e w' ⟨rfl, hs', _⟩
    exact ⟨rfl, h0, LA, ln, lc, vI, vV, hs'⟩
  | false =>
    have hm : mputF attrs K r = (K, false) := by unfold mputF; rw [hr]; rfl
    obtain ⟨c, hs⟩ := hs
    refine (model_put_no (id := r.id) (ver := r.ver) (vals := r.vals) (show ModelR c [1] w b attrs K from hs.get (i := 0) rfl) ha1 ha2 hok (hv.move hs.first) hr).mono ?_
    rintro e w' ⟨rfl, hb⟩
    rw [hm]
    exact ⟨rfl, h0, LA, ln, lc, vI, vV, Sta.later ⟨c, hs⟩ hb⟩
theorem rmo_del {id ver : Int} (h : RM W (tModel [1] b attrs K) rb attrs I V L w) (hK : K.length ≤ 10000) (h1 : U64 id) (h2 : U64 ver) :
    Calls Try.prog 26 #[.pointer (some ⟨b, 0, none⟩), .int .u64 id, .int .u64 ver] w fun e w' => e = .returned (.bool (mdelF K id ver).2) ∧ RM W (tModel [1] b attrs (mdelF K id ver).1) rb attrs I V L w' := by
  obtain ⟨h0, LA, ln, lc, vI, vV, hs⟩ := h
  refine (mo_del 0 hs rfl (by simp) hK h1 h2 (L' := (mdelF K id ver).1) (bo := (mdelF K id ver).2) rfl rfl).mono ?_
  rintro e w' ⟨rfl, hs', _⟩
  exact ⟨rfl, h0, LA, ln, lc, vI, vV, hs'⟩
theorem rmo_len {n : Nat} (h : RM W (tModel [1] b attrs K) rb attrs I V L w) (hK : K.length ≤ 10000) (hn : K.countP isB = n) :
    Calls Try.prog 29 #[.pointer (some ⟨b, 0, none⟩)] w fun e w' => e = .returned (.int .i64 n) ∧ Below w.heap.size w w' := by
  obtain ⟨h0, LA, ln, lc, vI, vV, hs⟩ := h
  refine (mo_len 0 hs rfl hK hn).mono ?_
  rintro e w' ⟨rfl, _, hb⟩
  exact ⟨rfl, hb⟩
theorem rmo_get {id : Int} {r : Rec} {bo : Bool} (h : RM W (tModel [1] b attrs K) rb attrs I V L w) (h1 : U64 id) (hr : recK K id = r) (hb : isK K id = bo) :
    Calls Try.prog 23 #[.pointer (some ⟨b, 0, none⟩), .int .u64 id] w fun e w' => ∃ s n k, e = .returned (.tuple #[.agg #[.int .u64 r.id, .int .u64 r.ver, .slice s n k], .bool bo]) ∧ Ints w' (w.heap.size ≤ ·) .u32 4 s n k r.vals ∧ r.ok ∧ Below w.heap.size w w' := by
  obtain ⟨h0, LA, ln, lc, vI, vV, hs⟩ := h
  refine (mo_get 0 hs rfl h1 hr hb).mono ?_
  rintro e w' ⟨s, n, k, rfl, a1, a2, _, a3⟩
  exact ⟨s, n, k, rfl, a1, a2, a3⟩
theorem rmo_find {BA : Option Addr} {bn bc : Nat} {bl : List Rng} (h : RM W (tModel [1] b attrs K) rb attrs I V L w) (hK : K.length ≤ 10000) (hbl : RngsAt W (· < W.heap.size) BA bn bc bl) :
    Calls Try.prog 22 #[.pointer (some ⟨b, 0, none⟩), .slice BA bn bc] w fun e w' => ∃ (ks : List Int) (ls : List Kn) (A : Option Addr) (cap : Nat), e = .returned (.slice A ls.length cap) ∧ (rightB attrs bl = true → FoundOf bl K ks ls ∧ ∀ x ∈ K, x.key ∈ ks) ∧ (rightB attrs bl = false → ls = []) ∧ recE.At w' (· < w'.heap.size) A ls.length cap (ls.map Kn.rc) ∧ Below w.heap.size w w' := by
  obtain ⟨h0, LA, ln, lc, vI, vV, hs⟩ := h
  refine (mo_find_any 0 hs rfl hK (fun c h => hbl.move h.first)).mono ?_
  rintro e w' ⟨ks, ls, A, cap, rfl, a1, a2, hs', a3⟩
  exact ⟨ks, ls, A, cap, rfl, a1, a2, hs'.at (i := 5) (E := recE) rfl, a3⟩
end
end Go.Proofs.Ytgdlajbkppfejaa
