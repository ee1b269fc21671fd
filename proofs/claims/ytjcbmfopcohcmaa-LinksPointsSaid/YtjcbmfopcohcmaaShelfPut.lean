/- The shelf's Put. Conditions: the shelf is one, the entry's values are data. -/
import Derived.Test.YtjcbmfopcohcmaaShelf
namespace Go.Proofs.Ytjcbmfopcohcmaa
open Go.RowKit Go.ChangeShapes Go.Maps
open Go.ChangeMaps (setBlock heap_setBlock_other)
set_option maxRecDepth 100000
set_option linter.unusedVariables false
set_option linter.unusedSimpArgs false

/-- Whether an entry has a key. -/
def ekB (x id : Int) (e : Ent) : Bool := e.value == x && e.rc.id == id
theorem ekB_iff {x id : Int} {e : Ent} : ekB x id e = true ↔ e.value = x ∧ e.rc.id = id := by simp [ekB]
def findE (L : List Ent) (x id : Int) : Option Ent := L.find? (ekB x id)
def setE (L : List Ent) (e : Ent) : List Ent := L.map fun y => if ekB e.value e.rc.id y then e else y
/-- What Put makes of the entries; whether it was put; the number told. -/
def putF (L : List Ent) (e : Ent) : List Ent × Bool × Int :=
  match findE L e.value e.rc.id with
  | some o => if newerF e.rc.ver e.gone o.rc.ver o.gone = true then (setE L e, true, 0) else (L, false, 0)
  | none => if 10000 ≤ L.length then (L, false, 5) else (L ++ [e], true, 0)

section
variable {c : Col} {w : World} {D : DataW Value} {L : List Ent}
theorem shelf_there {x id : Int} {e : Ent} (hd : MapOf kE (EVal c w) D L) (h : findE L x id = some e) : Maps.has D (KL x id) = true ∧ ∃ v, EVal c w e v ∧ (∀ z, D.atKey (KL x id) z = .held v) ∧ e ∈ L ∧ e.value = x ∧ e.rc.id = id := by
  have h1 := List.mem_of_find?_eq_some h
  have h2 := ekB_iff.1 (List.find?_some h)
  obtain ⟨q1, v, q2, q3⟩ := hd.has e h1
  have hk : kE e = KL x id := by unfold kE; rw [h2.1, h2.2]
  rw [hk] at q1 q3
  exact ⟨q1, v, q2, q3, h1, h2⟩
theorem shelf_not {x id : Int} (hx : U32 x) (hi : U64 id) (hd : MapOf kE (EVal c w) D L) (h : findE L x id = none) : Maps.has D (KL x id) = false ∧ ∀ y ∈ L, kE y ≠ KL x id := by
  have h1 : ∀ y ∈ L, kE y ≠ KL x id := by
    intro y hy he
    obtain ⟨_, v, q2, _⟩ := hd.has y hy
    obtain ⟨e1, e2⟩ := KL_inj q2.ok.1 q2.ok.2.1 hx hi he
    have := List.find?_eq_none.1 h y hy
    exact this (ekB_iff.2 ⟨e1, e2⟩)
  exact ⟨hd.none _ h1, h1⟩
end

theorem newerB (x1 i1 v1 : Int) (s1 : Option Addr) (l1 c1 : Nat) (g1 : Bool) (x2 i2 v2 : Int) (s2 : Option Addr) (l2 c2 : Nat) (g2 : Bool) (w : World) (h1 : 0 ≤ v1) (h2 : 0 ≤ v2) :
    Calls Try.prog 78 #[.agg #[.int .u32 x1, .int .u64 i1, .int .u64 v1, .slice s1 l1 c1, .bool g1], .agg #[.int .u32 x2, .int .u64 i2, .int .u64 v2, .slice s2 l2 c2, .bool g2]] w
      fun e w' => e = .returned (.bool (newerF v1 g1 v2 g2)) ∧ Below w.heap.size w w' := newer_any _ _ _ _ _ _ _ _ _ _ _ _ _ _ w h1 h2

/-- What stands behind the look-up in Put. -/
def Looked (w : World) (OLD : Array Value) (is : Bool) (s6 s7 : Value) (w' : World) : Prop :=
  ∃ b6, s6 = .pointer (some ⟨b6, 0, none⟩) ∧ s7 = .bool is ∧ Box w' b6 OLD ∧ Below w.heap.size w w' ∧ w.heap.size ≤ b6
/-- What the store's region keeps: all but the map. -/
abbrev ButMap (mb : Nat) (w w' : World) : Prop := Only (· = mb) w w' ∧ ∀ b o, b < w.heap.size → b ≠ mb → w'.cell? ⟨b, o, none⟩ = w.cell? ⟨b, o, none⟩
theorem ButMap.of {mb : Nat} {w w' : World} (h : Only (· = mb) w w') : ButMap mb w w' := ⟨h, fun b o hb hn => h.cell b o hb hn⟩
theorem ButMap.same {mb : Nat} {w w' : World} (h : Same w w') : ButMap mb w w' := .of (Only.of_below h.1)
theorem looked_new {wx w2 : World} {OLD : Array Value} {T : TypeId} {is : Bool} (h : Same wx w2) : Looked wx OLD is (.pointer (some ⟨w2.heap.size, 0, none⟩)) (.bool is) (w2.alloc (.cells OLD T)) := ⟨_, rfl, rfl, Box.new _ _ _, h.1.alloc h.1.size _, h.1.size⟩
theorem Same.refl (w : World) : Same w w := .of (Below.refl _ _)
theorem Same.drew' {w w' : World} (h : Same w w') : Same w w'.drew := .of h.1.drew
theorem Same.alloc {w w' : World} (h : Same w w') (o : Obj) : Same w (w'.alloc o) := h.step (below_a1 _ _)
theorem Same.set {w w' : World} (h : Same w w') {p : Addr} (hp : w.heap.size ≤ p.block) (u : Value) : Same w (w'.setCell p u) := .of (h.1.setCell hp u)
theorem box_call {wx w2 : World} {vs : Array Value} {T : TypeId} (hb : Below (wx.alloc (.cells vs T)).drew.heap.size (wx.alloc (.cells vs T)).drew w2) : Box w2 wx.heap.size vs := (Box.new wx vs T).drew.below hb (by show _ < (wx.alloc _).heap.size; rw [size_alloc]; omega)
/-- The store: what it makes, in whatever later world. -/
theorem heldIf_upd {P : Program} {t k e : TypeId} {b n : Nat} {D : DataW Value} {w : World} {p : Value → Bool} (h : w.ownsMap P k (heldIf p) b n D) (K : Keyed P k) (ht : P.underlying t = some (.map k e)) (hn : n < maxLen) {key : Value} {kl : Lit} (hkey : keyOf P k key = some kl) :
    ∃ upd : World → Value → World, ∀ (w' : World) (v : Value), Below w.heap.size w w' → p v = true → (Instr.mapUpdate t (.map (some b)) key v).run P w' = .ok () (upd w' v) ∧ (upd w' v).ownsMap P k (heldIf p) b (n + 1) (D.put kl (.held v)) ∧ Only (· = b) w' (upd w' v) := by
  classical
  have key : ∀ (w' : World) (v : Value), ∃ u, Below w.heap.size w w' → p v = true → (Instr.mapUpdate t (.map (some b)) key v).run P w' = .ok () u ∧ u.ownsMap P k (heldIf p) b (n + 1) (D.put kl (.held v)) ∧ Only (· = b) w' u := by
    intro w' v
    by_cases hc : Below w.heap.size w w' ∧ p v = true
    · obtain ⟨u, h1, h2, es, cl, es', cl', hb, rfl⟩ := (ownsMap_only h (Only.of_below (S := fun _ => False) hc.1) (fun h => h)).store K ht hn hkey (heldIf_mk hc.2)
      exact ⟨_, fun _ _ => ⟨h1, h2, ⟨rfl, rfl, rfl, by simp [setBlock], fun i _ hi => heap_setBlock_other hb _ hi⟩⟩⟩
    · exact ⟨w', fun h1 h2 => absurd ⟨h1, h2⟩ hc⟩
  exact ⟨fun w' v => Classical.choose (key w' v), fun w' v => Classical.choose_spec (key w' v)⟩

section
variable {c : Col} {π : List Int} {w w3 w4 : World} {b mb : Nat} {L : List Ent} {D : DataW Value} {x id ver : Int} {s : Option Addr} {l cp : Nat} {g : Bool} {vals : List Int}
theorem put_stp (hcm : c mb = π) (hf : Fresh c w) (h3 : Below w.heap.size w w3) (hzm : mb < w.heap.size) (ho : Only (· = mb) w3 w4) : Stp (· = π) c w c w4 :=
  ⟨Only.trans (b := w3) (Only.of_below (S := fun k => c k = π) h3) (ho.mono (S' := fun k => c k = π) fun k _ hk => by subst hk; exact hcm), fun _ _ => rfl, fun k hk => hf k (Nat.le_trans (Nat.le_trans h3.size ho.size) hk)⟩
theorem put_val (hf : Fresh c w) (hok : Ent.ok ⟨x, ⟨id, ver, vals⟩, g⟩) (hzm : mb < w.heap.size) (ho : Only (· = mb) w3 w4) (hn : NewD w.heap.size .u32 4 vals w3 (.slice s l cp)) : EVal c w4 ⟨x, ⟨id, ver, vals⟩, g⟩ (.agg #[.int .u32 x, .int .u64 id, .int .u64 ver, .slice s l cp, .bool g]) := by
  obtain ⟨A, n, cap, e, hi⟩ := NewD.data (w := w) (c := c) (hn.only ho (fun k hk => by show ¬ k = mb; omega)) hf
  injection e with e1 e2 e3
  subst e1 e2 e3
  exact ⟨s, l, cp, rfl, hok, hi⟩
theorem put_box (hb : BoxT w 141 b #[.map (some mb)]) (hm : w.ownsMap Try.prog 96 (heldIf isEnt) mb L.length D) (h3 : Below w.heap.size w w3) (ho : Only (· = mb) w3 w4) : BoxT w4 141 b #[.map (some mb)] := by
  refine (hb.only (Only.of_below (S := fun _ => False) h3) id).only ho ?_
  show b ≠ mb
  rintro rfl
  obtain ⟨es, cl, h1, _⟩ := hm
  unfold BoxT at hb
  rw [hb] at h1
  cases h1
theorem put_boxes (hm : w.ownsMap Try.prog 96 (heldIf isEnt) mb L.length D) (h3 : Below w.heap.size w w3) (ho : Only (· = mb) w3 w4) : Boxes w w4 := by
  intro k C hk
  refine (hk.below h3 hk.lt).only ho ?_
  show k ≠ mb
  rintro rfl
  obtain ⟨es, cl, h1, _⟩ := hm
  obtain ⟨T, hk⟩ := hk
  rw [hk] at h1
  cases h1
theorem put_new (hb : BoxT w 141 b #[.map (some mb)]) (hcb : c b = π) (hcm : c mb = π) (hm : w.ownsMap Try.prog 96 (heldIf isEnt) mb L.length D) (hd : MapOf kE (EVal c w) D L) (hf : Fresh c w) (hπ : π ≠ [])
    (hok : Ent.ok ⟨x, ⟨id, ver, vals⟩, g⟩) (hnot : ∀ y ∈ L, kE y ≠ KL x id) (h3 : Below w.heap.size w w3) (hn : NewD w.heap.size .u32 4 vals w3 (.slice s l cp))
    (hu : w4.ownsMap Try.prog 96 (heldIf isEnt) mb (L.length + 1) (D.put (KL x id) (.held (.agg #[.int .u32 x, .int .u64 id, .int .u64 ver, .slice s l cp, .bool g])))) (ho : Only (· = mb) w3 w4) :
    ShelfTo π b (L ++ [⟨x, ⟨id, ver, vals⟩, g⟩]) c w w4 := by
  have st := put_stp hcm hf h3 hm.lt ho
  have hd4 : MapOf kE (EVal c w4) D L := hd.imp fun e _ v hv => hv.step st hπ.symm
  have hadd := hd4.add (ownsMap_tidy hm key_keyed) (x := ⟨x, ⟨id, ver, vals⟩, g⟩) (KL_key x id) hnot (put_val hf hok hm.lt ho hn)
  exact ⟨c, st, ⟨mb, _, put_box hb hm h3 ho, hcb, hcm, by rw [List.length_append]; exact hu, hadd⟩, put_boxes hm h3 ho⟩
theorem put_set (hb : BoxT w 141 b #[.map (some mb)]) (hcb : c b = π) (hcm : c mb = π) (hm : w.ownsMap Try.prog 96 (heldIf isEnt) mb L.length D) (hd : MapOf kE (EVal c w) D L) (hf : Fresh c w) (hπ : π ≠ [])
    (hok : Ent.ok ⟨x, ⟨id, ver, vals⟩, g⟩) {o : Ent} (ho' : findE L x id = some o) (h3 : Below w.heap.size w w3) (hn : NewD w.heap.size .u32 4 vals w3 (.slice s l cp))
    (hu : w4.ownsMap Try.prog 96 (heldIf isEnt) mb (L.length + 1) (D.put (KL x id) (.held (.agg #[.int .u32 x, .int .u64 id, .int .u64 ver, .slice s l cp, .bool g])))) (ho : Only (· = mb) w3 w4) :
    ShelfTo π b (setE L ⟨x, ⟨id, ver, vals⟩, g⟩) c w w4 := by
  have st := put_stp hcm hf h3 hm.lt ho
  have hd4 : MapOf kE (EVal c w4) D L := hd.imp fun e _ v hv => hv.step st hπ.symm
  have hux := hok.1
  have hui : U64 id := hok.2.1
  obtain ⟨_, _, _, _, hmem, e1, e2⟩ := shelf_there hd ho'
  have hk : ∀ y ∈ L, (kE y = KL x id ↔ ekB x id y = true) := fun y hy => by
    obtain ⟨_, v, hv, _⟩ := hd.has y hy
    rw [ekB_iff]
    constructor
    · intro he; exact KL_inj hv.ok.1 hv.ok.2.1 hux hui he
    · rintro ⟨a1, a2⟩; unfold kE; rw [a1, a2]
  have hset := hd4.set (ownsMap_tidy hm key_keyed) (x := ⟨x, ⟨id, ver, vals⟩, g⟩) (f := fun y => if ekB x id y then ⟨x, ⟨id, ver, vals⟩, g⟩ else y) (KL_key x id) ⟨o, hmem, by unfold kE; rw [e1, e2]⟩
    (fun y hy he => if_pos ((hk y hy).1 he)) (fun y hy he => if_neg fun h => he ((hk y hy).2 h)) (put_val hf hok hm.lt ho hn)
  have ht := ownsMap_tight hu
  rw [show D.put (KL x id) _ = D.put (kE ⟨x, ⟨id, ver, vals⟩, g⟩) _ from rfl, hset.size] at ht
  exact ⟨c, st, ⟨mb, _, put_box hb hm h3 ho, hcb, hcm, by simpa [setE] using ht, hset⟩, put_boxes hm h3 ho⟩
end

theorem looked_set {wx w2 : World} {a1 a2 a3 a4 a5 z1 z2 z3 z4 z5 : Value} {is : Bool} (h : Same wx w2) (hb : Box w2 wx.heap.size #[z1, z2, z3, z4, z5]) : Looked wx #[a1, a2, a3, a4, a5] is (.pointer (some ⟨wx.heap.size, 0, none⟩)) (.bool is)
    (((((w2.setCell ⟨wx.heap.size, 0, none⟩ a1).setCell ⟨wx.heap.size, 1, none⟩ a2).setCell ⟨wx.heap.size, 2, none⟩ a3).setCell ⟨wx.heap.size, 3, none⟩ a4).setCell ⟨wx.heap.size, 4, none⟩ a5) :=
  ⟨_, rfl, rfl, ((((hb.set a1).set a2).set a3).set a4).set a5, ((((h.set (Nat.le_refl _) _).set (Nat.le_refl _) _).set (Nat.le_refl _) _).set (Nat.le_refl _) _).set (Nat.le_refl _) _ |>.1, Nat.le_refl _⟩
set_option maxHeartbeats 1000000 in
theorem shelf_put {c : Col} {π : List Int} {w : World} {b : Nat} {L : List Ent} {x id ver : Int} {s : Option Addr} {l cp : Nat} {g : Bool} {vals : List Int} (h : ShelfR c π w b L) (hf : Fresh c w) (hπ : π ≠ [])
    (he : EVal c w ⟨x, ⟨id, ver, vals⟩, g⟩ (.agg #[.int .u32 x, .int .u64 id, .int .u64 ver, .slice s l cp, .bool g])) (hL : L.length < 1000000) :
    Calls Try.prog 39 #[.pointer (some ⟨b, 0, none⟩), .agg #[.int .u32 x, .int .u64 id, .int .u64 ver, .slice s l cp, .bool g]] w fun e w' =>
      e = .returned (.tuple #[.bool (putF L ⟨x, ⟨id, ver, vals⟩, g⟩).2.1, .int .i64 (putF L ⟨x, ⟨id, ver, vals⟩, g⟩).2.2]) ∧ ShelfTo π b (putF L ⟨x, ⟨id, ver, vals⟩, g⟩).1 c w w' := by
  obtain ⟨mb, D, hb, hcb, hcm, hm, hd⟩ := h
  obtain ⟨hux, hui, huv, _⟩ := he.ok
  dsimp only at hux hui huv
  have hkey := keyOf_key hux hui
  have HKEY := Lib.hid hkey
  have HB := Lib.hid hb; have HM := Lib.hid hm; have HD := Lib.hid hd; have HF := Lib.hid hf; have HE := Lib.hid he
  have HUX := Lib.hid hux; have HUI := Lib.hid hui
  obtain ⟨v0, v1⟩ := huv
  have hc0 := hb.box.cell
  have zb := hb.lt
  -- the look-up in whatever world
  obtain ⟨is, ov, OLD, hlook, hcases⟩ : ∃ (is : Bool) (ov : Int × Int × Int × Option Addr × Nat × Nat × Bool) (OLD : Value), OLD = .agg #[.int .u32 ov.1, .int .u64 ov.2.1, .int .u64 ov.2.2.1, .slice ov.2.2.2.1 ov.2.2.2.2.1 ov.2.2.2.2.2.1, .bool ov.2.2.2.2.2.2] ∧
      (D.atKey (KL x id) (.held (.agg #[.int .u32 0, .int .u64 0, .int .u64 0, .slice none 0 0, .bool false])) = .held OLD ∧ Maps.has D (KL x id) = is ∧
        ((is = true ∧ ∃ o, findE L x id = some o ∧ o ∈ L ∧ o.rc.ver = ov.2.2.1 ∧ o.gone = ov.2.2.2.2.2.2 ∧ 0 ≤ o.rc.ver) ∨ (is = false ∧ findE L x id = none))) := by
    cases hfe : findE L x id with
    | some o =>
      obtain ⟨h1, v, h2, h3, h4, _⟩ := shelf_there hd hfe
      obtain ⟨s', l', c', rfl, hok, _⟩ := h2
      exact ⟨true, (o.value, o.rc.id, o.rc.ver, s', l', c', o.gone), _, rfl, h3 _, h1, .inl ⟨rfl, o, rfl, h4, rfl, rfl, hok.2.2.1.1⟩⟩
    | none =>
      obtain ⟨h1, _⟩ := shelf_not hux hui hd hfe
      exact ⟨false, (0, 0, 0, none, 0, 0, false), _, rfl, atKey_of_not_has h1 _, h1, .inr ⟨rfl, rfl⟩⟩
  obtain ⟨ox, oi, over, os, ol, oc, og⟩ := ov
  subst hlook
  obtain ⟨hat, hhas, hcases⟩ := hcases
  dsimp only at *
  have hlook := Lib.hid (fun (w' : World) (hb' : Below w.heap.size w w') => heldIf_run_ok (ownsMap_only HM.out (Only.of_below (S := fun _ => False) hb') (fun h => h)) key_keyed Try.underlying139 (z := .agg #[.int .u32 0, .int .u64 0, .int .u64 0, .slice none 0 0, .bool false]) (by kernel_rfl) rfl HKEY.out hat hhas)
  have HC := Lib.hid hcases
  clear hat hhas hcases hkey hb hm hd hf he hux hui
  go_enter Try.func39, Try.ntmps39
  go_upto_region 3 with fail
  refine wp_abs (fun wx => Box wx w.heap.size #[.int .u32 x, .int .u64 id, .int .u64 ver, .slice s l cp, .bool g] ∧ Below w.heap.size w wx) ⟨(by repeat (first | apply Box.drew | apply Box.drewN | exact Box.newAt _ _ _ _ (by first | rfl | (simp only [size_alloc]; done) | (simp only [size_alloc]; omega)) | assumption | refine Box.alloc ?_ _)), (by repeat (first | exact Below.refl _ _ | assumption | apply Below.drew | apply belowN | (refine Below.alloc ?_ (by first | exact Nat.le_refl _ | (simp; done) | (simp; omega)) _) | (refine Below.setCell ?_ (by first | exact Nat.le_refl _ | (simp; done) | (simp; omega)) _)))⟩ ?_
  generalize hb3 : w.heap.size = b3
  rintro wx ⟨X3, hBx⟩
  have HB3 := Lib.hid hb3
  have HBX := Lib.hid hBx
  have zwx := hBx.size
  have hlook2 : ∀ w' : World, Below wx.heap.size wx w' → (Instr.lookup 139 (.map (some mb)) (.agg #[.int .u32 x, .int .u64 id]) true).run Try.prog w' = .ok (.tuple #[.agg #[.int .u32 ox, .int .u64 oi, .int .u64 over, .slice os ol oc, .bool og], .bool is]) w' :=
    fun w' hb' => hlook.out w' (by rw [HB3.out]; exact below_from HBX.out hb' (by have := HBX.out.size; have := HB3.out; omega))
  have XB := HB.out.box.below (by rw [← HB3.out] at HBX; exact HBX.out) zb
  have cb := XB.cell
  have c3 := X3.cell
  have z3 := X3.lt
  have zbx := XB.lt
  have XB' := Lib.hid XB; have X3' := Lib.hid X3
  clear hb3 hBx XB X3 hc0
  go_cut [6, 7] (fun s6 s7 w' => Looked wx #[.int .u32 ox, .int .u64 oi, .int .u64 over, .slice os ol oc, .bool og] is s6 s7 w')
  case first =>
    go_region_held3 (fun w' => Same wx w') (first | (repeat' (with_reducible (first | assumption | exact Same.refl _ | exact Same.drew _ | refine Same.drew' ?_ | refine Same.alloc ?_ _ | refine Same.set ?_ (by dsimp only; omega) _))))
      ((go_at_call 77; (with_reducible refine (key_any x id ver s l cp g _).mono ?_); rintro e2 w2 ⟨rfl, hb2⟩; have S1 := Same.step (show Same wx _ by (repeat' (with_reducible (first | assumption | exact Same.refl _ | exact Same.drew _ | refine Same.drew' ?_ | refine Same.alloc ?_ _ | refine Same.set ?_ (by dsimp only; omega) _)))) hb2; (first | (have N1 := box_call (wx := wx) hb2; have n1 := N1.cell; have n2 := N1.free; have n3 := N1.lt) | skip); clear hb2))
    all_goals
      go_wp2
      go_meet
      first
        | with_reducible exact looked_new (by assumption)
        | with_reducible exact looked_set (by assumption) (by assumption)
  case rest =>
    obtain ⟨b6, rfl, rfl, X6, hB6, hb6⟩ := hcut
    have XBc := Lib.hid (XB'.out.below hB6 zbx)
    have X3c := Lib.hid (X3'.out.below hB6 z3)
    have HBW := Lib.hid (show Below w.heap.size w wc by rw [HB3.out]; exact below_from HBX.out hB6 (by have := HBX.out.size; have := HB3.out; omega))
    have cbc := XBc.out.cell
    have c3c := X3c.out.cell
    have zbc := XBc.out.lt
    have z3c := X3c.out.lt
    have c6 := X6.cell
    have z6 := X6.lt
    have hmn : ∀ w : World, (binOp .eql 139 (.map (some mb)) (.map none)).run Try.prog w = .ok (.bool false) w := fun w => run_eql_map_nil w _ _ _ (some mb) Try.underlying139
    obtain ⟨upd, hupd⟩ := heldIf_upd HM.out key_keyed Try.underlying139 (by show _ < 9223372036854775807; omega) HKEY.out
    have HUPD := Lib.hid hupd
    clear hB6 X6 hupd cb c3 zbx z3 hlook2 zwx
    rcases HC.out with ⟨rfl, o, ho, hmem, e1, e2, e3⟩ | ⟨rfl, ho⟩
    · have o0 : 0 ≤ over := by rw [← e1]; exact e3
      have hput : putF L ⟨x, ⟨id, ver, vals⟩, g⟩ = if newerF ver g over og = true then (setE L ⟨x, ⟨id, ver, vals⟩, g⟩, true, 0) else (L, false, 0) := by
        unfold putF; simp only [ho, e1, e2]
      clear e1 e2 e3 hmem
      cases hn : newerF ver g over og
      · rw [hn, if_neg (by decide)] at hput
        go_wp2_with (go_at_call 78; go_loud ((with_reducible refine (newerB x id ver s l cp g ox oi over os ol oc og _ v0 o0).mono ?_); rintro e w4 ⟨rfl, hb4⟩; rw [hn]; have XB4 := XBc.out.below hb4 zbc; have X34 := X3c.out.below hb4 z3c; have cb4 := XB4.cell; have c34 := X34.cell; have zb4 := XB4.lt; have z34 := X34.lt; have HB4 := Lib.hid (below_from HBW.out hb4 HBW.out.size); have HX4 := Lib.hid XB4; have HX34 := Lib.hid X34; clear hb4 XB4 X34))
        go_ret2
        try rw [hput]
        exact ⟨rfl, c, Stp.of_below _ HF.out HB4.out, ShelfR.later ⟨mb, D, HB.out, hcb, hcm, HM.out, HD.out⟩ HF.out HB4.out, Boxes.below HB4.out⟩
      · rw [hn, if_pos rfl] at hput
        go_upto_region 10 with (go_at_call 78; go_loud ((with_reducible refine (newerB x id ver s l cp g ox oi over os ol oc og _ v0 o0).mono ?_); rintro e w4 ⟨rfl, hb4⟩; rw [hn]; have XB4 := XBc.out.below hb4 zbc; have X34 := X3c.out.below hb4 z3c; have cb4 := XB4.cell; have c34 := X34.cell; have zb4 := XB4.lt; have z34 := X34.lt; have HB4 := Lib.hid (below_from HBW.out hb4 HBW.out.size); have HX4 := Lib.hid XB4; have HX34 := Lib.hid X34; clear hb4 XB4 X34))
        refine wp_abs (fun wy => Box wy b3 #[.int .u32 x, .int .u64 id, .int .u64 ver, .slice s l cp, .bool g] ∧ Box wy b #[.map (some mb)] ∧ Below w.heap.size w wy) ⟨HX34.out, HX4.out, HB4.out⟩ ?_
        rintro wy ⟨Y3, YB, hBy⟩
        have cy3 := Y3.cell
        have cyb := YB.cell
        have zy3 := Y3.lt
        have zyb := YB.lt
        have HBY := Lib.hid hBy
        have n3 : b3 ≠ mb := by have := HM.out.lt; have := HB3.out; omega
        have nb : b ≠ mb := by
          rintro rfl
          obtain ⟨es, cl, h1, _⟩ := HM.out
          have h2 := HB.out
          unfold BoxT at h2
          rw [h2] at h1
          cases h1
        have HU1 : ∀ (w' : World) (s' : Option Addr) (l' c' : Nat), Below wy.heap.size wy w' → (Instr.mapUpdate 139 (.map (some mb)) (.agg #[.int .u32 x, .int .u64 id]) (.agg #[.int .u32 x, .int .u64 id, .int .u64 ver, .slice s' l' c', .bool g])).run Try.prog w' = .ok () (upd w' (.agg #[.int .u32 x, .int .u64 id, .int .u64 ver, .slice s' l' c', .bool g])) :=
          fun w' s' l' c' hb' => (HUPD.out w' _ (below_from HBY.out hb' HBY.out.size) rfl).1
        have HU2 := Lib.hid (fun (w' : World) (s' : Option Addr) (l' c' : Nat) (hs : Same wy w') => (HUPD.out w' (.agg #[.int .u32 x, .int .u64 id, .int .u64 ver, .slice s' l' c', .bool g]) (below_from HBY.out hs.1 HBY.out.size) rfl).2)
        have HU3 := Lib.hid (fun (w' : World) (s' : Option Addr) (l' c' : Nat) (hs : Same wy w') => ButMap.of ((Only.of_below (S := (· = mb)) hs.1).trans (HU2.out w' s' l' c' hs).2))
        have HEI := Lib.hid (show Ints wy (fun b => b < w.heap.size) .u32 4 s l cp vals from by
          obtain ⟨s1, l1, c1, e1, _, hi⟩ := HE.out
          injection e1 with e1
          simp only [Array.mk.injEq, List.cons.injEq, Value.slice.injEq, and_true, true_and] at e1
          obtain ⟨rfl, rfl, rfl⟩ := e1
          exact hi.move fun b hb hlt => ⟨HBY.out.block b hlt, hlt⟩)
        have zwy : w.heap.size ≤ wy.heap.size := HBY.out.size
        have HY3 := Lib.hid Y3; have HYB := Lib.hid YB
        clear hBy Y3 YB
        go_region_held3 (fun w' => ButMap mb wy w') (first | with_reducible exact ButMap.same (by first | assumption | exact Same.drew _) | with_reducible exact HU3.out _ _ _ _ (by assumption))
          (first
          | (go_at_call 77; (with_reducible refine (key_any x id ver s l cp g _).mono ?_); rintro e2 w2 ⟨rfl, hb2⟩; have S1 := Same.step (show Same wy _ by (with_reducible (first | assumption | exact Same.drew _))) hb2; have K1 := Lib.hid hb2; clear hb2)
          | (go_at_call 79; (with_reducible refine (entry_any x id ver g _ (HEI.out.below (show Same wy _ by (with_reducible (first | assumption | exact Same.drew _))).1 (fun b h => Nat.lt_of_lt_of_le h zwy)) (fun b h => Nat.lt_of_lt_of_le (Nat.lt_of_lt_of_le h zwy) (show Same wy _ by (with_reducible (first | assumption | exact Same.drew _))).1.size)).mono ?_); rintro e2 w2 ⟨v2, rfl, ⟨A2, n2, cap2, rfl, hi2⟩, hb2⟩; have NE := Lib.hid (NewD.down (B' := wy.heap.size) ⟨A2, n2, cap2, rfl, hi2⟩ (show Same wy _ by (with_reducible (first | assumption | exact Same.drew _))).1.size); have S1 := Same.step (show Same wy _ by (with_reducible (first | assumption | exact Same.drew _))) hb2; have K2 := Lib.hid hb2; clear hb2 hi2))
        all_goals
          go_wp2
          go_ret2
          refine ⟨by rw [hput]; rfl, ?_⟩
          try rw [hput]
          have F := fun (w3 : World) (A2 : Option Addr) (n2 cap2 : Nat) (S1 : Same wy w3) (NE : NewD wy.heap.size .u32 4 vals w3 (.slice A2 n2 cap2)) => put_set HB.out hcb hcm HM.out HD.out HF.out hπ HE.out.ok ho (below_from HBY.out S1.1 HBY.out.size) (NE.down zwy) (HU2.out w3 A2 n2 cap2 S1).1 (HU2.out w3 A2 n2 cap2 S1).2
          first
          | with_reducible exact F _ _ _ _ (by assumption) (Hid.out (by assumption))
          | exact F _ _ _ _ (by assumption) ((Hid.out (by with_reducible assumption)).only (Only.of_below (S := fun _ => False) (Hid.out (by with_reducible assumption))) (fun _ _ h => h))

    · obtain ⟨_, hnot⟩ := shelf_not HUX.out HUI.out HD.out ho
      have HNOT := Lib.hid hnot
      have hlen : ∀ w' : World, Below w.heap.size w w' → (Builtin.len_ #[139] 3 #[.map (some mb)]).run Try.prog w' = .ok (.int .i64 L.length) w' := fun w' hb' => by
        have h1 := (ownsMap_only HM.out (Only.of_below (S := fun _ => False) hb') (fun h => h)).len Try.underlying139 3
        rwa [HD.out.size] at h1
      have hlc := hlen wc HBW.out
      have hput : putF L ⟨x, ⟨id, ver, vals⟩, g⟩ = if 10000 ≤ L.length then (L, false, 5) else (L ++ [⟨x, ⟨id, ver, vals⟩, g⟩], true, 0) := by
        unfold putF; simp only [ho]
      clear hlen hnot
      by_cases hn : 10000 ≤ L.length
      · rw [if_pos hn] at hput
        have hge : decide ((L.length : Int) ≥ 10000) = true := decide_eq_true (by omega)
        go_wp2_with fail
        go_ret2
        try rw [hput]
        exact ⟨rfl, c, Stp.of_below _ HF.out HBW.out, ShelfR.later ⟨mb, D, HB.out, hcb, hcm, HM.out, HD.out⟩ HF.out HBW.out, Boxes.below HBW.out⟩
      · rw [if_neg hn] at hput
        have hge : decide ((L.length : Int) ≥ 10000) = false := decide_eq_false (by omega)
        have hnot := HNOT.out
        have HB4 := HBW; have HX4 := XBc; have HX34 := X3c
        go_upto_region 10 with fail
        refine wp_abs (fun wy => Box wy b3 #[.int .u32 x, .int .u64 id, .int .u64 ver, .slice s l cp, .bool g] ∧ Box wy b #[.map (some mb)] ∧ Below w.heap.size w wy) ⟨HX34.out, HX4.out, HB4.out⟩ ?_
        rintro wy ⟨Y3, YB, hBy⟩
        have cy3 := Y3.cell
        have cyb := YB.cell
        have zy3 := Y3.lt
        have zyb := YB.lt
        have HBY := Lib.hid hBy
        have n3 : b3 ≠ mb := by have := HM.out.lt; have := HB3.out; omega
        have nb : b ≠ mb := by
          rintro rfl
          obtain ⟨es, cl, h1, _⟩ := HM.out
          have h2 := HB.out
          unfold BoxT at h2
          rw [h2] at h1
          cases h1
        have HU1 : ∀ (w' : World) (s' : Option Addr) (l' c' : Nat), Below wy.heap.size wy w' → (Instr.mapUpdate 139 (.map (some mb)) (.agg #[.int .u32 x, .int .u64 id]) (.agg #[.int .u32 x, .int .u64 id, .int .u64 ver, .slice s' l' c', .bool g])).run Try.prog w' = .ok () (upd w' (.agg #[.int .u32 x, .int .u64 id, .int .u64 ver, .slice s' l' c', .bool g])) :=
          fun w' s' l' c' hb' => (HUPD.out w' _ (below_from HBY.out hb' HBY.out.size) rfl).1
        have HU2 := Lib.hid (fun (w' : World) (s' : Option Addr) (l' c' : Nat) (hs : Same wy w') => (HUPD.out w' (.agg #[.int .u32 x, .int .u64 id, .int .u64 ver, .slice s' l' c', .bool g]) (below_from HBY.out hs.1 HBY.out.size) rfl).2)
        have HU3 := Lib.hid (fun (w' : World) (s' : Option Addr) (l' c' : Nat) (hs : Same wy w') => ButMap.of ((Only.of_below (S := (· = mb)) hs.1).trans (HU2.out w' s' l' c' hs).2))
        have HEI := Lib.hid (show Ints wy (fun b => b < w.heap.size) .u32 4 s l cp vals from by
          obtain ⟨s1, l1, c1, e1, _, hi⟩ := HE.out
          injection e1 with e1
          simp only [Array.mk.injEq, List.cons.injEq, Value.slice.injEq, and_true, true_and] at e1
          obtain ⟨rfl, rfl, rfl⟩ := e1
          exact hi.move fun b hb hlt => ⟨HBY.out.block b hlt, hlt⟩)
        have zwy : w.heap.size ≤ wy.heap.size := HBY.out.size
        have HY3 := Lib.hid Y3; have HYB := Lib.hid YB
        clear hBy Y3 YB
        go_region_held3 (fun w' => ButMap mb wy w') (first | with_reducible exact ButMap.same (by first | assumption | exact Same.drew _) | with_reducible exact HU3.out _ _ _ _ (by assumption))
          (first
          | (go_at_call 77; (with_reducible refine (key_any x id ver s l cp g _).mono ?_); rintro e2 w2 ⟨rfl, hb2⟩; have S1 := Same.step (show Same wy _ by (with_reducible (first | assumption | exact Same.drew _))) hb2; have K1 := Lib.hid hb2; clear hb2)
          | (go_at_call 79; (with_reducible refine (entry_any x id ver g _ (HEI.out.below (show Same wy _ by (with_reducible (first | assumption | exact Same.drew _))).1 (fun b h => Nat.lt_of_lt_of_le h zwy)) (fun b h => Nat.lt_of_lt_of_le (Nat.lt_of_lt_of_le h zwy) (show Same wy _ by (with_reducible (first | assumption | exact Same.drew _))).1.size)).mono ?_); rintro e2 w2 ⟨v2, rfl, ⟨A2, n2, cap2, rfl, hi2⟩, hb2⟩; have NE := Lib.hid (NewD.down (B' := wy.heap.size) ⟨A2, n2, cap2, rfl, hi2⟩ (show Same wy _ by (with_reducible (first | assumption | exact Same.drew _))).1.size); have S1 := Same.step (show Same wy _ by (with_reducible (first | assumption | exact Same.drew _))) hb2; have K2 := Lib.hid hb2; clear hb2 hi2))
        all_goals
          go_wp2
          go_ret2
          refine ⟨by rw [hput]; rfl, ?_⟩
          try rw [hput]
          have F := fun (w3 : World) (A2 : Option Addr) (n2 cap2 : Nat) (S1 : Same wy w3) (NE : NewD wy.heap.size .u32 4 vals w3 (.slice A2 n2 cap2)) => put_new HB.out hcb hcm HM.out HD.out HF.out hπ HE.out.ok hnot (below_from HBY.out S1.1 HBY.out.size) (NE.down zwy) (HU2.out w3 A2 n2 cap2 S1).1 (HU2.out w3 A2 n2 cap2 S1).2
          first
          | with_reducible exact F _ _ _ _ (by assumption) (Hid.out (by assumption))
          | exact F _ _ _ _ (by assumption) ((Hid.out (by with_reducible assumption)).only (Only.of_below (S := fun _ => False) (Hid.out (by with_reducible assumption))) (fun _ _ h => h))

end Go.Proofs.Ytjcbmfopcohcmaa
