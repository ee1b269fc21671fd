/- The shelf's Get: a copy of what it has at a key. Conditions: the shelf is one. -/
import Derived.Test.YtmohkfihfkcpdaaShelfPut
namespace Go.Proofs.Ytmohkfihfkcpdaa
open Go.RowKit Go.ChangeShapes Go.Maps
set_option maxRecDepth 100000
set_option linter.unusedVariables false
set_option linter.unusedSimpArgs false

def noEnt : Ent := ⟨0, ⟨0, 0, []⟩, false⟩
theorem noInts (w : World) (D : Nat → Prop) : Ints w D .u32 4 none 0 0 [] :=
  ⟨rfl, Nat.le_refl _, by omega, by omega, fun _ => rfl, by simp, by simp⟩

theorem Looked.drew {w w' : World} {OLD : Array Value} {is : Bool} {s6 s7 : Value} (h : Looked w OLD is s6 s7 w') : Looked w OLD is s6 s7 w'.drew := by
  obtain ⟨b6, h1, h2, h3, h4, h5⟩ := h
  exact ⟨b6, h1, h2, h3.drew, h4.drew, h5⟩
theorem five_only (w : World) (b : Nat) (a1 a2 a3 a4 a5 : Value) : Only (fun k => k = b) w (((((w.setCell ⟨b, 0, none⟩ a1).setCell ⟨b, 1, none⟩ a2).setCell ⟨b, 2, none⟩ a3).setCell ⟨b, 3, none⟩ a4).setCell ⟨b, 4, none⟩ a5) :=
  have h0 := Only.refl (fun k => k = b) w
  (((((h0.setCell (p := ⟨b, 0, none⟩) (.inl rfl) a1).setCell (p := ⟨b, 1, none⟩) (.inl (by rfl)) a2).setCell (p := ⟨b, 2, none⟩) (.inl (by rfl)) a3).setCell (p := ⟨b, 3, none⟩) (.inl (by rfl)) a4).setCell (p := ⟨b, 4, none⟩) (.inl (by rfl)) a5)
theorem five_below {B : Nat} {w0 w : World} (h : Below B w0 w) {b : Nat} (hb : B ≤ b) (a1 a2 a3 a4 a5 : Value) : Below B w0 (((((w.setCell ⟨b, 0, none⟩ a1).setCell ⟨b, 1, none⟩ a2).setCell ⟨b, 2, none⟩ a3).setCell ⟨b, 3, none⟩ a4).setCell ⟨b, 4, none⟩ a5) :=
  ((((h.setCell (p := ⟨b, 0, none⟩) hb a1).setCell (p := ⟨b, 1, none⟩) hb a2).setCell (p := ⟨b, 2, none⟩) hb a3).setCell (p := ⟨b, 3, none⟩) hb a4).setCell (p := ⟨b, 4, none⟩) hb a5
set_option maxHeartbeats 1000000 in
theorem shelf_get {c : Col} {π : List Int} {w : World} {b : Nat} {L : List Ent} {x id : Int} (h : ShelfR c π w b L) (hux : U32 x) (hui : U64 id) :
    Calls Try.prog 56 #[.pointer (some ⟨b, 0, none⟩), .agg #[.int .u32 x, .int .u64 id]] w fun e w' =>
      ∃ v, e = .returned (.tuple #[.agg #[.int .u32 ((findE L x id).getD noEnt).value, .int .u64 ((findE L x id).getD noEnt).rc.id, .int .u64 ((findE L x id).getD noEnt).rc.ver, v, .bool ((findE L x id).getD noEnt).gone], .bool (findE L x id).isSome]) ∧
        NewD w.heap.size .u32 4 ((findE L x id).getD noEnt).rc.vals w' v ∧ Below w.heap.size w w' := by
  obtain ⟨mb, D, hb, hcb, hcm, hm, hd⟩ := h
  have hkey := keyOf_key hux hui
  have HKEY := Lib.hid hkey
  have HB := Lib.hid hb; have HM := Lib.hid hm
  have hc0 := hb.box.cell
  have zb := hb.lt
  obtain ⟨is, ov, OLD, hlook, hat, hhas, hE⟩ : ∃ (is : Bool) (ov : Option Addr × Nat × Nat) (OLD : Value),
      OLD = .agg #[.int .u32 ((findE L x id).getD noEnt).value, .int .u64 ((findE L x id).getD noEnt).rc.id, .int .u64 ((findE L x id).getD noEnt).rc.ver, .slice ov.1 ov.2.1 ov.2.2, .bool ((findE L x id).getD noEnt).gone] ∧
      D.atKey (KL x id) (.held (.agg #[.int .u32 0, .int .u64 0, .int .u64 0, .slice none 0 0, .bool false])) = .held OLD ∧ Maps.has D (KL x id) = is ∧
        (is = (findE L x id).isSome ∧ Ints w (fun b => b < w.heap.size) .u32 4 ov.1 ov.2.1 ov.2.2 ((findE L x id).getD noEnt).rc.vals) := by
    cases hfe : findE L x id with
    | some o =>
      obtain ⟨h1, v, h2, h3, h4, _⟩ := shelf_there hd hfe
      obtain ⟨s', l', c', rfl, hok, hi⟩ := h2
      exact ⟨true, (s', l', c'), _, rfl, h3 _, h1, rfl, hi.stays (fun _ _ => rfl) (fun b hb => hb.2)⟩
    | none =>
      obtain ⟨h1, _⟩ := shelf_not hux hui hd hfe
      exact ⟨false, (none, 0, 0), _, rfl, atKey_of_not_has h1 _, h1, rfl, noInts _ _⟩
  obtain ⟨os, ol, oc⟩ := ov
  obtain ⟨hisv, hints⟩ := hE
  rw [← hisv]
  generalize (findE L x id).getD noEnt = o at *
  obtain ⟨ox, ⟨oi, over, ovals⟩, og⟩ := o
  subst hlook
  dsimp only at *
  have hlook := Lib.hid (fun (w' : World) (hb' : Below w.heap.size w w') => heldIf_run_ok (ownsMap_only HM.out (Only.of_below (S := fun _ => False) hb') (fun h => h)) key_keyed Try.underlying114 (z := .agg #[.int .u32 0, .int .u64 0, .int .u64 0, .slice none 0 0, .bool false]) (by kernel_rfl) rfl HKEY.out hat hhas)
  have HI := Lib.hid hints
  clear hat hhas hints hisv hkey hb hm hd hux hui
  go_enter Try.func56, Try.ntmps56
  go_upto_region 3 with fail
  refine wp_abs (fun wx => Box wx w.heap.size #[.int .u32 x, .int .u64 id] ∧ Box wx (w.heap.size + 1) #[.int .u32 0, .int .u64 0, .int .u64 0, .slice none 0 0, .bool false] ∧ Below w.heap.size w wx) ⟨(by repeat (first | apply Box.drew | apply Box.drewN | exact Box.newAt _ _ _ _ (by first | rfl | (simp only [size_alloc]; done) | (simp only [size_alloc]; omega)) | assumption | refine Box.alloc ?_ _)), (by repeat (first | apply Box.drew | apply Box.drewN | exact Box.newAt _ _ _ _ (by first | rfl | (simp only [size_alloc]; done) | (simp only [size_alloc]; omega)) | assumption | refine Box.alloc ?_ _)), (by repeat (first | exact Below.refl _ _ | assumption | apply Below.drew | apply belowN | (refine Below.alloc ?_ (by first | exact Nat.le_refl _ | (simp; done) | (simp; omega)) _) | (refine Below.setCell ?_ (by first | exact Nat.le_refl _ | (simp; done) | (simp; omega)) _)))⟩ ?_
  rintro wx ⟨X3, X4, hBx⟩
  have HBX := Lib.hid hBx
  have hlook2 : ∀ w' : World, Below wx.heap.size wx w' → (Instr.lookup 114 (.map (some mb)) (.agg #[.int .u32 x, .int .u64 id]) true).run Try.prog w' = .ok (.tuple #[.agg #[.int .u32 ox, .int .u64 oi, .int .u64 over, .slice os ol oc, .bool og], .bool is]) w' :=
    fun w' hb' => hlook.out w' (below_from HBX.out hb' HBX.out.size)
  have XB := HB.out.box.below HBX.out zb
  have cb := XB.cell
  have c3 := X3.cell
  have z3 := X3.lt
  have zbx := XB.lt
  have z4 := X4.lt
  have X4' := Lib.hid X4
  have zwx : w.heap.size ≤ wx.heap.size := hBx.size
  generalize hb4 : w.heap.size + 1 = b4 at *
  generalize hb3 : w.heap.size = b3 at *
  clear hBx X3 X4 hc0 XB
  go_cut [6, 7] (fun s6 s7 w' => Looked wx #[.int .u32 ox, .int .u64 oi, .int .u64 over, .slice os ol oc, .bool og] is s6 s7 w')
  case first =>
    go_region_held3 (fun w' => Same wx w') (first | (repeat' (with_reducible (first | assumption | exact Same.refl _ | exact Same.drew _ | refine Same.drew' ?_ | refine Same.alloc ?_ _ | refine Same.set ?_ (by dsimp only; omega) _)))) (fail)
    all_goals
      go_wp2
      go_meet
      first
        | with_reducible exact (looked_new (Same.refl _)).drew
        | with_reducible exact looked_new (by assumption)
  case rest =>
    obtain ⟨b6, rfl, rfl, X6, hB6, hb6⟩ := hcut
    have X4c := X4'.out.below hB6 z4
    have HBW := Lib.hid (show Below b3 w wc from below_from HBX.out hB6 zwx)
    have zc : b3 ≤ wc.heap.size := Nat.le_trans zwx hB6.size
    have HIC := Lib.hid (HI.out.below HBW.out (fun b hb => hb))
    have c6 := X6.cell
    have z6 := X6.lt
    have z4c := X4c.lt
    have f4c := X4c.free
    have HX4 := Lib.hid X4c
    clear X6 X4c hB6 cb c3 hlook2
    go_wp2_with (go_at_call 68; go_loud ((with_reducible refine (entry_any ox oi over og _ HIC.out (fun b h => Nat.lt_of_lt_of_le h zc)).mono ?_); rintro e2 w2 ⟨v2, rfl, ⟨A2, n2, cap2, rfl, hi2⟩, hb2⟩; have X42 := HX4.out.below hb2 z4c; have c42 := X42.cell; have f42 := X42.free; have z42 := X42.lt; have HI2 := Lib.hid hi2; have HB2 := Lib.hid hb2; clear X42 hi2 hb2))
    refine bodyPost_ret (v := .tuple #[.agg #[.int .u32 ox, .int .u64 oi, .int .u64 over, .slice A2 n2 cap2, .bool og], .bool is]) (by simp [results, Try.results56, go_sem, c42, f42]) rfl ?_
    refine ⟨.slice A2 n2 cap2, rfl, ?_, ?_⟩
    · rw [hb3]
      exact (NewD.only (B := wc.heap.size) (S := fun k => k = b4) (w := w2) ⟨A2, n2, cap2, rfl, HI2.out⟩ (five_only w2 b4 _ _ _ _ _) (fun b hb => by show ¬ b = b4; omega)).down zc
    · rw [hb3]
      exact five_below (below_from HBW.out HB2.out zc) (by omega) _ _ _ _ _
end Go.Proofs.Ytmohkfihfkcpdaa
