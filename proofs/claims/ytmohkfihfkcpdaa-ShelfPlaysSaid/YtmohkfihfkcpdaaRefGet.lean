/- The document's shelf: Get. Conditions: it is one. -/
import Derived.Test.YtmohkfihfkcpdaaRefPut
namespace Go.Proofs.Ytmohkfihfkcpdaa
open Go.RowKit Go.ChangeShapes Go.Maps
set_option maxRecDepth 100000
set_option linter.unusedVariables false
set_option linter.unusedSimpArgs false

set_option maxHeartbeats 1000000 in
theorem ref_get {c : Col} {π : List Int} {w : World} {b : Nat} {L : List Ent} (x id : Int) (h : RefR c π w b L) (hf : Fresh c w) :
    Calls Try.prog 57 #[.pointer (some ⟨b, 0, none⟩), .agg #[.int .u32 x, .int .u64 id]] w fun e w' =>
      ∃ v, e = .returned (.tuple #[.agg #[.int .u32 ((findE L x id).getD noEnt).value, .int .u64 ((findE L x id).getD noEnt).rc.id, .int .u64 ((findE L x id).getD noEnt).rc.ver, v, .bool ((findE L x id).getD noEnt).gone], .bool (findE L x id).isSome]) ∧
        NewD w.heap.size .u32 4 ((findE L x id).getD noEnt).rc.vals w' v ∧ Below w.heap.size w w' := by
  have hb2 := below_a2 w (.cells #[.int .u32 x, .int .u64 id] 90) (.cells #[.int .u32 0, .int .u64 0, .int .u64 0, .slice none 0 0, .bool false] 49)
  have H1 := Lib.hid (h.later hf hb2)
  have F1 := Lib.hid (show Fresh c ((w.alloc (.cells #[.int .u32 x, .int .u64 id] 90)).alloc (.cells #[.int .u32 0, .int .u64 0, .int .u64 0, .slice none 0 0, .bool false] 49)) from fun k hk => hf k (by simp only [size_alloc] at hk; omega))
  have X3 := Lib.hid ((Box.new w #[.int .u32 x, .int .u64 id] 90).alloc (.cells #[.int .u32 0, .int .u64 0, .int .u64 0, .slice none 0 0, .bool false] 49))
  have X4 := Lib.hid (Box.newAt (w.alloc (.cells #[.int .u32 x, .int .u64 id] 90)) #[.int .u32 0, .int .u64 0, .int .u64 0, .slice none 0 0, .bool false] 49 (w.heap.size + 1) (by rw [size_alloc]))
  have HB2 := Lib.hid hb2
  have HF := Lib.hid hf
  clear h hf hb2
  rcases idx_case L x id with ⟨hfn, hix⟩ | ⟨i, o, hio, hfo, hko, hix⟩
  · rw [hfn]
    have HIX := Lib.hid hix
    clear hix hfn
    go_enter Try.func57, Try.ntmps57
    go_wp2_with (go_at_call 91; go_loud ((with_reducible refine (ref_find x id H1.out F1.out).mono ?_); rintro e2 w2 ⟨rfl, hb⟩; rw [HIX.out]; have X42 := X4.out.below hb X4.out.lt; have c42 := X42.cell; have f42 := X42.free; have z42 := X42.lt; have HBW := Lib.hid (below_from HB2.out hb HB2.out.size); clear hb X42))
    refine bodyPost_ret (v := .tuple #[.agg #[.int .u32 0, .int .u64 0, .int .u64 0, .slice none 0 0, .bool false], .bool false]) (by simp [results, Try.results57, go_sem, c42, f42]) rfl ?_
    refine ⟨.slice none 0 0, rfl, ⟨none, 0, 0, rfl, noInts _ _⟩, ?_⟩
    first
      | exact five_below HBW.out (by omega) _ _ _ _ _
      | exact HBW.out
  · rw [hfo]
    have HIX := Lib.hid hix; have HIO := Lib.hid hio
    have hil := (List.getElem?_eq_some_iff.1 hio).1
    clear hix hfo hko hio
    go_enter Try.func57, Try.ntmps57
    go_upto_region 4 with (go_at_call 91; go_loud ((with_reducible refine (ref_find x id H1.out F1.out).mono ?_); rintro e2 w2 ⟨rfl, hb⟩; rw [HIX.out]; have H2 := Lib.hid (H1.out.later F1.out hb); have X42 := X4.out.below hb X4.out.lt; have c42 := X42.cell; have f42 := X42.free; have z42 := X42.lt; have HX42 := Lib.hid X42; have HBW := Lib.hid (below_from HB2.out hb HB2.out.size); clear hb X42))
    obtain ⟨v2, hb2, hc2, hr2⟩ := H2.out
    obtain ⟨A2, cap2, rfl, q1, q2, q3, q4⟩ := hr2.shape
    obtain ⟨g, rfl, hcg, hgl⟩ := hr2.addr (by omega)
    obtain ⟨m, hm, hme⟩ := hr2.cells HIO.out
    have d0 := hm 0 _ rfl; have d1 := hm 1 _ rfl; have d2 := hm 2 _ rfl; have d3 := hm 3 _ rfl; have d4 := hm 4 _ rfl
    simp only [Nat.add_zero] at d0
    have cb := hb2.cell
    obtain ⟨e1, e2, e3, e4, e5, e6⟩ := hme
    have HI := Lib.hid (e6.move (D' := fun k => k < w2.heap.size) fun k hk hlt => ⟨rfl, hlt⟩)
    obtain ⟨m1, m2, m3, m4, m5, m6, m7⟩ := m
    dsimp only at *
    subst e1 e2 e3 e4
    have zw : w.heap.size + 1 < w2.heap.size := z42
    clear hb2 hc2 hr2 q3 q4 hm e5 e6 hcg hgl
    go_wp2_with (go_at_call 93; go_loud ((with_reducible refine (hentry_any o.value o.rc.id o.rc.ver o.gone _ HI.out (fun b h => h)).mono ?_); rintro e3 w3 ⟨v3, rfl, ⟨A3, n3, cap3, rfl, hi3⟩, hb3⟩; have X43 := HX42.out.below hb3 z42; have c43 := X43.cell; have f43 := X43.free; have z43 := X43.lt; have HI3 := Lib.hid hi3; have HB3 := Lib.hid hb3; clear X43 hi3 hb3))
    refine bodyPost_ret (v := .tuple #[.agg #[.int .u32 o.value, .int .u64 o.rc.id, .int .u64 o.rc.ver, .slice A3 n3 cap3, .bool o.gone], .bool true]) (by simp [results, Try.results57, go_sem, c43, f43]) rfl ?_
    refine ⟨.slice A3 n3 cap3, rfl, ?_, ?_⟩
    · exact (NewD.only (B := w2.heap.size) (S := fun k => k = w.heap.size + 1) (w := w3) ⟨A3, n3, cap3, rfl, HI3.out⟩ (five_only w3 _ _ _ _ _ _) (fun b hb => by show ¬ b = _; omega)).down (by omega)
    · exact five_below (below_from HBW.out HB3.out (by omega)) (by omega) _ _ _ _ _
end Go.Proofs.Ytmohkfihfkcpdaa
