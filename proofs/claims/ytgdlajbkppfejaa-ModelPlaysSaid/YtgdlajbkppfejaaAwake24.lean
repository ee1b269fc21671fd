/- awake of the model's laws; slices of bools; records of one value. Conditions: none. -/
import Derived.Test.YtgdlajbkppfejaaModelAll
import Derived.Test.YtgdlajbkppfejaaLaw
namespace Go.Proofs.Ytgdlajbkppfejaa
open Go.RowKit Go.ChangeShapes
set_option maxRecDepth 100000
set_option linter.unusedVariables false
set_option linter.unusedSimpArgs false

theorem u32_wf' {v : Int} (h : U32 v) : (Lit.int .u32 v).wf = true := by
  have := h.1; have := h.2
  simp [Lit.wf, IntKind.min, IntKind.max, IntKind.bits, IntKind.signed]; omega
theorem ints_one' {w : World} {b : Nat} {x : Int} {D : Nat → Prop} (h : Box w b #[.int .u32 x]) (hx : U32 x) (hD : D b) : Ints w D .u32 4 (some ⟨b, 0, none⟩) 1 1 [x] := ints_one h (u32_wf' hx) hD
theorem one_ok {id v x : Int} (h1 : U64 id) (h2 : U64 v) (h3 : U32 x) : Rec.ok ⟨id, v, [x]⟩ := ⟨h1, h2, fun y hy => by simp at hy; subst hy; exact h3⟩

theorem found_one {bl : List Rng} {x : Kn} {ks : List Int} {ls : List Kn} (h : FoundOf bl [x] ks ls) (hk : ∀ y ∈ [x], y.key ∈ ks) (hit : hitK bl x = true) : ls.length = 1 := by
  obtain ⟨h1, h2⟩ := h
  have hx : x ∈ ls := (h2 x).2 ⟨by simp, hit, hk x (by simp)⟩
  have hm : ∀ y ∈ ls, y = x := fun y hy => by simpa using ((h2 y).1 hy).1
  match ls, h1, hm, hx with
  | [a], _, _, _ => rfl
  | a :: b :: t, h1, hm, _ =>
    have e1 := hm a (by simp)
    have e2 := hm b (by simp)
    have := (List.pairwise_cons.1 h1).1 b (by simp)
    rw [e1, e2] at this
    omega
set_option maxHeartbeats 4000000 in
theorem awake24 (W : World) : Calls Try.prog 20 #[] W fun e w' => e = .returned (.bool true) ∧ Below W.heap.size W w' := by
  have S0 := Lib.hid (Sta.start W)
  have HP := Lib.hid (show mputF 1 [] ⟨1, 1, [5]⟩ = ([⟨1, 1, true, ⟨1, 1, [5]⟩⟩], true) from by rfl)
  have HRT := Lib.hid (show rightF 1 1 1 1 = true from by decide)
  have HRB := Lib.hid (show rightB 1 [⟨1, 0, 0⟩] = true from by decide)
  have HOK := Lib.hid (one_ok (id := 1) (v := 1) (x := 5) ⟨by decide, by decide⟩ ⟨by decide, by decide⟩ ⟨by decide, by decide⟩)
  have HU5 := Lib.hid (show U32 5 from ⟨by decide, by decide⟩)
  have HF := Lib.hid (fun (ks : List Int) (ls : List Kn) (h : FoundOf [⟨1, 0, 0⟩] [⟨1, 1, true, ⟨1, 1, [5]⟩⟩] ks ls) (hk : ∀ x ∈ [(⟨1, 1, true, ⟨1, 1, [5]⟩⟩ : Kn)], x.key ∈ ks) => found_one h hk (by decide))
  go_enter Try.func20, Try.ntmps20
  go_wp2_with (first
    | (go_at_call 19; go_loud (refine (mo_new [1] 1 S0.out (by simp) (by simp)).mono ?_; rintro e1 w1 ⟨b, rfl, hs, _⟩; have S1 := Lib.hid hs; clear hs))
    | (go_at_call 21; go_loud (refine (mo_put (r := ⟨1, 1, [5]⟩) (L' := [⟨1, 1, true, ⟨1, 1, [5]⟩⟩]) (bo := true) 0 (S1.out.addBox #[.int .u32 5] _) rfl (by simp) (by simp) (by omega) (by omega) HOK.out (fun c h => ints_one' (h.box (i := 1) rfl).1 HU5.out (h.box (i := 1) rfl).2) HRT.out HP.out rfl).mono ?_; rintro e2 w2 ⟨rfl, hs, _⟩; have S2 := Lib.hid hs; clear hs S1))
    | (go_at_call 29; go_loud (refine (mo_len (n := 1) 0 S2.out rfl (by simp) (by decide)).mono ?_; rintro e3 w3 ⟨rfl, hs, _⟩; have S3 := Lib.hid hs; clear hs S2))
    | (go_at_call 22; go_loud (refine (mo_find (bl := [⟨1, 0, 0⟩]) 0 (S3.out.addBox _ _) rfl (by simp) (fun c h => rngsAt (Elt.At.one (E := rngE) (x := ⟨1, 0, 0⟩) (h.box (i := 2) rfl).1 (h.box (i := 2) rfl).2 ⟨rfl, ⟨⟨Int.le_refl _, by decide⟩, ⟨Int.le_refl _, by decide⟩⟩⟩) (by omega)) HRB.out).mono ?_; rintro e4 w4 ⟨ks, ls, A4, cap4, rfl, hf, hk, hs, _⟩; have hl := HF.out ks ls hf hk; rw [hl]; have S4 := Lib.hid hs; clear hs S3 hf hk hl)))
  go_ret
  exact ⟨rfl, S4.out.end⟩
end Go.Proofs.Ytgdlajbkppfejaa
