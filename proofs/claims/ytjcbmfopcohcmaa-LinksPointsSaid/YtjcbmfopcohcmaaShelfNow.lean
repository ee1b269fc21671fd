/- A shelf of a walk's own: its state, and the contracts in that word; the law's awake; whether two entries are the same. Conditions: none. -/
import Derived.Test.YtjcbmfopcohcmaaShelfGet
import Derived.Test.YtjcbmfopcohcmaaShelfLive
import Derived.Test.YtjcbmfopcohcmaaSame
namespace Go.Proofs.Ytjcbmfopcohcmaa
open Go.RowKit Go.ChangeShapes Go.Maps
set_option maxRecDepth 100000
set_option linter.unusedVariables false
set_option linter.unusedSimpArgs false

/-- A shelf made since W, that holds L. -/
def Now (W : World) (b : Nat) (L : List Ent) (w : World) : Prop := ∃ c, Stp (· = [1]) (fun _ => []) W c w ∧ ShelfR c [1] w b L
theorem Now.below {W w w' : World} {b : Nat} {L : List Ent} (h : Now W b L w) (hb : Below w.heap.size w w') : Now W b L w' := by
  obtain ⟨c, st, sh⟩ := h
  exact ⟨c, st.trans (Stp.of_below _ st.fresh hb), sh.later st.fresh hb⟩
theorem Now.end {W w : World} {b : Nat} {L : List Ent} (h : Now W b L w) : Below W.heap.size W w := by
  obtain ⟨c, st, _⟩ := h
  exact st.below (Nat.le_refl _) (fun k _ h => by cases h)
theorem now_new (W w : World) (hb : Below W.heap.size W w) : Calls Try.prog 37 #[] w fun e w' => e = .returned (.pointer (some ⟨w.heap.size + 1, 0, none⟩)) ∧ Now W (w.heap.size + 1) [] w' ∧ Below w.heap.size w w' := by
  refine (shelf_new (c := fun _ => []) [1] w (fun k _ => rfl)).mono ?_
  rintro e w' ⟨rfl, ⟨c, st, sh, _⟩, h⟩
  exact ⟨rfl, ⟨c, (Stp.of_below _ (fun k _ => rfl) hb).trans st, sh⟩, h⟩
theorem now_ev {W w : World} {c : Col} {x id ver : Int} {s : Option Addr} {l cp : Nat} {g : Bool} {vals : List Int} (st : Stp (· = [1]) (fun _ => []) W c w) (hi : Ints W (· < W.heap.size) .u32 4 s l cp vals) (hok : Ent.ok ⟨x, ⟨id, ver, vals⟩, g⟩) :
    EVal c w ⟨x, ⟨id, ver, vals⟩, g⟩ (.agg #[.int .u32 x, .int .u64 id, .int .u64 ver, .slice s l cp, .bool g]) :=
  ⟨s, l, cp, rfl, hok, hi.move fun b _ hlt => ⟨st.only.block b hlt (by show ¬ ([] : List Int) = [1]; simp), st.col b hlt, Nat.lt_of_lt_of_le hlt st.only.size⟩⟩
theorem now_put {W w : World} {b : Nat} {L L' : List Ent} {x id ver : Int} {s : Option Addr} {l cp : Nat} {g bo : Bool} {n : Int} (vals : List Int) (h : Now W b L w) (hi : Ints W (· < W.heap.size) .u32 4 s l cp vals) (hok : Ent.ok ⟨x, ⟨id, ver, vals⟩, g⟩)
    (hp : putF L ⟨x, ⟨id, ver, vals⟩, g⟩ = (L', bo, n)) (hL : L.length < 1000000) :
    Calls Try.prog 39 #[.pointer (some ⟨b, 0, none⟩), .agg #[.int .u32 x, .int .u64 id, .int .u64 ver, .slice s l cp, .bool g]] w fun e w' => e = .returned (.tuple #[.bool bo, .int .i64 n]) ∧ Now W b L' w' ∧ Boxes w w' := by
  obtain ⟨c, st, sh⟩ := h
  refine (shelf_put sh st.fresh (by simp) (now_ev st hi hok) hL).mono ?_
  rintro e w' ⟨rfl, c', st', sh', hbx⟩
  rw [hp] at sh' ⊢
  exact ⟨rfl, ⟨c', st.trans st', sh'⟩, hbx⟩
theorem now_len {W w : World} {b : Nat} {L : List Ent} {n : Int} (h : Now W b L w) (hn : (L.length : Int) = n) : Calls Try.prog 49 #[.pointer (some ⟨b, 0, none⟩)] w fun e w' => e = .returned (.int .i64 n) ∧ w = w' := by
  obtain ⟨c, st, sh⟩ := h
  rw [← hn]
  exact shelf_len sh
theorem noOk : Ent.ok ⟨5, ⟨1, 2, []⟩, false⟩ := ⟨⟨by decide, by decide⟩, ⟨by decide, by decide⟩, ⟨by decide, by decide⟩, by simp⟩
theorem noOk' : Ent.ok ⟨5, ⟨1, 1, []⟩, false⟩ := ⟨⟨by decide, by decide⟩, ⟨by decide, by decide⟩, ⟨by decide, by decide⟩, by simp⟩
theorem hent_any {D D' : Nat → Prop} {x1 x2 : Int} {g1 g2 : Bool} {id1 ver1 id2 ver2 : Int} {s1 s2 : Option Addr} {l1 c1 l2 c2 : Nat} {r1 r2 : Rec} (w : World) (hx : x1 = x2) (hg : g1 = g2)
    (h1 : RecVal w D (.agg #[.int .u64 id1, .int .u64 ver1, .slice s1 l1 c1]) r1) (h2 : RecVal w D' (.agg #[.int .u64 id2, .int .u64 ver2, .slice s2 l2 c2]) r2) (d1 : ∀ b, D b → b < w.heap.size) (d2 : ∀ b, D' b → b < w.heap.size) :
    Calls Try.prog 45 #[.agg #[.int .u32 x1, .int .u64 id1, .int .u64 ver1, .slice s1 l1 c1, .bool g1], .agg #[.int .u32 x2, .int .u64 id2, .int .u64 ver2, .slice s2 l2 c2, .bool g2]] w
      fun e w' => e = .returned (.bool (eqR r1 r2)) ∧ Below w.heap.size w w' := by
  subst hx hg
  have hb : Below w.heap.size w ((w.alloc (.cells #[.int .u32 x1, .int .u64 id1, .int .u64 ver1, .slice s1 l1 c1, .bool g1] 36)).alloc (.cells #[.int .u32 x1, .int .u64 id2, .int .u64 ver2, .slice s2 l2 c2, .bool g1] 36)) := below_a2 w _ _
  have R1 := Lib.hid (h1.sm d1 (Same.of hb)); have R2 := Lib.hid (h2.sm d2 (Same.of hb))
  have E1 := Lib.hid (Same.lt (Same.of hb) d1); have E2 := Lib.hid (Same.lt (Same.of hb) d2)
  have HB := Lib.hid hb
  clear h1 h2 d1 d2 hb
  have hgg : (g1 == g1) = true := by simp
  go_enter Try.func45, Try.ntmps45
  go_wp2_with (go_at_call 81; (with_reducible refine (hrec_any _ R1.out R2.out E1.out E2.out).mono ?_); rintro e w' ⟨rfl, hd⟩)
  go_ret
  exact ⟨by first | rfl | simp, below_from HB.out hd HB.out.size⟩
end Go.Proofs.Ytjcbmfopcohcmaa
