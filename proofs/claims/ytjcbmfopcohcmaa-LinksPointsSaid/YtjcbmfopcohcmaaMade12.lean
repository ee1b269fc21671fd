/- The rings of a law: the program's, and the document's. Conditions: the list reads so. -/
import Derived.Test.YtjcbmfopcohcmaaRefAdd
namespace Go.Proofs.Ytjcbmfopcohcmaa
open Go.RowKit Go.ChangeShapes
set_option maxRecDepth 100000
set_option linter.unusedVariables false
set_option linter.unusedSimpArgs false

/-- The points of a list, as a ring takes them. -/
def ptsOf (l : List Int) : List Int := l.foldl addF []
theorem addF_ok {l : List Int} {p : Int} (h : PtsOk l) (hp : U32 p) : PtsOk (addF l p) := by
  unfold addF
  split
  · exact h
  · split
    · exact h
    · exact addP_ok h hp ‹_›
theorem ptsOf_snoc (l : List Int) (p : Int) : ptsOf (l ++ [p]) = addF (ptsOf l) p := by unfold ptsOf; rw [List.foldl_append]; rfl
/-- No block has a colour. -/
def noCol : Col := fun _ => []
theorem noCol_fresh (w : World) : Fresh noCol w := fun _ _ => rfl
/-- A ring, and the document's. -/
def Two (W : World) (r q : Nat) (P : List Int) (w : World) : Prop := ∃ c, Stp (· ≠ []) noCol W c w ∧ RingR c [1] w r P ∧ RefRing c [2] w q P
theorem Two.below {W w : World} {r q : Nat} {P : List Int} (h : Two W r q P w) : Below W.heap.size W w := by
  obtain ⟨c, h, _⟩ := h
  exact h.below (Nat.le_refl _) fun k _ hk => hk rfl
theorem Ints.keep {w w' : World} {k : IntKind} {bytes : Nat} {A : Option Addr} {n cap : Nat} {xs : List Int} (h : Ints w (· < w.heap.size) k bytes A n cap xs) (hb : Below w.heap.size w w') : Ints w' (· < w'.heap.size) k bytes A n cap xs :=
  Ints.move h fun b hb' _ => ⟨hb.block b hb', Nat.lt_of_lt_of_le hb' hb.size⟩
set_option maxHeartbeats 2000000 in
theorem made12 {W : World} {A : Option Addr} {n cap : Nat} {l : List Int} (h : Ints W (· < W.heap.size) .u32 4 A n cap l) :
    Calls Try.prog 25 #[.slice A n cap] W fun e w' => ∃ r q, e = .returned (.tuple #[.pointer (some ⟨r, 0, none⟩), .pointer (some ⟨q, 0, none⟩)]) ∧ Two W r q (ptsOf (l.take 60)) w' := by
  have HI := Lib.hid h
  have hn : n * 4 ≤ 140737488351232 := h.2.2.2.1
  have HL := Lib.hid h.1
  clear h
  go_enter Try.func25, Try.ntmps25
  go_wp2_with (go_at_call 61; go_loud ((with_reducible refine (ring_new [1] _ (noCol_fresh _)).mono ?_); rintro e w1 ⟨rfl, ⟨c1, S1, R1⟩, hb1⟩; have HS1 := Lib.hid S1; have HR1 := Lib.hid R1; have HB1 := Lib.hid hb1; clear S1 R1 hb1))
  have hT : Two W W.heap.size w1.heap.size [] (w1.alloc (.cells #[.slice none 0 0] 80)) := by
    have S2 : Stp (· ≠ []) c1 w1 (upd c1 w1.heap.size [2]) (w1.alloc (.cells #[.slice none 0 0] 80)) := (Stp.of_below _ HS1.out.fresh (below_a1 w1 _)).paint (Nat.le_refl _) (by rw [size_alloc]; exact Nat.lt_succ_self _) [2]
    refine ⟨_, (HS1.out.mono (fun x hx => by rw [hx]; simp)).trans S2, ?_, none, 0, BoxT.new w1 _ _, upd_same _ _ _, ⟨rfl, .inl ⟨rfl, rfl⟩⟩, (fun g hg => by cases hg), ⟨List.Pairwise.nil, fun x hx => by simp at hx⟩, by simp⟩
    have S3 : Stp (fun _ => False) c1 w1 (upd c1 w1.heap.size [2]) (w1.alloc (.cells #[.slice none 0 0] 80)) := (Stp.of_below _ HS1.out.fresh (below_a1 w1 _)).paint (Nat.le_refl _) (by rw [size_alloc]; exact Nat.lt_succ_self _) [2]
    exact HR1.out.step S3 id
  have HT := Lib.hid hT
  clear hT
  generalize w1.heap.size = q at *
  generalize hr : W.heap.size = r at *
  generalize w1.alloc (.cells #[.slice none 0 0] 80) = w2 at HT ⊢
  clear HS1 HR1 HB1
  have HW := Lib.hid hr
  clear hr
  go_loopw [6] (fun s wr => ∃ i : Nat, i ≤ 60 ∧ i ≤ n ∧ s = .int .i64 i ∧ Two W r q (ptsOf (l.take i)) wr) (fun i _ => n - (intOf i).toNat)
  case atStart => exact ⟨0, by omega, by omega, rfl, HT.out⟩
  case round =>
    obtain ⟨i, hi, hin, rfl, hT⟩ := hrel
    have HTT := Lib.hid hT
    obtain ⟨c, S, R1, R2⟩ := hT
    have hb := HTT.out.below
    rw [HW.out] at hb
    have HB := Lib.hid hb
    have HS := Lib.hid S; have HR1 := Lib.hid R1; have HR2 := Lib.hid R2
    clear S R1 R2 hb
    by_cases hlt : i < n ∧ i < 60
    · obtain ⟨h1, h2⟩ := hlt
      obtain ⟨b, off, rfl, hbl, hc⟩ := HI.out.2.2.2.2.2.2 (by omega)
      have hbl : b < r := by have := HW.out; omega
      have hci : wr.cell? ⟨b, off + i, none⟩ = some (.int .u32 (l.getD i 0)) := by rw [HB.out.cell (p := ⟨b, off + i, none⟩) hbl]; exact hc i h1
      have hlt : i < l.length := by have := HL.out; omega
      obtain ⟨y, hy⟩ : ∃ y, l.getD i 0 = y := ⟨_, rfl⟩
      have hyl : l[i] = y := by rw [← hy, List.getD_eq_getElem?_getD, List.getElem?_eq_getElem hlt]; rfl
      have HU := Lib.hid (show U32 y by
        have := HI.out.2.2.2.2.2.1 l[i] (List.getElem_mem hlt)
        rw [hyl] at this
        exact u32_of this)
      have HT1 := Lib.hid (show ptsOf (l.take (i + 1)) = addF (ptsOf (l.take i)) y by
        rw [List.take_add_one, List.getElem?_eq_getElem hlt, hyl]; exact ptsOf_snoc _ _)
      rw [hy] at hci
      have HCI := Lib.hid hci
      have HBL := Lib.hid hbl
      have HBS := Lib.hid (show r ≤ wr.heap.size by have := HB.out.size; have := HW.out; omega)
      clear hc hy hyl hlt hbl
      go_wp2_with (first
        | (go_at_call 62; go_loud ((with_reducible refine (ring_add HR1.out HS.out.fresh (by simp) HU.out).mono ?_); rintro e w3 ⟨rfl, c3, S3, R3⟩; have HS3 := Lib.hid S3; have HR3 := Lib.hid R3; have hci3 : w3.cell? ⟨b, off + i, none⟩ = some (.int .u32 y) := (HS3.out.only.cell b (off + i) (Nat.lt_of_lt_of_le HBL.out HBS.out) (by rw [HS.out.col b (by rw [HW.out]; exact HBL.out)]; simp [noCol])).trans HCI.out; clear S3 R3))
        | (go_at_call 63; go_loud ((with_reducible refine (rref_add (HR2.out.step HS3.out (by simp)) HS3.out.fresh (by simp) HU.out).mono ?_); rintro e w4 ⟨rfl, c4, S4, R4⟩; have HS4 := Lib.hid S4; have HR4 := Lib.hid R4; clear S4 R4)))
      go_roundw
      case rel =>
        refine ⟨i + 1, by omega, by omega, by go_num, c4, (HS.out.trans (HS3.out.mono (fun x hx => by rw [hx]; simp))).trans (HS4.out.mono (fun x hx => by rw [hx]; simp)), ?_, ?_⟩
        · rw [HT1.out]; exact HR3.out.step HS4.out (by simp)
        · rw [HT1.out]; exact HR4.out
      case measure => simp [intOf]; omega
    · have HE := Lib.hid (show l.take i = l.take 60 by
        have := HL.out
        by_cases h6 : i = 60
        · rw [h6]
        · rw [List.take_of_length_le (by omega), List.take_of_length_le (by omega)])
      rw [HE.out] at HTT
      rcases Nat.lt_or_ge i n with h1 | h1
      · have h2 : ¬ i < 60 := fun h => hlt ⟨h1, h⟩
        obtain rfl : i = 60 := by omega
        clear hlt
        go_wp2
        go_ret2
        exact ⟨r, q, rfl, HTT.out⟩
      · clear hlt
        go_wp2
        go_ret2
        exact ⟨r, q, rfl, HTT.out⟩
end Go.Proofs.Ytjcbmfopcohcmaa
