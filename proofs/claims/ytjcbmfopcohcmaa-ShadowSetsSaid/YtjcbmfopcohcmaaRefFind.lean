/- The document's shelf: find, Live. Conditions: it is one. -/
import Derived.Test.YtjcbmfopcohcmaaRefCircle
namespace Go.Proofs.Ytjcbmfopcohcmaa
open Go.RowKit Go.ChangeShapes Go.Maps
set_option maxRecDepth 100000
set_option linter.unusedVariables false
set_option linter.unusedSimpArgs false

/-- Where a key stands; -1. -/
def idxF (L : List Ent) (x id : Int) : Int := match L.findIdx? (ekB x id) with | some i => (i : Int) | none => -1
theorem idx_at {L : List Ent} {x id : Int} {k : Nat} {e : Ent} (he : L[k]? = some e) (hk : ekB x id e = true) (hp : (L.take k).any (ekB x id) = false) : idxF L x id = k := by
  have hlt := (List.getElem?_eq_some_iff.1 he).1
  have : L.findIdx? (ekB x id) = some k := by
    rw [List.findIdx?_eq_some_iff_getElem]
    refine ⟨hlt, by rw [(List.getElem?_eq_some_iff.1 he).2]; exact hk, fun j hj => ?_⟩
    rw [Bool.not_eq_true, Bool.eq_false_iff]
    intro hc
    rw [Bool.eq_false_iff] at hp
    exact hp (List.any_eq_true.2 ⟨L[j], List.mem_take_iff_getElem.2 ⟨j, by omega, rfl⟩, hc⟩)
  unfold idxF; rw [this]
theorem idx_no {L : List Ent} {x id : Int} (hp : L.any (ekB x id) = false) : idxF L x id = -1 := by
  have : L.findIdx? (ekB x id) = none := by
    rw [List.findIdx?_eq_none_iff]
    intro e he
    rw [Bool.eq_false_iff] at hp ⊢
    intro hc
    exact hp (List.any_eq_true.2 ⟨e, he, hc⟩)
  unfold idxF; rw [this]
theorem any_takeE {l : List Ent} {p : Ent → Bool} {k : Nat} {x : Ent} (h : l[k]? = some x) (h0 : (l.take k).any p = false) (h1 : p x = false) : (l.take (k + 1)).any p = false := by
  rw [List.take_add_one, h, Option.toList_some, List.any_append, h0]; simp [h1]
theorem EntRow.addr {c : Col} {π : List Int} {w : World} {A : Option Addr} {n cap : Nat} {L : List Ent} (h : EntRow c π w (.slice A n cap) L) (hn : 0 < L.length) : ∃ g, A = some ⟨g, 0, none⟩ ∧ c g = π ∧ g < w.heap.size := by
  obtain ⟨A9, c9, h9, _, _, h99, h98⟩ := h.shape
  injection h9 with h9 _ _
  subst h9
  cases A with
  | none => have := (h99 rfl).1; omega
  | some ad => obtain ⟨g, rfl, h1, h2⟩ := h98 ad rfl; exact ⟨g, rfl, h1, h2⟩

set_option maxHeartbeats 1000000 in
theorem ref_find {c : Col} {π : List Int} {w : World} {b : Nat} {L : List Ent} (x id : Int) (h : RefR c π w b L) (hf : Fresh c w) :
    Calls Try.prog 40 #[.pointer (some ⟨b, 0, none⟩), .agg #[.int .u32 x, .int .u64 id]] w fun e w' => e = .returned (.int .i64 (idxF L x id)) ∧ Below w.heap.size w w' := by
  obtain ⟨v, hb, _, hrow⟩ := h.later hf (below_a1 w (.cells #[.int .u32 x, .int .u64 id] 96))
  have X3 := Box.new w #[.int .u32 x, .int .u64 id] 96
  obtain ⟨A, cap, rfl, h1, h2, h3, h4⟩ := hrow.shape
  have HR := Lib.hid hrow
  have HB := Lib.hid (below_a1 w (.cells #[.int .u32 x, .int .u64 id] 96))
  have HX := Lib.hid X3; have HBX := Lib.hid hb
  clear h hf hrow h3 h4 X3 hb
  go_enter Try.func40, Try.ntmps40
  go_wp2_with fail
  generalize w.alloc (.cells #[.int .u32 x, .int .u64 id] 96) = w1 at *
  go_loopw [5] (fun s5 wr => ∃ k : Nat, k ≤ L.length ∧ s5 = .int .i64 k ∧ (L.take k).any (ekB x id) = false ∧ Drew w1 wr) (fun i _ => L.length - (intOf i).toNat)
  case atStart => exact ⟨0, by omega, rfl, by simp, Drew.refl _⟩
  case round =>
    obtain ⟨k, hk, rfl, hp, hd⟩ := hrel
    have HP := Lib.hid hp; have HD := Lib.hid hd
    have cb := (hd.cell ⟨b, 0, none⟩).trans (HBX.out.cell 0)
    have cx := (hd.cell ⟨w.heap.size, 0, none⟩).trans (HX.out.cell 0)
    have ci := (hd.cell ⟨w.heap.size, 1, none⟩).trans (HX.out.cell 1)
    simp only [List.getElem?_toArray, List.getElem?_cons_zero, List.getElem?_cons_succ] at cb cx ci
    clear hp hd
    by_cases hlt : k < L.length
    · obtain ⟨e, he⟩ : ∃ e, L[k]? = some e := ⟨_, List.getElem?_eq_getElem hlt⟩
      obtain ⟨g, rfl, _, _⟩ := HR.out.addr (by omega)
      obtain ⟨m, hm, hme⟩ := HR.out.cells he
      have d0 := (HD.out.cell _).trans (hm 0 _ rfl); have d1 := (HD.out.cell _).trans (hm 1 _ rfl)
      rw [hme.1] at d0; rw [hme.2.1] at d1
      simp only [Nat.add_zero] at d0
      have HE := Lib.hid he
      clear hm hme he
      by_cases hv : e.value = x
      · have b1 : (e.value == x) = true := by rw [beq_iff_eq]; exact hv
        by_cases hid : e.rc.id = id
        · have b2 : (e.rc.id == id) = true := by rw [beq_iff_eq]; exact hid
          have HI := Lib.hid (idx_at HE.out (show ekB x id e = true by unfold ekB; rw [b1, b2]; rfl) HP.out)
          clear hv hid
          go_upto_region 4 with fail
          go_quiet (fail)
          go_wp2
          go_ret
          exact ⟨by rw [HI.out]; rfl, below_from HB.out (HD.out.drewN _).below (Nat.le_of_lt HX.out.lt)⟩
        · have b2 : (e.rc.id == id) = false := by rw [beq_eq_false_iff_ne]; exact hid
          have HN := Lib.hid (any_takeE HE.out HP.out (show ekB x id e = false by unfold ekB; rw [b1, b2]; rfl))
          clear hv hid
          go_upto_region 4 with fail
          go_quiet (fail)
          go_wp2
          go_roundw
          case rel => exact ⟨k + 1, by omega, by go_num, HN.out, HD.out.drewN _⟩
          case measure => simp [intOf]; omega
      · have b1 : (e.value == x) = false := by rw [beq_eq_false_iff_ne]; exact hv
        have HN := Lib.hid (any_takeE HE.out HP.out (show ekB x id e = false by unfold ekB; rw [b1]; rfl))
        clear hv
        go_upto_region 4 with fail
        go_quiet (fail)
        go_wp2
        go_roundw
        case rel => exact ⟨k + 1, by omega, by go_num, HN.out, HD.out.drewN _⟩
        case measure => simp [intOf]; omega
    · obtain rfl : k = L.length := by omega
      have HI := Lib.hid (idx_no (show L.any (ekB x id) = false by have := HP.out; rwa [List.take_length] at this))
      go_wp2
      go_ret
      exact ⟨by rw [HI.out]; rfl, below_from HB.out HD.out.below (Nat.le_of_lt HX.out.lt)⟩
end Go.Proofs.Ytjcbmfopcohcmaa
