/- The law ClientEmpty: its walk. Conditions: none. -/
import Derived.Test.YtdpamikobmefeaaCliU
import Derived.Test.YtdpamikobmefeaaCliO
import Derived.Test.YtdpamikobmefeaaPlayBox
namespace Go.Proofs.Ytdpamikobmefeaa
open Go.RowKit Go.ChangeShapes Go.Maps
set_option maxRecDepth 100000
set_option linter.unusedVariables false
set_option linter.unusedSimpArgs false

theorem pbK_nat (k : Int) : ∃ q : Nat, 1 ≤ q ∧ q ≤ 3 ∧ pbK k = (q : Int) := ⟨(pbK k).toNat, by have := pbK_range k; omega, by have := pbK_range k; omega, by have := pbK_range k; omega⟩
/-- The place of what has nothing. -/
theorem place_nat (a : Int) {q : Nat} (h1 : 1 ≤ q) (h2 : q ≤ 3) : ∃ p : Nat, p < q ∧ wrap64 ((IntKind.u64.wrap a).tmod (q : Int)) = (p : Int) := by
  have h0 : IntKind.u64.wrap a = a % 18446744073709551616 := by simp [IntKind.wrap, IntKind.signed, IntKind.bits]
  rw [h0, Int.tmod_eq_emod_of_nonneg (by omega)]
  have b1 := Int.emod_nonneg (a % 18446744073709551616) (show (q : Int) ≠ 0 by omega)
  have b2 := Int.emod_lt_of_pos (a % 18446744073709551616) (show (0 : Int) < (q : Int) by omega)
  refine ⟨(a % 18446744073709551616 % (q : Int)).toNat, by omega, ?_⟩
  unfold wrap64
  omega
theorem pbF_kinds {l : List Rng} {n : Nat} {r : Rng} (h : r ∈ pbF l n) : 1 ≤ r.kind ∧ r.kind ≤ 3 := by
  unfold pbF at h
  obtain ⟨i, _, rfl⟩ := List.mem_map.1 h
  unfold pbAt
  cases l[i]? with
  | none => exact ⟨by decide, by decide⟩
  | some r => exact pbK_range _
/-- The box, with nothing at a place. -/
def eBox (l : List Rng) (q p : Nat) : List Rng := (pbF l q).set p ⟨3, ((pbF l q).getD p ⟨1, 0, 0⟩).lo, ((pbF l q).getD p ⟨1, 0, 0⟩).hi⟩
theorem eBox_len (l : List Rng) (q p : Nat) : (eBox l q p).length = q := by unfold eBox; rw [List.length_set, pbF_len]
theorem eBox_right (l : List Rng) {q p : Nat} (h1 : 1 ≤ q) (h2 : q ≤ 3) : rightB (q : Int) (eBox l q p) = true := by
  have e1 : decide (1 ≤ (q : Int)) = true := decide_eq_true (by omega)
  have e2 : decide ((q : Int) ≤ 8) = true := decide_eq_true (by omega)
  have e3 : decide (((eBox l q p).length : Int) = (q : Int)) = true := decide_eq_true (by rw [eBox_len])
  have e4 : ((eBox l q p).all fun r => kindF r.kind) = true := by
    rw [List.all_eq_true]
    intro r hr
    unfold eBox at hr
    unfold kindF
    rcases List.mem_or_eq_of_mem_set hr with hr | rfl
    · have := pbF_kinds hr
      simp [this.1, this.2]
    · simp
  unfold rightB
  rw [e1, e2, e3, e4]; rfl
theorem eBox_empty (l : List Rng) {q p : Nat} (h : p < q) : emptyB (eBox l q p) = true := by
  have : ((eBox l q p).all fun r => oneTwo r.kind) = false := by
    rw [List.all_eq_false]
    refine ⟨_, List.mem_of_getElem? (i := p) (by unfold eBox; rw [List.getElem?_set_self (by rw [pbF_len]; exact h)]), ?_⟩
    simp [oneTwo]
  unfold emptyB
  rw [this]; rfl
theorem upof_nil : UpOf [] [] := ⟨List.Pairwise.nil, fun r => Iff.rfl⟩
set_option maxHeartbeats 8000000 in
theorem wClientEmpty0 (W : World) (x y : Int) (A : Option Addr) (m cap : Nat) (l : List Rng) (hl : RngsAt W (· < W.heap.size) A m cap l) :
    Calls Try.prog 9 #[.int .i64 x, .int .i64 y, .slice A m cap] W fun e W' => e = .returned (.bool true) ∧ Below W.heap.size W W' := by
  obtain ⟨q, hq1, hq3, hq⟩ := pbK_nat x
  obtain ⟨p, hpq, hp⟩ := place_nat y hq1 hq3
  have hqw : wrap64 (1 + wrap64 ((IntKind.u64.wrap x).tmod 3)) = (q : Int) := (pbK_conv x).trans hq
  have hqu : IntKind.u64.wrap (q : Int) = (q : Int) := by simp [IntKind.wrap, IntKind.signed, IntKind.bits]; omega
  have S0 := Lib.hid (Sta.start W)
  have HL := Lib.hid hl
  clear hl hq
  go_enter Try.func9, Try.ntmps9
  go_upto_region 3 with (go_at_call 38; go_loud (refine (play_box (n := q) (l := l) [20] S0.out (by simp) (by simp) (by simp) (fun c hc => HL.out.move hc.first) (by omega)).mono ?_; rintro e1 w1 ⟨B1, c1, rfl, hs⟩; have S1 := Lib.hid hs; clear hs S0))
  obtain ⟨B2, c2, e2, g1, g2, g3⟩ := S1.out.shape (i := 0) rfl
  rw [pbF_len] at e2 g1 g3
  injection e2 with e2 e3 e4
  subst e2 e4
  clear e3
  cases B1 with
  | none => have := (g3 rfl).1; omega
  | some ad =>
  obtain ⟨cc, hcc⟩ := S1.out.row (i := 0) rfl
  obtain ⟨_, _, he, -, -, -, hg⟩ := hcc.shape
  injection he with he he2 he3
  clear he2 he3
  subst he
  obtain ⟨g, rfl, -, zg⟩ := hg ad rfl
  obtain ⟨cur, bb1, -⟩ := hcc.cur
  have fg := (show Box w1 g cur from ⟨_, bb1⟩).free
  have hpl : (pbF l q)[p]? = some ((pbF l q).getD p ⟨1, 0, 0⟩) := by
    have := List.getElem?_eq_getElem (l := pbF l q) (i := p) (by rw [pbF_len]; exact hpq)
    rw [this, List.getD_eq_getElem?_getD, this]; rfl
  obtain ⟨cs, hcs, hcs2, hok⟩ := hcc.cells hpl
  have d0 : w1.cell? ⟨g, p * 3, none⟩ = some (.int .i64 ((pbF l q).getD p ⟨1, 0, 0⟩).kind) := by
    have := hcs 0 (.int .i64 ((pbF l q).getD p ⟨1, 0, 0⟩).kind) (by rw [hcs2]; rfl)
    exact this
  have S2 := Lib.hid (show Sta W [tRow rngE [20] (.slice (some ⟨g, 0, none⟩) q c1) (eBox l q p)] (w1.setCell ⟨g, p * 3, none⟩ (.int .i64 3)) from
    Sta.editAt (E := rngE) (i := 0) p 0 (.int .i64 3) ((pbF l q).getD p ⟨1, 0, 0⟩) ⟨3, ((pbF l q).getD p ⟨1, 0, 0⟩).lo, ((pbF l q).getD p ⟨1, 0, 0⟩).hi⟩ S1.out rfl (by simp) hpl (by decide) (fun c h cs2 hr => by
      obtain ⟨h1, h2⟩ := hr
      subst h1
      exact ⟨rfl, h2⟩) rfl)
  obtain ⟨k0, hk0⟩ : ∃ k0, ((pbF l q).getD p ⟨1, 0, 0⟩).kind = k0 := ⟨_, rfl⟩
  rw [hk0] at d0
  clear hcc hg g1 g2 g3 bb1 hpl hcs hcs2 hok hk0
  go_upto_region 4 with fail
  refine wp_abs (fun wx => Sta W [tAt rngE (some ⟨g, 0, none⟩) q c1 (eBox l q p)] wx) (by
    have s3 := S2.out
    have e0 := eBox_len l q p
    exact s3.freeze (i := 0) (E := rngE) rfl (by simp) rfl) ?_
  intro wx hsx
  have S3 := Lib.hid hsx
  clear S1 S2 hsx d0 fg zg
  go_upto_region 5 with (go_at_call 34; go_loud (refine (cli_new [1] [2] (q : Int) (by omega) (by omega) S3.out (by simp) (by simp) (by simp) (by simp [tAt])).mono ?_; rintro e4 w4 ⟨cb, hm, rfl, hs4⟩; have S4 := Lib.hid hs4; clear hs4 S3))
  go_upto_region 7 with (go_at_call 35; go_loud (refine (awake22 _).mono ?_; rintro e5 w5 ⟨rfl, hb5⟩; have S5 := Lib.hid (S4.out.later hb5); clear hb5 S4))
  have S6 := Lib.hid (S5.out.addD (t := tAt ptrE none 0 0 []) rfl fun c h => Elt.At.nil _ _)
  have HBR := Lib.hid (eBox_right l (p := p) hq1 hq3)
  have HBE := Lib.hid (eBox_empty l hpq)
  have HBL := Lib.hid (eBox_len l q p)
  clear S5
  go_upto_region 8 with (go_at_call 39; go_loud (refine (qry_done (k := 1) (q := p) (attrs := (q : Int)) (page := 5) (n := q) (bl := eBox l q p) (on := 0) (πo := [3]) (πg := [4]) 2 3 (by omega) S6.out rfl (by simp) rfl rfl rfl (fun _ => rfl) (by omega) (fun c h => rngsAt (h.data (i := 0) rfl) (by omega)) HBR.out hpq (by omega) (by omega) HBE.out (by simp) (by simp) (by simp) (by simp [tAt, tHeld, tBlk])).mono ?_; rintro e6 w6 ⟨A6, c6, ob, gb, B6, bn6, bc6, rfl, hs6⟩; have S7 := Lib.hid hs6; clear hs6 S6))
  go_upto_region 9 with (go_at_call 40; go_loud (refine (out_done (k := 1) (n := 1) (L := []) (all := []) (rest := []) (m := 0) 2 6 5 4 (by omega) S7.out rfl rfl rfl (by omega) rfl (by omega) rfl rfl (by simp [tAt, tHeld, tBlk, tGath]) (by simp) upof_nil rfl rfl rfl).mono ?_; rintro e7 w7 ⟨A7, rfl, hs7⟩; have S8 := Lib.hid hs7; clear hs7 S7))
  go_wp2
  go_ret
  exact ⟨rfl, (S8.out.later (below_a1 _ _)).end⟩
theorem wClientEmpty (W : World) (vs : List Value) (h : Sh.Args W (· < W.heap.size) [((.int .i64), 3), ((.int .i64), 3), ((.sl (.st (.pair (.int .i64) (.pair (.int .u32) (.pair (.int .u32) .unit)))) 16), 22)] vs) :
    Calls Try.prog 9 vs.toArray W fun e W' => e = .returned (.bool true) ∧ Below W.heap.size W W' := by
  obtain ⟨_, _, rfl, ⟨a, ha⟩, _, _, rfl, ⟨b, hb⟩, _, _, rfl, ⟨d, hd⟩, rfl⟩ := h
  obtain ⟨x, rfl, -⟩ := int_open ha
  obtain ⟨y, rfl, -⟩ := int_open hb
  obtain ⟨A, n, cap, l, rfl, hr⟩ := rngs_open hd
  exact wClientEmpty0 W x y A n cap l hr
end Go.Proofs.Ytdpamikobmefeaa
