/- The client in a law: puts, giving up, awake. Conditions: it is one, of one attribute. -/
import Derived.Test.YtdpamikobmefeaaGreatCliP
import Derived.Test.YtdpamikobmefeaaGreatLaw
namespace Go.Proofs.YtdpamikobmefeaaGreat
open Go.RowKit Go.ChangeShapes Go.Maps
set_option maxRecDepth 100000
set_option linter.unusedVariables false
set_option linter.unusedSimpArgs false

theorem ops_len {w : World} {cb k : Nat} {C : Array Value} {OA : Option Addr} {on oc : Nat} (hk : k < 16) (hX : Box w cb C) (hC : C[1 + k]? = some (.slice OA on oc)) :
    Calls Tryz.prog 15 #[.pointer (some ⟨cb, 0, none⟩), .int .i64 k] w fun e w' => e = .returned (.int .i64 on) ∧ w = w' := by
  have c1 : w.cell? ⟨cb, 1 + k, none⟩ = some (.slice OA on oc) := (hX.cell (1 + k)).trans hC
  have fb := hX.free; have zb := hX.lt
  have hk16 : (k : Int) < 16 := by omega
  clear hX hC
  go_enter Tryz.func15, Tryz.ntmps15
  go_wp2_with (go_at_call 41; go_loud (refine (there_yes k hk _).mono ?_; rintro e1 w1 ⟨rfl, rfl⟩))
  go_ret
  exact ⟨rfl, by first | rfl | trivial⟩
/-- The cells of clients: one client's operations. -/
abbrev cliC (attrs : Int) (hm : Nat) (A : Option Addr) (on oc : Nat) : Array Value := #[.int .i64 attrs, .slice A on oc, .slice none 0 0, .slice none 0 0, .slice none 0 0, .slice none 0 0, .slice none 0 0, .slice none 0 0, .slice none 0 0, .slice none 0 0, .slice none 0 0, .slice none 0 0, .slice none 0 0, .slice none 0 0, .slice none 0 0, .slice none 0 0, .slice none 0 0, .map (some hm)]
/-- Clients of which the first alone has operations. -/
def clS (cb hm : Nat) (A : Option Addr) (on oc : Nat) (bs : List Nat) (H : List HeldE) (os : List Thing) : List Thing := [tBlk [1] cb (cliC 1 hm A on oc), tHeld [2] hm H, tAt ptrE A on oc bs] ++ os
theorem cl_new {W w : World} (h : Sta W [] w) : Calls Tryz.prog 7 #[.int .i64 1] w fun e w' => ∃ b hm, e = .returned (.tuple #[.pointer (some ⟨b, 0, none⟩), .int .i64 0]) ∧ Sta W (clS b hm none 0 0 [] [] []) w' := by
  refine (cli_new [1] [2] 1 (by omega) (by omega) h (by simp) (by simp) (by simp) (by simp)).mono ?_
  rintro e w' ⟨b, hm, rfl, hs⟩
  exact ⟨b, hm, rfl, ((hs.perm' (List.perm_append_comm (l₁ := [tHeld [2] hm []]) (l₂ := [tBlk [1] b (cli0 1 hm)]))).addD (t := tAt ptrE none 0 0 []) rfl fun c h => Elt.At.nil _ _)⟩
theorem u32_sing {v : Int} (h : U32 v) : ∀ x ∈ [v], U32 x := fun x hx => by simp only [List.mem_singleton] at hx; subst hx; exact h
set_option maxHeartbeats 4000000 in
theorem cl_put {W w : World} {cb hm : Nat} {A : Option Addr} {on oc : Nat} {bs : List Nat} {H : List HeldE} {os : List Thing} {number v : Int} (h : Sta W (clS cb hm A on oc bs H os) w) (hA : on = 0 → A = none) (hon : on < 400) (hnum : U32 number) (hv : U32 v) (hnb : NotBusy w bs (ownF 0 number)) (hH : H.length < 900000) (hos : ∀ x ∈ os, ∃ i : Nat, i ≤ on ∧ x.π = [3, (i : Int)])
    (hold : plH H (ownF 0 number) = [] ∨ ((plH H (ownF 0 number)).length = 1 ∧ ∀ p ∈ plH H (ownF 0 number), p.Pairwise (· ≤ ·) ∧ p.length ≤ 900 ∧ ∀ x ∈ p, U32 x)) :
    Calls Tryz.prog 9 #[.pointer (some ⟨cb, 0, none⟩), .int .i64 0, .int .u32 number, .slice (some ⟨w.heap.size, 0, none⟩) 1 1] (w.alloc (.cells #[.int .u32 v] 27)) fun e w' => ∃ (A' : Option Addr) (c' : Nat) (B : Option Addr) (bc ob wm : Nat) (vM vV : Value), e = .returned (.tuple #[.int .i64 ((on : Int) + 1), .slice B (allM 0 ((on : Int) + 1) (ownF 0 number) [v] true (insAll (plH H (ownF 0 number)) [v] 1) 1).length bc, .int .i64 0]) ∧
      Sta W (clS cb hm A' (on + 1) c' (bs ++ [ob]) (putH H ⟨ownF 0 number, insAll (plH H (ownF 0 number)) [v] 1, [v]⟩) (os ++ [tBlk [3, ((on + 1 : Nat) : Int)] ob (opC 1 (ownF 0 number) vM wm vV), tAt msgE B (allM 0 ((on : Int) + 1) (ownF 0 number) [v] true (insAll (plH H (ownF 0 number)) [v] 1) 1).length bc (allM 0 ((on : Int) + 1) (ownF 0 number) [v] true (insAll (plH H (ownF 0 number)) [v] 1) 1)])) w' := by
  have h2 := h.addBox #[.int .u32 v] 27
  have hnb2 : NotBusy (w.alloc (.cells #[.int .u32 v] 27)) bs (ownF ((0 : Nat) : Int) number) := hnb.below (below_a1 w _)
  have hcol : ∀ x ∈ clS cb hm A on oc bs H os ++ [tBox w.heap.size #[.int .u32 v]], (x.π ≠ [10] ∧ x.π ≠ [11]) ∧ x.π ≠ [3, ((on + 1 : Nat) : Int)] ∧ x.π ≠ [7] ∧ x.π ≠ [8] ∧ x.π ≠ [9] := by
    intro x hx
    unfold clS at hx
    simp only [List.mem_append, List.mem_cons, List.not_mem_nil, or_false] at hx
    rcases hx with ((rfl | rfl | rfl) | hx) | rfl
    · simp [tBlk]
    · simp [tHeld]
    · simp [tAt]
    · obtain ⟨i, hi, e⟩ := hos x hx
      rw [e]
      refine ⟨⟨by simp, by simp⟩, ?_, by simp, by simp, by simp⟩
      intro e2
      simp only [List.cons.injEq, and_true, true_and] at e2
      omega
    · simp [tBox]
  refine (cli_put (π := [1]) (ρ := [2]) (πo := [3, ((on + 1 : Nat) : Int)]) (k := 0) (attrs := 1) (number := number) (vn := 1) (vs := [v]) (H := H) 0 2 1 (by omega) h2 rfl (by simp) rfl rfl rfl rfl rfl (by simp) hA hon hnum hnb2 (fun c hc => ints_one (hc.box (i := (clS cb hm A on oc bs H os).length) (by rw [List.getElem?_append_right (Nat.le_refl _), Nat.sub_self]; rfl)).1 (u32_wfC hv) (hc.box (i := (clS cb hm A on oc bs H os).length) (by rw [List.getElem?_append_right (Nat.le_refl _), Nat.sub_self]; rfl)).2) (u32_sing hv) rfl (by omega) hH (by omega) (by omega) (by simp) hcol ⟨⟨by simp, by simp, by simp⟩, by simp, by simp⟩ hold).mono ?_
  rintro e w' ⟨A', c', B, bc, ob, wm, vM, vV, rfl, hs⟩
  refine ⟨A', c', B, bc, ob, wm, vM, vV, rfl, ?_⟩
  have h3 := hs.pick (ts' := [tBlk [1] cb (cliC 1 hm A' (on + 1) c'), tHeld [2] hm (putH H ⟨ownF 0 number, insAll (plH H (ownF 0 number)) [v] 1, [v]⟩)] ++ (os ++ [tBlk [3, ((on + 1 : Nat) : Int)] ob (opC 1 (ownF 0 number) vM wm vV), tAt ptrE A' (on + 1) c' (bs ++ [ob]), tAt msgE B (allM 0 ((on : Int) + 1) (ownF 0 number) [v] true (insAll (plH H (ownF 0 number)) [v] 1) 1).length bc (allM 0 ((on : Int) + 1) (ownF 0 number) [v] true (insAll (plH H (ownF 0 number)) [v] 1) 1)])) ?_
  · refine h3.perm' ?_
    unfold clS
    refine .cons _ (.cons _ ?_)
    generalize hM : allM 0 ((on : Int) + 1) (ownF 0 number) [v] true (insAll (plH H (ownF 0 number)) [v] 1) 1 = M
    show List.Perm (os ++ [tBlk [3, ((on + 1 : Nat) : Int)] ob (opC 1 (ownF 0 number) vM wm vV), tAt ptrE A' (on + 1) c' (bs ++ [ob]), tAt msgE B M.length bc M]) (tAt ptrE A' (on + 1) c' (bs ++ [ob]) :: (os ++ [tBlk [3, ((on + 1 : Nat) : Int)] ob (opC 1 (ownF 0 number) vM wm vV), tAt msgE B M.length bc M]))
    have := List.perm_middle (a := tAt ptrE A' (on + 1) c' (bs ++ [ob])) (l₁ := os ++ [tBlk [3, ((on + 1 : Nat) : Int)] ob (opC 1 (ownF 0 number) vM wm vV)]) (l₂ := [tAt msgE B M.length bc M])
    simpa only [List.append_assoc, List.cons_append, List.nil_append] using this
  · generalize allM 0 ((on : Int) + 1) (ownF 0 number) [v] true (insAll (plH H (ownF 0 number)) [v] 1) 1 = M
    refine .cons_cons _ (.cons_cons _ (.cons _ ?_))
    show List.Sublist _ ((os ++ [tBox w.heap.size #[.int .u32 v]]) ++ _)
    rw [List.append_assoc]
    exact List.Sublist.append_left (l₂ := [tBox w.heap.size #[Value.int IntKind.u32 v]] ++ [tBlk [3, ((on + 1 : Nat) : Int)] ob (opC 1 (ownF 0 number) vM wm vV), tAt ptrE A' (on + 1) c' (bs ++ [ob]), tAt msgE B M.length bc M]) (.cons _ (List.Sublist.refl _)) os
/-- An operation is given up. -/
theorem cl_up {W w : World} {cb hm n : Nat} {A : Option Addr} {on oc ob wm : Nat} {bs : List Nat} {H : List HeldE} {os : List Thing} {oid : Int} {vM vV : Value} {π : List Int} (i : Nat) (h : Sta W (clS cb hm A on oc bs H os) w) (hi : os[i]? = some (tBlk π ob (opC 1 oid vM wm vV))) (hπ : π ≠ []) (hn : 1 ≤ n) (ho : bs[n - 1]? = some ob) (hn2 : n < 1000000) :
    Calls Tryz.prog 13 #[.pointer (some ⟨cb, 0, none⟩), .int .i64 0, .int .i64 n] w fun e w' => e = .returned (.int .i64 0) ∧ Sta W (clS cb hm A on oc bs H (os.set i (tBlk π ob (opC 4 oid vM wm vV)))) w' := by
  have hX := h.blk (i := 0) (π := [1]) (b := cb) (C := cliC 1 hm A on oc) rfl
  have hat := h.at (E := ptrE) (i := 2) (A := A) (n := on) (cap := oc) (l := bs) rfl
  have hO := h.blk (i := i + 3) (π := π) (b := ob) (C := opC 1 oid vM wm vV) hi
  refine (give_up (k := 0) (by omega) hX rfl hat hn ho hn2 ⟨hO.cell 0, hO.cell 1, hO.cell 2, hO.lt⟩ hO).mono ?_
  rintro e w' ⟨rfl, w2, hb, rfl⟩
  refine ⟨rfl, ?_⟩
  have h2 := (h.later hb).store (i := i + 3) (π := π) (b := ob) (C := opC 1 oid vM wm vV) 0 (.int .i64 3) hi hπ rfl
  have hi2 : ((clS cb hm A on oc bs H os).set (i + 3) (tBlk π ob (#[.int .i64 3, .bool true, .int .u64 oid, vM, .map (some wm), vV, .int .i64 0, .int .i64 0, .slice none 0 0, .int .u64 0, .bool false, .pointer none, .pointer none])))[i + 3]? = some (tBlk π ob (#[.int .i64 3, .bool true, .int .u64 oid, vM, .map (some wm), vV, .int .i64 0, .int .i64 0, .slice none 0 0, .int .u64 0, .bool false, .pointer none, .pointer none])) := by
    show (os.set i _)[i]? = _
    rw [List.getElem?_set]
    simp [(List.getElem?_eq_some_iff.1 hi).1]
  have h3 := h2.store (i := i + 3) (π := π) (b := ob) (C := #[.int .i64 3, .bool true, .int .u64 oid, vM, .map (some wm), vV, .int .i64 0, .int .i64 0, .slice none 0 0, .int .u64 0, .bool false, .pointer none, .pointer none]) 0 (.int .i64 4) hi2 hπ rfl
  have e : (((clS cb hm A on oc bs H os).set (i + 3) (tBlk π ob (#[.int .i64 3, .bool true, .int .u64 oid, vM, .map (some wm), vV, .int .i64 0, .int .i64 0, .slice none 0 0, .int .u64 0, .bool false, .pointer none, .pointer none]))).set (i + 3) (tBlk π ob (opC 4 oid vM wm vV))) = clS cb hm A on oc bs H (os.set i (tBlk π ob (opC 4 oid vM wm vV))) := by
    rw [List.set_set]; rfl
  rw [← e]
  exact h3
/-- A first put's places. -/
theorem insAll_first (v : Int) : insAll [] [v] 1 = [[v]] := rfl
theorem plH_nil (id : Int) : plH [] id = [] := rfl
/-- A message's cells. -/
theorem msg_cells {w : World} {D : Nat → Prop} {A : Option Addr} {n cap i : Nat} {l : List Msg} {m : Msg} (h : msgE.At w D A n cap l) (hm : l[i]? = some m) : ∃ b off s sl sc, A = some ⟨b, off, none⟩ ∧ D b ∧ w.cell? ⟨b, off + i * 18, none⟩ = some (.int .i64 m.kind) ∧ w.cell? ⟨b, off + i * 18 + 5, none⟩ = some (.int .u32 m.target) ∧ w.cell? ⟨b, off + i * 18 + 11, none⟩ = some (.int .u64 m.rc.ver) ∧ w.cell? ⟨b, off + i * 18 + 12, none⟩ = some (.slice s sl sc) ∧ w.cell? ⟨b, off + i * 18 + 13, none⟩ = some (.bool m.gone) ∧ Ints w D .u32 4 s sl sc m.rc.vals := by
  obtain ⟨h1, h2, h3, h4, h5⟩ := h
  have hi := (List.getElem?_eq_some_iff.1 hm).1
  obtain ⟨b, off, rfl, hd, hc⟩ := h5 (by omega)
  obtain ⟨cs, q0, s, sl, sc, bA, bn, bc, rA, rn, rk, rfl, hx, _, _⟩ := hc i m hm
  exact ⟨b, off, s, sl, sc, rfl, hd, q0 0 _ rfl, q0 5 _ rfl, q0 11 _ rfl, q0 12 _ rfl, q0 13 _ rfl, hx⟩
set_option maxHeartbeats 4000000 in
theorem awake22 (W : World) : Calls Tryz.prog 8 #[] W fun e w' => e = .returned (.bool true) ∧ Below W.heap.size W w' := by
  have S0 := Lib.hid (Sta.start W)
  have HU5 := Lib.hid (show U32 5 from ⟨by decide, by decide⟩)
  have HU1 := Lib.hid (show U32 1 from ⟨by decide, by decide⟩)
  go_enter Tryz.func8, Tryz.ntmps8
  go_upto_region 5 with (first
    | (go_at_call 7; go_loud (refine (cl_new S0.out).mono ?_; rintro e1 w1 ⟨b, hm, rfl, hs⟩; have S1 := Lib.hid hs; clear hs))
    | (go_at_call 9; go_loud (refine (cl_put (number := 1) (v := 5) S1.out (fun _ => rfl) (by omega) HU1.out HU5.out (fun j ob h => by simp at h) (by simp) (by simp) (.inl rfl)).mono ?_; rintro e2 w2 ⟨A', c', B, bc, ob, wm, vM, vV, rfl, hs⟩; have S2 := Lib.hid (show Sta W (clS b hm A' 1 c' [ob] (putH [] ⟨ownF 0 1, [[5]], [5]⟩) [tBlk [3, 1] ob (opC 1 (ownF 0 1) vM wm vV), tAt msgE B 1 bc [stM 0 1 (ownF 0 1) [5] 0 5 false]]) w2 from hs); clear hs S1)))
  have hm0 := S2.out.at (E := msgE) (i := 4) (A := B) (n := 1) (cap := bc) (l := [stM 0 1 (ownF 0 1) [5] 0 5 false]) rfl
  obtain ⟨Ba, Bo, s, sl, sc, rfl, mz, mc, _⟩ := msg_cells (i := 0) hm0 rfl
  have mc : w2.cell? ⟨Ba, Bo, none⟩ = some (.int .i64 1) := by rw [Nat.zero_mul, Nat.add_zero] at mc; exact mc
  have mz : Ba < w2.heap.size := mz
  go_wp2_with (go_at_call 15; go_loud (refine (ops_len (k := 0) (by omega) (S2.out.blk (i := 0) (π := [1]) (b := b) (C := cliC 1 hm A' 1 c') rfl) rfl).mono ?_; rintro e3 w3 ⟨rfl, rfl⟩))
  go_ret
  exact ⟨rfl, S2.out.end⟩
end Go.Proofs.YtdpamikobmefeaaGreat
