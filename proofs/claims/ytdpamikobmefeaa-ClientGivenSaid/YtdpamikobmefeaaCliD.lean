/- append to a slice that is full; the client: begin. Conditions: it is one. -/
import Derived.Test.YtdpamikobmefeaaCliC
import Derived.Deep.RegionLawGrows
namespace Go.Proofs.Ytdpamikobmefeaa
open Go.RowKit Go.ChangeShapes
set_option maxRecDepth 100000
set_option linter.unusedVariables false
set_option linter.unusedSimpArgs false

/-- append to a slice of data that is full. -/
theorem Sta.step_grows {α : Type} {E : Elt Try.prog α} {W w : World} {ts : List Thing} {ops : Array Oper} {o : Oper} {a : Act} {K : Act → World → Prop} {Q : Exit → Act → World → Prop} {F : Prop} {L N : List α} (hgd : o.guard = none) (s x : Operand)
    (ho : o.op = .call { callee := .builtin .append, args := #[s, x], argTypes := #[E.ST, E.ST] })
    (hst : Sta W ts w) (A : Option Addr) (n : Nat) (hs : a.eval s = .slice A n n) (hL : ∀ c, S0 W ts c w → E.At w (Quiet c w) A n n L) (ad : Addr) (m cp : Nat) (hx : a.eval x = .slice (some ad) m cp) (hN : ∀ c, S0 W ts c w → E.At w (Quiet c w) (some ad) m cp N) (hm : 0 < m) (hlen : n + m ≤ 1000000)
    (hK : ∀ A' c' w', Sta W (ts ++ [tAt E A' (n + m) c' (L ++ N)]) w' → Below w.heap.size w w' → K (a.put o.dst (.slice A' (n + m) c')) w') :
    if Region.wanted o (yielded ops a.tmps) = true then Oper.wp Try.prog o a w K Q else F := by
  obtain ⟨c, h⟩ := hst
  have hL := hL c h
  have hN := hN c h
  obtain ⟨M, q1, hk, q2, q3⟩ := hL.cellsOf
  obtain ⟨M', q1', hk', q2', q3'⟩ := hN.cellsOf
  obtain ⟨j0, jii, jz0, jz1, jz2⟩ := E.info
  have hby := E.blim
  have h1c : ∀ u ∈ M'.flatten, u.oneCell' = true := fun u hu => by
    obtain ⟨ms, hms, hu⟩ := List.mem_flatten.1 hu
    obtain ⟨j, hj⟩ := List.mem_iff_getElem?.1 hms
    have hjl := (List.getElem?_eq_some_iff.1 hj).1
    have := hN.1
    exact E.one (q3' j ms (N[j]'(by omega)) hj (List.getElem?_eq_getElem (by omega))) u hu
  have hb2 : (n + m) * E.bytes ≤ 1000000 * 100000 := Nat.mul_le_mul hlen hby
  refine step_append_grows hgd s x E.ST ho E.T j0 E.zero E.k E.bytes E.und jii jz0 jz1 jz2 E.zlen E.pos A n n M.flatten hs (fun e => ?_) (by rw [flatten_len hk, q1]) q2 ad m cp M'.flatten hx (by rw [flatten_len hk', q1']) (q2' ad rfl) h1c (by omega) (by unfold maxLen; omega) (by omega) fun v' w' hown hgr => ?_
  · have := hL.2.2.2.1 e
    exact ⟨this, this⟩
  · have hB : Below w.heap.size w w' := ⟨hgr.os, hgr.tape, hgr.output, hgr.size, fun i hi => hgr.block i hi (by simp)⟩
    obtain ⟨A', c', rfl, _⟩ := owns_shape hown
    have hrow : E.Row c [] w' (.slice A' (n + m) c') (L ++ N) := by
      have hln := hL.1
      have hNn := hN.1
      refine ⟨M ++ M', ?_, fun g hg => ?_, by simp [q1, q1', hln, hNn], fun ms hms => ?_, fun j ms e hms he => ?_⟩
      · rw [List.flatten_append, List.length_append, q1, q1']
        refine ⟨hown.1, ?_⟩
        rcases hown.2 with h1 | ⟨g, cap, cur, e1, e2, e3⟩
        · exact .inl h1
        · exact .inr ⟨g, cap, cur, e1, Nat.zero_le _, e3⟩
      · rcases hown.2 with ⟨h1, h2⟩ | ⟨g', cap, cur, e1, e2, e3⟩
        · omega
        · rw [e1] at hg
          simp only [Value.ownBlock] at hg
          injection hg with hg
          rw [← hg]; exact h.fresh g' e2
      · rcases List.mem_append.1 hms with hq | hq
        · exact hk ms hq
        · exact hk' ms hq
      · by_cases hj : j < n
        · rw [List.getElem?_append_left (by omega)] at hms he
          exact E.move (q3 j ms e hms he) fun b hb hlt => ⟨hB.block b hlt, hb.1, Nat.lt_of_lt_of_le hlt hB.size⟩
        · rw [List.getElem?_append_right (by omega)] at hms he
          rw [q1] at hms; rw [hln] at he
          exact E.move (q3' _ ms e hms he) fun b hb hlt => ⟨hB.block b hlt, hb.1, Nat.lt_of_lt_of_le hlt hB.size⟩
    exact hK A' c' w' ⟨c, (h.later hB).addData rfl hrow.at⟩ hB
theorem clip_ops {A : Option Addr} {n cap : Nat} (hn : n ≤ cap) (w : World) (hA : A = none → cap = 0) (h1 : ∀ ad, A = some ad → ∃ b off, ad = ⟨b, off, none⟩) (hb : n < 1000000) :
    Calls Try.prog 104 #[.slice A n cap] w fun e w' => e = .returned (.slice A n n) ∧ w = w' := by
  cases A with
  | none =>
    have hc := hA rfl
    subst hc
    obtain rfl : n = 0 := by omega
    go_enter Try.func104, Try.ntmps104
    go_wp2
    go_ret
    exact ⟨by first | rfl | simp, by first | rfl | trivial⟩
  | some ad =>
    obtain ⟨b, off, rfl⟩ := h1 ad rfl
    go_enter Try.func104, Try.ntmps104
    go_wp2
    go_ret
    exact ⟨by first | rfl | simp, by first | rfl | trivial⟩
/-- The things in the midst of begin. -/
def tsB (ts : List Thing) (i k : Nat) (π : List Int) (cb : Nat) (C : Array Value) (on : Nat) (bs : List Nat) (ob : Nat) (l10 l11 l15 : Bool) (θ : Nat × Option Addr × Nat) : List Thing :=
  (if l15 = true then ts.set i (tBlk π cb (C.setIfInBounds (1 + k) (.slice θ.2.1 (on + 1) θ.2.2))) else ts) ++ [if l10 = true then tBox θ.1 #[.pointer (some ⟨ob, 0, none⟩)] else tNone, if l11 = true then tAt ptrE θ.2.1 (on + 1) θ.2.2 (bs ++ [ob]) else tNone]
set_option maxHeartbeats 4000000 in
theorem cli_begin {W w : World} {ts : List Thing} {π : List Int} {cb k ob : Nat} {C : Array Value} {OA : Option Addr} {on oc : Nat} {bs : List Nat} (i j : Nat) (hk : k < 16) (h : Sta W ts w) (hi : ts[i]? = some (tBlk π cb C)) (hπ : π ≠ []) (hC : C[1 + k]? = some (.slice OA on oc)) (hj : ts[j]? = some (tAt ptrE OA on oc bs)) (hA : on = 0 → OA = none) (hon : on < 1000) :
    Calls Try.prog 72 #[.pointer (some ⟨cb, 0, none⟩), .int .i64 k, .pointer (some ⟨ob, 0, none⟩)] w fun e w' => ∃ A' c', e = .returned (.int .i64 ((on + 1 : Nat) : Int)) ∧ Sta W (ts.set i (tBlk π cb (C.setIfInBounds (1 + k) (.slice A' (on + 1) c'))) ++ [tAt ptrE A' (on + 1) c' (bs ++ [ob])]) w' := by
  have hk16 : (k : Int) < 16 := by omega
  have hil := (List.getElem?_eq_some_iff.1 hi).1
  have hjl := (List.getElem?_eq_some_iff.1 hj).1
  have hcl := (Array.getElem?_eq_some_iff.1 hC).1
  have hat := h.at (E := ptrE) hj
  have hblen := hat.1; have hoc := hat.2.1; have hoc2 := hat.2.2.1
  have hA2 : ∀ ad, OA = some ad → ∃ b off, ad = ⟨b, off, none⟩ := fun ad had => by
    by_cases h0 : on = 0
    · rw [hA h0] at had; cases had
    · obtain ⟨b, off, e, _⟩ := hat.2.2.2.2 (by omega)
      rw [e] at had; injection had with had
      exact ⟨b, off, had.symm⟩
  have hA3 : OA = none → on = 0 := fun e => by have := hat.2.2.2.1 e; omega
  have H := Lib.hid h; have HI := Lib.hid hi; have HJ := Lib.hid hj; have HC := Lib.hid hC
  clear h hi hj hC hat
  go_enter Try.func72, Try.ntmps72
  go_upto_region 1 with fail
  refine wp_regs (Θ := Nat × Option Addr × Nat) (by kernel_rfl) (by kernel_rfl) 29 rfl (by kernel_rfl) (fun θ q9 => if q9 = 10 then .slice (some ⟨θ.1, 0, none⟩) 1 1 else if q9 = 11 then .slice θ.2.1 (on + 1) θ.2.2 else ([.pointer (some ⟨cb, 0, none⟩), .int .i64 (k : Int), .pointer (some ⟨cb, 0, none⟩), .int .i64 (k : Int), .pointer (some ⟨cb, 0, none⟩), .pointer (some ⟨cb, 1, none⟩), .pointer (some ⟨cb, 1 + k, none⟩), .slice OA on oc, .slice OA on on, .pointer (some ⟨ob, 0, none⟩), undef, undef, .pointer (some ⟨cb, 0, none⟩), .pointer (some ⟨cb, 1, none⟩), .pointer (some ⟨cb, 1 + k, none⟩), undef] : List Value).getD q9 undef)
    (fun l θ w2 => Sta W (tsB ts i k π cb C on bs ob (l.getD 10 false) (l.getD 11 false) (l.getD 15 false) θ) w2) (0, none, 0) ?start ?step ?done
  case start => 
    have := ((H.out.later (Same.drew w).1).addData (t := tNone) rfl fun _ _ => trivial).addData (t := tNone) rfl fun _ _ => trivial
    rw [List.append_assoc] at this
    exact this
  case step =>
    intro l θ a w2 q o K5 ho h0 hsz hd hcl2 hJ hR hK
    have hq : q < 16 := (Array.getElem?_eq_some_iff.1 ho).1
    have hof := getD_ff h0
    have cl : ∀ j k, Region.waitsFor .any _ j k = true → l.getD k false = false → l.getD j false = false := fun j k hw hk => by
      cases hj : l.getD j false with
      | false => rfl
      | true => rw [hcl2 j k hw hj] at hk; cases hk
    have so : ∀ k, q ≠ k → (l.setIfInBounds q true).getD k false = l.getD k false := fun k hk => getD_set_other hk
    have se : (l.setIfInBounds q true).getD q false = true := getD_set_self (by rw [hsz]; exact (Array.getElem?_eq_some_iff.1 ho).1)
    have hc : q = 0 ∨ q = 1 ∨ q = 2 ∨ q = 3 ∨ q = 4 ∨ q = 5 ∨ q = 6 ∨ q = 7 ∨ q = 8 ∨ q = 9 ∨ q = 10 ∨ q = 11 ∨ q = 12 ∨ q = 13 ∨ q = 14 ∨ q = 15 := by omega
    rcases hc with rfl | rfl | rfl | rfl | rfl | rfl | rfl | rfl | rfl | rfl | rfl | rfl | rfl | rfl | rfl | rfl
    · obtain rfl := Option.some.inj ho
      have e0 : a.tmps[0]? = some (.pointer (some ⟨cb, 0, none⟩)) := (hR.outer 0 (by kernel_rfl)).trans rfl
      clear hsz h0 hd hcl2 cl hof
      unfold StepTo
      go_simp
      exact hK θ w2 (by simp only [so 10 (by decide), so 11 (by decide), so 15 (by decide)]; exact hJ) (fun _ _ _ => rfl)
    · obtain rfl := Option.some.inj ho
      have e1 : a.tmps[1]? = some (.int .i64 (k : Int)) := (hR.outer 1 (by kernel_rfl)).trans rfl
      clear hsz h0 hd hcl2 cl hof
      unfold StepTo
      go_simp
      exact hK θ w2 (by simp only [so 10 (by decide), so 11 (by decide), so 15 (by decide)]; exact hJ) (fun _ _ _ => rfl)
    · obtain rfl := Option.some.inj ho
      have e0 : a.tmps[0]? = some (.pointer (some ⟨cb, 0, none⟩)) := (hR.outer 0 (by kernel_rfl)).trans rfl
      clear hsz h0 hd hcl2 cl hof
      unfold StepTo
      go_simp
      exact hK θ w2 (by simp only [so 10 (by decide), so 11 (by decide), so 15 (by decide)]; exact hJ) (fun _ _ _ => rfl)
    · obtain rfl := Option.some.inj ho
      have e1 : a.tmps[1]? = some (.int .i64 (k : Int)) := (hR.outer 1 (by kernel_rfl)).trans rfl
      clear hsz h0 hd hcl2 cl hof
      unfold StepTo
      go_simp
      exact hK θ w2 (by simp only [so 10 (by decide), so 11 (by decide), so 15 (by decide)]; exact hJ) (fun _ _ _ => rfl)
    · obtain rfl := Option.some.inj ho
      have e9 : a.tmps[9]? = some (.pointer (some ⟨cb, 0, none⟩)) := hR.reg 2 _ 9 rfl rfl (hd 2 (by kernel_rfl))
      clear hsz h0 hd hcl2 cl hof
      unfold StepTo
      go_simp
      exact hK θ w2 (by simp only [so 10 (by decide), so 11 (by decide), so 15 (by decide)]; exact hJ) (fun _ _ _ => rfl)
    · obtain rfl := Option.some.inj ho
      have e11 : a.tmps[11]? = some (.pointer (some ⟨cb, 0, none⟩)) := hR.reg 4 _ 11 rfl rfl (hd 4 (by kernel_rfl))
      clear hsz h0 hd hcl2 cl hof
      unfold StepTo
      go_simp
      exact hK θ w2 (by simp only [so 10 (by decide), so 11 (by decide), so 15 (by decide)]; exact hJ) (fun _ _ _ => rfl)
    · obtain rfl := Option.some.inj ho
      have e10 : a.tmps[10]? = some (.int .i64 (k : Int)) := hR.reg 3 _ 10 rfl rfl (hd 3 (by kernel_rfl))
      have e12 : a.tmps[12]? = some (.pointer (some ⟨cb, 1, none⟩)) := hR.reg 5 _ 12 rfl rfl (hd 5 (by kernel_rfl))
      clear hsz h0 hd hcl2 cl hof
      unfold StepTo
      go_simp
      exact hK θ w2 (by simp only [so 10 (by decide), so 11 (by decide), so 15 (by decide)]; exact hJ) (fun _ _ _ => rfl)
    · obtain rfl := Option.some.inj ho
      have e13 : a.tmps[13]? = some (.pointer (some ⟨cb, 1 + k, none⟩)) := hR.reg 6 _ 13 rfl rfl (hd 6 (by kernel_rfl))
      have q8 := cl 8 7 (by kernel_rfl) hof
      have q11 := cl 11 8 (by kernel_rfl) q8
      have q15 := cl 15 11 (by kernel_rfl) q11
      have hbx : Box w2 cb C := hJ.blk (i := i) (π := π) (by unfold tsB; rw [q15, if_neg (by simp), List.getElem?_append_left hil]; exact HI.out)
      have c1 : w2.cell? ⟨cb, 1 + k, none⟩ = some (.slice OA on oc) := (hbx.cell (1 + k)).trans HC.out
      have fb := hbx.free; have zb := hbx.lt
      clear hbx
      clear hsz h0 hd hcl2 cl hof
      unfold StepTo
      go_simp
      exact hK θ w2 (by simp only [so 10 (by decide), so 11 (by decide), so 15 (by decide)]; exact hJ) (fun _ _ _ => rfl)
    · obtain rfl := Option.some.inj ho
      have e14 : a.tmps[14]? = some (.slice OA on oc) := hR.reg 7 _ 14 rfl rfl (hd 7 (by kernel_rfl))
      clear hsz h0 hd hcl2 cl hof
      unfold StepTo
      go_simp
      go_at_call 104
      refine (clip_ops hoc w2 (fun e => by have := hA3 e; have := H.out.at (E := ptrE) HJ.out; exact this.2.2.2.1 e) hA2 (by omega)).mono ?_
      rintro e5 w5 ⟨rfl, rfl⟩
      exact hK θ _ (by simp only [so 10 (by decide), so 11 (by decide), so 15 (by decide)]; exact hJ) (fun _ _ _ => rfl)
    · obtain rfl := Option.some.inj ho
      have e2 : a.tmps[2]? = some (.pointer (some ⟨ob, 0, none⟩)) := (hR.outer 2 (by kernel_rfl)).trans rfl
      clear hsz h0 hd hcl2 cl hof
      unfold StepTo
      go_simp
      exact hK θ w2 (by simp only [so 10 (by decide), so 11 (by decide), so 15 (by decide)]; exact hJ) (fun _ _ _ => rfl)
    · obtain rfl := Option.some.inj ho
      have e16 : a.tmps[16]? = some (.pointer (some ⟨ob, 0, none⟩)) := hR.reg 9 _ 16 rfl rfl (hd 9 (by kernel_rfl))
      have q11 := cl 11 10 (by kernel_rfl) hof
      have q15 := cl 15 11 (by kernel_rfl) q11
      clear hsz h0 hd hcl2 cl
      have hJ2 := hJ.boxIn (t := tNone) ts.length #[.pointer (some ⟨ob, 0, none⟩)] 136 (by unfold tsB; rw [hof, q15, if_neg (by simp), List.getElem?_append_right (Nat.le_refl _)]; simp) rfl rfl
      unfold StepTo
      go_simp
      refine hK (w2.heap.size, θ.2.1, θ.2.2) _ ?_ (fun j hj _ => by simp only [if_neg hj])
      simp only [se, so 11 (by decide), so 15 (by decide), q11, q15]
      unfold tsB at hJ2 ⊢
      simp only [hof, q11, q15, Bool.false_eq_true, if_false, if_true] at hJ2 ⊢
      simpa using hJ2
    · obtain rfl := Option.some.inj ho
      have e15 : a.tmps[15]? = some (.slice OA on on) := hR.reg 8 _ 15 rfl rfl (hd 8 (by kernel_rfl))
      have e17 : a.tmps[17]? = some (.slice (some ⟨θ.1, 0, none⟩) 1 1) := hR.reg 10 _ 17 rfl rfl (hd 10 (by kernel_rfl))
      have q15 := cl 15 11 (by kernel_rfl) hof
      have q10 := hd 10 (by kernel_rfl)
      clear hsz h0 hd hcl2 cl
      simp only [hof, q10, q15] at hJ
      unfold StepTo
      refine Sta.step_grows (E := ptrE) (L := bs) (N := [ob]) rfl (.tmp 15) (.tmp 17) rfl hJ OA on (by simp [Act.eval, e15]) (fun c h => ?_) ⟨θ.1, 0, none⟩ 1 1 (by simp [Act.eval, e17]) (fun c h => ?_) (by omega) (by omega) ?_
      · have h1 := (show ptrE.At w2 (Quiet c w2) OA on oc bs from h.data (i := j) (by unfold tsB; simp only [Bool.false_eq_true, if_false]; rw [List.getElem?_append_left hjl]; exact HJ.out)).head (m := on) (cap' := on) (Nat.le_refl _) (Nat.le_refl _) (by omega) hA3
        rwa [List.take_of_length_le (by omega)] at h1
      · have h2 := h.box (i := ts.length) (b := θ.1) (C := #[.pointer (some ⟨ob, 0, none⟩)]) (by unfold tsB; simp only [Bool.false_eq_true, if_false, if_true]; rw [List.getElem?_append_right (Nat.le_refl _)]; simp)
        exact Elt.At.one h2.1 h2.2 rfl
      · intro A9 c9 w9 hst hb9
        refine hK (θ.1, A9, c9) w9 ?_ (fun j hj _ => by simp only [if_neg hj])
        simp only [se, so 10 (by decide), so 15 (by decide), q10, q15]
        unfold tsB at hst ⊢
        simp only [Bool.false_eq_true, if_false, if_true] at hst ⊢
        refine hst.pick ?_
        rw [List.append_assoc]
        exact (List.Sublist.refl ts).append (.cons_cons _ (.cons _ (List.Sublist.refl _)))
    · obtain rfl := Option.some.inj ho
      have e7 : a.tmps[7]? = some (.pointer (some ⟨cb, 0, none⟩)) := hR.reg 0 _ 7 rfl rfl (hd 0 (by kernel_rfl))
      clear hsz h0 hd hcl2 cl hof
      unfold StepTo
      go_simp
      exact hK θ w2 (by simp only [so 10 (by decide), so 11 (by decide), so 15 (by decide)]; exact hJ) (fun _ _ _ => rfl)
    · obtain rfl := Option.some.inj ho
      have e19 : a.tmps[19]? = some (.pointer (some ⟨cb, 0, none⟩)) := hR.reg 12 _ 19 rfl rfl (hd 12 (by kernel_rfl))
      clear hsz h0 hd hcl2 cl hof
      unfold StepTo
      go_simp
      exact hK θ w2 (by simp only [so 10 (by decide), so 11 (by decide), so 15 (by decide)]; exact hJ) (fun _ _ _ => rfl)
    · obtain rfl := Option.some.inj ho
      have e8 : a.tmps[8]? = some (.int .i64 (k : Int)) := hR.reg 1 _ 8 rfl rfl (hd 1 (by kernel_rfl))
      have e20 : a.tmps[20]? = some (.pointer (some ⟨cb, 1, none⟩)) := hR.reg 13 _ 20 rfl rfl (hd 13 (by kernel_rfl))
      clear hsz h0 hd hcl2 cl hof
      unfold StepTo
      go_simp
      exact hK θ w2 (by simp only [so 10 (by decide), so 11 (by decide), so 15 (by decide)]; exact hJ) (fun _ _ _ => rfl)
    · obtain rfl := Option.some.inj ho
      have e18 : a.tmps[18]? = some (.slice θ.2.1 (on + 1) θ.2.2) := hR.reg 11 _ 18 rfl rfl (hd 11 (by kernel_rfl))
      have e21 : a.tmps[21]? = some (.pointer (some ⟨cb, 1 + k, none⟩)) := hR.reg 14 _ 21 rfl rfl (hd 14 (by kernel_rfl))
      have q11 := hd 11 (by kernel_rfl)
      simp only [hof, q11] at hJ
      have hJ2 := hJ.store (i := i) (π := π) (b := cb) (C := C) (1 + k) (.slice θ.2.1 (on + 1) θ.2.2) (by unfold tsB; simp only [Bool.false_eq_true, if_false]; rw [List.getElem?_append_left hil]; exact HI.out) hπ rfl
      have hbx : Box w2 cb C := hJ.blk (i := i) (π := π) (by unfold tsB; simp only [Bool.false_eq_true, if_false]; rw [List.getElem?_append_left hil]; exact HI.out)
      have cb1 : w2.cell? ⟨cb, 1 + k, none⟩ = some (.slice OA on oc) := (hbx.cell (1 + k)).trans HC.out
      have fb := hbx.free; have zb := hbx.lt
      clear hsz h0 hd hcl2 cl hbx
      unfold StepTo
      go_simp
      refine hK θ _ ?_ (fun _ _ _ => rfl)
      simp only [se, so 10 (by decide), so 11 (by decide), q11]
      unfold tsB at hJ2 ⊢
      simp only [Bool.false_eq_true, if_false, if_true] at hJ2 ⊢
      rw [List.set_append_left _ _ hil] at hJ2
      exact hJ2
  case done =>
    intro l θ a w2 hall hJ hR
    have ha := (hR.whole [some 7, some 8, some 9, some 10, some 11, some 12, some 13, some 14, some 15, some 16, some 17, some 18, some 19, some 20, some 21, none] rfl rfl (by kernel_rfl) hall).trans (b := _) (c := ⟨#[.pointer (some ⟨cb, 0, none⟩), .int .i64 (k : Int), .pointer (some ⟨ob, 0, none⟩), undef, undef, undef, .int .i64 0, .pointer (some ⟨cb, 0, none⟩), .int .i64 (k : Int), .pointer (some ⟨cb, 0, none⟩), .int .i64 (k : Int), .pointer (some ⟨cb, 0, none⟩), .pointer (some ⟨cb, 1, none⟩), .pointer (some ⟨cb, 1 + k, none⟩), .slice OA on oc, .slice OA on on, .pointer (some ⟨ob, 0, none⟩), .slice (some ⟨θ.1, 0, none⟩) 1 1, .slice θ.2.1 (on + 1) θ.2.2, .pointer (some ⟨cb, 0, none⟩), .pointer (some ⟨cb, 1, none⟩), .pointer (some ⟨cb, 1 + k, none⟩), undef, undef, undef, undef, undef, undef, undef], []⟩) (by kernel_rfl)
    subst ha
    simp only [hall 10 (by show 10 < 16; omega), hall 11 (by show 11 < 16; omega), hall 15 (by show 15 < 16; omega)] at hJ
    have HE := Lib.hid (hJ.pick (ts' := ts.set i (tBlk π cb (C.setIfInBounds (1 + k) (.slice θ.2.1 (on + 1) θ.2.2))) ++ [tAt ptrE θ.2.1 (on + 1) θ.2.2 (bs ++ [ob])]) (by unfold tsB; simp only [if_true]; exact (List.Sublist.refl _).append (.cons _ (List.Sublist.refl _))))
    have hbx : Box w2 cb (C.setIfInBounds (1 + k) (.slice θ.2.1 (on + 1) θ.2.2)) := HE.out.blk (i := i) (π := π) (by rw [List.getElem?_append_left (by simpa using hil), List.getElem?_set_self hil])
    have cb1 : w2.cell? ⟨cb, 1 + k, none⟩ = some (.slice θ.2.1 (on + 1) θ.2.2) := by rw [hbx.cell (1 + k), Array.getElem?_setIfInBounds_self_of_lt hcl]
    have fb := hbx.free; have zb := hbx.lt
    clear hR hall hJ hbx
    go_wp2
    go_ret
    exact ⟨θ.2.1, θ.2.2, rfl, HE.out⟩
end Go.Proofs.Ytdpamikobmefeaa
