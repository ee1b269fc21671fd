/- The lift of a law: where the call, with arguments that read as plain data, comes to true and turns no old memory, the row's step holds. Conditions: closed facts on the program. -/
import Derived.Test.YtdpamikobmefeaaGreatShape
import Derived.ProofKit
import Derived.ChangeOld
set_option linter.unusedVariables false
namespace Go.Proofs.YtdpamikobmefeaaGreat
open Go.RowKit Go.WideShapes Go.ChangeShapes

/-- A value reads as plain data. -/
def Sh.Val (w : World) (D : Nat → Prop) : (s : Sh) → Value → s.T → Prop
  | .st c, v, y => ∃ cs : List Value, v = .agg cs.toArray ∧ Sh.Rep w D c cs y
  | .int k, v, y => Sh.Rep w D (.int k) [v] y
  | .bool, v, y => Sh.Rep w D .bool [v] y
  | .str, v, y => Sh.Rep w D .str [v] y
  | .sl s b, v, y => Sh.Rep w D (.sl s b) [v] y
  | .unit, _, _ => False
  | .pair _ _, _, _ => False

section
variable {H : Type} {enc : TypeId × Value → H} {P : Program} {w : World}

theorem Sh.openVal {s : Sh} {t : TypeId} {r : Reach} {b0 : Nat} {v : Value} {d : DataW H} {ps : List MemPlace} (hf : Sh.fits P s t = true) (hv : Value.okWide P w r b0 t v)
    (h : DataW.Trod enc P w 0 (fun _ => true) true t v d ps) (hw : ∀ n ∈ d.weights P t, n ≤ reachBytes) : ∃ y : s.T, Sh.Val w (· < w.heap.size) s v y := by
  obtain ⟨fuel, hh⟩ := h
  obtain ⟨y, hy⟩ := Sh.open s t fuel v.cells.toList _ hf hh hw
  cases s with
  | st c =>
    unfold Sh.fits at hf
    split at hf
    · rename_i fs hu
      obtain ⟨cs, rfl, _⟩ := okWide_struct hu hv
      exact ⟨y, cs.toList, by simp, hy⟩
    · cases hf
  | int k =>
    unfold Sh.fits at hf
    split at hf
    · rename_i k' hu
      obtain ⟨n, rfl⟩ := okWide_int hu hv
      exact ⟨y, hy⟩
    · cases hf
  | bool =>
    unfold Sh.fits at hf
    split at hf
    · rename_i hu
      obtain ⟨n, rfl⟩ := okWide_bool hu hv
      exact ⟨y, hy⟩
    · cases hf
  | str =>
    unfold Sh.fits at hf
    split at hf
    · rename_i hu
      obtain ⟨n, rfl⟩ := okWide_string hu hv
      exact ⟨y, hy⟩
    · cases hf
  | sl s b =>
    unfold Sh.fits at hf
    split at hf
    · rename_i e hu
      obtain ⟨a, l, c, rfl⟩ := okWide_slice hu hv
      exact ⟨y, hy⟩
    · cases hf
  | unit => simp [Sh.fits] at hf
  | pair a b => simp [Sh.fits] at hf

theorem trodAll_stays (hl : laidOutB P = true) {W W' : World} (hb : Below W.heap.size W W') : ∀ {ts : List TypeId} {vs : List Value} {ds : List (DataW H)} {ps : List MemPlace},
    (∀ t ∈ ts, P.readableRec t = true ∧ t < P.types.size) → DataW.TrodAll enc P W 0 (fun _ => true) true ts vs ds ps → (∀ x ∈ ps, x.block < W.heap.size) →
    DataW.TrodAll enc P W' 0 (fun b => decide (b < W.heap.size)) true ts vs ds ps
  | [], [], [], ps, _, h, _ => h
  | t :: ts, v :: vs, d :: ds, ps, hr, h, hlt => by
    obtain ⟨p, q, h1, h2, rfl⟩ := h
    exact ⟨p, q, Below.trod hl (hr t (by simp)).1 (hr t (by simp)).2 h1 hb (fun x hx => hlt x (by simp [hx])), trodAll_stays hl hb (fun t ht => hr t (by simp [ht])) h2 (fun x hx => hlt x (by simp [hx])), rfl⟩
  | [], [], _ :: _, _, _, h, _ => h.elim
  | [], _ :: _, _, _, _, h, _ => h.elim
  | _ :: _, [], _, _, _, h, _ => h.elim
  | _ :: _, _ :: _, [], _, _, h, _ => h.elim

/-- The arguments read, one by one, as plain data. -/
def Sh.Args (w : World) (D : Nat → Prop) : List (Sh × TypeId) → List Value → Prop
  | [], vs => vs = []
  | (s, _) :: r, vs => ∃ v vs', vs = v :: vs' ∧ (∃ y : s.T, Sh.Val w D s v y) ∧ Sh.Args w D r vs'

theorem Sh.openArgs : ∀ {l : List (Sh × TypeId)} {vs : List Value} {ds : List (DataW H)} {ps : List MemPlace} {r : Reach} {b0 : Nat}, (l.all fun x => Sh.fits P x.1 x.2) = true →
    (∀ (j : Nat) t v, (l.map (·.2))[j]? = some t → vs[j]? = some v → Value.okWide P w r b0 t v) → DataW.TrodAll enc P w 0 (fun _ => true) true (l.map (·.2)) vs ds ps →
    (∀ n ∈ DataW.weightsEach P (l.map (·.2)) ds, n ≤ reachBytes) → Sh.Args w (· < w.heap.size) l vs
  | [], [], [], _, _, _, _, _, _, _ => rfl
  | (s, t) :: l, v :: vs, d :: ds, ps, r, b0, hf, hv, h, hw => by
    obtain ⟨p, q, h1, h2, rfl⟩ := h
    simp only [List.all_cons, Bool.and_eq_true] at hf
    simp only [List.map_cons, DataW.weightsEach, List.mem_append] at hw
    refine ⟨v, vs, rfl, Sh.openVal hf.1 (hv 0 t v rfl rfl) h1 (fun n hn => hw n (.inl hn)), Sh.openArgs hf.2 (fun j t v ht hj => hv (j + 1) t v (by simpa using ht) (by simpa using hj)) h2 (fun n hn => hw n (.inr hn))⟩
  | [], [], _ :: _, _, _, _, _, _, h, _ => h.elim
  | [], _ :: _, _, _, _, _, _, _, h, _ => h.elim
  | _ :: _, [], _, _, _, _, _, _, h, _ => h.elim
  | _ :: _, _ :: _, [], _, _, _, _, _, h, _ => h.elim

/-- THE LIFT OF A LAW. -/
theorem law_lift {C : Checked} {os : Os} {f : FuncId} {fn : Func} {s : ChangeSpec} {conds : List PathCond} {apart handsOn : Bool} (l : List (Sh × TypeId)) (tb : TypeId)
    (own : ownKnob C.prog.godebug = none) (started : os.Started) (noInit : C.prog.inits.idxOf? f = none) (hfn : C.prog.funcs[f]? = some fn)
    (witness : ∃ (w : World) (tape : Tape) (i : Input), w.os = os ∧ (w.forCall tape i).Shaped C.prog ∧ i.vars = [] ∧ Input.okWide C.prog (w.forCall tape i) .any w.heap.size f i ∧
      s.pre6 enc C.prog fn conds apart (w.forCall tape i).memory i.args ∧ ({} : Assume).holds C.prog (lone (Frame.enter C.prog f i.args .normal) [] (w.forCall tape i)))
    (hvars : s.vars = []) (hpar : fn.params.toList = l.map (·.2)) (hfit : (l.all fun x => Sh.fits C.prog x.1 x.2) = true) (hread : (l.all fun x => C.prog.readableRec x.2 && decide (x.2 < C.prog.types.size)) = true)
    (hl : laidOutB C.prog = true) (hres : fn.resultTypes = #[tb]) (htb : C.prog.underlying tb = some .bool)
    (hspec : ∀ ds : List (DataW H), ds.length = l.length → s.fn H ds = { results := [.lit (.bool true)], args := ds })
    (walk : ∀ (W : World) (vs : List Value), Sh.Args W (· < W.heap.size) l vs → Calls C.prog f vs.toArray W fun e W' => e = .returned (.bool true) ∧ Below W.heap.size W W') :
    ReturnsInHanded {} C os f .any (s.pre6 enc C.prog fn conds apart) (s.post enc C.prog fn apart true handsOn false) := by
  refine returnsInHanded_of_change_sized own started noInit hfn witness ?_
  intro W base args ds gs before hval hW _ hsz _
  have hW' := hW
  obtain ⟨p, q, hA, hV, rfl, hfz, hnd⟩ := hW
  rw [hvars] at hV
  obtain ⟨rfl, rfl⟩ := trodVars_none hV
  rw [hpar] at hA
  have hlen : ds.length = l.length := by
    clear hsz hval hW' hfz hnd walk hspec hread hfit hpar
    have key : ∀ (ts : List TypeId) (vs : List Value) (ds : List (DataW H)) (p : List MemPlace), DataW.TrodAll enc C.prog W 0 (fun _ => true) true ts vs ds p → ds.length = ts.length := by
      intro ts
      induction ts with
      | nil => intro vs ds p h; cases vs <;> cases ds <;> first | rfl | exact h.elim
      | cons t ts ih =>
        intro vs ds p h
        cases vs with
        | nil => exact h.elim
        | cons v vs =>
          cases ds with
          | nil => exact h.elim
          | cons d ds => obtain ⟨_, _, _, h2, _⟩ := h; simp [ih _ _ _ h2]
    simpa using key _ _ _ _ hA
  have hargs : args = args.toList.toArray := by simp
  have hwts : ∀ n ∈ DataW.weightsEach C.prog (l.map (·.2)) ds, n ≤ reachBytes := by
    intro n hn
    have h1 := List.all_eq_true.1 hsz
    have hvt : s.plain.varTypes C.prog = [] := by
      unfold DataSpec.varTypes ChangeSpec.plain
      simp [hvars]
    rw [hvt, hpar, List.append_nil, List.append_nil] at h1
    simpa using h1 n hn
  have hArgs : Sh.Args W (· < W.heap.size) l args.toList := Sh.openArgs hfit (fun j t v ht hj => hval j t v (by rw [← hpar] at ht; simpa using ht) (by simpa using hj)) hA hwts
  rw [hargs]
  refine (walk W args.toList hArgs).mono fun e W' ⟨he, bel⟩ => ?_
  subst he
  have hs := hspec (ds ++ []) (by simpa using hlen)
  have hlt := hW'.lt
  refine ⟨_, rfl, ds, [], p ++ [], [], p, [], by rw [← hargs]; exact hW', ?_, ?_, ?_, bel.frame _, fun h => by cases h⟩
  · rw [hs, hres]; exact trodAll_mk1 (shut_bool htb true)
  · rw [hs, hpar]
    simp only [List.append_nil]
    have := trodAll_stays hl bel (fun t ht => by
      obtain ⟨x, hx, rfl⟩ := List.mem_map.1 ht
      have := List.all_eq_true.1 hread x hx
      simpa using this) hA (fun x hx => hlt x (by simp [hx]))
    simpa using this
  · rw [hs, hvars]; rfl
end
end Go.Proofs.YtdpamikobmefeaaGreat
