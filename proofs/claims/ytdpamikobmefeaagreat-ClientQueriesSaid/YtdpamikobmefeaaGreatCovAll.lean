/- What is covered of a span: the plain law. Conditions: none. | Runs as elements; circle.Runs. Conditions: none. | circle.Others, circle.Spans. Conditions: the runs read so. | slices.Insert of one run. Conditions: the row is one's own. | The cover: New, Left, Whole, Gaps. Conditions: it is one. | The cover: add, Add. Conditions: it is one. | The cover: Add. Conditions: it is one. -/
import Derived.Test.YtdpamikobmefeaaGreatCircle
import Derived.Test.YtdpamikobmefeaaGreatCliQ
import Derived.BigQuiet
import Derived.Deep.RegionHeld3
import Derived.Test.YtdpamikobmefeaaGreatInsertC
import Derived.Deep.RegionWith
namespace Go.Proofs.YtdpamikobmefeaaGreat
set_option linter.unusedVariables false
set_option linter.unusedSimpArgs false

structure Run where
  a : Int
  b : Int
def Run.ok (size : Int) (x : Run) : Prop := 0 ≤ x.a ∧ x.a < x.b ∧ x.b ≤ size
/-- Runs that rise, and do not lie over each other. -/
def RunsOk (size : Int) (l : List Run) : Prop := l.Pairwise (fun x y => x.b ≤ y.a) ∧ ∀ x ∈ l, x.ok size
theorem RunsOk.nil (size : Int) : RunsOk size [] := ⟨List.Pairwise.nil, fun x h => by cases h⟩
def sumR : List Run → Int
  | [] => 0
  | x :: t => x.b - x.a + sumR t
theorem sumR_append (l m : List Run) : sumR (l ++ m) = sumR l + sumR m := by
  induction l with
  | nil => simp [sumR]
  | cons x t ih => simp [sumR, ih]; omega
/-- One step of what is not in some runs. -/
def stepO (s : List Run × Int) (r : Run) : List Run × Int := (if s.2 < r.a then s.1 ++ [⟨s.2, r.a⟩] else s.1, r.b)
def othersF (l : List Run) (size : Int) : List Run := ((l ++ [(⟨size, size⟩ : Run)]).foldl stepO ([], 0)).1
theorem foldl_take {α β : Type} (f : β → α → β) (z : β) {l : List α} {k : Nat} {x : α} (h : l[k]? = some x) : (l.take (k + 1)).foldl f z = f ((l.take k).foldl f z) x := by
  rw [List.take_add_one, h, List.foldl_append]; rfl
theorem others_sum (size : Int) : ∀ (l : List Run) (out : List Run) (z : Int), l.Pairwise (fun x y => x.b ≤ y.a) → (∀ x ∈ l, z ≤ x.a ∧ x.ok size) → z ≤ size → (∀ x ∈ out, x.a < x.b) →
    sumR ((l ++ [(⟨size, size⟩ : Run)]).foldl stepO (out, z)).1 = sumR out + (size - z - sumR l) ∧ (∀ x ∈ ((l ++ [(⟨size, size⟩ : Run)]).foldl stepO (out, z)).1, x.a < x.b)
  | [], out, z, _, _, hz, ho => by
    simp only [List.nil_append, List.foldl_cons, List.foldl_nil, stepO]
    split
    · rename_i h
      refine ⟨by rw [sumR_append]; simp [sumR], fun x hx => ?_⟩
      rcases List.mem_append.1 hx with hx | hx
      · exact ho x hx
      · simp only [List.mem_singleton] at hx; subst hx; exact h
    · refine ⟨by simp [sumR]; omega, ho⟩
  | y :: t, out, z, hp, hk, hz, ho => by
    have hy := hk y (by simp)
    obtain ⟨h1, h2, h3, h4⟩ := hy
    rw [List.pairwise_cons] at hp
    have ht : ∀ x ∈ t, y.b ≤ x.a ∧ x.ok size := fun x hx => ⟨hp.1 x hx, (hk x (by simp [hx])).2⟩
    rw [List.cons_append, List.foldl_cons]
    unfold stepO
    split
    · rename_i h
      have h := (show z < y.a from h)
      have q := others_sum size t (out ++ [⟨z, y.a⟩]) y.b hp.2 ht h4 (fun x hx => by
        rcases List.mem_append.1 hx with hx | hx
        · exact ho x hx
        · simp only [List.mem_singleton] at hx; subst hx; exact h)
      refine ⟨?_, q.2⟩
      have q1 := q.1
      rw [sumR_append] at q1
      simp only [sumR] at q1 ⊢
      unfold stepO at q1
      omega
    · rename_i h
      have h := (show ¬ z < y.a from h)
      have q := others_sum size t out y.b hp.2 ht h4 ho
      refine ⟨?_, q.2⟩
      have q1 := q.1
      simp only [sumR] at q1 ⊢
      unfold stepO at q1
      omega
theorem sumR_pos {l : List Run} (h : ∀ x ∈ l, x.a < x.b) : 0 ≤ sumR l ∧ (sumR l = 0 → l = []) := by
  induction l with
  | nil => exact ⟨by simp [sumR], fun _ => rfl⟩
  | cons x t ih =>
    have h1 := h x (by simp)
    have h2 := ih fun y hy => h y (by simp [hy])
    simp only [sumR]
    exact ⟨by omega, fun e => by omega⟩
/-- What is left is what is in no run; there is none just where there are no gaps. -/
theorem left_gaps {size : Int} {l : List Run} (h : RunsOk size l) (hs : 0 ≤ size) : 0 ≤ size - sumR l ∧ (size - sumR l = 0 ↔ othersF l size = []) := by
  have q := others_sum size l [] 0 h.1 (fun x hx => ⟨(h.2 x hx).1, h.2 x hx⟩) hs (fun x hx => by cases hx)
  have p := sumR_pos q.2
  have e := q.1
  simp only [sumR] at e
  unfold othersF
  refine ⟨by omega, fun hz => p.2 (by omega), fun hn => ?_⟩
  rw [hn] at e
  simp only [sumR] at e
  omega
theorem RunsOk.part {size : Int} {l : List Run} (h : RunsOk size l) (k : Nat) : RunsOk size (l.take k) := ⟨h.1.sublist (List.take_sublist _ _), fun x hx => h.2 x (List.mem_of_mem_take hx)⟩
theorem left_range {size : Int} {l : List Run} (h : RunsOk size l) (hs : 0 ≤ size) (k : Nat) : 0 ≤ sumR (l.take k) ∧ sumR (l.take k) ≤ size := by
  have := (left_gaps (h.part k) hs).1
  have p := sumR_pos (l := l.take k) fun x hx => (h.2 x (List.mem_of_mem_take hx)).2.1
  omega
theorem sumR_take {l : List Run} {k : Nat} {x : Run} (h : l[k]? = some x) : sumR (l.take (k + 1)) = sumR (l.take k) + (x.b - x.a) := by
  rw [List.take_add_one, h, sumR_append]; simp [sumR]
/-- One step of covering a run. -/
def stepC (s : List Run × Run) (x : Run) : List Run × Run := if (decide (x.b < s.2.a) || decide (s.2.b < x.a)) = true then (s.1 ++ [x], s.2) else (s.1, ⟨min s.2.a x.a, max s.2.b x.b⟩)
def spotC (out : List Run) (r : Run) : Nat := (out.takeWhile fun x => decide (x.a < r.a)).length
def putC (s : List Run × Run) : List Run := s.1.take (spotC s.1 s.2) ++ s.2 :: s.1.drop (spotC s.1 s.2)
def addC (l : List Run) (r : Run) : List Run := putC (l.foldl stepC ([], r))
def addsC (l : List Run) (rs : List Run) : List Run := rs.foldl addC l
theorem stepC_inv (size : Int) : ∀ (l out : List Run) (r : Run), RunsOk size (out ++ l) → r.ok size → (∀ x ∈ out, x.b ≤ r.a ∨ r.b < x.a) →
    RunsOk size (l.foldl stepC (out, r)).1 ∧ (l.foldl stepC (out, r)).2.ok size ∧ ∀ x ∈ (l.foldl stepC (out, r)).1, x.b ≤ (l.foldl stepC (out, r)).2.a ∨ (l.foldl stepC (out, r)).2.b < x.a
  | [], out, r, h, hr, hx => by rw [List.append_nil] at h; exact ⟨h, hr, hx⟩
  | y :: t, out, r, h, hr, hx => by
    rw [List.foldl_cons]
    have hy := h.2 y (by simp)
    unfold stepC
    split
    · rename_i hc
      simp only [Bool.or_eq_true, decide_eq_true_eq] at hc
      refine stepC_inv size t (out ++ [y]) r (by rw [List.append_assoc]; exact h) hr fun x hx' => ?_
      rcases List.mem_append.1 hx' with hx' | hx'
      · exact hx x hx'
      · simp only [List.mem_singleton] at hx'; subst hx'; omega
    · rename_i hc
      simp only [Bool.or_eq_true, decide_eq_true_eq, not_or] at hc
      have hp := List.pairwise_append.1 h.1
      refine stepC_inv size t out _ ⟨h.1.sublist (List.Sublist.append (List.Sublist.refl _) (.cons _ (List.Sublist.refl _))), fun x hx' => h.2 x (by
        rcases List.mem_append.1 hx' with hx' | hx'
        · simp [hx']
        · simp [hx'])⟩ ?_ fun x hx' => ?_
      · obtain ⟨a1, a2, a3⟩ := hr
        obtain ⟨b1, b2, b3⟩ := hy
        refine ⟨?_, ?_, ?_⟩
        · show 0 ≤ min r.a y.a
          omega
        · show min r.a y.a < max r.b y.b
          omega
        · show max r.b y.b ≤ size
          omega
      · have h1 := hp.2.2 x hx' y (by simp)
        have h2 := (h.2 x (by simp [hx'])).2.1
        show x.b ≤ min r.a y.a ∨ max r.b y.b < x.a
        rcases hx x hx' with hh | hh
        · left; omega
        · omega
theorem putC_ok {size : Int} {out : List Run} {r : Run} (h : RunsOk size out) (hr : r.ok size) (hx : ∀ x ∈ out, x.b ≤ r.a ∨ r.b < x.a) : RunsOk size (putC (out, r)) := by
  have ht : out.take (spotC out r) = out.takeWhile (fun x => decide (x.a < r.a)) := by
    unfold spotC
    conv => lhs; rw [← List.takeWhile_append_dropWhile (p := fun x => decide (x.a < r.a)) (l := out)]
    rw [show (List.takeWhile (fun x => decide (x.a < r.a)) (List.takeWhile (fun x => decide (x.a < r.a)) out ++ List.dropWhile (fun x => decide (x.a < r.a)) out)).length = (List.takeWhile (fun x => decide (x.a < r.a)) out).length by rw [List.takeWhile_append_dropWhile]]
    exact List.take_left' rfl
  have hd : out.drop (spotC out r) = out.dropWhile (fun x => decide (x.a < r.a)) := by
    unfold spotC
    conv => lhs; rw [← List.takeWhile_append_dropWhile (p := fun x => decide (x.a < r.a)) (l := out)]
    rw [show (List.takeWhile (fun x => decide (x.a < r.a)) (List.takeWhile (fun x => decide (x.a < r.a)) out ++ List.dropWhile (fun x => decide (x.a < r.a)) out)).length = (List.takeWhile (fun x => decide (x.a < r.a)) out).length by rw [List.takeWhile_append_dropWhile]]
    exact List.drop_left' rfl
  have hp := h.1
  rw [← List.takeWhile_append_dropWhile (p := fun x => decide (x.a < r.a)) (l := out)] at hp
  obtain ⟨p1, p2, p3⟩ := List.pairwise_append.1 hp
  have m1 : ∀ x ∈ out.takeWhile (fun x => decide (x.a < r.a)), x ∈ out ∧ x.a < r.a := fun x hx' => ⟨(List.takeWhile_sublist _).subset hx', by
    have := List.all_eq_true.1 (List.all_takeWhile (p := fun x : Run => decide (x.a < r.a)) (l := out)) x hx'
    simpa using this⟩
  have m2 : ∀ x ∈ out.dropWhile (fun x => decide (x.a < r.a)), x ∈ out ∧ r.a ≤ x.a := fun x hx' => by
    refine ⟨(List.dropWhile_sublist _).subset hx', ?_⟩
    cases hdw : out.dropWhile (fun x => decide (x.a < r.a)) with
    | nil => rw [hdw] at hx'; cases hx'
    | cons d t =>
      have hd0 : ¬ d.a < r.a := by
        have := List.head_dropWhile_not (fun x : Run => decide (x.a < r.a)) (l := out) (by rw [hdw]; simp)
        simpa [hdw] using this
      rw [hdw] at hx' p2
      rcases List.mem_cons.1 hx' with rfl | hx2
      · omega
      · have := (List.pairwise_cons.1 p2).1 x hx2
        have hok := (h.2 d ((List.dropWhile_sublist _).subset (by rw [hdw]; simp))).2.1
        omega
  unfold putC
  show RunsOk size (out.take (spotC out r) ++ r :: out.drop (spotC out r))
  rw [ht, hd]
  refine ⟨?_, fun x hx' => ?_⟩
  · rw [List.pairwise_append]
    refine ⟨p1, ?_, fun x hx1 y hy => ?_⟩
    · rw [List.pairwise_cons]
      refine ⟨fun y hy => ?_, p2⟩
      obtain ⟨q1, q2⟩ := m2 y hy
      have hok := (h.2 y q1).2.1
      rcases hx y q1 with hh | hh
      · omega
      · omega
    · obtain ⟨q1, q2⟩ := m1 x hx1
      rcases List.mem_cons.1 hy with rfl | hy
      · obtain ⟨_, _, _⟩ := hr
        rcases hx x q1 with hh | hh
        · exact hh
        · omega
      · exact p3 x hx1 y hy
  · rcases List.mem_append.1 hx' with hx' | hx'
    · exact h.2 x (m1 x hx').1
    · rcases List.mem_cons.1 hx' with rfl | hx'
      · exact hr
      · exact h.2 x (m2 x hx').1
theorem addC_ok {size : Int} {l : List Run} {r : Run} (h : RunsOk size l) (hr : r.ok size) : RunsOk size (addC l r) := by
  obtain ⟨h1, h2, h3⟩ := stepC_inv size l [] r h hr (fun x hx => by cases hx)
  exact putC_ok h1 h2 h3
theorem addsC_ok {size : Int} : ∀ {rs l : List Run}, RunsOk size l → (∀ r ∈ rs, r.ok size) → RunsOk size (addsC l rs)
  | [], l, h, _ => h
  | r :: rs, l, h, hr => addsC_ok (rs := rs) (l := addC l r) (addC_ok h (hr r (by simp))) fun x hx => hr x (by simp [hx])
theorem stepC_len : ∀ (l out : List Run) (r : Run), (l.foldl stepC (out, r)).1.length ≤ out.length + l.length
  | [], out, r => by simp
  | y :: t, out, r => by
    rw [List.foldl_cons]
    unfold stepC
    split
    · have := stepC_len t (out ++ [y]) r
      simp only [List.length_append, List.length_cons, List.length_nil] at this ⊢
      unfold stepC at this
      omega
    · have := stepC_len t out ⟨min r.a y.a, max r.b y.b⟩
      simp only [List.length_cons] at this ⊢
      unfold stepC at this
      omega
theorem addC_len (l : List Run) (r : Run) : (addC l r).length ≤ l.length + 1 := by
  have := stepC_len l [] r
  unfold addC putC
  simp only [List.length_append, List.length_cons, List.length_take, List.length_drop, List.length_nil] at this ⊢
  omega
/-- Where the values of a span stand, in steps behind another one's beginning. -/
def runsF (size z e : Int) : List Run :=
  let l := (if 4294967296 < e then [(⟨0, min (e - 4294967296) size⟩ : Run)] else []) ++ (if z < size then [⟨z, min (min e 4294967296) size⟩] else [])
  match l with
  | [x, y] => if y.a ≤ x.b then [⟨0, y.b⟩] else l
  | _ => l
theorem runsF_ok {size z e : Int} (h1 : 1 ≤ size) (h2 : size ≤ 4294967296) (h3 : 0 ≤ z) (h4 : z < 4294967296) (h5 : z < e) : ∀ r ∈ runsF size z e, r.ok size := by
  intro r hr
  unfold runsF at hr
  by_cases c1 : 4294967296 < e <;> by_cases c2 : z < size
  · simp only [c1, c2, if_true, List.cons_append, List.nil_append] at hr
    split at hr
    · simp only [List.mem_singleton] at hr; subst hr
      refine ⟨?_, ?_, ?_⟩ <;> simp only <;> omega
    · simp only [List.mem_cons, List.not_mem_nil, or_false] at hr
      rcases hr with rfl | rfl
      all_goals refine ⟨?_, ?_, ?_⟩ <;> simp only <;> omega
  · simp only [c1, c2, if_true, if_false, List.cons_append, List.nil_append, List.mem_singleton] at hr
    subst hr
    refine ⟨?_, ?_, ?_⟩ <;> simp only <;> omega
  · simp only [c1, c2, if_true, if_false, List.nil_append, List.mem_singleton] at hr
    subst hr
    refine ⟨?_, ?_, ?_⟩ <;> simp only <;> omega
  · simp only [c1, c2, if_false, List.nil_append] at hr
    cases hr
theorem runsF_len (size z e : Int) : (runsF size z e).length ≤ 2 := by
  unfold runsF
  by_cases c1 : 4294967296 < e <;> by_cases c2 : z < size <;> simp only [c1, c2, if_true, if_false, List.cons_append, List.nil_append]
  · split <;> simp
  all_goals simp
end Go.Proofs.YtdpamikobmefeaaGreat

namespace Go.Proofs.YtdpamikobmefeaaGreat
open Go.RowKit Go.ChangeShapes
set_option maxRecDepth 100000
set_option linter.unusedVariables false
set_option linter.unusedSimpArgs false

theorem run_infoE : ∃ i : TypeInfo, Tryz.prog.info? 156 = some i ∧ i.zero = some (.agg #[.int .u64 0, .int .u64 0]) ∧ i.size = 2 ∧ i.bytes = 16 := by
  obtain ⟨j0, jii, jz0, jz1, jz2⟩ := info_parts (show (Tryz.prog.info? 156).map (fun i => (i.zero, i.size, i.bytes)) = some (some (.agg #[.int .u64 0, .int .u64 0]), 2, 16) by kernel_rfl)
  exact ⟨j0, jii, jz0, jz1, jz2⟩
def encRun (x : Run) : List Value := [.int .u64 x.a, .int .u64 x.b]
def runE : Elt Tryz.prog Run where
  T := 156
  ST := 141
  k := 2
  bytes := 16
  zero := .agg #[.int .u64 0, .int .u64 0]
  rd := fun w D cs x => cs = encRun x
  pos := by omega
  len := fun h => by rw [h]; rfl
  one := fun h u hu => by subst h; simp only [encRun, List.mem_cons, List.not_mem_nil, or_false] at hu; rcases hu with rfl | rfl <;> rfl
  move := fun h _ => h
  und := Tryz.underlying141
  info := run_infoE
  zlen := rfl
  blim := by omega
theorem run_cell {w : World} {D : Nat → Prop} {A : Option Addr} {n cap i : Nat} {l : List Run} (h : runE.At w D A n cap l) (hi : i < n) : ∃ (b off : Nat) (x : Run), A = some ⟨b, off, none⟩ ∧ D b ∧ l[i]? = some x ∧ w.cell? ⟨b, off + i * 2, none⟩ = some (.int .u64 x.a) ∧ w.cell? ⟨b, off + i * 2 + 1, none⟩ = some (.int .u64 x.b) := by
  obtain ⟨h1, h2, h3, h4, h5⟩ := h
  obtain ⟨b, off, rfl, hd, hc⟩ := h5 (by omega)
  obtain ⟨x, hx⟩ : ∃ x, l[i]? = some x := ⟨_, List.getElem?_eq_getElem (by omega)⟩
  obtain ⟨cs, q0, rfl⟩ := hc i x hx
  exact ⟨b, off, x, rfl, hd, hx, q0 0 _ rfl, q0 1 _ rfl⟩
/-- A row of one's own whose elements are flat lies in a block that was made since. -/
theorem Sta.rowFresh {α : Type} {E : Elt Tryz.prog α} {W w : World} {ts : List Thing} {i : Nat} {π : List Int} {A : Option Addr} {n cap : Nat} {l : List α} (h : Sta W ts w) (hi : ts[i]? = some (tRow E π (.slice A n cap) l)) (hπ : π ≠ []) (hflat : ∀ (w w' : World) (D D' : Nat → Prop) cs x, E.rd w D cs x → E.rd w' D' cs x) : E.At w (W.heap.size ≤ ·) A n cap l := by
  obtain ⟨c, h⟩ := h
  have hr : E.Row c π w (.slice A n cap) l := h.get hi
  obtain ⟨A', cap', hv, h1, h2, h3, h4⟩ := hr.shape
  injection hv with hA hn hc
  subst hA hn hc
  refine ⟨rfl, h1, h2, (fun e => (h3 e).2), fun hn => ?_⟩
  cases A with
  | none => have := (h3 rfl).1; omega
  | some ad =>
    obtain ⟨g, rfl, hg, hlt⟩ := h4 ad rfl
    refine ⟨g, 0, rfl, ?_, fun j x hx => ?_⟩
    · rcases Nat.lt_or_ge g W.heap.size with hh | hh
      · have := h.stp.col g hh
        rw [hg] at this
        exact absurd this hπ
      · exact hh
    · obtain ⟨cs, hc, hrd⟩ := hr.cells hx
      exact ⟨cs, fun t u hu => by rw [Nat.zero_add]; exact hc t u hu, hflat _ _ _ _ _ _ hrd⟩
theorem Elt.At.keepNew {α : Type} {E : Elt Tryz.prog α} {w1 w2 : World} {B : Nat} {A : Option Addr} {n c : Nat} {l : List α} (h : E.At w1 (B ≤ ·) A n c l) (hb : Below w1.heap.size w1 w2) : E.At w2 (B ≤ ·) A n c l := h.move fun b hb' hlt => ⟨hb.block b hlt, hb'⟩
theorem runE_flat : ∀ (w w' : World) (D D' : Nat → Prop) cs x, runE.rd w D cs x → runE.rd w' D' cs x := fun _ _ _ _ _ _ h => h
theorem size_pos {a b : Int} (ha : U32 a) (hb : U32 b) : 1 ≤ sizeF a b := by
  obtain ⟨a1, a2⟩ := ha
  obtain ⟨b1, b2⟩ := hb
  unfold sizeF farF
  split <;> omega
theorem run_min3 (ts : Array TypeId) (t : TypeId) (k k' k'' : IntKind) (x y z : Int) (w : World) : (Builtin.min_ ts t #[.int k x, .int k' y, .int k'' z]).run Tryz.prog w = .ok (.int k (min (min x y) z)) w := by
  have e : (if z < (if y < x then y else x) then z else (if y < x then y else x)) = min (min x y) z := by
    split <;> split <;> omega
  rw [← e]
  simp [Builtin.min_, Builtin.min2]
theorem runsF_both {size z e : Int} (c1 : 4294967296 < e) (c2 : z < size) : runsF size z e = if z ≤ min (e - 4294967296) size then [⟨0, min (min e 4294967296) size⟩] else [⟨0, min (e - 4294967296) size⟩, ⟨z, min (min e 4294967296) size⟩] := by
  unfold runsF
  simp only [c1, c2, if_true, List.cons_append, List.nil_append]
theorem runsF_one {size z e : Int} (c1 : 4294967296 < e) (c2 : ¬ z < size) : runsF size z e = [⟨0, min (e - 4294967296) size⟩] := by
  unfold runsF
  simp only [c1, c2, if_true, if_false, List.append_nil]
theorem runsF_two {size z e : Int} (c1 : ¬ 4294967296 < e) (c2 : z < size) : runsF size z e = [⟨z, min (min e 4294967296) size⟩] := by
  unfold runsF
  simp only [c1, c2, if_true, if_false, List.nil_append]
theorem runsF_no {size z e : Int} (c1 : ¬ 4294967296 < e) (c2 : ¬ z < size) : runsF size z e = [] := by
  unfold runsF
  simp only [c1, c2, if_false, List.nil_append]
set_option maxHeartbeats 8000000 in
theorem runs_new {w : World} {a1 a2 b1 b2 : Int} (ha1 : U32 a1) (ha2 : U32 a2) (hb1 : U32 b1) (hb2 : U32 b2) :
    Calls Tryz.prog 107 #[.agg #[.int .u32 a1, .int .u32 a2], .agg #[.int .u32 b1, .int .u32 b2]] w fun e w' => ∃ A n c, e = .returned (.slice A n c) ∧ runE.At w' (w.heap.size ≤ ·) A n c (runsF (sizeF a1 a2) (farF a1 b1) (farF a1 b1 + sizeF b1 b2)) ∧ Below w.heap.size w w' := by
  obtain ⟨W, hW⟩ : ∃ W, W = w := ⟨_, rfl⟩
  obtain ⟨ts, hts⟩ : ∃ ts : List Thing, ts = [] := ⟨_, rfl⟩
  have h : Sta W ts w := by subst hW hts; exact Sta.start _
  have ho : ∀ x ∈ ts, x.π ≠ [15] := by subst hts; simp
  have HW := Lib.hid hW
  clear hW hts
  obtain ⟨sz, hsz⟩ : ∃ sz, sizeF a1 a2 = sz := ⟨_, rfl⟩
  obtain ⟨z, hz⟩ : ∃ z, farF a1 b1 = z := ⟨_, rfl⟩
  obtain ⟨sb, hsb⟩ : ∃ sb, sizeF b1 b2 = sb := ⟨_, rfl⟩
  have q1 := size_pos ha1 ha2
  have q2 := (size_bd a1 a2).2
  have q3 := far_bd a1 b1
  have q4 := size_pos hb1 hb2
  have q5 := (size_bd b1 b2).2
  have HSZ := Lib.hid (size_any a1 a2)
  have HFR := Lib.hid (far_any a1 b1)
  have HSB := Lib.hid (size_any b1 b2)
  rw [hsz] at q1 q2 HSZ ⊢
  rw [hz] at q3 HFR ⊢
  rw [hsb] at q4 q5 HSB ⊢
  clear hsz hz hsb
  have hw : IntKind.u64.wrap (z + sb) = z + sb := by simp [IntKind.wrap, IntKind.bits, IntKind.signed]; omega
  obtain ⟨en, hen⟩ : ∃ en, z + sb = en := ⟨_, rfl⟩
  have hw1 : IntKind.u64.wrap (z + sb) = en := hw.trans hen
  rw [hen] at hw ⊢
  have hen2 : z < en := by omega
  have hen3 : en ≤ 8589934592 := by omega
  have hwz : IntKind.u64.wrap z = z := by simp [IntKind.wrap, IntKind.bits, IntKind.signed]; omega
  have hw2 : 4294967296 < en → IntKind.u64.wrap (en - 4294967296) = en - 4294967296 := fun hh => by simp [IntKind.wrap, IntKind.bits, IntKind.signed]; omega
  have HW2 := Lib.hid hw2
  have HS := Lib.hid (h.rowNil runE [15] (by simp) ho)
  have HEN := Lib.hid hen
  clear h hw2
  go_enter Tryz.func107, Tryz.ntmps107
  go_upto_region 1 with fail
  refine wp_abs (fun wx => Sta W (ts ++ [tRow runE [15] (.slice none 0 0) [], tBox w.heap.size #[.int .u32 a1, .int .u32 a2], tBox (w.heap.size + 1) #[.int .u32 b1, .int .u32 b2]]) wx) ?_ ?_
  · have s2 := (HS.out.addBox #[.int .u32 a1, .int .u32 a2] 56).addBox #[.int .u32 b1, .int .u32 b2] 56
    rw [size_alloc] at s2
    simpa [List.append_assoc] using s2
  generalize w.heap.size + 1 = pb
  generalize w.heap.size = pa
  intro wx hsx
  have S1 := Lib.hid hsx
  have HL : ∀ (j : Nat) (t : Thing) (l : List Thing), l[j]? = some t → (ts ++ l)[ts.length + j]? = some t := fun j t l h => by rw [List.getElem?_append_right (by omega), show ts.length + j - ts.length = j by omega]; exact h
  have hl := Lib.hid HL
  clear HS hsx HL
  have hA := S1.out.box (hl.out 1 _ _ rfl)
  have hB := S1.out.box (hl.out 2 _ _ rfl)
  have a0 : wx.cell? ⟨pa, 0, none⟩ = some (.int .u32 a1) := hA.cell 0
  have a1' : wx.cell? ⟨pa, 1, none⟩ = some (.int .u32 a2) := hA.cell 1
  have b0 : wx.cell? ⟨pb, 0, none⟩ = some (.int .u32 b1) := hB.cell 0
  have b1' : wx.cell? ⟨pb, 1, none⟩ = some (.int .u32 b2) := hB.cell 1
  have za := hA.lt; have zb := hB.lt
  clear hA hB
  go_region_held3 (fun w' => Same wx w') (with_reducible (first | assumption | exact Same.drew _))
    (first
      | (go_at_call 69; (with_reducible refine (HSZ.out _).mono ?_); rintro e1 w1 ⟨rfl, hb1'⟩; have S2 := Same.step (show Same wx _ by (with_reducible (first | assumption | exact Same.drew _))) hb1'; clear hb1')
      | (go_at_call 97; (with_reducible refine (HFR.out _).mono ?_); rintro e2 w2 ⟨rfl, rfl⟩))
  rename_i hq0
  clear hq0
  have S3 := Lib.hid (S1.out.later S2.1)
  have b0 : w1.cell? ⟨pb, 0, none⟩ = some (.int .u32 b1) := (S3.out.box (hl.out 2 _ _ rfl)).cell 0
  have b1' : w1.cell? ⟨pb, 1, none⟩ = some (.int .u32 b2) := (S3.out.box (hl.out 2 _ _ rfl)).cell 1
  have zb := (S3.out.box (hl.out 2 _ _ rfl)).lt
  clear S1 S2 a0 a1' za
  go_upto_region 4 with (go_at_call 69; (with_reducible refine (HSB.out _).mono ?_); rintro e1 w4 ⟨rfl, hb4⟩; have S4 := Lib.hid (S3.out.later hb4); clear hb4)
  clear S3 b0 b1' zb
  obtain ⟨r1, hr1⟩ : ∃ r1, min (en - 4294967296) sz = r1 := ⟨_, rfl⟩
  obtain ⟨r2, hr2⟩ : ∃ r2, min (min en 4294967296) sz = r2 := ⟨_, rfl⟩
  have hm3 := run_min3
  by_cases c1 : 4294967296 < en
  · have hw2 := HW2.out c1
    go_upto_region 6 with (at_builtin; go_loud (refine Sta.wpList_push (E := runE) (r := ⟨0, r1⟩) ts.length rfl _ _ rfl (.slice none 0 0) rfl S4.out (hl.out 0 _ _ rfl) (by simp) rfl (fun c h => rfl) (by simp) ?_; intro B7 c7p w7 st7; have S7 := Lib.hid (show Sta W (ts ++ [tRow runE [15] (.slice B7 1 c7p) [⟨0, r1⟩], tBox pa #[.int .u32 a1, .int .u32 a2], tBox pb #[.int .u32 b1, .int .u32 b2]]) w7 from by rw [List.set_append_right _ _ (Nat.le_refl _), Nat.sub_self] at st7; exact st7); clear st7))
    by_cases c2 : z < sz
    · go_upto_region 8 with (at_builtin; go_loud (refine Sta.wpList_push (E := runE) (r := ⟨z, r2⟩) ts.length rfl _ _ rfl (.slice B7 1 c7p) rfl S7.out (hl.out 0 _ _ rfl) (by simp) rfl (fun c h => rfl) (by simp) ?_; intro B8 c8p w8 st8; have S8 := Lib.hid (show Sta W (ts ++ [tRow runE [15] (.slice B8 2 c8p) [⟨0, r1⟩, ⟨z, r2⟩], tBox pa #[.int .u32 a1, .int .u32 a2], tBox pb #[.int .u32 b1, .int .u32 b2]]) w8 from by rw [List.set_append_right _ _ (Nat.le_refl _), Nat.sub_self] at st8; exact st8); clear st8))
      have RN := Lib.hid (S8.out.rowFresh (hl.out 0 _ _ rfl) (by simp) runE_flat)
      have S9 := Lib.hid (show Sta W (ts ++ [tAt runE B8 2 c8p [⟨0, r1⟩, ⟨z, r2⟩], tBox pa #[.int .u32 a1, .int .u32 a2], tBox pb #[.int .u32 b1, .int .u32 b2]]) w8 from S8.out.freeze (i := ts.length) (E := runE) (hl.out 0 _ _ rfl) (by simp) (by rw [List.set_append_right _ _ (Nat.le_refl _), Nat.sub_self]; rfl))
      have hat := S9.out.at (E := runE) (hl.out 0 _ _ rfl)
      obtain ⟨g, o, x1, rfl, zg, hx1, d0, d1⟩ := run_cell hat (show 0 < 2 by omega)
      obtain ⟨g', o', x2, he, -, hx2, d2, d3⟩ := run_cell hat (show 1 < 2 by omega)
      injection he with he
      injection he with he he2
      subst he he2
      obtain rfl := Option.some.inj hx1
      obtain rfl := Option.some.inj hx2
      have zg : g < w8.heap.size := zg
      have d1 : w8.cell? ⟨g, o + 1, none⟩ = some (.int .u64 r1) := by rw [Nat.zero_mul, Nat.add_zero] at d1; exact d1
      have d2 : w8.cell? ⟨g, o + 2, none⟩ = some (.int .u64 z) := by rw [Nat.one_mul] at d2; exact d2
      have d3 : w8.cell? ⟨g, o + 2 + 1, none⟩ = some (.int .u64 r2) := by rw [Nat.one_mul] at d3; exact d3
      have HR := Lib.hid (runsF_both c1 c2)
      rw [hr1, hr2] at HR
      have HR1 := Lib.hid hr1; have HR2 := Lib.hid hr2
      clear hat hx1 hx2 d0 S8 S7 S4 hr1 hr2
      by_cases c3 : z ≤ r1
      · rw [if_pos c3] at HR
        go_quiet (fail)
        go_wp2
        go_ret
        rw [HR.out]
        have e0 := (S9.out.later (show Below w8.heap.size w8 _ from belowN (Below.refl _ _) nq)).end
        have sA := (S9.out.later (show Below w8.heap.size w8 _ from belowN (Below.refl _ _) nq)).addBox #[.int .u64 0, .int .u64 r2] 156
        have e1 := sA.end
        rw [HW.out] at e0 e1
        exact ⟨_, 1, 1, rfl, Elt.At.one (E := runE) (x := ⟨0, r2⟩) (Box.new _ _ _) e0.size rfl, e1⟩
      · rw [if_neg c3] at HR
        go_quiet (fail)
        go_wp2
        go_ret
        rw [HR.out]
        have e1 := S9.out.end
        rw [HW.out] at e1 RN
        exact ⟨_, 2, c8p, rfl, RN.out.keepNew (by repeat (first | exact Below.refl _ _ | assumption | apply Below.drew | apply belowN | (refine Below.alloc ?_ (by first | exact Nat.le_refl _ | (simp; done) | (simp; omega)) _) | (refine Below.setCell ?_ (by first | exact Nat.le_refl _ | (simp; done) | (simp; omega)) _))), below_from e1 (by repeat (first | exact Below.refl _ _ | assumption | apply Below.drew | apply belowN | (refine Below.alloc ?_ (by first | exact Nat.le_refl _ | (simp; done) | (simp; omega)) _) | (refine Below.setCell ?_ (by first | exact Nat.le_refl _ | (simp; done) | (simp; omega)) _))) e1.size⟩
    · clear S4
      have RN := Lib.hid (S7.out.rowFresh (hl.out 0 _ _ rfl) (by simp) runE_flat)
      have SF := Lib.hid (show Sta W (ts ++ [tAt runE B7 1 c7p [⟨0, r1⟩], tBox pa #[.int .u32 a1, .int .u32 a2], tBox pb #[.int .u32 b1, .int .u32 b2]]) _ from S7.out.freeze (i := ts.length) (E := runE) (hl.out 0 _ _ rfl) (by simp) (by rw [List.set_append_right _ _ (Nat.le_refl _), Nat.sub_self]; rfl))
      have HR := Lib.hid (runsF_one c1 c2)
      rw [hr1] at HR
      clear S7 hr1 hr2
      go_upto_region 8 with fail
      go_quiet (fail)
      go_wp2
      go_ret
      rw [HR.out]
      have e1 := SF.out.end
      rw [HW.out] at e1 RN
      exact ⟨B7, 1, c7p, rfl, RN.out.keepNew (by repeat (first | exact Below.refl _ _ | assumption | apply Below.drew | apply belowN | (refine Below.alloc ?_ (by first | exact Nat.le_refl _ | (simp; done) | (simp; omega)) _) | (refine Below.setCell ?_ (by first | exact Nat.le_refl _ | (simp; done) | (simp; omega)) _))), below_from e1 (by repeat (first | exact Below.refl _ _ | assumption | apply Below.drew | apply belowN | (refine Below.alloc ?_ (by first | exact Nat.le_refl _ | (simp; done) | (simp; omega)) _) | (refine Below.setCell ?_ (by first | exact Nat.le_refl _ | (simp; done) | (simp; omega)) _))) e1.size⟩
  · by_cases c2 : z < sz
    · go_upto_region 8 with (at_builtin; go_loud (refine Sta.wpList_push (E := runE) (r := ⟨z, r2⟩) ts.length rfl _ _ rfl (.slice none 0 0) rfl S4.out (hl.out 0 _ _ rfl) (by simp) rfl (fun c h => rfl) (by simp) ?_; intro B8 c8p w8 st8; have S8 := Lib.hid (show Sta W (ts ++ [tRow runE [15] (.slice B8 1 c8p) [⟨z, r2⟩], tBox pa #[.int .u32 a1, .int .u32 a2], tBox pb #[.int .u32 b1, .int .u32 b2]]) w8 from by rw [List.set_append_right _ _ (Nat.le_refl _), Nat.sub_self] at st8; exact st8); clear st8))
      clear S4
      have RN := Lib.hid (S8.out.rowFresh (hl.out 0 _ _ rfl) (by simp) runE_flat)
      have SF := Lib.hid (show Sta W (ts ++ [tAt runE B8 1 c8p [⟨z, r2⟩], tBox pa #[.int .u32 a1, .int .u32 a2], tBox pb #[.int .u32 b1, .int .u32 b2]]) _ from S8.out.freeze (i := ts.length) (E := runE) (hl.out 0 _ _ rfl) (by simp) (by rw [List.set_append_right _ _ (Nat.le_refl _), Nat.sub_self]; rfl))
      have HR := Lib.hid (runsF_two c1 c2)
      rw [hr2] at HR
      clear S8 hr1 hr2
      go_quiet (fail)
      go_wp2
      go_ret
      rw [HR.out]
      have e1 := SF.out.end
      rw [HW.out] at e1 RN
      exact ⟨B8, 1, c8p, rfl, RN.out.keepNew (by repeat (first | exact Below.refl _ _ | assumption | apply Below.drew | apply belowN | (refine Below.alloc ?_ (by first | exact Nat.le_refl _ | (simp; done) | (simp; omega)) _) | (refine Below.setCell ?_ (by first | exact Nat.le_refl _ | (simp; done) | (simp; omega)) _))), below_from e1 (by repeat (first | exact Below.refl _ _ | assumption | apply Below.drew | apply belowN | (refine Below.alloc ?_ (by first | exact Nat.le_refl _ | (simp; done) | (simp; omega)) _) | (refine Below.setCell ?_ (by first | exact Nat.le_refl _ | (simp; done) | (simp; omega)) _))) e1.size⟩
    · have SF := Lib.hid ((S4.out.pick (List.Sublist.append (List.Sublist.refl ts) (List.nil_sublist _))).addD (t := tAt runE none 0 0 []) rfl fun c h => Elt.At.nil _ _)
      have HR := Lib.hid (runsF_no c1 c2)
      clear S4 hr1 hr2
      go_upto_region 8 with fail
      go_quiet (fail)
      go_wp2
      go_ret
      rw [HR.out]
      have := SF.out
      rw [List.append_nil] at this
      have e1 := this.end
      rw [HW.out] at e1
      exact ⟨none, 0, 0, rfl, Elt.At.nil _ _, below_from e1 (by repeat (first | exact Below.refl _ _ | assumption | apply Below.drew | apply belowN | (refine Below.alloc ?_ (by first | exact Nat.le_refl _ | (simp; done) | (simp; omega)) _) | (refine Below.setCell ?_ (by first | exact Nat.le_refl _ | (simp; done) | (simp; omega)) _))) e1.size⟩
theorem runs_any {W w : World} {ts : List Thing} {a1 a2 b1 b2 : Int} (h : Sta W ts w) (ha1 : U32 a1) (ha2 : U32 a2) (hb1 : U32 b1) (hb2 : U32 b2) :
    Calls Tryz.prog 107 #[.agg #[.int .u32 a1, .int .u32 a2], .agg #[.int .u32 b1, .int .u32 b2]] w fun e w' => ∃ A n c, e = .returned (.slice A n c) ∧ Sta W (ts ++ [tAt runE A n c (runsF (sizeF a1 a2) (farF a1 b1) (farF a1 b1 + sizeF b1 b2))]) w' ∧ Below w.heap.size w w' := by
  refine (runs_new (w := w) ha1 ha2 hb1 hb2).mono ?_
  rintro e w' ⟨A, n, c, rfl, hat, hb⟩
  exact ⟨A, n, c, rfl, h.addNew hb hat (Nat.le_refl _), hb⟩
end Go.Proofs.YtdpamikobmefeaaGreat

namespace Go.Proofs.YtdpamikobmefeaaGreat
open Go.RowKit Go.ChangeShapes
set_option maxRecDepth 100000
set_option linter.unusedVariables false
set_option linter.unusedSimpArgs false

theorem others_len (size : Int) : ∀ (l : List Run) (s : List Run × Int), (l.foldl stepO s).1.length ≤ s.1.length + l.length
  | [], s => by simp
  | y :: t, s => by
    rw [List.foldl_cons]
    have := others_len size t (stepO s y)
    have h2 : (stepO s y).1.length ≤ s.1.length + 1 := by
      unfold stepO
      split <;> simp
    simp only [List.length_cons]
    omega
theorem stepO_gt {s : List Run × Int} {r : Run} {z : Int} (hz : s.2 = z) (h : z < r.a) : stepO s r = (s.1 ++ [⟨z, r.a⟩], r.b) := by unfold stepO; rw [hz, if_pos h]
theorem stepO_le {s : List Run × Int} {r : Run} {z : Int} (hz : s.2 = z) (h : ¬ z < r.a) : stepO s r = (s.1, r.b) := by unfold stepO; rw [hz, if_neg h]
set_option maxHeartbeats 8000000 in
theorem others_new {w : World} {A : Option Addr} {n c : Nat} {l : List Run} {size : Int} (hl0 : runE.At w (· < w.heap.size) A n c l) (hn : n ≤ 1000) :
    Calls Tryz.prog 71 #[.slice A n c, .int .u64 size] w fun e w' => ∃ B c', e = .returned (.slice B (othersF l size).length c') ∧ runE.At w' (w.heap.size ≤ ·) B (othersF l size).length c' (othersF l size) ∧ Below w.heap.size w w' := by
  obtain ⟨W, hW⟩ : ∃ W, W = w := ⟨_, rfl⟩
  obtain ⟨ts, hts⟩ : ∃ ts : List Thing, ts = [] := ⟨_, rfl⟩
  have h : Sta W ts w := by subst hW hts; exact Sta.start _
  have ho : ∀ x ∈ ts, x.π ≠ [15] ∧ x.π ≠ [16] := by subst hts; simp
  have hl : ∀ c0, S0 W ts c0 w → runE.At w (Quiet c0 w) A n c l := fun c0 h0 => hl0.move (by subst hW; exact h0.first)
  have HW := Lib.hid hW
  clear hW hts hl0
  have hln : l.length = n := by
    obtain ⟨c5, h5⟩ := id h
    exact (hl c5 h5).1
  have HLN := Lib.hid hln
  have HL : ∀ (j : Nat) (t : Thing) (m : List Thing), m[j]? = some t → (ts ++ m)[ts.length + j]? = some t := fun j t m h => by rw [List.getElem?_append_right (by omega), show ts.length + j - ts.length = j by omega]; exact h
  have hl' := Lib.hid HL
  have HO := Lib.hid ho
  have HS := Lib.hid (show Sta W (ts ++ [tAt runE A n c l, tRow runE [15] (.slice none 0 0) [], tRow runE [16] (.slice none 0 0) []]) w from by
    have q := ((h.addD (t := tAt runE A n c l) rfl hl).rowNil runE [15] (by simp) (fun x hx => by
      rcases List.mem_append.1 hx with hx | hx
      · exact (ho x hx).1
      · simp only [List.mem_singleton] at hx; subst hx; simp [tAt])).rowNil runE [16] (by simp) (fun x hx => by
      simp only [List.mem_append, List.mem_singleton] at hx
      rcases hx with (hx | rfl) | rfl
      · exact (ho x hx).2
      · simp [tAt]
      · simp [tRow])
    rw [List.append_assoc, List.append_assoc] at q
    exact q)
  clear h ho hl hln HL
  go_enter Tryz.func71, Tryz.ntmps71
  go_upto_region 4 with (first
    | (at_builtin; refine Sta.wpList_append (E := runE) (L := ([] : List Run)) (N := l) (ts.length + 2) rfl _ _ rfl (.slice none 0 0) rfl HS.out (hl'.out 2 _ _ rfl) (by simp) A n c rfl (fun c5 h5 => h5.data (hl'.out 0 _ _ rfl)) (by simp; omega) ?_; intro B2 c2 w2 st2; have S2 := Lib.hid (show Sta W (ts ++ [tAt runE A n c l, tRow runE [15] (.slice none 0 0) [], tRow runE [16] (.slice B2 n c2) l]) w2 from by rw [List.set_append_right _ _ (by omega), show ts.length + 2 - ts.length = 2 by omega] at st2; simpa using st2); clear st2 HS; simp only [List.length_nil, Nat.zero_add])
    | (at_builtin; refine Sta.wpList_push (E := runE) (r := ⟨size, size⟩) (ts.length + 2) rfl _ _ rfl (.slice B2 n c2) rfl S2.out (hl'.out 2 _ _ rfl) (by simp) rfl (fun c h => rfl) (by rw [HLN.out]; omega) ?_; rw [HLN.out]; intro B3 c3 w3 st3; have S3 := Lib.hid (show Sta W (ts ++ [tAt runE A n c l, tRow runE [15] (.slice none 0 0) [], tRow runE [16] (.slice B3 (n + 1) c3) (l ++ [⟨size, size⟩])]) w3 from by rw [List.set_append_right _ _ (by omega), show ts.length + 2 - ts.length = 2 by omega] at st3; exact st3); clear st3 S2))
  obtain ⟨L, hL⟩ : ∃ L, l ++ [(⟨size, size⟩ : Run)] = L := ⟨_, rfl⟩
  have hLn : L.length = n + 1 := by rw [← hL]; simp [HLN.out]
  have S4 := Lib.hid (show Sta W (ts ++ [tAt runE B3 (n + 1) c3 L, tRow runE [15] (.slice none 0 0) []]) w3 from by
    have q := S3.out.freeze (i := ts.length + 2) (E := runE) (hl'.out 2 _ _ rfl) (by simp) rfl
    rw [List.set_append_right _ _ (by omega), show ts.length + 2 - ts.length = 2 by omega, hL] at q
    have q2 : Sta W (ts ++ [tRow runE [15] (.slice none 0 0) [], tAt runE B3 (n + 1) c3 L]) w3 := q.pick (List.Sublist.append (List.Sublist.refl _) (.cons _ (List.Sublist.refl _)))
    exact q2.perm' (List.Perm.append_left _ (.swap _ _ _)))
  have HLL := Lib.hid hLn
  have HE := Lib.hid (show othersF l size = (L.foldl stepO ([], 0)).1 from by unfold othersF; rw [hL])
  clear S3 hL hLn
  go_loopw [5, 6, 17] (fun s5 s6 s17 wr => ∃ (i : Nat) (vP : Value) (z : Int), i ≤ n + 1 ∧ s5 = vP ∧ s6 = .int .u64 z ∧ s17 = .int .i64 i ∧ ((L.take i).foldl stepO ([], 0)).2 = z ∧ Sta W (ts ++ [tAt runE B3 (n + 1) c3 L, tRow runE [15] vP ((L.take i).foldl stepO ([], 0)).1]) wr) (fun _ _ s _ => n + 1 - (intOf s).toNat)
  case atStart => exact ⟨0, _, 0, Nat.zero_le _, rfl, rfl, rfl, rfl, S4.out⟩
  case round =>
    obtain ⟨i, vP, z, hi, rfl, rfl, rfl, hz, hs⟩ := hrel
    have HR := Lib.hid hs; have HZ := Lib.hid hz
    clear S4 hz
    by_cases hlt : i < n + 1
    · have hlt' : (i : Int) < (n : Int) + 1 := by omega
      obtain ⟨b, off, x, rfl, zb, hx, d0, d1⟩ := run_cell (hs.at (E := runE) (hl'.out 0 _ _ rfl)) hlt
      have zb : b < wr.heap.size := zb
      have HX := Lib.hid hx
      have HF := Lib.hid (foldl_take stepO ([], 0) hx)
      clear hs hx
      go_upto_region 6 with fail
      refine wp_abs (fun wx => Sta W (ts ++ [tAt runE (some ⟨b, off, none⟩) (n + 1) c3 L, tRow runE [15] u5 ((L.take i).foldl stepO ([], 0)).1, tBox wr.heap.size #[.int .u64 x.a, .int .u64 x.b]]) wx) (by
        have q := HR.out.addBox #[.int .u64 x.a, .int .u64 x.b] 156
        rw [List.append_assoc] at q
        exact q) ?_
      generalize wr.heap.size = rb
      intro wx hsx
      have S5 := Lib.hid hsx
      have hbx := hsx.box (hl'.out 2 _ _ rfl)
      have r0 : wx.cell? ⟨rb, 0, none⟩ = some (.int .u64 x.a) := hbx.cell 0
      have r1 : wx.cell? ⟨rb, 1, none⟩ = some (.int .u64 x.b) := hbx.cell 1
      have zr := hbx.lt
      clear hsx hbx d0 d1 zb HR
      have hle := others_len size (L.take i) ([], 0)
      have hle2 : (List.foldl stepO ([], 0) (L.take i)).1.length ≤ i := by
        have : (L.take i).length ≤ i := List.length_take_le _ _
        simp only [List.length_nil, Nat.zero_add] at hle
        omega
      by_cases hgt : z < x.a
      · have HST := Lib.hid (show stepO ((L.take i).foldl stepO ([], 0)) x = (((L.take i).foldl stepO ([], 0)).1 ++ [⟨z, x.a⟩], x.b) from stepO_gt HZ.out hgt)
        generalize hM : ((L.take i).foldl stepO ([], 0)).1 = M at S5 HST hle2
        clear hM hle
        go_wp2_with (at_builtin; go_loud (refine Sta.wpList_push (E := runE) (r := ⟨z, x.a⟩) (ts.length + 1) rfl _ _ rfl u5 rfl S5.out (hl'.out 1 _ _ rfl) (by simp) rfl (fun c h => rfl) (by omega) ?_; intro B6 c6 w6 st6; have S6 := Lib.hid (show Sta W (ts ++ [tAt runE (some ⟨b, off, none⟩) (n + 1) c3 L, tRow runE [15] (.slice B6 (M.length + 1) c6) (M ++ [⟨z, x.a⟩]), tBox rb #[.int .u64 x.a, .int .u64 x.b]]) w6 from by rw [List.set_append_right _ _ (by omega), show ts.length + 1 - ts.length = 1 by omega] at st6; exact st6); have r1' : w6.cell? ⟨rb, 1, none⟩ = some (.int .u64 x.b) := (S6.out.box (hl'.out 2 _ _ rfl)).cell 1; have zr' := (S6.out.box (hl'.out 2 _ _ rfl)).lt; clear st6 S5 r0 r1 zr))
        go_roundw
        case rel =>
          refine ⟨i + 1, _, x.b, by omega, rfl, rfl, by go_num, by rw [HF.out, HST.out], ?_⟩
          rw [HF.out, HST.out]
          exact S6.out.pick (List.Sublist.append (List.Sublist.refl _) (.cons_cons _ (.cons_cons _ (List.nil_sublist _))))
        case measure => simp [intOf]; omega
      · have HST := Lib.hid (show stepO ((L.take i).foldl stepO ([], 0)) x = (((L.take i).foldl stepO ([], 0)).1, x.b) from stepO_le HZ.out hgt)
        generalize hM : ((L.take i).foldl stepO ([], 0)).1 = M at S5 HST hle2
        clear hM hle
        go_wp2
        go_roundw
        case rel =>
          refine ⟨i + 1, _, x.b, by omega, rfl, rfl, by go_num, by rw [HF.out, HST.out], ?_⟩
          rw [HF.out, HST.out]
          exact S5.out.pick (List.Sublist.append (List.Sublist.refl _) (.cons_cons _ (.cons_cons _ (List.nil_sublist _))))
        case measure => simp [intOf]; omega
    · obtain rfl : i = n + 1 := by omega
      rw [List.take_of_length_le (by rw [HLL.out]; exact Nat.le_refl _)] at HR
      obtain ⟨B7, c7, rfl, g1, g2, g3⟩ := HR.out.shape (hl'.out 1 _ _ rfl)
      rw [← HE.out] at HR g1 g3
      have RN := Lib.hid (HR.out.rowFresh (hl'.out 1 _ _ rfl) (by simp) runE_flat)
      have RE := Lib.hid HR.out.end
      rw [HW.out] at RN RE
      have S7 := Lib.hid (HR.out.freeze (i := ts.length + 1) (E := runE) (hl'.out 1 _ _ rfl) (by simp) rfl)
      rw [List.set_append_right _ _ (by omega), show ts.length + 1 - ts.length = 1 by omega] at S7
      clear hs HR g1 g2 g3
      go_wp2
      go_ret
      exact ⟨B7, c7, by rw [HE.out]; rfl, RN.out, RE.out⟩
theorem others_any {W w : World} {ts : List Thing} {A : Option Addr} {n c : Nat} {l : List Run} {size : Int} (h : Sta W ts w) (hl : runE.At w (· < w.heap.size) A n c l) (hn : n ≤ 1000) :
    Calls Tryz.prog 71 #[.slice A n c, .int .u64 size] w fun e w' => ∃ B c', e = .returned (.slice B (othersF l size).length c') ∧ Sta W (ts ++ [tAt runE B (othersF l size).length c' (othersF l size)]) w' ∧ Below w.heap.size w w' := by
  refine (others_new hl hn).mono ?_
  rintro e w' ⟨B, c', rfl, hat, hb⟩
  exact ⟨B, c', rfl, h.addNew hb hat (Nat.le_refl _), hb⟩
/-- A span. -/
structure Spn where
  f : Int
  t : Int
theorem spn_infoE : ∃ i : TypeInfo, Tryz.prog.info? 56 = some i ∧ i.zero = some (.agg #[.int .u32 0, .int .u32 0]) ∧ i.size = 2 ∧ i.bytes = 8 := by
  obtain ⟨j0, jii, jz0, jz1, jz2⟩ := info_parts (show (Tryz.prog.info? 56).map (fun i => (i.zero, i.size, i.bytes)) = some (some (.agg #[.int .u32 0, .int .u32 0]), 2, 8) by kernel_rfl)
  exact ⟨j0, jii, jz0, jz1, jz2⟩
def encSpn (x : Spn) : List Value := [.int .u32 x.f, .int .u32 x.t]
def spnE : Elt Tryz.prog Spn where
  T := 56
  ST := 43
  k := 2
  bytes := 8
  zero := .agg #[.int .u32 0, .int .u32 0]
  rd := fun w D cs x => cs = encSpn x
  pos := by omega
  len := fun h => by rw [h]; rfl
  one := fun h u hu => by subst h; simp only [encSpn, List.mem_cons, List.not_mem_nil, or_false] at hu; rcases hu with rfl | rfl <;> rfl
  move := fun h _ => h
  und := Tryz.underlying43
  info := spn_infoE
  zlen := rfl
  blim := by omega
theorem spn_cell {w : World} {D : Nat → Prop} {A : Option Addr} {n cap i : Nat} {l : List Spn} (h : spnE.At w D A n cap l) (hi : i < n) : ∃ (b off : Nat) (x : Spn), A = some ⟨b, off, none⟩ ∧ D b ∧ l[i]? = some x ∧ w.cell? ⟨b, off + i * 2, none⟩ = some (.int .u32 x.f) ∧ w.cell? ⟨b, off + i * 2 + 1, none⟩ = some (.int .u32 x.t) := by
  obtain ⟨h1, h2, h3, h4, h5⟩ := h
  obtain ⟨b, off, rfl, hd, hc⟩ := h5 (by omega)
  obtain ⟨x, hx⟩ : ∃ x, l[i]? = some x := ⟨_, List.getElem?_eq_getElem (by omega)⟩
  obtain ⟨cs, q0, rfl⟩ := hc i x hx
  exact ⟨b, off, x, rfl, hd, hx, q0 0 _ rfl, q0 1 _ rfl⟩
def spnF (f : Int) (x : Run) : Spn := ⟨(f + x.a) % 4294967296, (f + x.b) % 4294967296⟩
set_option maxHeartbeats 8000000 in
theorem spans_new {w : World} {A : Option Addr} {n c : Nat} {l : List Run} {f : Int} (hl0 : runE.At w (· < w.heap.size) A n c l) (hn : n ≤ 2000) :
    Calls Tryz.prog 70 #[.int .u32 f, .slice A n c] w fun e w' => ∃ B c', e = .returned (.slice B n c') ∧ spnE.At w' (w.heap.size ≤ ·) B n c' (l.map (spnF f)) ∧ Below w.heap.size w w' := by
  obtain ⟨W, hW⟩ : ∃ W, W = w := ⟨_, rfl⟩
  obtain ⟨ts, hts⟩ : ∃ ts : List Thing, ts = [] := ⟨_, rfl⟩
  have h : Sta W ts w := by subst hW hts; exact Sta.start _
  have ho : ∀ x ∈ ts, x.π ≠ [15] := by subst hts; simp
  have hl : ∀ c0, S0 W ts c0 w → runE.At w (Quiet c0 w) A n c l := fun c0 h0 => hl0.move (by subst hW; exact h0.first)
  have HW := Lib.hid hW
  clear hW hts hl0
  have hln : l.length = n := by
    obtain ⟨c5, h5⟩ := id h
    exact (hl c5 h5).1
  have HLN := Lib.hid hln
  have HL : ∀ (j : Nat) (t : Thing) (m : List Thing), m[j]? = some t → (ts ++ m)[ts.length + j]? = some t := fun j t m h => by rw [List.getElem?_append_right (by omega), show ts.length + j - ts.length = j by omega]; exact h
  have hl' := Lib.hid HL
  have HS := Lib.hid (show Sta W (ts ++ [tAt runE A n c l, tRow spnE [15] (.slice none 0 0) []]) w from by
    have q := ((h.addD (t := tAt runE A n c l) rfl hl).rowNil spnE [15] (by simp) (fun x hx => by
      rcases List.mem_append.1 hx with hx | hx
      · exact ho x hx
      · simp only [List.mem_singleton] at hx; subst hx; simp [tAt]))
    rw [List.append_assoc] at q
    exact q)
  clear h ho hl hln HL
  go_enter Tryz.func70, Tryz.ntmps70
  go_wp2
  go_loopw [5, 10] (fun s5 s10 wr => ∃ (i : Nat) (vP : Value), i ≤ n ∧ s5 = vP ∧ s10 = .int .i64 i ∧ Sta W (ts ++ [tAt runE A n c l, tRow spnE [15] vP ((l.take i).map (spnF f))]) wr) (fun _ s _ => n - (intOf s).toNat)
  case atStart => exact ⟨0, _, Nat.zero_le _, rfl, rfl, HS.out⟩
  case round =>
    obtain ⟨i, vP, hi, rfl, rfl, hs⟩ := hrel
    have HR := Lib.hid hs
    clear HS
    by_cases hlt : i < n
    · have hlt' : (i : Int) < (n : Int) := by omega
      obtain ⟨b, off, x, rfl, zb, hx, d0, d1⟩ := run_cell (hs.at (E := runE) (hl'.out 0 _ _ rfl)) hlt
      have zb : b < wr.heap.size := zb
      have HF := Lib.hid (show (l.take (i + 1)).map (spnF f) = (l.take i).map (spnF f) ++ [spnF f x] from by rw [List.take_add_one, hx, List.map_append]; rfl)
      have hle : ((l.take i).map (spnF f)).length = i := by simp [HLN.out]; omega
      have HLE := Lib.hid hle
      clear hs hx hle
      go_upto_region 5 with fail
      refine wp_abs (fun wx => Sta W (ts ++ [tAt runE (some ⟨b, off, none⟩) n c l, tRow spnE [15] u5 ((l.take i).map (spnF f)), tBox wr.heap.size #[.int .u64 x.a, .int .u64 x.b]]) wx) (by
        have q := HR.out.addBox #[.int .u64 x.a, .int .u64 x.b] 156
        rw [List.append_assoc] at q
        exact q) ?_
      generalize wr.heap.size = rb
      intro wx hsx
      have S5 := Lib.hid hsx
      have hbx := hsx.box (hl'.out 2 _ _ rfl)
      have r0 : wx.cell? ⟨rb, 0, none⟩ = some (.int .u64 x.a) := hbx.cell 0
      have r1 : wx.cell? ⟨rb, 1, none⟩ = some (.int .u64 x.b) := hbx.cell 1
      have zr := hbx.lt
      clear hsx hbx d0 d1 zb HR
      go_wp2_with (at_builtin; go_loud (refine Sta.wpList_push (E := spnE) (r := spnF f x) (ts.length + 1) rfl _ _ rfl u5 rfl S5.out (hl'.out 1 _ _ rfl) (by simp) rfl (fun c h => rfl) (by rw [HLE.out]; omega) ?_; rw [HLE.out]; intro B6 c6 w6 st6; have S6 := Lib.hid (show Sta W (ts ++ [tAt runE (some ⟨b, off, none⟩) n c l, tRow spnE [15] (.slice B6 (i + 1) c6) ((l.take i).map (spnF f) ++ [spnF f x]), tBox rb #[.int .u64 x.a, .int .u64 x.b]]) w6 from by rw [List.set_append_right _ _ (by omega), show ts.length + 1 - ts.length = 1 by omega] at st6; exact st6); clear st6 S5))
      go_roundw
      case rel =>
        refine ⟨i + 1, _, by omega, rfl, by go_num, ?_⟩
        rw [HF.out]
        exact S6.out.pick (List.Sublist.append (List.Sublist.refl _) (.cons_cons _ (.cons_cons _ (List.nil_sublist _))))
      case measure => simp [intOf]; omega
    · obtain rfl : i = n := by omega
      rw [List.take_of_length_le (by rw [HLN.out]; exact Nat.le_refl _)] at HR
      obtain ⟨B7, c7, rfl, g1, g2, g3⟩ := HR.out.shape (hl'.out 1 _ _ rfl)
      rw [List.length_map, HLN.out] at HR
      have RN := Lib.hid (HR.out.rowFresh (hl'.out 1 _ _ rfl) (by simp) (fun _ _ _ _ _ _ h => h))
      have RE := Lib.hid HR.out.end
      rw [HW.out] at RN RE
      have S7 := Lib.hid (HR.out.freeze (i := ts.length + 1) (E := spnE) (hl'.out 1 _ _ rfl) (by simp) rfl)
      rw [List.set_append_right _ _ (by omega), show ts.length + 1 - ts.length = 1 by omega] at S7
      clear hs HR g1 g2 g3
      go_wp2
      go_ret
      exact ⟨B7, c7, by first | rfl | (simp [HLN.out]), RN.out, RE.out⟩
theorem spans_any {W w : World} {ts : List Thing} {A : Option Addr} {n c : Nat} {l : List Run} {f : Int} (h : Sta W ts w) (hl : runE.At w (· < w.heap.size) A n c l) (hn : n ≤ 2000) :
    Calls Tryz.prog 70 #[.int .u32 f, .slice A n c] w fun e w' => ∃ B c', e = .returned (.slice B n c') ∧ Sta W (ts ++ [tAt spnE B n c' (l.map (spnF f))]) w' ∧ Below w.heap.size w w' := by
  refine (spans_new hl hn).mono ?_
  rintro e w' ⟨B, c', rfl, hat, hb⟩
  exact ⟨B, c', rfl, h.addNew hb hat (Nat.le_refl _), hb⟩
end Go.Proofs.YtdpamikobmefeaaGreat

namespace Go.Proofs.YtdpamikobmefeaaGreat
open Go.RowKit
set_option maxRecDepth 100000
set_option linter.unusedVariables false
set_option linter.unusedSimpArgs false

/-- copy, of elements of K cells. -/
theorem run_copy_cellsK {P : Program} (K : Nat) (w : World) (dT sT ty elem : TypeId) (b o dLen dCap : Nat) (a : Addr) (sLen sCap : Nat) (cs : List Value)
    (hu : P.underlying dT = some (.slice elem)) (hs : (P.info? elem).map (·.size) = some K) (hn : cs.length = Nat.min sLen dLen * K)
    (hsrc : ∀ j v, cs[j]? = some v → w.cell? (a.add j) = some v) (hc : ∀ j, j < cs.length → (w.cell? ⟨b, o + j, none⟩).isSome = true) (hf : ∀ j, j < cs.length → w.frozen? ⟨b, o + j, none⟩ = false) (h1 : ∀ v ∈ cs, v.oneCell' = true) :
    (Builtin.copy_ #[dT, sT] ty #[.slice (some ⟨b, o, none⟩) dLen dCap, .slice (some a) sLen sCap]).run P w = .ok (goInt (Nat.min sLen dLen)) (w.setCells b o cs) := by
  have hl := run_loadCells_list (P := P) w a cs hsrc
  have hst := run_storeCells_cells (P := P) b o cs 0 w (by simpa using hc) (by simpa using hf) h1
  cases hq : P.info? elem with
  | none => simp [hq] at hs
  | some i =>
    have hi : i.size = K := by simpa [hq] using hs
    simp [Builtin.copy_, run_underlying hu, Builtin.lenOf, Builtin.firstCells, sizeOf, typeInfo, hq, hi, ← hn, hl, hst]
theorem news_two {w : World} {b : Nat} {p q : Int} (h : Box w b #[.int .u64 p, .int .u64 q]) : ∀ ad, some (⟨b, 0, none⟩ : Addr) = some ad → ∀ j u, [Value.int .u64 p, .int .u64 q][j]? = some u → w.cell? (ad.add j) = some u := by
  intro ad had j u hu
  injection had with had
  subst had
  rw [addr_add, Nat.zero_add, h.cell, ← Array.getElem?_toList]
  exact hu
theorem lay_insK {cur xs ys : List Value} {N I K : Nat} (hx : xs.length = N) (hy : ys.length = K) (hl : N + K ≤ cur.length) (ht : cur.take N = xs) (hi : I ≤ N) : (layL (layL cur (I + K) (xs.drop I)) I ys).take (N + K) = xs.take I ++ ys ++ xs.drop I := by
  have hd : (xs.drop I).length = N - I := by rw [List.length_drop, hx]
  rw [layL_eq (xs.drop I) cur (I + K) (by omega), hd]
  have e0 : cur.take I = xs.take I := by rw [← ht, List.take_take, Nat.min_eq_left (by omega)]
  have e1 : (cur.take (I + K) ++ xs.drop I ++ cur.drop (I + K + (N - I))).take I = xs.take I := by
    rw [List.append_assoc, List.take_append_of_le_length (by simp; omega), List.take_take, Nat.min_eq_left (by omega), e0]
  have e2 : (cur.take (I + K) ++ xs.drop I ++ cur.drop (I + K + (N - I))).drop (I + ys.length) = xs.drop I ++ cur.drop (I + K + (N - I)) := by
    rw [List.append_assoc, hy]
    exact List.drop_left' (by simp; omega)
  rw [layL_eq ys _ I (by simp; omega), e1, e2, ← List.append_assoc]
  exact List.take_left' (by simp; omega)
theorem lay_ins2K {row xs ys : List Value} {N I K : Nat} (hx : xs.length = N) (hy : ys.length = K) (hl : N + K ≤ row.length) (ht : row.take I = xs.take I) (hi : I ≤ N) : (layL (layL row I ys) (I + K) (xs.drop I)).take (N + K) = xs.take I ++ ys ++ xs.drop I := by
  have hd : (xs.drop I).length = N - I := by rw [List.length_drop, hx]
  have hti : (xs.take I).length = I := by rw [List.length_take]; omega
  rw [layL_eq ys row I (by omega), ht]
  rw [layL_eq (xs.drop I) _ (I + K) (by simp; omega)]
  have t1 : (xs.take I ++ ys ++ row.drop (I + ys.length)).take (I + K) = xs.take I ++ ys := List.take_left' (by simp; omega)
  rw [t1]
  exact List.take_left' (by simp; omega)
set_option maxHeartbeats 1000000 in
/-- At the end. -/
theorem insR_end {base n : Nat} {v : Value} {xs : List Value} {g : Nat} {p q : Int} (w : World) (hown : w.ownsRow base 156 2 v n xs) (hb : base ≤ w.heap.size) (hn : n ≤ 1000000) (hx : Box w g #[.int .u64 p, .int .u64 q]) :
    Calls Tryz.prog 117 #[v, .int .i64 n, .slice (some ⟨g, 0, none⟩) 1 1] w fun e w' => ∃ B cap, e = .returned (.slice B (n + 1) cap) ∧ Appd w base 156 2 n 1 xs [.int .u64 p, .int .u64 q] v B cap w' := by
  obtain ⟨A, cap, rfl, h1, h2, h3, h4⟩ := owns_shape hown
  obtain ⟨i0, hi0, hz0, hz1, hz2⟩ := run_infoE
  have HI := Lib.hid hi0; have HZ0 := Lib.hid hz0; have HZ1 := Lib.hid hz1; have HZ2 := Lib.hid hz2
  have HO := Lib.hid hown; have HX := Lib.hid hx
  clear hown hx hi0 hz0 hz1 hz2
  have hn1 : ((n : Int)).toNat = n := by omega
  cases A with
  | none =>
    obtain ⟨rfl, rfl⟩ := h3 rfl
    clear h3 h4
    go_enter Tryz.func117, Tryz.ntmps117
    go_wp2_with (at_builtin; go_loud (refine wpList_append_any _ rfl _ _ 141 rfl base 156 i0 (.agg #[.int .u64 0, .int .u64 0]) 2 16 Tryz.underlying141 HI.out HZ0.out HZ1.out HZ2.out rfl (by decide) _ 0 xs rfl HO.out (some ⟨g, 0, none⟩) 1 1 [.int .u64 p, .int .u64 q] rfl rfl (fun h => by cases h) (news_two HX.out) (fun u hu => by simp only [List.mem_cons, List.not_mem_nil, or_false] at hu; rcases hu with rfl | rfl <;> rfl) (by unfold maxLen; omega) (by omega) hb ?_; intro B7 cap7 w7 a7))
    go_ret
    exact ⟨_, _, rfl, a7⟩
  | some ad =>
    obtain ⟨g', cur, rfl, _⟩ := h4 ad rfl
    clear h3 h4
    have hc1 : ((n : Int)) ≤ (n : Int) := Int.le_refl _
    go_enter Tryz.func117, Tryz.ntmps117
    go_wp2_with (at_builtin; go_loud (refine wpList_append_any _ rfl _ _ 141 rfl base 156 i0 (.agg #[.int .u64 0, .int .u64 0]) 2 16 Tryz.underlying141 HI.out HZ0.out HZ1.out HZ2.out rfl (by decide) _ n xs rfl HO.out (some ⟨g, 0, none⟩) 1 1 [.int .u64 p, .int .u64 q] rfl rfl (fun h => by cases h) (news_two HX.out) (fun u hu => by simp only [List.mem_cons, List.not_mem_nil, or_false] at hu; rcases hu with rfl | rfl <;> rfl) (by unfold maxLen; omega) (by omega) hb ?_; intro B7 cap7 w7 a7))
    all_goals
      go_ret
      exact ⟨_, _, rfl, a7⟩
set_option maxHeartbeats 2000000 in
/-- In the midst, there is room. -/
theorem insR_room {n i b cap g : Nat} {cur : Array Value} {xs : List Value} {p q : Int} {T : TypeId} (w : World) (hb : BoxT w 156 b cur) (hcs : cur.size = cap * 2) (hxs : cur.toList.take (n * 2) = xs) (hn : n + 1 ≤ cap) (hcap : cap ≤ 9223372036854775807) (hi : i < n) (hx : BoxT w T g #[.int .u64 p, .int .u64 q]) (hg : g ≠ b) (h1 : ∀ u ∈ xs, u.oneCell' = true) :
    Calls Tryz.prog 117 #[.slice (some ⟨b, 0, none⟩) n cap, .int .i64 i, .slice (some ⟨g, 0, none⟩) 1 1] w fun e w' => e = .returned (.slice (some ⟨b, 0, none⟩) (n + 1) cap) ∧
      BoxT w' 156 b (layL (layL cur.toList (i * 2 + 2) (xs.drop (i * 2))) (i * 2) [.int .u64 p, .int .u64 q]).toArray ∧ Only (· = b) w w' := by
  have hxl : xs.length = n * 2 := by rw [← hxs]; simp; omega
  have hdl : (xs.drop (i * 2)).length = (n - i) * 2 := by rw [List.length_drop, hxl]; omega
  have hsz : (Tryz.prog.info? 156).map (·.size) = some 2 := by
    obtain ⟨i0, hi0, hz0, hz1, hz2⟩ := run_infoE
    rw [hi0]; simp [hz1]
  have hsh1 : w.shape? g = some (T, 2) := by unfold BoxT at hx; unfold World.shape?; rw [hx]; rfl
  have hsh2 : w.shape? b = some (156, cap * 2) := by unfold BoxT at hb; unfold World.shape?; rw [hb]; simp [hcs]
  have hfg : ∀ o, w.frozen? ⟨g, o, none⟩ = false := fun o => hx.box.free o
  have hov : ∀ lb cb, (callFunc 122 #[.slice (some ⟨g, 0, none⟩) 1 1, .slice (some ⟨b, (i + 1) * 2, none⟩) lb cb]).run Tryz.prog w = .ok (.value (.bool false)) w := fun lb cb => by
    rw [run_callFunc_extern Tryz.func122 (by kernel_rfl) (by kernel_rfl) (by kernel_rfl) (e := Extern.SlicesOverlaps.overlaps #[141, 141] #[4]) (by kernel_rfl),
      Lib.run_overlaps_apart w 141 4 156 Tryz.underlying141 2 (fun w => by kernel_rfl) ⟨g, 0, none⟩ ⟨b, (i + 1) * 2, none⟩ 1 1 lb cb hg T 156 2 (cap * 2) hsh1 hsh2 (by omega) (hfg _) (hfg _)]
    rfl
  have hcell : ∀ j, w.cell? ⟨b, j, none⟩ = cur[j]? := hb.box.cell
  have hfree : ∀ j, w.frozen? ⟨b, j, none⟩ = false := hb.box.free
  have hcp1 : ∀ ty dl dc sl sc, dl = n - i → sl = n + 1 - i → (Builtin.copy_ #[141, 141] ty #[.slice (some ⟨b, (i + 1) * 2, none⟩) dl dc, .slice (some ⟨b, i * 2, none⟩) sl sc]).run Tryz.prog w.drew = .ok (goInt (n - i : Nat)) (w.drew.setCells b (i * 2 + 2) (xs.drop (i * 2))) := by
    rintro ty _ dc _ sc rfl rfl
    have e2 : (i + 1) * 2 = i * 2 + 2 := by omega
    have hq := run_copy_cellsK 2 w.drew 141 141 ty 156 b (i * 2 + 2) (n - i) dc ⟨b, i * 2, none⟩ (n + 1 - i) sc (xs.drop (i * 2)) Tryz.underlying141 hsz (by rw [hdl, show Nat.min (n + 1 - i) (n - i) = n - i by simp only [Nat.min_def]; split <;> omega]) (fun j v hj => ?_) (fun j hj => ?_) (fun j hj => hfree _) (fun v hv => h1 v (List.mem_of_mem_drop hv))
    · rw [e2, hq, show Nat.min (n + 1 - i) (n - i) = n - i by simp only [Nat.min_def]; split <;> omega]
    · rw [Addr.add_lit]
      rw [List.getElem?_drop, ← hxs] at hj
      have hlt := (List.getElem?_eq_some_iff.1 hj).1
      rw [List.getElem?_take_of_lt (by simp at hlt; omega), Array.getElem?_toList] at hj
      exact (hcell (i * 2 + j)).trans hj
    · show (w.cell? _).isSome = true
      rw [hcell, Array.getElem?_eq_getElem (by omega)]; rfl
  have hB1 : BoxT (w.drew.setCells b (i * 2 + 2) (xs.drop (i * 2))) 156 b (layL cur.toList (i * 2 + 2) (xs.drop (i * 2))).toArray := BoxT.setCells _ _ (show BoxT w.drew 156 b cur from hb)
  have hX1 : BoxT (w.drew.setCells b (i * 2 + 2) (xs.drop (i * 2))) T g #[.int .u64 p, .int .u64 q] := (show BoxT w.drew T g #[.int .u64 p, .int .u64 q] from hx).only (only_setCells _ _ (Only.refl _ _)) hg
  have hO1 : Only (· = b) w (w.drew.setCells b (i * 2 + 2) (xs.drop (i * 2))) := only_setCells _ _ (Only.refl _ _).drew
  generalize w.drew.setCells b (i * 2 + 2) (xs.drop (i * 2)) = W1 at *
  have hcp2 : ∀ ty dl dc, 1 ≤ dl → (Builtin.copy_ #[141, 141] ty #[.slice (some ⟨b, i * 2, none⟩) dl dc, .slice (some ⟨g, 0, none⟩) 1 1]).run Tryz.prog W1 = .ok (goInt 1) (W1.setCells b (i * 2) [.int .u64 p, .int .u64 q]) := by
    intro ty dl dc hdl1
    have hq := run_copy_cellsK 2 W1 141 141 ty 156 b (i * 2) dl dc ⟨g, 0, none⟩ 1 1 [.int .u64 p, .int .u64 q] Tryz.underlying141 hsz (by rw [show Nat.min 1 dl = 1 by simp only [Nat.min_def]; split <;> omega]; rfl) (fun j v hj => ?_) (fun j hj => ?_) (fun j hj => hB1.box.free _) (fun u hu => by simp only [List.mem_cons, List.not_mem_nil, or_false] at hu; rcases hu with rfl | rfl <;> rfl)
    · rw [hq, show Nat.min 1 dl = 1 by simp only [Nat.min_def]; split <;> omega]; rfl
    · exact news_two hX1.box _ rfl j v hj
    · rw [hB1.box.cell, Array.getElem?_eq_getElem (by simp [layL_len] at hj ⊢; omega)]; rfl
  have hB2 := BoxT.setCells [.int .u64 p, .int .u64 q] (i * 2) hB1
  have hO2 : Only (· = b) w (W1.setCells b (i * 2) [.int .u64 p, .int .u64 q]) := only_setCells _ _ hO1
  have HB2 := Lib.hid hB2; have HO2 := Lib.hid hO2; have HC1 := Lib.hid hcp1; have HC2 := Lib.hid hcp2
  clear hB2 hO2 hO1 hX1 hB1 hcp1 hcp2 hcell hfree hsh1 hsh2 hfg hx hb h1 hxs hsz hdl hxl
  have hw1 : IntKind.i64.wrap ((i : Int) + 1) = (i : Int) + 1 := by rw [IntKind.wrap_i64]; omega
  have hw2 : IntKind.i64.wrap ((n : Int) + 1) = (n : Int) + 1 := by rw [IntKind.wrap_i64]; omega
  have htn : ((i : Int) + 1).toNat = i + 1 := by omega
  have htn2 : ((n : Int) + 1).toNat = n + 1 := by omega
  have hz2 : ¬ ((i : Int) = (n : Int)) := by omega
  have hb2 : ¬ (cap = i + 1) := by omega
  have hb4 : ¬ (cap = i) := by omega
  have hb5 : ¬ ((cap : Int) < (n : Int) + 1) := by omega
  have hb6 : (i : Int) ≤ (n : Int) := by omega
  have hb7 : (i : Int) + 1 ≤ (n : Int) + 1 := by omega
  have hb9 : (0 : Int) ≤ (i : Int) + 1 := by omega
  have hb8 : (i : Int) ≤ (n : Int) + 1 := by omega
  go_enter Tryz.func117, Tryz.ntmps117
  go_wp2_with (simp only [hov])
  go_region_law (go_loud (refine step_copy_runI rfl (.tmp 73) (.tmp 76) 141 141 rfl (.slice (some ⟨b, (i + 1) * 2, none⟩) (n - i) (cap - (i + 1))) (.slice (some ⟨b, i * 2, none⟩) (n + 1 - i) (cap - i)) (by simp [Act.eval, Act.put]) (by simp [Act.eval, Act.put]) (HC1.out _ _ _ _ _ rfl rfl) ?_))
  have hc2 := HC2.out 3 (n + 1 - i) (cap - i) (by omega)
  go_wp2
  go_ret
  exact ⟨rfl, HB2.out, HO2.out⟩
set_option maxHeartbeats 2000000 in
/-- In the midst, no room. -/
theorem insR_grow {n i b cap g : Nat} {cur : Array Value} {xs : List Value} {p q : Int} (w : World) (hb : Box w b cur) (hcs : cur.size = cap * 2) (hxs : cur.toList.take (n * 2) = xs) (hnc : n ≤ cap) (hroom : cap < n + 1) (hn : n ≤ 1000000) (hi : i < n) (hx : Box w g #[.int .u64 p, .int .u64 q]) (h1 : ∀ u ∈ xs, u.oneCell' = true) :
    Calls Tryz.prog 117 #[.slice (some ⟨b, 0, none⟩) n cap, .int .i64 i, .slice (some ⟨g, 0, none⟩) 1 1] w fun e w' => ∃ (G : Nat) (row : Array Value), e = .returned (.slice (some ⟨w.heap.size, 0, none⟩) (n + 1) G) ∧ n + 1 ≤ G ∧ G ≤ maxLen ∧ row.size = G * 2 ∧ row.toList.take ((n + 1) * 2) = xs.take (i * 2) ++ [.int .u64 p, .int .u64 q] ++ xs.drop (i * 2) ∧
      BoxT w' 156 w.heap.size row ∧ Below w.heap.size w w' := by
  have hxl : xs.length = n * 2 := by rw [← hxs]; simp; omega
  have hdl : (xs.drop (i * 2)).length = (n - i) * 2 := by rw [List.length_drop, hxl]; omega
  obtain ⟨i0, hi0, hz0, hz1, hz2⟩ := run_infoE
  have hsz : (Tryz.prog.info? 156).map (·.size) = some 2 := by rw [hi0]; simp [hz1]
  have hgw := hx.lt
  have hbw := hb.lt
  have hold : (Builtin.firstCells i0.size i (.slice (some ⟨b, 0, none⟩) i cap)).run Tryz.prog w.drew = .ok (xs.take (i * 2)).toArray w.drew := by
    rw [hz1]
    refine run_firstCells_some w.drew 2 i ⟨b, 0, none⟩ i cap (xs.take (i * 2)) (by rw [List.length_take]; omega) (fun j v hj => ?_)
    rw [Addr.add_lit, Nat.zero_add]
    have hlt := (List.getElem?_eq_some_iff.1 hj).1
    simp only [List.length_take] at hlt
    rw [List.getElem?_take_of_lt (by omega), ← hxs, List.getElem?_take_of_lt (by omega), Array.getElem?_toList] at hj
    exact (hb.cell j).trans hj
  have hik : i + (n + 1 - i) = n + 1 := by omega
  have hkk : (n : Int) + 1 - (i : Int) = ((n + 1 - i : Nat) : Int) := by omega
  obtain ⟨G, ROW, hG1, hG2, hR1, hR2, hrz⟩ : ∃ (G : Nat) (ROW : Array Value), n + 1 ≤ G ∧ G ≤ maxLen ∧ ROW.size = G * 2 ∧ ROW.toList.take (i * 2) = xs.take (i * 2) ∧ ∀ ty, (Builtin.append_ #[141, 3] ty #[.slice (some ⟨b, 0, none⟩) i cap, .int .i64 ((n : Int) + 1 - (i : Int))]).run Tryz.prog w = .ok (.slice (some ⟨w.heap.size, 0, none⟩) (n + 1) G) (w.drew.alloc (.cells ROW 156)) := by
    have hge := grownCap_ge w (n + 1) cap 156
    refine ⟨grownCap w (n + 1) cap 156, _, hge, grownCap_le_maxLen w (n + 1) cap 156 (by unfold maxLen; omega), ?_, ?_, fun ty => by
      have h := Lib.run_append_grow_zeros w 141 3 ty 156 i0 _ .i64 .i64 Tryz.underlying141 Tryz.underlying3 hi0 hz0 (some ⟨b, 0, none⟩) i cap (xs.take (i * 2)) hold (n + 1 - i) (by omega) (by omega) (by omega) (by omega) (by rw [hz2]; omega) (by rw [hz2, hik]; exact growslice_fits hroom (by omega))
      rw [hik] at h
      rw [hkk]
      exact h⟩
    · simp [Builtin.zeroCells, Value.cells]; omega
    · simp
      exact List.take_left' (by rw [List.length_take]; omega)
  clear hold hi0 hz0 hz1 hz2
  obtain ⟨N, hN⟩ : ∃ N, N = w.heap.size := ⟨_, rfl⟩
  have hB1 : BoxT ((w.alloc (.cells ROW 156)).drew) 156 N ROW := by rw [hN]; exact BoxT.new w ROW 156
  have hcA : ∀ ty dc, (Builtin.copy_ #[141, 141] ty #[.slice (some ⟨N, i * 2, none⟩) (n + 1 - i) dc, .slice (some ⟨g, 0, none⟩) 1 1]).run Tryz.prog ((w.alloc (.cells ROW 156)).drew) = .ok (goInt 1) (((w.alloc (.cells ROW 156)).drew).setCells N (i * 2) [.int .u64 p, .int .u64 q]) := fun ty dc => by
    have hq := run_copy_cellsK 2 ((w.alloc (.cells ROW 156)).drew) 141 141 ty 156 N (i * 2) (n + 1 - i) dc ⟨g, 0, none⟩ 1 1 [.int .u64 p, .int .u64 q] Tryz.underlying141 hsz (by rw [show Nat.min 1 (n + 1 - i) = 1 by simp only [Nat.min_def]; split <;> omega]; rfl) (fun j v hj => ?_) (fun j hj => ?_) (fun j hj => hB1.box.free _) (fun u hu => by simp only [List.mem_cons, List.not_mem_nil, or_false] at hu; rcases hu with rfl | rfl <;> rfl)
    · rw [hq, show Nat.min 1 (n + 1 - i) = 1 by simp only [Nat.min_def]; split <;> omega]; rfl
    · exact news_two (show Box ((w.alloc (.cells ROW 156)).drew) g _ from hx.alloc _) _ rfl j v hj
    · rw [hB1.box.cell, Array.getElem?_eq_getElem (by simp at hj; omega)]; rfl
  have hB2 := BoxT.setCells [.int .u64 p, .int .u64 q] (i * 2) hB1
  have hO2 : Only (· = N) ((w.alloc (.cells ROW 156)).drew) (((w.alloc (.cells ROW 156)).drew).setCells N (i * 2) [.int .u64 p, .int .u64 q]) := only_setCells _ _ (Only.refl _ _)
  have hbb : Box (((w.alloc (.cells ROW 156)).drew).setCells N (i * 2) [.int .u64 p, .int .u64 q]) b cur := (show Box ((w.alloc (.cells ROW 156)).drew) b cur from hb.alloc _).only hO2 (by omega)
  have hBel : Below N w (((w.alloc (.cells ROW 156)).drew).setCells N (i * 2) [.int .u64 p, .int .u64 q]) := by
    have h0 : Below N w ((w.alloc (.cells ROW 156)).drew) := by rw [hN]; exact (below_a1 w _).drew
    exact h0.trans (Only.below (B := N) hO2 (by rw [hN]; exact Nat.le_trans (Nat.le_succ _) (by show w.heap.size + 1 ≤ (w.heap.push _).size; simp)) (fun k hk => by omega))
  generalize ((w.alloc (.cells ROW 156)).drew).setCells N (i * 2) [.int .u64 p, .int .u64 q] = W2 at *
  have hcB : ∀ ty dl dc sc, dl = n - i → (Builtin.copy_ #[141, 141] ty #[.slice (some ⟨N, (i + 1) * 2, none⟩) dl dc, .slice (some ⟨b, i * 2, none⟩) (n - i) sc]).run Tryz.prog W2.drew = .ok (goInt (n - i : Nat)) (W2.drew.setCells N (i * 2 + 2) (xs.drop (i * 2))) := by
    rintro ty _ dc sc rfl
    have e2 : (i + 1) * 2 = i * 2 + 2 := by omega
    have hq := run_copy_cellsK 2 W2.drew 141 141 ty 156 N (i * 2 + 2) (n - i) dc ⟨b, i * 2, none⟩ (n - i) sc (xs.drop (i * 2)) Tryz.underlying141 hsz (by rw [hdl, show Nat.min (n - i) (n - i) = n - i by simp only [Nat.min_def]; split <;> omega]) (fun j v hj => ?_) (fun j hj => ?_) (fun j hj => hB2.box.free _) (fun v hv => h1 v (List.mem_of_mem_drop hv))
    · rw [e2, hq, show Nat.min (n - i) (n - i) = n - i by simp only [Nat.min_def]; split <;> omega]
    · rw [Addr.add_lit]
      rw [List.getElem?_drop, ← hxs] at hj
      have hlt := (List.getElem?_eq_some_iff.1 hj).1
      rw [List.getElem?_take_of_lt (by simp at hlt; omega), Array.getElem?_toList] at hj
      exact (hbb.cell (i * 2 + j)).trans hj
    · show (W2.cell? _).isSome = true
      rw [hB2.box.cell, Array.getElem?_eq_getElem (by simp [layL_len]; omega)]; rfl
  have hB3 : BoxT (W2.drew.setCells N (i * 2 + 2) (xs.drop (i * 2))) 156 N _ := BoxT.setCells (xs.drop (i * 2)) (i * 2 + 2) (show BoxT W2.drew 156 N _ from hB2)
  have hrow : (layL (layL ROW.toList (i * 2) [.int .u64 p, .int .u64 q]) (i * 2 + 2) (xs.drop (i * 2))).take ((n + 1) * 2) = xs.take (i * 2) ++ [.int .u64 p, .int .u64 q] ++ xs.drop (i * 2) := by
    have := lay_ins2K (ys := [Value.int .u64 p, Value.int .u64 q]) (K := 2) hxl rfl (show n * 2 + 2 ≤ ROW.toList.length by simp; omega) hR2 (show i * 2 ≤ n * 2 by omega)
    rwa [show n * 2 + 2 = (n + 1) * 2 by omega] at this
  have hBel3 : Below N w (W2.drew.setCells N (i * 2 + 2) (xs.drop (i * 2))) := hBel.trans (Only.below (B := N) (only_setCells _ _ (Only.refl (· = N) W2).drew) (by have := hB2.lt; omega) (fun k hk => by omega))
  simp only [] at hB3
  have HB3 := Lib.hid hB3; have HROW := Lib.hid hrow; have HBEL := Lib.hid hBel3; have HCB := Lib.hid hcB; have HRZ := Lib.hid hrz
  have HS := Lib.hid (show (layL (layL ROW.toList (i * 2) [.int .u64 p, .int .u64 q]) (i * 2 + 2) (xs.drop (i * 2))).length = G * 2 by rw [layL_len, layL_len]; simpa using hR1)
  subst hN
  clear hB3 hrow hBel3 hBel hcB hB1 hB2 hO2 hbb hb hx hsz hdl hxl hxs h1 hrz hkk hik hR2
  have hw1 : IntKind.i64.wrap ((i : Int) + 1) = (i : Int) + 1 := by rw [IntKind.wrap_i64]; omega
  have hw2 : IntKind.i64.wrap ((n : Int) + 1) = (n : Int) + 1 := by rw [IntKind.wrap_i64]; omega
  have hw3 : IntKind.i64.wrap ((n : Int) + 1 - (i : Int)) = (n : Int) + 1 - (i : Int) := by rw [IntKind.wrap_i64]; omega
  have htn : ((i : Int) + 1).toNat = i + 1 := by omega
  have hz2 : ¬ ((i : Int) = (n : Int)) := by omega
  have hz3 : ((cap : Int) < (n : Int) + 1) := by omega
  have hb2 : ¬ (G = i + 1) := by omega
  have hb3 : ¬ (G = i) := by omega
  have hb4 : ¬ (cap = i) := by omega
  have hb6 : (i : Int) ≤ (n : Int) := by omega
  have hb7 : (i : Int) + 1 ≤ (n : Int) + 1 := by omega
  have hb8 : (i : Int) ≤ (n : Int) + 1 := by omega
  have hb9 : (0 : Int) ≤ (i : Int) + 1 := by omega
  have hb10 : (i : Int) ≤ (cap : Int) := by omega
  go_enter Tryz.func117, Tryz.ntmps117
  go_wp2_with (at_builtin; go_loud (refine Lib.wpList_append_run _ rfl _ _ _ _ rfl _ _ rfl rfl _ _ (HRZ.out _) ?_))
  go_region_law (go_loud (refine step_copy_runI rfl (.tmp 50) (.tmp 53) 141 141 rfl (.slice (some ⟨w.heap.size, (i + 1) * 2, none⟩) (n - i) (G - (i + 1))) (.slice (some ⟨b, i * 2, none⟩) (n - i) (cap - i)) (by simp [Act.eval, Act.put]) (by simp [Act.eval, Act.put]) (HCB.out _ _ _ _ rfl) ?_))
  go_wp2
  go_ret
  exact ⟨G, _, rfl, hG1, hG2, by simpa using HS.out, by simpa using HROW.out, HB3.out, HBEL.out⟩
/-- What an insert leaves: the row with the run, in its own block or in a new one. -/
def InsdR (w : World) (base n : Nat) (xs : List Value) (v : Value) (B : Option Addr) (cap : Nat) (w' : World) : Prop :=
  w'.ownsRow base 156 2 (.slice B (n + 1) cap) (n + 1) xs ∧ w.grownBy w' v.ownBlock ∧ ((Value.slice B (n + 1) cap).ownBlock = v.ownBlock ∨ (Value.slice B (n + 1) cap).ownBlock = some w.heap.size)
theorem insR_any {base n i g T : Nat} {v : Value} {xs : List Value} {p q : Int} (w : World) (hown : w.ownsRow base 156 2 v n xs) (hb : base ≤ w.heap.size) (hn : n ≤ 1000000) (hi : i ≤ n) (hx : BoxT w T g #[.int .u64 p, .int .u64 q]) (hg : v.ownBlock ≠ some g) (h1 : ∀ u ∈ xs, u.oneCell' = true) :
    Calls Tryz.prog 117 #[v, .int .i64 i, .slice (some ⟨g, 0, none⟩) 1 1] w fun e w' => ∃ B cap, e = .returned (.slice B (n + 1) cap) ∧ InsdR w base n (xs.take (i * 2) ++ [.int .u64 p, .int .u64 q] ++ xs.drop (i * 2)) v B cap w' := by
  have hlen : xs.length = n * 2 := hown.1
  by_cases hin : i = n
  · subst hin
    refine (insR_end w hown hb hn hx.box).mono ?_
    rintro e w' ⟨B, cap, rfl, h⟩
    refine ⟨B, cap, rfl, ?_, h.2.1, h.2.2⟩
    have h0 := h.1
    rw [show xs.take (i * 2) ++ [.int .u64 p, .int .u64 q] ++ xs.drop (i * 2) = xs ++ [.int .u64 p, .int .u64 q] by rw [List.take_of_length_le (by omega), List.drop_eq_nil_of_le (by omega), List.append_nil]]
    exact h0
  · rcases hown.2 with ⟨_, h0⟩ | ⟨b, cap, cur, rfl, hbg, hh, hnc, hcm, hs, ht⟩
    · omega
    · have hbx : BoxT w 156 b cur := hh
      by_cases hr : n + 1 ≤ cap
      · refine (insR_room (n := n) (i := i) (cap := cap) w hbx hs ht hr (by unfold maxLen at hcm; omega) (by omega) hx (fun e => hg (by rw [e]; rfl)) h1).mono ?_
        rintro e w' ⟨rfl, h2, h3⟩
        refine ⟨_, _, rfl, ⟨by simp; omega, .inr ⟨b, cap, _, rfl, hbg, h2, hr, hcm, by simp [layL_len]; omega, ?_⟩⟩, grown_one h3, .inl rfl⟩
        have := lay_insK (ys := [Value.int .u64 p, Value.int .u64 q]) (K := 2) hlen rfl (show n * 2 + 2 ≤ cur.toList.length by simp; omega) ht (show i * 2 ≤ n * 2 by omega)
        rw [show (n + 1) * 2 = n * 2 + 2 by omega]
        simpa using this
      · refine (insR_grow (n := n) (i := i) (cap := cap) w hbx.box hs ht hnc (by omega) hn (by omega) hx.box h1).mono ?_
        rintro e w' ⟨G, row, rfl, h2, h3, h4, h5, h6, h7⟩
        refine ⟨_, _, rfl, ⟨by simp; omega, .inr ⟨w.heap.size, G, row, rfl, hb, h6, h2, h3, by omega, h5⟩⟩, grown_any h7 _, .inr rfl⟩
end Go.Proofs.YtdpamikobmefeaaGreat
namespace Go.Proofs.YtdpamikobmefeaaGreat
open Go.RowKit Go.ChangeShapes
set_option linter.unusedVariables false
set_option linter.unusedSimpArgs false
theorem runs_flat : ∀ {L : List Run} {M : List (List Value)}, M.length = L.length → (∀ (j : Nat) m x, M[j]? = some m → L[j]? = some x → m = encRun x) → M = L.map encRun := by
  intro L M hl h
  apply List.ext_getElem?
  intro j
  rw [List.getElem?_map]
  cases hm : M[j]? with
  | none =>
    have := List.getElem?_eq_none_iff.1 hm
    rw [List.getElem?_eq_none (by omega)]; rfl
  | some m =>
    have hj := (List.getElem?_eq_some_iff.1 hm).1
    have hx : L[j]? = some (L[j]'(by omega)) := List.getElem?_eq_getElem (by omega)
    rw [hx, h j m _ hm hx]; rfl
theorem flat_run_take : ∀ (L : List Run) (i : Nat), (L.map encRun).flatten.take (i * 2) = ((L.take i).map encRun).flatten ∧ (L.map encRun).flatten.drop (i * 2) = ((L.drop i).map encRun).flatten
  | [], i => by simp
  | x :: t, 0 => by simp
  | x :: t, i + 1 => by
    have ih := flat_run_take t i
    have e : (i + 1) * 2 = (encRun x).length + i * 2 := by show _ = 2 + i * 2; omega
    simp only [List.map_cons, List.flatten_cons, List.take_succ_cons, List.drop_succ_cons]
    rw [e, List.take_length_add_append, List.drop_length_add_append]
    exact ⟨by rw [ih.1], ih.2⟩
/-- A run put into a row. -/
theorem Sta.insR {W w : World} {ts : List Thing} {π : List Int} {v : Value} {L : List Run} {x : Run} {i : Nat} (i0 : Nat) (T : TypeId) (h : Sta W ts w) (hi0 : ts[i0]? = some (tRow runE π v L)) (hπ : π ≠ []) (hi : i ≤ L.length) (hn : L.length ≤ 1000000) :
    Calls Tryz.prog 117 #[v, .int .i64 i, .slice (some ⟨w.heap.size, 0, none⟩) 1 1] (w.alloc (.cells #[.int .u64 x.a, .int .u64 x.b] T)) fun e w' => ∃ B cap, e = .returned (.slice B (L.length + 1) cap) ∧ Sta W (ts.set i0 (tRow runE π (.slice B (L.length + 1) cap) (L.take i ++ x :: L.drop i))) w' := by
  obtain ⟨c, h0⟩ := h
  have h1 := h0.later (below_a1 w (.cells #[.int .u64 x.a, .int .u64 x.b] T))
  obtain ⟨M0, ho0, _⟩ := (show runE.Row c π w v L from h0.get hi0)
  obtain ⟨M, ho, hg, hl, hk, hd⟩ := (show runE.Row c π (w.alloc (.cells #[.int .u64 x.a, .int .u64 x.b] T)) v L from h1.get hi0)
  have hM : M = L.map encRun := runs_flat hl fun j m y hm hy => hd j m y hm hy
  subst hM
  rw [hl] at ho
  have ho : (w.alloc (.cells #[.int .u64 x.a, .int .u64 x.b] T)).ownsRow 0 156 2 v L.length (L.map encRun).flatten := ho
  have one : ∀ (K : List Run), ∀ u ∈ (K.map encRun).flatten, u.oneCell' = true := fun K u hu => by
    obtain ⟨m, hm, hu⟩ := List.mem_flatten.1 hu
    obtain ⟨y, _, rfl⟩ := List.mem_map.1 hm
    simp only [encRun, List.mem_cons, List.not_mem_nil, or_false] at hu
    rcases hu with rfl | rfl <;> rfl
  refine (insR_any (i := i) (p := x.a) (q := x.b) (w.alloc (.cells #[.int .u64 x.a, .int .u64 x.b] T)) ho (Nat.zero_le _) hn hi (BoxT.new w _ T) (fun e => by have := owns_lt ho0 e; omega) (one L)).mono ?_
  rintro e w' ⟨B, cap, rfl, hown, hgrow, hat⟩
  refine ⟨B, cap, rfl, ?_⟩
  have hf := h1.fresh
  have hπ' : ¬ ([] : List Int) = π := fun h => hπ h.symm
  have hO : Only (fun b => c b = π) (w.alloc (.cells #[.int .u64 x.a, .int .u64 x.b] T)) w' := ⟨hgrow.os, hgrow.tape, hgrow.output, hgrow.size, fun b hb hn => hgrow.block b hb (fun he => hn (hg b he.symm))⟩
  obtain ⟨c', S, hc'⟩ : ∃ c', Stp (· = π) c (w.alloc (.cells #[.int .u64 x.a, .int .u64 x.b] T)) c' w' ∧ ∀ g, (Value.slice B (L.length + 1) cap).ownBlock = some g → c' g = π := by
    rcases hat with hat | hat
    · exact ⟨c, ⟨hO, fun _ _ => rfl, fun b hb => hf b (Nat.le_trans hO.size hb)⟩, fun g h => hg g (by rw [← hat]; exact h)⟩
    · exact ⟨upd c (w.alloc (.cells #[.int .u64 x.a, .int .u64 x.b] T)).heap.size π, (⟨hO, fun _ _ => rfl, fun b hb => hf b (Nat.le_trans hO.size hb)⟩ : Stp (· = π) c _ c w').paint (Nat.le_refl _) (owns_lt hown hat) π, fun g h => by rw [hat] at h; injection h with h; subst h; exact upd_same _ _ _⟩
  have hlen : (L.take i ++ x :: L.drop i).length = L.length + 1 := by simp; omega
  have hflat : (L.map encRun).flatten.take (i * 2) ++ [Value.int .u64 x.a, .int .u64 x.b] ++ (L.map encRun).flatten.drop (i * 2) = ((L.take i ++ x :: L.drop i).map encRun).flatten := by
    obtain ⟨f1, f2⟩ := flat_run_take L i
    rw [f1, f2]
    simp [encRun]
  rw [hflat] at hown
  refine Sta.turn h1 hi0 hπ (t' := tRow runE π (.slice B (L.length + 1) cap) (L.take i ++ x :: L.drop i)) rfl S ?_ rfl
  refine ⟨(L.take i ++ x :: L.drop i).map encRun, ?_, hc', by simp, fun m hm => ?_, fun j m y hm hy => ?_⟩
  · rw [List.length_map, hlen]; exact hown
  · obtain ⟨y, _, rfl⟩ := List.mem_map.1 hm
    rfl
  · rw [List.getElem?_map, hy] at hm
    injection hm with hm
    exact hm.symm
end Go.Proofs.YtdpamikobmefeaaGreat

namespace Go.Proofs.YtdpamikobmefeaaGreat
open Go.RowKit Go.ChangeShapes
set_option maxRecDepth 100000
set_option linter.unusedVariables false
set_option linter.unusedSimpArgs false

/-- The cells of a cover. -/
abbrev covC (f t : Int) (A : Option Addr) (n cap : Nat) : Array Value := #[.int .u32 f, .int .u32 t, .int .u64 (sizeF f t), .slice A n cap]
def CovR (c : Col) (π : List Int) (w : World) (b : Nat) (f t : Int) (l : List Run) : Prop :=
  ∃ A n cap, Box w b (covC f t A n cap) ∧ c b = π ∧ runE.At w (Quiet c w) A n cap l
/-- A cover. -/
def tCov (π : List Int) (b : Nat) (f t : Int) (l : List Run) : Thing := ⟨π, fun c w => CovR c π w b f t l, fun {c c' w w'} ⟨A, n, cap, h1, h2, h3⟩ hk =>
  ⟨A, n, cap, h1.only hk.only (fun hn => hn.2 h2), (hk.col b h1.lt (.inr h2)).trans h2, h3.move hk.quiet⟩⟩
theorem Sta.covOpen {W w : World} {ts : List Thing} {π : List Int} {b i : Nat} {f t : Int} {l : List Run} (h : Sta W ts w) (hi : ts[i]? = some (tCov π b f t l)) : ∃ A n cap, Sta W (ts.set i (tBlk π b (covC f t A n cap)) ++ [tAt runE A n cap l]) w := by
  obtain ⟨c, h⟩ := h
  obtain ⟨A, n, cap, h1, h2, h3⟩ := h.get hi
  exact ⟨A, n, cap, c, (h.setData (t' := tBlk π b (covC f t A n cap)) i hi rfl ⟨h1, h2⟩).addData rfl h3⟩
theorem Sta.covShut {W w : World} {ts : List Thing} {π : List Int} {b i j n cap : Nat} {f t : Int} {l : List Run} {A : Option Addr} (h : Sta W ts w) (hi : ts[i]? = some (tBlk π b (covC f t A n cap))) (hj : ts[j]? = some (tAt runE A n cap l)) : Sta W (ts.set i (tCov π b f t l)) w := by
  obtain ⟨c, h⟩ := h
  obtain ⟨h1, h2⟩ := h.get hi
  exact ⟨c, h.setData (t' := tCov π b f t l) i hi rfl ⟨A, n, cap, h1, h2, h.get hj⟩⟩
theorem Sta.covAt {W w : World} {ts : List Thing} {π : List Int} {b i : Nat} {f t : Int} {l : List Run} (h : Sta W ts w) (hi : ts[i]? = some (tCov π b f t l)) : ∃ A n cap, Box w b (covC f t A n cap) ∧ runE.At w (· < w.heap.size) A n cap l ∧ n = l.length := by
  obtain ⟨c, h⟩ := h
  obtain ⟨A, n, cap, h1, h2, h3⟩ := h.get hi
  exact ⟨A, n, cap, h1, h3.imp fun b hb => hb.2, h3.1.symm⟩
theorem cov_new {W w : World} {ts : List Thing} {f t : Int} (π : List Int) (h : Sta W ts w) (hπ : π ≠ []) (ho : ∀ x ∈ ts, x.π ≠ π) :
    Calls Tryz.prog 36 #[.agg #[.int .u32 f, .int .u32 t]] w fun e w' => ∃ b, e = .returned (.pointer (some ⟨b, 0, none⟩)) ∧ Sta W (ts ++ [tCov π b f t []]) w' := by
  have HS := Lib.hid (h.later (below_a1 w (.cells #[.int .u32 f, .int .u32 t] 56)))
  have HSZ := Lib.hid (size_any f t)
  obtain ⟨sz, hsz⟩ : ∃ sz, sizeF f t = sz := ⟨_, rfl⟩
  have HSE := Lib.hid hsz
  rw [hsz] at HSZ
  have HO := Lib.hid ho
  clear hsz h ho
  have hx := Box.new w #[.int .u32 f, .int .u32 t] 56
  go_enter Tryz.func36, Tryz.ntmps36
  go_upto_region 1 with fail
  refine wp_abs (fun wx => Sta W ts wx ∧ Box wx w.heap.size #[.int .u32 f, .int .u32 t]) ⟨HS.out, hx⟩ ?_
  generalize w.heap.size = pb
  rintro wx ⟨hs, hx⟩
  have S1 := Lib.hid hs
  have a0 : wx.cell? ⟨pb, 0, none⟩ = some (.int .u32 f) := hx.cell 0
  have a1 : wx.cell? ⟨pb, 1, none⟩ = some (.int .u32 t) := hx.cell 1
  have za := hx.lt; have fa := hx.free
  clear HS hs hx
  first | (go_region_held3 (fun w' => Same wx w') (first | (repeat' (with_reducible (first | assumption | exact Same.refl _ | exact Same.drew _ | refine Same.drew' ?_ | refine Same.alloc ?_ _))))
    ((go_at_call 69; (with_reducible refine (HSZ.out _).mono ?_); rintro e1 w1 ⟨rfl, hb1⟩; have S2 := Same.step (show Same wx _ by (with_reducible (first | assumption | exact Same.drew _))) hb1; have S3 := Lib.hid (S1.out.later S2.1); clear hb1))) | fail
  all_goals
    rename_i hq0
    clear hq0
    have S4 := Lib.hid (S3.out.addBlk π hπ HO.out (covC f t none 0 0) 143)
    have S5 := Lib.hid (S4.out.addD (t := tAt runE none 0 0 []) rfl fun c h => Elt.At.nil _ _)
    rw [List.append_assoc] at S5
    have S6 := Lib.hid (S5.out.covShut (i := ts.length) (j := ts.length + 1) (π := π) (b := w1.heap.size) (f := f) (t := t) (l := []) (A := none) (n := 0) (cap := 0) (by rw [List.getElem?_append_right (Nat.le_refl _), Nat.sub_self]; rfl) (by rw [List.getElem?_append_right (by omega), show ts.length + 1 - ts.length = 1 by omega]; rfl))
    rw [List.set_append_right _ _ (Nat.le_refl _), Nat.sub_self] at S6
    rw [← HSE.out]
    clear S4 S5 S3 S2 S1
    go_wp2
    go_ret
    exact ⟨_, rfl, S6.out.pick (List.Sublist.append (List.Sublist.refl _) (.cons_cons _ (List.nil_sublist _)))⟩
set_option maxHeartbeats 4000000 in
theorem cov_left {W w : World} {ts : List Thing} {π : List Int} {b i : Nat} {f t : Int} {l : List Run} (h : Sta W ts w) (hi : ts[i]? = some (tCov π b f t l)) (hf : U32 f) (ht : U32 t) (hok : RunsOk (sizeF f t) l) (hlen : l.length ≤ 100000) :
    Calls Tryz.prog 106 #[.pointer (some ⟨b, 0, none⟩)] w fun e w' => e = .returned (.int .u64 (sizeF f t - sumR l)) ∧ Below w.heap.size w w' := by
  obtain ⟨A, n, cap, hbx, hat, hn⟩ := h.covAt hi
  have q1 := size_pos hf ht
  have q2 := (size_bd f t).2
  have c2 : w.cell? ⟨b, 2, none⟩ = some (.int .u64 (sizeF f t)) := hbx.cell 2
  have c3 : w.cell? ⟨b, 3, none⟩ = some (.slice A n cap) := hbx.cell 3
  have fb := hbx.free; have zb := hbx.lt
  generalize sizeF f t = sz at *
  have HR := Lib.hid (fun k => left_range hok (by omega) k)
  have HAT := Lib.hid hat; have HN := Lib.hid hn; have HOK := Lib.hid hok
  have hn2 : n ≤ 100000 := by omega
  clear hat hn hok hbx h hi hlen
  go_enter Tryz.func106, Tryz.ntmps106
  go_wp2
  go_loopw [3, 17] (fun s3 s17 wr => ∃ (k : Nat) (z : Int), k ≤ n ∧ s3 = .int .u64 (sz - z) ∧ s17 = .int .i64 k ∧ sumR (l.take k) = z ∧ Below w.heap.size w wr) (fun _ s _ => n - (intOf s).toNat)
  case atStart => exact ⟨0, 0, Nat.zero_le _, by simp, rfl, rfl, Below.refl _ _⟩
  case round =>
    obtain ⟨k, z, hk, rfl, rfl, hz, hB⟩ := hrel
    have HB := Lib.hid hB; have HZ := Lib.hid hz
    clear hB hz
    by_cases hlt : k < n
    · have hlt' : (k : Int) < (n : Int) := by omega
      obtain ⟨bb, off, x, rfl, zx, hx, d0, d1⟩ := run_cell HAT.out hlt
      have d0 := (HB.out.cell (p := ⟨bb, off + k * 2, none⟩) zx).trans d0
      have d1 := (HB.out.cell (p := ⟨bb, off + k * 2 + 1, none⟩) zx).trans d1
      have zx : bb < wr.heap.size := Nat.lt_of_lt_of_le zx HB.out.size
      have hst := sumR_take hx
      have r1 := HR.out (k + 1)
      have r0 := HR.out k
      have hxo := HOK.out.2 x (List.mem_of_getElem? hx)
      rw [HZ.out] at hst r0
      rw [hst] at r1
      have HST := Lib.hid hst
      obtain ⟨xa, xb⟩ := x
      obtain ⟨o1, o2, o3⟩ := hxo
      dsimp only at *
      have w1 : IntKind.u64.wrap (xb - xa) = xb - xa := by simp [IntKind.wrap, IntKind.bits, IntKind.signed]; omega
      have w2 : IntKind.u64.wrap (sz - z - (xb - xa)) = sz - (z + (xb - xa)) := by simp [IntKind.wrap, IntKind.bits, IntKind.signed]; omega
      clear hst r1 r0 hx o1 o2 o3
      go_wp2
      go_roundw
      case rel => exact ⟨k + 1, z + (xb - xa), by omega, by first | rfl | (rw [w2]) | simp [w2], by go_num, HST.out, below_from HB.out (by repeat (first | exact Below.refl _ _ | assumption | apply Below.drew | apply belowN | (refine Below.alloc ?_ (by first | exact Nat.le_refl _ | (simp; done) | (simp; omega)) _) | (refine Below.setCell ?_ (by first | exact Nat.le_refl _ | (simp; done) | (simp; omega)) _))) HB.out.size⟩
      case measure => simp [intOf]; omega
    · obtain rfl : k = n := by omega
      have hlt' : ¬ (k : Int) < (k : Int) := by omega
      go_wp2
      go_ret
      have e := HZ.out
      rw [List.take_of_length_le (by rw [← HN.out]; exact Nat.le_refl _)] at e
      exact ⟨by rw [e]; rfl, HB.out⟩
theorem cov_whole {W w : World} {ts : List Thing} {π : List Int} {b i : Nat} {f t : Int} {l : List Run} (h : Sta W ts w) (hi : ts[i]? = some (tCov π b f t l)) (hf : U32 f) (ht : U32 t) (hok : RunsOk (sizeF f t) l) (hlen : l.length ≤ 100000) :
    Calls Tryz.prog 85 #[.pointer (some ⟨b, 0, none⟩)] w fun e w' => e = .returned (.bool (decide (othersF l (sizeF f t) = []))) ∧ Below w.heap.size w w' := by
  have HC := Lib.hid (cov_left h hi hf ht hok hlen)
  have hlg := (left_gaps hok (by have := size_pos hf ht; omega)).2
  have HE := Lib.hid (show ((sizeF f t - sumR l) == 0) = decide (othersF l (sizeF f t) = []) from by
    by_cases hh : sizeF f t - sumR l = 0
    · rw [hh, decide_eq_true (hlg.1 hh)]; rfl
    · rw [decide_eq_false (fun q => hh (hlg.2 q))]; simpa using hh)
  obtain ⟨z, hz⟩ : ∃ z, sizeF f t - sumR l = z := ⟨_, rfl⟩
  rw [hz] at HC HE
  clear hlg hz h hi hok
  go_enter Tryz.func85, Tryz.ntmps85
  go_wp2_with (go_at_call 106; go_loud (refine HC.out.mono ?_; rintro e1 w1 ⟨rfl, hb⟩; have HB := Lib.hid hb; clear hb))
  go_ret
  exact ⟨by rw [← HE.out]; rfl, HB.out⟩
set_option maxHeartbeats 4000000 in
theorem cov_gaps {W w : World} {ts : List Thing} {π : List Int} {b i : Nat} {f t : Int} {l : List Run} (h : Sta W ts w) (hi : ts[i]? = some (tCov π b f t l)) (hlen : l.length ≤ 1000) :
    Calls Tryz.prog 39 #[.pointer (some ⟨b, 0, none⟩)] w fun e w' => ∃ B c, e = .returned (.slice B (othersF l (sizeF f t)).length c) ∧ Sta W (ts ++ [tAt spnE B (othersF l (sizeF f t)).length c ((othersF l (sizeF f t)).map (spnF f))]) w' := by
  obtain ⟨A, n, cap, hbx, hat, hn⟩ := h.covAt hi
  have c0 : w.cell? ⟨b, 0, none⟩ = some (.int .u32 f) := hbx.cell 0
  have c2 : w.cell? ⟨b, 2, none⟩ = some (.int .u64 (sizeF f t)) := hbx.cell 2
  have c3 : w.cell? ⟨b, 3, none⟩ = some (.slice A n cap) := hbx.cell 3
  have fb := hbx.free; have zb := hbx.lt
  generalize sizeF f t = sz at *
  have hol : (othersF l sz).length ≤ 1001 := by
    have := others_len sz (l ++ [⟨sz, sz⟩]) ([], 0)
    unfold othersF
    simp only [List.length_append, List.length_cons, List.length_nil] at this
    omega
  have HS := Lib.hid h; have HAT := Lib.hid hat
  have hn2 : n ≤ 1000 := by omega
  clear h hi hat hbx
  obtain ⟨m, hm⟩ : ∃ m, (othersF l sz).length = m := ⟨_, rfl⟩
  have HM := Lib.hid hm
  rw [hm] at hol ⊢
  clear hm hn
  go_enter Tryz.func39, Tryz.ntmps39
  go_upto_region 3 with fail
  go_region_held3 (fun w' => Same w w') (with_reducible (first | assumption | exact Same.drew _))
    (first
      | (go_at_call 71; (refine (others_any (size := sz) (l := l) (HS.out.later (show Same w _ by (with_reducible (first | assumption | exact Same.drew _))).1) (HAT.out.later (show Same w _ by (with_reducible (first | assumption | exact Same.drew _))).1) hn2).mono ?_); rw [HM.out]; rintro e1 w1 ⟨B1, c1, rfl, hs1, hb1⟩; have S1 := Same.step (show Same w _ by (with_reducible (first | assumption | exact Same.drew _))) hb1; have SA := Lib.hid hs1; have AT1 := Lib.hid (hs1.at (E := runE) (i := ts.length) (A := B1) (n := m) (cap := c1) (l := othersF l sz) (by rw [List.getElem?_append_right (Nat.le_refl _), Nat.sub_self]; rfl)); clear hb1 hs1)
      | (go_at_call 70; (refine (spans_any (f := f) (l := othersF l sz) SA.out AT1.out (by omega)).mono ?_); rintro e2 w2 ⟨B2, c2', rfl, hs2, hb2⟩; have S2 := Same.step (show Same w _ by (with_reducible (first | assumption | exact Same.drew _))) hb2; have SB := Lib.hid hs2; clear hb2 hs2))
  all_goals
    rename_i hq0
    clear hq0
    go_wp2
    go_ret
    exact ⟨B2, c2', rfl, SB.out.pick (by rw [List.append_assoc]; exact List.Sublist.append (List.Sublist.refl _) (.cons _ (List.Sublist.refl _)))⟩
theorem gaps_none (w : World) : Calls Tryz.prog 39 #[.pointer none] w fun e w' => e = .returned (.slice none 0 0) ∧ w = w' := by
  go_enter Tryz.func39, Tryz.ntmps39
  go_wp2
  go_ret
  exact ⟨rfl, by first | rfl | trivial⟩
end Go.Proofs.YtdpamikobmefeaaGreat

namespace Go.Proofs.YtdpamikobmefeaaGreat
open Go.RowKit Go.ChangeShapes
set_option maxRecDepth 100000
set_option linter.unusedVariables false
set_option linter.unusedSimpArgs false

theorem spot_at : ∀ {out : List Run} {r : Run} {k : Nat}, (∀ (j : Nat) x, j < k → out[j]? = some x → x.a < r.a) → (∀ x, out[k]? = some x → ¬ x.a < r.a) → k ≤ out.length → spotC out r = k
  | [], r, k, _, _, hk => by
    have : k = 0 := by simpa using hk
    subst this; rfl
  | y :: t, r, 0, _, h2, _ => by
    have := h2 y rfl
    unfold spotC
    rw [List.takeWhile_cons]
    simp [this]
  | y :: t, r, k + 1, h1, h2, hk => by
    have hy := h1 0 y (by omega) rfl
    have ih := spot_at (out := t) (r := r) (k := k) (fun j x hj hx => h1 (j + 1) x (by omega) (by simpa using hx)) (fun x hx => h2 x (by simpa using hx)) (by simp at hk; omega)
    unfold spotC at ih ⊢
    rw [List.takeWhile_cons]
    simp [hy, ih]
theorem stepC_keep {s : List Run × Run} {x : Run} (h : x.b < s.2.a ∨ s.2.b < x.a) : stepC s x = (s.1 ++ [x], s.2) := by
  unfold stepC
  rw [if_pos (by simpa using h)]
theorem stepC_join {s : List Run × Run} {x : Run} (h1 : ¬ x.b < s.2.a) (h2 : ¬ s.2.b < x.a) : stepC s x = (s.1, ⟨min s.2.a x.a, max s.2.b x.b⟩) := by
  unfold stepC
  rw [if_neg (by simp [h1, h2])]
set_option maxHeartbeats 8000000 in
theorem cov_add1 {W w : World} {ts : List Thing} {π : List Int} {b i : Nat} {f t : Int} {l : List Run} {ra rb : Int} (h : Sta W ts w) (hi : ts[i]? = some (tCov π b f t l)) (hπ : π ≠ []) (ho : ∀ x ∈ ts, x.π ≠ [15] ∧ x.π ≠ [16]) (hlen : l.length ≤ 1000) :
    Calls Tryz.prog 108 #[.pointer (some ⟨b, 0, none⟩), .agg #[.int .u64 ra, .int .u64 rb]] w fun e w' => e = .returned (.tuple #[]) ∧ Sta W (ts.set i (tCov π b f t (addC l ⟨ra, rb⟩))) w' := by
  obtain ⟨A, n, cap, h1⟩ := h.covOpen hi
  obtain ⟨U, hU⟩ : ∃ U, ts.set i (tBlk π b (covC f t A n cap)) = U := ⟨_, rfl⟩
  have hilt := (List.getElem?_eq_some_iff.1 hi).1
  have hUi : U[i]? = some (tBlk π b (covC f t A n cap)) := by rw [← hU, List.getElem?_set_self hilt]
  have hUo : ∀ x ∈ U, x.π ≠ [15] ∧ x.π ≠ [16] := fun x hx => by
    rw [← hU] at hx
    rcases List.mem_or_eq_of_mem_set hx with hx | rfl
    · exact ho x hx
    · exact ho (tCov π b f t l) (List.mem_of_getElem? hi)
  have hUs : ∀ z, U.set i z = ts.set i z := fun z => by rw [← hU, List.set_set]
  rw [hU] at h1
  have HUI := Lib.hid hUi; have HUO := Lib.hid hUo; have HUS := Lib.hid hUs
  have hln : l.length = n := by
    have hat := h1.at (E := runE) (i := U.length) (A := A) (n := n) (cap := cap) (l := l) (by rw [List.getElem?_append_right (Nat.le_refl _), Nat.sub_self]; rfl)
    exact hat.1
  have HLN := Lib.hid hln
  have HL : ∀ (j : Nat) (t : Thing) (m : List Thing), m[j]? = some t → (U ++ m)[U.length + j]? = some t := fun j t m h => by rw [List.getElem?_append_right (by omega), show U.length + j - U.length = j by omega]; exact h
  have hl' := Lib.hid HL
  have S1 := Lib.hid (show Sta W (U ++ [tAt runE A n cap l, tBlk [16] w.heap.size #[.int .u64 ra, .int .u64 rb], tRow runE [15] (.slice none 0 0) []]) (w.alloc (.cells #[.int .u64 ra, .int .u64 rb] 156)) from by
    have q := (h1.addBlk [16] (by simp) (fun x hx => by
      rcases List.mem_append.1 hx with hx | hx
      · exact (hUo x hx).2
      · simp only [List.mem_singleton] at hx; subst hx; simp [tAt]) #[.int .u64 ra, .int .u64 rb] 156).rowNil runE [15] (by simp) (fun x hx => by
      simp only [List.mem_append, List.mem_singleton] at hx
      rcases hx with (hx | rfl) | rfl
      · exact (hUo x hx).1
      · simp [tAt]
      · simp [tBlk])
    rw [List.append_assoc, List.append_assoc] at q
    exact q)
  have hn2 : n ≤ 1000 := by omega
  clear h hi ho hlen h1 hU hUi hUo hUs hln HL
  obtain ⟨pb, hpb⟩ : ∃ pb, w.heap.size = pb := ⟨_, rfl⟩
  rw [hpb] at S1
  have hbx := S1.out.blk (i := i) (by rw [List.getElem?_append_left (List.getElem?_eq_some_iff.1 HUI.out).1]; exact HUI.out)
  have c3 : (w.alloc (.cells #[.int .u64 ra, .int .u64 rb] 156)).cell? ⟨b, 3, none⟩ = some (.slice A n cap) := hbx.cell 3
  have fb := hbx.free; have zb := hbx.lt
  clear hbx
  go_enter Tryz.func108, Tryz.ntmps108
  go_upto_region 3 with fail
  clear hpb
  refine wp_abs (fun wx => Sta W (U ++ [tAt runE A n cap l, tBlk [16] pb #[.int .u64 ra, .int .u64 rb], tRow runE [15] (.slice none 0 0) []]) wx) S1.out ?_
  clear S1 c3 fb zb
  intro wx hsx
  have S2 := Lib.hid hsx
  clear hsx
  go_loopw [4, 13] (fun s4 s13 wr => ∃ (k : Nat) (vP : Value) (xa xb : Int) (M : List Run), k ≤ n ∧ s4 = vP ∧ s13 = .int .i64 k ∧ (l.take k).foldl stepC ([], ⟨ra, rb⟩) = (M, ⟨xa, xb⟩) ∧ Sta W (U ++ [tAt runE A n cap l, tBlk [16] pb #[.int .u64 xa, .int .u64 xb], tRow runE [15] vP M]) wr) (fun _ s _ => n - (intOf s).toNat)
  case atStart => exact ⟨0, _, ra, rb, [], Nat.zero_le _, rfl, rfl, rfl, S2.out⟩
  case round =>
    obtain ⟨k, vP, xa, xb, M, hk, rfl, rfl, hfold, hs⟩ := hrel
    have HR := Lib.hid hs; have HFO := Lib.hid hfold
    have hMl : M.length ≤ k := by
      have := stepC_len (l.take k) [] ⟨ra, rb⟩
      rw [hfold] at this
      simp at this; omega
    clear S2 hfold
    by_cases hlt : k < n
    · have hlt' : (k : Int) < (n : Int) := by omega
      obtain ⟨bb, off, x, rfl, zx, hx, d0, d1⟩ := run_cell (hs.at (E := runE) (hl'.out 0 _ _ rfl)) hlt
      have zx : bb < wr.heap.size := zx
      have HFT := Lib.hid (show (l.take (k + 1)).foldl stepC ([], ⟨ra, rb⟩) = stepC (M, ⟨xa, xb⟩) x from by rw [foldl_take stepC _ hx, HFO.out])
      clear hs hx
      go_upto_region 5 with fail
      obtain ⟨ya, yb⟩ := x
      dsimp only at *
      refine wp_abs (fun wy => Sta W (U ++ [tAt runE (some ⟨bb, off, none⟩) n cap l, tBlk [16] pb #[.int .u64 xa, .int .u64 xb], tRow runE [15] u4 M, tBox wr.heap.size #[.int .u64 ya, .int .u64 yb]]) wy) (by
        have q := HR.out.addBox #[.int .u64 ya, .int .u64 yb] 156
        rw [List.append_assoc] at q
        exact q) ?_
      generalize wr.heap.size = yp
      intro wy hsy
      have S5 := Lib.hid hsy
      have hbx := hsy.box (hl'.out 3 _ _ rfl)
      have y0 : wy.cell? ⟨yp, 0, none⟩ = some (.int .u64 ya) := hbx.cell 0
      have y1 : wy.cell? ⟨yp, 1, none⟩ = some (.int .u64 yb) := hbx.cell 1
      have zy := hbx.lt
      have hbr := hsy.blk (hl'.out 1 _ _ rfl)
      have r0 : wy.cell? ⟨pb, 0, none⟩ = some (.int .u64 xa) := hbr.cell 0
      have r1 : wy.cell? ⟨pb, 1, none⟩ = some (.int .u64 xb) := hbr.cell 1
      have fr := hbr.free; have zr := hbr.lt
      clear hsy hbx hbr d0 d1 zx HR
      by_cases g1 : yb < xa
      · have HST := Lib.hid (HFT.out.trans (stepC_keep (s := (M, ⟨xa, xb⟩)) (x := ⟨ya, yb⟩) (.inl g1)))
        go_wp2_with (at_builtin; go_loud (refine Sta.wpList_push (E := runE) (r := ⟨ya, yb⟩) (U.length + 2) rfl _ _ rfl u4 rfl S5.out (hl'.out 2 _ _ rfl) (by simp) rfl (fun c h => rfl) (by omega) ?_; intro B6 c6 w6 st6; have S6 := Lib.hid (show Sta W (U ++ [tAt runE (some ⟨bb, off, none⟩) n cap l, tBlk [16] pb #[.int .u64 xa, .int .u64 xb], tRow runE [15] (.slice B6 (M.length + 1) c6) (M ++ [⟨ya, yb⟩]), tBox yp #[.int .u64 ya, .int .u64 yb]]) w6 from by rw [List.set_append_right _ _ (by omega), show U.length + 2 - U.length = 2 by omega] at st6; exact st6); clear st6 S5))
        go_roundw
        case rel => exact ⟨k + 1, _, xa, xb, M ++ [⟨ya, yb⟩], by omega, rfl, by go_num, HST.out, S6.out.pick (List.Sublist.append (List.Sublist.refl _) (.cons_cons _ (.cons_cons _ (.cons_cons _ (List.nil_sublist _)))))⟩
        case measure => simp [intOf]; omega
      · by_cases g2 : xb < ya
        · have HST := Lib.hid (HFT.out.trans (stepC_keep (s := (M, ⟨xa, xb⟩)) (x := ⟨ya, yb⟩) (.inr g2)))
          go_wp2_with (at_builtin; go_loud (refine Sta.wpList_push (E := runE) (r := ⟨ya, yb⟩) (U.length + 2) rfl _ _ rfl u4 rfl S5.out (hl'.out 2 _ _ rfl) (by simp) rfl (fun c h => rfl) (by omega) ?_; intro B6 c6 w6 st6; have S6 := Lib.hid (show Sta W (U ++ [tAt runE (some ⟨bb, off, none⟩) n cap l, tBlk [16] pb #[.int .u64 xa, .int .u64 xb], tRow runE [15] (.slice B6 (M.length + 1) c6) (M ++ [⟨ya, yb⟩]), tBox yp #[.int .u64 ya, .int .u64 yb]]) w6 from by rw [List.set_append_right _ _ (by omega), show U.length + 2 - U.length = 2 by omega] at st6; exact st6); clear st6 S5))
          go_roundw
          case rel => exact ⟨k + 1, _, xa, xb, M ++ [⟨ya, yb⟩], by omega, rfl, by go_num, HST.out, S6.out.pick (List.Sublist.append (List.Sublist.refl _) (.cons_cons _ (.cons_cons _ (.cons_cons _ (List.nil_sublist _)))))⟩
          case measure => simp [intOf]; omega
        · have HST := Lib.hid (HFT.out.trans (stepC_join (s := (M, ⟨xa, xb⟩)) (x := ⟨ya, yb⟩) g1 g2))
          obtain ⟨m1, hm1⟩ : ∃ m1, min xa ya = m1 := ⟨_, rfl⟩
          obtain ⟨m2, hm2⟩ : ∃ m2, max xb yb = m2 := ⟨_, rfl⟩
          dsimp only at HST
          rw [hm1, hm2] at HST
          go_upto_region 8 with fail
          have S6 := Lib.hid ((S5.out.storeR 1 0 (.int .u64 m1) rfl (by simp) rfl).storeR 1 1 (.int .u64 m2) rfl (by simp) rfl)
          clear S5 y0 y1 r0 r1 zy zr fr
          go_wp2
          go_roundw
          case rel => exact ⟨k + 1, _, m1, m2, M, by omega, rfl, by go_num, HST.out, S6.out.pick (List.Sublist.append (List.Sublist.refl _) (.cons_cons _ (.cons_cons _ (.cons_cons _ (List.nil_sublist _)))))⟩
          case measure => simp [intOf]; omega
    · obtain rfl : k = n := by omega
      have HF2 := Lib.hid (show l.foldl stepC ([], ⟨ra, rb⟩) = (M, ⟨xa, xb⟩) from by have := HFO.out; rwa [List.take_of_length_le (by rw [HLN.out]; exact Nat.le_refl _)] at this)
      obtain ⟨B2, c2, rfl, m1, m2, m3, m4, mat⟩ := hs.rowAt (hl'.out 2 _ _ rfl)
      have HAT := Lib.hid mat
      have hbr := hs.blk (hl'.out 1 _ _ rfl)
      have r0 : wr.cell? ⟨pb, 0, none⟩ = some (.int .u64 xa) := hbr.cell 0
      have zr := hbr.lt; have fr := hbr.free
      obtain ⟨mn, hmn⟩ : ∃ mn, M.length = mn := ⟨_, rfl⟩
      have HMN := Lib.hid hmn
      rw [hmn] at HAT HR hs hMl ⊢
      clear hmn hs mat m1 m2 m3 m4 hbr HFO
      clear r0 zr fr HAT
      go_upto_region 10 with fail
      go_loopw [7] (fun s7 wq => ∃ j : Nat, j ≤ mn ∧ s7 = .int .i64 j ∧ (∀ (q : Nat) x, q < j → M[q]? = some x → x.a < xa) ∧ Sta W (U ++ [tAt runE A k cap l, tBlk [16] pb #[.int .u64 xa, .int .u64 xb], tRow runE [15] (.slice B2 mn c2) M]) wq) (fun s _ => mn - (intOf s).toNat)
      case atStart => exact ⟨0, Nat.zero_le _, rfl, fun q x hq => by omega, HR.out⟩
      case round =>
        obtain ⟨j, hj, rfl, hall, hs⟩ := hrel
        have HQ := Lib.hid hs; have HALL := Lib.hid hall
        clear HR hall
        obtain ⟨B2', c2', he, -, -, -, -, mat⟩ := hs.rowAt (hl'.out 2 _ _ rfl)
        injection he with he1 he2 he3
        subst he1 he3
        clear he2
        rw [HMN.out] at mat
        have hbr := hs.blk (hl'.out 1 _ _ rfl)
        have r0 : wr.cell? ⟨pb, 0, none⟩ = some (.int .u64 xa) := hbr.cell 0
        have r1 : wr.cell? ⟨pb, 1, none⟩ = some (.int .u64 xb) := hbr.cell 1
        have zr := hbr.lt; have fr := hbr.free
        clear hs hbr
        by_cases hjl : j < mn
        · have hjl' : (j : Int) < (mn : Int) := by omega
          obtain ⟨bb, off, x, rfl, zx, hx, d0, d1⟩ := run_cell mat hjl
          have zx : bb < wr.heap.size := zx
          obtain ⟨ya, yb⟩ := x
          have HX := Lib.hid hx
          dsimp only at *
          clear mat hx
          by_cases hg : ya < xa
          · go_upto_region 10 with fail
            go_quiet (fail)
            go_wp2
            go_roundw
            case rel => exact ⟨j + 1, by omega, by go_num, fun q x hq hx => by
              by_cases hqj : q < j
              · exact HALL.out q x hqj hx
              · obtain rfl : q = j := by omega
                rw [HX.out] at hx
                injection hx with hx
                subst hx
                exact hg, HQ.out.later (by repeat (first | exact Below.refl _ _ | assumption | apply Below.drew | apply belowN | (refine Below.alloc ?_ (by first | exact Nat.le_refl _ | (simp; done) | (simp; omega)) _) | (refine Below.setCell ?_ (by first | exact Nat.le_refl _ | (simp; done) | (simp; omega)) _)))⟩
            case measure => simp [intOf]; omega
          · have HSP := Lib.hid (show spotC M ⟨xa, xb⟩ = j from spot_at HALL.out (fun x hx => by rw [HX.out] at hx; injection hx with hx; subst hx; exact hg) (by rw [HMN.out]; omega))
            go_upto_region 10 with fail
            go_quiet (fail)
            go_upto_region 12 with fail
            refine wp_abs (fun wx => Sta W (U ++ [tAt runE A k cap l, tBlk [16] pb #[.int .u64 xa, .int .u64 xb], tRow runE [15] (.slice (some ⟨bb, off, none⟩) mn c2) M]) wx) (HQ.out.later (by repeat (first | exact Below.refl _ _ | assumption | apply Below.drew | apply belowN | (refine Below.alloc ?_ (by first | exact Nat.le_refl _ | (simp; done) | (simp; omega)) _) | (refine Below.setCell ?_ (by first | exact Nat.le_refl _ | (simp; done) | (simp; omega)) _)))) ?_
            intro wx hsx
            have SX := Lib.hid hsx
            have hbr := hsx.blk (hl'.out 1 _ _ rfl)
            have r0 : wx.cell? ⟨pb, 0, none⟩ = some (.int .u64 xa) := hbr.cell 0
            have r1 : wx.cell? ⟨pb, 1, none⟩ = some (.int .u64 xb) := hbr.cell 1
            have zr := hbr.lt; have fr := hbr.free
            have hui := (List.getElem?_eq_some_iff.1 HUI.out).1
            clear hsx hbr HQ
            have HEQ := Lib.hid (show addC l ⟨ra, rb⟩ = M.take j ++ ⟨xa, xb⟩ :: M.drop j from by unfold addC; rw [HF2.out]; unfold putC; dsimp only; rw [HSP.out])
            go_wp2_with (go_at_call 117; go_loud (refine (Sta.insR (x := ⟨xa, xb⟩) (i := j) (U.length + 2) 156 SX.out (hl'.out 2 _ _ rfl) (by simp) (by rw [HMN.out]; omega) (by rw [HMN.out]; omega)).mono ?_; rw [HMN.out]; rintro e8 w8 ⟨B8, c8, rfl, hs8⟩; have S8 := Lib.hid (show Sta W (U ++ [tAt runE A k cap l, tBlk [16] pb #[.int .u64 xa, .int .u64 xb], tRow runE [15] (.slice B8 (mn + 1) c8) (M.take j ++ ⟨xa, xb⟩ :: M.drop j)]) w8 from by rw [List.set_append_right _ _ (by omega), show U.length + 2 - U.length = 2 by omega] at hs8; exact hs8); have hb8 := S8.out.blk (i := i) (by rw [List.getElem?_append_left hui]; exact HUI.out); have c38 : w8.cell? ⟨b, 3, none⟩ = some (.slice A k cap) := hb8.cell 3; have f8 := hb8.free; have z8 := hb8.lt; clear hs8 hb8))
            have hlen2 : (M.take j ++ (⟨xa, xb⟩ : Run) :: M.drop j).length = mn + 1 := by simp; have := HMN.out; omega
            have S9 := Lib.hid (show Sta W (U.set i (tBlk π b (covC f t B8 (mn + 1) c8)) ++ [tAt runE A k cap l, tBlk [16] pb #[.int .u64 xa, .int .u64 xb], tRow runE [15] (.slice B8 (mn + 1) c8) (M.take j ++ ⟨xa, xb⟩ :: M.drop j)]) (w8.setCell ⟨b, 3, none⟩ (.slice B8 (mn + 1) c8)) from
              S8.out.store (i := i) (π := π) (b := b) (C := covC f t A k cap) 3 (.slice B8 (mn + 1) c8) (by rw [List.getElem?_append_left hui]; exact HUI.out) hπ (by rw [List.set_append_left _ _ hui]; rfl))
            have SA := S9.out.freeze (i := U.length + 2) (E := runE) (π := [15]) (A := B8) (n := mn + 1) (cap := c8) (l := M.take j ++ ⟨xa, xb⟩ :: M.drop j) (by rw [List.getElem?_append_right (by simp), List.length_set, show U.length + 2 - U.length = 2 by omega]; rfl) (by simp) rfl
            have SB := SA.covShut (i := i) (j := U.length + 2) (π := π) (b := b) (f := f) (t := t) (A := B8) (n := mn + 1) (cap := c8) (l := M.take j ++ ⟨xa, xb⟩ :: M.drop j) (by rw [List.getElem?_set_ne (by omega), List.getElem?_append_left (by simpa using hui), List.getElem?_set_self hui]) (by rw [List.getElem?_set_self (by simp)])
            have SC := Lib.hid SB
            clear SA SB S9 S8
            refine bodyPost_end (results_none Tryz.results108 _ _ _) rfl ?_
            refine ⟨rfl, ?_⟩
            rw [HEQ.out]
            have := SC.out
            rw [List.set_append_right _ _ (by simp), List.set_append_left _ _ (by simpa using hui), List.set_set, HUS.out] at this
            exact this.pick (List.sublist_append_left _ _)
        · have hjm : j = mn := by omega
          subst hjm
          have hjl' : ¬ (j : Int) < (j : Int) := by omega
          have HSP := Lib.hid (show spotC M ⟨xa, xb⟩ = j from spot_at HALL.out (fun x hx => by have := (List.getElem?_eq_some_iff.1 hx).1; rw [HMN.out] at this; omega) (by rw [HMN.out]; exact Nat.le_refl _))
          go_upto_region 10 with fail
          go_quiet (fail)
          go_upto_region 12 with fail
          refine wp_abs (fun wx => Sta W (U ++ [tAt runE A k cap l, tBlk [16] pb #[.int .u64 xa, .int .u64 xb], tRow runE [15] (.slice B2 j c2) M]) wx) (HQ.out.later (by repeat (first | exact Below.refl _ _ | assumption | apply Below.drew | apply belowN | (refine Below.alloc ?_ (by first | exact Nat.le_refl _ | (simp; done) | (simp; omega)) _) | (refine Below.setCell ?_ (by first | exact Nat.le_refl _ | (simp; done) | (simp; omega)) _)))) ?_
          intro wx hsx
          have SX := Lib.hid hsx
          have hbr := hsx.blk (hl'.out 1 _ _ rfl)
          have r0 : wx.cell? ⟨pb, 0, none⟩ = some (.int .u64 xa) := hbr.cell 0
          have r1 : wx.cell? ⟨pb, 1, none⟩ = some (.int .u64 xb) := hbr.cell 1
          have zr := hbr.lt; have fr := hbr.free
          have hui := (List.getElem?_eq_some_iff.1 HUI.out).1
          clear hsx hbr HQ
          have HEQ := Lib.hid (show addC l ⟨ra, rb⟩ = M.take j ++ ⟨xa, xb⟩ :: M.drop j from by unfold addC; rw [HF2.out]; unfold putC; dsimp only; rw [HSP.out])
          go_wp2_with (go_at_call 117; go_loud (refine (Sta.insR (x := ⟨xa, xb⟩) (i := j) (U.length + 2) 156 SX.out (hl'.out 2 _ _ rfl) (by simp) (by rw [HMN.out]; omega) (by rw [HMN.out]; omega)).mono ?_; rw [HMN.out]; rintro e8 w8 ⟨B8, c8, rfl, hs8⟩; have S8 := Lib.hid (show Sta W (U ++ [tAt runE A k cap l, tBlk [16] pb #[.int .u64 xa, .int .u64 xb], tRow runE [15] (.slice B8 (j + 1) c8) (M.take j ++ ⟨xa, xb⟩ :: M.drop j)]) w8 from by rw [List.set_append_right _ _ (by omega), show U.length + 2 - U.length = 2 by omega] at hs8; exact hs8); have hb8 := S8.out.blk (i := i) (by rw [List.getElem?_append_left hui]; exact HUI.out); have c38 : w8.cell? ⟨b, 3, none⟩ = some (.slice A k cap) := hb8.cell 3; have f8 := hb8.free; have z8 := hb8.lt; clear hs8 hb8))
          have hlen2 : (M.take j ++ (⟨xa, xb⟩ : Run) :: M.drop j).length = j + 1 := by simp; have := HMN.out; omega
          have S9 := Lib.hid (show Sta W (U.set i (tBlk π b (covC f t B8 (j + 1) c8)) ++ [tAt runE A k cap l, tBlk [16] pb #[.int .u64 xa, .int .u64 xb], tRow runE [15] (.slice B8 (j + 1) c8) (M.take j ++ ⟨xa, xb⟩ :: M.drop j)]) (w8.setCell ⟨b, 3, none⟩ (.slice B8 (j + 1) c8)) from
            S8.out.store (i := i) (π := π) (b := b) (C := covC f t A k cap) 3 (.slice B8 (j + 1) c8) (by rw [List.getElem?_append_left hui]; exact HUI.out) hπ (by rw [List.set_append_left _ _ hui]; rfl))
          have SA := S9.out.freeze (i := U.length + 2) (E := runE) (π := [15]) (A := B8) (n := j + 1) (cap := c8) (l := M.take j ++ ⟨xa, xb⟩ :: M.drop j) (by rw [List.getElem?_append_right (by simp), List.length_set, show U.length + 2 - U.length = 2 by omega]; rfl) (by simp) rfl
          have SB := SA.covShut (i := i) (j := U.length + 2) (π := π) (b := b) (f := f) (t := t) (A := B8) (n := j + 1) (cap := c8) (l := M.take j ++ ⟨xa, xb⟩ :: M.drop j) (by rw [List.getElem?_set_ne (by omega), List.getElem?_append_left (by simpa using hui), List.getElem?_set_self hui]) (by rw [List.getElem?_set_self (by simp)])
          have SC := Lib.hid SB
          clear SA SB S9 S8
          refine bodyPost_end (results_none Tryz.results108 _ _ _) rfl ?_
          refine ⟨rfl, ?_⟩
          rw [HEQ.out]
          have := SC.out
          rw [List.set_append_right _ _ (by simp), List.set_append_left _ _ (by simpa using hui), List.set_set, HUS.out] at this
          exact this.pick (List.sublist_append_left _ _)
end Go.Proofs.YtdpamikobmefeaaGreat

namespace Go.Proofs.YtdpamikobmefeaaGreat
open Go.RowKit Go.ChangeShapes
set_option maxRecDepth 100000
set_option linter.unusedVariables false
set_option linter.unusedSimpArgs false

theorem addsC_take {l rs : List Run} {k : Nat} {x : Run} (h : rs[k]? = some x) : addsC l (rs.take (k + 1)) = addC (addsC l (rs.take k)) x := by
  unfold addsC
  exact foldl_take addC l h
theorem addsC_len : ∀ (rs l : List Run), (addsC l rs).length ≤ l.length + rs.length
  | [], l => by simp [addsC]
  | x :: t, l => by
    have := addsC_len t (addC l x)
    have h2 := addC_len l x
    unfold addsC at this ⊢
    simp only [List.foldl_cons, List.length_cons]
    omega
/-- What is covered of a span by another one. -/
def covF (f t sf st : Int) (l : List Run) : List Run := addsC l (runsF (sizeF f t) (farF f sf) (farF f sf + sizeF sf st))
theorem covF_ok {f t sf st : Int} {l : List Run} (hf : U32 f) (ht : U32 t) (h1 : U32 sf) (h2 : U32 st) (h : RunsOk (sizeF f t) l) : RunsOk (sizeF f t) (covF f t sf st l) := by
  have q1 := size_pos hf ht
  have q2 := (size_bd f t).2
  have q3 := far_bd f sf
  have q4 := size_pos h1 h2
  exact addsC_ok h (runsF_ok (by omega) (by omega) (by omega) (by omega) (by omega))
theorem covF_len (f t sf st : Int) (l : List Run) : (covF f t sf st l).length ≤ l.length + 2 := by
  have := addsC_len (runsF (sizeF f t) (farF f sf) (farF f sf + sizeF sf st)) l
  have h2 := runsF_len (sizeF f t) (farF f sf) (farF f sf + sizeF sf st)
  unfold covF
  omega
set_option maxHeartbeats 8000000 in
theorem cov_add {W w : World} {ts : List Thing} {π : List Int} {b i : Nat} {f t sf st : Int} {l : List Run} (h : Sta W ts w) (hi : ts[i]? = some (tCov π b f t l)) (hπ : π ≠ []) (ho : ∀ x ∈ ts, x.π ≠ [15] ∧ x.π ≠ [16]) (hf : U32 f) (ht : U32 t) (h1 : U32 sf) (h2 : U32 st) (hok : RunsOk (sizeF f t) l) (hlen : l.length ≤ 900) :
    Calls Tryz.prog 83 #[.pointer (some ⟨b, 0, none⟩), .agg #[.int .u32 sf, .int .u32 st]] w fun e w' => ∃ v, e = .returned (.int .u64 v) ∧ Sta W (ts.set i (tCov π b f t (covF f t sf st l))) w' := by
  have hilt := (List.getElem?_eq_some_iff.1 hi).1
  obtain ⟨R, hR⟩ : ∃ R, runsF (sizeF f t) (farF f sf) (farF f sf + sizeF sf st) = R := ⟨_, rfl⟩
  have hRl : R.length ≤ 2 := by rw [← hR]; exact runsF_len _ _ _
  have hRok : ∀ r ∈ R, r.ok (sizeF f t) := by
    have q1 := size_pos hf ht
    have q2 := (size_bd f t).2
    have q3 := far_bd f sf
    have q4 := size_pos h1 h2
    rw [← hR]
    exact runsF_ok (by omega) (by omega) (by omega) (by omega) (by omega)
  have HE := Lib.hid (show covF f t sf st l = addsC l R from by unfold covF; rw [hR])
  have HR := Lib.hid hR; have HO := Lib.hid ho; have HI := Lib.hid hi; have HOK := Lib.hid hok; have HRO := Lib.hid hRok
  have HF := Lib.hid hf; have HT := Lib.hid ht; have H1 := Lib.hid h1; have H2 := Lib.hid h2
  have S1 := Lib.hid (show Sta W (ts ++ [tBox w.heap.size #[.int .u32 sf, .int .u32 st]]) (w.alloc (.cells #[.int .u32 sf, .int .u32 st] 56)) from h.addBox _ _)
  clear h hi ho hok hR hRok hf ht h1 h2
  go_enter Tryz.func83, Tryz.ntmps83
  go_upto_region 3 with fail
  revert S1
  generalize w.heap.size = pb
  generalize (w.alloc (.cells #[.int .u32 sf, .int .u32 st] 56)) = wa
  intro S1
  go_upto_region 4 with (go_at_call 106; go_loud (refine (cov_left S1.out (i := i) (by rw [List.getElem?_append_left hilt]; exact HI.out) HF.out HT.out HOK.out (by omega)).mono ?_; rintro e1 w1 ⟨rfl, hb1⟩; have S2 := Lib.hid (S1.out.later hb1); clear hb1))
  obtain ⟨A, n, cap, hbx, -, -⟩ := S2.out.covAt (i := i) (by rw [List.getElem?_append_left hilt]; exact HI.out)
  have c0 : w1.cell? ⟨b, 0, none⟩ = some (.int .u32 f) := hbx.cell 0
  have c1 : w1.cell? ⟨b, 1, none⟩ = some (.int .u32 t) := hbx.cell 1
  have fb := hbx.free; have zb := hbx.lt
  have hpx := S2.out.box (i := ts.length) (by rw [List.getElem?_append_right (Nat.le_refl _), Nat.sub_self]; rfl)
  have p0 : w1.cell? ⟨pb, 0, none⟩ = some (.int .u32 sf) := hpx.cell 0
  have p1 : w1.cell? ⟨pb, 1, none⟩ = some (.int .u32 st) := hpx.cell 1
  have zp := hpx.lt
  clear hbx hpx S1
  go_region_held3 (fun w' => Same w1 w') (with_reducible (first | assumption | exact Same.drew _))
    ((go_at_call 107; (refine (runs_any (S2.out.later (show Same w1 _ by (with_reducible (first | assumption | exact Same.drew _))).1) HF.out HT.out H1.out H2.out).mono ?_); rw [HR.out]; rintro e2 w2 ⟨B, m, c, rfl, hs2, hb2⟩; have Sx := Same.step (show Same w1 _ by (with_reducible (first | assumption | exact Same.drew _))) hb2; have S3 := Lib.hid hs2; clear hb2 hs2))
  all_goals
    rename_i hq0
    clear hq0
    have hmm : R.length = m := by
      have hat := S3.out.at (E := runE) (i := (ts ++ [tBox pb #[Value.int .u32 sf, .int .u32 st]]).length) (A := B) (n := m) (cap := c) (l := R) (by rw [List.getElem?_append_right (Nat.le_refl _), Nat.sub_self]; rfl)
      exact hat.1
    have HMM := Lib.hid hmm
    have hm2 : m ≤ 2 := by omega
    have S4 := Lib.hid (show Sta W (ts ++ [tAt runE B m c R]) w2 from S3.out.pick (by rw [List.append_assoc]; exact List.Sublist.append (List.Sublist.refl _) (.cons _ (List.Sublist.refl _))))
    clear hmm S3 S2 Sx c0 c1 fb zb p0 p1 zp
    go_wp2
    go_loopw [19] (fun s19 wr => ∃ k : Nat, k ≤ m ∧ s19 = .int .i64 k ∧ Sta W (ts.set i (tCov π b f t (addsC l (R.take k))) ++ [tAt runE B m c R]) wr) (fun s _ => m - (intOf s).toNat)
    case atStart =>
      refine ⟨0, Nat.zero_le _, rfl, ?_⟩
      have e : ts.set i (tCov π b f t (addsC l (R.take 0))) = ts := set_same HI.out
      rw [e]
      exact S4.out
    case round =>
      obtain ⟨k, hk, rfl, hs⟩ := hrel
      have HS := Lib.hid hs
      clear S4
      by_cases hlt : k < m
      · have hlt' : (k : Int) < (m : Int) := by omega
        obtain ⟨bb, off, x, rfl, zx, hx, d0, d1⟩ := run_cell (hs.at (E := runE) (i := (ts.set i (tCov π b f t (addsC l (R.take k)))).length) (A := B) (n := m) (cap := c) (l := R) (by rw [List.getElem?_append_right (Nat.le_refl _), Nat.sub_self]; rfl)) hlt
        have zx : bb < wr.heap.size := zx
        obtain ⟨xa, xb⟩ := x
        have HK := Lib.hid (addsC_take (l := l) hx)
        have hll := addsC_len (R.take k) l
        have hll2 : (addsC l (R.take k)).length ≤ 1000 := by have : (R.take k).length ≤ R.length := List.length_take_le' _ _; omega
        dsimp only at *
        clear hs hx hll
        generalize addsC l (R.take k) = lk at HS HK hll2
        go_upto_region 7 with fail
        refine wp_abs (fun wy => Sta W (ts.set i (tCov π b f t lk) ++ [tAt runE (some ⟨bb, off, none⟩) m c R, tBox wr.heap.size #[.int .u64 xa, .int .u64 xb]]) wy) (by
          have q := HS.out.addBox #[.int .u64 xa, .int .u64 xb] 156
          rw [List.append_assoc] at q
          exact q) ?_
        generalize wr.heap.size = yp
        intro wy hsy
        have S5 := Lib.hid hsy
        have hbx := hsy.box (i := (ts.set i (tCov π b f t lk)).length + 1) (by rw [List.getElem?_append_right (by omega), Nat.add_sub_cancel_left]; rfl)
        have y0 : wy.cell? ⟨yp, 0, none⟩ = some (.int .u64 xa) := hbx.cell 0
        have y1 : wy.cell? ⟨yp, 1, none⟩ = some (.int .u64 xb) := hbx.cell 1
        have zy := hbx.lt
        have HO5 := Lib.hid (show ∀ x ∈ ts.set i (tCov π b f t lk) ++ [tAt runE (some ⟨bb, off, none⟩) m c R, tBox yp #[.int .u64 xa, .int .u64 xb]], x.π ≠ [15] ∧ x.π ≠ [16] from fun x hx => by
          simp only [List.mem_append, List.mem_cons, List.not_mem_nil, or_false] at hx
          rcases hx with hx | rfl | rfl
          · rcases List.mem_or_eq_of_mem_set hx with hx | rfl
            · exact HO.out x hx
            · exact HO.out (tCov π b f t l) (List.mem_of_getElem? HI.out)
          · simp [tAt]
          · simp [tBox])
        clear hsy hbx d0 d1 zx HS
        go_wp2_with (go_at_call 108; go_loud (refine (cov_add1 (i := i) (π := π) (f := f) (t := t) (l := lk) S5.out (by rw [List.getElem?_append_left (by simpa using hilt), List.getElem?_set_self hilt]) hπ HO5.out hll2).mono ?_; rintro e5 w5 ⟨rfl, hs5⟩; have S6 := Lib.hid hs5; clear hs5))
        go_roundw
        case rel =>
          refine ⟨k + 1, by omega, by go_num, ?_⟩
          rw [HK.out]
          have := S6.out
          rw [List.set_append_left _ _ (by simpa using hilt), List.set_set] at this
          exact this.pick (List.Sublist.append (List.Sublist.refl _) (.cons_cons _ (List.nil_sublist _)))
        case measure => simp [intOf]; omega
      · obtain rfl : k = m := by omega
        have hlt' : ¬ (k : Int) < (k : Int) := by omega
        rw [List.take_of_length_le (by rw [HMM.out]; exact Nat.le_refl _)] at HS
        rw [← HE.out] at HS
        have HOK2 := Lib.hid (covF_ok (sf := sf) (st := st) HF.out HT.out H1.out H2.out HOK.out)
        have hl2 := covF_len f t sf st l
        clear hs
        obtain ⟨l2, hl2e⟩ : ∃ l2, covF f t sf st l = l2 := ⟨_, rfl⟩
        rw [hl2e] at HS HOK2 hl2
        have HE2 := Lib.hid hl2e
        clear hl2e
        go_wp2_with (go_at_call 106; go_loud (refine (cov_left HS.out (i := i) (by rw [List.getElem?_append_left (by simpa using hilt), List.getElem?_set_self hilt]) HF.out HT.out HOK2.out (by omega)).mono ?_; rintro e7 w7 ⟨rfl, hb7⟩; have S7 := Lib.hid (HS.out.later hb7); clear hb7))
        go_ret
        exact ⟨_, rfl, by rw [HE2.out]; exact S7.out.pick (List.sublist_append_left _ _)⟩
end Go.Proofs.YtdpamikobmefeaaGreat
