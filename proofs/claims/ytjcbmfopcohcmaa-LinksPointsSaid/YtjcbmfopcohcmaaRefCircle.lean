/- The document's spans: step, Size, Has; its copies of records and entries. Conditions: the arguments are numbers of their kinds, the values read so. -/
import Derived.Test.YtjcbmfopcohcmaaCircle
import Derived.Test.YtjcbmfopcohcmaaEntry
import Derived.Test.YtjcbmfopcohcmaaEntRow
namespace Go.Proofs.Ytjcbmfopcohcmaa
open Go.RowKit Go.ChangeShapes
set_option maxRecDepth 100000
set_option linter.unusedVariables false
set_option linter.unusedSimpArgs false

def stepR (f v : Int) : Int := if v = f then 4294967296 else farF f v
theorem rsize_any (a b : Int) (w : World) : Calls Try.prog 110 #[.agg #[.int .u32 a, .int .u32 b]] w fun e w' => e = .returned (.int .u64 (sizeF a b)) ∧ Below w.heap.size w w' := by
  have h := u32w (b - a)
  by_cases hab : a = b
  · subst hab
    have hs : sizeF a a = 4294967296 := if_pos rfl
    rw [hs]
    go_enter Try.func110, Try.ntmps110
    go_wp2
    go_ret
    exact ⟨rfl, (by repeat (first | exact Below.refl _ _ | assumption | apply Below.drew | apply belowN | (refine Below.alloc ?_ (by first | exact Nat.le_refl _ | (simp; done) | (simp; omega)) _) | (refine Below.setCell ?_ (by first | exact Nat.le_refl _ | (simp; done) | (simp; omega)) _)))⟩
  · have hs : sizeF a b = (b - a) % 4294967296 := if_neg hab
    rw [hs]
    have hne : (a == b) = false := by rw [beq_eq_false_iff_ne]; exact hab
    have hw2 : IntKind.u64.wrap ((b - a) % 4294967296) = (b - a) % 4294967296 := by simp [IntKind.wrap, IntKind.bits, IntKind.signed]; omega
    clear hs
    go_enter Try.func110, Try.ntmps110
    go_wp2
    go_ret
    exact ⟨by first | rfl | (simp [hw2, u32w]), (by repeat (first | exact Below.refl _ _ | assumption | apply Below.drew | apply belowN | (refine Below.alloc ?_ (by first | exact Nat.le_refl _ | (simp; done) | (simp; omega)) _) | (refine Below.setCell ?_ (by first | exact Nat.le_refl _ | (simp; done) | (simp; omega)) _)))⟩
theorem rstep_any (a b v : Int) (w : World) : Calls Try.prog 109 #[.agg #[.int .u32 a, .int .u32 b], .int .u32 v] w fun e w' => e = .returned (.int .u64 (stepR a v)) ∧ Below w.heap.size w w' := by
  have h := u32w (v - a)
  by_cases hab : v = a
  · subst hab
    have hs : stepR v v = 4294967296 := if_pos rfl
    rw [hs]
    go_enter Try.func109, Try.ntmps109
    go_wp2
    go_ret
    exact ⟨rfl, (by repeat (first | exact Below.refl _ _ | assumption | apply Below.drew | apply belowN | (refine Below.alloc ?_ (by first | exact Nat.le_refl _ | (simp; done) | (simp; omega)) _) | (refine Below.setCell ?_ (by first | exact Nat.le_refl _ | (simp; done) | (simp; omega)) _)))⟩
  · have hs : stepR a v = (v - a) % 4294967296 := if_neg hab
    rw [hs]
    have hne : (v == a) = false := by rw [beq_eq_false_iff_ne]; exact hab
    have hw2 : IntKind.u64.wrap ((v - a) % 4294967296) = (v - a) % 4294967296 := by simp [IntKind.wrap, IntKind.bits, IntKind.signed]; omega
    clear hs
    go_enter Try.func109, Try.ntmps109
    go_wp2
    go_ret
    exact ⟨by first | rfl | (simp [hw2, u32w]), (by repeat (first | exact Below.refl _ _ | assumption | apply Below.drew | apply belowN | (refine Below.alloc ?_ (by first | exact Nat.le_refl _ | (simp; done) | (simp; omega)) _) | (refine Below.setCell ?_ (by first | exact Nat.le_refl _ | (simp; done) | (simp; omega)) _)))⟩
theorem hasF_step {a b v : Int} (ha : U32 a) (hv : U32 v) : hasF a b v = decide (stepR a v ≤ sizeF a b) := by
  obtain ⟨a0, a1⟩ := ha
  obtain ⟨v0, v1⟩ := hv
  unfold hasF stepR sizeF farF
  rw [Bool.eq_iff_iff]
  simp only [decide_eq_true_eq]
  split <;> split <;> omega
set_option maxHeartbeats 1000000 in
theorem rhas_any (a b v : Int) (w : World) (ha : U32 a) (hv : U32 v) : Calls Try.prog 87 #[.agg #[.int .u32 a, .int .u32 b], .int .u32 v] w fun e w' => e = .returned (.bool (hasF a b v)) ∧ Below w.heap.size w w' := by
  rw [hasF_step ha hv]
  have hf := Lib.hid (rstep_any a b v)
  have hs := Lib.hid (rsize_any a b)
  generalize stepR a v = f at *
  generalize sizeF a b = z at *
  go_enter Try.func87, Try.ntmps87
  go_upto_region 1 with fail
  refine wp_abs (fun wx => Box wx w.heap.size #[.int .u32 a, .int .u32 b] ∧ Below w.heap.size w wx) ⟨(by repeat (first | apply Box.drew | apply Box.drewN | exact Box.newAt _ _ _ _ (by first | rfl | (simp only [size_alloc]; done) | (simp only [size_alloc]; omega)) | assumption | refine Box.alloc ?_ _)), (by repeat (first | exact Below.refl _ _ | assumption | apply Below.drew | apply belowN | (refine Below.alloc ?_ (by first | exact Nat.le_refl _ | (simp; done) | (simp; omega)) _) | (refine Below.setCell ?_ (by first | exact Nat.le_refl _ | (simp; done) | (simp; omega)) _)))⟩ ?_
  generalize hb3 : w.heap.size = b3
  rintro wx ⟨X, hB⟩
  have HW := Lib.hid hb3
  have c3 := X.cell; have z3 := X.lt
  have HX := Lib.hid X
  have HB := Lib.hid hB
  have S0 := Same.of (Below.refl wx.heap.size wx)
  clear X hB hb3
  go_region_held3 (fun w' => Same wx w') (with_reducible (first | assumption | exact Same.drew _))
    (first
    | (go_at_call 109; (with_reducible refine (hf.out _).mono ?_); rintro e w2 ⟨rfl, hb2⟩; have S1 := Same.step (show Same wx _ by (with_reducible (first | assumption | exact Same.drew _))) hb2; clear hb2)
    | (go_at_call 110; (with_reducible refine (hs.out _).mono ?_); rintro e w2 ⟨rfl, hb2⟩; have S1 := Same.step (show Same wx _ by (with_reducible (first | assumption | exact Same.drew _))) hb2; clear hb2))
  all_goals
    go_wp2
    go_ret
    exact ⟨rfl, by rw [HW.out]; exact below_from HB.out (show Same wx _ by (with_reducible (first | assumption | exact Same.drew _))).1 (by have h1 := HB.out.size; have h2 := HW.out; omega)⟩

theorem run_u32_info : ∃ i : TypeInfo, Try.prog.info? 22 = some i ∧ i.zero = some (.int .u32 0) ∧ i.size = 1 ∧ i.bytes = 4 := by
  have hinfo' : (Try.prog.info? 22).map (fun i => (i.zero, i.size, i.bytes)) = some (some (.int .u32 0), 1, 4) := by kernel_rfl
  obtain ⟨j0, jii, jz0, jz1, jz2⟩ := info_parts hinfo'
  exact ⟨j0, jii, jz0, jz1, jz2⟩
theorem ints_cells {w : World} {D : Nat → Prop} {k : IntKind} {bytes : Nat} {A : Option Addr} {n c : Nat} {xs : List Int} (hx : Ints w D k bytes A n c xs) : ∀ ad, A = some ad → ∀ j u, (xs.map (Value.int k))[j]? = some u → w.cell? (ad.add j) = some u := by
  obtain ⟨lx, _, _, _, _, _, x7⟩ := hx
  intro ad ha j u hu
  rw [List.getElem?_map] at hu
  obtain ⟨x, hx, rfl⟩ := Option.map_eq_some_iff.1 hu
  have hj : j < n := by have := (List.getElem?_eq_some_iff.1 hx).1; omega
  obtain ⟨b, off, hb, hd, hcell⟩ := x7 (by omega)
  rw [ha] at hb; injection hb with hb; subst hb
  have e1 : (⟨b, off, none⟩ : Addr).add j = ⟨b, off + j, none⟩ := by unfold Addr.add; split <;> simp_all
  rw [e1, hcell j hj, List.getD_eq_getElem?_getD, hx]; rfl
theorem ints_of_row {w : World} {base : Nat} {v : Value} {n : Nat} {xs : List Int} (h : w.ownsRow base 22 1 v n (xs.map (Value.int .u32))) (hb : n * 4 ≤ 140737488351232) (hu : ∀ x ∈ xs, (Lit.int .u32 x).wf = true) : ∃ A cap, v = .slice A n cap ∧ Ints w (fun b => base ≤ b ∧ b < w.heap.size) .u32 4 A n cap xs := by
  have hlen : xs.length = n := by have := h.1; simpa using this
  rcases h.2 with ⟨rfl, rfl⟩ | ⟨g, cap, cur, rfl, hg, hh, hn, hc, hs, ht⟩
  · exact ⟨none, 0, rfl, hlen, Nat.le_refl _, by decide, by omega, (fun _ => rfl), hu, fun h => by omega⟩
  · refine ⟨_, cap, rfl, hlen, hn, by unfold maxLen at hc; omega, hb, (fun h => by cases h), hu, fun _ => ⟨g, 0, rfl, ⟨hg, (Array.getElem?_eq_some_iff.1 hh).1⟩, fun j hj => ?_⟩⟩
    have hbox : Box w g cur := ⟨_, hh⟩
    rw [Nat.zero_add, hbox.cell, ← Array.getElem?_toList]
    have : (cur.toList.take (n * 1))[j]? = (xs.map (Value.int .u32))[j]? := by rw [ht]
    rw [List.getElem?_take_of_lt (by omega)] at this
    rw [this, List.getElem?_map, List.getD_eq_getElem?_getD, List.getElem?_eq_getElem (by omega)]; rfl

set_option maxHeartbeats 1000000 in
theorem hcopy_any {D : Nat → Prop} {A : Option Addr} {n c : Nat} {xs : List Int} (id ver : Int) (w : World) (hx : Ints w D .u32 4 A n c xs) (hD : ∀ b, D b → b < w.heap.size) :
    Calls Try.prog 80 #[.agg #[.int .u64 id, .int .u64 ver, .slice A n c]] w fun e w' => ∃ v, e = .returned (.agg #[.int .u64 id, .int .u64 ver, v]) ∧ NewD w.heap.size .u32 4 xs w' v ∧ Below w.heap.size w w' := by
  have HX := Lib.hid ((hx.below (below_a1 w (.cells #[.int .u64 id, .int .u64 ver, .slice A n c] 34)) hD).below (below_a1 _ (.cells #[.int .u64 0, .int .u64 0, .slice none 0 0] 34)) (by intro b hb; have := hD b hb; simp; omega))
  have bn : n * 4 ≤ 140737488351232 := hx.2.2.2.1
  have hl : xs.length = n := hx.1
  have HL := Lib.hid hl
  have HA := Lib.hid (show A = none → n = 0 ∧ c = 0 from fun h => by have := hx.2.2.2.2.1 h; have := hx.2.1; omega)
  have HW := Lib.hid hx.2.2.2.2.2.1
  obtain ⟨i0, hi0, hz0, hz1, hz2⟩ := run_u32_info
  have HI := Lib.hid hi0; have HZ0 := Lib.hid hz0; have HZ1 := Lib.hid hz1; have HZ2 := Lib.hid hz2
  have X1 := (Box.new w #[.int .u64 id, .int .u64 ver, .slice A n c] 34).alloc (.cells #[.int .u64 0, .int .u64 0, .slice none 0 0] 34)
  have X2 := Box.newAt (w.alloc (.cells #[.int .u64 id, .int .u64 ver, .slice A n c] 34)) #[.int .u64 0, .int .u64 0, .slice none 0 0] 34 (w.heap.size + 1) (by rw [size_alloc])
  have HX1 := Lib.hid X1; have HX2 := Lib.hid X2
  clear hx hD X1 X2 hi0 hz0 hz1 hz2 hl
  go_enter Try.func80, Try.ntmps80
  go_wp2_with (at_builtin; go_loud (refine wpList_append_any _ rfl _ _ 32 rfl (w.heap.size + 2) 22 i0 (.int .u32 0) 1 4 Try.underlying32 HI.out HZ0.out HZ1.out HZ2.out rfl (by decide) (.slice none 0 0) 0 [] rfl ⟨rfl, .inl ⟨rfl, rfl⟩⟩ A n c (xs.map (Value.int .u32)) rfl (by simp [HL.out]) HA.out (ints_cells HX.out) (fun u hu => by obtain ⟨x, _, rfl⟩ := List.mem_map.1 hu; rfl) (by unfold maxLen; omega) (by omega) (by simp only [size_alloc]; omega) ?_; intro B cap w3 h3; obtain ⟨hown, hgr, _⟩ := h3; have X1 := box_grown HX1.out hgr (by simp [Value.ownBlock]); have X2 := box_grown HX2.out hgr (by simp [Value.ownBlock]); have c1 := X1.cell; have f1 := X1.free; have c2 := X2.cell; have f2 := X2.free; have z1 := X1.lt; have z2 := X2.lt; have HO := Lib.hid hown; have HG := Lib.hid hgr; clear hown hgr X1 X2))
  refine bodyPost_ret (v := .agg #[.int .u64 id, .int .u64 ver, .slice B n cap]) (by simp [results, Try.results80, go_sem, c1, f1, c2, f2]) rfl ?_
  have HO' := HO.out
  simp only [Nat.zero_add, List.nil_append] at HO'
  obtain ⟨B', cap', he, hi⟩ := ints_of_row HO' bn HW.out
  injection he with he1 _ he2
  subst he1 he2
  have HB : Below w.heap.size w w3 := (below_a2 w (.cells #[.int .u64 id, .int .u64 ver, .slice A n c] 34) (.cells #[.int .u64 0, .int .u64 0, .slice none 0 0] 34)).grown HG.out (by simp only [size_alloc]; omega) (fun k hk => by cases hk)
  refine ⟨.slice B n cap, rfl, ?_, ?_⟩
  · exact (NewD.only (B := w.heap.size + 2) (S := fun k => k = w.heap.size ∨ k = w.heap.size + 1) (w := w3) ⟨B, n, cap, rfl, hi.move fun b hb _ => ⟨rfl, hb.1⟩⟩ ((((((Only.refl _ _).setCell (.inl (.inl rfl)) _).setCell (.inl (.inr rfl)) _).setCell (.inl (.inr rfl)) _).setCell (.inl (.inr rfl)) _)) (fun b hb => by omega)).down (by omega)
  · exact ((((HB.setCell (by exact Nat.le_refl _) _).setCell (by exact Nat.le_succ _) _).setCell (by exact Nat.le_succ _) _).setCell (by exact Nat.le_succ _) _)

set_option maxHeartbeats 1000000 in
theorem hentry_any {D : Nat → Prop} {A : Option Addr} {n c : Nat} {xs : List Int} (x id ver : Int) (g : Bool) (w : World) (hx : Ints w D .u32 4 A n c xs) (hD : ∀ b, D b → b < w.heap.size) :
    Calls Try.prog 42 #[.agg #[.int .u32 x, .int .u64 id, .int .u64 ver, .slice A n c, .bool g]] w fun e w' => ∃ v, e = .returned (.agg #[.int .u32 x, .int .u64 id, .int .u64 ver, v, .bool g]) ∧ NewD w.heap.size .u32 4 xs w' v ∧ Below w.heap.size w w' := by
  have h2 := Lib.hid ((hx.below (below_a1 w (.cells #[.int .u32 x, .int .u64 id, .int .u64 ver, .slice A n c, .bool g] 36)) hD).below (below_a1 _ (.cells #[.int .u32 0, .int .u64 0, .int .u64 0, .slice none 0 0, .bool false] 36)) (by intro b hb; have := hD b hb; simp; omega))
  have d2 := Lib.hid (show ∀ b, D b → b < ((w.alloc (.cells #[.int .u32 x, .int .u64 id, .int .u64 ver, .slice A n c, .bool g] 36)).alloc (.cells #[.int .u32 0, .int .u64 0, .int .u64 0, .slice none 0 0, .bool false] 36)).heap.size from by intro b hb; have := hD b hb; simp; omega)
  clear hx hD
  go_enter Try.func42, Try.ntmps42
  go_wp2_with (go_at_call 80; go_loud ((with_reducible refine (hcopy_any id ver _ h2.out d2.out).mono ?_); rintro e1 w1 hn; obtain ⟨v1, rfl, hi, hb⟩ := hn; simp only [size_alloc] at hi; have X1 := ((Box.new w #[.int .u32 x, .int .u64 id, .int .u64 ver, .slice A n c, .bool g] 36).alloc (.cells #[.int .u32 0, .int .u64 0, .int .u64 0, .slice none 0 0, .bool false] 36)).below hb (by simp only [size_alloc]; omega); have X2 := (Box.newAt (w.alloc (.cells #[.int .u32 x, .int .u64 id, .int .u64 ver, .slice A n c, .bool g] 36)) #[.int .u32 0, .int .u64 0, .int .u64 0, .slice none 0 0, .bool false] 36 (w.heap.size + 1) (by rw [size_alloc])).below hb (by simp only [size_alloc]; omega); have c1 := X1.cell; have f1 := X1.free; have c2 := X2.cell; have f2 := X2.free; have z1 := X1.lt; have z2 := X2.lt; obtain ⟨B, m, cap, rfl, hi⟩ := hi; have HI := Lib.hid hi; have HB := Lib.hid ((below_a2 w _ _).trans (hb.mono (by simp only [size_alloc]; omega))); clear hi hb X1 X2))
  refine bodyPost_ret (v := .agg #[.int .u32 x, .int .u64 id, .int .u64 ver, .slice B m cap, .bool g]) (by simp [results, Try.results42, go_sem, c1, f1, c2, f2]) rfl ?_
  refine ⟨.slice B m cap, rfl, ?_, ?_⟩
  · exact (NewD.only (B := w.heap.size + 1 + 1) (S := fun k => k = w.heap.size ∨ k = w.heap.size + 1) (w := w1) ⟨B, m, cap, rfl, HI.out⟩ ((((((((((Only.refl _ _).setCell (.inl (.inl rfl)) _).setCell (.inl (.inl rfl)) _).setCell (.inl (.inl rfl)) _).setCell (.inl (.inr rfl)) _).setCell (.inl (.inr rfl)) _).setCell (.inl (.inr rfl)) _).setCell (.inl (.inr rfl)) _).setCell (.inl (.inr rfl)) _)) (fun b hb => by omega)).down (by omega)
  · exact ((((((((HB.out.setCell (by exact Nat.le_refl _) _).setCell (by exact Nat.le_refl _) _).setCell (by exact Nat.le_refl _) _).setCell (by exact Nat.le_succ _) _).setCell (by exact Nat.le_succ _) _).setCell (by exact Nat.le_succ _) _).setCell (by exact Nat.le_succ _) _).setCell (by exact Nat.le_succ _) _)
end Go.Proofs.Ytjcbmfopcohcmaa
