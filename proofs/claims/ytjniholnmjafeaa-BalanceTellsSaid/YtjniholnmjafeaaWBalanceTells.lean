/- The walk of the law BalanceTells: it returns true. Conditions: none. -/
import Derived.Test.YtjniholnmjafeaaBalAwake
import Derived.Test.YtjniholnmjafeaaBalOwn
namespace Go.Proofs.Ytjniholnmjafeaa
open Go.RowKit Go.ChangeShapes
set_option maxRecDepth 100000
set_option linter.unusedVariables false
set_option linter.unusedSimpArgs false

/-- A slice of entries of which the values are read, and how many values each record has. -/
def EntsC (w : World) (A : Option Addr) (n cap : Nat) (vs : List Int) (lens : List Nat) : Prop :=
  EVals w A n cap vs ∧ n * 56 ≤ 140737488351232 ∧ lens.length = n ∧ (0 < n → ∃ b off, A = some ⟨b, off, none⟩ ∧ b < w.heap.size ∧ ∀ j q, lens[j]? = some q → q ≤ 9223372036854775807 ∧ ∃ A' c', w.cell? ⟨b, off + j * 5 + 1 + 2, none⟩ = some (.slice A' q c'))
theorem ents_open {w : World} {v : Value} {y : List (Int × (Int × Int × List Int × Unit) × Bool × Unit)} (h : Sh.Rep w (· < w.heap.size) (.sl (.st shEntC) 56) [v] y) : ∃ (vs : List Int) (lens : List Nat) (A : Option Addr) (n cap : Nat), v = .slice A n cap ∧ EntsC w A n cap vs lens := by
  obtain ⟨A, n, cap, h1, h2, h3, h4, h5, h6, h7⟩ := structs_of (s := .st shEntC) (by decide) h
  simp only [List.cons.injEq, and_true] at h1
  have h2 : List.length (α := Int × (Int × Int × List Int × Unit) × Bool × Unit) y = n := h2
  have key : ∀ (j : Nat) (z : Int × (Int × Int × List Int × Unit) × Bool × Unit), y[j]? = some z → ∃ b off, A = some ⟨b, off, none⟩ ∧ b < w.heap.size ∧ U32 z.1 ∧ w.cell? ⟨b, off + j * 5, none⟩ = some (.int .u32 z.1) ∧ z.2.1.2.2.1.length ≤ 9223372036854775807 ∧ ∃ A' c', w.cell? ⟨b, off + j * 5 + 1 + 2, none⟩ = some (.slice A' z.2.1.2.2.1.length c') := by
    intro j z hz
    have hj : j < n := by have := (List.getElem?_eq_some_iff.1 hz).1; omega
    obtain ⟨b, off, hA, hd, hc⟩ := h7 (by omega)
    obtain ⟨cl, x', hx', hl, hcell, hr⟩ := hc j hj
    have hx' := Option.some.inj (hz.symm.trans hx'); subst hx'
    obtain ⟨e, s, l, c, hcl, hok, hi⟩ := ent_cells (y := z) hr
    have ev : e.value = z.1 := by
      obtain ⟨c1, c2, he, ⟨hc1, _⟩, _⟩ := hr
      rw [hcl] at he; subst hc1
      injection he with he _; injection he
    have el : l = z.2.1.2.2.1.length := by
      obtain ⟨c1, c2, he, ⟨hc1, _⟩, c3, c4, hc2, ⟨c5, c6, hc3, ⟨hc5, _⟩, c7, c8, hc6, ⟨hc7, _⟩, c9, c10, hc8, ⟨A9, n9, cap9, hc9, hlen, _⟩, _⟩, _⟩ := hr
      rw [hcl] at he
      subst hc1; subst hc2; subst hc3; subst hc5; subst hc6; subst hc7; subst hc8; subst hc9
      simp only [List.cons_append, List.nil_append, List.cons.injEq] at he
      have h4 := he.2.2.2.1
      injection h4 with _ h4 _
      rw [h4]; exact hlen.symm
    have q0 := hcell 0 (by decide)
    have q3 := hcell 3 (by decide)
    rw [hcl] at q0 q3
    refine ⟨b, off, hA, hd, by rw [← ev]; exact hok.1, by rw [← ev]; exact q0, by have := hi.2.1; have := hi.2.2.1; omega, s, c, by rw [← el]; exact q3⟩
  refine ⟨y.map (fun z => z.1), y.map (fun z => z.2.1.2.2.1.length), A, n, cap, h1, ⟨by rw [List.length_map]; exact h2, h3, h4, ?_, fun hn => ?_⟩, h5, by rw [List.length_map]; exact h2, fun hn => ?_⟩
  · intro v hv
    obtain ⟨z, hz, rfl⟩ := List.mem_map.1 hv
    obtain ⟨j, hj⟩ := List.getElem?_of_mem hz
    obtain ⟨_, _, _, _, hu, _⟩ := key j z hj
    exact hu
  · obtain ⟨b, off, hA, hd, _⟩ := h7 hn
    refine ⟨b, off, hA, hd, fun j v hv => ?_⟩
    rw [List.getElem?_map] at hv
    obtain ⟨z, hz, rfl⟩ := Option.map_eq_some_iff.1 hv
    obtain ⟨b', off', hA', _, _, hc, _⟩ := key j z hz
    rw [hA] at hA'; injection hA' with hA'; injection hA' with e1 e2; subst e1 e2
    exact hc
  · obtain ⟨b, off, hA, hd, _⟩ := h7 hn
    refine ⟨b, off, hA, hd, fun j q hq => ?_⟩
    rw [List.getElem?_map] at hq
    obtain ⟨z, hz, rfl⟩ := Option.map_eq_some_iff.1 hq
    obtain ⟨b', off', hA', _, _, _, hl, hc⟩ := key j z hz
    rw [hA] at hA'; injection hA' with hA'; injection hA' with e1 e2; subst e1 e2
    exact ⟨hl, hc⟩

def fewGo (lens : List Nat) : Bool := lens.all fun q => decide (q ≤ 20)
def fewF (lens : List Nat) : Bool := fewGo lens && decide (lens.length ≤ 60)
set_option maxHeartbeats 1000000 in
theorem bal_few {A : Option Addr} {n cap : Nat} {vs : List Int} {lens : List Nat} (w : World) (h : EntsC w A n cap vs lens) :
    Calls Try.prog 49 #[.slice A n cap] w fun e w' => e = .returned (.bool (fewF lens)) ∧ w = w' := by
  obtain ⟨he, hb, hl, hc⟩ := h
  have bn : n ≤ 140737488351232 := by omega
  have HL := Lib.hid hl; have HC := Lib.hid hc
  clear he hb hl hc
  go_enter Try.func49, Try.ntmps49
  go_wp2
  go_loop [3] (fun i => ∃ k : Nat, k ≤ n ∧ i = .int .i64 k ∧ fewGo lens = fewGo (lens.drop k)) (fun i => n - (intOf i).toNat)
  case atStart => exact ⟨0, Nat.zero_le _, rfl, rfl⟩
  case round =>
    obtain ⟨k, hk, rfl, hf⟩ := hrel
    have HF := Lib.hid hf
    clear hf
    by_cases hlt : k < n
    · obtain ⟨q, hq⟩ : ∃ q, lens[k]? = some q := ⟨_, List.getElem?_eq_getElem (by rw [HL.out]; exact hlt)⟩
      obtain ⟨b, off, rfl, hb, hcc⟩ := HC.out (by omega)
      obtain ⟨bq, A', c', hcell⟩ := hcc k q hq
      have hd : lens.drop k = q :: lens.drop (k + 1) := by
        obtain ⟨hk', rfl⟩ := List.getElem?_eq_some_iff.1 hq
        exact List.drop_eq_getElem_cons hk'
      have HD := Lib.hid hd
      clear hcc hd hq
      by_cases h20 : 20 < q
      · have hff := Lib.hid (show fewF lens = false by unfold fewF; rw [HF.out, HD.out]; simp [fewGo]; omega)
        go_wp2
        go_ret
        exact ⟨(by first | (rw [hff.out]; done) | (rw [hff.out]; rfl)), rfl⟩
      · have HF2 := Lib.hid (show fewGo lens = fewGo (lens.drop (k + 1)) by rw [HF.out, HD.out]; simp [fewGo]; omega)
        go_wp2
        go_round
        case rel => exact ⟨k + 1, by omega, by go_num, HF2.out⟩
        case measure => simp [intOf]; omega
    · have hff := Lib.hid (show fewF lens = decide ((n : Int) ≤ 60) by
        unfold fewF; rw [HF.out, List.drop_of_length_le (by rw [HL.out]; omega), HL.out]; simp [fewGo]; omega)
      go_wp2
      go_ret
      exact ⟨(by first | (rw [hff.out]; done) | (rw [hff.out]; rfl)), rfl⟩

theorem box_next {w w' : World} {b : Nat} {C : Array Value} {o : Obj} (h : Box w b C) (hb : Below (w.alloc o).heap.size (w.alloc o) w') : Box w' b C := (h.alloc o).below hb (by rw [size_alloc]; have := h.lt; omega)
theorem box_fresh {w w' : World} {C : Array Value} {T : TypeId} (hb : Below (w.alloc (.cells C T)).heap.size (w.alloc (.cells C T)) w') : Box w' w.heap.size C := (Box.new w C T).below hb (by rw [size_alloc]; omega)
theorem below_next {W w w' : World} {o : Obj} (h : Below W.heap.size W w) (hb : Below (w.alloc o).heap.size (w.alloc o) w') : Below W.heap.size W w' := below_from (h.alloc h.size o) hb (by rw [size_alloc]; have := h.size; omega)

set_option maxHeartbeats 4000000 in
theorem wBalanceTells0 (W : World) {A : Option Addr} {n cap : Nat} {l : List Ld} {B : Option Addr} {m c2 : Nat} {vs : List Int} {lens : List Nat} (h : Lds W A n cap l) (he : EntsC W B m c2 vs lens) :
    Calls Try.prog 11 #[.slice A n cap, .slice B m c2] W fun e W' => e = .returned (.bool true) ∧ Below W.heap.size W W' := by
  have HH := Lib.hid h
  have HL := Lib.hid h.1
  have HE := Lib.hid he
  have HV := Lib.hid he.1
  have bn : n ≤ 140737488351232 := by have := h.2.2.2.1; omega
  clear h he
  by_cases hlt : 80 < n
  · go_enter Try.func11, Try.ntmps11
    go_wp2_with (go_at_call 50; (with_reducible refine (awake17 _).mono ?_); rintro e w' ⟨rfl, hg⟩)
    go_ret
    exact ⟨rfl, hg⟩
  · cases hfew : fewF lens with
    | false =>
      go_enter Try.func11, Try.ntmps11
      go_wp2_with (first
        | (go_at_call 49; go_loud ((with_reducible refine (bal_few W HE.out).mono ?_); rintro e0 w0 ⟨rfl, rfl⟩))
        | (go_at_call 50; (with_reducible refine (awake17 _).mono ?_); rintro e w' ⟨rfl, hg⟩))
      go_ret
      exact ⟨rfl, hg⟩
    | true =>
      have C1 := fun (A : Option Addr) (cap : Nat) (w : World) (h : Lds w A n cap l) => bal_heavy w h (by omega)
      have C2 := fun (A : Option Addr) (cap : Nat) (w : World) (h : Lds w A n cap l) => bal_rheavy w h (by omega)
      have C3 := fun (A : Option Addr) (cap : Nat) (w : World) (h : Lds w A n cap l) => bal_light w h (by omega)
      have C4 := fun (A : Option Addr) (cap : Nat) (w : World) (h : Lds w A n cap l) => bal_rlight w h (by omega)
      have C5 := fun (A : Option Addr) (cap : Nat) (w : World) (h : Lds w A n cap l) (h2 : EVals w B m c2 vs) => bal_plan w h (by omega) h2
      have C6 := fun (A : Option Addr) (cap : Nat) (w : World) (h : Lds w A n cap l) (h2 : EVals w B m c2 vs) => bal_rplan w h (by omega) h2
      generalize heavyF l = hh at *
      generalize lightF l = ll at *
      generalize planF l vs = pp at *
      obtain ⟨⟨p, e⟩, bh⟩ := hh
      obtain ⟨⟨q, f⟩, bl⟩ := ll
      obtain ⟨u, v, r⟩ := pp
      dsimp only at *
      have C1 := Lib.hid C1; have C2 := Lib.hid C2; have C3 := Lib.hid C3; have C4 := Lib.hid C4; have C5 := Lib.hid C5; have C6 := Lib.hid C6
      go_enter Try.func11, Try.ntmps11
      go_wp2_with (first
        | (go_at_call 49; go_loud ((with_reducible refine (bal_few W HE.out).mono ?_); rintro e0 w0 ⟨rfl, rfl⟩))
        | (go_at_call 51; go_loud ((with_reducible refine (bal_own 71 0 W HH.out).mono ?_); rintro e1 w1 ho; obtain ⟨g, rfl, hg, hx, hb⟩ := ho; rw [HL.out]; have XG := Lib.hid hx; have K1 := Lib.hid hb; clear hx hb hg))
        | (go_at_call 52; go_loud ((with_reducible refine (C1.out _ _ _ (own_lds HH.out XG.out)).mono ?_); rintro e2 w2 ⟨rfl, hb⟩; have XG := Lib.hid (XG.out.below hb XG.out.lt); have K2 := Lib.hid (below_from K1.out hb K1.out.size); clear hb))
        | (go_at_call 53; go_loud ((with_reducible refine (C2.out _ _ _ (HH.out.below (K2.out.alloc K2.out.size (.cells #[.int .u32 p, .int .i64 e] 79)) (Nat.le_refl _))).mono ?_); rintro e3 w3 ⟨rfl, hb⟩; have XG := Lib.hid (box_next XG.out hb); have X6 := Lib.hid (box_fresh hb); have K3 := Lib.hid (below_next K2.out hb); clear hb))
        | (go_at_call 54; go_loud ((with_reducible refine (C3.out _ _ _ (own_lds HH.out (XG.out.alloc (.cells #[.int .u32 p, .int .i64 e] 79)))).mono ?_); rintro e4 w4 ⟨rfl, hb⟩; have XG := Lib.hid (box_next XG.out hb); have X6 := Lib.hid (box_next X6.out hb); have X8 := Lib.hid (box_fresh hb); have K4 := Lib.hid (below_next K3.out hb); clear hb))
        | (go_at_call 55; go_loud ((with_reducible refine (C4.out _ _ _ (HH.out.below (K4.out.alloc K4.out.size (.cells #[.int .u32 q, .int .i64 f] 79)) (Nat.le_refl _))).mono ?_); rintro e5 w5 ⟨rfl, hb⟩; have XG := Lib.hid (box_next XG.out hb); have X6 := Lib.hid (box_next X6.out hb); have X8 := Lib.hid (box_next X8.out hb); have X10 := Lib.hid (box_fresh hb); have K5 := Lib.hid (below_next K4.out hb); clear hb))
        | (go_at_call 56; go_loud ((with_reducible refine (C5.out _ _ _ (own_lds HH.out (XG.out.alloc (.cells #[.int .u32 q, .int .i64 f] 79))) (HV.out.below (K5.out.alloc K5.out.size (.cells #[.int .u32 q, .int .i64 f] 79)) (Nat.le_refl _))).mono ?_); rintro e6 w6 ⟨rfl, hb⟩; have XG := Lib.hid (box_next XG.out hb); have X6 := Lib.hid (box_next X6.out hb); have X8 := Lib.hid (box_next X8.out hb); have X10 := Lib.hid (box_next X10.out hb); have X12 := Lib.hid (box_fresh hb); have K6 := Lib.hid (below_next K5.out hb); clear hb))
        | (go_at_call 57; go_loud ((with_reducible refine (C6.out _ _ _ (HH.out.below (K6.out.alloc K6.out.size (.cells #[.int .u32 u, .int .u32 v] 83)) (Nat.le_refl _)) (HV.out.below (K6.out.alloc K6.out.size (.cells #[.int .u32 u, .int .u32 v] 83)) (Nat.le_refl _))).mono ?_); rintro e7 w7 ⟨rfl, hb⟩; have XG := Lib.hid (box_next XG.out hb); have X6 := Lib.hid (box_next X6.out hb); have X8 := Lib.hid (box_next X8.out hb); have X10 := Lib.hid (box_next X10.out hb); have X12 := Lib.hid (box_next X12.out hb); have X14 := Lib.hid (box_fresh hb); have K7 := Lib.hid (below_next K6.out hb); clear hb))
        | (go_at_call 50; go_loud ((with_reducible refine (awake17 _).mono ?_); rintro e9 w8 ⟨rfl, hb⟩; have XG := Lib.hid (box_next XG.out hb); have X6 := box_next X6.out hb; have c6 := X6.cell; have z6 := X6.lt; clear X6; have X8 := box_next X8.out hb; have c8 := X8.cell; have z8 := X8.lt; clear X8; have X10 := box_next X10.out hb; have c10 := X10.cell; have z10 := X10.lt; clear X10; have X12 := box_next X12.out hb; have c12 := X12.cell; have z12 := X12.lt; clear X12; have X14 := box_next X14.out hb; have c14 := X14.cell; have z14 := X14.lt; clear X14; have X16 := box_fresh hb; have c16 := X16.cell; have z16 := X16.lt; clear X16; have K8 := Lib.hid (below_next K7.out hb); clear hb))
        | (go_at_call 58; go_loud ((with_reducible refine (bal_kept 71 0 _ (HH.out.below K8.out (Nat.le_refl _)) XG.out).mono ?_); rintro e10 w9 ⟨rfl, hb⟩; have K9 := Lib.hid (below_from K8.out hb K8.out.size); clear hb)))
      go_ret
      exact ⟨by first | rfl | simp, K9.out⟩

theorem wBalanceTells (W : World) (vs : List Value) (h : Sh.Args W (· < W.heap.size) [((.sl (.st (.pair (.int .u32) (.pair (.int .i64) .unit))) 16), 74), ((.sl (.st (.pair (.int .u32) (.pair (.st (.pair (.int .u64) (.pair (.int .u64) (.pair (.sl (.int .u32) 4) .unit)))) (.pair .bool .unit)))) 56), 75)] vs) :
    Calls Try.prog 11 vs.toArray W fun e W' => e = .returned (.bool true) ∧ Below W.heap.size W W' := by
  obtain ⟨_, _, rfl, ⟨a, ha⟩, _, _, rfl, ⟨b, hb⟩, rfl⟩ := h
  obtain ⟨l, A, n, cap, rfl, hi⟩ := lds_open ha
  obtain ⟨vs, lens, B, m, c2, rfl, he⟩ := ents_open hb
  exact wBalanceTells0 W hi he
end Go.Proofs.Ytjniholnmjafeaa
