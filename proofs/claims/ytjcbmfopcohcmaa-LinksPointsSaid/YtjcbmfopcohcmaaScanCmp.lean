/- The comparison by which a scan sorts. Conditions: the span's block is read. -/
import Derived.Test.YtjcbmfopcohcmaaCircle
import Derived.Test.YtjcbmfopcohcmaaShelfLive
import Derived.Test.YtjcbmfopcohcmaaShelfPut
namespace Go.Proofs.Ytjcbmfopcohcmaa
open Go.RowKit
set_option maxRecDepth 100000
set_option linter.unusedVariables false
set_option linter.unusedSimpArgs false

/-- How far behind a span's beginning a value stands, less one. -/
def stpF (f x : Int) : Int := ((x - f) % 4294967296 - 1) % 4294967296
def scanC (f : Int) (u v : EntC) : Int := orF (cmpF (stpF f u.x) (stpF f v.x)) (cmpF u.id v.id)
/-- w' is w, drawn from, with new blocks. -/
def Grown (w w' : World) : Prop := ∃ (q : Nat) (os : List Obj), w' = os.foldl (fun w o => w.alloc o) (w.drewN q)
theorem foldl_drewN (q : Nat) : ∀ (os : List Obj) (w : World), (os.foldl (fun w o => w.alloc o) w).drewN q = os.foldl (fun w o => w.alloc o) (w.drewN q)
  | [], w => rfl
  | o :: os, w => foldl_drewN q os (w.alloc o)
theorem drewN_add (w : World) (q p : Nat) : (w.drewN q).drewN p = w.drewN (q + p) := by
  induction p with
  | zero => rfl
  | succ p ih => show ((w.drewN q).drewN p).drew = (w.drewN (q + p)).drew; rw [ih]
theorem Grown.refl (w : World) : Grown w w := ⟨0, [], rfl⟩
theorem Grown.alloc {w w' : World} (h : Grown w w') (o : Obj) : Grown w (w'.alloc o) := by
  obtain ⟨q, os, rfl⟩ := h
  exact ⟨q, os ++ [o], by rw [List.foldl_append]; rfl⟩
theorem Grown.drewN {w w' : World} (h : Grown w w') (n : Nat) : Grown w (w'.drewN n) := by
  obtain ⟨q, os, rfl⟩ := h
  exact ⟨q + n, os, by rw [foldl_drewN, drewN_add]⟩
theorem Grown.drew {w w' : World} (h : Grown w w') : Grown w w'.drew := h.drewN 1

set_option maxHeartbeats 1000000 in
theorem scan_cmp (f t : Int) (u v : EntC) (b : Nat) (W : World) (h : Box W b #[.int .u32 f, .int .u32 t]) :
    Calls Try.prog 84 #[mkEnt u, mkEnt v, .pointer (some ⟨b, 0, none⟩)] W fun e w' => e = .returned (.int .i64 (scanC f u v)) ∧ Grown W w' := by
  obtain ⟨ux, ui, uv, us, ul, uc, ug⟩ := u
  obtain ⟨vx, vi, vv, vs, vl, vc, vg⟩ := v
  unfold mkEnt scanC
  dsimp only
  have h1 := u32w (ux - f); have h2 := u32w (vx - f)
  have h3 := u32w ((ux - f) % 4294967296 - 1); have h4 := u32w ((vx - f) % 4294967296 - 1)
  have C1 := Lib.hid (cmp_u32 (stpF f ux) (stpF f vx)); have C2 := Lib.hid (cmp_u64 ui vi)
  have hu : ((ux - f) % 4294967296 - 1) % 4294967296 = stpF f ux := rfl
  have hv : ((vx - f) % 4294967296 - 1) % 4294967296 = stpF f vx := rfl
  rw [hu] at h3; rw [hv] at h4
  generalize cmpF (stpF f ux) (stpF f vx) = r1 at *
  generalize cmpF ui vi = r2 at *
  have hb := h.cell
  have zb := h.lt
  have HB := Lib.hid h
  go_enter Try.func84, Try.ntmps84
  go_upto_region 1 with fail
  refine wp_abs (fun wx => Box wx W.heap.size #[.int .u32 ux, .int .u64 ui, .int .u64 uv, .slice us ul uc, .bool ug] ∧ Box wx (W.heap.size + 1) #[.int .u32 vx, .int .u64 vi, .int .u64 vv, .slice vs vl vc, .bool vg] ∧ Box wx b #[.int .u32 f, .int .u32 t] ∧ Grown W wx) ⟨(by repeat (first | apply Box.drew | apply Box.drewN | exact Box.newAt _ _ _ _ (by first | rfl | (simp only [size_alloc]; done) | (simp only [size_alloc]; omega)) | assumption | refine Box.alloc ?_ _)), (by repeat (first | apply Box.drew | apply Box.drewN | exact Box.newAt _ _ _ _ (by first | rfl | (simp only [size_alloc]; done) | (simp only [size_alloc]; omega)) | assumption | refine Box.alloc ?_ _)), (HB.out.alloc _).alloc _, ((Grown.refl W).alloc _).alloc _⟩ ?_
  generalize W.heap.size + 1 = b4
  generalize W.heap.size = b3 at *
  rintro wx ⟨X3, X4, X, hG⟩
  have c3 := X3.cell; have z3 := X3.lt; have c4 := X4.cell; have z4 := X4.lt; have cb := X.cell; have z := X.lt
  have HG := Lib.hid hG
  clear X3 X4 X hG hb zb h HB
  go_region_held3 (fun w' => Same wx w') (repeat' (with_reducible (first | assumption | exact Same.refl _ | exact Same.drew _ | refine Same.drew' ?_ | refine Same.alloc ?_ _)))
    (first
    | (go_at_call 69; (with_reducible refine (C1.out _).mono ?_); rintro e w' ⟨rfl, rfl⟩)
    | (go_at_call 86; (with_reducible refine (C2.out _).mono ?_); rintro e w' ⟨rfl, rfl⟩)
    | (go_at_call 85; (first | (with_reducible refine (or_two r1 r2 _ _ (Box.new _ _ _).drew).mono ?_) | (with_reducible refine (or_two r1 r2 _ _ (Box.new _ _ _)).mono ?_)); rintro e w' ⟨rfl, rfl⟩))
  all_goals
    go_wp2
    go_ret
    exact ⟨rfl, by repeat' (with_reducible (first | exact HG.out | refine Grown.drew ?_ | refine Grown.alloc ?_ _))⟩
end Go.Proofs.Ytjcbmfopcohcmaa
