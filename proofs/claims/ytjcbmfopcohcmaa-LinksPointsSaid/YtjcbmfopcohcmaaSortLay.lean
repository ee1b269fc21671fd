/- slices.SortFunc at entries: the library's contract, laid at this program (PRINTED by the shelf's laying tools for seat Ytmohkfihfkcpdaa: its numbers stand in it); what it says of entries. Conditions: the comparison's own contract. -/
import Derived.Test.YtjcbmfopcohcmaaScanCmp
import Derived.Shelf.SlSortCmp.NoneTotal
import Derived.Shelf.SlGeneric
import Derived.Ground.SlsfProg
namespace Go.Proofs.Ytjcbmfopcohcmaa
open Go.Shelf Go.RowKit Go.Lib Go.Sort
set_option maxRecDepth 100000
set_option linter.unusedVariables false
def sortEnt_ren : Go.Shelf.Ren := ⟨fun | 6 => 83 | 15 => 90 | 14 => 107 | 28 => 119 | 29 => 120 | 20 => 135 | 21 => 136 | 22 => 137 | 23 => 138 | 24 => 139 | 25 => 140 | 26 => 141 | 27 => 142 | 46 => 152 | 47 => 144 | 48 => 145 | 49 => 153 | 50 => 154 | 57 => 157 | n => n, fun | 22 => 23 | 24 => 36 | 25 => 150 | 3 => 3 | 39 => 81 | 0 => 0 | 53 => 22 | 55 => 31 | 4 => 4 | 46 => 175 | 45 => 174 | 50 => 117 | 5 => 5 | 9 => 9 | 66 => 197 | 70 => 200 | 76 => 206 | 77 => 207 | n => n, fun | n => n⟩
theorem sortEnt : Go.Proofs.SlLaysF0.n6 Try.prog sortEnt_ren := {
  mixed := by kernel_rfl
  f6 := ⟨Try.f83.name, by decide, Try.func83.trans (congrArg some (by kernel_rfl))⟩
  f14 := ⟨Try.f107.name, by decide, Try.func107.trans (congrArg some (by kernel_rfl))⟩
  f15 := Try.func90.trans (congrArg some (by kernel_rfl))
  f20 := ⟨Try.f135.name, by decide, Try.func135.trans (congrArg some (by kernel_rfl))⟩
  f21 := ⟨Try.f136.name, by decide, Try.func136.trans (congrArg some (by kernel_rfl))⟩
  f22 := ⟨Try.f137.name, by decide, Try.func137.trans (congrArg some (by kernel_rfl))⟩
  f23 := ⟨Try.f138.name, by decide, Try.func138.trans (congrArg some (by kernel_rfl))⟩
  f24 := ⟨Try.f139.name, by decide, Try.func139.trans (congrArg some (by kernel_rfl))⟩
  f25 := ⟨Try.f140.name, by decide, Try.func140.trans (congrArg some (by kernel_rfl))⟩
  f26 := ⟨Try.f141.name, by decide, Try.func141.trans (congrArg some (by kernel_rfl))⟩
  f27 := ⟨Try.f142.name, by decide, Try.func142.trans (congrArg some (by kernel_rfl))⟩
  f28 := Try.func119.trans (congrArg some (by kernel_rfl))
  f29 := Try.func120.trans (congrArg some (by kernel_rfl))
  f46 := ⟨Try.f152.name, by decide, Try.func152.trans (congrArg some (by kernel_rfl))⟩
  f47 := Try.func144.trans (congrArg some (by kernel_rfl))
  f48 := Try.func145.trans (congrArg some (by kernel_rfl))
  f49 := ⟨Try.f153.name, by decide, Try.func153.trans (congrArg some (by kernel_rfl))⟩
  f50 := ⟨Try.f154.name, by decide, Try.func154.trans (congrArg some (by kernel_rfl))⟩
  f57 := ⟨Try.f157.name, by decide, Try.func157.trans (congrArg some (by kernel_rfl))⟩
  t0 := Try.underlying0
  a0 := Try.isAgg0
  z0 := Try.sizeOf0
  v0 := Try.zeroValue0
  t3 := Try.underlying3
  a3 := Try.isAgg3
  z3 := Try.sizeOf3
  v3 := Try.zeroValue3
  t4 := Try.underlying4
  a4 := Try.isAgg4
  z4 := Try.sizeOf4
  v4 := Try.zeroValue4
  t5 := Try.underlying5
  a5 := Try.isAgg5
  z5 := Try.sizeOf5
  v5 := Try.zeroValue5
  t9 := Try.underlying9
  a9 := Try.isAgg9
  z9 := Try.sizeOf9
  v9 := Try.zeroValue9
  t22 := Try.underlying23
  a22 := Try.isAgg23
  z22 := Try.sizeOf23
  v22 := Try.zeroValue23
  t25 := Try.underlying150
  a25 := Try.isAgg150
  z25 := Try.sizeOf150
  v25 := Try.zeroValue150
  t39 := Try.underlying81
  a39 := Try.isAgg81
  z39 := Try.sizeOf81
  v39 := Try.zeroValue81
  t45 := Try.underlying174
  a45 := Try.isAgg174
  z45 := Try.sizeOf174
  v45 := Try.zeroValue174
  t46 := Try.underlying175
  a46 := Try.isAgg175
  z46 := Try.sizeOf175
  v46 := Try.zeroValue175
  t50 := Try.underlying117
  a50 := Try.isAgg117
  z50 := Try.sizeOf117
  v50 := Try.zeroValue117
  t53 := Try.underlying22
  a53 := Try.isAgg22
  z53 := Try.sizeOf22
  v53 := Try.zeroValue22
  t55 := Try.underlying31
  a55 := Try.isAgg31
  z55 := Try.sizeOf31
  v55 := Try.zeroValue31
  t66 := Try.underlying197
  a66 := Try.isAgg197
  z66 := Try.sizeOf197
  v66 := Try.zeroValue197
  t70 := Try.underlying200
  a70 := Try.isAgg200
  z70 := Try.sizeOf200
  v70 := Try.zeroValue200
  t76 := Try.underlying206
  a76 := Try.isAgg206
  z76 := Try.sizeOf206
  v76 := Try.zeroValue206
  t77 := Try.underlying207
  a77 := Try.isAgg207
  z77 := Try.sizeOf207
  v77 := Try.zeroValue207 }

def encE (c : EntC) : List Value := [.int .u32 c.x, .int .u64 c.id, .int .u64 c.ver, .slice c.s c.l c.c, .bool c.g]
instance : Inhabited EntC := ⟨⟨0, 0, 0, none, 0, 0, false⟩⟩
theorem cmpF_lt (a b : Int) : cmpF a b < 0 ↔ a < b := by unfold cmpF; split; simp [*]; split <;> simp [*]
theorem scan_lt (f : Int) (u v : EntC) : ltOf (scanC f) u v = decide (stpF f u.x < stpF f v.x ∨ (stpF f u.x = stpF f v.x ∧ u.id < v.id)) := by
  unfold ltOf scanC orF cmpF
  by_cases h1 : stpF f u.x < stpF f v.x
  · simp [h1]
  · by_cases h2 : stpF f v.x < stpF f u.x
    · have : stpF f u.x ≠ stpF f v.x := by omega
      simp [h1, h2, this]
    · have : stpF f u.x = stpF f v.x := by omega
      by_cases h3 : u.id < v.id
      · simp [this, h3]
      · by_cases h4 : v.id < u.id <;> simp [this, h3, h4]
theorem scan_swo (f : Int) : SWO (ltOf (scanC f)) where
  irrefl x := by rw [scan_lt]; simp
  trans x y z h1 h2 := by rw [scan_lt] at *; simp at *; omega
  ntrans x y z h1 h2 := by rw [scan_lt] at *; simp at *; omega
theorem Grown.grow {w w' : World} (h : Grown w w') : ∃ q os', w' = Go.Sort.grow (w.drewN q) os' := by
  obtain ⟨q, os, rfl⟩ := h
  refine ⟨q, ?_⟩
  generalize w.drewN q = z
  induction os generalizing z with
  | nil => exact ⟨#[], by simp⟩
  | cons o os ih =>
    obtain ⟨os', he⟩ := ih (z.alloc o)
    exact ⟨_, by rw [List.foldl_cons, he, alloc_eq_grow, grow_grow]⟩
theorem sort_only {α : Type} [Inhabited α] (enc : α → List Value) (k : Nat) (w : World) (blk off n : Nat) (d : Array α) (os : Array Obj) : Only (fun i => i = blk) w (sortWorldK enc k w blk off n d os) := by
  refine ⟨rfl, rfl, rfl, size_sortWorldK_c enc k w blk off n d os, fun i hi hne => ?_⟩
  show ((w.heap.modify blk _) ++ os)[i]? = _
  rw [Array.getElem?_append_left (by simpa using hi), Array.getElem?_modify, if_neg (fun e => hne e.symm)]
theorem ent_agg (u : EntC) : Value.agg (encE u).toArray = mkEnt u := rfl
theorem sort_ent (f t : Int) (b blk cap : Nat) (d : Array EntC) (w : World) (hb : Box w b #[.int .u32 f, .int .u32 t]) (hne : b ≠ blk) (hH : HoldsK encE 5 w blk 0 d) (hblk : blk < w.heap.size) (hsz : d.size < 4611686018427387904) :
    Calls Try.prog 83 #[.slice (some ⟨blk, 0, none⟩) d.size cap, .func (.func 84) #[] #[.pointer (some ⟨b, 0, none⟩)]] w fun e w' =>
      e = .returned (.tuple #[]) ∧ ∃ d' n os, PermIn 0 d.size d d' ∧ SortedIn (ltOf (scanC f)) 0 d.size d' ∧ w' = sortWorldK encE 5 w blk 0 n d' os := by
  have aE : ∀ w, (isAgg (sortEnt_ren.t 24)).run Try.prog w = .ok true w := fun w => by kernel_rfl
  have zE : ∀ w, (Go.sizeOf (sortEnt_ren.t 24)).run Try.prog w = .ok 5 w := fun w => by kernel_rfl
  have hc : CmpLays Try.prog 84 #[.pointer (some ⟨b, 0, none⟩)] encE 5 (scanC f) blk 0 d.size w := by
    intro m os dk hs x y
    have hb2 := hb.only (sort_only encE 5 w blk 0 m dk os) (fun h => hne h)
    refine (scan_cmp f t x y b _ hb2).mono ?_
    rintro e w' ⟨rfl, hg⟩
    exact ⟨rfl, hg.grow⟩
  have hcon := AnyQ.slices_SortFunc sortEnt 5 aE zE encE (fun _ => rfl) (fun x v hv => by simp [encE] at hv; rcases hv with rfl | rfl | rfl | rfl | rfl <;> rfl) (scanC f) (scan_swo f) 84 #[.pointer (some ⟨b, 0, none⟩)] blk 0 cap d w (enters_of Try.func84 (by kernel_rfl) rfl) hc hH hblk hsz
  exact hcon
end Go.Proofs.Ytjcbmfopcohcmaa
