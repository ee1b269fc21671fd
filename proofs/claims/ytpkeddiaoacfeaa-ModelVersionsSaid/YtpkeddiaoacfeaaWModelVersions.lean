/- The law ModelVersions: its walk. -/
import Derived.Test.YtpkeddiaoacfeaaModelAll
import Derived.Test.YtpkeddiaoacfeaaLaw
namespace Go.Proofs.Ytpkeddiaoacfeaa
open Go.RowKit Go.ChangeShapes
set_option maxRecDepth 100000
set_option linter.unusedVariables false
set_option linter.unusedSimpArgs false

theorem bool_info : ∃ i : TypeInfo, Try.prog.info? 4 = some i ∧ i.zero = some (.bool false) ∧ i.size = 1 ∧ i.bytes = 1 := by
  obtain ⟨j0, jii, jz0, jz1, jz2⟩ := info_parts (show (Try.prog.info? 4).map (fun i => (i.zero, i.size, i.bytes)) = some (some (.bool false), 1, 1) by kernel_rfl)
  exact ⟨j0, jii, jz0, jz1, jz2⟩
def boolE : Elt Try.prog Bool where
  T := 4
  ST := 72
  k := 1
  bytes := 1
  zero := .bool false
  rd := fun w D cs b => cs = [.bool b]
  pos := by omega
  len := fun h => by rw [h]; rfl
  one := fun h u hu => by subst h; simp only [List.mem_cons, List.not_mem_nil, or_false] at hu; rw [hu]; rfl
  move := fun h _ => h
  und := Try.underlying72
  info := bool_info
  zlen := rfl
  blim := by omega
theorem bools_open {w : World} {D : Nat → Prop} {v : Value} {y : (Sh.sl .bool 1).T} (h : Sh.Val w D (.sl .bool 1) v y) : ∃ A n cap l, v = .slice A n cap ∧ boolE.At w D A n cap l := by
  obtain ⟨A, n, cap, l, h1, h2, h3⟩ := Elt.open (E := boolE) (s := .bool) rfl h fun cl x hx => ⟨x, hx⟩
  simp only [List.cons.injEq, and_true] at h1
  exact ⟨A, n, cap, l, h1, h3⟩
theorem bool_at {w : World} {D : Nat → Prop} {A : Option Addr} {n cap i : Nat} {l : List Bool} (h : boolE.At w D A n cap l) (hi : i < n) : ∃ (b off : Nat) (x : Bool), A = some ⟨b, off, none⟩ ∧ D b ∧ w.cell? ⟨b, off + i, none⟩ = some (.bool x) := by
  obtain ⟨h1, h2, h3, h4, h5⟩ := h
  obtain ⟨b, off, rfl, hd, hc⟩ := h5 (by omega)
  obtain ⟨x, hx⟩ : ∃ x, l[i]? = some x := ⟨_, List.getElem?_eq_getElem (by omega)⟩
  obtain ⟨cs, q0, rfl⟩ := hc i x hx
  have := q0 0 _ rfl
  rw [show off + i * boolE.k + 0 = off + i by show off + i * 1 + 0 = _; omega] at this
  exact ⟨b, off, x, rfl, hd, this⟩
/-- What is there. -/
def verR (id last : Int) (th : Bool) : Rec := if th = true then ⟨id, last, [last]⟩ else ⟨0, 0, []⟩
def verL (id last : Int) (th : Bool) : List Kn := if last = 0 then [] else [⟨id, last, th, verR id last th⟩]
theorem verL_len (id last : Int) (th : Bool) : (verL id last th).length ≤ 1 := by unfold verL; split <;> simp
theorem verL_find {id last : Int} (th : Bool) (h : last ≠ 0) : findK (verL id last th) id = some ⟨id, last, th, verR id last th⟩ := by unfold verL findK; rw [if_neg h]; simp
theorem verL_last {id last : Int} {th : Bool} : lastK (verL id last th) id = last := by
  by_cases h : last = 0
  · subst h; unfold verL lastK findK; simp
  · unfold lastK; rw [verL_find th h]
theorem verL_is {id last : Int} {th : Bool} (h0 : last = 0 → th = false) : isK (verL id last th) id = th := by
  by_cases h : last = 0
  · rw [h0 h]; subst h; unfold verL isK findK; simp
  · unfold isK; rw [verL_find th h]
theorem verL_rec {id last : Int} {th : Bool} (h0 : last = 0 → th = false) : recK (verL id last th) id = verR id last th := by
  by_cases h : last = 0
  · rw [h0 h]; subst h; unfold verL recK findK verR; simp
  · unfold recK; rw [verL_find th h]
theorem verL_cnt {id last : Int} {th : Bool} (h0 : last = 0 → th = false) : (verL id last th).countP isB = if th = true then 1 else 0 := by
  by_cases h : last = 0
  · rw [h0 h]; subst h; unfold verL; simp
  · unfold verL; rw [if_neg h]; cases th <;> simp [isB]
theorem verL_put1 {id last : Int} (th : Bool) {v is : Int} {b : Bool} {r : Rec} (hv : v ≠ 0) (hr : r = verR id v b) : putK (verL id last th) ⟨id, v, b, r⟩ = verL id v b := by
  subst hr
  have e : verL id v b = [⟨id, v, b, verR id v b⟩] := by unfold verL; rw [if_neg hv]
  rw [e]
  unfold putK
  by_cases h : last = 0
  · subst h; unfold verL findK; simp
  · rw [verL_find th h]; unfold verL setK; rw [if_neg h]; simp
theorem verL_put {id last v : Int} {th : Bool} (hid : id / 4294967296 < 16) (hv : 1 ≤ v) : rightF 1 id v 1 = true ∧ mputF 1 (verL id last th) ⟨id, v, [v]⟩ = if v ≤ last then (verL id last th, false) else (verL id v true, true) := by
  have hr : rightF 1 id v 1 = true := by unfold rightF; simp [hid, hv]
  refine ⟨hr, ?_⟩
  unfold mputF
  dsimp only
  rw [show ([v] : List Int).length = 1 from rfl, hr, if_pos rfl, verL_last]
  split
  · rfl
  · rw [verL_put1 (is := 0) th (by omega) (by unfold verR; rw [if_pos rfl])]
theorem verL_del {id last v : Int} {th : Bool} (h0 : last = 0 → th = false) (hv : 1 ≤ v) : mdelF (verL id last th) id v = if th = true then (if v ≤ last then (verL id last th, false) else (verL id v false, true)) else (verL id last th, false) := by
  unfold mdelF
  rw [verL_is h0, verL_last]
  split
  · split
    · rfl
    · rw [verL_put1 (is := 0) th (by omega) (by unfold verR; rw [if_neg (by simp)])]
  · rfl
theorem ver_wraps {a : Int} (h : U64 a) : IntKind.u64.wrap (1 + a.tmod 30) = 1 + a % 30 := by
  obtain ⟨h1, h2⟩ := h
  rw [Int.tmod_eq_emod_of_nonneg h1]
  simp only [IntKind.wrap, IntKind.bits, IntKind.signed]
  simp; omega
theorem ver_id {a : Int} (h : U64 a) : IntKind.u64.wrap (a.tmod 68719476736) = a % 68719476736 ∧ a.tmod 68719476736 = a % 68719476736 := by
  obtain ⟨h1, h2⟩ := h
  rw [Int.tmod_eq_emod_of_nonneg h1]
  simp only [IntKind.wrap, IntKind.bits, IntKind.signed]
  simp; omega
theorem u32_wf' {v : Int} (h : U32 v) : (Lit.int .u32 v).wf = true := by
  have := h.1; have := h.2
  simp [Lit.wf, IntKind.min, IntKind.max, IntKind.bits, IntKind.signed]; omega
theorem ints_one' {w : World} {b : Nat} {x : Int} {D : Nat → Prop} (h : Box w b #[.int .u32 x]) (hx : U32 x) (hD : D b) : Ints w D .u32 4 (some ⟨b, 0, none⟩) 1 1 [x] := ints_one h (u32_wf' hx) hD
theorem one_ok {id v x : Int} (h1 : U64 id) (h2 : U64 v) (h3 : U32 x) : Rec.ok ⟨id, v, [x]⟩ := ⟨h1, h2, fun y hy => by simp at hy; subst hy; exact h3⟩

theorem found_one {bl : List Rng} {x : Kn} {ks : List Int} {ls : List Kn} (h : FoundOf bl [x] ks ls) (hk : ∀ y ∈ [x], y.key ∈ ks) (hit : hitK bl x = true) : ls.length = 1 := by
  obtain ⟨h1, h2⟩ := h
  have hx : x ∈ ls := (h2 x).2 ⟨by simp, hit, hk x (by simp)⟩
  have hm : ∀ y ∈ ls, y = x := fun y hy => by simpa using ((h2 y).1 hy).1
  match ls, h1, hm, hx with
  | [a], _, _, _ => rfl
  | a :: b :: t, h1, hm, _ =>
    have e1 := hm a (by simp)
    have e2 := hm b (by simp)
    have := (List.pairwise_cons.1 h1).1 b (by simp)
    rw [e1, e2] at this
    omega
set_option maxHeartbeats 4000000 in
theorem awake24 (W : World) : Calls Try.prog 25 #[] W fun e w' => e = .returned (.bool true) ∧ Below W.heap.size W w' := by
  have S0 := Lib.hid (Sta.start W)
  have HP := Lib.hid (show mputF 1 [] ⟨1, 1, [5]⟩ = ([⟨1, 1, true, ⟨1, 1, [5]⟩⟩], true) from by rfl)
  have HRT := Lib.hid (show rightF 1 1 1 1 = true from by decide)
  have HRB := Lib.hid (show rightB 1 [⟨1, 0, 0⟩] = true from by decide)
  have HOK := Lib.hid (one_ok (id := 1) (v := 1) (x := 5) ⟨by decide, by decide⟩ ⟨by decide, by decide⟩ ⟨by decide, by decide⟩)
  have HU5 := Lib.hid (show U32 5 from ⟨by decide, by decide⟩)
  have HF := Lib.hid (fun (ks : List Int) (ls : List Kn) (h : FoundOf [⟨1, 0, 0⟩] [⟨1, 1, true, ⟨1, 1, [5]⟩⟩] ks ls) (hk : ∀ x ∈ [(⟨1, 1, true, ⟨1, 1, [5]⟩⟩ : Kn)], x.key ∈ ks) => found_one h hk (by decide))
  go_enter Try.func25, Try.ntmps25
  go_wp2_with (first
    | (go_at_call 24; go_loud (refine (mo_new [1] 1 S0.out (by simp) (by simp)).mono ?_; rintro e1 w1 ⟨b, rfl, hs, _⟩; have S1 := Lib.hid hs; clear hs))
    | (go_at_call 26; go_loud (refine (mo_put (r := ⟨1, 1, [5]⟩) (L' := [⟨1, 1, true, ⟨1, 1, [5]⟩⟩]) (bo := true) 0 (S1.out.addBox #[.int .u32 5] _) rfl (by simp) (by simp) (by omega) (by omega) HOK.out (fun c h => ints_one' (h.box (i := 1) rfl).1 HU5.out (h.box (i := 1) rfl).2) HRT.out HP.out rfl).mono ?_; rintro e2 w2 ⟨rfl, hs, _⟩; have S2 := Lib.hid hs; clear hs S1))
    | (go_at_call 34; go_loud (refine (mo_len (n := 1) 0 S2.out rfl (by simp) (by decide)).mono ?_; rintro e3 w3 ⟨rfl, hs, _⟩; have S3 := Lib.hid hs; clear hs S2))
    | (go_at_call 27; go_loud (refine (mo_find (bl := [⟨1, 0, 0⟩]) 0 (S3.out.addBox _ _) rfl (by simp) (fun c h => rngsAt (Elt.At.one (E := rngE) (x := ⟨1, 0, 0⟩) (h.box (i := 2) rfl).1 (h.box (i := 2) rfl).2 ⟨rfl, ⟨⟨Int.le_refl _, by decide⟩, ⟨Int.le_refl _, by decide⟩⟩⟩) (by omega)) HRB.out).mono ?_; rintro e4 w4 ⟨ks, ls, A4, cap4, rfl, hf, hk, hs, _⟩; have hl := HF.out ks ls hf hk; rw [hl]; have S4 := Lib.hid hs; clear hs S3 hf hk hl)))
  go_ret
  exact ⟨rfl, S4.out.end⟩
set_option maxHeartbeats 8000000 in
theorem wModelVersions0 (W : World) (id0 : Int) (VA : Option Addr) (vn vc : Nat) (vs : List Int) (EA : Option Addr) (en ec : Nat) (es : List Bool) (hid : U64 id0) (hvs : Ints W (· < W.heap.size) .u64 8 VA vn vc vs) (hes : boolE.At W (· < W.heap.size) EA en ec es) :
    Calls Try.prog 11 #[.int .u64 id0, .slice VA vn vc, .slice EA en ec] W fun e W' => e = .returned (.bool true) ∧ Below W.heap.size W W' := by
  have HVS := Lib.hid hvs; have HES := Lib.hid hes
  obtain ⟨hw1, hw2⟩ := ver_id hid
  have HID16 : Hid (id0 % 68719476736 / 4294967296 < 16) := by show id0 % 68719476736 / 4294967296 < 16; omega
  have HIDU : Hid (U64 (id0 % 68719476736)) := by show U64 _; constructor <;> omega
  rw [hw2] at hw1
  obtain ⟨id, hidd⟩ : ∃ id, id0 % 68719476736 = id := ⟨_, rfl⟩
  rw [hidd] at HID16 HIDU hw1 hw2
  clear hidd hid hvs hes
  have S0 := Lib.hid (Sta.start W)
  go_enter Try.func11, Try.ntmps11
  go_wp2_with (first
    | (go_at_call 24; go_loud (refine (mo_new [1] 1 S0.out (by simp) (by simp)).mono ?_; rintro e1 w1 ⟨b, rfl, hs, _⟩; have S1 := Lib.hid (show Sta W [tModel [1] b 1 []] w1 from hs); clear hs))
    | (go_at_call 25; go_loud (refine (awake24 _).mono ?_; rintro e2 w2 ⟨rfl, hb⟩; have S2 := Lib.hid (S1.out.later hb); clear hb S1)))
  go_loopw [8, 9, 10] (fun s8 s9 s10 wr => ∃ (last : Int) (th : Bool) (i : Nat), i ≤ 40 ∧ s8 = .int .u64 last ∧ s9 = .bool th ∧ s10 = .int .i64 i ∧ 0 ≤ last ∧ last ≤ 30 ∧ (last = 0 → th = false) ∧ Sta W [tModel [1] b 1 (verL id last th)] wr) (fun _ _ i _ => 40 - (intOf i).toNat)
  case atStart => exact ⟨0, false, 0, by omega, rfl, rfl, rfl, by omega, by omega, fun _ => rfl, S2.out⟩
  case round =>
    obtain ⟨last, th, i, hi, rfl, rfl, rfl, hl0, hl30, hz, hs⟩ := hrel
    have HS := Lib.hid hs
    clear hs S2
    by_cases hc : i < vn ∧ i < 40
    · obtain ⟨h1, h2⟩ := hc
      obtain ⟨tb, toff, rfl, htb, htc⟩ := HVS.out.2.2.2.2.2.2 (by omega)
      have tcell := (HS.out.end.cell (p := ⟨tb, toff + i, none⟩) htb).trans (htc i h1)
      have HMEM : Hid (vs.getD i 0 ∈ vs) := by
        have hl : i < vs.length := by rw [HVS.out.1]; exact h1
        show vs.getD i 0 ∈ vs
        rw [List.getD_eq_getElem?_getD, List.getElem?_eq_getElem hl]; exact List.getElem_mem hl
      generalize vs.getD i 0 = a at *
      have hwk := ver_wraps (u64_of (HVS.out.2.2.2.2.2.1 a HMEM.out))
      have hv1 : 1 ≤ 1 + a % 30 := by omega
      have hv2 : 1 + a % 30 ≤ 30 := by omega
      generalize 1 + a % 30 = v at *
      have HVU : Hid (U64 v) := by show U64 v; constructor <;> omega
      have HV32 : Hid (U32 v) := by show U32 v; constructor <;> omega
      have hw32 : IntKind.u32.wrap v = v := by simp only [IntKind.wrap, IntKind.bits, IntKind.signed]; simp; omega
      have HRT := Lib.hid (verL_put (id := id) (last := last) (v := v) (th := th) HID16.out hv1).1
      clear htc htb
      by_cases he : i < en
      · obtain ⟨eb, eoff, ex, rfl, heb, hec⟩ := bool_at HES.out he
        have ecell := (HS.out.end.cell (p := ⟨eb, eoff + i, none⟩) heb).trans hec
        clear heb hec
        cases ex
        · cases th
          · by_cases hlt : v ≤ last
            · have HZ : Hid (last = 0 → false = false) := hz
              clear hz
              have HK := Lib.hid ((verL_put (id := id) (last := last) (v := v) (th := false) HID16.out hv1).2)
              rw [if_pos hlt] at HK
              have HZ2 : Hid (last = 0 → false = false) := (fun h => rfl)
              have HIS := Lib.hid (verL_is (id := id) HZ2.out)
              have HRC := Lib.hid (verL_rec (id := id) HZ2.out)
              have HCN : Hid ((verL id last false).countP isB = 0) := by show (verL id last false).countP isB = 0; rw [verL_cnt HZ2.out]; rfl
              have hlen0 := verL_len id last false
              have hlen1 := verL_len id last false
              have hvr : verR id last false = ⟨0, 0, []⟩ := rfl
              rw [hvr] at HRC
              clear hvr
              go_wp2_with (first
                | (go_at_call 31; go_loud (refine (mo_del (L' := verL id last false) (bo := false) 0 HS.out rfl (by simp) (by omega) HIDU.out HVU.out HK.out rfl).mono ?_; rintro e2 w2 ⟨rfl, hs, _⟩; have HS2 := Lib.hid hs; clear hs))
                | (go_at_call 26; go_loud (refine (mo_put (r := ⟨id, v, [v]⟩) (L' := verL id last false) (bo := false) 0 (HS.out.addBox #[.int .u32 v] _) rfl (by simp) (by omega) (by omega) (by omega) (one_ok HIDU.out HVU.out HV32.out) (fun c h => ints_one' (h.box (i := 1) rfl).1 HV32.out (h.box (i := 1) rfl).2) HRT.out HK.out rfl).mono ?_; rintro e2 w2 ⟨rfl, hs, _⟩; have HS2 := Lib.hid (hs.pick (ts' := [tModel [1] b 1 (verL id last false)]) (by simp)); clear hs))
                | (go_at_call 28; go_loud (refine (mo_get (r := ⟨0, 0, []⟩) (bo := false) 0 HS2.out rfl HIDU.out HRC.out HIS.out).mono ?_; rintro e3 w3 ⟨gs, gn, gk, rfl, _, _, hs, _⟩; have HS3 := Lib.hid (hs.later (below_a1 w3 (.cells #[.int .u64 (⟨0, 0, []⟩ : Rec).id, .int .u64 (⟨0, 0, []⟩ : Rec).ver, .slice gs gn gk] 30))); clear hs))
                | (go_at_call 34; go_loud (refine (mo_len (n := 0) 0 HS3.out rfl (by omega) HCN.out).mono ?_; rintro e4 w4 ⟨rfl, hs, _⟩; have HS4 := Lib.hid hs; clear hs)))
              go_roundw
              case rel => exact ⟨last, false, i + 1, by omega, rfl, rfl, by go_num, by omega, by omega, (by first | exact HZ2.out | exact (fun _ => rfl)), HS4.out⟩
              case measure => simp [intOf]; omega
            · have HZ : Hid (last = 0 → false = false) := hz
              clear hz
              have HK := Lib.hid ((verL_put (id := id) (last := last) (v := v) (th := false) HID16.out hv1).2)
              rw [if_neg hlt] at HK
              have HZ2 : Hid (v = 0 → true = false) := (fun h => by omega)
              have HIS := Lib.hid (verL_is (id := id) HZ2.out)
              have HRC := Lib.hid (verL_rec (id := id) HZ2.out)
              have HCN : Hid ((verL id v true).countP isB = 1) := by show (verL id v true).countP isB = 1; rw [verL_cnt HZ2.out]; rfl
              have hlen0 := verL_len id last false
              have hlen1 := verL_len id v true
              have hvr : verR id v true = ⟨id, v, [v]⟩ := rfl
              rw [hvr] at HRC
              clear hvr
              go_wp2_with (first
                | (go_at_call 31; go_loud (refine (mo_del (L' := verL id v true) (bo := true) 0 HS.out rfl (by simp) (by omega) HIDU.out HVU.out HK.out rfl).mono ?_; rintro e2 w2 ⟨rfl, hs, _⟩; have HS2 := Lib.hid hs; clear hs))
                | (go_at_call 26; go_loud (refine (mo_put (r := ⟨id, v, [v]⟩) (L' := verL id v true) (bo := true) 0 (HS.out.addBox #[.int .u32 v] _) rfl (by simp) (by omega) (by omega) (by omega) (one_ok HIDU.out HVU.out HV32.out) (fun c h => ints_one' (h.box (i := 1) rfl).1 HV32.out (h.box (i := 1) rfl).2) HRT.out HK.out rfl).mono ?_; rintro e2 w2 ⟨rfl, hs, _⟩; have HS2 := Lib.hid (hs.pick (ts' := [tModel [1] b 1 (verL id v true)]) (by simp)); clear hs))
                | (go_at_call 28; go_loud (refine (mo_get (r := ⟨id, v, [v]⟩) (bo := true) 0 HS2.out rfl HIDU.out HRC.out HIS.out).mono ?_; rintro e3 w3 ⟨gs, gn, gk, rfl, _, _, hs, _⟩; have HS3 := Lib.hid (hs.later (below_a1 w3 (.cells #[.int .u64 (⟨id, v, [v]⟩ : Rec).id, .int .u64 (⟨id, v, [v]⟩ : Rec).ver, .slice gs gn gk] 30))); clear hs))
                | (go_at_call 34; go_loud (refine (mo_len (n := 1) 0 HS3.out rfl (by omega) HCN.out).mono ?_; rintro e4 w4 ⟨rfl, hs, _⟩; have HS4 := Lib.hid hs; clear hs)))
              go_roundw
              case rel => exact ⟨v, true, i + 1, by omega, rfl, rfl, by go_num, by omega, by omega, (by first | exact HZ2.out | exact (fun _ => rfl)), HS4.out⟩
              case measure => simp [intOf]; omega
          · by_cases hlt : v ≤ last
            · have HZ : Hid (last = 0 → true = false) := hz
              clear hz
              have HK := Lib.hid ((verL_put (id := id) (last := last) (v := v) (th := true) HID16.out hv1).2)
              rw [if_pos hlt] at HK
              have HZ2 : Hid (last = 0 → true = false) := HZ.out
              have HIS := Lib.hid (verL_is (id := id) HZ2.out)
              have HRC := Lib.hid (verL_rec (id := id) HZ2.out)
              have HCN : Hid ((verL id last true).countP isB = 1) := by show (verL id last true).countP isB = 1; rw [verL_cnt HZ2.out]; rfl
              have hlen0 := verL_len id last true
              have hlen1 := verL_len id last true
              have hvr : verR id last true = ⟨id, last, [last]⟩ := rfl
              rw [hvr] at HRC
              clear hvr
              go_wp2_with (first
                | (go_at_call 31; go_loud (refine (mo_del (L' := verL id last true) (bo := false) 0 HS.out rfl (by simp) (by omega) HIDU.out HVU.out HK.out rfl).mono ?_; rintro e2 w2 ⟨rfl, hs, _⟩; have HS2 := Lib.hid hs; clear hs))
                | (go_at_call 26; go_loud (refine (mo_put (r := ⟨id, v, [v]⟩) (L' := verL id last true) (bo := false) 0 (HS.out.addBox #[.int .u32 v] _) rfl (by simp) (by omega) (by omega) (by omega) (one_ok HIDU.out HVU.out HV32.out) (fun c h => ints_one' (h.box (i := 1) rfl).1 HV32.out (h.box (i := 1) rfl).2) HRT.out HK.out rfl).mono ?_; rintro e2 w2 ⟨rfl, hs, _⟩; have HS2 := Lib.hid (hs.pick (ts' := [tModel [1] b 1 (verL id last true)]) (by simp)); clear hs))
                | (go_at_call 28; go_loud (refine (mo_get (r := ⟨id, last, [last]⟩) (bo := true) 0 HS2.out rfl HIDU.out HRC.out HIS.out).mono ?_; rintro e3 w3 ⟨gs, gn, gk, rfl, _, _, hs, _⟩; have HS3 := Lib.hid (hs.later (below_a1 w3 (.cells #[.int .u64 (⟨id, last, [last]⟩ : Rec).id, .int .u64 (⟨id, last, [last]⟩ : Rec).ver, .slice gs gn gk] 30))); clear hs))
                | (go_at_call 34; go_loud (refine (mo_len (n := 1) 0 HS3.out rfl (by omega) HCN.out).mono ?_; rintro e4 w4 ⟨rfl, hs, _⟩; have HS4 := Lib.hid hs; clear hs)))
              go_roundw
              case rel => exact ⟨last, true, i + 1, by omega, rfl, rfl, by go_num, by omega, by omega, (by first | exact HZ2.out | exact (fun _ => rfl)), HS4.out⟩
              case measure => simp [intOf]; omega
            · have HZ : Hid (last = 0 → true = false) := hz
              clear hz
              have HK := Lib.hid ((verL_put (id := id) (last := last) (v := v) (th := true) HID16.out hv1).2)
              rw [if_neg hlt] at HK
              have HZ2 : Hid (v = 0 → true = false) := (fun h => by omega)
              have HIS := Lib.hid (verL_is (id := id) HZ2.out)
              have HRC := Lib.hid (verL_rec (id := id) HZ2.out)
              have HCN : Hid ((verL id v true).countP isB = 1) := by show (verL id v true).countP isB = 1; rw [verL_cnt HZ2.out]; rfl
              have hlen0 := verL_len id last true
              have hlen1 := verL_len id v true
              have hvr : verR id v true = ⟨id, v, [v]⟩ := rfl
              rw [hvr] at HRC
              clear hvr
              go_wp2_with (first
                | (go_at_call 31; go_loud (refine (mo_del (L' := verL id v true) (bo := true) 0 HS.out rfl (by simp) (by omega) HIDU.out HVU.out HK.out rfl).mono ?_; rintro e2 w2 ⟨rfl, hs, _⟩; have HS2 := Lib.hid hs; clear hs))
                | (go_at_call 26; go_loud (refine (mo_put (r := ⟨id, v, [v]⟩) (L' := verL id v true) (bo := true) 0 (HS.out.addBox #[.int .u32 v] _) rfl (by simp) (by omega) (by omega) (by omega) (one_ok HIDU.out HVU.out HV32.out) (fun c h => ints_one' (h.box (i := 1) rfl).1 HV32.out (h.box (i := 1) rfl).2) HRT.out HK.out rfl).mono ?_; rintro e2 w2 ⟨rfl, hs, _⟩; have HS2 := Lib.hid (hs.pick (ts' := [tModel [1] b 1 (verL id v true)]) (by simp)); clear hs))
                | (go_at_call 28; go_loud (refine (mo_get (r := ⟨id, v, [v]⟩) (bo := true) 0 HS2.out rfl HIDU.out HRC.out HIS.out).mono ?_; rintro e3 w3 ⟨gs, gn, gk, rfl, _, _, hs, _⟩; have HS3 := Lib.hid (hs.later (below_a1 w3 (.cells #[.int .u64 (⟨id, v, [v]⟩ : Rec).id, .int .u64 (⟨id, v, [v]⟩ : Rec).ver, .slice gs gn gk] 30))); clear hs))
                | (go_at_call 34; go_loud (refine (mo_len (n := 1) 0 HS3.out rfl (by omega) HCN.out).mono ?_; rintro e4 w4 ⟨rfl, hs, _⟩; have HS4 := Lib.hid hs; clear hs)))
              go_roundw
              case rel => exact ⟨v, true, i + 1, by omega, rfl, rfl, by go_num, by omega, by omega, (by first | exact HZ2.out | exact (fun _ => rfl)), HS4.out⟩
              case measure => simp [intOf]; omega
        · cases th
          · by_cases hlt : v ≤ last
            · have HZ : Hid (last = 0 → false = false) := hz
              clear hz
              have HK := Lib.hid (verL_del (id := id) (last := last) (v := v) (th := false) HZ.out hv1)
              rw [if_neg (by simp)] at HK
              have HZ2 : Hid (last = 0 → false = false) := (fun h => rfl)
              have HIS := Lib.hid (verL_is (id := id) HZ2.out)
              have HRC := Lib.hid (verL_rec (id := id) HZ2.out)
              have HCN : Hid ((verL id last false).countP isB = 0) := by show (verL id last false).countP isB = 0; rw [verL_cnt HZ2.out]; rfl
              have hlen0 := verL_len id last false
              have hlen1 := verL_len id last false
              have hvr : verR id last false = ⟨0, 0, []⟩ := rfl
              rw [hvr] at HRC
              clear hvr
              go_wp2_with (first
                | (go_at_call 31; go_loud (refine (mo_del (L' := verL id last false) (bo := false) 0 HS.out rfl (by simp) (by omega) HIDU.out HVU.out HK.out rfl).mono ?_; rintro e2 w2 ⟨rfl, hs, _⟩; have HS2 := Lib.hid hs; clear hs))
                | (go_at_call 26; go_loud (refine (mo_put (r := ⟨id, v, [v]⟩) (L' := verL id last false) (bo := false) 0 (HS.out.addBox #[.int .u32 v] _) rfl (by simp) (by omega) (by omega) (by omega) (one_ok HIDU.out HVU.out HV32.out) (fun c h => ints_one' (h.box (i := 1) rfl).1 HV32.out (h.box (i := 1) rfl).2) HRT.out HK.out rfl).mono ?_; rintro e2 w2 ⟨rfl, hs, _⟩; have HS2 := Lib.hid (hs.pick (ts' := [tModel [1] b 1 (verL id last false)]) (by simp)); clear hs))
                | (go_at_call 28; go_loud (refine (mo_get (r := ⟨0, 0, []⟩) (bo := false) 0 HS2.out rfl HIDU.out HRC.out HIS.out).mono ?_; rintro e3 w3 ⟨gs, gn, gk, rfl, _, _, hs, _⟩; have HS3 := Lib.hid (hs.later (below_a1 w3 (.cells #[.int .u64 (⟨0, 0, []⟩ : Rec).id, .int .u64 (⟨0, 0, []⟩ : Rec).ver, .slice gs gn gk] 30))); clear hs))
                | (go_at_call 34; go_loud (refine (mo_len (n := 0) 0 HS3.out rfl (by omega) HCN.out).mono ?_; rintro e4 w4 ⟨rfl, hs, _⟩; have HS4 := Lib.hid hs; clear hs)))
              go_roundw
              case rel => exact ⟨last, false, i + 1, by omega, rfl, rfl, by go_num, by omega, by omega, (by first | exact HZ2.out | exact (fun _ => rfl)), HS4.out⟩
              case measure => simp [intOf]; omega
            · have HZ : Hid (last = 0 → false = false) := hz
              clear hz
              have HK := Lib.hid (verL_del (id := id) (last := last) (v := v) (th := false) HZ.out hv1)
              rw [if_neg (by simp)] at HK
              have HZ2 : Hid (last = 0 → false = false) := (fun h => rfl)
              have HIS := Lib.hid (verL_is (id := id) HZ2.out)
              have HRC := Lib.hid (verL_rec (id := id) HZ2.out)
              have HCN : Hid ((verL id last false).countP isB = 0) := by show (verL id last false).countP isB = 0; rw [verL_cnt HZ2.out]; rfl
              have hlen0 := verL_len id last false
              have hlen1 := verL_len id last false
              have hvr : verR id last false = ⟨0, 0, []⟩ := rfl
              rw [hvr] at HRC
              clear hvr
              go_wp2_with (first
                | (go_at_call 31; go_loud (refine (mo_del (L' := verL id last false) (bo := false) 0 HS.out rfl (by simp) (by omega) HIDU.out HVU.out HK.out rfl).mono ?_; rintro e2 w2 ⟨rfl, hs, _⟩; have HS2 := Lib.hid hs; clear hs))
                | (go_at_call 26; go_loud (refine (mo_put (r := ⟨id, v, [v]⟩) (L' := verL id last false) (bo := false) 0 (HS.out.addBox #[.int .u32 v] _) rfl (by simp) (by omega) (by omega) (by omega) (one_ok HIDU.out HVU.out HV32.out) (fun c h => ints_one' (h.box (i := 1) rfl).1 HV32.out (h.box (i := 1) rfl).2) HRT.out HK.out rfl).mono ?_; rintro e2 w2 ⟨rfl, hs, _⟩; have HS2 := Lib.hid (hs.pick (ts' := [tModel [1] b 1 (verL id last false)]) (by simp)); clear hs))
                | (go_at_call 28; go_loud (refine (mo_get (r := ⟨0, 0, []⟩) (bo := false) 0 HS2.out rfl HIDU.out HRC.out HIS.out).mono ?_; rintro e3 w3 ⟨gs, gn, gk, rfl, _, _, hs, _⟩; have HS3 := Lib.hid (hs.later (below_a1 w3 (.cells #[.int .u64 (⟨0, 0, []⟩ : Rec).id, .int .u64 (⟨0, 0, []⟩ : Rec).ver, .slice gs gn gk] 30))); clear hs))
                | (go_at_call 34; go_loud (refine (mo_len (n := 0) 0 HS3.out rfl (by omega) HCN.out).mono ?_; rintro e4 w4 ⟨rfl, hs, _⟩; have HS4 := Lib.hid hs; clear hs)))
              go_roundw
              case rel => exact ⟨last, false, i + 1, by omega, rfl, rfl, by go_num, by omega, by omega, (by first | exact HZ2.out | exact (fun _ => rfl)), HS4.out⟩
              case measure => simp [intOf]; omega
          · by_cases hlt : v ≤ last
            · have HZ : Hid (last = 0 → true = false) := hz
              clear hz
              have HK := Lib.hid (verL_del (id := id) (last := last) (v := v) (th := true) HZ.out hv1)
              rw [if_pos rfl, if_pos hlt] at HK
              have HZ2 : Hid (last = 0 → true = false) := HZ.out
              have HIS := Lib.hid (verL_is (id := id) HZ2.out)
              have HRC := Lib.hid (verL_rec (id := id) HZ2.out)
              have HCN : Hid ((verL id last true).countP isB = 1) := by show (verL id last true).countP isB = 1; rw [verL_cnt HZ2.out]; rfl
              have hlen0 := verL_len id last true
              have hlen1 := verL_len id last true
              have hvr : verR id last true = ⟨id, last, [last]⟩ := rfl
              rw [hvr] at HRC
              clear hvr
              go_wp2_with (first
                | (go_at_call 31; go_loud (refine (mo_del (L' := verL id last true) (bo := false) 0 HS.out rfl (by simp) (by omega) HIDU.out HVU.out HK.out rfl).mono ?_; rintro e2 w2 ⟨rfl, hs, _⟩; have HS2 := Lib.hid hs; clear hs))
                | (go_at_call 26; go_loud (refine (mo_put (r := ⟨id, v, [v]⟩) (L' := verL id last true) (bo := false) 0 (HS.out.addBox #[.int .u32 v] _) rfl (by simp) (by omega) (by omega) (by omega) (one_ok HIDU.out HVU.out HV32.out) (fun c h => ints_one' (h.box (i := 1) rfl).1 HV32.out (h.box (i := 1) rfl).2) HRT.out HK.out rfl).mono ?_; rintro e2 w2 ⟨rfl, hs, _⟩; have HS2 := Lib.hid (hs.pick (ts' := [tModel [1] b 1 (verL id last true)]) (by simp)); clear hs))
                | (go_at_call 28; go_loud (refine (mo_get (r := ⟨id, last, [last]⟩) (bo := true) 0 HS2.out rfl HIDU.out HRC.out HIS.out).mono ?_; rintro e3 w3 ⟨gs, gn, gk, rfl, _, _, hs, _⟩; have HS3 := Lib.hid (hs.later (below_a1 w3 (.cells #[.int .u64 (⟨id, last, [last]⟩ : Rec).id, .int .u64 (⟨id, last, [last]⟩ : Rec).ver, .slice gs gn gk] 30))); clear hs))
                | (go_at_call 34; go_loud (refine (mo_len (n := 1) 0 HS3.out rfl (by omega) HCN.out).mono ?_; rintro e4 w4 ⟨rfl, hs, _⟩; have HS4 := Lib.hid hs; clear hs)))
              go_roundw
              case rel => exact ⟨last, true, i + 1, by omega, rfl, rfl, by go_num, by omega, by omega, (by first | exact HZ2.out | exact (fun _ => rfl)), HS4.out⟩
              case measure => simp [intOf]; omega
            · have HZ : Hid (last = 0 → true = false) := hz
              clear hz
              have HK := Lib.hid (verL_del (id := id) (last := last) (v := v) (th := true) HZ.out hv1)
              rw [if_pos rfl, if_neg hlt] at HK
              have HZ2 : Hid (v = 0 → false = false) := (fun h => rfl)
              have HIS := Lib.hid (verL_is (id := id) HZ2.out)
              have HRC := Lib.hid (verL_rec (id := id) HZ2.out)
              have HCN : Hid ((verL id v false).countP isB = 0) := by show (verL id v false).countP isB = 0; rw [verL_cnt HZ2.out]; rfl
              have hlen0 := verL_len id last true
              have hlen1 := verL_len id v false
              have hvr : verR id v false = ⟨0, 0, []⟩ := rfl
              rw [hvr] at HRC
              clear hvr
              go_wp2_with (first
                | (go_at_call 31; go_loud (refine (mo_del (L' := verL id v false) (bo := true) 0 HS.out rfl (by simp) (by omega) HIDU.out HVU.out HK.out rfl).mono ?_; rintro e2 w2 ⟨rfl, hs, _⟩; have HS2 := Lib.hid hs; clear hs))
                | (go_at_call 26; go_loud (refine (mo_put (r := ⟨id, v, [v]⟩) (L' := verL id v false) (bo := true) 0 (HS.out.addBox #[.int .u32 v] _) rfl (by simp) (by omega) (by omega) (by omega) (one_ok HIDU.out HVU.out HV32.out) (fun c h => ints_one' (h.box (i := 1) rfl).1 HV32.out (h.box (i := 1) rfl).2) HRT.out HK.out rfl).mono ?_; rintro e2 w2 ⟨rfl, hs, _⟩; have HS2 := Lib.hid (hs.pick (ts' := [tModel [1] b 1 (verL id v false)]) (by simp)); clear hs))
                | (go_at_call 28; go_loud (refine (mo_get (r := ⟨0, 0, []⟩) (bo := false) 0 HS2.out rfl HIDU.out HRC.out HIS.out).mono ?_; rintro e3 w3 ⟨gs, gn, gk, rfl, _, _, hs, _⟩; have HS3 := Lib.hid (hs.later (below_a1 w3 (.cells #[.int .u64 (⟨0, 0, []⟩ : Rec).id, .int .u64 (⟨0, 0, []⟩ : Rec).ver, .slice gs gn gk] 30))); clear hs))
                | (go_at_call 34; go_loud (refine (mo_len (n := 0) 0 HS3.out rfl (by omega) HCN.out).mono ?_; rintro e4 w4 ⟨rfl, hs, _⟩; have HS4 := Lib.hid hs; clear hs)))
              go_roundw
              case rel => exact ⟨v, false, i + 1, by omega, rfl, rfl, by go_num, by omega, by omega, (by first | exact HZ2.out | exact (fun _ => rfl)), HS4.out⟩
              case measure => simp [intOf]; omega
      · cases th
        · by_cases hlt : v ≤ last
          · have HZ : Hid (last = 0 → false = false) := hz
            clear hz
            have HK := Lib.hid ((verL_put (id := id) (last := last) (v := v) (th := false) HID16.out hv1).2)
            rw [if_pos hlt] at HK
            have HZ2 : Hid (last = 0 → false = false) := (fun h => rfl)
            have HIS := Lib.hid (verL_is (id := id) HZ2.out)
            have HRC := Lib.hid (verL_rec (id := id) HZ2.out)
            have HCN : Hid ((verL id last false).countP isB = 0) := by show (verL id last false).countP isB = 0; rw [verL_cnt HZ2.out]; rfl
            have hlen0 := verL_len id last false
            have hlen1 := verL_len id last false
            have hvr : verR id last false = ⟨0, 0, []⟩ := rfl
            rw [hvr] at HRC
            clear hvr
            go_wp2_with (first
              | (go_at_call 31; go_loud (refine (mo_del (L' := verL id last false) (bo := false) 0 HS.out rfl (by simp) (by omega) HIDU.out HVU.out HK.out rfl).mono ?_; rintro e2 w2 ⟨rfl, hs, _⟩; have HS2 := Lib.hid hs; clear hs))
              | (go_at_call 26; go_loud (refine (mo_put (r := ⟨id, v, [v]⟩) (L' := verL id last false) (bo := false) 0 (HS.out.addBox #[.int .u32 v] _) rfl (by simp) (by omega) (by omega) (by omega) (one_ok HIDU.out HVU.out HV32.out) (fun c h => ints_one' (h.box (i := 1) rfl).1 HV32.out (h.box (i := 1) rfl).2) HRT.out HK.out rfl).mono ?_; rintro e2 w2 ⟨rfl, hs, _⟩; have HS2 := Lib.hid (hs.pick (ts' := [tModel [1] b 1 (verL id last false)]) (by simp)); clear hs))
              | (go_at_call 28; go_loud (refine (mo_get (r := ⟨0, 0, []⟩) (bo := false) 0 HS2.out rfl HIDU.out HRC.out HIS.out).mono ?_; rintro e3 w3 ⟨gs, gn, gk, rfl, _, _, hs, _⟩; have HS3 := Lib.hid (hs.later (below_a1 w3 (.cells #[.int .u64 (⟨0, 0, []⟩ : Rec).id, .int .u64 (⟨0, 0, []⟩ : Rec).ver, .slice gs gn gk] 30))); clear hs))
              | (go_at_call 34; go_loud (refine (mo_len (n := 0) 0 HS3.out rfl (by omega) HCN.out).mono ?_; rintro e4 w4 ⟨rfl, hs, _⟩; have HS4 := Lib.hid hs; clear hs)))
            go_roundw
            case rel => exact ⟨last, false, i + 1, by omega, rfl, rfl, by go_num, by omega, by omega, (by first | exact HZ2.out | exact (fun _ => rfl)), HS4.out⟩
            case measure => simp [intOf]; omega
          · have HZ : Hid (last = 0 → false = false) := hz
            clear hz
            have HK := Lib.hid ((verL_put (id := id) (last := last) (v := v) (th := false) HID16.out hv1).2)
            rw [if_neg hlt] at HK
            have HZ2 : Hid (v = 0 → true = false) := (fun h => by omega)
            have HIS := Lib.hid (verL_is (id := id) HZ2.out)
            have HRC := Lib.hid (verL_rec (id := id) HZ2.out)
            have HCN : Hid ((verL id v true).countP isB = 1) := by show (verL id v true).countP isB = 1; rw [verL_cnt HZ2.out]; rfl
            have hlen0 := verL_len id last false
            have hlen1 := verL_len id v true
            have hvr : verR id v true = ⟨id, v, [v]⟩ := rfl
            rw [hvr] at HRC
            clear hvr
            go_wp2_with (first
              | (go_at_call 31; go_loud (refine (mo_del (L' := verL id v true) (bo := true) 0 HS.out rfl (by simp) (by omega) HIDU.out HVU.out HK.out rfl).mono ?_; rintro e2 w2 ⟨rfl, hs, _⟩; have HS2 := Lib.hid hs; clear hs))
              | (go_at_call 26; go_loud (refine (mo_put (r := ⟨id, v, [v]⟩) (L' := verL id v true) (bo := true) 0 (HS.out.addBox #[.int .u32 v] _) rfl (by simp) (by omega) (by omega) (by omega) (one_ok HIDU.out HVU.out HV32.out) (fun c h => ints_one' (h.box (i := 1) rfl).1 HV32.out (h.box (i := 1) rfl).2) HRT.out HK.out rfl).mono ?_; rintro e2 w2 ⟨rfl, hs, _⟩; have HS2 := Lib.hid (hs.pick (ts' := [tModel [1] b 1 (verL id v true)]) (by simp)); clear hs))
              | (go_at_call 28; go_loud (refine (mo_get (r := ⟨id, v, [v]⟩) (bo := true) 0 HS2.out rfl HIDU.out HRC.out HIS.out).mono ?_; rintro e3 w3 ⟨gs, gn, gk, rfl, _, _, hs, _⟩; have HS3 := Lib.hid (hs.later (below_a1 w3 (.cells #[.int .u64 (⟨id, v, [v]⟩ : Rec).id, .int .u64 (⟨id, v, [v]⟩ : Rec).ver, .slice gs gn gk] 30))); clear hs))
              | (go_at_call 34; go_loud (refine (mo_len (n := 1) 0 HS3.out rfl (by omega) HCN.out).mono ?_; rintro e4 w4 ⟨rfl, hs, _⟩; have HS4 := Lib.hid hs; clear hs)))
            go_roundw
            case rel => exact ⟨v, true, i + 1, by omega, rfl, rfl, by go_num, by omega, by omega, (by first | exact HZ2.out | exact (fun _ => rfl)), HS4.out⟩
            case measure => simp [intOf]; omega
        · by_cases hlt : v ≤ last
          · have HZ : Hid (last = 0 → true = false) := hz
            clear hz
            have HK := Lib.hid ((verL_put (id := id) (last := last) (v := v) (th := true) HID16.out hv1).2)
            rw [if_pos hlt] at HK
            have HZ2 : Hid (last = 0 → true = false) := HZ.out
            have HIS := Lib.hid (verL_is (id := id) HZ2.out)
            have HRC := Lib.hid (verL_rec (id := id) HZ2.out)
            have HCN : Hid ((verL id last true).countP isB = 1) := by show (verL id last true).countP isB = 1; rw [verL_cnt HZ2.out]; rfl
            have hlen0 := verL_len id last true
            have hlen1 := verL_len id last true
            have hvr : verR id last true = ⟨id, last, [last]⟩ := rfl
            rw [hvr] at HRC
            clear hvr
            go_wp2_with (first
              | (go_at_call 31; go_loud (refine (mo_del (L' := verL id last true) (bo := false) 0 HS.out rfl (by simp) (by omega) HIDU.out HVU.out HK.out rfl).mono ?_; rintro e2 w2 ⟨rfl, hs, _⟩; have HS2 := Lib.hid hs; clear hs))
              | (go_at_call 26; go_loud (refine (mo_put (r := ⟨id, v, [v]⟩) (L' := verL id last true) (bo := false) 0 (HS.out.addBox #[.int .u32 v] _) rfl (by simp) (by omega) (by omega) (by omega) (one_ok HIDU.out HVU.out HV32.out) (fun c h => ints_one' (h.box (i := 1) rfl).1 HV32.out (h.box (i := 1) rfl).2) HRT.out HK.out rfl).mono ?_; rintro e2 w2 ⟨rfl, hs, _⟩; have HS2 := Lib.hid (hs.pick (ts' := [tModel [1] b 1 (verL id last true)]) (by simp)); clear hs))
              | (go_at_call 28; go_loud (refine (mo_get (r := ⟨id, last, [last]⟩) (bo := true) 0 HS2.out rfl HIDU.out HRC.out HIS.out).mono ?_; rintro e3 w3 ⟨gs, gn, gk, rfl, _, _, hs, _⟩; have HS3 := Lib.hid (hs.later (below_a1 w3 (.cells #[.int .u64 (⟨id, last, [last]⟩ : Rec).id, .int .u64 (⟨id, last, [last]⟩ : Rec).ver, .slice gs gn gk] 30))); clear hs))
              | (go_at_call 34; go_loud (refine (mo_len (n := 1) 0 HS3.out rfl (by omega) HCN.out).mono ?_; rintro e4 w4 ⟨rfl, hs, _⟩; have HS4 := Lib.hid hs; clear hs)))
            go_roundw
            case rel => exact ⟨last, true, i + 1, by omega, rfl, rfl, by go_num, by omega, by omega, (by first | exact HZ2.out | exact (fun _ => rfl)), HS4.out⟩
            case measure => simp [intOf]; omega
          · have HZ : Hid (last = 0 → true = false) := hz
            clear hz
            have HK := Lib.hid ((verL_put (id := id) (last := last) (v := v) (th := true) HID16.out hv1).2)
            rw [if_neg hlt] at HK
            have HZ2 : Hid (v = 0 → true = false) := (fun h => by omega)
            have HIS := Lib.hid (verL_is (id := id) HZ2.out)
            have HRC := Lib.hid (verL_rec (id := id) HZ2.out)
            have HCN : Hid ((verL id v true).countP isB = 1) := by show (verL id v true).countP isB = 1; rw [verL_cnt HZ2.out]; rfl
            have hlen0 := verL_len id last true
            have hlen1 := verL_len id v true
            have hvr : verR id v true = ⟨id, v, [v]⟩ := rfl
            rw [hvr] at HRC
            clear hvr
            go_wp2_with (first
              | (go_at_call 31; go_loud (refine (mo_del (L' := verL id v true) (bo := true) 0 HS.out rfl (by simp) (by omega) HIDU.out HVU.out HK.out rfl).mono ?_; rintro e2 w2 ⟨rfl, hs, _⟩; have HS2 := Lib.hid hs; clear hs))
              | (go_at_call 26; go_loud (refine (mo_put (r := ⟨id, v, [v]⟩) (L' := verL id v true) (bo := true) 0 (HS.out.addBox #[.int .u32 v] _) rfl (by simp) (by omega) (by omega) (by omega) (one_ok HIDU.out HVU.out HV32.out) (fun c h => ints_one' (h.box (i := 1) rfl).1 HV32.out (h.box (i := 1) rfl).2) HRT.out HK.out rfl).mono ?_; rintro e2 w2 ⟨rfl, hs, _⟩; have HS2 := Lib.hid (hs.pick (ts' := [tModel [1] b 1 (verL id v true)]) (by simp)); clear hs))
              | (go_at_call 28; go_loud (refine (mo_get (r := ⟨id, v, [v]⟩) (bo := true) 0 HS2.out rfl HIDU.out HRC.out HIS.out).mono ?_; rintro e3 w3 ⟨gs, gn, gk, rfl, _, _, hs, _⟩; have HS3 := Lib.hid (hs.later (below_a1 w3 (.cells #[.int .u64 (⟨id, v, [v]⟩ : Rec).id, .int .u64 (⟨id, v, [v]⟩ : Rec).ver, .slice gs gn gk] 30))); clear hs))
              | (go_at_call 34; go_loud (refine (mo_len (n := 1) 0 HS3.out rfl (by omega) HCN.out).mono ?_; rintro e4 w4 ⟨rfl, hs, _⟩; have HS4 := Lib.hid hs; clear hs)))
            go_roundw
            case rel => exact ⟨v, true, i + 1, by omega, rfl, rfl, by go_num, by omega, by omega, (by first | exact HZ2.out | exact (fun _ => rfl)), HS4.out⟩
            case measure => simp [intOf]; omega
    · have hcc : (¬ i < vn) ∨ (i < vn ∧ ¬ i < 40) := by omega
      clear hc
      rcases hcc with h1 | ⟨h1, h2⟩
      all_goals
        go_wp2
        go_ret
        exact ⟨rfl, HS.out.end⟩

theorem wModelVersions (W : World) (vs : List Value) (h : Sh.Args W (· < W.heap.size) [((.int .u64), 27), ((.sl (.int .u64) 8), 38), ((.sl .bool 1), 72)] vs) :
    Calls Try.prog 11 vs.toArray W fun e W' => e = .returned (.bool true) ∧ Below W.heap.size W W' := by
  obtain ⟨v0, _, rfl, ⟨a, ha⟩, v1, _, rfl, ⟨b, hb⟩, v2, _, rfl, ⟨d, hd⟩, rfl⟩ := h
  obtain ⟨id, rfl, hid⟩ := int_open ha
  obtain ⟨ts, TA, tn, tc, rfl, hi⟩ := ints_open hb
  obtain ⟨EA, en, ec, es, rfl, he⟩ := bools_open hd
  exact wModelVersions0 W id TA tn tc ts EA en ec es (u64_of hid) hi he
end Go.Proofs.Ytpkeddiaoacfeaa
