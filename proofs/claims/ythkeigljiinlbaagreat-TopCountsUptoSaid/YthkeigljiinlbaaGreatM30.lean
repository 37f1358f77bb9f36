/- What group.Rows asks of its schema, its columns, its aggregates and its window. -/
import Derived.Test.YthkeigljiinlbaaGreatM29
namespace Go.Proofs.YthkeigljiinlbaaGreat
open Go.RowKit

/-- An aggregate. -/
structure Ag where
  k : Int
  c : Int
  n : List UInt8
def encA (x : Ag) : List Value := [.int .i64 x.k, .int .i64 x.c, .string ⟨⟨x.n⟩⟩]
theorem encA_len (x : Ag) : (encA x).length = 3 := rfl
abbrev A1 : List Ag := [⟨1, 0, [110]⟩]
theorem Src.cellsA {w : World} {N : Nat → Prop} {A : Option Addr} (h : Src encA 3 w N A A1) :
    ∃ b off, A = some ⟨b, off, none⟩ ∧ ¬ N b ∧ w.cell? ⟨b, off, none⟩ = some (.int .i64 1) ∧ w.cell? ⟨b, off + 1, none⟩ = some (.int .i64 0) ∧ w.cell? ⟨b, off + 2, none⟩ = some (.string ⟨⟨[110]⟩⟩) := by
  obtain ⟨b, off, e, hb, hc⟩ := h 0 ⟨1, 0, [110]⟩ rfl
  have h0 := hc 0 _ rfl
  have h1 := hc 1 _ rfl
  have h2 := hc 2 _ rfl
  simp only [Nat.zero_mul, Nat.add_zero] at h0 h1 h2
  exact ⟨b, off, e, hb, h0, h1, h2⟩

theorem make_any {P : Program} (t e : TypeId) (z : Value) (sz bytes : Nat) (ht : P.underlying t = some (.slice e)) (hi : (P.info? e).map (fun i => (i.zero, i.size, i.bytes)) = some (some z, sz, bytes)) (c : Nat) (ci : Int) (hci : ci = c) (hc : c ≤ maxLen) (hb : bytes * c ≤ 281474976710656) :
    ∃ C : Array Value, (∀ w, (Instr.makeSlice t (.int .i64 0) (.int .i64 ci)).run P w = .ok (.slice (some ⟨w.heap.size, 0, none⟩) 0 c) (w.alloc (.cells C e))) ∧ ∀ (α : Type) (enc : α → List Value) (w : World), New enc sz e w (w.alloc (.cells C e)) (.slice (some ⟨w.heap.size, 0, none⟩) 0 c) [] := by
  obtain ⟨i, h1, h2, h3, h4⟩ := info_parts hi
  subst hci
  have h63' : (c : Int) ≤ 9223372036854775807 := by unfold maxLen at hc; omega
  have hb' : (i.bytes : Int) * (c : Int) ≤ 281474976710656 := by
    have h : ((i.bytes * c : Nat) : Int) ≤ 281474976710656 := by rw [h4]; omega
    rwa [Int.natCast_mul] at h
  refine ⟨madeCells z.cells (c * i.size), fun w => ?_, fun α enc w => ?_⟩
  · have hr := run_make (P := P) w t e i z ht h1 h2 .i64 .i64 0 c (Int.le_refl _) (by omega) hb' h63'
    simp only [Int.toNat_zero, Int.toNat_natCast] at hr
    exact hr
  · have ho := World.ownsRow_made (base := w.heap.size) (e := e) (size := i.size) w (madeCells z.cells (c * i.size)) c (Nat.le_refl _) hc (size_madeCells _ _)
    rw [h3] at ho
    obtain ⟨h5, h6⟩ := owns_zero ho
    rw [h3]
    exact ⟨h5, h6, (Kept.refl _ w).alloc _⟩

set_option maxRecDepth 100000 in
theorem idxInt0 (f : Value) (w : World) : Calls Tryz.prog 104 #[.slice none 0 0, f] w fun e w' => e = .returned (.int .i64 (-1)) ∧ w' = w := by
  go_enter Tryz.func104, Tryz.ntmps104
  go_wp2_with fail
  go_loopg [8] 0 (fun k iv wr => iv = .int .i64 0 ∧ w = wr)
  case atStart => exact ⟨rfl, rfl⟩
  case round =>
    obtain ⟨rfl, rfl⟩ := hrel
    go_wp2_with fail
    go_ret
    exact ⟨rfl, rfl⟩
set_option maxRecDepth 100000 in
theorem contInt0 (f : Value) (w : World) : Calls Tryz.prog 65 #[.slice none 0 0, f] w fun e w' => e = .returned (.bool false) ∧ w' = w := by
  have hi := fun wx => idxInt0 f wx
  go_enter Tryz.func65, Tryz.ntmps65
  go_wp2_with fail
  refine (hi _).mono ?_
  rintro e w1 ⟨rfl, rfl⟩
  go_wp2_with fail
  go_ret
  exact ⟨rfl, rfl⟩

set_option maxRecDepth 100000 in
theorem spick_any (As : Option Addr) (cs : Nat) (w : World) (hs : Src encC 2 w (fun _ => False) As S1) :
    Calls Tryz.prog 26 #[.slice As 1 cs, .slice none 0 0] w fun e w' => ∃ v, e = .returned (.tuple #[v, .int .i64 0]) ∧ New encC 2 69 w w' v [] := by
  have hmf : ∀ (fn : Fn) (first cap : Array Value) (w : World), (Instr.makeFunc fn first cap).run Tryz.prog w = .ok (.func fn first cap) w := fun _ _ _ _ => rfl
  have hsm := fun wx hx => smay_any S1 As cs wx (by decide) hx
  rw [S1_may, show S1.length = 1 from rfl] at hsm
  have hc := fun f wx => contInt0 f wx
  obtain ⟨C, hmk, hnw⟩ := make_any (P := Tryz.prog) 28 69 (.agg #[.string ByteArray.empty, .int .i64 0]) 2 24 Tryz.underlying28 (by kernel_rfl) 0 0 rfl (by decide) (by decide)
  have k0 := (Kept.refl (fun _ => False) w).alloc (.cells #[.slice As 1 cs] 28)
  have a0 := heap_alloc_new w (.cells #[.slice As 1 cs] 28)
  have hs0 := hs.same k0
  go_enter Tryz.func26, Tryz.ntmps26
  go_wp2_with fail
  refine (hsm _ hs0).mono ?_
  rintro e w1 ⟨rfl, k1⟩
  go_wp2_with fail
  refine (hc _ _).mono ?_
  rintro e w2 ⟨rfl, rfl⟩
  have hn := hnw Cl encC w2
  have HN := Lib.hid hn
  clear hn hnw
  go_wp2_with fail
  go_loopg [6, 26] 0 (fun k ov iv wr => iv = .int .i64 0 ∧ ov = .slice (some ⟨w2.heap.size, 0, none⟩) 0 0 ∧ wr = w2.alloc (.cells C 69))
  case atStart => exact ⟨rfl, rfl, rfl⟩
  case round =>
    obtain ⟨rfl, rfl, rfl⟩ := hrel
    go_wp2_with fail
    go_ret2
    exact ⟨_, rfl, HN.out.from (k0.trans k1)⟩

set_option maxRecDepth 100000 in
theorem column1 (w : World) : Calls Tryz.prog 105 #[.int .i64 1] w fun e w' => e = .returned (.bool false) ∧ w' = w := by
  go_enter Tryz.func105, Tryz.ntmps105
  go_wp2_with fail
  go_ret
  exact ⟨rfl, rfl⟩
def aggA1 : Value := .agg #[.int .i64 1, .int .i64 0, .string ⟨⟨[110]⟩⟩]
set_option maxRecDepth 100000 in
theorem tcheck_any (v : Value) (w : World) : Calls Tryz.prog 68 #[v, aggA1] w fun e w' => e = .returned (.int .i64 0) ∧ Kept (fun _ => False) w w' := by
  have hn := fun wx => name_any [110] wx
  rw [show nameB [110] = true by decide] at hn
  have hc := fun wx => column1 wx
  unfold aggA1
  have a0 := heap_alloc_new w (.cells #[.int .i64 1, .int .i64 0, .string ⟨⟨[110]⟩⟩] 32)
  have k0 := (Kept.refl (fun _ => False) w).alloc (.cells #[.int .i64 1, .int .i64 0, .string ⟨⟨[110]⟩⟩] 32)
  go_enter Tryz.func68, Tryz.ntmps68
  go_wp2_with fail
  refine (hn _).mono ?_
  rintro e w1 ⟨rfl, rfl⟩
  go_wp2_with fail
  refine (hc _).mono ?_
  rintro e w1 ⟨rfl, rfl⟩
  go_wp2_with fail
  go_ret
  exact ⟨rfl, k0⟩

set_option maxHeartbeats 1000000 in
set_option maxRecDepth 100000 in
theorem tcols_any (As Aa : Option Addr) (cs ca : Nat) (w : World) (hs : Src encC 2 w (fun _ => False) As S1) (ha : Src encA 3 w (fun _ => False) Aa A1) :
    Calls Tryz.prog 27 #[.slice As 1 cs, .slice Aa 1 ca] w fun e w' => ∃ v, e = .returned (.tuple #[v, .int .i64 0]) ∧ New encC 2 69 w w' v [⟨[110], 1⟩] := by
  have hsm := fun wx hx => smay_any S1 As cs wx (by decide) hx
  rw [S1_may, show S1.length = 1 from rfl] at hsm
  have hck := fun v wx => tcheck_any v wx
  unfold aggA1 at hck
  obtain ⟨C, hmk, hnw⟩ := make_any (P := Tryz.prog) 28 69 (.agg #[.string ByteArray.empty, .int .i64 0]) 2 24 Tryz.underlying28 (by kernel_rfl) 1 1 rfl (by decide) (by decide)
  obtain ⟨ba, oa, rfl, _, x0, x1, x2⟩ := ha.cellsA
  go_enter Tryz.func27, Tryz.ntmps27
  go_wp2_with fail
  refine (hsm _ hs).mono ?_
  rintro e w1 ⟨rfl, k1⟩
  have HN := Lib.hid ((hnw Cl encC w1).from k1)
  have hix := fun A c wx hx => index_any [] A c [110] wx (by decide) hx
  rw [show indexC [] [110] 0 = -1 from rfl, show ([] : List Cl).length = 0 from rfl] at hix
  clear hnw
  go_wp2_with fail
  go_loopg [6, 24] 1 (fun k ov iv wr => ∃ (i : Nat) (X : List Cl), iv = .int .i64 i ∧ i + k = 1 ∧ New encC 2 69 w wr ov X ∧ Hid (X = if i = 0 then [] else [⟨[110], 1⟩]))
  case atStart => exact ⟨0, [], rfl, rfl, HN.out, rfl⟩
  case round =>
    obtain ⟨i, X, rfl, hk, hn, HX⟩ := hrel
    rcases (show i = 0 ∨ i = 1 by omega) with rfl | rfl
    · have hX : X = [] := HX.out
      subst hX
      obtain ⟨Ao, co, rfl, hco1, hco2⟩ := hn.shape
      have kr := hn.kept
      have x0' := kr.cell x0 (fun q => q)
      have x1' := kr.cell x1 (fun q => q)
      have x2' := kr.cell x2 (fun q => q)
      have hsX : ∀ wx, Src encC 2 wx (fun _ => False) Ao ([] : List Cl) := fun wx i x hx => by cases hx
      have al := heap_alloc_new wr (.cells #[.int .i64 1, .int .i64 0, .string ⟨⟨[110]⟩⟩] 32)
      have kal := (Kept.refl (fun _ => False) wr).alloc (.cells #[.int .i64 1, .int .i64 0, .string ⟨⟨[110]⟩⟩] 32)
      clear x0 x1 x2
      simp only [List.length_nil]
      go_wp2_with fail
      refine (hck _ _).mono ?_
      rintro e w2 ⟨rfl, k2⟩
      have y := k2.heap al (fun q => q)
      have y0 := cell_of_row _ _ 0 _ _ _ y
      have y1 := cell_of_row _ _ 1 _ _ _ y
      have y2 := cell_of_row _ _ 2 _ _ _ y
      simp only [List.getElem?_toArray, List.getElem?_cons_zero, List.getElem?_cons_succ] at y0 y1 y2
      go_wp2_with fail
      refine (hix _ _ _ (hsX _)).mono ?_
      rintro e w3 ⟨rfl, k3⟩
      have z0 := k3.cell y0 (fun q => q)
      have z1 := k3.cell y1 (fun q => q)
      have z2 := k3.cell y2 (fun q => q)
      have kk := (kal.trans k2).trans k3
      have z0' := ((Kept.refl (fun _ => False) w3).alloc (.cells #[.string ⟨⟨[110]⟩⟩, .int .i64 1] 69)).cell z0 (fun q => q)
      have hap := New.lit (P := Tryz.prog) (sz := 2) 28 28 (.agg #[.string ByteArray.empty, .int .i64 0]) 24 Tryz.underlying28 (by kernel_rfl) rfl (by decide) encC_len (by simp [encC, Value.oneCell']) hn ((kk.alloc (.cells #[.string ⟨⟨[110]⟩⟩, .int .i64 1] 69)).alloc (.cells #[.string ⟨⟨[110]⟩⟩, .int .i64 1] 69)) [⟨[110], 1⟩] _ 1 (heap_alloc_new (w3.alloc (.cells #[.string ⟨⟨[110]⟩⟩, .int .i64 1] 69)) (.cells #[.string ⟨⟨[110]⟩⟩, .int .i64 1] 69)) (by decide) (by decide)
      simp only [World.size_alloc] at hap
      go_wp2_with (at_builtin; refine wpList_ex rfl _ _ _ _ rfl rfl rfl hap ?_; rintro v' w4 ⟨A', c', rfl, hn5⟩)
      go_roundg 0
      case measure => omega
      case rel => exact ⟨1, [⟨[110], 1⟩], rfl, rfl, hn5, rfl⟩
    · have hX : X = [⟨[110], 1⟩] := HX.out
      subst hX
      obtain ⟨Ao, co, rfl, hco1, hco2⟩ := hn.shape
      go_wp2_with fail
      go_ret2
      exact ⟨_, rfl, hn⟩

set_option maxRecDepth 100000 in
theorem wcheck_any (w : World) : Calls Tryz.prog 28 #[.agg #[.int .i64 1, .int .i64 0, .int .i64 0]] w fun e w' => e = .returned (.int .i64 0) ∧ Kept (fun _ => False) w w' := by
  have hmf : ∀ (fn : Fn) (first cap : Array Value) (w : World), (Instr.makeFunc fn first cap).run Tryz.prog w = .ok (.func fn first cap) w := fun _ _ _ _ => rfl
  go_enter Tryz.func28, Tryz.ntmps28
  go_wp2_with fail
  go_ret
  exact ⟨rfl, (Kept.refl _ w).alloc _⟩
set_option maxRecDepth 100000 in
theorem gs1_any (w : World) : Calls Tryz.prog 30 #[.agg #[.int .i64 1, .int .i64 0, .string ⟨⟨[110]⟩⟩]] w fun e w' => e = .returned (.bool false) ∧ Kept (fun _ => False) w w' := by
  go_enter Tryz.func30, Tryz.ntmps30
  go_wp2_with fail
  go_ret
  exact ⟨rfl, (Kept.refl _ w).alloc _⟩
set_option maxRecDepth 100000 in
theorem idxA_any (Aa : Option Addr) (ca : Nat) (w : World) (ha : Src encA 3 w (fun _ => False) Aa A1) :
    Calls Tryz.prog 70 #[.slice Aa 1 ca, .func (.func 30) #[] #[]] w fun e w' => e = .returned (.int .i64 (-1)) ∧ Kept (fun _ => False) w w' := by
  have hg := fun wx => gs1_any wx
  obtain ⟨ba, oa, rfl, _, x0, x1, x2⟩ := ha.cellsA
  go_enter Tryz.func70, Tryz.ntmps70
  go_wp2_with fail
  go_loopg [8] 1 (fun k iv wr => ∃ i : Nat, iv = .int .i64 i ∧ i + k = 1 ∧ Kept (fun _ => False) w wr)
  case atStart => exact ⟨0, rfl, rfl, Kept.refl _ w⟩
  case round =>
    obtain ⟨i, rfl, hk, kr⟩ := hrel
    rcases (show i = 0 ∨ i = 1 by omega) with rfl | rfl
    · have x0' := kr.cell x0 (fun q => q)
      have x1' := kr.cell x1 (fun q => q)
      have x2' := kr.cell x2 (fun q => q)
      clear x0 x1 x2
      go_wp2_with fail
      refine (hg _).mono ?_
      rintro e w2 ⟨rfl, k2⟩
      go_wp2_with fail
      go_roundg 0
      case measure => omega
      case rel => exact ⟨1, rfl, rfl, kr.trans k2⟩
    · go_wp2_with fail
      go_ret
      exact ⟨rfl, kr⟩
set_option maxRecDepth 100000 in
theorem contA_any (Aa : Option Addr) (ca : Nat) (w : World) (ha : Src encA 3 w (fun _ => False) Aa A1) :
    Calls Tryz.prog 29 #[.slice Aa 1 ca, .func (.func 30) #[] #[]] w fun e w' => e = .returned (.bool false) ∧ Kept (fun _ => False) w w' := by
  have hi := fun wx hx => idxA_any Aa ca wx hx
  go_enter Tryz.func29, Tryz.ntmps29
  go_wp2_with fail
  refine (hi _ ha).mono ?_
  rintro e w1 ⟨rfl, k1⟩
  go_wp2_with fail
  go_ret
  exact ⟨rfl, k1⟩
set_option maxRecDepth 100000 in
theorem tick_any (t : Int) (w : World) (h : 0 ≤ t) (h2 : t ≤ 1125899906842624) : Calls Tryz.prog 13 #[.int .i64 t] w fun e w' => e = .returned (.bool true) ∧ w' = w := by
  have b1 : decide (0 ≤ t) = true := by simpa using h
  have b2 : decide (t ≤ 1125899906842624) = true := by simpa using h2
  go_enter Tryz.func13, Tryz.ntmps13
  go_wp2_with fail
  go_ret
  exact ⟨rfl, rfl⟩
end Go.Proofs.YthkeigljiinlbaaGreat

/- group.Schema, group.check. -/
namespace Go.Proofs.YthkeigljiinlbaaGreat
open Go.RowKit

set_option maxHeartbeats 1000000 in
set_option maxRecDepth 100000 in
theorem gschema_any (As Aa : Option Addr) (cs ca : Nat) (w : World) (hs : Src encC 2 w (fun _ => False) As S1) (ha : Src encA 3 w (fun _ => False) Aa A1) :
    Calls Tryz.prog 11 #[.slice As 1 cs, .slice none 0 0, .slice Aa 1 ca, .agg #[.int .i64 1, .int .i64 0, .int .i64 0]] w fun e w' => ∃ v, e = .returned (.tuple #[v, .int .i64 0]) ∧ Kept (fun _ => False) w w' := by
  have hp := fun wx hx => spick_any As cs wx hx
  have hc := fun wx hx hy => tcols_any As Aa cs ca wx hx hy
  have hw := fun wx => wcheck_any wx
  have ht := fun wx hx => contA_any Aa ca wx hx
  have k0 := (Kept.refl (fun _ => False) w).alloc (.cells #[.int .i64 1, .int .i64 0, .int .i64 0] 36)
  have a0 := heap_alloc_new w (.cells #[.int .i64 1, .int .i64 0, .int .i64 0] 36)
  go_enter Tryz.func11, Tryz.ntmps11
  go_wp2_with fail
  refine (hp _ (hs.same k0)).mono ?_
  rintro e w1 ⟨v1, rfl, hn1⟩
  have k1 := k0.trans hn1.kept
  obtain ⟨A1', c1, rfl, hc1, hc1'⟩ := hn1.shape
  go_wp2_with fail
  refine (hc _ (hs.same k1) (ha.same k1)).mono ?_
  rintro e w2 ⟨v2, rfl, hn2⟩
  have k2 := k1.trans hn2.kept
  obtain ⟨A2', c2, rfl, hA2, hs2⟩ := hn2.row.asSrc encC_len
  have y := hn2.kept.heap (hn1.kept.heap a0 (fun q => q)) (fun q => q)
  have y0 := cell_of_row _ _ 0 _ _ _ y
  have y1 := cell_of_row _ _ 1 _ _ _ y
  have y2 := cell_of_row _ _ 2 _ _ _ y
  simp only [List.getElem?_toArray, List.getElem?_cons_zero, List.getElem?_cons_succ] at y0 y1 y2
  simp only [List.length_nil, List.length_cons] at *
  go_wp2_with fail
  refine (hw _).mono ?_
  rintro e w3 ⟨rfl, k3⟩
  go_wp2_with fail
  refine (ht _ (ha.same (k2.trans k3))).mono ?_
  rintro e w4 ⟨rfl, k4⟩
  have k24 := k3.trans k4
  have z0 := k24.cell y0 (fun q => q)
  have K0 := Lib.hid k0
  have hs4 := hs2.same k24
  have hn4 := Lib.hid ((hn1.same hn2.kept).same k24)
  obtain ⟨b2, o2, hA, _, x0, x1⟩ := Src.cellsC hs4 (i := 0) (o := ⟨[110], 1⟩) rfl
  subst hA
  simp only [Nat.zero_mul, Nat.add_zero] at x0 x1
  have hix := fun wx hx => index_any [] A1' c1 [110] wx (by decide) hx
  rw [show indexC [] [110] 0 = -1 from rfl, show ([] : List Cl).length = 0 from rfl] at hix
  have hsX : ∀ wx, Src encC 2 wx (fun _ => False) A1' ([] : List Cl) := fun wx i x hx => by cases hx
  clear y y0 y1 y2 hn1 hn2 hs ha hp hc hw ht a0 k0 k1 k2 k3 k4 k24 hs2
  go_wp2_with fail
  go_loopg [66] 1 (fun k iv wr => ∃ i : Nat, iv = .int .i64 i ∧ i + k = 1 ∧ Kept (fun _ => False) w4 wr)
  case atStart => exact ⟨0, rfl, rfl, Kept.refl _ _⟩
  case round =>
    obtain ⟨i, rfl, hk, kr⟩ := hrel
    rcases (show i = 0 ∨ i = 1 by omega) with rfl | rfl
    · have x0' := kr.cell x0 (fun q => q)
      have x1' := kr.cell x1 (fun q => q)
      have kal := kr.alloc (.cells #[.string ⟨⟨[110]⟩⟩, .int .i64 1] 69)
      clear x0 x1
      go_wp2_with fail
      refine (hix _ (hsX _)).mono ?_
      rintro e w5 ⟨rfl, k5⟩
      go_wp2_with fail
      go_roundg 0
      case measure => omega
      case rel => exact ⟨1, rfl, rfl, kal.trans k5⟩
    · have hap := New.src (P := Tryz.prog) (sz := 2) 28 28 (.agg #[.string ByteArray.empty, .int .i64 0]) 24 Tryz.underlying28 (by kernel_rfl) rfl (by decide) encC_len (by simp [encC, Value.oneCell']) (hn4.out.same kr) (Kept.refl _ wr) [⟨[110], 1⟩] _ c2 hA2 (hs4.same kr) (by decide) (by decide)
      simp only [List.length_nil, List.length_cons, Nat.zero_add] at hap
      go_wp2_with (at_builtin; refine wpList_ex rfl _ _ _ _ rfl rfl rfl hap ?_; rintro v' w6 ⟨A', c', rfl, hn5⟩)
      go_ret2
      exact ⟨_, rfl, K0.out.trans hn5.kept⟩

theorem findI_all {α : Type} (q : α → Bool) : ∀ (L : List α) (n : Nat), decide (0 ≤ findI (fun _ x => !q x) L n) = !(L.all q)
  | [], n => rfl
  | x :: L, n => by
    rw [findI, List.all_cons]
    cases h : q x with
    | true =>
      rw [if_neg (by simp), findI_all q L (n + 1)]
      simp
    | false =>
      rw [if_pos (by simp)]
      simp

/-- Are edges a table of the schema? -/
def okL (L : List Ed) : Bool := edMay L && (edTab L && L.all (fun x => fitB x.r))

set_option maxRecDepth 100000 in
theorem gck1_any (x : Ed) (B : Option Addr) (d bx : Nat) (As : Option Addr) (cs : Nat) (w : World) (hs : Src encC 2 w (fun _ => False) As S1) (hb : w.heap[bx]? = some (.cells #[.slice As 1 cs] 28 (0, 0))) (hr : Src encW 3 w (fun _ => False) B x.r) (hl : x.r.length ≤ 1048576) :
    Calls Tryz.prog 33 #[.agg #[.slice B x.r.length d, .int .i64 x.a, .int .i64 x.n], .pointer (some ⟨bx, 0, none⟩)] w fun e w' => e = .returned (.bool (!fitB x.r)) ∧ Kept (fun _ => False) w w' := by
  obtain ⟨r, a, n⟩ := x
  simp only at hr hl ⊢
  have hf := fun wx hx hy => fits_any r As B cs d wx hx hy hl
  generalize fitB r = R at *
  have k0 := (Kept.refl (fun _ => False) w).alloc (.cells #[.slice B r.length d, .int .i64 a, .int .i64 n] 50)
  have c0 := cell_of_row _ _ 0 _ _ _ (k0.heap hb (fun q => q))
  simp only [List.getElem?_toArray, List.getElem?_cons_zero] at c0
  go_enter Tryz.func33, Tryz.ntmps33
  go_wp2_with fail
  refine (hf _ (hs.same k0) (hr.same k0)).mono ?_
  rintro e w1 ⟨rfl, k1⟩
  go_wp2_with fail
  go_ret
  exact ⟨rfl, k0.trans k1⟩

set_option maxHeartbeats 1000000 in
set_option maxRecDepth 100000 in
theorem gcheck_any (L : List Ed) (A As : Option Addr) (c cs : Nat) (w : World) (hl : L.length ≤ 1048576) (hL : EdS w (fun _ => False) A L) (hs : Src encC 2 w (fun _ => False) As S1) :
    Calls Tryz.prog 12 #[.slice A L.length c, .slice As 1 cs] w fun e w' => ∃ k : Int, e = .returned (.int .i64 k) ∧ (k != 0) = !okL L ∧ Kept (fun _ => False) w w' := by
  have hmf : ∀ (fn : Fn) (first cap : Array Value) (w : World), (Instr.makeFunc fn first cap).run Tryz.prog w = .ok (.func fn first cap) w := fun _ _ _ _ => rfl
  have hem := fun wx hx => emay_any L A c wx hl hx
  have het := fun wx hx => etab_any L A c wx hl hx
  have k0 := (Kept.refl (fun _ => False) w).alloc (.cells #[.slice As 1 cs] 28)
  have a0 := heap_alloc_new w (.cells #[.slice As 1 cs] 28)
  have hco := fun wx (hx : EdS wx (fun _ => False) A L) (hy : Src encC 2 wx (fun _ => False) As S1) (hz : wx.heap[w.heap.size]? = some (.cells #[.slice As 1 cs] 28 (0, 0))) => contE_any L A c wx 33 #[.pointer (some ⟨w.heap.size, 0, none⟩)] (fun _ x => !fitB x.r) (fun _ W => (EdS W (fun _ => False) A L ∧ Src encC 2 W (fun _ => False) As S1 ∧ W.heap[w.heap.size]? = some (.cells #[.slice As 1 cs] 28 (0, 0))) ∧ Kept (fun _ => False) wx W) (by unfold maxLen; omega) (enters_of Tryz.func33 (by kernel_rfl) rfl) (fun _ _ q => q.1.1)
    (fun n x W B d q hx hB hsx hxl => (gck1_any x B d w.heap.size As cs W q.1.2.1 q.1.2.2 hsx hxl).mono fun e W' r => ⟨r.1, ⟨q.1.1.same r.2, q.1.2.1.same r.2, r.2.heap q.1.2.2 (fun q => q)⟩, q.2.trans r.2⟩) ⟨⟨hx, hy, hz⟩, Kept.refl _ wx⟩
  rw [findI_all (fun x : Ed => fitB x.r)] at hco
  unfold okL
  generalize L.all (fun x => fitB x.r) = R3 at *
  generalize edMay L = R1 at *
  generalize edTab L = R2 at *
  have hL0 := hL.same k0
  have hs0 := hs.same k0
  clear hL hs
  go_enter Tryz.func12, Tryz.ntmps12
  cases R1 with
  | false =>
    go_wp2_with fail
    refine (hem _ hL0).mono ?_
    rintro e w1 ⟨rfl, k1⟩
    go_wp2_with fail
    go_ret
    exact ⟨2, rfl, rfl, k0.trans k1⟩
  | true =>
    cases R2 with
    | false =>
      go_wp2_with fail
      refine (hem _ hL0).mono ?_
      rintro e w1 ⟨rfl, k1⟩
      go_wp2_with fail
      refine (het _ (hL0.same k1)).mono ?_
      rintro e w2 ⟨rfl, k2⟩
      go_wp2_with fail
      go_ret
      exact ⟨20, rfl, rfl, (k0.trans k1).trans k2⟩
    | true =>
      cases R3 with
      | false =>
        go_wp2_with fail
        refine (hem _ hL0).mono ?_
        rintro e w1 ⟨rfl, k1⟩
        go_wp2_with fail
        refine (het _ (hL0.same k1)).mono ?_
        rintro e w2 ⟨rfl, k2⟩
        have k12 := k1.trans k2
        go_wp2_with fail
        refine (hco _ (hL0.same k12) (hs0.same k12) (k12.heap a0 (fun q => q))).mono ?_
        rintro e w3 ⟨_, rfl, _, k3⟩
        go_wp2_with fail
        go_ret
        exact ⟨17, rfl, rfl, (k0.trans k12).trans k3⟩
      | true =>
        go_wp2_with fail
        refine (hem _ hL0).mono ?_
        rintro e w1 ⟨rfl, k1⟩
        go_wp2_with fail
        refine (het _ (hL0.same k1)).mono ?_
        rintro e w2 ⟨rfl, k2⟩
        have k12 := k1.trans k2
        go_wp2_with fail
        refine (hco _ (hL0.same k12) (hs0.same k12) (k12.heap a0 (fun q => q))).mono ?_
        rintro e w3 ⟨_, rfl, _, k3⟩
        go_wp2_with fail
        go_ret
        exact ⟨0, rfl, rfl, (k0.trans k12).trans k3⟩
end Go.Proofs.YthkeigljiinlbaaGreat
