/- Picked out of the text BL of TopExprs. -/
import Derived.Test.YthkeigljiinlbaaGreatM12
import Derived.Deep.RegionLaw
namespace Go.Proofs.YthkeigljiinlbaaGreat
open Go.RowKit

def putL (r : List Wd) (f : List Jp) : List Ed := f.map (fun j => ⟨r, j.a, j.n⟩)

set_option maxHeartbeats 2000000 in
set_option maxRecDepth 100000 in
theorem put_any (r : List Wd) (f : List Jp) (A B : Option Addr) (c d : Nat) (w : World) (hA : A = none → r = [] ∧ c = 0) (h : Src encW 3 w (fun _ => False) A r) (hf : Src encJ 2 w (fun _ => False) B f) (hrl : r.length ≤ 1048576) (hfl : f.length ≤ 1048576) :
    Calls Tryz.prog 92 #[.slice none 0 0, .slice A r.length c, .slice B f.length d] w fun e w' => ∃ v M, e = .returned v ∧ EdN w w' v M ∧ M.map Prod.snd = putL r f := by
  have hcp := fun wx hx => rcopy_any r A c wx hA hx hrl
  go_enter Tryz.func92, Tryz.ntmps92
  go_wp2_with fail
  go_loopg [0, 11] f.length (fun k ov iv wr => ∃ (n : Nat) (M : List PE), n + k = f.length ∧ iv = .int .i64 n ∧ EdN w wr ov M ∧ Hid (M.map Prod.snd = putL r (f.take n)) ∧ M.length = n)
  case atStart => exact ⟨0, [], by omega, rfl, EdN.nil, by unfold Hid; simp [putL], rfl⟩
  case round =>
    obtain ⟨n, M, hk, rfl, hed, HM, hml⟩ := hrel
    have HML := Lib.hid hml
    have hmb : M.length ≤ 1048576 := by omega
    clear hml
    by_cases hlt : n < f.length
    · obtain ⟨x, hx⟩ : ∃ x, f[n]? = some x := ⟨_, List.getElem?_eq_getElem hlt⟩
      obtain ⟨b, off, rfl, _, x0, x1⟩ := (hf.same hed.kept).cells2 hx
      obtain ⟨xa, xn⟩ := x
      simp only at x0 x1
      have HX := Lib.hid hx
      clear hx
      have kb := hed.kept.alloc (.cells #[.int .i64 xa, .int .i64 xn] 80)
      have kb1 := (Kept.refl (fun _ => False) wr).alloc (.cells #[.int .i64 xa, .int .i64 xn] 80)
      have hal := heap_alloc_new wr (.cells #[.int .i64 xa, .int .i64 xn] 80)
      obtain ⟨Ao, co, rfl, _, _⟩ := hed.row.shape
      go_wp2_with fail
      generalize hWW : wr.alloc (.cells #[.int .i64 xa, .int .i64 xn] 80) = W at *
      generalize hbx : wr.heap.size = bx at *
      have q0 := cell_of_row W bx 0 _ _ _ hal
      have q1 := cell_of_row W bx 1 _ _ _ hal
      simp only [List.getElem?_toArray, List.getElem?_cons_zero, List.getElem?_cons_succ] at q0 q1
      have hcp2 := hcp W.drew (h.same (kb.trans (drew_kept W 1)))
      clear hWW hbx
      go_region_law (first
        | (refine step_ex rfl _ _ _ _ rfl rfl rfl (EdN.lit _ _ (.agg #[.slice none 0 0, .int .i64 0, .int .i64 0]) 40 Tryz.underlying22 (by kernel_rfl) rfl hed (((kb1.trans (drew_kept W 1)).trans hnc.kept).alloc _) ((Ac, cc), ⟨r, xa, xn⟩) (hnc.row.same ((Kept.refl _ _).alloc _)) (fun j hj => Nat.le_trans (kb.trans (drew_kept W 1)).size (hnc.own j hj)) _ _ (heap_alloc_new _ _) (by unfold maxLen; omega) (by omega)) ?_; rintro v' w4 ⟨A', c', rfl, hn4⟩)
        | (go_simp; go_at_call 22; refine hcp2.mono ?_; rintro e w3 ⟨vr, rfl, hnc⟩; have q0' := hnc.kept.cell (w := W.drew) q0 (fun q => q); have q1' := hnc.kept.cell (w := W.drew) q1 (fun q => q); obtain ⟨Ac, cc, rfl, _, _⟩ := hnc.shape))
      all_goals
        go_wp2_with fail
        go_roundg (gk - 1)
        case measure => omega
        case rel => exact ⟨n + 1, M ++ [((Ac, cc), ⟨r, xa, xn⟩)], by omega, int_eq (by omega), hn4, by unfold Hid; rw [List.map_append, HM.out, List.take_add_one, HX.out]; simp [putL], by rw [List.length_append, HML.out]; rfl⟩
    · have e : n = f.length := by omega
      have hm := HM.out
      rw [e, List.take_length] at hm
      have HMM := Lib.hid hm
      clear hm e
      go_wp2_with fail
      go_ret
      exact ⟨_, M, rfl, hed, HMM.out⟩
end Go.Proofs.YthkeigljiinlbaaGreat

/- Picked out of the text BM of TopExprs. -/
namespace Go.Proofs.YthkeigljiinlbaaGreat
open Go.RowKit

theorem EdN.from {w0 w w2 : World} {v : Value} {M : List PE} (h : EdN w w2 v M) (k : Kept (fun _ => False) w0 w) : EdN w0 w2 v M :=
  ⟨h.row, fun j hj => Nat.le_trans k.size (h.own j hj), fun p hp => ⟨(h.rows p hp).1, fun j hj => Nat.le_trans k.size ((h.rows p hp).2 j hj)⟩, k.trans h.kept⟩

end Go.Proofs.YthkeigljiinlbaaGreat

/- Picked out of the text BN of TopExprs. -/
namespace Go.Proofs.YthkeigljiinlbaaGreat
open Go.RowKit
attribute [local go_sem] Oper.semAt_some

/-- What Groups tells. -/
def groupsL (L : List Ed) : List (List Wd × List Jp) := if edMay L = true then runsL L else []

set_option maxHeartbeats 2000000 in
set_option maxRecDepth 100000 in
theorem groups1_iter (bx : Nat) (L : List Ed) (A : Option Addr) (c : Nat) (O0 : Nat → Prop) (w : World) (hb : w.heap[bx]? = some (.cells #[.slice A L.length c] 22 (0, 0))) (hl : L.length ≤ 1048576) (hs : EdS w O0 A L) (hO0 : ¬ O0 bx) (hmay : edMay L = true) :
    Iter Tryz.prog 56 #[.pointer (some ⟨bx, 0, none⟩)] encG (runsL L) tellG handG O0 w := by
  intro l J Jx O W hkW hO hJ hJx hY h0
  have hb1 := hkW.heap hb (fun q => q)
  have hbx := (Array.getElem?_eq_some_iff.1 hb).1
  have c0W := cell_of_row W bx 0 _ _ _ hb1
  simp only [List.getElem?_toArray, List.getElem?_cons_zero] at c0W
  have hem := fun wx hx => emay_any L A c wx hl hx
  rw [hmay] at hem
  have hrn := fun wx => runs_any A L.length c wx
  have hsW : EdS W (fun _ => False) A L := (hs.kept hkW (fun _ q => q.elim) (fun _ q => q)).kept (Kept.refl (fun _ => False) W) (fun _ q => q.elim) (fun _ q => q.elim)
  have kbW := (Kept.refl (fun _ => False) W).alloc (.cells #[.func (.yield l) #[] #[]] 121)
  have hal := heap_alloc_new W (.cells #[.func (.yield l) #[] #[]] 121)
  have hcW := kbW.cell c0W (fun q => q)
  refine calls_marks Tryz.func56 rfl ?_
  simp only [Tryz.ntmps56, List.size_toArray, List.length_cons, List.length_nil, Nat.reduceAdd, Nat.reduceSub, Array.replicate_succ, Array.replicate_zero, List.push_toArray, List.append_toArray, List.nil_append, List.cons_append]
  gi_wp2_with fail
  refine ⟨trivial, rfl, callsIn_wide.2 ((hem _ (hsW.same kbW)).mono ?_)⟩
  rintro e w1 ⟨rfl, k1⟩
  have hc1 := k1.cell hcW (fun q => q)
  gi_wp2_with fail
  refine ⟨trivial, rfl, callsIn_wide.2 ((hrn _).mono ?_)⟩
  rintro e w2 ⟨rfl, hbx2, k2⟩
  gi_wp2_with fail
  obtain ⟨y0, hy0⟩ : ∃ y0, W.heap.size = y0 := ⟨_, rfl⟩
  obtain ⟨z0, hz0⟩ : ∃ z0, w1.heap.size = z0 := ⟨_, rfl⟩
  have kW2 : Kept (fun _ => False) W w2 := (kbW.trans k1).trans k2
  have hbox : w2.heap[W.heap.size]? = some (.cells #[.func (.yield l) #[] #[]] 121 (0, 0)) := (k1.trans k2).heap hal (fun q => q)
  have hW0 := hkW.size
  have hyW : y0 < w1.heap.size := by rw [← hy0]; exact (Array.getElem?_eq_some_iff.1 (k1.heap hal (fun q => q))).1
  have hzz : z0 < w2.heap.size := by rw [← hz0]; exact (Array.getElem?_eq_some_iff.1 hbx2).1
  rw [hy0] at hbox hJ hJx hY hO
  rw [hz0] at hbx2
  have hO' : ∀ j, O j → O0 j ∨ w.heap.size ≤ j := fun j q => (hO j q).1
  have hes : EdS w2 O A L := hs.old.kept (hkW.trans kW2) (fun _ q => q.elim) (fun j q => hO' j q)
  have hOz : ¬ O z0 := fun q => by have := (hO z0 q).2; omega
  rw [hy0, hz0]
  let I : Nat → (Nat → Prop) → World → Prop := fun k O1 A1 => J k O1 A1 ∧ A1.heap[y0]? = some (.cells #[.func (.yield l) #[] #[]] 121 (0, 0)) ∧ ¬ O1 y0
  let Ix : Code → Nat → (Nat → Prop) → World → Prop := fun cd k O1 A1 => cd = .ret ∧ Jx k O1 A1
  have hyz : y0 < w2.heap.size := by have := k2.size; omega
  have hI : Stable w2.heap.size I := by
    rintro k O1 A1 B1 X ⟨h1, h2, h3⟩ hX hXX
    exact ⟨hJ.mono (by omega) k O1 A1 B1 X h1 hX hXX, hX.heap h2 (fun q => by have := (hXX _ q).1; omega), h3⟩
  have hIx : ∀ cd, Stable w2.heap.size (Ix cd) := by
    rintro cd k O1 A1 B1 X ⟨h1, h2⟩ hX hXX
    exact ⟨h1, hJx.mono (by omega) k O1 A1 B1 X h2 hX hXX⟩
  have hI0 : I 0 O w2 := ⟨hJ 0 O W w2 _ h0 kW2 (fun j q => q.elim), hbox, fun q => by have := (hO y0 q).2; omega⟩
  refine range_wp (gf := 100) (lb := #[.pointer (some ⟨z0, 0, none⟩)]) rfl (enters_of Tryz.func100 (by kernel_rfl) rfl)
    (runs1_iter z0 L A c O w2 hbx2 hl hes hOz) (fun _ => rfl) tellG_kept handG_cells
    I Ix hI hIx hI0 (fun j q => by have := (hO j q).2; omega)
    (fun v => { tmps := #[.func (.yield l) #[] #[], .pointer (some ⟨bx, 0, none⟩), .pointer (some ⟨y0, 0, none⟩), v.1, v.2, .slice A L.length c, .bool true, .bool false, .slice A L.length c, .func (.func 100) #[] #[.pointer (some ⟨z0, 0, none⟩)], v.1, v.2, undef, undef, undef, undef, undef], defers := [] }) ?assign ?body ?done ?stop
  case assign =>
    intro l' v W' K hK
    unfold encG
    gi_wp2_with fail
    exact hK
  case body =>
    rintro l' k x v O1 A1 ⟨h1, h2, h3⟩ hx htell hlt hsA
    have c2 := cell_of_row A1 y0 0 _ _ _ h2
    simp only [List.getElem?_toArray, List.getElem?_cons_zero] at c2
    obtain ⟨fn, tmps, assign, body, hy, hR⟩ := hY k x v O1 A1 h1 hx htell hlt (by omega)
    obtain ⟨v1, v2⟩ := v
    obtain ⟨Ar, cr, hv1, _, _⟩ := htell.1.shape
    obtain ⟨Af, cf, hv2, _, _⟩ := htell.2.shape
    simp only at hv1 hv2
    have o1 := htell.1.other h2 (by decide)
    have o2 := htell.2.other h2 (by decide)
    simp only at o1 o2
    have hyA : y0 < A1.heap.size := (Array.getElem?_eq_some_iff.1 h2).1
    have H2 := Lib.hid h2
    subst hv1 hv2
    dsimp only [encG] at hy
    clear h2 htell
    gi_wp2_with fail
    refine ⟨rfl, (show RoundIn (Fence.wide.inRound l') _ _ _ _ _ _ _ _ _ from hR).mono ?_⟩
    rintro e Bw (⟨rfl, O2, hj2, hkB, hgr, hltB⟩ | ⟨rfl, O2, hj2, hkB, hgr, hltB⟩)
    · have HT : Turn (handG (.slice Ar x.1.length cr, .slice Af x.2.length cf)) O1 A1 (I (k + 1)) Bw := ⟨O2, ⟨hj2, hkB.heap H2.out h3, fun q => by
        rcases hgr y0 q with q | q | q
        · exact h3 q
        · omega
        · rcases q with q | q
          · exact o1 q
          · exact o2 q⟩, hkB, hgr, hltB⟩
      gi_wp2_with fail
      exact HT
    · have HT : Turn (handG (.slice Ar x.1.length cr, .slice Af x.2.length cf)) O1 A1 (Ix .ret k) Bw := ⟨O2, ⟨rfl, hj2⟩, hkB, hgr, hltB⟩
      gi_wp2_with fail
      exact HT
  case done =>
    rintro D O1 W1 ⟨h1, h2, h3⟩ hK hDw hDO
    have kp := (Kept.refl (fun j => j = D) W1).putObj D (.deferred none) (fun _ => rfl)
    have hjj := hJ.mono (show y0 ≤ w2.heap.size by omega) _ O1 W1 _ _ h1 kp (fun j q => ⟨by omega, by subst q; exact hDO⟩)
    have HK := Lib.hid hK
    have HJ := Lib.hid hjj
    clear h1 h2 kp hK hjj
    gi_wp2_with fail
    refine ⟨by simp, .inl ⟨_, _, rfl, run_takeDeferred HK.out, .tuple #[], ?_, ⟨_, rfl⟩, .inl ⟨_, HJ.out⟩⟩⟩
    simp [results, Tryz.results56, go_sem]
  case stop =>
    rintro D cd k O1 W1 hkl ⟨rfl, h1⟩ hK hDw hDO
    have kp := (Kept.refl (fun j => j = D) W1).putObj D (.deferred none) (fun _ => rfl)
    have hjj := hJx.mono (show y0 ≤ w2.heap.size by omega) _ O1 W1 _ _ h1 kp (fun j q => ⟨by omega, by subst q; exact hDO⟩)
    have HK := Lib.hid hK
    have HJ := Lib.hid hjj
    clear h1 kp hK hjj
    gi_wp2_with fail
    refine ⟨by simp, .inl ⟨_, _, rfl, run_takeDeferred HK.out, .tuple #[], ?_, ⟨_, rfl⟩, .inr ⟨k, _, hkl, HJ.out⟩⟩⟩
    simp [results, Tryz.results56, go_sem]
end Go.Proofs.YthkeigljiinlbaaGreat
