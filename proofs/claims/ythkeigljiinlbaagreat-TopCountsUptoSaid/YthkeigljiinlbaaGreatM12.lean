/- Picked out of the text BD of TopExprs. -/
import Derived.Test.YthkeigljiinlbaaGreatM11
import Derived.Deep.RegionLaw
namespace Go.Proofs.YthkeigljiinlbaaGreat
open Go.RowKit
attribute [local go_sem] Oper.semAt_some

/-- Do rows rise, and is each row one, and its function? -/
def riseB : Option (List Wd) → List Wd → Bool
  | none, _ => true
  | some q, r => decide (cmpR q r < 0)
def eachB : List (List Wd × List Jp) → Option (List Wd) → Bool
  | [], _ => true
  | p :: r, last => if (rowB p.1 && (riseB last p.1 && stepMayB p.2)) = true then eachB r (some p.1) else false
def edMay (L : List Ed) : Bool := decide (L.length ≤ 4096) && eachB (runsL L) none

def EachO (n : Nat) (lv : Value) : Nat → Prop := fun j => j = n + 1 ∨ j = n + 1 + 1 ∨ j = n + 1 + 1 + 1 ∨ lv.ownBlock = some j
/-- Between the rounds of each, and behind the one that leaves. -/
def EachI (L : List Ed) (w : World) (R : Bool) (k : Nat) (O : Nat → Prop) (W : World) : Prop :=
  ∃ (last : Option (List Wd)) (lv : Value), O = EachO w.heap.size lv ∧ W.heap[w.heap.size]? = some (.cells #[.func (.func 23) #[] #[]] 78 (0, 0)) ∧ W.heap[w.heap.size + 1]? = some (.cells #[.bool false] 4 (0, 0)) ∧
    W.heap[w.heap.size + 1 + 1]? = some (.cells #[lv] 43 (0, 0)) ∧ W.heap[w.heap.size + 1 + 1 + 1]? = some (.cells #[.bool last.isSome] 4 (0, 0)) ∧ (match last with | none => lv = .slice none 0 0 | some q => Row encW 3 48 W lv q) ∧
    Kept (fun _ => False) w W ∧ eachB ((runsL L).drop k) last = R
def EachX (w : World) (R : Bool) (c : Code) (_ : Nat) (_ : Nat → Prop) (W : World) : Prop :=
  c = .ret ∧ R = false ∧ W.heap[w.heap.size + 1]? = some (.cells #[.bool false] 4 (0, 0)) ∧ Kept (fun _ => False) w W
theorem eachI_stable (L : List Ed) (w : World) (R : Bool) {s : Nat} (hs : w.heap.size + 4 ≤ s) : Stable s (EachI L w R) := by
  rintro k O A B X ⟨last, lv, rfl, h0, h1, h2, h3, h4, h6, h7⟩ hX hXX
  have hx : ∀ j, X j → w.heap.size + 4 ≤ j ∧ lv.ownBlock ≠ some j := fun j q => ⟨by have := (hXX j q).1; omega, fun q2 => (hXX j q).2 (.inr (.inr (.inr q2)))⟩
  refine ⟨last, lv, rfl, hX.heap h0 (fun q => by have := (hx _ q).1; omega), hX.heap h1 (fun q => by have := (hx _ q).1; omega), hX.heap h2 (fun q => by have := (hx _ q).1; omega), hX.heap h3 (fun q => by have := (hx _ q).1; omega), ?_, h6.trans' hX (fun _ _ q => q) (fun j hj q => by have := (hx _ q).1; omega), h7⟩
  cases last with
  | none => exact h4
  | some q => exact Row.kept (S := X) h4 hX (fun g hg q => (hx g q).2 hg)
theorem eachX_stable (w : World) (R : Bool) (c : Code) {s : Nat} (hs : w.heap.size + 4 ≤ s) : Stable s (EachX w R c) := by
  rintro k O A B X ⟨rfl, h0, h1, h2⟩ hX hXX
  exact ⟨rfl, h0, hX.heap h1 (fun q => by have := (hXX _ q).1; omega), h2.trans' hX (fun _ _ q => q) (fun j hj q => by have := (hXX _ q).1; omega)⟩

set_option maxHeartbeats 2000000 in
set_option maxRecDepth 100000 in
theorem each_any (L : List Ed) (A : Option Addr) (c : Nat) (w : World) (hl : L.length ≤ 1048576) (hs : EdS w (fun _ => False) A L) :
    Calls Tryz.prog 53 #[.slice A L.length c, .func (.func 23) #[] #[]] w fun e w' => e = .returned (.bool (edMay L)) ∧ Kept (fun _ => False) w w' := by
  obtain ⟨R, hR⟩ : ∃ R, edMay L = R := ⟨_, rfl⟩
  have HR : Hid _ := Lib.hid hR
  rw [hR]
  clear hR
  have hrn := fun wx => runs_any A L.length c wx
  by_cases h40 : L.length ≤ 4096
  · have b1 : decide ((4096 : Int) < (L.length : Int)) = false := by simp; omega
    have hall : Hid (eachB (runsL L) none = R) := by unfold Hid; rw [← HR.out]; unfold edMay; simp [h40]
    refine calls_marks Tryz.func53 rfl ?_
    simp only [Tryz.ntmps53, List.size_toArray, List.length_cons, List.length_nil, Nat.reduceAdd, Nat.reduceSub, Array.replicate_succ, Array.replicate_zero, List.push_toArray, List.append_toArray, List.nil_append, List.cons_append]
    gi_wp2_with fail
    refine ⟨trivial, rfl, callsIn_wide.2 ((hrn _).mono ?_)⟩
    rintro e w1 ⟨rfl, hbx, k1⟩
    have k0 : Kept (fun _ => False) w ((((w.alloc (.cells #[.func (.func 23) #[] #[]] 78)).alloc (.cells #[.bool false] 4)).alloc (.cells #[.slice none 0 0] 43)).alloc (.cells #[.bool false] 4)) := ((((Kept.refl _ w).alloc _).alloc _).alloc _).alloc _
    have a0 := heap_alloc_new w (.cells #[.func (.func 23) #[] #[]] 78)
    have a1 := heap_alloc_new (w.alloc (.cells #[.func (.func 23) #[] #[]] 78)) (.cells #[.bool false] 4)
    have a2 := heap_alloc_new ((w.alloc (.cells #[.func (.func 23) #[] #[]] 78)).alloc (.cells #[.bool false] 4)) (.cells #[.slice none 0 0] 43)
    have a3 := heap_alloc_new (((w.alloc (.cells #[.func (.func 23) #[] #[]] 78)).alloc (.cells #[.bool false] 4)).alloc (.cells #[.slice none 0 0] 43)) (.cells #[.bool false] 4)
    simp only [World.size_alloc] at a1 a2 a3 hbx
    have b0 := k1.heap (Kept.heap (((Kept.refl (fun _ => False) _).alloc _).alloc _ |>.alloc _) a0 (fun q => q)) (fun q => q)
    have b1' := k1.heap (Kept.heap (((Kept.refl (fun _ => False) _).alloc _).alloc _) a1 (fun q => q)) (fun q => q)
    have b2 := k1.heap (Kept.heap ((Kept.refl (fun _ => False) _).alloc _) a2 (fun q => q)) (fun q => q)
    have b3 := k1.heap a3 (fun q => q)
    have kw1 := k0.trans k1
    have hsz : w.heap.size + 5 ≤ w1.heap.size := (Array.getElem?_eq_some_iff.1 hbx).1
    have hI0 : EachI L w R 0 (EachO w.heap.size (.slice none 0 0)) w1 := ⟨none, _, rfl, b0, b1', b2, b3, rfl, kw1, hall.out⟩
    have hes : EdS w1 (EachO w.heap.size (.slice none 0 0)) A L := by
      refine (hs.old.kept kw1 (fun _ q => q.elim) (fun j q => .inr ?_) : EdS w1 (EachO w.heap.size (.slice none 0 0)) A L)
      rcases q with q | q | q | q
      · omega
      · omega
      · omega
      · cases q
    clear a0 a1 a2 a3 b0 b1' b2 b3 k0 k1
    gi_wp2_with fail
    refine range_wp (gf := 100) (lb := #[.pointer (some ⟨w.heap.size + 1 + 1 + 1 + 1, 0, none⟩)]) rfl (enters_of Tryz.func100 (by kernel_rfl) rfl)
      (runs1_iter (w.heap.size + 1 + 1 + 1 + 1) L A c (EachO w.heap.size (.slice none 0 0)) w1 hbx hl hes (by rintro (q | q | q | q) <;> first | omega | cases q)) (fun _ => rfl) tellG_kept handG_cells
      (EachI L w R) (EachX w R) (eachI_stable L w R (by omega)) (fun cd => eachX_stable w R cd (by omega)) hI0 (by rintro j (q | q | q | q) <;> first | omega | cases q)
      (fun v => { tmps := #[.slice A L.length c, .func (.func 23) #[] #[], undef, .pointer (some ⟨w.heap.size, 0, none⟩), .pointer (some ⟨w.heap.size + 1, 0, none⟩), .pointer (some ⟨w.heap.size + 1 + 1, 0, none⟩), .pointer (some ⟨w.heap.size + 1 + 1 + 1, 0, none⟩), v.1, v.2, .slice A L.length c, .int .i64 L.length, .bool false, .slice A L.length c, .func (.func 100) #[] #[.pointer (some ⟨w.heap.size + 1 + 1 + 1 + 1, 0, none⟩)], v.1, v.2, undef, undef, undef, undef, undef, undef, undef, undef, undef, undef, undef, undef, undef, undef, undef, undef, undef, undef, undef], defers := [] }) ?assign ?body ?done ?stop
    case assign =>
      intro l v W K hK
      unfold encG
      gi_wp2_with fail
      exact hK
    case body =>
      rintro l k p v O A' ⟨last, lv, rfl, h0, h1, h2, h3, h4, h6, h7⟩ hx ⟨hvr, hvf⟩ hlt hsA
      have hkl : k < (runsL L).length := (List.getElem?_eq_some_iff.1 hx).1
      have hdr : (runsL L).drop k = p :: (runsL L).drop (k + 1) := by
        rw [List.drop_eq_getElem_cons hkl]; congr 1; rw [List.getElem?_eq_getElem hkl] at hx; injection hx
      rw [hdr, eachB] at h7
      have exit : ∀ B, Kept (fun _ => False) A' B → R = false → Turn (handG v) (EachO w.heap.size lv) A' (EachX w R .ret k) (B.setCell ⟨w.heap.size + 1, 0, none⟩ (.bool false)) := fun B kB hr => by
        have hb2 := blk_set (kB.heap h1 (fun q => q)) 0 (.bool false)
        have kb := (kB.mono (fun _ _ q => q.elim) : Kept (EachO w.heap.size lv) A' B).setCell (p := ⟨w.heap.size + 1, 0, none⟩) (fun _ => .inl rfl) (.bool false)
        have kb2 := (kB.mono (fun _ _ q => q.elim) : Kept (fun j => j = w.heap.size + 1) A' B).setCell (p := ⟨w.heap.size + 1, 0, none⟩) (fun _ => rfl) (.bool false)
        exact ⟨_, ⟨rfl, hr, hb2, h6.trans' kb2 (fun _ _ q => q) (fun j hj q => by omega)⟩, kb, fun j q => .inl q, fun j q => by have := kb.size; have := hlt j q; omega⟩
      have goon : ∀ B, Kept (fun _ => False) A' B → eachB ((runsL L).drop (k + 1)) (some p.1) = R → Turn (handG v) (EachO w.heap.size lv) A' (EachI L w R (k + 1)) ((B.setCell ⟨w.heap.size + 1 + 1, 0, none⟩ v.1).setCell ⟨w.heap.size + 1 + 1 + 1, 0, none⟩ (.bool true)) := fun B kB hr => by
        have g0 := kB.heap h0 (fun q => q)
        have g1 := kB.heap h1 (fun q => q)
        have g2 := kB.heap h2 (fun q => q)
        have g3 := kB.heap h3 (fun q => q)
        have hvB := hvr.same kB
        have o2 := hvB.other g2 (by decide)
        have o3 := hvB.other g3 (by decide)
        have kb := ((kB.mono (fun _ _ q => q.elim) : Kept (EachO w.heap.size lv) A' B).setCell (p := ⟨w.heap.size + 1 + 1, 0, none⟩) (fun _ => .inr (.inl rfl)) v.1).setCell (p := ⟨w.heap.size + 1 + 1 + 1, 0, none⟩) (fun _ => .inr (.inr (.inl rfl))) (.bool true)
        have kb2 := ((Kept.refl (fun j => j = w.heap.size + 1 + 1 ∨ j = w.heap.size + 1 + 1 + 1) B).setCell (p := ⟨w.heap.size + 1 + 1, 0, none⟩) (fun _ => .inl rfl) v.1).setCell (p := ⟨w.heap.size + 1 + 1 + 1, 0, none⟩) (fun _ => .inr rfl) (.bool true)
        refine ⟨EachO w.heap.size v.1, ⟨some p.1, v.1, rfl, ?_, ?_, ?_, ?_, ?_, ?_, hr⟩, kb, ?_, ?_⟩
        · exact kb2.heap g0 (fun q => by omega)
        · exact kb2.heap g1 (fun q => by omega)
        · exact blk_set_other (blk_set g2 0 v.1) (p := ⟨w.heap.size + 1 + 1 + 1, 0, none⟩) (by simp) _
        · exact blk_set (blk_set_other g3 (p := ⟨w.heap.size + 1 + 1, 0, none⟩) (by simp) v.1) 0 (.bool true)
        · exact hvB.kept kb2 (fun g hg q => by rcases q with q | q; exact o2 (by rw [hg, q]); exact o3 (by rw [hg, q]))
        · exact (h6.trans kB).trans' kb2 (fun _ _ q => q) (fun j hj q => by omega)
        · rintro j (q | q | q | q)
          · exact .inl (.inl q)
          · exact .inl (.inr (.inl q))
          · exact .inl (.inr (.inr (.inl q)))
          · exact .inr (.inr (.inl q))
        · intro j q
          have hsB := kb.size
          have hss := kB.size
          rcases q with q | q | q | q
          · have := (Array.getElem?_eq_some_iff.1 h1).1; omega
          · have := (Array.getElem?_eq_some_iff.1 h2).1; omega
          · have := (Array.getElem?_eq_some_iff.1 h3).1; omega
          · have := hvr.lt j q; omega
      have EX := Lib.hid exit
      have GO := Lib.hid goon
      have H7 := Lib.hid h7
      have c0 := cell_of_row A' w.heap.size 0 _ _ _ h0
      have c1 := cell_of_row A' (w.heap.size + 1) 0 _ _ _ h1
      have c2 := cell_of_row A' (w.heap.size + 1 + 1) 0 _ _ _ h2
      have c3 := cell_of_row A' (w.heap.size + 1 + 1 + 1) 0 _ _ _ h3
      simp only [List.getElem?_toArray, List.getElem?_cons_zero] at c0 c1 c2 c3
      have f1 := frozen_of h1 0
      have f2 := frozen_of h2 0
      have f3 := frozen_of h3 0
      obtain ⟨v1, v2⟩ := v
      obtain ⟨Ar, cr, hv1, hrc, hrm, hsr⟩ := hvr.src encW_len (fun _ => False) (fun _ _ q => q)
      obtain ⟨Af, cf, hv2, hfc, hfm, hsf⟩ := hvf.src encJ_len (fun _ => False) (fun _ _ q => q)
      simp only at hv1 hv2
      subst hv1 hv2
      have hmay := fun wx hx => rowMay_any p.1 Ar cr wx hx (by omega)
      have hstep := fun wx hx => stepMay_any p.2 Af cf wx hx (by omega)
      have CF : ∀ {B : World}, Kept (fun _ => False) A' B → B.cell? ⟨w.heap.size + 1, 0, none⟩ = some (.bool false) ∧ B.frozen? ⟨w.heap.size + 1, 0, none⟩ = false ∧ B.frozen? ⟨w.heap.size + 1 + 1, 0, none⟩ = false ∧ B.frozen? ⟨w.heap.size + 1 + 1 + 1, 0, none⟩ = false := fun kB =>
        ⟨kB.cell c1 (fun q => q), frozen_of (kB.heap h1 (fun q => q)) 0, frozen_of (kB.heap h2 (fun q => q)) 0, frozen_of (kB.heap h3 (fun q => q)) 0⟩
      clear exit goon h7 hdr hx hlt h0 h1 h2 h3 hI0 hes
      cases g1 : rowB p.1 with
      | false =>
        rw [g1] at hmay H7
        have HRF : Hid (R = false) := by have := H7.out; rw [Bool.false_and, if_neg (by simp)] at this; exact this.symm
        clear g1 H7
        gi_wp2_with fail
        refine ⟨trivial, rfl, CallsIn.inRound l (callsIn_wide.2 ((hmay _ hsr).mono ?_))⟩
        rintro e w2 ⟨rfl, k2⟩
        obtain ⟨d1, e1, e2, e3⟩ := CF k2
        gi_wp2_with fail
        · exfalso; rename_i hq _; cases hq
        · exfalso; rename_i hq _; cases hq
        refine ⟨trivial, ?_⟩
        gi_wp2_with fail
        refine ⟨by simp, ?_⟩
        gi_wp2_with fail
        exact EX.out _ k2 HRF.out
      | true =>
        rw [g1] at hmay H7
        clear g1
        cases last with
        | none =>
          have h4' : lv = .slice none 0 0 := h4
          subst h4'
          simp only [Option.isSome_none] at c3
          cases g3 : stepMayB p.2 with
          | false =>
            rw [g3] at hstep H7
            have HRF : Hid (R = false) := by have := H7.out; rw [Bool.and_false, Bool.and_false, if_neg (by simp)] at this; exact this.symm
            clear g3 H7
            gi_wp2_with fail
            refine ⟨trivial, rfl, CallsIn.inRound l (callsIn_wide.2 ((hmay _ hsr).mono ?_))⟩
            rintro e w2 ⟨rfl, k2⟩
            have c3' := k2.cell c3 (fun q => q)
            have c2' := k2.cell c2 (fun q => q)
            have c0' := k2.cell c0 (fun q => q)
            obtain ⟨d1, e1, e2, e3⟩ := CF k2
            gi_wp2_with fail
            refine ⟨trivial, ?_⟩
            have K2 := k2
            have hsf2 := hsf.same K2
            gi_wp2_with fail
            refine ⟨trivial, rfl, CallsIn.inRound l (callsIn_wide.2 ((hstep _ hsf2).mono ?_))⟩
            rintro e w4 ⟨rfl, k4⟩
            have kk := K2.trans k4
            obtain ⟨d1, e1, e2, e3⟩ := CF kk
            have c2' := kk.cell c2 (fun q => q)
            have c3'' := kk.cell c3 (fun q => q)
            gi_wp2_with fail
            exact EX.out _ kk HRF.out
          | true =>
            rw [g3] at hstep H7
            have HRT : Hid (eachB ((runsL L).drop (k + 1)) (some p.1) = R) := by have := H7.out; rw [if_pos (by rfl)] at this; exact this
            clear g3 H7
            gi_wp2_with fail
            refine ⟨trivial, rfl, CallsIn.inRound l (callsIn_wide.2 ((hmay _ hsr).mono ?_))⟩
            rintro e w2 ⟨rfl, k2⟩
            have c3' := k2.cell c3 (fun q => q)
            have c2' := k2.cell c2 (fun q => q)
            have c0' := k2.cell c0 (fun q => q)
            obtain ⟨d1, e1, e2, e3⟩ := CF k2
            gi_wp2_with fail
            refine ⟨trivial, ?_⟩
            have K2 := k2
            have hsf2 := hsf.same K2
            gi_wp2_with fail
            refine ⟨trivial, rfl, CallsIn.inRound l (callsIn_wide.2 ((hstep _ hsf2).mono ?_))⟩
            rintro e w4 ⟨rfl, k4⟩
            have kk := K2.trans k4
            obtain ⟨d1, e1, e2, e3⟩ := CF kk
            have c2' := kk.cell c2 (fun q => q)
            have c3'' := kk.cell c3 (fun q => q)
            gi_wp2_with fail
            exact GO.out _ kk HRT.out
        | some q =>
          have h4' : Row encW 3 48 A' lv q := h4
          obtain ⟨Aq, cq, hq1, hqc, hqm, hsq⟩ := h4'.src encW_len (fun _ => False) (fun _ _ q => q)
          subst hq1
          simp only [Option.isSome_some] at c3
          have hcmp := fun wx hx hy => rcmp_any q p.1 Aq Ar cq cr wx hx hy (by omega) (by omega) hqc hqm
          cases g2 : decide (cmpR q p.1 < 0) with
          | false =>
            have HRF : Hid (R = false) := by
              have := H7.out
              rw [show riseB (some q) p.1 = false from g2, Bool.false_and, Bool.and_false, if_neg (by simp)] at this
              exact this.symm
            have g2' : decide ((0 : Int) ≤ cmpR q p.1) = true := by simp at g2 ⊢; omega
            clear g2 H7 h4 h4'
            generalize cmpR q p.1 = cm at *
            gi_wp2_with fail
            refine ⟨trivial, rfl, CallsIn.inRound l (callsIn_wide.2 ((hmay _ hsr).mono ?_))⟩
            rintro e w2 ⟨rfl, k2⟩
            have c3' := k2.cell c3 (fun q => q)
            have c2' := k2.cell c2 (fun q => q)
            have c0' := k2.cell c0 (fun q => q)
            obtain ⟨d1, e1, e2, e3⟩ := CF k2
            gi_wp2_with fail
            refine ⟨trivial, rfl, CallsIn.inRound l (callsIn_wide.2 ((hcmp _ (hsq.same k2) (hsr.same k2)).mono ?_))⟩
            rintro e w3 ⟨rfl, k3⟩
            have K2 := k2.trans k3
            obtain ⟨d1, e1, e2, e3⟩ := CF K2
            gi_wp2_with fail
            refine ⟨by simp, ?_⟩
            gi_wp2_with fail
            exact EX.out _ K2 HRF.out
          | true =>
            have g2' : decide ((0 : Int) ≤ cmpR q p.1) = false := by simp at g2 ⊢; omega
            have hri : riseB (some q) p.1 = true := g2
            cases g3 : stepMayB p.2 with
            | false =>
              rw [g3] at hstep H7
              have HRF : Hid (R = false) := by have := H7.out; rw [Bool.and_false, Bool.and_false, if_neg (by simp)] at this; exact this.symm
              clear g3 H7 g2 hri h4 h4'
              generalize cmpR q p.1 = cm at *
              gi_wp2_with fail
              refine ⟨trivial, rfl, CallsIn.inRound l (callsIn_wide.2 ((hmay _ hsr).mono ?_))⟩
              rintro e w2 ⟨rfl, k2⟩
              have c3' := k2.cell c3 (fun q => q)
              have c2' := k2.cell c2 (fun q => q)
              have c0' := k2.cell c0 (fun q => q)
              obtain ⟨d1, e1, e2, e3⟩ := CF k2
              gi_wp2_with fail
              refine ⟨trivial, rfl, CallsIn.inRound l (callsIn_wide.2 ((hcmp _ (hsq.same k2) (hsr.same k2)).mono ?_))⟩
              rintro e w3 ⟨rfl, k3⟩
              have K2 := k2.trans k3
              have c0'' := K2.cell c0 (fun q => q)
              have hsf2 := hsf.same K2
              gi_wp2_with fail
              refine ⟨trivial, rfl, CallsIn.inRound l (callsIn_wide.2 ((hstep _ hsf2).mono ?_))⟩
              rintro e w4 ⟨rfl, k4⟩
              have kk := K2.trans k4
              obtain ⟨d1, e1, e2, e3⟩ := CF kk
              have c2' := kk.cell c2 (fun q => q)
              have c3'' := kk.cell c3 (fun q => q)
              gi_wp2_with fail
              exact EX.out _ kk HRF.out
            | true =>
              rw [g3, hri] at H7
              rw [g3] at hstep
              have HRT : Hid (eachB ((runsL L).drop (k + 1)) (some p.1) = R) := by have := H7.out; rw [if_pos (by rfl)] at this; exact this
              clear g3 H7 g2 hri h4 h4'
              generalize cmpR q p.1 = cm at *
              gi_wp2_with fail
              refine ⟨trivial, rfl, CallsIn.inRound l (callsIn_wide.2 ((hmay _ hsr).mono ?_))⟩
              rintro e w2 ⟨rfl, k2⟩
              have c3' := k2.cell c3 (fun q => q)
              have c2' := k2.cell c2 (fun q => q)
              have c0' := k2.cell c0 (fun q => q)
              obtain ⟨d1, e1, e2, e3⟩ := CF k2
              gi_wp2_with fail
              refine ⟨trivial, rfl, CallsIn.inRound l (callsIn_wide.2 ((hcmp _ (hsq.same k2) (hsr.same k2)).mono ?_))⟩
              rintro e w3 ⟨rfl, k3⟩
              have K2 := k2.trans k3
              have c0'' := K2.cell c0 (fun q => q)
              have hsf2 := hsf.same K2
              gi_wp2_with fail
              refine ⟨trivial, rfl, CallsIn.inRound l (callsIn_wide.2 ((hstep _ hsf2).mono ?_))⟩
              rintro e w4 ⟨rfl, k4⟩
              have kk := K2.trans k4
              obtain ⟨d1, e1, e2, e3⟩ := CF kk
              have c2' := kk.cell c2 (fun q => q)
              have c3'' := kk.cell c3 (fun q => q)
              gi_wp2_with fail
              exact GO.out _ kk HRT.out
    case done =>
      rintro D O W ⟨last, lv, rfl, h0, h1, h2, h3, h4, h6, h7⟩ hK hD hDO
      have hRt : true = R := by rw [List.drop_length] at h7; exact h7
      subst hRt
      have c2 := cell_of_row W (w.heap.size + 1) 0 _ _ _ h1
      have f2 := frozen_of h1 0
      simp only [List.getElem?_toArray, List.getElem?_cons_zero] at c2
      have hb2 := blk_set h1 0 (.bool true)
      have kb := (Kept.refl (fun j => j = w.heap.size + 1) W).setCell (p := ⟨w.heap.size + 1, 0, none⟩) (fun _ => rfl) (.bool true)
      have hK2 := kb.heap hK (fun q => hDO (.inl q))
      have kf0 := h6.trans' kb (fun _ _ q => q) (fun j hj q => by omega)
      have kp := (Kept.refl (fun j => j = D) (W.setCell ⟨w.heap.size + 1, 0, none⟩ (.bool true))).putObj D (.deferred none) (fun _ => rfl)
      have y0 := cell_of_row _ (w.heap.size + 1) 0 _ _ _ (kp.heap hb2 (fun q => hDO (.inl q.symm)))
      (try simp only [Array.setIfInBounds, List.size_toArray, List.length_cons, List.length_nil] at y0)
      have kf : Hid (Kept (fun _ => False) w _) := kf0.trans' kp (fun _ _ q => q) (fun j hj q => by have := kw1.size; omega)
      have HK := Lib.hid hK2
      have HY := Lib.hid y0
      clear h0 h1 h2 h3 h4 h6 h7 hb2 kb hK2 kp y0 hK kf0 hDO hI0 hes
      gi_wp2_with fail
      refine ⟨by simp, .inl ⟨_, _, rfl, run_takeDeferred HK.out, _, ?_, rfl, kf⟩⟩
      have hy := HY.out
      simp [results, Tryz.results53, go_sem, hy]
    case stop =>
      rintro D cd k O W hkl ⟨rfl, hr, h1, h6⟩ hK hD hDO
      subst hr
      have kp := (Kept.refl (fun j => j = D) W).putObj D (.deferred none) (fun _ => rfl)
      have y0 := cell_of_row _ (w.heap.size + 1) 0 _ _ _ (kp.heap h1 (fun q => by omega))
      have kf : Hid (Kept (fun _ => False) w _) := h6.trans' kp (fun _ _ q => q) (fun j hj q => by have := kw1.size; omega)
      have HK := Lib.hid hK
      have HY := Lib.hid y0
      clear h6 h1 kp y0 hK hI0 hes
      gi_wp2_with fail
      refine ⟨by simp, .inl ⟨_, _, rfl, run_takeDeferred HK.out, _, ?_, rfl, kf⟩⟩
      have hy := HY.out
      simp [results, Tryz.results53, go_sem, hy]
  · obtain rfl : R = false := by rw [← HR.out]; unfold edMay; simp [h40]
    have b1 : decide ((4096 : Int) < (L.length : Int)) = true := by simp; omega
    refine calls_marks Tryz.func53 rfl ?_
    simp only [Tryz.ntmps53, List.size_toArray, List.length_cons, List.length_nil, Nat.reduceAdd, Nat.reduceSub, Array.replicate_succ, Array.replicate_zero, List.push_toArray, List.append_toArray, List.nil_append, List.cons_append]
    gi_wp2_with fail
    refine ⟨_, ?_, rfl, ((Kept.refl _ w).alloc _).alloc _⟩
    simp [results, Tryz.results53, go_sem]

theorem emay_any (L : List Ed) (A : Option Addr) (c : Nat) (w : World) (hl : L.length ≤ 1048576) (hs : EdS w (fun _ => False) A L) :
    Calls Tryz.prog 17 #[.slice A L.length c] w fun e w' => e = .returned (.bool (edMay L)) ∧ Kept (fun _ => False) w w' := by
  have he := fun wx hx => each_any L A c wx hl hx
  go_enter Tryz.func17, Tryz.ntmps17
  go_wp2_with fail
  refine (he _ hs).mono ?_
  rintro e w1 ⟨rfl, k1⟩
  go_wp2_with fail
  go_ret
  exact ⟨rfl, k1⟩
end Go.Proofs.YthkeigljiinlbaaGreat

/- Picked out of the text BE of TopExprs. -/
namespace Go.Proofs.YthkeigljiinlbaaGreat
open Go.RowKit

section
variable {S : List Cl} {ts rest : List Tok} {d k : Nat} {x : List Wd} {q q' : List Wd × List Tok}
end

/-- What follows does not go on at this level, nor at a later one. -/
def okR (k : Nat) (rest : List Tok) : Prop := ∀ j : Nat, k ≤ j → (j = 1 ∨ j = 2 ∨ j = 4 ∨ j = 5 ∨ j = 6) → codeI (j : Int) (nextS rest) = 0
theorem okR.mono {k k' : Nat} {rest : List Tok} (h : okR k rest) (hk : k ≤ k') : okR k' rest := fun j hj => h j (Nat.le_trans hk hj)
end Go.Proofs.YthkeigljiinlbaaGreat

/- Picked out of the text BK of TopExprs. -/
namespace Go.Proofs.YthkeigljiinlbaaGreat
open Go.RowKit

/-- An edge with where its row lies. -/
abbrev PE := (Option Addr × Nat) × Ed
def slE (p : PE) : Value := .slice p.1.1 p.2.r.length p.1.2
def encE (p : PE) : List Value := [slE p, .int .i64 p.2.a, .int .i64 p.2.n]
theorem encE_len (p : PE) : (encE p).length = 3 := rfl
theorem encE_one : ∀ x : PE, ∀ u ∈ encE x, u.oneCell' = true := by
  intro x u hu
  unfold encE at hu
  simp only [List.mem_cons, List.not_mem_nil, or_false] at hu
  rcases hu with rfl | rfl | rfl <;> rfl
/-- v is a row of edges of the call's own; their rows are the call's own, too. -/
structure EdN (w0 w : World) (v : Value) (M : List PE) : Prop where
  row : Row encE 3 50 w v M
  own : ∀ j, v.ownBlock = some j → w0.heap.size ≤ j
  rows : ∀ p ∈ M, Row encW 3 48 w (slE p) p.2.r ∧ (∀ j, (slE p).ownBlock = some j → w0.heap.size ≤ j)
  kept : Kept (fun _ => False) w0 w
theorem EdN.nil {w : World} : EdN w w (.slice none 0 0) [] := ⟨Row.ofNil w, (fun j hj => by cases hj), (fun p hp => by cases hp), Kept.refl _ w⟩
theorem EdN.eds {w0 w : World} {v : Value} {M : List PE} (h : EdN w0 w v M) (hl : ∀ p ∈ M, p.2.r.length ≤ 1048576) : ∃ A c, v = .slice A M.length c ∧ (A = none → M = [] ∧ c = 0) ∧ EdS w (fun _ => False) A (M.map Prod.snd) := by
  obtain ⟨A, c, hv, hA, hs⟩ := h.row.asSrc encE_len
  refine ⟨A, c, hv, hA, fun i x hi => ?_⟩
  rw [List.getElem?_map] at hi
  cases hp : M[i]? with
  | none => rw [hp] at hi; cases hi
  | some p =>
    rw [hp] at hi
    injection hi with hi
    subst hi
    obtain ⟨b, off, e, _, hc⟩ := hs i p hp
    have hpm := List.mem_of_getElem? hp
    obtain ⟨hpr, _⟩ := h.rows p hpm
    obtain ⟨B, d, hu, hB, hsr⟩ := hpr.asSrc encW_len
    have c0 := hc 0 _ rfl
    have c1 := hc 1 _ rfl
    have c2 := hc 2 _ rfl
    rw [hu] at c0
    exact ⟨b, off, B, d, e, fun q => q, c0, c1, c2, hB, hsr, hl p hpm⟩
/-- Another edge behind them. -/
theorem EdN.lit {P : Program} {w0 wr W : World} {v : Value} {M : List PE} (t ty : TypeId) (z : Value) (bytes : Nat) (ht : P.underlying t = some (.slice 50)) (hi : (P.info? 50).map (fun i => (i.zero, i.size, i.bytes)) = some (some z, 3, bytes)) (hzs : z.cells.size = 3)
    (h : EdN w0 wr v M) (k : Kept (fun _ => False) wr W) (p : PE) (hp : Row encW 3 48 W (slE p) p.2.r) (hpo : ∀ j, (slE p).ownBlock = some j → w0.heap.size ≤ j) (B c : Nat) {T' : TypeId} {f : Nat × Nat} (hB : W.heap[B]? = some (.cells (cellsOf encE [p]).toArray T' f))
    (h63 : M.length + 1 ≤ maxLen) (hb : (M.length + 1) * bytes ≤ 140737488355328) :
    ∃ v' w', Hid ((Builtin.append_ #[t, t] ty #[v, .slice (some ⟨B, 0, none⟩) 1 c]).run P W = .ok v' w') ∧ (∃ A' c', v' = .slice A' (M.length + 1) c' ∧ EdN w0 w' v' (M ++ [p])) := by
  obtain ⟨A', c', w', h1, h2, h3, h4⟩ := app_src (P := P) (M := [p]) (N := fun _ => False) t ty z bytes ht hi hzs (by decide) encE_len encE_one (h.row.same k) (some ⟨B, 0, none⟩) c (by simp) (Src.many encE_len hB (fun q => q)) h63 hb
  rw [List.length_append] at h2
  have kk := h.kept.trans k
  have hr : ∀ q ∈ M ++ [p], Row encW 3 48 W (slE q) q.2.r ∧ (∀ j, (slE q).ownBlock = some j → w0.heap.size ≤ j) := by
    intro q hq
    rw [List.mem_append, List.mem_singleton] at hq
    rcases hq with hq | rfl
    · exact ⟨(h.rows q hq).1.same k, (h.rows q hq).2⟩
    · exact ⟨hp, hpo⟩
  refine ⟨_, w', h1, A', c', rfl, h2, fun j hj => ?_, fun q hq => ⟨(hr q hq).1.kept h3 (fun g hg e => ?_), (hr q hq).2⟩, kk.trans' h3 (fun _ _ q => q) (fun i hi q => absurd (h.own i q) (by omega))⟩
  · rcases h4 j hj with q | q
    · exact h.own j q
    · exact Nat.le_trans kk.size q
  · obtain ⟨cs, e1⟩ := row_cells (hr q hq).1 hg
    obtain ⟨cs2, e2⟩ := row_cells (h.row.same k) e
    rw [e1] at e2
    injection e2 with e2
    injection e2 with _ e2 _
    exact absurd e2 (by decide)
end Go.Proofs.YthkeigljiinlbaaGreat
