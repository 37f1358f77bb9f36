/- edge.Jumps. -/
import Derived.Test.YthkeigljiinlbaaGreatM43
import Derived.Test.YthkeigljiinlbaaGreatM4
namespace Go.Proofs.YthkeigljiinlbaaGreat
open Go.RowKit
attribute [local go_sem] Oper.semAt_some

theorem rise_one {q r : List Wd} (hq : One q) (hr : One r) (h : riseB (some q) r = true) : numR q < numR r := by
  have h' : decide (cmpR q r < 0) = true := h
  rw [hq.num, hr.num, cmpR_one, decide_eq_true_eq] at h'
  unfold Lib.compareInt at h'
  by_cases h1 : numR q < numR r
  · exact h1
  · rw [if_neg h1] at h'
    by_cases h2 : numR r < numR q
    · rw [if_pos h2] at h'; exact absurd h' (by decide)
    · rw [if_neg h2] at h'; exact absurd h' (by decide)
theorem eachB_rise : ∀ (gs : List (List Wd × List Jp)) (last : Option (List Wd)), eachB gs last = true → (∀ p ∈ gs, One p.1) → (∀ q, last = some q → One q) → gs.Pairwise (fun p q => numR p.1 < numR q.1) ∧ ∀ q, last = some q → ∀ p ∈ gs, numR q < numR p.1
  | [], _, _, _, _ => ⟨List.Pairwise.nil, fun _ _ p hp => by cases hp⟩
  | p :: gs, last, h, ho, hl => by
    rw [eachB] at h
    by_cases hb : (rowB p.1 && (riseB last p.1 && stepMayB p.2)) = true
    · rw [if_pos hb] at h
      simp only [Bool.and_eq_true] at hb
      have hp := ho p (List.mem_cons_self ..)
      obtain ⟨i1, i2⟩ := eachB_rise gs (some p.1) h (fun q hq => ho q (List.mem_cons_of_mem _ hq)) (fun q hq => by injection hq with hq; subst hq; exact hp)
      refine ⟨List.Pairwise.cons (fun q hq => i2 p.1 rfl q hq) i1, fun q hq r hr => ?_⟩
      subst hq
      have h1 := rise_one (hl q rfl) hp hb.2.1
      rcases List.mem_cons.1 hr with rfl | hr
      · exact h1
      · have := i2 p.1 rfl r hr; omega
    · rw [if_neg hb] at h; cases h
theorem runs_dis {X : List Ed} (hm : edMay X = true) (ho : ∀ x ∈ X, One x.r) : (runsL X).Pairwise (fun p q => numR p.1 < numR q.1) := by
  have h1 : eachB (runsL X) none = true := by unfold edMay at hm; rw [Bool.and_eq_true] at hm; exact hm.2
  exact (eachB_rise _ none h1 (fun p hp => by obtain ⟨⟨x, hx, e⟩, _⟩ := runs_mem hp; rw [e]; exact ho x hx) (fun q hq => by cases hq)).1
theorem val_runs (X : List Ed) (r : List Wd) (t : Int) : valE X r t = ((runsL X).map (fun p => if p.1 = r then sumTo p.2 t else 0)).sum := by
  have h : ∀ gs : List (List Wd × List Jp), valE (gs.flatMap (fun p => putL p.1 p.2)) r t = (gs.map (fun p => if p.1 = r then sumTo p.2 t else 0)).sum := by
    intro gs
    induction gs with
    | nil => rfl
    | cons p gs ih => rw [List.flatMap_cons, valE_app, valE_put, ih, List.map_cons, List.sum_cons]
  rw [← h, runs_flat]
theorem sum_none {gs : List (List Wd × List Jp)} {r : List Wd} {t : Int} (h : ∀ p ∈ gs, p.1 ≠ r) : (gs.map (fun p => if p.1 = r then sumTo p.2 t else 0)).sum = 0 := by
  induction gs with
  | nil => rfl
  | cons p gs ih => rw [List.map_cons, List.sum_cons, if_neg (h p (List.mem_cons_self ..)), ih (fun q hq => h q (List.mem_cons_of_mem _ hq))]; rfl
theorem sum_one {gs : List (List Wd × List Jp)} {r : List Wd} {t : Int} {p : List Wd × List Jp} (hd : gs.Pairwise (fun p q => numR p.1 < numR q.1)) (hp : p ∈ gs) (e : p.1 = r) : (gs.map (fun p => if p.1 = r then sumTo p.2 t else 0)).sum = sumTo p.2 t := by
  induction gs with
  | nil => cases hp
  | cons q gs ih =>
    rw [List.pairwise_cons] at hd
    rw [List.map_cons, List.sum_cons]
    rcases List.mem_cons.1 hp with rfl | hp
    · rw [if_pos e, sum_none (fun s hs q => by have := hd.1 s hs; rw [q, e] at this; omega)]
      omega
    · rw [if_neg (fun q2 => by have := hd.1 p hp; rw [q2, e] at this; omega), ih hd.2 hp]
      omega

def JumpO (b : Nat) : Nat → Prop := fun j => j = b
def JumpI (X : List Ed) (r : List Wd) (w : World) (vr : Value) (k : Nat) (O : Nat → Prop) (W : World) : Prop :=
  O = JumpO (w.heap.size + 1) ∧ W.heap[w.heap.size + 1]? = some (.cells #[.slice none 0 0] 52 (0, 0)) ∧ W.heap[w.heap.size]? = some (.cells #[vr] 43 (0, 0)) ∧ Kept (fun _ => False) w W ∧ ∀ i p, i < k → (runsL X)[i]? = some p → p.1 ≠ r
def JumpX (X : List Ed) (r : List Wd) (w : World) (c : Code) (k : Nat) (O : Nat → Prop) (W : World) : Prop :=
  c = .ret ∧ ∃ (v : Value) (p : List Wd × List Jp), O = (fun j => j = w.heap.size + 1 ∨ v.ownBlock = some j) ∧ (runsL X)[k]? = some p ∧ p.1 = r ∧ W.heap[w.heap.size + 1]? = some (.cells #[v] 52 (0, 0)) ∧ Row encJ 2 80 W v p.2 ∧ Kept (fun _ => False) w W
theorem jumpI_stable (X : List Ed) (r : List Wd) (w : World) (vr : Value) {s : Nat} (hs : w.heap.size + 1 ≤ s) : Stable s (JumpI X r w vr) := by
  rintro k O A B Y ⟨rfl, h0, h1, h2, h3⟩ hX hXX
  exact ⟨rfl, hX.heap h0 (fun q => (hXX _ q).2 rfl), hX.heap h1 (fun q => by have := (hXX _ q).1; omega), h2.trans' hX (fun _ _ q => q) (fun j hj q => by have := (hXX _ q).1; omega), h3⟩
theorem jumpX_stable (X : List Ed) (r : List Wd) (w : World) (c : Code) {s : Nat} (hs : w.heap.size + 1 ≤ s) : Stable s (JumpX X r w c) := by
  rintro k O A B Y ⟨rfl, v, p, rfl, h0, h1, h2, h3, h4⟩ hX hXX
  exact ⟨rfl, v, p, rfl, h0, h1, hX.heap h2 (fun q => (hXX _ q).2 (.inl rfl)), h3.kept hX (fun j hj q => (hXX _ q).2 (.inr hj)), h4.trans' hX (fun _ _ q => q) (fun j hj q => by have := (hXX _ q).1; omega)⟩

set_option maxHeartbeats 2000000 in
set_option maxRecDepth 100000 in
theorem jumps_any (X : List Ed) (r : List Wd) (A Ar : Option Addr) (c cr : Nat) (w : World) (hX : EdS w (fun _ => False) A X) (hr : Src encW 3 w (fun _ => False) Ar r) (hm : edMay X = true) (ho : ∀ x ∈ X, One x.r) (hrB : One r) :
    Calls Tryz.prog 9 #[.slice A X.length c, .slice Ar r.length cr] w fun e w' => ∃ v f, e = .returned v ∧ Row encJ 2 80 w' v f ∧ stepMayB f = true ∧ (∀ t, sumTo f t = valE X r t) ∧ Kept (fun _ => False) w w' := by
  have hdis := runs_dis hm ho
  have hXl := (edMay_run hm).1
  have hrm := fun wx hx => rowMay_any r Ar cr wx hx (by rw [hrB.len]; unfold maxLen; omega)
  rw [hrB.may] at hrm
  have hgr := fun wx => groups_fn A X.length c wx
  have k0 : Kept (fun _ => False) w ((w.alloc (.cells #[.slice Ar r.length cr] 43)).alloc (.cells #[.slice none 0 0] 52)) := ((Kept.refl _ w).alloc _).alloc _
  have a0 := ((Kept.refl (fun _ => False) _).alloc (.cells #[.slice none 0 0] 52)).heap (heap_alloc_new w (.cells #[.slice Ar r.length cr] 43)) (fun q => q)
  have a1 := heap_alloc_new (w.alloc (.cells #[.slice Ar r.length cr] 43)) (.cells #[.slice none 0 0] 52)
  rw [World.size_alloc] at a1
  obtain ⟨NR, hNR⟩ : ∃ NR, r.length = NR := ⟨_, rfl⟩
  have HNR := Lib.hid hNR
  rw [hNR] at hrm k0 a0 a1 ⊢
  clear hNR
  refine calls_marks Tryz.func9 rfl ?_
  simp only [Tryz.ntmps9, List.size_toArray, List.length_cons, List.length_nil, Nat.reduceAdd, Nat.reduceSub, Array.replicate_succ, Array.replicate_zero, List.push_toArray, List.append_toArray, List.nil_append, List.cons_append]
  gi_wp2_with fail
  refine ⟨trivial, rfl, callsIn_wide.2 ((hrm _ (hr.same k0)).mono ?_)⟩
  rintro e w1 ⟨rfl, k1⟩
  gi_wp2_with fail
  refine ⟨trivial, rfl, callsIn_wide.2 ((hgr _).mono ?_)⟩
  rintro e w3 ⟨rfl, hbx, k3⟩
  have k13 := (k0.trans k1).trans k3
  have g0 := (k1.trans k3).heap a0 (fun q => q)
  have g1 := (k1.trans k3).heap a1 (fun q => q)
  have hsz : w.heap.size + 2 ≤ w1.heap.size := (Array.getElem?_eq_some_iff.1 (k1.heap a1 (fun q => q))).1
  have hsz3 : w1.heap.size + 1 ≤ w3.heap.size := (Array.getElem?_eq_some_iff.1 hbx).1
  have hI0 : JumpI X r w (.slice Ar NR cr) 0 (JumpO (w.heap.size + 1)) w3 := ⟨rfl, g1, g0, k13, fun i p hi => by omega⟩
  have hsw : EdS w3 (JumpO (w.heap.size + 1)) A X := hX.old.kept k13 (fun _ q => q.elim) (fun j q => .inr (by unfold JumpO at q; omega))
  have HDIS := Lib.hid hdis
  have HM := Lib.hid hm
  clear g0 g1 a0 a1 k0 k1 k3 hdis
  gi_wp2_with fail
  refine range_wp (gf := 56) (lb := #[.pointer (some ⟨w1.heap.size, 0, none⟩)]) rfl (enters_of Tryz.func56 (by kernel_rfl) rfl)
    (groups1_iter w1.heap.size X A c _ w3 hbx (by omega) hsw (by unfold JumpO; omega) hm) (fun _ => rfl) tellG_kept handG_cells
    (JumpI X r w (.slice Ar NR cr)) (JumpX X r w) (jumpI_stable X r w _ (by omega)) (fun cd => jumpX_stable X r w cd (by omega)) hI0 (fun j q => by unfold JumpO at q; omega)
    (fun v => { tmps := #[.slice A X.length c, .slice Ar NR cr, undef, .pointer (some ⟨w.heap.size, 0, none⟩), .pointer (some ⟨w.heap.size + 1, 0, none⟩), v.1, v.2, .slice Ar NR cr, .bool true, .bool false, .slice A X.length c, .func (.func 56) #[] #[.pointer (some ⟨w1.heap.size, 0, none⟩)], v.1, v.2, undef, undef, undef, undef], defers := [] }) ?assign ?body ?done ?stop
  case assign =>
    intro l' v W' K hK
    unfold encG
    gi_wp2_with fail
    exact hK
  case body =>
    rintro l k p v O1 A1 ⟨rfl, h1, h0, h5, h6⟩ hxk ⟨ht1, ht2⟩ hlt hsA
    have hpm := List.mem_of_getElem? hxk
    have hp1 : One p.1 := by obtain ⟨⟨x, hx, e⟩, _⟩ := runs_mem hpm; rw [e]; exact ho x hx
    obtain ⟨v1, v2⟩ := v
    obtain ⟨Arp, crp, hv1, _, hsr⟩ := ht1.asSrc encW_len
    obtain ⟨Af, cf, hv2, _, hsf⟩ := ht2.asSrc encJ_len
    simp only at hv1 hv2
    subst hv1 hv2
    have hsm := rsame_any p.1 r Arp Ar crp cr A1 hsr (hr.same h5) (by rw [hp1.len]; unfold maxLen; omega) (by rw [hrB.len]; unfold maxLen; omega)
    have c0 := cell_of_row _ _ 0 _ _ _ h0
    have c1 := cell_of_row _ _ 0 _ _ _ h1
    simp only [List.getElem?_toArray, List.getElem?_cons_zero] at c0 c1
    have hkl : k < (runsL X).length := (List.getElem?_eq_some_iff.1 hxk).1
    have HI : Hid (∀ B, Kept (fun _ => False) A1 B → p.1 ≠ r → Turn (handG (.slice Arp p.1.length crp, .slice Af p.2.length cf)) (JumpO (w.heap.size + 1)) A1 (JumpI X r w (.slice Ar NR cr) (k + 1)) B) := fun B kB hne =>
      ⟨JumpO (w.heap.size + 1), ⟨rfl, kB.heap h1 (fun q => q), kB.heap h0 (fun q => q), h5.trans kB, fun i p' hi hp' => by
        by_cases e : i = k
        · rw [e, hxk] at hp'; injection hp' with hp'; rw [← hp']; exact hne
        · exact h6 i p' (by omega) hp'⟩, kB.mono (fun _ _ q => q.elim), fun j q => .inl q, fun j q => by have := kB.size; have := hlt j q; omega⟩
    have HX : Hid (∀ B, Kept (fun _ => False) A1 B → p.1 = r → B.cell? ⟨w.heap.size + 1, 0, none⟩ = some (.slice none 0 0) ∧ B.frozen? ⟨w.heap.size + 1, 0, none⟩ = false ∧ Turn (handG (.slice Arp p.1.length crp, .slice Af p.2.length cf)) (JumpO (w.heap.size + 1)) A1 (JumpX X r w .ret k) (B.setCell ⟨w.heap.size + 1, 0, none⟩ (.slice Af p.2.length cf))) := fun B kB he => by
      have hb := kB.heap h1 (fun q => q)
      have hf := ht2.same kB
      have ks := (Kept.refl (fun j => j = w.heap.size + 1) B).setCell (p := ⟨w.heap.size + 1, 0, none⟩) (fun _ => rfl) (.slice Af p.2.length cf)
      have hsB := ks.size
      have hsB2 := kB.size
      have cB := cell_of_row _ _ 0 _ _ _ hb
      simp only [List.getElem?_toArray, List.getElem?_cons_zero] at cB
      refine ⟨cB, frozen_of hb 0, _, ⟨rfl, .slice Af p.2.length cf, p, rfl, hxk, he, blk_set hb 0 _, hf.kept ks (fun j hj q => hf.other hb (by decide) (by rw [hj, q])), (h5.trans kB).trans' ks (fun _ _ q => q) (fun j hj q => by omega)⟩, kB.trans' ks (fun _ _ q => q.elim) (fun _ _ q => q), fun j q => ?_, fun j q => ?_⟩
      · rcases q with q | q
        · exact .inl q
        · exact .inr (.inr (.inr q))
      · rcases q with q | q
        · have := hlt j q; omega
        · have := hf.lt j q; omega
    by_cases he : p.1 = r
    · have hd : decide (p.1 = r) = true := by simpa using he
      rw [hd, HNR.out] at hsm
      have HE := Lib.hid he
      clear he hd h1 h0 h5 h6 hxk ht1 ht2 hsf hlt hI0 hsw
      gi_wp2_with fail
      refine ⟨trivial, rfl, CallsIn.inRound l (callsIn_wide.2 (hsm.mono ?_))⟩
      rintro e B ⟨rfl, nd, rfl⟩
      obtain ⟨q1, q2, q3⟩ := HX.out _ (drew_kept A1 nd) HE.out
      have HT := Lib.hid q3
      clear q3
      gi_wp2_with fail
      exact HT.out
    · have hd : decide (p.1 = r) = false := by simpa using he
      rw [hd, HNR.out] at hsm
      have HT0 := Lib.hid he
      clear he hd h1 h0 h5 h6 hxk ht1 ht2 hsf hlt hI0 hsw
      gi_wp2_with fail
      refine ⟨trivial, rfl, CallsIn.inRound l (callsIn_wide.2 (hsm.mono ?_))⟩
      rintro e B ⟨rfl, nd, rfl⟩
      have HT := Lib.hid (HI.out _ (drew_kept A1 nd) HT0.out)
      gi_wp2_with fail
      exact HT.out
  case done =>
    rintro D O1 W1 ⟨rfl, h1, h0, h5, h6⟩ hK hDw hDO
    have hval : ∀ t, (0 : Int) = valE X r t := fun t => by
      rw [val_runs, sum_none]
      intro p hp
      obtain ⟨i, hi⟩ := List.getElem?_of_mem hp
      exact h6 i p (List.getElem?_eq_some_iff.1 hi).1 hi
    have c1 := cell_of_row _ _ 0 _ _ _ h1
    simp only [List.getElem?_toArray, List.getElem?_cons_zero] at c1
    have f1 := frozen_of h1 0
    have kp := (Kept.refl (fun j => j = D) (W1.setCell ⟨w.heap.size + 1, 0, none⟩ (.slice none 0 0))).putObj D (.deferred none) (fun _ => rfl)
    have ks := (Kept.refl (fun j => j = w.heap.size + 1) W1).setCell (p := ⟨w.heap.size + 1, 0, none⟩) (fun _ => rfl) (.slice none 0 0)
    have y1 := cell_of_row _ _ 0 _ _ _ (kp.heap (blk_set h1 0 (.slice none 0 0)) (fun q => hDO q.symm))
    have HK := Lib.hid (ks.heap hK (fun q => hDO q))
    have HY := Lib.hid y1
    have HF := Lib.hid ((h5.trans' ks (fun _ _ q => q) (fun j hj q => by omega)).trans' kp (fun _ _ q => q) (fun j hj q => by omega))
    have HV := Lib.hid hval
    clear y1 kp ks hK hDO h1 h0 h5 h6 hI0 hsw hval
    gi_wp2_with fail
    refine ⟨by simp, .inl ⟨_, _, rfl, run_takeDeferred HK.out, .slice none 0 0, ?_, .slice none 0 0, [], rfl, Row.ofNil _, rfl, HV.out, HF.out⟩⟩
    have hy := HY.out
    simp at hy
    simp [results, Tryz.results9, go_sem, hy]
  case stop =>
    rintro D cd k O1 W1 hkl ⟨rfl, v, p, rfl, h0, h1, h2, h3, h5⟩ hK hDw hDO
    have hpm := List.mem_of_getElem? h0
    have hval : ∀ t, sumTo p.2 t = valE X r t := fun t => by rw [val_runs, sum_one HDIS.out hpm h1]
    have kp := (Kept.refl (fun j => j = D) W1).putObj D (.deferred none) (fun _ => rfl)
    have y1 := cell_of_row _ _ 0 _ _ _ (kp.heap h2 (fun q => hDO (.inl q.symm)))
    have hr3 := h3.kept kp (fun j hj q => hDO (.inr (by rw [hj, q])))
    have HK := Lib.hid hK
    have HY := Lib.hid y1
    have HF := Lib.hid (h5.trans' kp (fun _ _ q => q) (fun j hj q => by omega))
    have HV := Lib.hid (show _ ∧ _ ∧ _ from ⟨hr3, ((edMay_run HM.out).2 p hpm).2, hval⟩)
    clear y1 kp hK hDO h0 h1 h2 h3 h5 hr3 hI0 hsw hval
    gi_wp2_with fail
    refine ⟨by simp, .inl ⟨_, _, rfl, run_takeDeferred HK.out, v, ?_, v, p.2, rfl, HV.out.1, HV.out.2.1, HV.out.2.2, HF.out⟩⟩
    have hy := HY.out
    simp at hy
    simp [results, Tryz.results9, go_sem, hy]
end Go.Proofs.YthkeigljiinlbaaGreat

/- The plain laws of the answer: it is told once, and which it is at two edges. -/
namespace Go.Proofs.YthkeigljiinlbaaGreat
open Go.RowKit

theorem RowsOk.one {L X : List Ed} (h : RowsOk L X) : ∀ x ∈ X, One x.r := fun x hx => by
  obtain ⟨t, e⟩ := h.rows x hx
  rw [e]; exact numW_one _
theorem RowsOk.runs_ne {L X : List Ed} (h : RowsOk L X) {p : List Wd × List Jp} (hp : p ∈ runsL X) : p.2 ≠ [] ∧ ∃ t, t < 1125899906842624 ∧ valE X p.1 t ≠ 0 := by
  have hst := ((edMay_run h.may).2 p hp).2
  have hdis := runs_dis h.may h.one
  obtain ⟨_, hpw, hall⟩ := may_all hst
  have hne : p.2 ≠ [] := by
    obtain ⟨⟨x, hx, e⟩, _⟩ := runs_mem hp
    obtain ⟨q, hq, e1, hj⟩ := run_of hx
    have : q = p := by
      by_cases hqp : q = p
      · exact hqp
      · exfalso
        have h2 : numR q.1 ≠ numR p.1 := by
          have hs := hdis
          have key : ∀ gs : List (List Wd × List Jp), gs.Pairwise (fun p q => numR p.1 < numR q.1) → q ∈ gs → p ∈ gs → numR q.1 ≠ numR p.1 := by
            intro gs
            induction gs with
            | nil => intro _ hh; cases hh
            | cons z gs ih =>
              intro hgs hq2 hp2
              rw [List.pairwise_cons] at hgs
              rcases List.mem_cons.1 hq2 with rfl | hq3
              · rcases List.mem_cons.1 hp2 with rfl | hp3
                · exact absurd rfl hqp
                · have := hgs.1 p hp3; omega
              · rcases List.mem_cons.1 hp2 with rfl | hp3
                · have := hgs.1 q hq3; omega
                · exact ih hgs.2 hq3 hp3
          exact key _ hs hq hp
        exact h2 (by rw [e1, e])
    rw [← this]
    intro q2
    rw [q2] at hj
    cases hj
  refine ⟨hne, ?_⟩
  cases hf : p.2 with
  | nil => exact absurd hf hne
  | cons j f =>
    rw [hf] at hpw hall
    rw [List.pairwise_cons] at hpw
    have hj := hall j (List.mem_cons_self ..)
    refine ⟨j.a, hj.2.1, ?_⟩
    rw [val_runs, sum_one hdis hp rfl, hf, sumTo_cons, if_pos (Int.le_refl _), sumTo_low hpw.1]
    have := hj.2.2.1
    omega
theorem RowsOk.row_of {L X : List Ed} (h : RowsOk L X) {p : List Wd × List Jp} (hp : p ∈ runsL X) : ∃ t, 0 ≤ t ∧ t < 1125899906842624 ∧ 0 < cntE L t ∧ p.1 = numW (cntE L t) := by
  obtain ⟨_, t, ht, hv⟩ := h.runs_ne hp
  rw [h.val _ _ ht] at hv
  by_cases hc : 0 ≤ t ∧ 0 < cntE L t ∧ p.1 = numW (cntE L t)
  · exact ⟨t, hc.1, ht, hc.2.1, hc.2.2⟩
  · rw [if_neg hc] at hv; exact absurd rfl hv

/-- The table that is counted whatever is asked. -/
abbrev L0 : List Ed := [⟨numW 5, 2, 1⟩, ⟨numW 5, 9, -1⟩]
theorem L0_ok : okL L0 = true := by decide
theorem L0_cnt (t : Int) : cntE L0 t = if 2 ≤ t ∧ t < 9 then 1 else 0 := by
  unfold cntE
  rw [List.map_cons, List.map_cons, List.map_nil, sumTo_cons, sumTo_cons, sumTo_nil]
  show (if (2 : Int) ≤ t then (1 : Int) else 0) + ((if (9 : Int) ≤ t then (-1 : Int) else 0) + 0) = _
  by_cases h1 : 2 ≤ t
  · by_cases h2 : 9 ≤ t
    · rw [if_pos h1, if_pos h2, if_neg (by omega)]; rfl
    · rw [if_pos h1, if_neg h2, if_pos (by omega)]; rfl
  · rw [if_neg h1, if_neg (by omega), if_neg (by omega)]; rfl
theorem counted_law {X : List Ed} (h : RowsOk L0 X) : X = [⟨numW 1, 2, 1⟩, ⟨numW 1, 9, -1⟩] := by
  have hrow : ∀ p ∈ runsL X, p.1 = numW 1 := fun p hp => by
    obtain ⟨t, _, _, hc, e⟩ := h.row_of hp
    rw [L0_cnt] at hc e
    by_cases h2 : 2 ≤ t ∧ t < 9
    · rw [if_pos h2] at e; exact e
    · rw [if_neg h2] at hc; exact absurd hc (by decide)
  have hdis := runs_dis h.may h.one
  have hval : ∀ t, t < 1125899906842624 → valE X (numW 1) t = if 2 ≤ t ∧ t < 9 then 1 else 0 := fun t ht => by
    rw [h.val _ _ ht, L0_cnt]
    by_cases h2 : 2 ≤ t ∧ t < 9
    · rw [if_pos h2, if_pos ⟨by omega, by decide, rfl⟩]
    · rw [if_neg h2, if_neg (fun q => absurd q.2.1 (by decide))]
  have hfl := runs_flat X
  have hmr := (edMay_run h.may).2
  cases hg : runsL X with
  | nil =>
    have h2 := hval 2 (by decide)
    rw [val_runs, hg] at h2
    exact absurd h2 (by decide)
  | cons p gs =>
    rw [hg] at hrow hdis hfl hmr
    have hgs : gs = [] := by
      cases gs with
      | nil => rfl
      | cons q gs =>
        rw [List.pairwise_cons] at hdis
        have h1 := hdis.1 q (List.mem_cons_self ..)
        rw [hrow p (List.mem_cons_self ..), hrow q (by simp)] at h1
        omega
    subst hgs
    have hp1 := hrow p (List.mem_cons_self ..)
    obtain ⟨_, hpw, hall⟩ := may_all (hmr p (List.mem_cons_self ..)).2
    have hs : ∀ t, t < 1125899906842624 → sumTo p.2 t = if 2 ≤ t ∧ t < 9 then 1 else 0 := fun t ht => by
      rw [← hval t ht, val_runs, hg, List.map_cons, List.map_nil, List.sum_cons, if_pos hp1]
      show _ = sumTo p.2 t + 0
      omega
    have hX : X = putL (numW 1) p.2 := by
      rw [← hfl, List.flatMap_cons, List.flatMap_nil, List.append_nil, hp1]
    rw [hX]
    cases hf : p.2 with
    | nil =>
      have := hs 2 (by decide)
      rw [hf, sumTo_nil] at this
      exact absurd this (by decide)
    | cons x f1 =>
      rw [hf] at hpw hall hs
      rw [List.pairwise_cons] at hpw
      obtain ⟨_, hx2, hx3, _⟩ := hall x (List.mem_cons_self ..)
      have e1 := hs x.a hx2
      rw [sumTo_cons, if_pos (Int.le_refl _), sumTo_low hpw.1] at e1
      have hxr : 2 ≤ x.a ∧ x.a < 9 := by
        by_cases q : 2 ≤ x.a ∧ x.a < 9
        · exact q
        · rw [if_neg q] at e1; omega
      rw [if_pos hxr] at e1
      have hxa : x.a = 2 := by
        by_cases q : 2 < x.a
        · have e2 := hs 2 (by decide)
          rw [sumTo_low (fun y hy => by
            rcases List.mem_cons.1 hy with rfl | hy
            · exact q
            · have := hpw.1 y hy; omega), if_pos (by decide)] at e2
          exact absurd e2 (by decide)
        · omega
      cases f1 with
      | nil =>
        have e2 := hs 9 (by decide)
        rw [sumTo_cons, sumTo_nil, if_pos (by omega), if_neg (by decide)] at e2
        omega
      | cons y f2 =>
        have hpw2 := List.pairwise_cons.1 hpw.2
        obtain ⟨_, hy2, hy3, _⟩ := hall y (by simp)
        have hxy := hpw.1 y (List.mem_cons_self ..)
        have e2 := hs y.a hy2
        rw [sumTo_cons, sumTo_cons, if_pos (by omega), if_pos (Int.le_refl _), sumTo_low hpw2.1] at e2
        have hyr : ¬ (2 ≤ y.a ∧ y.a < 9) := fun q => by rw [if_pos q] at e2; omega
        rw [if_neg hyr] at e2
        have hya : y.a = 9 := by
          by_cases q : 9 < y.a
          · have e3 := hs 9 (by decide)
            rw [sumTo_cons, if_pos (by omega), sumTo_low (fun z hz => by
              rcases List.mem_cons.1 hz with rfl | hz
              · exact q
              · have := hpw2.1 z hz; omega), if_neg (by decide)] at e3
            omega
          · omega
        cases f2 with
        | nil =>
          obtain ⟨xa, xn⟩ := x
          obtain ⟨ya, yn⟩ := y
          simp only at *
          have hxn : xn = 1 := by omega
          have hyn : yn = -1 := by omega
          subst hxa hya hxn hyn
          rfl
        | cons z f3 =>
          obtain ⟨_, hz2, hz3, _⟩ := hall z (by simp)
          have hyz := hpw2.1 z (List.mem_cons_self ..)
          have hpw3 := List.pairwise_cons.1 hpw2.2
          have e3 := hs z.a hz2
          rw [sumTo_cons, sumTo_cons, sumTo_cons, if_pos (by omega), if_pos (by omega), if_pos (Int.le_refl _), sumTo_low hpw3.1, if_neg (by omega)] at e3
          omega

/-! What is told. -/
def toldL (g : List Wd → Int) : Option (List Wd) → List Ed → Int
  | _, [] => 0
  | prev, x :: X => (if prev = some x.r then 0 else g x.r) + toldL g (some x.r) X
theorem told_same (g : List Wd → Int) (r : List Wd) : ∀ X : List Ed, toldL g (some r) X = toldL g (some r) (X.dropWhile (fun y => y.r == r))
  | [] => rfl
  | x :: X => by
    by_cases h : x.r = r
    · have e : (fun y : Ed => y.r == r) x = true := by simpa using h
      rw [List.dropWhile_cons_of_pos (p := fun y : Ed => y.r == r) e, ← told_same g r X, toldL, h, if_pos rfl]
      omega
    · have e : ¬ (fun y : Ed => y.r == r) x = true := by simpa using h
      rw [List.dropWhile_cons_of_neg (p := fun y : Ed => y.r == r) e]
theorem told_runsF (g : List Wd → Int) : ∀ (n : Nat) (X : List Ed) (prev : Option (List Wd)), X.length ≤ n → (∀ x l, X = x :: l → prev ≠ some x.r) → toldL g prev X = ((runsF n X).map (fun p => g p.1)).sum
  | 0, X, prev, h, _ => by
    have : X = [] := List.eq_nil_of_length_eq_zero (by omega)
    subst this
    rfl
  | n + 1, [], prev, _, _ => rfl
  | n + 1, x :: l, prev, h, hp => by
    have hd := dw_len (fun y : Ed => y.r == x.r) x l (by simp)
    simp only [List.length_cons] at h
    have ex : (fun y : Ed => y.r == x.r) x = true := by simp
    rw [runsF, List.map_cons, List.sum_cons, toldL, if_neg (hp x l rfl), told_same, List.dropWhile_cons_of_pos (p := fun y : Ed => y.r == x.r) ex]
    have hd2 := hd
    rw [List.dropWhile_cons_of_pos (p := fun y : Ed => y.r == x.r) ex] at hd2
    rw [told_runsF g n _ (some x.r) (by omega) (fun z m e q => by
      have := dw_head _ l z m e
      injection q with q
      rw [q] at this
      simp at this)]
theorem told_runs (g : List Wd → Int) (X : List Ed) : toldL g none X = ((runsL X).map (fun p => g p.1)).sum := told_runsF g X.length X none (Nat.le_refl _) (fun _ _ _ q => by cases q)
theorem sum_ind {gs : List (List Wd × List Jp)} {r : List Wd} (hd : gs.Pairwise (fun p q => numR p.1 < numR q.1)) : ((∃ p ∈ gs, p.1 = r) → (gs.map (fun p => if p.1 = r then (1 : Int) else 0)).sum = 1) := by
  rintro ⟨p, hp, e⟩
  induction gs with
  | nil => cases hp
  | cons q gs ih =>
    rw [List.pairwise_cons] at hd
    rw [List.map_cons, List.sum_cons]
    rcases List.mem_cons.1 hp with rfl | hp
    · have h0 : ∀ hs : List (List Wd × List Jp), (∀ s ∈ hs, s.1 ≠ r) → (hs.map (fun p => if p.1 = r then (1 : Int) else 0)).sum = 0 := by
        intro hs
        induction hs with
        | nil => intro _; rfl
        | cons s hs ih2 => intro hh; rw [List.map_cons, List.sum_cons, if_neg (hh s (List.mem_cons_self ..)), ih2 (fun z hz => hh z (List.mem_cons_of_mem _ hz))]; rfl
      rw [if_pos e, h0 gs (fun s hs q => by have := hd.1 s hs; rw [q, e] at this; omega)]
      rfl
    · rw [if_neg (fun q2 => by have := hd.1 p hp; rw [q2, e] at this; omega), ih hd.2 hp]
      rfl
theorem told_law {L X : List Ed} (h : RowsOk L X) (t : Int) (h0 : 0 ≤ t) (ht : t < 1125899906842624) : toldL (fun r => valE X r t) none X = if 0 < cntE L t then 1 else 0 := by
  rw [told_runs]
  have hdis := runs_dis h.may h.one
  by_cases hc : 0 < cntE L t
  · rw [if_pos hc]
    have e : (runsL X).map (fun p => valE X p.1 t) = (runsL X).map (fun p => if p.1 = numW (cntE L t) then (1 : Int) else 0) := by
      refine List.map_congr_left (fun p _ => ?_)
      rw [h.val _ _ ht]
      by_cases he : p.1 = numW (cntE L t)
      · rw [if_pos ⟨h0, hc, he⟩, if_pos he]
      · rw [if_neg (fun q => he q.2.2), if_neg he]
    rw [e]
    refine sum_ind hdis ?_
    have hv := h.val (numW (cntE L t)) t ht
    rw [if_pos ⟨h0, hc, rfl⟩, val_runs] at hv
    by_cases hex : ∃ p ∈ runsL X, p.1 = numW (cntE L t)
    · exact hex
    · exfalso
      rw [sum_none (fun p hp q => hex ⟨p, hp, q⟩)] at hv
      exact absurd hv (by decide)
  · rw [if_neg hc]
    have e : (runsL X).map (fun p => valE X p.1 t) = (runsL X).map (fun _ => (0 : Int)) := by
      refine List.map_congr_left (fun p _ => ?_)
      rw [h.val _ _ ht, if_neg (fun q => hc q.2.1)]
    rw [e]
    generalize runsL X = gs
    induction gs with
    | nil => rfl
    | cons p gs ih => rw [List.map_cons, List.sum_cons, ih]; rfl
theorem told_snoc (g : List Wd → Int) : ∀ (X : List Ed) (i : Nat) (x : Ed) (prev : Option (List Wd)), X[i]? = some x → toldL g prev (X.take (i + 1)) = toldL g prev (X.take i) + (if (if i = 0 then prev else (X[i - 1]?).map Ed.r) = some x.r then 0 else g x.r)
  | [], i, x, prev, h => by cases h
  | y :: X, 0, x, prev, h => by
    injection h with h
    subst h
    show toldL g prev [y] = toldL g prev [] + _
    rw [toldL, toldL, toldL, if_pos rfl]
    omega
  | y :: X, i + 1, x, prev, h => by
    have h' : X[i]? = some x := h
    have ih := told_snoc g X i x (some y.r) h'
    show toldL g prev (y :: X.take (i + 1)) = toldL g prev (y :: X.take i) + _
    rw [toldL, toldL, ih]
    have e : (if i = 0 then some y.r else (X[i - 1]?).map Ed.r) = (if i + 1 = 0 then prev else ((y :: X)[i + 1 - 1]?).map Ed.r) := by
      rw [if_neg (Nat.succ_ne_zero i)]
      cases i with
      | zero => rfl
      | succ i => rw [if_neg (Nat.succ_ne_zero i)]; rfl
    rw [e]
    omega
end Go.Proofs.YthkeigljiinlbaaGreat
