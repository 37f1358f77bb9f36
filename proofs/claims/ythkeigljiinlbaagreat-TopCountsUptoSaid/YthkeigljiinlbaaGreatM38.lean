/- Tally.Put. -/
import Derived.Test.YthkeigljiinlbaaGreatM37
namespace Go.Proofs.YthkeigljiinlbaaGreat
open Go.RowKit Go.MapKept

set_option maxRecDepth 100000 in
theorem cput_any (cb : Nat) (v : Value) (c n : Int) (w : World) (hv : ∃ a b s, v = .agg #[.int .i64 a, .int .i64 b, .string s]) (hc : w.heap[cb]? = some (.cells #[.int .i64 c] 245 (0, 0))) (h1 : 0 ≤ c ∧ c ≤ 1048576) (h2 : 0 ≤ n ∧ n ≤ 1048576) :
    Calls Tryz.prog 204 #[.pointer (some ⟨cb, 0, none⟩), v, .int .i64 n] w fun e w' => (∃ u, e = .returned u) ∧ w'.heap[cb]? = some (.cells #[.int .i64 (c + n)] 245 (0, 0)) ∧ Kept (fun j => j = cb) w w' := by
  obtain ⟨a, b, s, rfl⟩ := hv
  have k0 := (Kept.refl (fun _ => False) w).alloc (.cells #[.int .i64 a, .int .i64 b, .string s] 48)
  have g0 := k0.heap hc (fun q => q)
  have c0 := cell_of_row _ _ 0 _ _ _ g0
  simp only [List.getElem?_toArray, List.getElem?_cons_zero] at c0
  have f0 := frozen_of g0 0
  go_enter Tryz.func204, Tryz.ntmps204
  go_wp2_with fail
  go_end0
  have ks := (Kept.refl (fun j => j = cb) (w.alloc (.cells #[.int .i64 a, .int .i64 b, .string s] 48))).setCell (p := ⟨cb, 0, none⟩) (fun _ => rfl) (.int .i64 (c + n))
  exact ⟨⟨_, rfl⟩, blk_set g0 0 (.int .i64 (c + n)), k0.trans' ks (fun _ _ q => q.elim) (fun _ _ q => q)⟩

/-- The blocks that a Put may change. -/
def TalB (tb cb mb : Nat) : Nat → Prop := fun j => j = tb ∨ j = cb ∨ j = mb

set_option maxHeartbeats 4000000 in
set_option maxRecDepth 100000 in
theorem tput_any (w0 w : World) (tb mb cb ck : Nat) (c n x : Int) (As Aa Ap Ar : Option Addr) (cs ca cp cr : Nat) (es : Array MapEntry) (hT : Tal w0 w tb c As Aa Ap cs ca cp mb cb es ck) (hn : 1 ≤ n ∧ n ≤ 1048576) (hx : I64 x) (hr : Src encW 3 w (TalB tb cb mb) Ar [⟨1, x, []⟩]) :
    Calls Tryz.prog 88 #[.pointer (some ⟨tb, 0, none⟩), .slice Ar 1 cr, .int .i64 n] w fun e w' => ∃ (k : Int) (es' : Array MapEntry) (ck' : Nat), e = .returned (.int .i64 k) ∧ Kept (fun j => TalB tb cb mb j) w w' ∧
      ((k = 0 ∧ c + n ≤ 1048576 ∧ Tal w0 w' tb (c + n) As Aa Ap cs ca cp mb cb es' ck') ∨ (k ≠ 0 ∧ 1048576 < c + n)) := by
  have hr0 : Src encW 3 w (fun _ => False) Ar [⟨1, x, []⟩] := hr.kept (Kept.refl (fun _ => False) w) (fun _ q => q.elim) (fun _ q => q.elim)
  obtain ⟨As', cs', eS, _, hsS⟩ := hT.sch.asSrc encC_len
  injection eS with e1 e3 e2
  subst e1 e2
  clear e3
  obtain ⟨Aa', ca', eA, _, hsA⟩ := hT.agg.asSrc encA_len
  injection eA with e1 e3 e2
  subst e1 e2
  clear e3
  have hft := fun wx h1 h2 => fits_any [⟨1, x, []⟩] As Ar cs cr wx h1 h2 (by simp)
  rw [One.fit ⟨x, rfl⟩, show ([(⟨1, x, []⟩ : Wd)]).length = 1 from rfl] at hft
  have hky := fun wx h1 => key1_any x Ar cr wx hx h1
  have hzi : ∀ W, (zeroValue 3).run Tryz.prog W = .ok (.int .i64 0) W := fun W => by kernel_rfl
  have hmt : (Tryz.prog).underlying 208 = some (.map 9 3) := Tryz.underlying208
  have hms : (Tryz.prog).underlying 9 = some .string := Tryz.underlying9
  have b1 : decide ((1048576 : Int) < n) = false := by simp; omega
  have b2 : decide (n < (-1048576 : Int)) = false := by simp; omega
  have g0 := hT.at_
  have c0 := cell_of_row _ _ 0 _ _ _ g0
  simp only [List.getElem?_toArray, List.getElem?_cons_zero] at c0
  have HT := Lib.hid hT
  have HSS := Lib.hid hsS
  have HSA := Lib.hid hsA
  have HR := Lib.hid hr
  have HR0 := Lib.hid hr0
  clear hT hsS hsA hr hr0 g0
  go_enter Tryz.func88, Tryz.ntmps88
  go_wp2_with fail
  refine (hft _ HSS.out HR0.out).mono ?_
  rintro e w1 ⟨rfl, k1⟩
  go_wp2_with fail
  refine (hky _ (HR0.out.same k1)).mono ?_
  rintro e w2 ⟨s, rfl, k2⟩
  have k12 := k1.trans k2
  have g2 := k12.heap HT.out.at_ (fun q => q)
  have d3 := cell_of_row _ _ 3 _ _ _ g2
  have d4 := cell_of_row _ _ 4 _ _ _ g2
  simp only [List.getElem?_toArray, List.getElem?_cons_zero, List.getElem?_cons_succ] at d3 d4
  have hM := HT.out.map.kept k12 (fun q => q)
  obtain ⟨n0, hn0, hlk⟩ : ∃ n0 : Int, (0 ≤ n0 ∧ n0 ≤ c) ∧ (Instr.lookup 208 (.map (some mb)) (.string s) false).run Tryz.prog w2 = .ok (.int .i64 n0) w2 := by
    rcases hM.look (P := Tryz.prog) hmt hms (k := .string s) trivial (hzi w2) with ⟨_, h⟩ | ⟨y, hy, _, h⟩
    · exact ⟨0, ⟨Int.le_refl _, HT.out.rng.1⟩, h⟩
    · obtain ⟨n0, e, h1, h2⟩ := HT.out.vals y hy
      rw [e] at h
      exact ⟨n0, ⟨h1, h2⟩, h⟩
  have hrg := HT.out.rng
  have b3 : decide (n0 + n < (0 : Int)) = false := by simp; omega
  have b4 : ((n0 + n) == (0 : Int)) = false := beq_eq_false_iff_ne.2 (by omega)
  by_cases hfull : (1048576 : Int) < c + n
  · have b5 : decide ((1048576 : Int) < c + n) = true := by simpa using hfull
    have K12 := Lib.hid k12
    clear hM g2 k1 k2 k12
    go_wp2_with fail
    go_ret
    exact ⟨_, es, ck, rfl, K12.out.mono (fun _ _ q => q.elim), .inr ⟨by decide, hfull⟩⟩
  · have b5 : decide ((1048576 : Int) < c + n) = false := by simpa using hfull
    obtain ⟨es', ck', W, hup, hMW, hkW, hcs⟩ := hM.upd (P := Tryz.prog) hmt hms (k := .string s) trivial (.int .i64 (n0 + n))
    have hTm : tb ≠ mb := fun q => by have h1 := HT.out.at_; have h2 := HT.out.map.at_; rw [q, h2] at h1; cases h1
    have hCm : cb ≠ mb := fun q => by have h1 := HT.out.cnt; have h2 := HT.out.map.at_; rw [q, h2] at h1; cases h1
    have hTc : tb ≠ cb := fun q => by have h1 := HT.out.at_; have h2 := HT.out.cnt; rw [q, h2] at h1; injection h1 with h1; injection h1 with _ h1 _; exact absurd h1 (by decide)
    have gW := hkW.heap g2 hTm
    have w4 := cell_of_row _ _ 4 _ _ _ gW
    simp only [List.getElem?_toArray, List.getElem?_cons_zero, List.getElem?_cons_succ] at w4
    have f4 := frozen_of gW 4
    have kS := (Kept.refl (fun j => j = tb) W).setCell (p := ⟨tb, 4, none⟩) (fun _ => rfl) (.int .i64 (c + n))
    have gV : (W.setCell ⟨tb, 4, none⟩ (.int .i64 (c + n))).heap[tb]? = some (.cells #[.slice As 1 cs, .slice Aa 1 ca, .slice Ap 1 cp, .map (some mb), .int .i64 (c + n)] 211 (0, 0)) := blk_set gW 4 (.int .i64 (c + n))
    have kV : Kept (fun j => TalB tb cb mb j) w (W.setCell ⟨tb, 4, none⟩ (.int .i64 (c + n))) := (k12.trans' hkW (U := fun j => TalB tb cb mb j) (fun _ _ q => q.elim) (fun _ _ q => .inr (.inr q))).trans' kS (fun _ _ q => q) (fun _ _ q => .inl q)
    have nS : ∀ j, (Value.slice As 1 cs).ownBlock = some j → ¬ TalB tb cb mb j := fun j hj q => by
      rcases q with q | q | q
      · exact HT.out.sch.other HT.out.at_ (by decide) (by rw [hj, q])
      · exact HT.out.sch.other HT.out.cnt (by decide) (by rw [hj, q])
      · exact HT.out.sch.otherMap HT.out.map.at_ (by rw [hj, q])
    have nA : ∀ j, (Value.slice Aa 1 ca).ownBlock = some j → ¬ TalB tb cb mb j := fun j hj q => by
      rcases q with q | q | q
      · exact HT.out.agg.other HT.out.at_ (by decide) (by rw [hj, q])
      · exact HT.out.agg.other HT.out.cnt (by decide) (by rw [hj, q])
      · exact HT.out.agg.otherMap HT.out.map.at_ (by rw [hj, q])
    have nP : ∀ j, (Value.slice Ap 1 cp).ownBlock = some j → ¬ TalB tb cb mb j := fun j hj q => by
      rcases q with q | q | q
      · exact HT.out.part.other HT.out.at_ (by decide) (by rw [hj, q])
      · exact HT.out.part.other HT.out.cnt (by decide) (by rw [hj, q])
      · exact HT.out.part.otherMap HT.out.map.at_ (by rw [hj, q])
    obtain ⟨Aa', ca', eA, _, _, hsA2⟩ := HT.out.agg.src encA_len (TalB tb cb mb) nA
    injection eA with e1 e3 e2
    subst e1 e2
    clear e3
    obtain ⟨ba, oa, rfl, hba, xa0, xa1, xa2⟩ := hsA2.cellsA
    obtain ⟨Ap', cp', eP, _, _, hsP2⟩ := HT.out.part.src encI1_len (TalB tb cb mb) nP
    injection eP with e1 e3 e2
    subst e1 e2
    clear e3
    obtain ⟨bp, op, rfl, hbp, hcp⟩ := hsP2 0 _ rfl
    have xp := hcp 0 _ rfl
    unfold partV at xp
    simp only [Nat.zero_mul, Nat.add_zero] at xp
    obtain ⟨br, or_, rfl, hbr, xr0, xr1, xr2⟩ := HR.out.cells3 (i := 0) (o := ⟨1, x, []⟩) rfl
    simp only [Nat.zero_mul, Nat.add_zero] at xr0 xr1 xr2
    have hTV : ∀ X, Kept (fun j => j = cb) (W.setCell ⟨tb, 4, none⟩ (.int .i64 (c + n))) X → X.heap[cb]? = some (.cells #[.int .i64 (c + n)] 245 (0, 0)) → Tal w0 X tb (c + n) As (some ⟨ba, oa, none⟩) (some ⟨bp, op, none⟩) cs ca cp mb cb es' ck' ∧ Kept (fun j => TalB tb cb mb j) w X := fun X kX hX => by
      have kwX : Kept (fun j => TalB tb cb mb j) w X := kV.trans' kX (fun _ _ q => q) (fun _ _ q => .inr (.inl q))
      refine ⟨⟨kX.heap gV hTc, HT.out.sch.kept kwX nS, HT.out.agg.kept kwX nA, HT.out.part.kept kwX nP, hX, (hMW.kept kS (fun q => hTm q.symm)).kept kX (fun q => hCm q.symm), fun y hy => ?_, HT.out.big, ⟨by omega, by omega⟩, HT.out.kept.trans' kwX (fun _ _ q => q) (fun j hj q => ?_)⟩, kwX⟩
      · rcases hcs with ⟨_, rfl, _⟩ | ⟨y0, hy0, _, _, _, hall, _⟩
        · simp only [Array.toList_push, List.mem_append, List.mem_singleton] at hy
          rcases hy with hy | rfl
          · obtain ⟨m, e, h1, h2⟩ := HT.out.vals y hy
            exact ⟨m, e, h1, by omega⟩
          · exact ⟨n0 + n, rfl, by omega, by omega⟩
        · rcases hall y hy with ⟨_, e⟩ | hy2
          · exact ⟨n0 + n, e, by omega, by omega⟩
          · obtain ⟨m, e, h1, h2⟩ := HT.out.vals y hy2
            exact ⟨m, e, h1, by omega⟩
      · have := HT.out.big
        rcases q with q | q | q <;> omega
    have gC : (W.setCell ⟨tb, 4, none⟩ (.int .i64 (c + n))).heap[cb]? = some (.cells #[.int .i64 c] 245 (0, 0)) := kS.heap (hkW.heap (k12.heap HT.out.cnt (fun q => q)) hCm) (fun q => hTc q.symm)
    have va0 := kV.cell xa0 hba
    have va1 := kV.cell xa1 hba
    have va2 := kV.cell xa2 hba
    have vp := kV.cell xp hbp
    have vr0 := kV.cell xr0 hbr
    have vr1 := kV.cell xr1 hbr
    have vr2 := kV.cell xr2 hbr
    have v1 := cell_of_row _ _ 1 _ _ _ gV
    have v2 := cell_of_row _ _ 2 _ _ _ gV
    simp only [List.getElem?_toArray, List.getElem?_cons_zero, List.getElem?_cons_succ] at v1 v2
    have HTV := Lib.hid hTV
    have HGC := Lib.hid gC
    clear hTV gC gV kV kS hkW hMW hcs gW hM g2 k1 k2 k12 hcp hsA2 hsP2 xa0 xa1 xa2 xp xr0 xr1 xr2 hba hbp hbr nS nA nP c0
    have HV1 := Lib.hid (show _ ∧ _ ∧ _ ∧ _ ∧ _ ∧ _ ∧ _ ∧ _ ∧ _ from ⟨va0, va1, va2, vp, vr0, vr1, vr2, v1, v2⟩)
    clear va0 va1 va2 vp vr0 vr1 vr2 v1 v2
    go_upto_region 17 with fail
    generalize W.setCell ⟨tb, 4, none⟩ (.int .i64 (c + n)) = V at *
    obtain ⟨va0, va1, va2, vp, vr0, vr1, vr2, v1, v2⟩ := HV1.out
    go_wp2_with fail
    go_loopg [77] 1 (fun k iv wr => (k = 1 ∧ iv = .int .i64 0 ∧ V = wr) ∨ (k = 0 ∧ iv = .int .i64 1 ∧ Hid (Tal w0 wr tb (c + n) As (some ⟨ba, oa, none⟩) (some ⟨bp, op, none⟩) cs ca cp mb cb es' ck' ∧ Kept (fun j => TalB tb cb mb j) w wr)))
    case atStart => exact .inl ⟨rfl, rfl, rfl⟩
    case round =>
      rcases hrel with ⟨rfl, rfl, rfl⟩ | ⟨rfl, rfl, HF⟩
      · have hmf : ∀ (fn : Fn) (first cap : Array Value) (w : World), (Instr.makeFunc fn first cap).run Tryz.prog w = .ok (.func fn first cap) w := fun _ _ _ _ => rfl
        have hmth : ∀ (W : World), (method 213 243 (.pointer (some ⟨cb, 0, none⟩)) "rescind/tally.put").run Tryz.prog W = .ok (204, .pointer (some ⟨cb, 0, none⟩)) W := fun _ => by kernel_rfl
        have hna : ∀ (W : World), (nilAhead 442 243 (.pointer (some ⟨cb, 0, none⟩)) "rescind/tally.put").run Tryz.prog W = .ok (some false) W := fun _ => by kernel_rfl
        have kd := (Kept.refl (fun _ => False) V).drew
        have z1 := kd.cell v1 (fun q => q)
        have za0 := kd.cell va0 (fun q => q)
        have za1 := kd.cell va1 (fun q => q)
        have za2 := kd.cell va2 (fun q => q)
        have zr0 := kd.cell vr0 (fun q => q)
        have zr1 := kd.cell vr1 (fun q => q)
        have zr2 := kd.cell vr2 (fun q => q)
        have hput := cput_any cb (.agg #[.int .i64 1, .int .i64 x, .string ⟨⟨[]⟩⟩]) c n V.drew ⟨1, x, _, rfl⟩ (kd.heap HGC.out (fun q => q)) hrg ⟨by omega, by omega⟩
        clear kd
        go_wp2_with fail
        refine region_drawn rfl ?_
        refine wpAny_take (i := 0) (v := ?_) rfl (by kernel_rfl) (by kernel_rfl) (by kernel_rfl) (fun _ _ _ h => h) (Or.inl ⟨by rfl, ?_⟩) ?_
        rotate_left
        · (intro w; go_simp)
          try with_reducible rfl
        refine wpAny_take (i := 1) (v := ?_) rfl (by kernel_rfl) (by kernel_rfl) (by kernel_rfl) (fun _ _ _ h => h) (Or.inl ⟨by rfl, ?_⟩) ?_
        rotate_left
        · (intro w; go_simp)
          try with_reducible rfl
        refine wpAny_take (i := 2) (v := ?_) rfl (by kernel_rfl) (by kernel_rfl) (by kernel_rfl) (fun _ _ _ h => h) (Or.inl ⟨by rfl, ?_⟩) ?_
        rotate_left
        · (intro w; go_simp)
          try with_reducible rfl
        refine wpAny_take (i := 3) (v := ?_) rfl (by kernel_rfl) (by kernel_rfl) (by kernel_rfl) (fun _ _ _ h => h) (Or.inl ⟨by rfl, ?_⟩) ?_
        rotate_left
        · (intro w; go_simp)
          try with_reducible rfl
        refine wpAny_take (i := 4) (v := ?_) rfl (by kernel_rfl) (by kernel_rfl) (by kernel_rfl) (fun _ _ _ h => h) (Or.inl ⟨by rfl, ?_⟩) ?_
        rotate_left
        · (intro w; go_simp)
          try with_reducible rfl
        refine wpAny_take (i := 6) (v := ?_) rfl (by kernel_rfl) (by kernel_rfl) (by kernel_rfl) (fun _ _ _ h => h) (Or.inl ⟨by rfl, ?_⟩) ?_
        rotate_left
        · (intro w; go_simp)
          try with_reducible rfl
        refine wpAny_take (i := 12) (v := ?_) rfl (by kernel_rfl) (by kernel_rfl) (by kernel_rfl) (fun _ _ _ h => h) (Or.inl ⟨by rfl, ?_⟩) ?_
        rotate_left
        · (intro w; go_simp)
          try with_reducible rfl
        refine wpAny_ready (rs := [5, 13]) (by kernel_rfl) (by simp) ?_
        refine AllReady.cons rfl (fun K hK => ?_) ?_
        · skip
          go_simp
          refine hK _ _ ?_
          clear hK K
          refine wpAny_take (i := 7) (v := ?_) rfl (by kernel_rfl) (by kernel_rfl) (by kernel_rfl) (fun _ _ _ h => h) (Or.inl ⟨by rfl, ?_⟩) ?_
          rotate_left
          · (intro w; go_simp)
            try with_reducible rfl
          refine wpAny_take (i := 8) (v := ?_) rfl (by kernel_rfl) (by kernel_rfl) (by kernel_rfl) (fun _ _ _ h => h) (Or.inl ⟨by rfl, ?_⟩) ?_
          rotate_left
          · (intro w; go_simp)
            try with_reducible rfl
          refine wpAny_ready (rs := [9, 13]) (by kernel_rfl) (by simp) ?_
          refine AllReady.cons rfl (fun K hK => ?_) ?_
          · skip
            go_simp
            refine hK _ _ ?_
            clear hK K
            refine wpAny_take (i := 10) (v := ?_) rfl (by kernel_rfl) (by kernel_rfl) (by kernel_rfl) (fun _ _ _ h => h) (Or.inl ⟨by rfl, ?_⟩) ?_
            rotate_left
            · (intro w; go_simp)
              try with_reducible rfl
            refine wpAny_ready (rs := [11, 13]) (by kernel_rfl) (by simp) ?_
            refine AllReady.cons rfl (fun K hK => ?_) ?_
            · skip
              go_simp
              refine hK _ _ ?_
              clear hK K
              refine wpAny_ready (rs := [13]) (by kernel_rfl) (by simp) ?_
              refine AllReady.cons rfl (fun K hK => ?_) AllReady.nil
              go_simp
              refine hK _ _ ?_
              clear hK K
              refine wpAny_take (i := 14) (v := ?_) rfl (by kernel_rfl) (by kernel_rfl) (by kernel_rfl) (fun _ _ _ h => h) (Or.inl ⟨by rfl, ?_⟩) ?_
              rotate_left
              · (intro w; go_simp)
                try with_reducible rfl
              refine wpAny_take (i := 15) (v := ?_) rfl (by kernel_rfl) (by kernel_rfl) (by kernel_rfl) (fun _ _ _ h => h) (Or.inl ⟨by rfl, ?_⟩) ?_
              rotate_left
              · (intro w; go_simp)
                try with_reducible rfl
              refine wpAny_ready (rs := [16]) (by kernel_rfl) (by simp) ?_
              refine AllReady.cons rfl (fun K hK => ?_) AllReady.nil
              go_simp
              refine Calls.mono hput ?_
              rintro e W9 ⟨⟨u9, rfl⟩, h9, k9⟩
              refine hK _ _ ?_
              clear hK K
              refine wpAny_done (by kernel_rfl) ?_ _
              have HF := Lib.hid (HTV.out W9 (((Kept.refl (fun _ => False) V).drew).trans' k9 (fun _ _ q => q.elim) (fun _ _ q => q)) h9)
              clear h9 k9
              go_wp2_with fail
              go_roundg 0
              case measure => decide
              case rel => exact .inr ⟨rfl, rfl, HF⟩
            · skip
              refine AllReady.cons rfl (fun K hK => ?_) AllReady.nil
              go_simp
              refine hK _ _ ?_
              clear hK K
              refine wpAny_take (i := 14) (v := ?_) rfl (by kernel_rfl) (by kernel_rfl) (by kernel_rfl) (fun _ _ _ h => h) (Or.inl ⟨by rfl, ?_⟩) ?_
              rotate_left
              · (intro w; go_simp)
                try with_reducible rfl
              refine wpAny_take (i := 15) (v := ?_) rfl (by kernel_rfl) (by kernel_rfl) (by kernel_rfl) (fun _ _ _ h => h) (Or.inl ⟨by rfl, ?_⟩) ?_
              rotate_left
              · (intro w; go_simp)
                try with_reducible rfl
              refine wpAny_ready (rs := [11]) (by kernel_rfl) (by simp) ?_
              refine AllReady.cons rfl (fun K hK => ?_) AllReady.nil
              go_simp
              refine hK _ _ ?_
              clear hK K
              refine wpAny_ready (rs := [16]) (by kernel_rfl) (by simp) ?_
              refine AllReady.cons rfl (fun K hK => ?_) AllReady.nil
              go_simp
              refine Calls.mono hput ?_
              rintro e W9 ⟨⟨u9, rfl⟩, h9, k9⟩
              refine hK _ _ ?_
              clear hK K
              refine wpAny_done (by kernel_rfl) ?_ _
              have HF := Lib.hid (HTV.out W9 (((Kept.refl (fun _ => False) V).drew).trans' k9 (fun _ _ q => q.elim) (fun _ _ q => q)) h9)
              clear h9 k9
              go_wp2_with fail
              go_roundg 0
              case measure => decide
              case rel => exact .inr ⟨rfl, rfl, HF⟩
          · skip
            refine AllReady.cons rfl (fun K hK => ?_) AllReady.nil
            go_simp
            refine hK _ _ ?_
            clear hK K
            refine wpAny_take (i := 14) (v := ?_) rfl (by kernel_rfl) (by kernel_rfl) (by kernel_rfl) (fun _ _ _ h => h) (Or.inl ⟨by rfl, ?_⟩) ?_
            rotate_left
            · (intro w; go_simp)
              try with_reducible rfl
            refine wpAny_take (i := 15) (v := ?_) rfl (by kernel_rfl) (by kernel_rfl) (by kernel_rfl) (fun _ _ _ h => h) (Or.inl ⟨by rfl, ?_⟩) ?_
            rotate_left
            · (intro w; go_simp)
              try with_reducible rfl
            refine wpAny_ready (rs := [9]) (by kernel_rfl) (by simp) ?_
            refine AllReady.cons rfl (fun K hK => ?_) AllReady.nil
            go_simp
            refine hK _ _ ?_
            clear hK K
            refine wpAny_take (i := 10) (v := ?_) rfl (by kernel_rfl) (by kernel_rfl) (by kernel_rfl) (fun _ _ _ h => h) (Or.inl ⟨by rfl, ?_⟩) ?_
            rotate_left
            · (intro w; go_simp)
              try with_reducible rfl
            refine wpAny_ready (rs := [11]) (by kernel_rfl) (by simp) ?_
            refine AllReady.cons rfl (fun K hK => ?_) AllReady.nil
            go_simp
            refine hK _ _ ?_
            clear hK K
            refine wpAny_ready (rs := [16]) (by kernel_rfl) (by simp) ?_
            refine AllReady.cons rfl (fun K hK => ?_) AllReady.nil
            go_simp
            refine Calls.mono hput ?_
            rintro e W9 ⟨⟨u9, rfl⟩, h9, k9⟩
            refine hK _ _ ?_
            clear hK K
            refine wpAny_done (by kernel_rfl) ?_ _
            have HF := Lib.hid (HTV.out W9 (((Kept.refl (fun _ => False) V).drew).trans' k9 (fun _ _ q => q.elim) (fun _ _ q => q)) h9)
            clear h9 k9
            go_wp2_with fail
            go_roundg 0
            case measure => decide
            case rel => exact .inr ⟨rfl, rfl, HF⟩
        · skip
          refine AllReady.cons rfl (fun K hK => ?_) AllReady.nil
          go_simp
          refine hK _ _ ?_
          clear hK K
          refine wpAny_take (i := 14) (v := ?_) rfl (by kernel_rfl) (by kernel_rfl) (by kernel_rfl) (fun _ _ _ h => h) (Or.inl ⟨by rfl, ?_⟩) ?_
          rotate_left
          · (intro w; go_simp)
            try with_reducible rfl
          refine wpAny_take (i := 15) (v := ?_) rfl (by kernel_rfl) (by kernel_rfl) (by kernel_rfl) (fun _ _ _ h => h) (Or.inl ⟨by rfl, ?_⟩) ?_
          rotate_left
          · (intro w; go_simp)
            try with_reducible rfl
          refine wpAny_ready (rs := [5]) (by kernel_rfl) (by simp) ?_
          refine AllReady.cons rfl (fun K hK => ?_) AllReady.nil
          go_simp
          refine hK _ _ ?_
          clear hK K
          refine wpAny_take (i := 7) (v := ?_) rfl (by kernel_rfl) (by kernel_rfl) (by kernel_rfl) (fun _ _ _ h => h) (Or.inl ⟨by rfl, ?_⟩) ?_
          rotate_left
          · (intro w; go_simp)
            try with_reducible rfl
          refine wpAny_take (i := 8) (v := ?_) rfl (by kernel_rfl) (by kernel_rfl) (by kernel_rfl) (fun _ _ _ h => h) (Or.inl ⟨by rfl, ?_⟩) ?_
          rotate_left
          · (intro w; go_simp)
            try with_reducible rfl
          refine wpAny_ready (rs := [9]) (by kernel_rfl) (by simp) ?_
          refine AllReady.cons rfl (fun K hK => ?_) AllReady.nil
          go_simp
          refine hK _ _ ?_
          clear hK K
          refine wpAny_take (i := 10) (v := ?_) rfl (by kernel_rfl) (by kernel_rfl) (by kernel_rfl) (fun _ _ _ h => h) (Or.inl ⟨by rfl, ?_⟩) ?_
          rotate_left
          · (intro w; go_simp)
            try with_reducible rfl
          refine wpAny_ready (rs := [11]) (by kernel_rfl) (by simp) ?_
          refine AllReady.cons rfl (fun K hK => ?_) AllReady.nil
          go_simp
          refine hK _ _ ?_
          clear hK K
          refine wpAny_ready (rs := [16]) (by kernel_rfl) (by simp) ?_
          refine AllReady.cons rfl (fun K hK => ?_) AllReady.nil
          go_simp
          refine Calls.mono hput ?_
          rintro e W9 ⟨⟨u9, rfl⟩, h9, k9⟩
          refine hK _ _ ?_
          clear hK K
          refine wpAny_done (by kernel_rfl) ?_ _
          have HF := Lib.hid (HTV.out W9 (((Kept.refl (fun _ => False) V).drew).trans' k9 (fun _ _ q => q.elim) (fun _ _ q => q)) h9)
          clear h9 k9
          go_wp2_with fail
          go_roundg 0
          case measure => decide
          case rel => exact .inr ⟨rfl, rfl, HF⟩
      · go_wp2_with fail
        go_ret
        exact ⟨0, es', ck', rfl, HF.out.2, .inl ⟨rfl, by omega, HF.out.1⟩⟩
end Go.Proofs.YthkeigljiinlbaaGreat

/- Tally.Row. -/
namespace Go.Proofs.YthkeigljiinlbaaGreat
open Go.RowKit Go.MapKept

/-- The three cells of a value are written. -/
theorem three_set {w W : World} {b : Nat} {n : Int} {T : TypeId} (h : W.heap[b]? = some (.cells #[.int .i64 0, .int .i64 0, .string ⟨⟨[]⟩⟩] T (0, 0))) (hb : ¬ b < w.heap.size) (k : Kept (fun _ => False) w W) :
    Kept (fun _ => False) w (((W.setCell ⟨b, 0, none⟩ (.int .i64 1)).setCell ⟨b, 1, none⟩ (.int .i64 n)).setCell ⟨b, 2, none⟩ (.string ⟨⟨[]⟩⟩)) ∧
    ((((W.setCell ⟨b, 0, none⟩ (.int .i64 1)).setCell ⟨b, 1, none⟩ (.int .i64 n)).setCell ⟨b, 2, none⟩ (.string ⟨⟨[]⟩⟩)).cell? ⟨b, 0, none⟩ = some (.int .i64 1) ∧
     (((W.setCell ⟨b, 0, none⟩ (.int .i64 1)).setCell ⟨b, 1, none⟩ (.int .i64 n)).setCell ⟨b, 2, none⟩ (.string ⟨⟨[]⟩⟩)).cell? ⟨b, 1, none⟩ = some (.int .i64 n) ∧
     (((W.setCell ⟨b, 0, none⟩ (.int .i64 1)).setCell ⟨b, 1, none⟩ (.int .i64 n)).setCell ⟨b, 2, none⟩ (.string ⟨⟨[]⟩⟩)).cell? ⟨b, 2, none⟩ = some (.string ⟨⟨[]⟩⟩)) := by
  have hh := blk_set (blk_set (blk_set h 0 (.int .i64 1)) 1 (.int .i64 n)) 2 (.string ⟨⟨[]⟩⟩)
  have kk := (((Kept.refl (fun j => j = b) W).setCell (p := ⟨b, 0, none⟩) (fun _ => rfl) (.int .i64 1)).setCell (p := ⟨b, 1, none⟩) (fun _ => rfl) (.int .i64 n)).setCell (p := ⟨b, 2, none⟩) (fun _ => rfl) (.string ⟨⟨[]⟩⟩)
  refine ⟨k.trans' kk (fun _ _ q => q) (fun j hj q => hb (q ▸ hj)), cell_of_row _ _ 0 _ _ _ hh, cell_of_row _ _ 1 _ _ _ hh, cell_of_row _ _ 2 _ _ _ hh⟩

set_option maxRecDepth 100000 in
theorem vnum_any (n : Int) (w : World) : Calls Tryz.prog 206 #[.int .i64 n] w fun e w' => e = .returned (.agg #[.int .i64 1, .int .i64 n, .string ⟨⟨[]⟩⟩]) ∧ Kept (fun _ => False) w w' := by
  have a1 := heap_alloc_new w (.cells #[.int .i64 1, .int .i64 n, .string ⟨⟨[]⟩⟩] 48)
  have z0 := cell_of_row _ _ 0 _ _ _ a1
  have z1 := cell_of_row _ _ 1 _ _ _ a1
  have z2 := cell_of_row _ _ 2 _ _ _ a1
  simp only [List.getElem?_toArray, List.getElem?_cons_zero, List.getElem?_cons_succ] at z0 z1 z2
  have H := Lib.hid (show _ ∧ _ ∧ _ from ⟨z0, z1, z2⟩)
  clear z0 z1 z2 a1
  go_enter Tryz.func206, Tryz.ntmps206
  go_wp2_with fail
  obtain ⟨z0, z1, z2⟩ := H.out
  refine bodyPost_ret (v := .agg #[.int .i64 1, .int .i64 n, .string ⟨⟨[]⟩⟩]) ?_ rfl ⟨rfl, (Kept.refl _ w).alloc _⟩
  simp [results, Tryz.results206, go_sem, z0, z1, z2]

set_option maxRecDepth 100000 in
theorem tell_any (cb : Nat) (c t : Int) (w : World) (hc : w.heap[cb]? = some (.cells #[.int .i64 c] 245 (0, 0))) :
    Calls Tryz.prog 205 #[.pointer (some ⟨cb, 0, none⟩), .int .i64 t] w fun e w' => e = .returned (.tuple #[.agg #[.int .i64 1, .int .i64 c, .string ⟨⟨[]⟩⟩], .int .i64 0]) ∧ Kept (fun _ => False) w w' := by
  have k0 := (Kept.refl (fun _ => False) w).alloc (.cells #[.int .i64 0, .int .i64 0, .string ⟨⟨[]⟩⟩] 48)
  have a0 := heap_alloc_new w (.cells #[.int .i64 0, .int .i64 0, .string ⟨⟨[]⟩⟩] 48)
  have c0 := cell_of_row _ _ 0 _ _ _ (k0.heap hc (fun q => q))
  simp only [List.getElem?_toArray, List.getElem?_cons_zero] at c0
  have hn := fun wx => vnum_any c wx
  go_enter Tryz.func205, Tryz.ntmps205
  go_wp2_with fail
  refine (hn _).mono ?_
  rintro e w1 ⟨rfl, k1⟩
  have a1 := k1.heap a0 (fun q => q)
  have x0 := cell_of_row _ _ 0 _ _ _ a1
  have x1 := cell_of_row _ _ 1 _ _ _ a1
  have x2 := cell_of_row _ _ 2 _ _ _ a1
  simp only [List.getElem?_toArray, List.getElem?_cons_zero, List.getElem?_cons_succ] at x0 x1 x2
  have f0 := frozen_of a1 0
  have f1 := frozen_of a1 1
  have f2 := frozen_of a1 2
  have h3 := Lib.hid (three_set (n := c) a1 (fun q => Nat.lt_irrefl _ q) (k0.trans k1))
  go_wp2_with fail
  obtain ⟨hk, z0, z1, z2⟩ := h3.out
  refine bodyPost_ret (v := .tuple #[.agg #[.int .i64 1, .int .i64 c, .string ⟨⟨[]⟩⟩], .int .i64 0]) ?_ rfl ⟨rfl, hk⟩
  simp [results, Tryz.results205, go_sem, z0, z1, z2]

set_option maxHeartbeats 2000000 in
set_option maxRecDepth 100000 in
theorem trow_any (w0 w : World) (tb mb cb ck : Nat) (c t : Int) (As Aa Ap : Option Addr) (cs ca cp : Nat) (es : Array MapEntry) (hT : Tal w0 w tb c As Aa Ap cs ca cp mb cb es ck) (hc : 0 < c) :
    Calls Tryz.prog 89 #[.pointer (some ⟨tb, 0, none⟩), .int .i64 t] w fun e w' => ∃ v, e = .returned (.tuple #[v, .int .i64 0]) ∧ New encW 3 48 w w' v (numW c) := by
  have b0 : (c == (0 : Int)) = false := beq_eq_false_iff_ne.2 (by omega)
  obtain ⟨Ap', cp', eP, _, hsP⟩ := hT.part.asSrc encI1_len
  injection eP with e1 e3 e2
  subst e1 e2
  clear e3
  obtain ⟨bp, op, rfl, _, hcp⟩ := hsP 0 _ rfl
  have xp := hcp 0 _ rfl
  unfold partV at xp
  simp only [Nat.zero_mul, Nat.add_zero] at xp
  obtain ⟨C, hmk, hnw⟩ := make_any (P := Tryz.prog) 43 48 (.agg #[.int .i64 0, .int .i64 0, .string ByteArray.empty]) 3 32 Tryz.underlying43 (by kernel_rfl) 1 1 rfl (by decide) (by decide)
  have hn0 := hnw Wd encW w
  have kmk := hn0.kept
  have xpa := kmk.cell xp (fun q => q)
  have g0 := hT.at_
  have c2 := cell_of_row _ _ 2 _ _ _ g0
  have c4 := cell_of_row _ _ 4 _ _ _ g0
  have d2 := cell_of_row _ _ 2 _ _ _ (kmk.heap g0 (fun q => q))
  simp only [List.getElem?_toArray, List.getElem?_cons_zero, List.getElem?_cons_succ] at c2 c4 d2
  have htl := fun wx hx => tell_any cb c t wx hx
  have HC := Lib.hid hT.cnt
  have HN := Lib.hid hn0
  have hmth : ∀ (W : World), (method 213 243 (.pointer (some ⟨cb, 0, none⟩)) "rescind/tally.tell").run Tryz.prog W = .ok (205, .pointer (some ⟨cb, 0, none⟩)) W := fun _ => by kernel_rfl
  clear hT hsP hcp hnw hn0 g0
  go_enter Tryz.func89, Tryz.ntmps89
  go_wp2_with fail
  go_loopg [6, 31] 1 (fun k ov iv wr => (k = 1 ∧ iv = .int .i64 0 ∧ ov = .slice (some ⟨w.heap.size, 0, none⟩) 0 1 ∧ wr = w.alloc (.cells C 48)) ∨ (k = 0 ∧ iv = .int .i64 1 ∧ Hid (New encW 3 48 w wr ov (numW c))))
  case atStart => exact .inl ⟨rfl, rfl, rfl, rfl⟩
  case round =>
    rcases hrel with ⟨rfl, rfl, rfl, rfl⟩ | ⟨rfl, rfl, HF⟩
    · go_wp2_with fail
      refine (htl _ (kmk.heap HC.out (fun q => q))).mono ?_
      rintro e w1 ⟨rfl, k1⟩
      have kb := ((Kept.refl (fun _ => False) w1).alloc (.cells #[.int .i64 1, .int .i64 c, .string ⟨⟨[]⟩⟩] 48)).alloc (.cells #[.int .i64 1, .int .i64 c, .string ⟨⟨[]⟩⟩] 48)
      obtain ⟨v', w', hrun, A', c', rfl, hN'⟩ := New.lit (P := Tryz.prog) 43 43 (.agg #[.int .i64 0, .int .i64 0, .string ByteArray.empty]) 32 Tryz.underlying43 (by kernel_rfl) rfl (by decide) encW_len encW_one HN.out (k1.trans kb) (numW c) (w1.heap.size + 1) 1 (by have h := heap_alloc_new (w1.alloc (.cells #[.int .i64 1, .int .i64 c, .string ⟨⟨[]⟩⟩] 48)) (.cells #[.int .i64 1, .int .i64 c, .string ⟨⟨[]⟩⟩] 48); rw [World.size_alloc] at h; exact h) (by unfold numW; simp only [List.length_cons, List.length_nil, maxLen]; omega) (by unfold numW; simp only [List.length_cons, List.length_nil]; omega)
      have HN' := Lib.hid hN'
      unfold numW at hrun
      simp only [List.length_cons, List.length_nil] at hrun
      clear hN' kb k1
      have tok := True.intro
      go_wp2_with (at_builtin; have _t := tok; refine wpList_run rfl _ _ _ rfl rfl rfl hrun ?_; clear tok)
      go_roundg 0
      case measure => decide
      case rel => exact .inr ⟨rfl, rfl, HN'.out⟩
    · go_wp2_with fail
      go_ret2
      exact ⟨_, rfl, HF.out⟩
end Go.Proofs.YthkeigljiinlbaaGreat
