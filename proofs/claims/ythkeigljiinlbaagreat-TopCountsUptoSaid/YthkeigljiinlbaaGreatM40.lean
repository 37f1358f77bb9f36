/- plan.answer. -/
import Derived.Test.YthkeigljiinlbaaGreatM39
import Derived.Deep.RegionHeld3
namespace Go.Proofs.YthkeigljiinlbaaGreat
open Go.RowKit Go.MapKept

theorem sumTo_bound : ∀ (f : List Jp) (t : Int), (∀ x ∈ f, x.n ≤ 1048576) → sumTo f t ≤ 1048576 * (f.length : Int)
  | [], _, _ => by simp [sumTo_nil]
  | x :: f, t, h => by
    have ih := sumTo_bound f t (fun y hy => h y (List.mem_cons_of_mem _ hy))
    have hx := h x (List.mem_cons_self ..)
    rw [sumTo_cons, List.length_cons]
    by_cases hc : x.a ≤ t
    · rw [if_pos hc]; omega
    · rw [if_neg hc]; omega
theorem there_ok {L : List Ed} (hmay : edMay L = true) (h1 : ∀ x ∈ L, One64 x.r) (t : Int) : ∀ p ∈ thereL (runsL L) t, One64 p.1 ∧ 0 < p.2 ∧ p.2 ≤ 1099511627776 := by
  intro p hp
  have hpos := there_pos _ t p hp
  unfold thereL at hp
  obtain ⟨q, hq, rfl⟩ := List.mem_map.1 hp
  have hq2 := (List.mem_filter.1 hq).1
  obtain ⟨⟨x, hx, e⟩, _⟩ := runs_mem hq2
  have hm := may_all ((edMay_run hmay).2 q hq2).2
  have hb := sumTo_bound q.2 t (fun y hy => (hm.2.2 y hy).2.2.2.2)
  have := hm.1
  refine ⟨by simp only; rw [e]; exact h1 x hx, hpos, ?_⟩
  simp only
  omega
/-- What the parts tell. -/
def ansP (l : List (Int × Int × List (List Wd × Int))) : List Ed := l.flatMap (fun p => [⟨numW (totL p.2.2), p.1, 1⟩, ⟨numW (totL p.2.2), p.2.1, -1⟩])
theorem ansP_app (a b : List (Int × Int × List (List Wd × Int))) : ansP (a ++ b) = ansP a ++ ansP b := by unfold ansP; rw [List.flatMap_append]
theorem ansP_parts {L : List Ed} (htab : edTab L = true) : ∀ C : List Int, ansP (partsL (runsL L) C) = ansL (cntE L) C
  | [] => rfl
  | a :: C => by
    have ht : totL (thereL (runsL L) a) = cntE L a := by rw [there_tot _ _ (edTab_run htab), cntE_runs]
    have hz := tot_zero (thereL (runsL L) a) (there_pos _ a)
    rw [partsL, ansL, ansP_app, ansP_parts htab C]
    congr 1
    by_cases h : thereL (runsL L) a = []
    · rw [if_pos h, if_neg (by rw [← ht, hz.1.1 h]; omega)]
      rfl
    · have hne : 0 < cntE L a := by
        rw [← ht]
        have := hz.2
        have h2 : totL (thereL (runsL L) a) ≠ 0 := fun q => h (hz.1.2 q)
        omega
      rw [if_neg h, if_pos hne, ← ht]
      rfl
theorem parts_mem (gs : List (List Wd × List Jp)) : ∀ (C : List Int), ∀ p ∈ partsL gs C, ∃ a ∈ C, p.2.2 = thereL gs a ∧ thereL gs a ≠ []
  | [], p, hp => by cases hp
  | a :: C, p, hp => by
    rw [partsL, List.mem_append] at hp
    rcases hp with hp | hp
    · by_cases h : thereL gs a = []
      · rw [if_pos h] at hp; cases hp
      · rw [if_neg h, List.mem_singleton] at hp
        subst hp
        exact ⟨a, List.mem_cons_self .., rfl, h⟩
    · obtain ⟨b, hb, e⟩ := parts_mem gs C p hp
      exact ⟨b, List.mem_cons_of_mem _ hb, e⟩

theorem GrA.eds {w0 w : World} {gb : Nat} {L : List Ed} {v : Value} {Av cv : Nat} {M : List PE} (h : GrA w0 w gb L v Av cv M) (k : Kept (fun _ => False) w0 w) : ∃ A c, v = .slice A L.length c ∧ EdS w (fun _ => False) A L := by
  obtain ⟨A, c, hv, _, hs⟩ := h.row.asSrc encE_len
  have hl : M.length = L.length := by rw [← h.all, List.length_map]
  rw [hl] at hv
  refine ⟨A, c, hv, fun i x hi => ?_⟩
  rw [← h.all, List.getElem?_map] at hi
  cases hp : M[i]? with
  | none => rw [hp] at hi; cases hi
  | some p =>
    rw [hp] at hi
    injection hi with hi
    subst hi
    obtain ⟨b, off, e, _, hc⟩ := hs i p hp
    obtain ⟨hB, hsr, hxl⟩ := h.src p (List.mem_of_getElem? hp)
    have c0 := hc 0 _ rfl
    have c1 := hc 1 _ rfl
    have c2 := hc 2 _ rfl
    exact ⟨b, off, p.1.1, p.1.2, e, fun q => q, c0, c1, c2, hB, hsr.same k, hxl⟩
/-- Other edges behind them. -/
theorem EdN.lits {P : Program} {w0 wr W : World} {v : Value} {M : List PE} (t ty : TypeId) (z : Value) (bytes : Nat) (ht : P.underlying t = some (.slice 50)) (hi : (P.info? 50).map (fun i => (i.zero, i.size, i.bytes)) = some (some z, 3, bytes)) (hzs : z.cells.size = 3)
    (h : EdN w0 wr v M) (k : Kept (fun _ => False) wr W) (M2 : List PE) (hp : ∀ p ∈ M2, Row encW 3 48 W (slE p) p.2.r ∧ ∀ j, (slE p).ownBlock = some j → w0.heap.size ≤ j) (B c : Nat) {T' : TypeId} {f : Nat × Nat} (hB : W.heap[B]? = some (.cells (cellsOf encE M2).toArray T' f))
    (h63 : M.length + M2.length ≤ maxLen) (hb : (M.length + M2.length) * bytes ≤ 140737488355328) :
    ∃ v' w', Hid ((Builtin.append_ #[t, t] ty #[v, .slice (some ⟨B, 0, none⟩) M2.length c]).run P W = .ok v' w') ∧ EdN w0 w' v' (M ++ M2) := by
  obtain ⟨v', w', h1, h2, h3, h4⟩ := Row.lit (P := P) (sz := 3) t ty z bytes ht hi hzs (by decide) encE_len encE_one (h.row.same k) M2 B c hB h63 hb
  have kk := h.kept.trans k
  refine ⟨v', w', h1, h2, fun j hj => ?_, fun q hq => ?_, kk.trans' h3 (fun _ _ q => q) (fun i hi q => absurd (h.own i q) (by omega))⟩
  · rcases h4 j hj with q | q
    · exact h.own j q
    · exact Nat.le_trans kk.size q
  · rcases List.mem_append.1 hq with hq | hq
    · exact ⟨Row.apart ((h.rows q hq).1.same k) (h.row.same k) (by decide) h3, (h.rows q hq).2⟩
    · exact ⟨Row.apart (hp q hq).1 (h.row.same k) (by decide) h3, (hp q hq).2⟩

theorem meet {T G : Prop} (t : T) (h : T → G) : G := h t
set_option maxHeartbeats 4000000 in
set_option maxRecDepth 100000 in
theorem answer_any (w0 w : World) (L : List Ed) (As Aa : Option Addr) (cs ca gb Av cv : Nat) (v : Value) (M : List PE) (hG : GrA w0 w gb L v Av cv M) (k0w : Kept (fun _ => False) w0 w) (hs : Src encC 2 w (fun _ => False) As S1) (ha : Src encA 3 w (fun _ => False) Aa A1)
    (hl : L.length ≤ 200) (hmay : edMay L = true) (htab : edTab L = true) (h1 : ∀ x ∈ L, One64 x.r) :
    Calls Tryz.prog 15 #[.agg #[.slice As 1 cs, .slice Aa 1 ca, .int .i64 1, .int .i64 0, .int .i64 0, .int .i64 0, .int .i64 0], .pointer (some ⟨gb, 0, none⟩)] w fun e w' =>
      ∃ (u : Value) (k : Int), e = .returned (.tuple #[u, .int .i64 k]) ∧ ((k = 0 ∧ ∃ M2 C, EdN w w' u M2 ∧ CutsL L C ∧ M2.map Prod.snd = ansL (cntE L) C) ∨ (k ≠ 0 ∧ u = .slice none 0 0 ∧ Kept (fun _ => False) w w' ∧ ∃ t, 1048576 < cntE L t)) := by
  have h8 : ∀ x ∈ L, x.r.length ≤ 1048576 := fun x hx => by obtain ⟨y, _, e⟩ := h1 x hx; rw [e]; simp
  have hwp := fun A c wx hx => wparts_any L A c wx (by omega) hx hmay htab h8
  obtain ⟨A, c, hv, hE⟩ := hG.eds k0w
  subst hv
  obtain ⟨NL, hNL⟩ : ∃ NL, L.length = NL := ⟨_, rfl⟩
  have kp := (Kept.refl (fun _ => False) w).alloc (.cells #[.slice As 1 cs, .slice Aa 1 ca, .int .i64 1, .int .i64 0, .int .i64 0, .int .i64 0, .int .i64 0] 62)
  have gp := heap_alloc_new w (.cells #[.slice As 1 cs, .slice Aa 1 ca, .int .i64 1, .int .i64 0, .int .i64 0, .int .i64 0, .int .i64 0] 62)
  have gg := kp.heap hG.at_ (fun q => q)
  rw [hNL] at hwp gg hl
  have hE1 := hE.same kp
  have HG := Lib.hid hG
  have HNL := Lib.hid hNL
  have HM := Lib.hid hmay
  have HTB := Lib.hid htab
  have H1 := Lib.hid h1
  have HS := Lib.hid (show _ ∧ _ from ⟨hs.same kp, ha.same kp⟩)
  clear hG hNL hmay htab h1 hs ha hE
  go_enter Tryz.func15, Tryz.ntmps15
  go_wp2_with fail
  generalize hW : w.alloc (.cells #[.slice As 1 cs, .slice Aa 1 ca, .int .i64 1, .int .i64 0, .int .i64 0, .int .i64 0, .int .i64 0] 62) = W at *
  have KP := Lib.hid kp
  have HW := Lib.hid hW
  clear hW kp
  obtain ⟨bp, hbp⟩ : ∃ bp, w.heap.size = bp := ⟨_, rfl⟩
  rw [hbp] at gp ⊢
  have HBP := Lib.hid hbp
  clear hbp
  have HGP := Lib.hid gp
  have HGG := Lib.hid gg
  have e2 := cell_of_row _ _ 2 _ _ _ gp
  have e3 := cell_of_row _ _ 3 _ _ _ gp
  have e4 := cell_of_row _ _ 4 _ _ _ gp
  have e5 := cell_of_row _ _ 5 _ _ _ gp
  have e6 := cell_of_row _ _ 6 _ _ _ gp
  have e7 := cell_of_row _ _ 0 _ _ _ gg
  simp only [List.getElem?_toArray, List.getElem?_cons_zero, List.getElem?_cons_succ] at e2 e3 e4 e5 e6 e7
  have hwd := hwp A c W.drew (hE1.same (Kept.refl _ W).drew)
  have kd := (Kept.refl (fun _ => False) W).drew
  have d2 := kd.cell e2 (fun q => q)
  have d3 := kd.cell e3 (fun q => q)
  have d4 := kd.cell e4 (fun q => q)
  have d5 := kd.cell e5 (fun q => q)
  have d6 := kd.cell e6 (fun q => q)
  have d7 := kd.cell e7 (fun q => q)
  clear gp gg hwp hE1
  refine region_drawn rfl ?_
  apply meet
  case h =>
    intro tail
    refine wpAny_take (i := 0) (v := ?_) rfl (by kernel_rfl) (by kernel_rfl) (by kernel_rfl) (fun _ _ _ h => h) (Or.inl ⟨by rfl, ?_⟩) ?_
    rotate_left
    · (intro w; go_simp)
      try with_reducible rfl
    refine wpAny_take (i := 2) (v := ?_) rfl (by kernel_rfl) (by kernel_rfl) (by kernel_rfl) (fun _ _ _ h => h) (Or.inl ⟨by rfl, ?_⟩) ?_
    rotate_left
    · (intro w; go_simp)
      try with_reducible rfl
    refine wpAny_take (i := 3) (v := ?_) rfl (by kernel_rfl) (by kernel_rfl) (by kernel_rfl) (fun _ _ _ h => h) (Or.inl ⟨by rfl, ?_⟩) ?_
    rotate_left
    · (intro w; go_simp)
      try with_reducible rfl
    refine wpAny_take (i := 4) (v := ?_) rfl (by kernel_rfl) (by kernel_rfl) (by kernel_rfl) (fun _ _ _ h => h) (Or.inl ⟨by rfl, ?_⟩) ?_
    rotate_left
    · (intro w; go_simp)
      try with_reducible rfl
    refine wpAny_take (i := 5) (v := ?_) rfl (by kernel_rfl) (by kernel_rfl) (by kernel_rfl) (fun _ _ _ h => h) (Or.inl ⟨by rfl, ?_⟩) ?_
    rotate_left
    · (intro w; go_simp)
      try with_reducible rfl
    refine wpAny_take (i := 7) (v := ?_) rfl (by kernel_rfl) (by kernel_rfl) (by kernel_rfl) (fun _ _ _ h => h) (Or.inl ⟨by rfl, ?_⟩) ?_
    rotate_left
    · (intro w; go_simp)
      try with_reducible rfl
    refine wpAny_take (i := 9) (v := ?_) rfl (by kernel_rfl) (by kernel_rfl) (by kernel_rfl) (fun _ _ _ h => h) (Or.inl ⟨by rfl, ?_⟩) ?_
    rotate_left
    · (intro w; go_simp)
      try with_reducible rfl
    refine wpAny_ready (rs := [1, 6, 8, 10]) (by kernel_rfl) (by simp) ?_
    refine AllReady.cons rfl (fun K hK => ?_) ?_
    · skip
      go_simp
      refine hK _ _ ?_
      clear hK K
      refine wpAny_ready (rs := [6, 8, 10]) (by kernel_rfl) (by simp) ?_
      refine AllReady.cons rfl (fun K hK => ?_) ?_
      · skip
        go_simp
        refine hK _ _ ?_
        clear hK K
        refine wpAny_ready (rs := [8, 10]) (by kernel_rfl) (by simp) ?_
        refine AllReady.cons rfl (fun K hK => ?_) ?_
        · skip
          go_simp
          refine hK _ _ ?_
          clear hK K
          refine wpAny_ready (rs := [10]) (by kernel_rfl) (by simp) ?_
          refine AllReady.cons rfl (fun K hK => ?_) AllReady.nil
          go_simp
          refine hK _ _ ?_
          clear hK K
          exact tail
        · skip
          refine AllReady.cons rfl (fun K hK => ?_) AllReady.nil
          go_simp
          refine hK _ _ ?_
          clear hK K
          refine wpAny_ready (rs := [8]) (by kernel_rfl) (by simp) ?_
          refine AllReady.cons rfl (fun K hK => ?_) AllReady.nil
          go_simp
          refine hK _ _ ?_
          clear hK K
          exact tail
      · skip
        refine AllReady.cons rfl (fun K hK => ?_) ?_
        · skip
          go_simp
          refine hK _ _ ?_
          clear hK K
          refine wpAny_ready (rs := [6, 10]) (by kernel_rfl) (by simp) ?_
          refine AllReady.cons rfl (fun K hK => ?_) ?_
          · skip
            go_simp
            refine hK _ _ ?_
            clear hK K
            refine wpAny_ready (rs := [10]) (by kernel_rfl) (by simp) ?_
            refine AllReady.cons rfl (fun K hK => ?_) AllReady.nil
            go_simp
            refine hK _ _ ?_
            clear hK K
            exact tail
          · skip
            refine AllReady.cons rfl (fun K hK => ?_) AllReady.nil
            go_simp
            refine hK _ _ ?_
            clear hK K
            refine wpAny_ready (rs := [6]) (by kernel_rfl) (by simp) ?_
            refine AllReady.cons rfl (fun K hK => ?_) AllReady.nil
            go_simp
            refine hK _ _ ?_
            clear hK K
            exact tail
        · skip
          refine AllReady.cons rfl (fun K hK => ?_) AllReady.nil
          go_simp
          refine hK _ _ ?_
          clear hK K
          refine wpAny_ready (rs := [6, 8]) (by kernel_rfl) (by simp) ?_
          refine AllReady.cons rfl (fun K hK => ?_) ?_
          · skip
            go_simp
            refine hK _ _ ?_
            clear hK K
            refine wpAny_ready (rs := [8]) (by kernel_rfl) (by simp) ?_
            refine AllReady.cons rfl (fun K hK => ?_) AllReady.nil
            go_simp
            refine hK _ _ ?_
            clear hK K
            exact tail
          · skip
            refine AllReady.cons rfl (fun K hK => ?_) AllReady.nil
            go_simp
            refine hK _ _ ?_
            clear hK K
            refine wpAny_ready (rs := [6]) (by kernel_rfl) (by simp) ?_
            refine AllReady.cons rfl (fun K hK => ?_) AllReady.nil
            go_simp
            refine hK _ _ ?_
            clear hK K
            exact tail
    · skip
      refine AllReady.cons rfl (fun K hK => ?_) ?_
      · skip
        go_simp
        refine hK _ _ ?_
        clear hK K
        refine wpAny_ready (rs := [1, 8, 10]) (by kernel_rfl) (by simp) ?_
        refine AllReady.cons rfl (fun K hK => ?_) ?_
        · skip
          go_simp
          refine hK _ _ ?_
          clear hK K
          refine wpAny_ready (rs := [8, 10]) (by kernel_rfl) (by simp) ?_
          refine AllReady.cons rfl (fun K hK => ?_) ?_
          · skip
            go_simp
            refine hK _ _ ?_
            clear hK K
            refine wpAny_ready (rs := [10]) (by kernel_rfl) (by simp) ?_
            refine AllReady.cons rfl (fun K hK => ?_) AllReady.nil
            go_simp
            refine hK _ _ ?_
            clear hK K
            exact tail
          · skip
            refine AllReady.cons rfl (fun K hK => ?_) AllReady.nil
            go_simp
            refine hK _ _ ?_
            clear hK K
            refine wpAny_ready (rs := [8]) (by kernel_rfl) (by simp) ?_
            refine AllReady.cons rfl (fun K hK => ?_) AllReady.nil
            go_simp
            refine hK _ _ ?_
            clear hK K
            exact tail
        · skip
          refine AllReady.cons rfl (fun K hK => ?_) ?_
          · skip
            go_simp
            refine hK _ _ ?_
            clear hK K
            refine wpAny_ready (rs := [1, 10]) (by kernel_rfl) (by simp) ?_
            refine AllReady.cons rfl (fun K hK => ?_) ?_
            · skip
              go_simp
              refine hK _ _ ?_
              clear hK K
              refine wpAny_ready (rs := [10]) (by kernel_rfl) (by simp) ?_
              refine AllReady.cons rfl (fun K hK => ?_) AllReady.nil
              go_simp
              refine hK _ _ ?_
              clear hK K
              exact tail
            · skip
              refine AllReady.cons rfl (fun K hK => ?_) AllReady.nil
              go_simp
              refine hK _ _ ?_
              clear hK K
              refine wpAny_ready (rs := [1]) (by kernel_rfl) (by simp) ?_
              refine AllReady.cons rfl (fun K hK => ?_) AllReady.nil
              go_simp
              refine hK _ _ ?_
              clear hK K
              exact tail
          · skip
            refine AllReady.cons rfl (fun K hK => ?_) AllReady.nil
            go_simp
            refine hK _ _ ?_
            clear hK K
            refine wpAny_ready (rs := [1, 8]) (by kernel_rfl) (by simp) ?_
            refine AllReady.cons rfl (fun K hK => ?_) ?_
            · skip
              go_simp
              refine hK _ _ ?_
              clear hK K
              refine wpAny_ready (rs := [8]) (by kernel_rfl) (by simp) ?_
              refine AllReady.cons rfl (fun K hK => ?_) AllReady.nil
              go_simp
              refine hK _ _ ?_
              clear hK K
              exact tail
            · skip
              refine AllReady.cons rfl (fun K hK => ?_) AllReady.nil
              go_simp
              refine hK _ _ ?_
              clear hK K
              refine wpAny_ready (rs := [1]) (by kernel_rfl) (by simp) ?_
              refine AllReady.cons rfl (fun K hK => ?_) AllReady.nil
              go_simp
              refine hK _ _ ?_
              clear hK K
              exact tail
      · skip
        refine AllReady.cons rfl (fun K hK => ?_) ?_
        · skip
          go_simp
          refine hK _ _ ?_
          clear hK K
          refine wpAny_ready (rs := [1, 6, 10]) (by kernel_rfl) (by simp) ?_
          refine AllReady.cons rfl (fun K hK => ?_) ?_
          · skip
            go_simp
            refine hK _ _ ?_
            clear hK K
            refine wpAny_ready (rs := [6, 10]) (by kernel_rfl) (by simp) ?_
            refine AllReady.cons rfl (fun K hK => ?_) ?_
            · skip
              go_simp
              refine hK _ _ ?_
              clear hK K
              refine wpAny_ready (rs := [10]) (by kernel_rfl) (by simp) ?_
              refine AllReady.cons rfl (fun K hK => ?_) AllReady.nil
              go_simp
              refine hK _ _ ?_
              clear hK K
              exact tail
            · skip
              refine AllReady.cons rfl (fun K hK => ?_) AllReady.nil
              go_simp
              refine hK _ _ ?_
              clear hK K
              refine wpAny_ready (rs := [6]) (by kernel_rfl) (by simp) ?_
              refine AllReady.cons rfl (fun K hK => ?_) AllReady.nil
              go_simp
              refine hK _ _ ?_
              clear hK K
              exact tail
          · skip
            refine AllReady.cons rfl (fun K hK => ?_) ?_
            · skip
              go_simp
              refine hK _ _ ?_
              clear hK K
              refine wpAny_ready (rs := [1, 10]) (by kernel_rfl) (by simp) ?_
              refine AllReady.cons rfl (fun K hK => ?_) ?_
              · skip
                go_simp
                refine hK _ _ ?_
                clear hK K
                refine wpAny_ready (rs := [10]) (by kernel_rfl) (by simp) ?_
                refine AllReady.cons rfl (fun K hK => ?_) AllReady.nil
                go_simp
                refine hK _ _ ?_
                clear hK K
                exact tail
              · skip
                refine AllReady.cons rfl (fun K hK => ?_) AllReady.nil
                go_simp
                refine hK _ _ ?_
                clear hK K
                refine wpAny_ready (rs := [1]) (by kernel_rfl) (by simp) ?_
                refine AllReady.cons rfl (fun K hK => ?_) AllReady.nil
                go_simp
                refine hK _ _ ?_
                clear hK K
                exact tail
            · skip
              refine AllReady.cons rfl (fun K hK => ?_) AllReady.nil
              go_simp
              refine hK _ _ ?_
              clear hK K
              refine wpAny_ready (rs := [1, 6]) (by kernel_rfl) (by simp) ?_
              refine AllReady.cons rfl (fun K hK => ?_) ?_
              · skip
                go_simp
                refine hK _ _ ?_
                clear hK K
                refine wpAny_ready (rs := [6]) (by kernel_rfl) (by simp) ?_
                refine AllReady.cons rfl (fun K hK => ?_) AllReady.nil
                go_simp
                refine hK _ _ ?_
                clear hK K
                exact tail
              · skip
                refine AllReady.cons rfl (fun K hK => ?_) AllReady.nil
                go_simp
                refine hK _ _ ?_
                clear hK K
                refine wpAny_ready (rs := [1]) (by kernel_rfl) (by simp) ?_
                refine AllReady.cons rfl (fun K hK => ?_) AllReady.nil
                go_simp
                refine hK _ _ ?_
                clear hK K
                exact tail
        · skip
          refine AllReady.cons rfl (fun K hK => ?_) AllReady.nil
          go_simp
          refine hK _ _ ?_
          clear hK K
          refine wpAny_ready (rs := [1, 6, 8]) (by kernel_rfl) (by simp) ?_
          refine AllReady.cons rfl (fun K hK => ?_) ?_
          · skip
            go_simp
            refine hK _ _ ?_
            clear hK K
            refine wpAny_ready (rs := [6, 8]) (by kernel_rfl) (by simp) ?_
            refine AllReady.cons rfl (fun K hK => ?_) ?_
            · skip
              go_simp
              refine hK _ _ ?_
              clear hK K
              refine wpAny_ready (rs := [8]) (by kernel_rfl) (by simp) ?_
              refine AllReady.cons rfl (fun K hK => ?_) AllReady.nil
              go_simp
              refine hK _ _ ?_
              clear hK K
              exact tail
            · skip
              refine AllReady.cons rfl (fun K hK => ?_) AllReady.nil
              go_simp
              refine hK _ _ ?_
              clear hK K
              refine wpAny_ready (rs := [6]) (by kernel_rfl) (by simp) ?_
              refine AllReady.cons rfl (fun K hK => ?_) AllReady.nil
              go_simp
              refine hK _ _ ?_
              clear hK K
              exact tail
          · skip
            refine AllReady.cons rfl (fun K hK => ?_) ?_
            · skip
              go_simp
              refine hK _ _ ?_
              clear hK K
              refine wpAny_ready (rs := [1, 8]) (by kernel_rfl) (by simp) ?_
              refine AllReady.cons rfl (fun K hK => ?_) ?_
              · skip
                go_simp
                refine hK _ _ ?_
                clear hK K
                refine wpAny_ready (rs := [8]) (by kernel_rfl) (by simp) ?_
                refine AllReady.cons rfl (fun K hK => ?_) AllReady.nil
                go_simp
                refine hK _ _ ?_
                clear hK K
                exact tail
              · skip
                refine AllReady.cons rfl (fun K hK => ?_) AllReady.nil
                go_simp
                refine hK _ _ ?_
                clear hK K
                refine wpAny_ready (rs := [1]) (by kernel_rfl) (by simp) ?_
                refine AllReady.cons rfl (fun K hK => ?_) AllReady.nil
                go_simp
                refine hK _ _ ?_
                clear hK K
                exact tail
            · skip
              refine AllReady.cons rfl (fun K hK => ?_) AllReady.nil
              go_simp
              refine hK _ _ ?_
              clear hK K
              refine wpAny_ready (rs := [1, 6]) (by kernel_rfl) (by simp) ?_
              refine AllReady.cons rfl (fun K hK => ?_) ?_
              · skip
                go_simp
                refine hK _ _ ?_
                clear hK K
                refine wpAny_ready (rs := [6]) (by kernel_rfl) (by simp) ?_
                refine AllReady.cons rfl (fun K hK => ?_) AllReady.nil
                go_simp
                refine hK _ _ ?_
                clear hK K
                exact tail
              · skip
                refine AllReady.cons rfl (fun K hK => ?_) AllReady.nil
                go_simp
                refine hK _ _ ?_
                clear hK K
                refine wpAny_ready (rs := [1]) (by kernel_rfl) (by simp) ?_
                refine AllReady.cons rfl (fun K hK => ?_) AllReady.nil
                go_simp
                refine hK _ _ ?_
                clear hK K
                exact tail
  case t =>
    refine wpAny_ready (rs := [11]) (by kernel_rfl) (by simp) ?_
    refine AllReady.cons rfl (fun K hK => ?_) AllReady.nil
    go_simp
    refine Calls.mono hwd ?_
    rintro e w3 ⟨v3, Q, C, rfl, hP, hC, hQ⟩
    obtain ⟨A3, c3, rfl, _, _⟩ := hP.row.shape
    obtain ⟨NQ, hNQ⟩ : ∃ NQ, Q.length = NQ := ⟨_, rfl⟩
    have hNQl : NQ ≤ 201 := by have h1 := congrArg List.length hQ; have h2 := parts_len (runsL L) C; have h3 := hC.len; have h4 := HNL.out; rw [List.length_map] at h1; omega
    rw [hNQ]
    have HNQ := Lib.hid hNQ
    have HP := Lib.hid hP
    have HC := Lib.hid hC
    have HQ := Lib.hid hQ
    clear hP hC hQ hNQ
    refine hK _ _ ?_
    clear hK K
    refine wpAny_take (i := 12) (v := ?_) rfl (by kernel_rfl) (by kernel_rfl) (by kernel_rfl) (fun _ _ _ h => h) (Or.inl ⟨by rfl, ?_⟩) ?_
    rotate_left
    · (intro w; go_simp)
      try with_reducible rfl
    refine wpAny_take (i := 13) (v := ?_) rfl (by kernel_rfl) (by kernel_rfl) (by kernel_rfl) (fun _ _ _ h => h) (Or.inl ⟨by rfl, ?_⟩) ?_
    rotate_left
    · (intro w; go_simp)
      try with_reducible rfl
    refine wpAny_take (i := 14) (v := ?_) rfl (by kernel_rfl) (by kernel_rfl) (by kernel_rfl) (fun _ _ _ h => h) (Or.inl ⟨by rfl, ?_⟩) ?_
    rotate_left
    · (intro w; go_simp)
      try with_reducible rfl
    refine wpAny_take (i := 15) (v := ?_) rfl (by kernel_rfl) (by kernel_rfl) (by kernel_rfl) (fun _ _ _ h => h) (Or.inl ⟨by rfl, ?_⟩) ?_
    rotate_left
    · (intro w; go_simp)
      try with_reducible rfl
    refine wpAny_take (i := 16) (v := ?_) rfl (by kernel_rfl) (by kernel_rfl) (by kernel_rfl) (fun _ _ _ h => h) (Or.inl ⟨by rfl, ?_⟩) ?_
    rotate_left
    · (intro w; go_simp)
      try with_reducible rfl
    refine wpAny_done (by kernel_rfl) ?_ _
    have k3 : Kept (fun _ => False) W w3 := (Kept.refl (fun _ => False) W).drew.trans HP.out.kept
    have kw3 := KP.out.trans k3
    obtain ⟨Cm, hmk, hnw⟩ := make_any (P := Tryz.prog) 22 50 (.agg #[.slice none 0 0, .int .i64 0, .int .i64 0]) 3 40 Tryz.underlying22 (by kernel_rfl) (2 * NQ) (2 * (NQ : Int)) (by omega) (by unfold maxLen; omega) (by omega)
    have hn0 := hnw PE encE w3
    have hE0 : EdN w3 (w3.alloc (.cells Cm 50)) (.slice (some ⟨w3.heap.size, 0, none⟩) 0 (2 * NQ)) [] := ⟨hn0.row, hn0.own, (fun p hp => by cases hp), hn0.kept⟩
    have HE0 := Lib.hid hE0
    have KW3 := Lib.hid kw3
    have K3 := Lib.hid k3
    clear hn0 hnw hE0 kw3 k3 kd d2 d3 d4 d5 d6 d7 e2 e3 e4 e5 e6 e7 hwd
    go_wp2_with fail
    go_loopg [37, 8] NQ (fun k iv ov wr => ∃ (i : Nat) (M2 : List PE), i + k = NQ ∧ iv = .int .i64 i ∧ EdN w3 wr ov M2 ∧ Hid (M2.map Prod.snd = ansP ((Q.take i).map PPart.ab)) ∧ M2.length = 2 * i)
    case atStart => exact ⟨0, [], by omega, rfl, HE0.out, rfl, rfl⟩
    case round =>
      obtain ⟨i, M2, hk, rfl, hE, HM2, hML⟩ := hrel
      obtain ⟨Ao, co, rfl, _, _⟩ := hE.row.shape
      rw [hML]
      have HML := Lib.hid hML
      have HE := Lib.hid hE
      have HK := Lib.hid hE.kept
      clear hML hE
      by_cases hlt : i < NQ
      · obtain ⟨q, hq⟩ : ∃ q, Q[i]? = some q := ⟨Q[i]'(by rw [HNQ.out]; exact hlt), List.getElem?_eq_getElem _⟩
        have hqm := List.mem_of_getElem? hq
        obtain ⟨A3', c3', e9, _, hsP⟩ := HP.out.row.asSrc encPt_len
        injection e9 with e91 e92 e93
        subst e91 e93
        clear e92
        obtain ⟨b, off, rfl, _, hcc⟩ := hsP i q hq
        have x0 := HK.out.cell (hcc 0 _ rfl) (fun q => q)
        have x1 := HK.out.cell (hcc 1 _ rfl) (fun q => q)
        have x2 := HK.out.cell (hcc 2 _ rfl) (fun q => q)
        have htk : ansP ((Q.take (i + 1)).map PPart.ab) = ansP ((Q.take i).map PPart.ab) ++ [⟨numW (totL (q.l.map PCop.ab)), q.s, 1⟩, ⟨numW (totL (q.l.map PCop.ab)), q.t, -1⟩] := by
          rw [List.take_add_one, hq, List.map_append, ansP_app]; rfl
        obtain ⟨a, _, ha1, ha2⟩ := parts_mem (runsL L) C q.ab (by rw [← HQ.out]; exact List.mem_map.2 ⟨q, hqm, rfl⟩)
        have hlq : q.l.map PCop.ab = thereL (runsL L) a := ha1
        have hcp := (HP.out.parts q hqm).same HK.out
        have hokq : ∀ p ∈ q.l, CopOk p := fun p hp => there_ok HM.out H1.out a p.ab (by rw [← hlq]; exact List.mem_map.2 ⟨p, hp, rfl⟩)
        have hneq : q.l ≠ [] := fun e => ha2 (by rw [← hlq, e]; rfl)
        have hlenq : q.l.length ≤ 4096 := by
          have h6 := congrArg List.length hlq
          rw [List.length_map] at h6
          have h7 := there_len (runsL L) a
          have h8 := runs_len L
          have h9 := HNL.out
          omega
        have htot : totL (q.l.map PCop.ab) = cntE L a := by rw [hlq, there_tot _ _ (edTab_run HTB.out), cntE_runs]
        obtain ⟨qs, qt, qa, qc, ql⟩ := q
        simp only [Nat.add_zero, PPart.v] at x0 x1 x2 hcp hokq hneq hlenq htot htk
        have kal := (Kept.refl (fun _ => False) wr).alloc (.cells #[.int .i64 qs, .int .i64 qt, .slice qa ql.length qc] 109)
        have gb1 := heap_alloc_new wr (.cells #[.int .i64 qs, .int .i64 qt, .slice qa ql.length qc] 109)
        obtain ⟨V1, hV1⟩ : ∃ V1, wr.alloc (.cells #[.int .i64 qs, .int .i64 qt, .slice qa ql.length qc] 109) = V1 := ⟨_, rfl⟩
        have HV1 := Lib.hid hV1
        rw [hV1] at kal gb1
        have kd1 := (Kept.refl (fun _ => False) V1).drew
        have kWV := ((K3.out.trans HK.out).trans kal).trans kd1
        have gpv := kWV.heap HGP.out (fun q => q)
        have ggv := kWV.heap HGG.out (fun q => q)
        have p0 := cell_of_row _ _ 0 _ _ _ gpv
        have p1 := cell_of_row _ _ 1 _ _ _ gpv
        have p2 := cell_of_row _ _ 2 _ _ _ gpv
        have p3 := cell_of_row _ _ 3 _ _ _ gpv
        have p4 := cell_of_row _ _ 4 _ _ _ gpv
        have p5 := cell_of_row _ _ 5 _ _ _ gpv
        have p6 := cell_of_row _ _ 6 _ _ _ gpv
        have pg := cell_of_row _ _ 1 _ _ _ ggv
        have y0 := cell_of_row _ _ 0 _ _ _ (kd1.heap gb1 (fun q => q))
        have y1 := cell_of_row _ _ 1 _ _ _ (kd1.heap gb1 (fun q => q))
        have y2 := cell_of_row _ _ 2 _ _ _ (kd1.heap gb1 (fun q => q))
        simp only [List.getElem?_toArray, List.getElem?_cons_zero, List.getElem?_cons_succ] at p0 p1 p2 p3 p4 p5 p6 pg y0 y1 y2
        have hone := one_any As Aa (some ⟨Av, 0, none⟩) cs ca cv ⟨qs, qt, qa, qc, ql⟩ V1.drew (HS.out.1.same kWV) (HS.out.2.same kWV) (fun q => by cases q) (hcp.same (kal.trans kd1)) hokq hneq hlenq
        obtain ⟨tt, htt⟩ : ∃ tt, totL (ql.map PCop.ab) = tt := ⟨_, rfl⟩
        simp only at hone
        rw [htt] at hone htot htk
        have HTK := Lib.hid htk
        have HTOT := Lib.hid htot
        have HKD := Lib.hid (show _ ∧ _ ∧ _ from ⟨kal, kd1, gb1⟩)
        clear hcp hokq hneq hlenq htot htk htt hlq ha1 ha2 kal kd1 gb1 gpv ggv kWV hcc hsP hq hqm hV1
        go_wp2_with fail
        rw [HV1.out]
        refine region_drawn rfl ?_
        apply meet
        case h =>
          intro tail
          refine wpAny_take (i := 1) (v := ?_) rfl (by kernel_rfl) (by kernel_rfl) (by kernel_rfl) (fun _ _ _ h => h) (Or.inl ⟨by rfl, ?_⟩) ?_
          rotate_left
          · (intro w; go_simp)
            try with_reducible rfl
          refine wpAny_take (i := 2) (v := ?_) rfl (by kernel_rfl) (by kernel_rfl) (by kernel_rfl) (fun _ _ _ h => h) (Or.inl ⟨by rfl, ?_⟩) ?_
          rotate_left
          · (intro w; go_simp)
            try with_reducible rfl
          refine wpAny_take (i := 3) (v := ?_) rfl (by kernel_rfl) (by kernel_rfl) (by kernel_rfl) (fun _ _ _ h => h) (Or.inl ⟨by rfl, ?_⟩) ?_
          rotate_left
          · (intro w; go_simp)
            try with_reducible rfl
          refine wpAny_ready (rs := [0, 4, 5]) (by kernel_rfl) (by simp) ?_
          refine AllReady.cons rfl (fun K hK => ?_) ?_
          · skip
            go_simp
            refine hK _ _ ?_
            clear hK K
            refine wpAny_ready (rs := [4, 5]) (by kernel_rfl) (by simp) ?_
            refine AllReady.cons rfl (fun K hK => ?_) ?_
            · skip
              go_simp
              refine hK _ _ ?_
              clear hK K
              refine wpAny_ready (rs := [5]) (by kernel_rfl) (by simp) ?_
              refine AllReady.cons rfl (fun K hK => ?_) AllReady.nil
              go_simp
              refine hK _ _ ?_
              clear hK K
              exact tail
            · skip
              refine AllReady.cons rfl (fun K hK => ?_) AllReady.nil
              go_simp
              refine hK _ _ ?_
              clear hK K
              refine wpAny_ready (rs := [4]) (by kernel_rfl) (by simp) ?_
              refine AllReady.cons rfl (fun K hK => ?_) AllReady.nil
              go_simp
              refine hK _ _ ?_
              clear hK K
              exact tail
          · skip
            refine AllReady.cons rfl (fun K hK => ?_) ?_
            · skip
              go_simp
              refine hK _ _ ?_
              clear hK K
              refine wpAny_ready (rs := [0, 5]) (by kernel_rfl) (by simp) ?_
              refine AllReady.cons rfl (fun K hK => ?_) ?_
              · skip
                go_simp
                refine hK _ _ ?_
                clear hK K
                refine wpAny_ready (rs := [5]) (by kernel_rfl) (by simp) ?_
                refine AllReady.cons rfl (fun K hK => ?_) AllReady.nil
                go_simp
                refine hK _ _ ?_
                clear hK K
                exact tail
              · skip
                refine AllReady.cons rfl (fun K hK => ?_) AllReady.nil
                go_simp
                refine hK _ _ ?_
                clear hK K
                refine wpAny_ready (rs := [0]) (by kernel_rfl) (by simp) ?_
                refine AllReady.cons rfl (fun K hK => ?_) AllReady.nil
                go_simp
                refine hK _ _ ?_
                clear hK K
                exact tail
            · skip
              refine AllReady.cons rfl (fun K hK => ?_) AllReady.nil
              go_simp
              refine hK _ _ ?_
              clear hK K
              refine wpAny_ready (rs := [0, 4]) (by kernel_rfl) (by simp) ?_
              refine AllReady.cons rfl (fun K hK => ?_) ?_
              · skip
                go_simp
                refine hK _ _ ?_
                clear hK K
                refine wpAny_ready (rs := [4]) (by kernel_rfl) (by simp) ?_
                refine AllReady.cons rfl (fun K hK => ?_) AllReady.nil
                go_simp
                refine hK _ _ ?_
                clear hK K
                exact tail
              · skip
                refine AllReady.cons rfl (fun K hK => ?_) AllReady.nil
                go_simp
                refine hK _ _ ?_
                clear hK K
                refine wpAny_ready (rs := [0]) (by kernel_rfl) (by simp) ?_
                refine AllReady.cons rfl (fun K hK => ?_) AllReady.nil
                go_simp
                refine hK _ _ ?_
                clear hK K
                exact tail
        case t =>
          refine wpAny_ready (rs := [6]) (by kernel_rfl) (by simp) ?_
          refine AllReady.cons rfl (fun K hK => ?_) AllReady.nil
          go_simp
          refine Calls.mono hone ?_
          rintro e w5 ⟨v5, k5e, rfl, hres⟩
          refine hK _ _ ?_
          clear hK K
          refine wpAny_take (i := 7) (v := ?_) rfl (by kernel_rfl) (by kernel_rfl) (by kernel_rfl) (fun _ _ _ h => h) (Or.inl ⟨by rfl, ?_⟩) ?_
          rotate_left
          · (intro w; go_simp)
            try with_reducible rfl
          refine wpAny_take (i := 8) (v := ?_) rfl (by kernel_rfl) (by kernel_rfl) (by kernel_rfl) (fun _ _ _ h => h) (Or.inl ⟨by rfl, ?_⟩) ?_
          rotate_left
          · (intro w; go_simp)
            try with_reducible rfl
          refine wpAny_take (i := 9) (v := ?_) rfl (by kernel_rfl) (by kernel_rfl) (by kernel_rfl) (fun _ _ _ h => h) (Or.inl ⟨by rfl, ?_⟩) ?_
          rotate_left
          · (intro w; go_simp)
            try with_reducible rfl
          refine wpAny_take (i := 10) (v := ?_) rfl (by kernel_rfl) (by kernel_rfl) (by kernel_rfl) (fun _ _ _ h => h) (Or.inl ⟨by rfl, ?_⟩) ?_
          rotate_left
          · (intro w; go_simp)
            try with_reducible rfl
          refine wpAny_take (i := 11) (v := ?_) rfl (by kernel_rfl) (by kernel_rfl) (by kernel_rfl) (fun _ _ _ h => h) (Or.inl ⟨by rfl, ?_⟩) ?_
          rotate_left
          · (intro w; go_simp)
            try with_reducible rfl
          refine wpAny_done (by kernel_rfl) ?_ _
          obtain ⟨kal, kd1, gb1⟩ := HKD.out
          rcases hres with ⟨rfl, hfit, hn5⟩ | ⟨hk5, rfl, hbig, k5⟩
          · obtain ⟨A5, c5, rfl, _, _⟩ := hn5.shape
            rw [show (numW tt).length = 1 from rfl] at hn5 ⊢
            have k5 := hn5.kept
            have z0 := cell_of_row _ _ 0 _ _ _ (k5.heap (kd1.heap gb1 (fun q => q)) (fun q => q))
            have z1 := cell_of_row _ _ 1 _ _ _ (k5.heap (kd1.heap gb1 (fun q => q)) (fun q => q))
            simp only [List.getElem?_toArray, List.getElem?_cons_zero, List.getElem?_cons_succ] at z0 z1
            have kb := (Kept.refl (fun _ => False) w5).alloc (.cells #[.slice A5 1 c5, .int .i64 qs, .int .i64 1, .slice A5 1 c5, .int .i64 qt, .int .i64 (-1)] 50)
            have hb5 := heap_alloc_new w5 (.cells #[.slice A5 1 c5, .int .i64 qs, .int .i64 1, .slice A5 1 c5, .int .i64 qt, .int .i64 (-1)] 50)
            have ko : Kept (fun _ => False) wr (w5.alloc (.cells #[.slice A5 1 c5, .int .i64 qs, .int .i64 1, .slice A5 1 c5, .int .i64 qt, .int .i64 (-1)] 50)) := ((kal.trans kd1).trans k5).trans kb
            have hown : ∀ j, (Value.slice A5 1 c5).ownBlock = some j → w3.heap.size ≤ j := fun j hj => Nat.le_trans (HE.out.kept.trans (kal.trans kd1)).size (hn5.own j hj)
            have hrw5 := hn5.row.same kb
            obtain ⟨v', w', hrun, hE'⟩ := HE.out.lits (P := Tryz.prog) 22 22 (.agg #[.slice none 0 0, .int .i64 0, .int .i64 0]) 40 Tryz.underlying22 (by kernel_rfl) rfl ko [((A5, c5), ⟨numW tt, qs, 1⟩), ((A5, c5), ⟨numW tt, qt, -1⟩)] (fun p hp => by
              simp only [List.mem_cons, List.not_mem_nil, or_false] at hp
              rcases hp with rfl | rfl <;> exact ⟨hrw5, hown⟩) w5.heap.size 2 hb5 (by rw [HML.out]; simp only [List.length_cons, List.length_nil, maxLen]; omega) (by rw [HML.out]; simp only [List.length_cons, List.length_nil]; omega)
            rw [HML.out] at hrun
            simp only [List.length_cons, List.length_nil] at hrun
            have HE' := Lib.hid hE'
            clear hE' hrw5 hown ko hb5 kb hn5 k5
            have tok := True.intro
            go_wp2_with (at_builtin; have _t := tok; refine wpList_run rfl _ _ _ rfl rfl rfl hrun ?_; clear tok)
            go_roundg (NQ - (i + 1))
            case measure => omega
            case rel =>
              refine ⟨i + 1, M2 ++ [((A5, c5), ⟨numW tt, qs, 1⟩), ((A5, c5), ⟨numW tt, qt, -1⟩)], by omega, rfl, HE'.out, ?_, by rw [List.length_append, HML.out]; simp only [List.length_cons, List.length_nil]; omega⟩
              rw [HTK.out, List.map_append, HM2.out]
              exact rfl
          · have hk6 : (k5e != 0) = true := by simpa using hk5
            have HKF := Lib.hid ((((KP.out.trans (K3.out.trans HK.out)).trans kal).trans kd1).trans k5)
            clear kal kd1 gb1 k5
            go_wp2_with fail
            go_ret2
            exact ⟨_, k5e, rfl, .inr ⟨hk5, rfl, HKF.out, a, by rw [← HTOT.out]; exact hbig⟩⟩
      · have hi : i = Q.length := by rw [HNQ.out]; omega
        have hm := HM2.out
        rw [hi, List.take_length, HQ.out, ansP_parts HTB.out] at hm
        have HMM := Lib.hid hm
        have HE2 : Hid (EdN w3 wr (.slice Ao (2 * i) co) M2) := by have h := HE.out; rw [HML.out] at h; exact h
        clear hm hi
        go_wp2_with fail
        go_ret2
        exact ⟨_, 0, rfl, .inl ⟨rfl, M2, C, HE2.out.from KW3.out, HC.out, HMM.out⟩⟩
end Go.Proofs.YthkeigljiinlbaaGreat
