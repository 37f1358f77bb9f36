/- parse: atom. -/
import Derived.Test.YtballmombklalaaGreatM18
namespace Go.Proofs.YtballmombklalaaGreat
open Go.RowKit

set_option maxHeartbeats 4000000 in
set_option maxRecDepth 100000 in
theorem atom_end (p : Nat) (T : List Tok) (S : List Cl) (i d : Nat) (w : World) (h : PS w p T S i d) (hi : i = T.length) :
    Calls Tryz.prog 152 #[.pointer (some ⟨p, 0, none⟩)] w (ParPost p T S d w (.error 5)) := by
  subst hi
  have hnd := fun wx => need_no 5 wx
  obtain ⟨A, c, B, e, hb, hT, hS, c0, c1, c2, c3, f1, f2, hp⟩ := h.cells
  have hsm := h.small
  have K1 : Hid (Kept (fun j => j = p) w w.drew) := (Kept.refl _ w).drew
  clear hb hT hS h
  go_enter Tryz.func152, Tryz.ntmps152
  go_wp2_with fail
  go_still_tail 10, (by kernel_rfl)
  change wpList _ _ _ _ _ w.drew
  go_wp2_with fail
  refine (hnd _).mono ?_
  rintro e w1 ⟨rfl, rfl⟩
  exact ⟨rfl, rfl, K1.out⟩

/-- Is a name one of the four words? -/
theorem words_any (B : Nat) (T : TypeId) (f : Nat × Nat) (tt : List UInt8) (W : World) (hB : W.heap[B]? = some (.cells #[.string ⟨#[97, 110, 100]⟩, .string ⟨#[111, 114]⟩, .string ⟨#[110, 111, 116]⟩, .string ⟨#[108, 101, 110]⟩] T f)) :
    Calls Tryz.prog 155 #[.slice (some ⟨B, 0, none⟩) 4 4, .string ⟨⟨tt⟩⟩] W fun e w' => e = .returned (.bool (wordB tt)) ∧ w' = W := by
  have h := Tryz.slices_Contains_string B 0 4 4 [⟨#[97, 110, 100]⟩, ⟨#[111, 114]⟩, ⟨#[110, 111, 116]⟩, ⟨#[108, 101, 110]⟩] ⟨⟨tt⟩⟩ W (by simp) (by omega) (fun j hj => by
    rw [Nat.zero_add, cell_of_row W B j _ _ _ hB]
    simp only [List.length_cons, List.length_nil] at hj
    have : j = 0 ∨ j = 1 ∨ j = 2 ∨ j = 3 := by omega
    rcases this with rfl | rfl | rfl | rfl <;> rfl)
  have e : Lib.containsS (List.take 4 [⟨#[97, 110, 100]⟩, ⟨#[111, 114]⟩, ⟨#[110, 111, 116]⟩, ⟨#[108, 101, 110]⟩]) ⟨⟨tt⟩⟩ = wordB tt := by
    rw [Bool.eq_iff_iff, Lib.containsS_iff]
    unfold wordB
    simp
  rw [e] at h
  exact h

set_option maxHeartbeats 4000000 in
set_option maxRecDepth 100000 in
theorem atom_p (p : Nat) (T : List Tok) (S : List Cl) (i d : Nat) (w : World) (X : PR) (h : PS w p T S i d) (htl : ∀ t ∈ T, t.t.length ≤ 1048576) (hq3 : ∀ t ∈ T, t.k = 3 → t.t[0]? = some 39)
    (hin : i < T.length → ∀ wx, PS wx p T S i d → Calls Tryz.prog 142 #[.pointer (some ⟨p, 0, none⟩), .func (.func 44) #[.pointer (some ⟨p, 0, none⟩)] #[]] wx (ParPost p T S d wx X)) :
    Calls Tryz.prog 152 #[.pointer (some ⟨p, 0, none⟩)] w (ParPost p T S d w (atomP S (fun _ => X) (T.drop i))) := by
  have hle := h.le
  have hsm := h.small
  have h8 := h.cols
  by_cases hi : i < T.length
  · obtain ⟨t, ht⟩ : ∃ t, T[i]? = some t := ⟨T[i], List.getElem?_eq_getElem hi⟩
    have htm := List.mem_of_getElem? ht
    have htt := htl t htm
    have htq := hq3 t htm
    have hdr : T.drop i = t :: T.drop (i + 1) := by
      rw [List.drop_eq_getElem_cons hi]; congr 1; rw [List.getElem?_eq_getElem hi] at ht; injection ht
    obtain ⟨A, c, B, e, hb, hT, hS, c0, c1, c2, c3, f1, f2, hp⟩ := h.cells
    obtain ⟨b, off, rfl, _, x0, x1⟩ := hT.cellsT ht
    have hnum := fun wx hx => number_p [] wx p T S i d hx hi (by simp) htl
    rw [hdr] at hnum ⊢
    rw [atomP]
    obtain ⟨tk, tt⟩ := t
    simp only at x0 x1 htt htq ⊢
    obtain ⟨R, hR⟩ : ∃ R : PR, (if tk = 2 then numP [] (⟨tk, tt⟩ :: T.drop (i + 1))
      else if tk = 3 then (if (parQ tt).2 = 0 then .ok ([⟨2, 0, (parQ tt).1⟩], T.drop (i + 1)) else .error (parQ tt).2)
      else if tk = 1 then (if wordB tt = true then .error 4 else if 0 ≤ indexC S tt 0 then .ok ([⟨3, indexC S tt 0, []⟩], T.drop (i + 1)) else .error 8)
      else if tt = [40] then closeP X else .error 4) = R := ⟨_, rfl⟩
    rw [hR]
    have hny := fun wx => need_yes 5 wx
    have hi' : (i : Int) < (T.length : Int) := by omega
    have a0 := cell_al c0
    have a1 := cell_al c1
    have a4 := cell_al x0
    have a5 := cell_al x1
    have b0 := fun n => (box_al w #[.int .i64 0, .string ⟨#[]⟩] 96 n 0).1
    have b1 := fun n => (box_al w #[.int .i64 0, .string ⟨#[]⟩] 96 n 1).1
    have b2 := fun n => (box_al w #[.int .i64 0, .string ⟨#[]⟩] 96 n 0).2
    have b3 := fun n => (box_al w #[.int .i64 0, .string ⟨#[]⟩] 96 n 1).2
    simp only [List.getElem?_toArray, List.getElem?_cons_zero, List.getElem?_cons_succ] at b0 b1
    have HPS := Lib.hid h
    have HR := Lib.hid hR
    have HDR := Lib.hid hdr
    clear hdr ht hb hT hS h hR htl hq3
    go_enter Tryz.func152, Tryz.ntmps152
    go_wp2_with fail
    go_quiet ((go_at_call 45; exact Calls.quiet_of_same (hny _)))
    go_wp2_with fail
    go_region
    all_goals
      obtain ⟨q0, q1, kV⟩ := two_set (S := fun _ => False) (b0 (nq + 1)) (b1 (nq + 1)) (((Kept.refl _ w).drewN _).alloc _) (fun q => by omega) (.int .i64 tk) (.string ⟨⟨tt⟩⟩) _ rfl
      have hbx := blk_set (blk_set (heap_alloc_new (w.drewN (nq + 1)) (.cells #[.int .i64 0, .string ⟨#[]⟩] 96)) 0 (.int .i64 tk)) 1 (.string ⟨⟨tt⟩⟩)
      clear b0 b1 b2 b3 a0 a1 a4 a5 x0 x1 c0 c1 c2 c3 f1 f2 hny
      obtain ⟨V, hV⟩ : ∃ V, (((w.drewN (nq + 1)).alloc (.cells #[.int .i64 0, .string ⟨#[]⟩] 96)).setCell ⟨w.heap.size, 0, none⟩ (.int .i64 tk)).setCell ⟨w.heap.size, 1, none⟩ (.string ⟨⟨tt⟩⟩) = V := ⟨_, rfl⟩
      rw [show (w.drewN (nq + 1)).heap.size = w.heap.size from rfl] at hbx
      rw [hV] at q0 q1 kV hbx ⊢
      clear hV
      have psV := HPS.out.same kV
      obtain ⟨A, c0', B', e0, _, _, hSV, c0, c1, c2, c3, f1, f2, _⟩ := psV.cells
      have KV : Kept (fun j => j = p) w V := kV.mono (fun _ _ q => q.elim)
      have hbl := (Array.getElem?_eq_some_iff.1 hbx).1
      by_cases g2 : tk = 2
      · have HX : Hid (R = numP [] (⟨tk, tt⟩ :: T.drop (i + 1))) := by unfold Hid; rw [← HR.out, if_pos g2]
        generalize numP [] (⟨tk, tt⟩ :: T.drop (i + 1)) = N at *
        subst g2
        clear HR hin htq hSV hbx
        cases N with
        | error ee =>
          go_wp2_with fail
          refine (hnum _ psV).mono ?_
          intro e w9 hpost
          have hpost2 := hpost.from (KV)
          obtain ⟨rfl, k9⟩ := hpost2
          exact ⟨rfl, by rw [HX.out]; exact ⟨rfl, k9⟩⟩
        | ok q =>
          go_wp2_with fail
          refine (hnum _ psV).mono ?_
          intro e w9 hpost
          have hpost2 := hpost.from (KV)
          obtain ⟨v, i1, rfl, h1, h2, h3⟩ := hpost2
          go_wp2_with fail
          go_ret
          rw [HX.out]
          exact ⟨v, i1, rfl, h1, h2, h3⟩
      · have g2' : (tk == 2) = false := by simpa using g2
        by_cases g3 : tk = 3
        · have hpq := fun wx => vparse_any tt wx htt (htq g3)
          have HX : Hid (R = if (parQ tt).2 = 0 then .ok ([⟨2, 0, (parQ tt).1⟩], T.drop (i + 1)) else .error (parQ tt).2) := by unfold Hid; rw [← HR.out, if_neg g2, if_pos g3]
          generalize kindQ tt = kq at *
          generalize parQ tt = pq at *
          obtain ⟨s, ee⟩ := pq
          simp only at hpq HX
          subst g3
          clear HR hin htq hSV g2 hnum
          by_cases g4 : ee = 0
          · have HX2 : Hid (R = .ok ([⟨2, 0, s⟩], T.drop (i + 1))) := by unfold Hid; rw [HX.out, if_pos g4]
            have g4' : (ee == 0) = true := by simpa using g4
            subst g4
            have hnd := fun wx => need_yes 0 wx
            clear HX
            go_wp2_with fail
            refine (hpq _).mono ?_
            rintro e w2 ⟨rfl, k2⟩
            have ps2 := psV.same k2
            have ps3 := ps2.same ((Kept.refl _ w2).alloc (.cells #[.int .i64 kq, .int .i64 0, .string ⟨⟨s⟩⟩] 52))
            obtain ⟨A3, cc3, B3, e3, _, _, _, y0, y1, y2, y3, f1', f2', _⟩ := ps3.cells
            obtain ⟨p4, k4⟩ := ps3.at ((i : Int) + 1) (i + 1) (by omega) (by omega)
            have hz := heap_alloc_new w2 (.cells #[.int .i64 kq, .int .i64 0, .string ⟨⟨s⟩⟩] 52)
            have K4 := Lib.hid (((KV.trans (k2.mono (fun _ _ q => q.elim))).alloc (.cells #[.int .i64 kq, .int .i64 0, .string ⟨⟨s⟩⟩] 52)).trans k4)
            have hz4 := cell_of_row _ w2.heap.size 2 _ _ _ (k4.heap hz (fun q => by have := k2.size; omega))
            simp only [List.getElem?_toArray, List.getElem?_cons_zero, List.getElem?_cons_succ] at hz4
            obtain ⟨W3, hW3⟩ : ∃ W3, w2.alloc (.cells #[.int .i64 kq, .int .i64 0, .string ⟨⟨s⟩⟩] 52) = W3 := ⟨_, rfl⟩
            obtain ⟨W4, hW4⟩ : ∃ W4, W3.setCell ⟨p, 1, none⟩ (.int .i64 ((i : Int) + 1)) = W4 := ⟨_, rfl⟩
            rw [hW3] at y0 y1 y2 y3 f1' f2'
            rw [hW3, hW4] at p4 K4 hz4
            have P4 := Lib.hid p4
            clear p4 k4 hz ps3 ps2
            go_wp2_with fail
            refine (hnd _).mono ?_
            rintro e w9 ⟨rfl, rfl⟩
            go_wp2_with fail
            go_ret
            rw [HX2.out]
            exact ⟨_, i + 1, rfl, NewS.mkL encW_len w _ K4.out [⟨2, 0, s⟩] (by simp [maxLen]) _ rfl 1 rfl _ (by first | rfl | simp [World.setCell]), P4.out.same ((Kept.refl _ _).alloc _), rfl⟩
          · have HX2 : Hid (R = .error ee) := by unfold Hid; rw [HX.out, if_neg g4]
            have g4' : (ee == 0) = false := by simpa using g4
            have hnd := fun wx => need_no ee wx
            clear HX
            go_wp2_with fail
            refine (hpq _).mono ?_
            rintro e w2 ⟨rfl, k2⟩
            go_wp2_with fail
            refine (hnd _).mono ?_
            rintro e w9 ⟨rfl, rfl⟩
            exact ⟨rfl, by rw [HX2.out]; exact ⟨rfl, (KV.trans (k2.mono (fun _ _ q => q.elim))).alloc _⟩⟩
        · have g3' : (tk == 3) = false := by simpa using g3
          by_cases g1 : tk = 1
          · have HX : Hid (R = if wordB tt = true then .error 4 else if 0 ≤ indexC S tt 0 then .ok ([⟨3, indexC S tt 0, []⟩], T.drop (i + 1)) else .error 8) := by unfold Hid; rw [← HR.out, if_neg g2, if_neg g3, if_pos g1]
            subst g1
            have k1V := (Kept.refl (fun _ => False) V).alloc (.cells #[.string ⟨#[97, 110, 100]⟩, .string ⟨#[111, 114]⟩, .string ⟨#[110, 111, 116]⟩, .string ⟨#[108, 101, 110]⟩] 9)
            have hB := heap_alloc_new V (.cells #[.string ⟨#[97, 110, 100]⟩, .string ⟨#[111, 114]⟩, .string ⟨#[110, 111, 116]⟩, .string ⟨#[108, 101, 110]⟩] 9)
            obtain ⟨V1, hV1⟩ : ∃ V1, V.alloc (.cells #[.string ⟨#[97, 110, 100]⟩, .string ⟨#[111, 114]⟩, .string ⟨#[110, 111, 116]⟩, .string ⟨#[108, 101, 110]⟩] 9) = V1 := ⟨_, rfl⟩
            rw [hV1] at k1V hB
            have hwd := words_any V.heap.size _ _ tt V1 hB
            have ps1 := psV.same k1V
            have q1' := k1V.cell q1 (fun q => q)
            have q0' := k1V.cell q0 (fun q => q)
            have KV1 : Hid (Kept (fun j => j = p) w V1) := KV.trans (k1V.mono (fun _ _ q => q.elim))
            obtain ⟨A3, cc3, B3, e3, _, _, hS3, y0, y1, y2, y3, f1', f2', _⟩ := ps1.cells
            have hix := fun wx hk => index_any S B3 e3 tt wx (by have := h8; unfold maxLen; omega) ((hS3.kept (Kept.refl (fun _ => False) V1) (fun _ q => q.elim) (fun _ q => q.elim) : Src encC 2 V1 (fun _ => False) B3 S).same hk)
            have PS1 := Lib.hid ps1
            clear hB hSV hbx HR htq g2 g3 hnum hin ps1 c0 c1 c2 c3 f1 f2
            cases gw : wordB tt with
            | true =>
              rw [gw] at hwd
              have HX2 : Hid (R = .error 4) := by unfold Hid; rw [HX.out, if_pos gw]
              have hnd := fun wx => need_no 4 wx
              clear HX gw hix
              go_wp2_with fail
              refine hwd.mono ?_
              rintro e w2 ⟨rfl, rfl⟩
              go_wp2_with fail
              refine (hnd _).mono ?_
              rintro e w9 ⟨rfl, rfl⟩
              exact ⟨rfl, by rw [HX2.out]; exact ⟨rfl, KV1.out⟩⟩
            | false =>
              rw [gw] at hwd
              have HX1 : Hid (R = if 0 ≤ indexC S tt 0 then .ok ([⟨3, indexC S tt 0, []⟩], T.drop (i + 1)) else .error 8) := by unfold Hid; rw [HX.out, if_neg (by rw [gw]; simp)]
              have hnd4 := fun wx => need_yes 4 wx
              generalize indexC S tt 0 = ix at *
              clear HX gw
              have K1d : Kept (fun _ => False) V1 V1.drew := (Kept.refl _ V1).drew
              by_cases g5 : 0 ≤ ix
              · have HX2 : Hid (R = .ok ([⟨3, ix, []⟩], T.drop (i + 1))) := by unfold Hid; rw [HX1.out, if_pos g5]
                have hnd8 := fun wx => need_yes 8 wx
                have g5' : decide ((0 : Int) ≤ ix) = true := by simpa using g5
                clear HX1
                go_wp2_with fail
                refine hwd.mono ?_
                rintro e w2 ⟨rfl, rfl⟩
                go_wp2_with fail
                refine (hnd4 _).mono ?_
                rintro e w3 ⟨rfl, rfl⟩
                go_wp2_with fail
                go_still_tail 6, (by kernel_rfl)
                change wpList _ _ _ _ _ w3.drew
                go_wp2_with fail
                refine (hix _ K1d).mono ?_
                rintro e w4 ⟨rfl, k4⟩
                have ps4 := (PS1.out.same K1d).same k4
                obtain ⟨A5, c5, B5, e5, _, _, _, z0, z1, z2, z3, f1'', f2'', _⟩ := ps4.cells
                obtain ⟨p5, k5⟩ := ps4.at ((i : Int) + 1) (i + 1) (by omega) (by omega)
                have P5 := Lib.hid p5
                have K5 := Lib.hid ((KV1.out.trans ((K1d.trans k4).mono (fun _ _ q => q.elim))).trans k5)
                clear p5 k5 ps4
                go_wp2_with fail
                refine (hnd8 _).mono ?_
                rintro e w9 ⟨rfl, rfl⟩
                go_wp2_with fail
                go_ret
                rw [HX2.out]
                exact ⟨_, i + 1, rfl, NewS.mkL encW_len w _ K5.out [⟨3, ix, []⟩] (by simp [maxLen]) _ rfl 1 rfl _ (by first | rfl | simp [World.setCell]), P5.out.same ((Kept.refl _ _).alloc _), rfl⟩
              · have HX2 : Hid (R = .error 8) := by unfold Hid; rw [HX1.out, if_neg g5]
                have hnd8 := fun wx => need_no 8 wx
                have g5' : decide ((0 : Int) ≤ ix) = false := by simp; omega
                clear HX1 g5
                go_wp2_with fail
                refine hwd.mono ?_
                rintro e w2 ⟨rfl, rfl⟩
                go_wp2_with fail
                refine (hnd4 _).mono ?_
                rintro e w3 ⟨rfl, rfl⟩
                go_wp2_with fail
                go_still_tail 6, (by kernel_rfl)
                change wpList _ _ _ _ _ w3.drew
                go_wp2_with fail
                refine (hix _ K1d).mono ?_
                rintro e w4 ⟨rfl, k4⟩
                go_wp2_with fail
                refine (hnd8 _).mono ?_
                rintro e w9 ⟨rfl, rfl⟩
                exact ⟨rfl, by rw [HX2.out]; exact ⟨rfl, KV1.out.trans ((K1d.trans k4).mono (fun _ _ q => q.elim))⟩⟩
          · have g1' : (tk == 1) = false := by simpa using g1
            by_cases g4 : tt = [40]
            · have HX : Hid (R = closeP X) := by unfold Hid; rw [← HR.out, if_neg g2, if_neg g3, if_neg g1, if_pos g4]
              have g4' : (tt == [40]) = true := by simpa using g4
              have hnd := fun wx => need_yes 4 wx
              have hX := hin hi V psV
              have hmf : ∀ (fn : Fn) (first cap : Array Value) (w : World), (Instr.makeFunc fn first cap).run Tryz.prog w = .ok (.func fn first cap) w := fun _ _ _ _ => rfl
              subst g4
              clear HR htq hSV hbx g1 g2 g3 hnum hin
              cases X with
              | error ee =>
                go_wp2_with fail
                refine (hnd _).mono ?_
                rintro e w2 ⟨rfl, rfl⟩
                go_wp2_with fail
                refine hX.mono ?_
                rintro e w3 ⟨rfl, k3⟩
                exact ⟨rfl, by rw [HX.out]; exact ⟨rfl, KV.trans k3⟩⟩
              | ok q =>
                obtain ⟨x, r⟩ := q
                go_wp2_with fail
                refine (hnd _).mono ?_
                rintro e w2 ⟨rfl, rfl⟩
                go_wp2_with fail
                refine hX.mono ?_
                rintro e w3 ⟨v, i1, rfl, hnew, hps, hdr⟩
                have hdr' : T.drop i1 = r := hdr
                subst hdr'
                clear hdr
                have hi1 := hps.le
                have HN := Lib.hid (hnew.from KV)
                have HPS3 := Lib.hid hps
                obtain ⟨A3, cc3, B3, e3, _, _, _, y0, y1, y2, y3, f1', f2', _⟩ := hps.cells
                have kd3 : Kept (fun _ => False) w3 w3.drew := (Kept.refl _ w3).drew
                clear hnew hps c0 c1 c2 c3 f1 f2 q0 q1
                by_cases g6 : i1 < T.length
                · have g6' : (i1 : Int) < (T.length : Int) := by omega
                  have hne : T.drop i1 ≠ [] := by rw [Ne, List.drop_eq_nil_iff]; omega
                  have hny := fun wx => need_yes 5 wx
                  generalize hnxt : nextS (T.drop i1) = nx at *
                  by_cases g7 : nx = [41]
                  · have HX2 : Hid (R = .ok (x, T.drop (i1 + 1))) := by
                      unfold Hid
                      rw [HX.out, closeP, if_neg hne, if_pos (by rw [hnxt]; exact g7), List.tail_drop]
                    have g7' : (nx == [41]) = true := by simpa using g7
                    subst g7
                    have hn4 := fun wx => need_yes 4 wx
                    clear HX hne
                    go_wp2_with fail
                    go_quiet ((go_at_call 45; exact Calls.quiet_of_same (hny _)))
                    have kq := drew_kept w3 nq
                    have hnx := next_p (w3.drewN nq) p T S i1 d (HPS3.out.same kq)
                    rw [hnxt] at hnx
                    clear hnxt
                    go_wp2_with fail
                    refine hnx.mono ?_
                    rintro e w4 ⟨rfl, k4⟩
                    have ps4 := (HPS3.out.same kq).same k4
                    obtain ⟨A5, c5, B5, e5, _, _, _, z0, z1, z2, z3, f1'', f2'', _⟩ := ps4.cells
                    obtain ⟨p5, k5⟩ := ps4.at ((i1 : Int) + 1) (i1 + 1) (by omega) (by omega)
                    have P5 := Lib.hid p5
                    have K5 := Lib.hid (((kq.trans k4).mono (fun _ _ q => q.elim) : Kept (fun j => j = p) w3 w4).trans k5)
                    clear p5 k5 ps4 y0 y1 y2 y3 f1' f2'
                    go_wp2_with fail
                    refine (hn4 _).mono ?_
                    rintro e w9 ⟨rfl, rfl⟩
                    go_wp2_with fail
                    go_ret
                    rw [HX2.out]
                    exact ⟨v, i1 + 1, rfl, HN.out.step (fun j q => by subst q; exact hp) K5.out, P5.out, rfl⟩
                  · have HX2 : Hid (R = .error 4) := by
                      unfold Hid
                      rw [HX.out, closeP, if_neg hne, if_neg (by rw [hnxt]; exact g7)]
                    have g7' : (nx == [41]) = false := by simpa using g7
                    have hn4 := fun wx => need_no 4 wx
                    clear HX hne g7
                    go_wp2_with fail
                    go_quiet ((go_at_call 45; exact Calls.quiet_of_same (hny _)))
                    have kq := drew_kept w3 nq
                    have hnx := next_p (w3.drewN nq) p T S i1 d (HPS3.out.same kq)
                    rw [hnxt] at hnx
                    clear hnxt
                    go_wp2_with fail
                    refine hnx.mono ?_
                    rintro e w4 ⟨rfl, k4⟩
                    go_wp2_with fail
                    refine (hn4 _).mono ?_
                    rintro e w9 ⟨rfl, rfl⟩
                    exact ⟨rfl, by rw [HX2.out]; exact ⟨rfl, (HN.out.kept.trans ((kq.trans k4).mono (fun _ _ q => q.elim)))⟩⟩
                · have g6' : decide ((i1 : Int) < (T.length : Int)) = false := by simp; omega
                  have HX2 : Hid (R = .error 5) := by
                    unfold Hid
                    rw [HX.out, closeP, if_pos (List.drop_eq_nil_of_le (by omega))]
                  have hny := fun wx => need_no 5 wx
                  clear HX
                  go_wp2_with fail
                  go_still_tail 10, (by kernel_rfl)
                  change wpList _ _ _ _ _ w3.drew
                  go_wp2_with fail
                  refine (hny _).mono ?_
                  rintro e w9 ⟨rfl, rfl⟩
                  exact ⟨rfl, by rw [HX2.out]; exact ⟨rfl, HN.out.kept.drew⟩⟩
            · have HX : Hid (R = .error 4) := by unfold Hid; rw [← HR.out, if_neg g2, if_neg g3, if_neg g1, if_neg g4]
              have g4' : (tt == [40]) = false := by simpa using g4
              have hnd := fun wx => need_no 4 wx
              clear HR htq hSV hbx g1 g2 g3 g4 hnum hin
              go_wp2_with fail
              refine (hnd _).mono ?_
              rintro e w9 ⟨rfl, rfl⟩
              exact ⟨rfl, by rw [HX.out]; exact ⟨rfl, KV⟩⟩
  · have e : i = T.length := by omega
    rw [List.drop_eq_nil_of_le (by omega), atomP]
    exact atom_end p T S i d w h e
end Go.Proofs.YtballmombklalaaGreat

/- parse: all levels. -/
namespace Go.Proofs.YtballmombklalaaGreat
open Go.RowKit

def fnL : Nat → Nat
  | 1 => 44
  | 2 => 78
  | 3 => 111
  | 4 => 133
  | 5 => 143
  | 6 => 147
  | 7 => 149
  | _ => 152

theorem atomP_at (S : List Cl) (f : List Tok → PR) (T : List Tok) (i : Nat) : atomP S f (T.drop i) = atomP S (fun _ => f (T.drop (i + 1))) (T.drop i) := by
  cases h : T.drop i with
  | nil => rfl
  | cons t r =>
    have : T.drop (i + 1) = r := by rw [← List.drop_drop, h]; rfl
    rw [this]
    rfl
theorem drop_lt {T : List Tok} {i : Nat} {l : List UInt8} (h : nextS (T.drop i) = l) (hl : l ≠ []) : i < T.length := by
  have := nextS_len h hl
  rw [List.length_drop] at this
  omega

theorem par_calls (p : Nat) (T : List Tok) (S : List Cl) (htl : ∀ t ∈ T, t.t.length ≤ 1048576) (hq3 : ∀ t ∈ T, t.k = 3 → t.t[0]? = some 39) : ∀ (n m k i d : Nat) (w : World), m ≤ n → 1 ≤ k → k ≤ 8 → PS w p T S i d → needL k (T.length - i) ≤ m →
    Calls Tryz.prog (fnL k) #[.pointer (some ⟨p, 0, none⟩)] w (ParPost p T S d w (par S m (.lv k) (T.drop i) d))
  | 0, m, k, i, d, w, hm, h1, h8, hps, hn => by unfold needL at hn; omega
  | n + 1, m, k, i, d, w, hm, h1, h8, hps, hn => by
    have ih := par_calls p T S htl hq3 n
    by_cases hmn : m ≤ n
    · exact ih m k i d w hmn h1 h8 hps hn
    obtain rfl : m = n + 1 := by omega
    have hp := hps.cells.choose_spec.choose_spec.choose_spec.choose_spec.2.2.2.2.2.2.2.2.2
    have hsm := hps.small
    have inn : ∀ (c : Int) (k' : Nat) (eg : ∀ args w, (callFunc (fnL k') args).run Tryz.prog w = .ok (.enter (fnL k') args) w), 1 ≤ k' → k' ≤ 8 → i < T.length → ∀ wx, PS wx p T S i d →
        Calls Tryz.prog 132 #[.pointer (some ⟨p, 0, none⟩), .int .i64 c, .func (.func (fnL k')) #[.pointer (some ⟨p, 0, none⟩)] #[]] wx (ParPost p T S d wx (preP c (if 128 ≤ d then .error 6 else par S n (.lv k') (T.drop i).tail (d + 1)))) := by
      intro c k' eg hk1 hk8 hi wx hx
      rw [List.tail_drop]
      refine prefix_p c (fnL k') p T S d wx _ (hx.cells.choose_spec.choose_spec.choose_spec.choose_spec.2.2.2.2.2.2.2.2.2) (fun q hq => ?_)
        (inner_p n k' (fnL k') p T S eg (fun i d w h1 h2 => ih n k' i d w (Nat.le_refl _) hk1 hk8 h1 h2) i d wx hx hi (by unfold needL at hn ⊢; omega))
      split at hq
      · cases hq
      · have := par_words S _ _ _ _ _ hq
        simp only [wordsOf, List.length_drop] at this
        omega
    have hk : k = 1 ∨ k = 2 ∨ k = 3 ∨ k = 4 ∨ k = 5 ∨ k = 6 ∨ k = 7 ∨ k = 8 := by omega
    rcases hk with rfl | rfl | rfl | rfl | rfl | rfl | rfl | rfl
    · exact or_p p T S d w _ (chain_p n 1 (fnL 2) (by omega) p T S (enters_of Tryz.func78 (by kernel_rfl) rfl) (fun m i d w hm hx hn => ih m 2 i d w hm (by omega) (by omega) hx hn) i d w hps hn)
    · exact and_p p T S d w _ (chain_p n 2 (fnL 3) (by omega) p T S (enters_of Tryz.func111 (by kernel_rfl) rfl) (fun m i d w hm hx hn => ih m 3 i d w hm (by omega) (by omega) hx hn) i d w hps hn)
    · rw [par, if_neg (by omega), if_pos rfl]
      exact not_p p T S i d w _ _ hps (fun q => inn 5 3 (enters_of Tryz.func111 (by kernel_rfl) rfl) (by omega) (by omega) (drop_lt q (by simp)))
        (fun wx hx => ih n 4 i d wx (Nat.le_refl _) (by omega) (by omega) hx (by unfold needL at hn ⊢; omega))
    · exact compare_p n p T S (fun i d w hx hn => ih n 5 i d w (Nat.le_refl _) (by omega) (by omega) hx hn) i d w hps hn
    · exact sum_p p T S d w _ (chain_p n 5 (fnL 6) (by omega) p T S (enters_of Tryz.func147 (by kernel_rfl) rfl) (fun m i d w hm hx hn => ih m 6 i d w hm (by omega) (by omega) hx hn) i d w hps hn)
    · exact term_p p T S d w _ (chain_p n 6 (fnL 7) (by omega) p T S (enters_of Tryz.func149 (by kernel_rfl) rfl) (fun m i d w hm hx hn => ih m 7 i d w hm (by omega) (by omega) hx hn) i d w hps hn)
    · rw [par, if_neg (by omega), if_neg (by omega), if_neg (by omega), if_pos rfl]
      refine unary_p p T S i d w _ _ _ _ hps (fun q wx hx => ?_) (fun q => inn 4 7 (enters_of Tryz.func149 (by kernel_rfl) rfl) (by omega) (by omega) (drop_lt q (by simp)))
        (fun q => inn 6 7 (enters_of Tryz.func149 (by kernel_rfl) rfl) (by omega) (by omega) (drop_lt q (by simp))) (fun wx hx => ih n 8 i d wx (Nat.le_refl _) (by omega) (by omega) hx (by unfold needL at hn ⊢; omega))
      rw [List.tail_drop]
      refine number_p [45] wx p T S (i + 1) d hx ?_ (by simp) htl
      unfold belowB at q
      rw [Bool.and_eq_true] at q
      have q2 := q.2
      rcases Nat.lt_or_ge (i + 1) T.length with h | h
      · exact h
      · have hlen : (T.drop i).length ≤ 1 := by rw [List.length_drop]; omega
        cases hd : T.drop i with
        | nil => rw [hd] at q2; cases q2
        | cons a b =>
          rw [hd] at hlen q2
          cases b with
          | nil => cases q2
          | cons _ _ => simp at hlen
    · rw [par, if_neg (by omega), if_neg (by omega), if_neg (by omega), if_neg (by omega), atomP_at]
      refine atom_p p T S i d w _ hps htl hq3 (fun hi wx hx => ?_)
      exact inner_p n 1 (fnL 1) p T S (enters_of Tryz.func44 (by kernel_rfl) rfl) (fun i d w h1 h2 => ih n 1 i d w (Nat.le_refl _) (by omega) (by omega) h1 h2) i d wx hx hi (by unfold needL at hn ⊢; omega)
end Go.Proofs.YtballmombklalaaGreat
