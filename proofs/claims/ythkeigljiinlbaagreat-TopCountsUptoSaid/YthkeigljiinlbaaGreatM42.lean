/- pack.spans. -/
import Derived.Test.YthkeigljiinlbaaGreatM41
namespace Go.Proofs.YthkeigljiinlbaaGreat
open Go.RowKit

def encSp (p : Int × Int) : List Value := [.int .i64 p.1, .int .i64 p.2]
theorem encSp_len (p : Int × Int) : (encSp p).length = 2 := rfl
theorem encSp_one : ∀ x : Int × Int, ∀ u ∈ encSp x, u.oneCell' = true := by
  intro x u hu
  unfold encSp at hu
  simp only [List.mem_cons, List.not_mem_nil, or_false] at hu
  rcases hu with rfl | rfl <;> rfl
theorem sp_row_set {W : World} {g n c : Nat} {Cl R : List (Int × Int)} {y u t : Int} (h : Row encSp 2 41 W (.slice (some ⟨g, 0, none⟩) n c) (Cl ++ ((y, u) :: R))) :
    Row encSp 2 41 (W.setCell ⟨g, Cl.length * 2 + 1, none⟩ (.int .i64 t)) (.slice (some ⟨g, 0, none⟩) n c) (Cl ++ ((y, t) :: R)) := by
  obtain ⟨h1, h2⟩ := h
  have hlen : (Cl ++ ((y, t) :: R)).length = (Cl ++ ((y, u) :: R)).length := by simp
  refine ⟨by rw [cells_len encSp 2 encSp_len], ?_⟩
  rcases h2 with ⟨e, _⟩ | ⟨g', cap, cur, e, hb, hg, hn, hm, hs, htk⟩
  · cases e
  · injection e with e1 e2 e3
    injection e1 with e1
    injection e1 with e1
    subst e1 e3
    refine .inr ⟨g, c, cur.setIfInBounds (Cl.length * 2 + 1) (.int .i64 t), by rw [hlen, e2], hb, blk_set hg _ _, by rw [hlen]; exact hn, hm, by rw [Array.size_setIfInBounds]; exact hs, ?_⟩
    rw [Array.toList_setIfInBounds, List.take_set, hlen, htk, cells_app, cells_app]
    have hl : (cellsOf encSp Cl).length = Cl.length * 2 := cells_len encSp 2 encSp_len Cl
    rw [List.set_append_right _ _ (by omega), hl, Nat.add_sub_cancel_left]
    congr 1

/-- The lifetimes as they stand: the closed ones, and the open ones behind them. -/
structure SpM (w0 W : World) (b3 b4 : Nat) (v : Value) (Cl : List (Int × Int)) (Q : List Int) : Prop where
  box3 : W.heap[b3]? = some (.cells #[v] 75 (0, 0))
  box4 : W.heap[b4]? = some (.cells #[.int .i64 Cl.length] 3 (0, 0))
  row : Row encSp 2 41 W v (Cl ++ Q.map (fun y => (y, 0)))
  own : ∀ j, v.ownBlock = some j → w0.heap.size ≤ j
  b3s : w0.heap.size ≤ b3
  b4s : w0.heap.size ≤ b4
  kept : Kept (fun _ => False) w0 W
theorem SpM.same {w0 W W' : World} {b3 b4 : Nat} {v : Value} {Cl : List (Int × Int)} {Q : List Int} (h : SpM w0 W b3 b4 v Cl Q) (k : Kept (fun _ => False) W W') : SpM w0 W' b3 b4 v Cl Q :=
  ⟨k.heap h.box3 (fun q => q), k.heap h.box4 (fun q => q), h.row.same k, h.own, h.b3s, h.b4s, h.kept.trans k⟩
theorem SpM.len {w0 W : World} {b3 b4 : Nat} {v : Value} {Cl : List (Int × Int)} {Q : List Int} (h : SpM w0 W b3 b4 v Cl Q) : ∃ A c, v = .slice A (Cl.length + Q.length) c := by
  obtain ⟨A, c, e, _, _⟩ := h.row.shape
  rw [List.length_append, List.length_map] at e
  exact ⟨A, c, e⟩

set_option maxHeartbeats 1000000 in
set_option maxRecDepth 100000 in
theorem end_any (w0 W : World) (b3 b4 : Nat) (v : Value) (Cl : List (Int × Int)) (y : Int) (Q : List Int) (t : Int) (h : SpM w0 W b3 b4 v Cl (y :: Q)) (hl : Cl.length + Q.length ≤ 100000) :
    Calls Tryz.prog 58 #[.int .i64 t, .pointer (some ⟨b3, 0, none⟩), .pointer (some ⟨b4, 0, none⟩)] W fun e w' => (∃ u, e = .returned u) ∧ SpM w0 w' b3 b4 v (Cl ++ [(y, t)]) Q ∧ Kept (fun j => v.ownBlock = some j ∨ j = b4) W w' := by
  have hrow := h.row
  rw [List.map_cons] at hrow
  obtain ⟨A, c, hv, _, _, hs⟩ := hrow.src encSp_len (fun _ => False) (fun _ _ q => q)
  obtain ⟨b, off, e0, _, hcc⟩ := hs Cl.length (y, 0) (by rw [List.getElem?_append_right (Nat.le_refl _), Nat.sub_self]; rfl)
  have hb0 : off = 0 := by
    rcases hrow.2 with ⟨q, _⟩ | ⟨g, cap, cur, q, _⟩
    · rw [hv, e0] at q; cases q
    · rw [hv, e0] at q
      injection q with q
      injection q with q
      injection q
  subst hb0
  subst e0
  have hlen : (Cl ++ (y, 0) :: Q.map (fun y => (y, (0 : Int)))).length = Cl.length + (Q.length + 1) := by simp
  rw [hlen] at hv
  subst hv
  have xg := hcc 1 _ rfl
  rw [Nat.zero_add] at xg
  obtain ⟨cs, hgb⟩ := row_cells hrow (j := b) rfl
  have hb3 : b3 ≠ b := fun q => by have h1 := h.box3; rw [q, hgb] at h1; injection h1 with h1; injection h1 with _ h1 _; exact absurd h1 (by decide)
  have hb4 : b4 ≠ b := fun q => by have h1 := h.box4; rw [q, hgb] at h1; injection h1 with h1; injection h1 with _ h1 _; exact absurd h1 (by decide)
  have hb34 : b3 ≠ b4 := fun q => by have h1 := h.box3; have h2 := h.box4; rw [q, h2] at h1; injection h1 with h1; injection h1 with _ h1 _; exact absurd h1 (by decide)
  have c3 := cell_of_row _ _ 0 _ _ _ h.box3
  have c4 := cell_of_row _ _ 0 _ _ _ h.box4
  simp only [List.getElem?_toArray, List.getElem?_cons_zero] at c3 c4
  have fg := frozen_of hgb (Cl.length * 2 + 1)
  have ks := (Kept.refl (fun j => j = b) W).setCell (p := ⟨b, Cl.length * 2 + 1, none⟩) (fun _ => rfl) (.int .i64 t)
  have h4s := ks.heap h.box4 hb4
  have x4 := cell_of_row _ _ 0 _ _ _ h4s
  simp only [List.getElem?_toArray, List.getElem?_cons_zero] at x4
  have f4 := frozen_of h4s 0
  have kt := (Kept.refl (fun j => j = b4) (W.setCell ⟨b, Cl.length * 2 + 1, none⟩ (.int .i64 t))).setCell (p := ⟨b4, 0, none⟩) (fun _ => rfl) (.int .i64 (Cl.length + 1))
  have hrow2 := (sp_row_set (t := t) hrow)
  have hfin : SpM w0 ((W.setCell ⟨b, Cl.length * 2 + 1, none⟩ (.int .i64 t)).setCell ⟨b4, 0, none⟩ (.int .i64 (Cl.length + 1))) b3 b4 (.slice (some ⟨b, 0, none⟩) (Cl.length + (Q.length + 1)) c) (Cl ++ [(y, t)]) Q := by
    refine ⟨kt.heap (ks.heap h.box3 hb3) hb34, ?_, ?_, h.own, h.b3s, h.b4s, (h.kept.trans' ks (U := fun j => w0.heap.size ≤ j) (fun _ _ q => q.elim) (fun j _ q => by rw [q]; exact h.own b rfl)).trans' kt (fun j hj q => by omega) (fun j hj q => by have := h.b4s; omega)⟩
    · have := blk_set h4s 0 (.int .i64 (Cl.length + 1))
      rw [List.length_append]
      exact this
    · rw [List.append_assoc]
      exact hrow2.kept kt (fun j hj q => by
        have e : b = j := by simpa [Value.ownBlock] using hj
        omega)
  have HFIN := Lib.hid (show _ ∧ _ from ⟨hfin, ks.trans' kt (U := fun j => (Value.slice (some ⟨b, 0, none⟩) (Cl.length + (Q.length + 1)) c).ownBlock = some j ∨ j = b4) (fun j _ q => .inl (by rw [q]; rfl)) (fun j _ q => .inr q)⟩)
  obtain ⟨NC, hNC⟩ : ∃ NC, Cl.length = NC := ⟨_, rfl⟩
  rw [hNC] at c3 c4 xg fg x4 f4 HFIN hl ⊢
  clear hfin hrow2 kt ks h4s h hrow hcc hs hgb hNC
  go_enter Tryz.func58, Tryz.ntmps58
  go_wp2_with fail
  go_end0
  exact ⟨⟨_, rfl⟩, HFIN.out⟩
end Go.Proofs.YthkeigljiinlbaaGreat

/- pack.spans, the walk. -/
namespace Go.Proofs.YthkeigljiinlbaaGreat
open Go.RowKit

theorem sp_push {w0 W : World} {b3 b4 : Nat} {v : Value} {Cl : List (Int × Int)} {Q : List Int} (a : Int) (h : SpM w0 W b3 b4 v Cl Q) (hl : Cl.length + Q.length ≤ 100000) :
    ∃ v' W2, Hid ((Builtin.append_ #[75, 75] 75 #[v, .slice (some ⟨W.heap.size, 0, none⟩) 1 1]).run Tryz.prog (W.alloc (.cells #[.int .i64 a, .int .i64 0] 41)) = .ok v' W2) ∧ (∃ A' n' c', v' = .slice A' n' c') ∧
      W2.heap[b3]? = some (.cells #[v] 75 (0, 0)) ∧ SpM w0 (W2.setCell ⟨b3, 0, none⟩ v') b3 b4 v' Cl (Q ++ [a]) ∧ Kept (fun j => v.ownBlock = some j ∨ j = b3) W (W2.setCell ⟨b3, 0, none⟩ v') := by
  have kal := (Kept.refl (fun _ => False) W).alloc (.cells #[.int .i64 a, .int .i64 0] 41)
  obtain ⟨v', W2, h1, h2, h3, h4⟩ := Row.lit (P := Tryz.prog) (sz := 2) 75 75 (.agg #[.int .i64 0, .int .i64 0]) 16 Tryz.underlying75 (by kernel_rfl) rfl (by decide) encSp_len encSp_one (h.row.same kal) [(a, 0)] W.heap.size 1 (heap_alloc_new W _) (by simp only [List.length_append, List.length_map, List.length_cons, List.length_nil, maxLen]; omega) (by simp only [List.length_append, List.length_map, List.length_cons, List.length_nil]; omega)
  have k2 : Kept (fun j => v.ownBlock = some j) W W2 := kal.trans' h3 (fun _ _ q => q.elim) (fun _ _ q => q)
  have g3 := k2.heap h.box3 (fun q => h.row.other h.box3 (by decide) q)
  have g4 := k2.heap h.box4 (fun q => h.row.other h.box4 (by decide) q)
  have hb34 : b4 ≠ b3 := fun q => by have h1 := h.box3; have h2 := h.box4; rw [q, h1] at h2; injection h2 with h2; injection h2 with _ h2 _; exact absurd h2 (by decide)
  have ks := (Kept.refl (fun j => j = b3) W2).setCell (p := ⟨b3, 0, none⟩) (fun _ => rfl) v'
  obtain ⟨A', c', hv', _, _⟩ := h2.shape
  refine ⟨v', W2, h1, ⟨A', _, c', hv'⟩, g3, ⟨blk_set g3 0 v', ks.heap g4 hb34, ?_, fun j hj => ?_, h.b3s, h.b4s, ?_⟩, k2.trans' ks (fun _ _ q => .inl q) (fun _ _ q => .inr q)⟩
  · rw [List.map_append, ← List.append_assoc]
    exact h2.kept ks (fun j hj q => h2.other g3 (by decide) (by rw [hj, q]))
  · rcases h4 j hj with q | q
    · exact h.own j q
    · exact Nat.le_trans (h.kept.trans kal).size q
  · exact (h.kept.trans' k2 (U := fun j => w0.heap.size ≤ j) (fun _ _ q => q.elim) (fun j _ q => h.own j q)).trans' ks (fun j hj q => by omega) (fun j hj q => by have := h.b3s; omega)
theorem SpM.cast {w0 W : World} {b3 b4 : Nat} {v : Value} {Cl Cl' : List (Int × Int)} {Q Q' : List Int} (h : SpM w0 W b3 b4 v Cl Q) (e1 : Cl = Cl') (e2 : Q = Q') : SpM w0 W b3 b4 v Cl' Q' := by subst e1 e2; exact h
/-- One jump: what is opened, then what is closed. -/
theorem fifo1_two (x : Jp) (s : List (Int × Int) × List Int) : fifo1 x s = (s.1 ++ ((s.2 ++ List.replicate x.n.toNat x.a).take (-x.n).toNat).map (fun y => (y, x.a)), (s.2 ++ List.replicate x.n.toNat x.a).drop (-x.n).toNat) := by
  unfold fifo1
  by_cases h : 0 ≤ x.n
  · have e : (-x.n).toNat = 0 := by omega
    rw [if_pos h, e, List.take_zero, List.drop_zero, List.map_nil, List.append_nil]
  · have e : x.n.toNat = 0 := by omega
    rw [if_neg h, e, List.replicate_zero, List.append_nil]

set_option maxHeartbeats 4000000 in
set_option maxRecDepth 100000 in
theorem spans_any (f : List Jp) (A : Option Addr) (c : Nat) (w : World) (hs : Src encJ 2 w (fun _ => False) A f) (ht : tabB f = true) (hm : mostZ f ≤ 4096) :
    Calls Tryz.prog 21 #[.slice A f.length c] w fun e w' => ∃ v, e = .returned v ∧ New encSp 2 41 w w' v (spansF f) := by
  have htb := ht
  unfold tabB at htb
  rw [Bool.and_eq_true] at htb
  obtain ⟨hl, hp, hall⟩ := may_all htb.1
  have hen := pres_enough f 0 htb.2
  have hmo := fun wx hx => most_any f A c wx hx htb.1
  have hm0 := mostZ_pos f
  obtain ⟨C, hmk, hnw⟩ := make_any (P := Tryz.prog) 75 41 (.agg #[.int .i64 0, .int .i64 0]) 2 16 Tryz.underlying75 (by kernel_rfl) (mostZ f).toNat (mostZ f) (by omega) (by unfold maxLen; omega) (by omega)
  obtain ⟨MZ, hMZ⟩ : ∃ MZ, mostZ f = MZ := ⟨_, rfl⟩
  have HMZ := Lib.hid hMZ
  rw [hMZ] at hmo hmk hm hm0
  obtain ⟨NF, hNF⟩ : ∃ NF, f.length = NF := ⟨_, rfl⟩
  have HNF := Lib.hid hNF
  rw [hNF] at hl hmo ⊢
  have HEN := Lib.hid hen
  have hmf : ∀ (fn : Fn) (first cap : Array Value) (w : World), (Instr.makeFunc fn first cap).run Tryz.prog w = .ok (.func fn first cap) w := fun _ _ _ _ => rfl
  clear hp htb hNF hen hMZ ht
  go_enter Tryz.func21, Tryz.ntmps21
  go_wp2_with fail
  refine (hmo _ hs).mono ?_
  rintro e w1 ⟨rfl, k1⟩
  have hn0 := hnw (Int × Int) encSp w1
  rw [HMZ.out] at hn0
  have h00 : SpM w1 (((w1.alloc (.cells C 41)).alloc (.cells #[.slice (some ⟨w1.heap.size, 0, none⟩) 0 MZ.toNat] 75)).alloc (.cells #[.int .i64 0] 3)) (w1.heap.size + 1) (w1.heap.size + 1 + 1) (.slice (some ⟨w1.heap.size, 0, none⟩) 0 MZ.toNat) [] [] := by
    have kk := ((Kept.refl (fun _ => False) (w1.alloc (.cells C 41))).alloc (.cells #[.slice (some ⟨w1.heap.size, 0, none⟩) 0 MZ.toNat] 75)).alloc (.cells #[.int .i64 0] 3)
    have a3 := ((Kept.refl (fun _ => False) ((w1.alloc (.cells C 41)).alloc (.cells #[.slice (some ⟨w1.heap.size, 0, none⟩) 0 MZ.toNat] 75))).alloc (.cells #[.int .i64 0] 3)).heap (heap_alloc_new (w1.alloc (.cells C 41)) (.cells #[.slice (some ⟨w1.heap.size, 0, none⟩) 0 MZ.toNat] 75)) (fun q => q)
    have a4 := heap_alloc_new ((w1.alloc (.cells C 41)).alloc (.cells #[.slice (some ⟨w1.heap.size, 0, none⟩) 0 MZ.toNat] 75)) (.cells #[.int .i64 0] 3)
    simp only [World.size_alloc] at a3 a4
    exact ⟨a3, a4, hn0.row.same kk, hn0.own, by omega, by omega, hn0.kept.trans kk⟩
  have H00 := Lib.hid h00
  clear hn0 hnw h00 hmo
  go_wp2_with fail
  go_loopg [14] NF (fun k iv wr => ∃ (i : Nat) (v : Value), i + k = NF ∧ iv = .int .i64 i ∧ Hid (SpM w1 wr (w1.heap.size + 1) (w1.heap.size + 1 + 1) v (fifo (f.take i) ([], [])).1 (fifo (f.take i) ([], [])).2))
  case atStart => exact ⟨0, _, by omega, rfl, H00⟩
  case round =>
    obtain ⟨i, v, hk, rfl, HS⟩ := hrel
    have hsl := HS.out
    have hlen := fifo_len (f.take i) ([], [])
    have hmt := mostZ_take f i
    rw [HMZ.out] at hmt
    obtain ⟨Cl, Q, hst⟩ : ∃ Cl Q, fifo (f.take i) ([], []) = (Cl, Q) := ⟨_, _, rfl⟩
    rw [hst] at hsl hlen
    simp only [List.length_nil] at hlen
    have hsum : Cl.length + Q.length ≤ 4096 := by omega
    have HST := Lib.hid hst
    obtain ⟨wo, rfl⟩ : ∃ wo, wo = wr := ⟨_, rfl⟩
    by_cases hlt : i < NF
    · obtain ⟨x, hx⟩ : ∃ x, f[i]? = some x := ⟨f[i]'(by rw [HNF.out]; exact hlt), List.getElem?_eq_getElem _⟩
      have hxb := hall x (List.mem_of_getElem? hx)
      have htk : f.take (i + 1) = f.take i ++ [x] := by rw [List.take_add_one, hx]; rfl
      have hnext : fifo (f.take (i + 1)) ([], []) = fifo1 x (Cl, Q) := by rw [htk, fifo_app, hst]; rfl
      have hen2 : (-x.n).toNat ≤ (Q ++ List.replicate x.n.toNat x.a).length := by
        have h := HEN.out
        have e : f = f.take i ++ (x :: f.drop (i + 1)) := by
          conv => lhs; rw [← List.take_append_drop i f]
          rw [List.drop_eq_getElem_cons (by rw [HNF.out]; exact hlt)]
          rw [List.getElem?_eq_getElem (by rw [HNF.out]; exact hlt)] at hx
          injection hx with hx
          rw [hx]
        rw [e] at h
        have h2 := enough_app (f.take i) (x :: f.drop (i + 1)) [] [] h
        rw [hst] at h2
        have h3 : 0 ≤ x.n ∨ (-x.n).toNat ≤ Q.length := h2.1
        rw [List.length_append, List.length_replicate]
        omega
      have hsum2 : Cl.length + (Q ++ List.replicate x.n.toNat x.a).length ≤ 8192000 := by
        rw [List.length_append, List.length_replicate]; omega
      have hnlen := fifo_len (f.take (i + 1)) ([], [])
      have hmt2 := mostZ_take f (i + 1)
      rw [HMZ.out] at hmt2
      have hsum3 : Cl.length + Q.length + x.n.toNat ≤ 100000 := by
        have e := hmt2
        rw [htk, mostZ_app] at e
        have e2 : mostZ [x] = max x.n 0 + 0 := rfl
        omega
      obtain ⟨b, off, rfl, _, x0, x1⟩ := (hs.same (k1.trans hsl.kept)).cells2 hx
      have kb := (Kept.refl (fun _ => False) wo).alloc (.cells #[.int .i64 x.a, .int .i64 x.n] 80)
      have gb := heap_alloc_new wo (.cells #[.int .i64 x.a, .int .i64 x.n] 80)
      have HS2 := Lib.hid (hsl.same kb)
      have HGB := Lib.hid gb
      have HNX := Lib.hid hnext
      have HEN2 := Lib.hid hen2
      have y1 := cell_of_row _ _ 1 _ _ _ gb
      simp only [List.getElem?_toArray, List.getElem?_cons_zero, List.getElem?_cons_succ] at y1
      clear hx htk hnext hen2 hsl kb gb hst hnlen hlen hmt hmt2 HS
      obtain ⟨xa, xn⟩ := x
      simp only at x0 x1 y1 hxb hsum3
      obtain ⟨Q2, hQ2⟩ : ∃ Q2, Q ++ List.replicate xn.toNat xa = Q2 := ⟨_, rfl⟩
      have hQ2l : Q2.length = Q.length + xn.toNat := by rw [← hQ2, List.length_append, List.length_replicate]
      have HQ2 := Lib.hid hQ2
      have HQ2L := Lib.hid hQ2l
      rw [hQ2] at HEN2
      clear hQ2 hQ2l hsum2
      go_wp2_with fail
      go_loopg [20] xn.toNat (fun k jv wr2 => ∃ (j : Nat) (v2 : Value), j + k = xn.toNat ∧ jv = .int .i64 j ∧ Hid (SpM w1 wr2 (w1.heap.size + 1) (w1.heap.size + 1 + 1) v2 Cl (Q ++ List.replicate j xa)) ∧ Hid (wr2.heap[wo.heap.size]? = some (.cells #[.int .i64 xa, .int .i64 xn] 80 (0, 0))))
      case atStart => exact ⟨0, v, by omega, rfl, by rw [List.replicate_zero, List.append_nil]; exact HS2, HGB⟩
      case round =>
        obtain ⟨j, v2, hj, rfl, HS3, HG3⟩ := hrel
        obtain ⟨wq, rfl⟩ : ∃ wq, wq = wr := ⟨_, rfl⟩
        by_cases hlt2 : (j : Int) < xn
        · have hd : decide ((j : Int) < xn) = true := by simpa using hlt2
          obtain ⟨A2, c2, hv2⟩ := HS3.out.len
          obtain ⟨N2, hN2⟩ : ∃ N2, Cl.length + (Q ++ List.replicate j xa).length = N2 := ⟨_, rfl⟩
          rw [hN2] at hv2
          subst hv2
          obtain ⟨v', W2, hrun, ⟨A', n', c', rfl⟩, g3, hS', hk'⟩ := sp_push xa HS3.out (by rw [List.length_append, List.length_replicate]; omega)
          have c3 := cell_of_row _ _ 0 _ _ _ HS3.out.box3
          have q0 := cell_of_row _ _ 0 _ _ _ HG3.out
          have z3 := cell_of_row _ _ 0 _ _ _ g3
          simp only [List.getElem?_toArray, List.getElem?_cons_zero] at c3 q0 z3
          have f3 := frozen_of g3 0
          have HG4 := Lib.hid (hk'.heap HG3.out (fun q => by
            rcases q with q | q
            · exact HS3.out.row.other HG3.out (by decide) q
            · have h1 := HS3.out.box3
              rw [← q, HG3.out] at h1
              injection h1 with h1
              injection h1 with _ h1 _
              exact absurd h1 (by decide)))
          have HS4 := Lib.hid hS'
          clear hS' hk' g3 hN2
          have tok := True.intro
          go_wp2_with (at_builtin; have _t := tok; refine wpList_run rfl _ _ _ rfl rfl rfl hrun ?_; clear tok)
          go_roundg (xn.toNat - (j + 1))
          case measure => omega
          case rel => exact ⟨j + 1, _, by omega, rfl, by rw [List.replicate_succ', ← List.append_assoc]; exact HS4, HG4⟩
        · have hd : decide ((j : Int) < xn) = false := by simpa using hlt2
          have hjx : j = xn.toNat := by omega
          rw [hjx, HQ2.out] at HS3
          have q1 := cell_of_row _ _ 1 _ _ _ HG3.out
          simp only [List.getElem?_toArray, List.getElem?_cons_zero, List.getElem?_cons_succ] at q1
          clear hj hlt2 hjx
          go_wp2_with fail
          go_loopg [32] (-xn).toNat (fun k jv wr3 => ∃ (j3 : Nat) (v3 : Value), j3 + k = (-xn).toNat ∧ jv = .int .i64 j3 ∧ Hid (SpM w1 wr3 (w1.heap.size + 1) (w1.heap.size + 1 + 1) v3 (Cl ++ (Q2.take j3).map (fun y => (y, xa))) (Q2.drop j3)) ∧ Hid (wr3.heap[wo.heap.size]? = some (.cells #[.int .i64 xa, .int .i64 xn] 80 (0, 0))))
          case atStart => exact ⟨0, v2, by omega, rfl, by rw [List.take_zero, List.drop_zero, List.map_nil, List.append_nil]; exact HS3, HG3⟩
          case round =>
            obtain ⟨j3, v3, hj3, rfl, HS5, HG5⟩ := hrel
            obtain ⟨wz, rfl⟩ : ∃ wz, wz = wr := ⟨_, rfl⟩
            by_cases hlt3 : (j3 : Int) < -xn
            · have hd3 : decide ((j3 : Int) < -xn) = true := by simpa using hlt3
              have hjl : j3 < Q2.length := by have := HEN2.out; omega
              have hdr : Q2.drop j3 = Q2[j3] :: Q2.drop (j3 + 1) := List.drop_eq_getElem_cons hjl
              have hend := end_any w1 wz (w1.heap.size + 1) (w1.heap.size + 1 + 1) v3 (Cl ++ (Q2.take j3).map (fun y => (y, xa))) Q2[j3] (Q2.drop (j3 + 1)) xa (HS5.out.cast rfl hdr) (by
                have := HQ2L.out
                rw [List.length_append, List.length_map, List.length_take, List.length_drop]; omega)
              have q0 := cell_of_row _ _ 0 _ _ _ HG5.out
              simp only [List.getElem?_toArray, List.getElem?_cons_zero] at q0
              have hck : (Cl ++ (Q2.take j3).map (fun y => (y, xa))) ++ [(Q2[j3], xa)] = Cl ++ (Q2.take (j3 + 1)).map (fun y => (y, xa)) := by
                rw [List.take_add_one, List.getElem?_eq_getElem hjl, List.map_append, List.append_assoc]; rfl
              have HCK := Lib.hid hck
              have hg5 := fun (W' : World) (hk' : Kept (fun j => v3.ownBlock = some j ∨ j = w1.heap.size + 1 + 1) wz W') => hk'.heap HG5.out (fun q => by
                rcases q with q | q
                · exact HS5.out.row.other HG5.out (by decide) q
                · have h1 := HS5.out.box4
                  rw [← q, HG5.out] at h1
                  injection h1 with h1
                  injection h1 with _ h1 _
                  exact absurd h1 (by decide))
              have HG6 := Lib.hid hg5
              clear hck hg5 hdr
              go_wp2_with fail
              refine hend.mono ?_
              rintro e w5 ⟨⟨u5, rfl⟩, hS5, hk5⟩
              have HS6 := Lib.hid hS5
              have HG7 := Lib.hid (HG6.out _ hk5)
              clear hS5 hk5 hend
              go_wp2_with fail
              go_roundg ((-xn).toNat - (j3 + 1))
              case measure => omega
              case rel => exact ⟨j3 + 1, v3, by omega, rfl, HS6.out.cast HCK.out rfl, HG7⟩
            · have hd3 : decide ((j3 : Int) < -xn) = false := by simpa using hlt3
              have hjx : j3 = (-xn).toNat := by omega
              rw [hjx] at HS5
              clear hj3 hlt3 hjx
              go_wp2_with fail
              go_roundg (NF - (i + 1))
              case measure => omega
              case rel =>
                refine ⟨i + 1, v3, by omega, rfl, ?_⟩
                rw [HNX.out, fifo1_two]
                simp only
                rw [HQ2.out]
                exact HS5
    · have hi : i = f.length := by rw [HNF.out]; omega
      rw [hi, List.take_length] at HST
      clear hi hlen hmt HS
      have HS2 := Lib.hid hsl
      clear hsl
      have hQl : Cl.length + Q.length ≤ 4096 := hsum
      go_wp2_with fail
      go_loopg [40] Q.length (fun k ov wr2 => ∃ (j : Nat) (v2 : Value), j + k = Q.length ∧ Hid (SpM w1 wr2 (w1.heap.size + 1) (w1.heap.size + 1 + 1) v2 (Cl ++ (Q.take j).map (fun y => (y, 1125899906842624))) (Q.drop j)))
      case atStart => exact ⟨0, v, by omega, by rw [List.take_zero, List.drop_zero, List.map_nil, List.append_nil]; exact HS2⟩
      case round =>
        obtain ⟨j, v2, hj, HS3⟩ := hrel
        obtain ⟨wq, rfl⟩ : ∃ wq, wq = wr := ⟨_, rfl⟩
        obtain ⟨A2, c2, hv2⟩ := HS3.out.len
        have hcl : (Cl ++ (Q.take j).map (fun y => (y, (1125899906842624 : Int)))).length = Cl.length + j := by rw [List.length_append, List.length_map, List.length_take]; omega
        have hn2 : (Cl ++ (Q.take j).map (fun y => (y, (1125899906842624 : Int)))).length + (Q.drop j).length = Cl.length + Q.length := by rw [hcl, List.length_drop]; omega
        rw [hn2] at hv2
        subst hv2
        have c3 := cell_of_row _ _ 0 _ _ _ HS3.out.box3
        have c4 := cell_of_row _ _ 0 _ _ _ HS3.out.box4
        simp only [List.getElem?_toArray, List.getElem?_cons_zero] at c3 c4
        rw [hcl] at c4
        obtain ⟨a4, ha4⟩ : ∃ a4, Cl.length + j = a4 := ⟨_, rfl⟩
        obtain ⟨n4, hn4⟩ : ∃ n4, Cl.length + Q.length = n4 := ⟨_, rfl⟩
        rw [ha4] at c4
        rw [hn4] at c3
        by_cases hlt3 : j < Q.length
        · have hd : a4 < n4 := by omega
          have hdr : Q.drop j = Q[j] :: Q.drop (j + 1) := List.drop_eq_getElem_cons hlt3
          have hend := end_any w1 wq (w1.heap.size + 1) (w1.heap.size + 1 + 1) (.slice A2 (Cl.length + Q.length) c2) (Cl ++ (Q.take j).map (fun y => (y, 1125899906842624))) Q[j] (Q.drop (j + 1)) 1125899906842624 (HS3.out.cast rfl hdr) (by rw [hcl, List.length_drop]; omega)
          have hck : (Cl ++ (Q.take j).map (fun y => (y, (1125899906842624 : Int)))) ++ [(Q[j], 1125899906842624)] = Cl ++ (Q.take (j + 1)).map (fun y => (y, 1125899906842624)) := by
            rw [List.take_add_one, List.getElem?_eq_getElem hlt3, List.map_append, List.append_assoc]; rfl
          have HCK := Lib.hid hck
          have HJ := Lib.hid (show j + gk = Q.length ∧ j < Q.length from ⟨hj, hlt3⟩)
          clear hck hdr hcl hn2 ha4 hn4 hj
          go_wp2_with fail
          refine hend.mono ?_
          rintro e w5 ⟨⟨u5, rfl⟩, hS5, hk5⟩
          have HS6 := Lib.hid hS5
          clear hS5 hk5 hend
          go_wp2_with fail
          go_roundg (Q.length - (j + 1))
          case measure => have := HJ.out; omega
          case rel => exact ⟨j + 1, _, by have := HJ.out; omega, HS6.out.cast HCK.out rfl⟩
        · have hd : ¬ a4 < n4 := by omega
          have hjq : j = Q.length := by omega
          have hr := HS3.out.row
          rw [hjq, List.take_length, List.drop_length, List.map_nil, List.append_nil] at hr
          have hsp : Cl ++ Q.map (fun y => (y, (1125899906842624 : Int))) = spansF f := by unfold spansF; rw [HST.out]
          rw [hsp, hn4] at hr
          have HR := Lib.hid (show New encSp 2 41 w wq _ (spansF f) from ⟨hr, fun jj hjj => Nat.le_trans k1.size (HS3.out.own jj (by rw [hn4]; exact hjj)), k1.trans HS3.out.kept⟩)
          clear hcl hn2 ha4 hn4 hjq hr hsp hj
          go_wp2_with fail
          go_ret
          exact ⟨_, rfl, HR.out⟩
end Go.Proofs.YthkeigljiinlbaaGreat
