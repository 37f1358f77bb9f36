/- Pop. -/
import Derived.Test.YtagcfomjbnecdaaH
namespace Go.Proofs.Ytagcfomjbnecdaa
open Go.RowKit

theorem irow_take (H : List It) (n : Nat) : irow (H.take n) = (irow H).take (n * 3) := by
  induction H generalizing n with
  | nil => simp [irow]
  | cons x H ih =>
    cases n with
    | zero => simp [irow]
    | succ n =>
      have : irow (x :: H) = [.int .i64 x.a, .int .i64 x.n, .int .i64 x.t] ++ irow H := rfl
      rw [List.take_succ_cons, this, Nat.succ_mul]
      show [_, _, _] ++ irow (H.take n) = _
      rw [ih]
      rfl

theorem IR.short {w : World} {b cap m : Nat} {H : List It} (h : IR w (.slice (some ⟨b, 0, none⟩) m cap) H) (n : Nat) (hn : n ≤ H.length) : IR w (.slice (some ⟨b, 0, none⟩) n cap) (H.take n) := by
  have hl : (H.take n).length = n := by rw [List.length_take]; omega
  refine ⟨by rw [irow_len], .inr ?_⟩
  rcases h.2 with ⟨e, _⟩ | ⟨b', cap', cur, e, hb, hg, hc, hm, hs, ht⟩
  · cases e
  · injection e with e1 e2 e3
    injection e1 with e1
    injection e1 with e1
    subst e1 e3
    refine ⟨b, cap, cur, by rw [hl], hb, hg, by rw [hl]; omega, hm, hs, ?_⟩
    rw [hl, irow_take, ← ht, List.take_take]
    congr 1
    omega

/-- The heap's slice is another one now. -/
theorem QM.slice_ {w : World} {c : Nat} {vH vH' : Value} {H H' : List It} {T : Int} (h : QM w c vH H T) (r : IR w vH' H') (hn : vH'.ownBlock ≠ some c) : QM (w.setCell ⟨c, 0, none⟩ vH') c vH' H' T ∧ Kept (· = c) w (w.setCell ⟨c, 0, none⟩ vH') := by
  have k : Kept (· = c) w (w.setCell ⟨c, 0, none⟩ vH') := (Kept.refl (· = c) w).setCell (p := ⟨c, 0, none⟩) (fun _ => rfl) _
  exact ⟨⟨blk_set h.blk 0 vH', r.kept k (fun j hj e => hn (by rw [← e]; exact hj))⟩, k⟩

theorem two_set {S : Nat → Prop} {a w : World} {p : Nat} {u0 u1 : Value} (d0 : w.cell? ⟨p, 0, none⟩ = some u0) (d1 : w.cell? ⟨p, 1, none⟩ = some u1) (k : Kept S a w) (hp : p < a.heap.size → S p) (x y : Value) (W : World) (hW : W = (w.setCell ⟨p, 0, none⟩ x).setCell ⟨p, 1, none⟩ y) :
    W.cell? ⟨p, 0, none⟩ = some x ∧ W.cell? ⟨p, 1, none⟩ = some y ∧ Kept S a W := by
  subst hW
  refine ⟨?_, ?_, (k.setCell (p := ⟨p, 0, none⟩) hp _).setCell (p := ⟨p, 1, none⟩) hp _⟩
  · rw [World.cell?_setCell_other _ _ _ _ (by simp)]
    exact World.cell?_setCell_same (u := u0) _ _ _ d0
  · refine World.cell?_setCell_same (u := u1) _ _ _ ?_
    rw [World.cell?_setCell_other _ _ _ _ (by simp)]
    exact d1

/-- The first thing has been taken out of the heap H. -/
def PostPop (c : Nat) (vH : Value) (H : List It) (T : Int) (w : World) (e : Ending) (w' : World) : Prop :=
  ∃ H' vH', e = .returned (.tuple #[.agg #[.int .i64 (g H 0).a, .int .i64 (g H 0).n], .bool true]) ∧ (g H 0 :: H').Perm H ∧ Heap H' ∧ QM w' c vH' H' T ∧ Kept (Own c vH) w w' ∧ vH'.ownBlock = vH.ownBlock

set_option maxHeartbeats 1000000 in
theorem pop_nil (w : World) (c : Nat) (vH : Value) (T : Int) (h : QM w c vH [] T) :
    Calls Try.prog 10 #[.pointer (some ⟨c, 0, none⟩)] w fun e w' => e = .returned (.tuple #[.agg #[.int .i64 0, .int .i64 0], .bool false]) ∧ Kept (fun _ => False) w w' := by
  have hk := h.kept (S := fun _ => False) ((Kept.refl _ w).alloc (.cells #[.int .i64 0, .int .i64 0] 27)) (fun _ _ q => q)
  have hl := peek_nil _ c vH T hk
  go_enter Try.func10, Try.ntmps10
  go_wp2_with fail
  refine hl.mono ?_
  rintro e w2 ⟨rfl, k2⟩
  have k02 := ((Kept.refl (fun _ => False) w).alloc (.cells #[.int .i64 0, .int .i64 0] 27)).trans k2
  have hsz : w.heap.size < w2.heap.size := by have := k2.size; simp at this; omega
  have d0 : w2.cell? ⟨w.heap.size, 0, none⟩ = some (.int .i64 0) := k2.cell (by simp) (fun q => q)
  have d1 : w2.cell? ⟨w.heap.size, 1, none⟩ = some (.int .i64 0) := k2.cell (by simp) (fun q => q)
  have hb0 := k2.heap (heap_alloc_new w (.cells #[.int .i64 0, .int .i64 0] 27)) (fun q => q)
  have f0 := frozen_of hb0 0
  have f1 := frozen_of hb0 1
  clear hl hk k2 hb0
  go_wp2_with fail
  obtain ⟨e0, e1, k3⟩ := two_set d0 d1 k02 (fun q => absurd q (Nat.lt_irrefl _)) (.int .i64 0) (.int .i64 0) _ rfl
  have k4 := k3.alloc (.cells #[.int .i64 0, .int .i64 0] 27)
  have hs3 : w.heap.size < ((w2.setCell ⟨w.heap.size, 0, none⟩ (.int .i64 0)).setCell ⟨w.heap.size, 1, none⟩ (.int .i64 0)).heap.size := by simpa using hsz
  generalize (w2.setCell ⟨w.heap.size, 0, none⟩ (.int .i64 0)).setCell ⟨w.heap.size, 1, none⟩ (.int .i64 0) = W at *
  refine bodyPost_ret (v := .tuple #[.agg #[.int .i64 0, .int .i64 0], .bool false]) (by simp [results, Try.results10, go_sem, e0, e1, hs3]) rfl ⟨rfl, k4⟩

theorem pop_list {H : List It} {n : Nat} (hn : H.length = n + 1) (hH : Heap H) : ((H.set 0 (g H n)).take n).length = n ∧ (g H 0 :: (H.set 0 (g H n)).take n).Perm H ∧ DownI ((H.set 0 (g H n)).take n) 0 :=
  ⟨by rw [List.length_take, List.length_set]; omega, pop_perm hn, down_start hH _ n (by omega)⟩

set_option maxHeartbeats 4000000 in
theorem pop_some (w : World) (c : Nat) (vH : Value) (H : List It) (T : Int) (h : QM w c vH H T) (n : Nat) (hn : H.length = n + 1) (hH : Heap H) (hm : n ≤ 999) :
    Calls Try.prog 10 #[.pointer (some ⟨c, 0, none⟩)] w (PostPop c vH H T w) := by
  obtain ⟨L1, L2, L3⟩ := pop_list hn hH
  have hne : H ≠ [] := fun e => by subst e; simp at hn
  have kA : Kept (fun _ => False) w (w.alloc (.cells #[.int .i64 0, .int .i64 0] 27)) := (Kept.refl _ w).alloc _
  have hk := h.kept (S := fun _ => False) kA (fun _ _ q => q)
  have hl := peek_some _ c vH H T hk hne (by omega)
  have hcl := h.lt
  go_enter Try.func10, Try.ntmps10
  go_wp2_with fail
  refine hl.mono ?_
  rintro e w2 ⟨rfl, k2⟩
  have k02 := kA.trans k2
  have Q2 := hk.kept k2 (fun _ _ q => q)
  have hsz : w.heap.size < w2.heap.size := by have := k2.size; simp at this; omega
  have hb0 := k2.heap (heap_alloc_new w (.cells #[.int .i64 0, .int .i64 0] 27)) (fun q => q)
  clear hl hk k2 kA
  obtain ⟨b, cap, rfl, _, _, _, _, _⟩ := Q2.row.cells hne
  rw [hn] at Q2
  have Q2' : QM w2 c (.slice (some ⟨b, 0, none⟩) (n + 1) cap) H T := Q2
  have kB : Kept (fun _ => False) w2 (w2.alloc (.cells #[.int .i64 (g H 0).a, .int .i64 (g H 0).n] 27)) := (Kept.refl _ w2).alloc _
  have Q3 := Q2'.kept kB (fun _ _ q => q)
  have hb1 := kB.heap hb0 (fun q => q)
  have hb2 := heap_alloc_new w2 (.cells #[.int .i64 (g H 0).a, .int .i64 (g H 0).n] 27)
  have k03 := k02.trans kB
  have hs23 : w2.heap.size < (w2.alloc (.cells #[.int .i64 (g H 0).a, .int .i64 (g H 0).n] 27)).heap.size := by simp
  have hbw : b < w.heap.size := h.ownlt (.inr rfl)
  have c0w := Q2'.c0
  have hc2 := Q2'.lt
  go_wp2_with fail
  clear c0w
  generalize w2.alloc (Obj.cells #[Value.int IntKind.i64 (g H 0).a, Value.int IntKind.i64 (g H 0).n] 27) = W3 at *
  obtain ⟨hcell, hfr, hb3, hcap⟩ := Q3.row.at_
  obtain ⟨x0, x1, x2⟩ := hcell n (by omega)
  obtain ⟨y0, y1, y2⟩ := hcell 0 (by omega)
  rw [Nat.zero_mul] at y0 y1 y2
  have f0 := hfr 0
  have f1 := hfr 1
  have f2 := hfr 2
  have c0 := Q3.c0
  have fc := frozen_of Q3.blk 0
  have hcb : c ≠ b := fun e => Q3.notR (by rw [e]; rfl)
  have R1 : IR (set3 W3 b (0 * 3) (g H n)) (.slice (some ⟨b, 0, none⟩) (n + 1) cap) (H.set 0 (g H n)) := by
    have := set3_row (H := H) (cap := cap) (b := b) (by rw [hn]; exact Q3.row) 0 (by omega) (g H n)
    rw [hn] at this
    exact this
  have R2 := R1.short n (by simp; omega)
  have KX : Kept (fun k => k = b) W3 (set3 W3 b (0 * 3) (g H n)) := set3_kept (S := fun k => k = b) (Kept.refl _ W3) (fun _ => rfl) _ _
  have QX : QM (set3 W3 b (0 * 3) (g H n)) c (.slice (some ⟨b, 0, none⟩) (n + 1) cap) (H.set 0 (g H n)) T := ⟨KX.heap Q3.blk hcb, R1⟩
  obtain ⟨Q4, K4⟩ := QX.slice_ R2 (fun e => hcb (by injection e with e; exact e.symm))
  have hcap0 : ¬ cap = 0 := by omega
  have hcapi : (n : Int) ≤ (cap : Int) := by omega
  clear hcell hfr R1 QX Q2 Q2'
  go_region
  go_wp2_with fail
  refine (down_any _ c b cap n ((H.set 0 (g H n)).take n) T ?hq L1 L3 (by omega)).mono ?_
  case hq => exact Q4.drew
  rintro e w5 ⟨rfl, H5, hp5, hH5, Q5, K5⟩
  have KT : Kept (fun k => k = b ∨ k = c) W3 w5 := (((KX.mono (fun _ _ q => Or.inl q)).trans (K4.mono (fun _ _ q => Or.inr q))).drew).trans (K5.mono (fun j _ q => by injection q with q; exact .inl q.symm))
  have e0 := KT.heap hb1 (by omega)
  have e1 := KT.heap hb2 (by omega)
  have hs5 := KT.size
  have d0 : w5.cell? ⟨w.heap.size, 0, none⟩ = some (.int .i64 0) := by rw [cell_of_row w5 _ 0 _ 27 (0, 0) e0]; rfl
  have d1 : w5.cell? ⟨w.heap.size, 1, none⟩ = some (.int .i64 0) := by rw [cell_of_row w5 _ 1 _ 27 (0, 0) e0]; rfl
  have d2 : w5.cell? ⟨w2.heap.size, 0, none⟩ = some (.int .i64 (g H 0).a) := by rw [cell_of_row w5 _ 0 _ 27 (0, 0) e1]; rfl
  have d3 : w5.cell? ⟨w2.heap.size, 1, none⟩ = some (.int .i64 (g H 0).n) := by rw [cell_of_row w5 _ 1 _ 27 (0, 0) e1]; rfl
  have f3 := frozen_of e0 0
  have f4 := frozen_of e0 1
  have KW : Kept (Own c (.slice (some ⟨b, 0, none⟩) (n + 1) cap)) w w5 := k03.trans' KT (fun _ _ q => q.elim) (fun j _ q => q.elim (fun q => .inr (by rw [q]; rfl)) (fun q => .inl q))
  obtain ⟨r0, r1, K6⟩ := two_set d0 d1 KW (fun q => absurd q (Nat.lt_irrefl _)) (.int .i64 (g H 0).a) (.int .i64 (g H 0).n) _ rfl
  have K7 : Kept (fun k => k = w.heap.size) w5 ((w5.setCell ⟨w.heap.size, 0, none⟩ (.int .i64 (g H 0).a)).setCell ⟨w.heap.size, 1, none⟩ (.int .i64 (g H 0).n)) := ((Kept.refl (fun k => k = w.heap.size) w5).setCell (p := ⟨w.heap.size, 0, none⟩) (fun _ => rfl) _).setCell (p := ⟨w.heap.size, 1, none⟩) (fun _ => rfl) _
  have Q7 := Q5.kept K7 (fun j hj q => by
    rcases hj with r | r
    · omega
    · injection r with r
      simp only at r
      omega)
  clear KT KX K4 K5 hb1 hb2 c0 x0 x1 x2 y0 y1 y2 f0 f1 f2 fc Q4 Q3 e0 e1 Q5 KW K7
  go_wp2_with fail
  refine bodyPost_ret (v := .tuple #[.agg #[.int .i64 (g H 0).a, .int .i64 (g H 0).n], .bool true]) (by simp [results, Try.results10, go_sem, r0, r1]) rfl ?_
  exact ⟨H5, _, rfl, (List.Perm.cons _ hp5).trans L2, hH5, Q7, by rw [hn]; exact K6, rfl⟩
end Go.Proofs.Ytagcfomjbnecdaa
