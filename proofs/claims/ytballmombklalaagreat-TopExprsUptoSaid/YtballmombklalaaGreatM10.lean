/- expr.Read: an expression's bytes are read. -/
import Derived.Test.YtballmombklalaaGreatM9
import Derived.Deep.RegionWith
import Derived.StillTailTactics
namespace Go.Proofs.YtballmombklalaaGreat
open Go.RowKit

set_option maxRecDepth 100000 in
theorem newReader_any (w : World) (v : Value) (B : List UInt8) (h : Row encB 1 5 w v B) (hb : B.length ≤ 1048576) :
    Calls Tryz.prog 7 #[v] w fun e w' => ∃ p, e = .returned (.pointer (some ⟨p, 0, none⟩)) ∧ RD w' p B 0 ∧ w.heap.size ≤ p ∧ Kept (fun _ => False) w w' := by
  have h0 := (New.mk0 (enc := encB) (sz := 1) (T := 5) w)
  obtain ⟨A2, c2, A', c', w2, rfl, hrun, hn, _⟩ := h0.catB (P := Tryz.prog) 34 34 Tryz.underlying34 (by kernel_rfl) (Kept.refl _ _) (h.same ((Kept.refl _ w).alloc _)) (by simp; omega)
  rw [List.length_nil, Nat.zero_add] at hrun hn
  rw [List.nil_append] at hn
  clear h h0
  have tok := True.intro
  go_enter Tryz.func7, Tryz.ntmps7
  go_wp2_with (at_builtin; have _t := tok; refine wpList_run rfl _ _ _ rfl rfl rfl hrun ?_; clear tok)
  go_ret
  have hn' : New encB 1 5 w w2 (.slice A' B.length c') B := hn
  refine ⟨_, rfl, ⟨⟨_, heap_alloc_new w2 _, hn'.row.same ((Kept.refl _ w2).alloc _)⟩, Nat.zero_le _, hb⟩, hn'.kept.size, hn'.kept.alloc _⟩

theorem one_c (o : Wd) (w : World) (p : Nat) (B : List UInt8) (i : Nat) (rest : List UInt8) (h : RD w p B i) (hw : wdB o = true) (hn : I64 o.n) (hB : B.drop i = wordBytes o ++ rest) :
    B[i]? = some o.c.toNat.toUInt8 ∧ B.drop (i + 1) = (if o.c = 1 then Lib.uvarint (zig o.n) else if o.c = 2 then textB o.t else if o.c = 3 then [o.n.toNat.toUInt8] else []) ++ rest := by
  unfold wordBytes at hB
  constructor
  · have := congrArg (fun l => l[0]?) hB
    simpa using this
  · have := congrArg (fun l => l.drop 1) hB
    simpa using this

theorem RD.store {w : World} {p l : Nat} {B : List UInt8} {j : Nat} {cs : Array Value} {T : TypeId} (h : RD w p B j) (hl : w.heap[l]? = some (.cells cs T (0, 0))) (hT : T ≠ 5) (hp : l ≠ p) (i : Nat) (x : Value) : RD (w.setCell ⟨l, i, none⟩ x) p B j := by
  obtain ⟨v, hb, hr⟩ := h.all
  refine ⟨⟨v, blk_set_other hb (p := ⟨l, i, none⟩) hp x, hr.kept ((Kept.refl (fun k => k = l) w).setCell (p := ⟨l, i, none⟩) (fun _ => rfl) x) (fun g hg e => ?_)⟩, h.le, h.small⟩
  subst e
  exact hr.other hl hT hg

set_option maxHeartbeats 4000000 in
set_option maxRecDepth 100000 in
theorem one_any (o : Wd) (w : World) (p : Nat) (B : List UInt8) (i : Nat) (rest : List UInt8) (h : RD w p B i) (hw : wdB o = true) (hn : I64 o.n) (hB : B.drop i = wordBytes o ++ rest) :
    Calls Tryz.prog 21 #[.pointer (some ⟨p, 0, none⟩)] w fun e w' => e = .returned (.tuple #[aggW o, .int .i64 0]) ∧ RD w' p B (i + (wordBytes o).length) ∧ Kept (fun k => k = p) w w' := by
  obtain ⟨hb0, hB1⟩ := one_c o w p B i rest h hw hn hB
  obtain ⟨b1, b2, b3, b4⟩ := wd_bd hw
  have hcb : (o.c.toNat.toUInt8.toNat : Int) = o.c := by rw [Lib.toUInt8_toNat (by omega)]; omega
  have hby := fun wx hx => byte_any wx p B i hx _ hb0
  rw [hcb] at hby
  have htk := takes_any o.c
  have ht0 := wd_takes hw
  have ka : Kept (fun _ => False) w (w.alloc (.cells #[.int .i64 0, .int .i64 0, .string ByteArray.empty] 62)) := (Kept.refl _ w).alloc _
  have h1 := h.same ka
  have hpl := (Array.getElem?_eq_some_iff.1 h.all.choose_spec.1).1
  unfold wordBytes aggW
  obtain ⟨oc, on, ot⟩ := o
  simp only at *
  have hw2 := hw
  unfold wdB at hw2
  simp only at hw2
  by_cases g1 : oc = 1
  · subst g1
    rw [if_pos rfl] at hB1 hw2 ⊢
    have ht : ot = [] := by simpa using hw2
    subst ht
    clear hw2 hw
    go_enter Tryz.func21, Tryz.ntmps21
    go_wp2_with fail
    refine (hby _ h1).mono ?_
    rintro e w1 ⟨rfl, r1, k1⟩
    have hr1 : w1.heap[w.heap.size]? = some (.cells #[.int .i64 0, .int .i64 0, .string ByteArray.empty] 62 (0, 0)) := k1.heap (heap_alloc_new w _) (fun q => by omega)
    have hs1 := k1.size
    rw [World.size_alloc] at hs1
    have kb := (Kept.refl (fun _ => False) w1).alloc (.cells #[.int .i64 1, .int .i64 0, .string ByteArray.empty] 62)
    have r2 := r1.same kb
    have he := fun wx j hx => err_any wx p B j hx
    go_wp2_with fail
    refine (he _ _ r2).mono ?_
    rintro e w2 ⟨rfl, rfl⟩
    go_wp2_with fail
    refine (htk _).mono ?_
    rintro e w2 ⟨rfl, rfl⟩
    go_wp2_with fail
    refine (rint_any _ p B _ on rest r2 hn hB1).mono ?_
    rintro e w3 ⟨rfl, r3, k3⟩
    have hblk : w3.heap[w1.heap.size]? = some (.cells #[.int .i64 1, .int .i64 0, .string ByteArray.empty] 62 (0, 0)) := k3.heap (heap_alloc_new w1 _) (fun q => by omega)
    have hres : w3.heap[w.heap.size]? = some (.cells #[.int .i64 0, .int .i64 0, .string ByteArray.empty] 62 (0, 0)) := k3.heap (kb.heap hr1 (fun q => q)) (fun q => by omega)
    have f3 := frozen_of hblk 1
    have d0 := cell_of_row w3 w1.heap.size 0 _ _ _ hblk
    have d1 := cell_of_row w3 w1.heap.size 1 _ _ _ hblk
    have d2 := cell_of_row w3 w1.heap.size 2 _ _ _ hblk
    simp only [List.getElem?_toArray, List.getElem?_cons_zero, List.getElem?_cons_succ] at d0 d1 d2
    have r4 := r3.store hblk (by decide) (by omega) 1 (.int .i64 on)
    have hresW := blk_set_other hres (p := ⟨w1.heap.size, 1, none⟩) (show w1.heap.size ≠ w.heap.size by omega) (.int .i64 on)
    have kW : Kept (fun k => k = p) w (w3.setCell ⟨w1.heap.size, 1, none⟩ (.int .i64 on)) := ((ka.mono (fun _ _ q => q.elim)).trans (k1.trans ((kb.mono (fun _ _ q => q.elim)).trans k3))).setCell (fun q => by simp only at q; omega) _
    have f0 := frozen_of hresW 0
    have f1 := frozen_of hresW 1
    have f2 := frozen_of hresW 2
    have z0 := cell_of_row _ w.heap.size 0 _ _ _ hresW
    have z1 := cell_of_row _ w.heap.size 1 _ _ _ hresW
    have z2 := cell_of_row _ w.heap.size 2 _ _ _ hresW
    simp only [List.getElem?_toArray, List.getElem?_cons_zero, List.getElem?_cons_succ] at z0 z1 z2
    have he4 := err_any _ p B _ (r4.same ((Kept.refl (fun _ => False) _).drew))
    have hne1 : w1.heap.size ≠ w.heap.size := by omega
    have r5 := ((r4.store hresW (by decide) (by omega) 0 (.int .i64 1)).store (blk_set hresW 0 _) (by decide) (by omega) 1 (.int .i64 on)).store (blk_set (blk_set hresW 0 _) 1 _) (by decide) (by omega) 2 (.string ByteArray.empty)
    have k5 := ((kW.setCell (p := ⟨w.heap.size, 0, none⟩) (fun q => by simp only at q; omega) (.int .i64 1)).setCell (p := ⟨w.heap.size, 1, none⟩) (fun q => by simp only at q; omega) (.int .i64 on)).setCell (p := ⟨w.heap.size, 2, none⟩) (fun q => by simp only at q; omega) (.string ByteArray.empty)
    have hfin := blk_set (blk_set (blk_set hresW 0 (.int .i64 1)) 1 (.int .i64 on)) 2 (.string ByteArray.empty)
    have hE : Hid (RD _ p B _ ∧ Kept (fun k => k = p) w _) := ⟨r5, k5⟩
    clear r5 k5 kW r4 hres hblk hr1 kb r1 r2 r3 k1 k3
    go_wp2_with fail
    go_region_with (go_at_call 20; refine he4.mono ?_; rintro e w9 ⟨rfl, rfl⟩)
    all_goals
      go_wp2_with fail
      have y0 := cell_of_row _ w.heap.size 0 _ _ _ hfin
      have y1 := cell_of_row _ w.heap.size 1 _ _ _ hfin
      have y2 := cell_of_row _ w.heap.size 2 _ _ _ hfin
      simp only [Array.setIfInBounds, List.size_toArray, List.length_cons, List.length_nil] at y0 y1 y2
      have hE2 := hE
      unfold Hid at hE2
      clear hE hfin f0 f1 f2 z0 z1 z2
      refine bodyPost_ret (v := .tuple #[.agg #[(.int .i64 1), (.int .i64 on), (.string ByteArray.empty)], .int .i64 0]) (by simp [results, Tryz.results21, go_sem, Act.put, y0, y1, y2]) rfl ⟨rfl, ?_, hE2.2.drew⟩
      have r6 := hE2.1.same ((Kept.refl (fun _ => False) _).drew)
      rw [Nat.add_comm (Lib.uvarint (zig on)).length 1, ← Nat.add_assoc]; exact r6
  · have e1 : (oc == 1) = false := by simpa using g1
    rw [if_neg g1] at hB1 hw2 ⊢
    by_cases g2 : oc = 2
    · subst g2
      rw [if_pos rfl] at hB1 hw2 ⊢
      simp at hw2
      obtain ⟨rfl, hol⟩ := hw2
      clear hw
      go_enter Tryz.func21, Tryz.ntmps21
      go_wp2_with fail
      refine (hby _ h1).mono ?_
      rintro e w1 ⟨rfl, r1, k1⟩
      have hr1 : w1.heap[w.heap.size]? = some (.cells #[.int .i64 0, .int .i64 0, .string ByteArray.empty] 62 (0, 0)) := k1.heap (heap_alloc_new w _) (fun q => by omega)
      have hs1 := k1.size
      rw [World.size_alloc] at hs1
      have kb := (Kept.refl (fun _ => False) w1).alloc (.cells #[.int .i64 2, .int .i64 0, .string ByteArray.empty] 62)
      have r2 := r1.same kb
      have he := fun wx j hx => err_any wx p B j hx
      go_wp2_with fail
      refine (he _ _ r2).mono ?_
      rintro e w2 ⟨rfl, rfl⟩
      go_wp2_with fail
      refine (htk _).mono ?_
      rintro e w2 ⟨rfl, rfl⟩
      go_wp2_with fail
      refine (rtext_any _ p B _ ot rest r2 hol hB1).mono ?_
      rintro e w3 ⟨rfl, r3, k3⟩
      have hblk : w3.heap[w1.heap.size]? = some (.cells #[.int .i64 2, .int .i64 0, .string ByteArray.empty] 62 (0, 0)) := k3.heap (heap_alloc_new w1 _) (fun q => by omega)
      have hres : w3.heap[w.heap.size]? = some (.cells #[.int .i64 0, .int .i64 0, .string ByteArray.empty] 62 (0, 0)) := k3.heap (kb.heap hr1 (fun q => q)) (fun q => by omega)
      have f3 := frozen_of hblk 2
      have d0 := cell_of_row w3 w1.heap.size 0 _ _ _ hblk
      have d1 := cell_of_row w3 w1.heap.size 1 _ _ _ hblk
      have d2 := cell_of_row w3 w1.heap.size 2 _ _ _ hblk
      simp only [List.getElem?_toArray, List.getElem?_cons_zero, List.getElem?_cons_succ] at d0 d1 d2
      have r4 := r3.store hblk (by decide) (by omega) 2 (.string ⟨⟨ot⟩⟩)
      have hresW := blk_set_other hres (p := ⟨w1.heap.size, 2, none⟩) (show w1.heap.size ≠ w.heap.size by omega) (.string ⟨⟨ot⟩⟩)
      have kW : Kept (fun k => k = p) w (w3.setCell ⟨w1.heap.size, 2, none⟩ (.string ⟨⟨ot⟩⟩)) := ((ka.mono (fun _ _ q => q.elim)).trans (k1.trans ((kb.mono (fun _ _ q => q.elim)).trans k3))).setCell (fun q => by simp only at q; omega) _
      have f0 := frozen_of hresW 0
      have f1 := frozen_of hresW 1
      have f2 := frozen_of hresW 2
      have z0 := cell_of_row _ w.heap.size 0 _ _ _ hresW
      have z1 := cell_of_row _ w.heap.size 1 _ _ _ hresW
      have z2 := cell_of_row _ w.heap.size 2 _ _ _ hresW
      simp only [List.getElem?_toArray, List.getElem?_cons_zero, List.getElem?_cons_succ] at z0 z1 z2
      have he4 := err_any _ p B _ (r4.same ((Kept.refl (fun _ => False) _).drew))
      have hne1 : w1.heap.size ≠ w.heap.size := by omega
      have r5 := ((r4.store hresW (by decide) (by omega) 0 (.int .i64 2)).store (blk_set hresW 0 _) (by decide) (by omega) 1 (.int .i64 0)).store (blk_set (blk_set hresW 0 _) 1 _) (by decide) (by omega) 2 (.string ⟨⟨ot⟩⟩)
      have k5 := ((kW.setCell (p := ⟨w.heap.size, 0, none⟩) (fun q => by simp only at q; omega) (.int .i64 2)).setCell (p := ⟨w.heap.size, 1, none⟩) (fun q => by simp only at q; omega) (.int .i64 0)).setCell (p := ⟨w.heap.size, 2, none⟩) (fun q => by simp only at q; omega) (.string ⟨⟨ot⟩⟩)
      have hfin := blk_set (blk_set (blk_set hresW 0 (.int .i64 2)) 1 (.int .i64 0)) 2 (.string ⟨⟨ot⟩⟩)
      have hE : Hid (RD _ p B _ ∧ Kept (fun k => k = p) w _) := ⟨r5, k5⟩
      clear r5 k5 kW r4 hres hblk hr1 kb r1 r2 r3 k1 k3
      go_wp2_with fail
      go_region_with (go_at_call 20; refine he4.mono ?_; rintro e w9 ⟨rfl, rfl⟩)
      all_goals
        go_wp2_with fail
        have y0 := cell_of_row _ w.heap.size 0 _ _ _ hfin
        have y1 := cell_of_row _ w.heap.size 1 _ _ _ hfin
        have y2 := cell_of_row _ w.heap.size 2 _ _ _ hfin
        simp only [Array.setIfInBounds, List.size_toArray, List.length_cons, List.length_nil] at y0 y1 y2
        have hE2 := hE
        unfold Hid at hE2
        clear hE hfin f0 f1 f2 z0 z1 z2
        refine bodyPost_ret (v := .tuple #[.agg #[(.int .i64 2), (.int .i64 0), (.string ⟨⟨ot⟩⟩)], .int .i64 0]) (by simp [results, Tryz.results21, go_sem, Act.put, y0, y1, y2]) rfl ⟨rfl, ?_, hE2.2.drew⟩
        have r6 := hE2.1.same ((Kept.refl (fun _ => False) _).drew)
        rw [Nat.add_comm (textB ot).length 1, ← Nat.add_assoc]; exact r6
    · have e2 : (oc == 2) = false := by simpa using g2
      rw [if_neg g2] at hB1 hw2 ⊢
      by_cases g3 : oc = 3
      · subst g3
        rw [if_pos rfl] at hB1 hw2 ⊢
        simp at hw2
        obtain ⟨n1, n2, rfl⟩ := hw2
        have hx2 : B[i + 1]? = some on.toNat.toUInt8 := by
          have := congrArg (fun l => l[0]?) hB1
          simpa using this
        have hnb : (on.toNat.toUInt8.toNat : Int) = on := by rw [Lib.toUInt8_toNat (by omega)]; omega
        have hb2 := fun wx hx => byte_any wx p B (i + 1) hx _ hx2
        rw [hnb] at hb2
        clear hw hx2 hnb
        go_enter Tryz.func21, Tryz.ntmps21
        go_wp2_with fail
        refine (hby _ h1).mono ?_
        rintro e w1 ⟨rfl, r1, k1⟩
        have hr1 : w1.heap[w.heap.size]? = some (.cells #[.int .i64 0, .int .i64 0, .string ByteArray.empty] 62 (0, 0)) := k1.heap (heap_alloc_new w _) (fun q => by omega)
        have hs1 := k1.size
        rw [World.size_alloc] at hs1
        have kb := (Kept.refl (fun _ => False) w1).alloc (.cells #[.int .i64 3, .int .i64 0, .string ByteArray.empty] 62)
        have r2 := r1.same kb
        have he := fun wx j hx => err_any wx p B j hx
        go_wp2_with fail
        refine (he _ _ r2).mono ?_
        rintro e w2 ⟨rfl, rfl⟩
        go_wp2_with fail
        refine (htk _).mono ?_
        rintro e w2 ⟨rfl, rfl⟩
        go_wp2_with fail
        refine (hb2 _ r2).mono ?_
        rintro e w3 ⟨rfl, r3, k3⟩
        have hblk : w3.heap[w1.heap.size]? = some (.cells #[.int .i64 3, .int .i64 0, .string ByteArray.empty] 62 (0, 0)) := k3.heap (heap_alloc_new w1 _) (fun q => by omega)
        have hres : w3.heap[w.heap.size]? = some (.cells #[.int .i64 0, .int .i64 0, .string ByteArray.empty] 62 (0, 0)) := k3.heap (kb.heap hr1 (fun q => q)) (fun q => by omega)
        have f3 := frozen_of hblk 1
        have d0 := cell_of_row w3 w1.heap.size 0 _ _ _ hblk
        have d1 := cell_of_row w3 w1.heap.size 1 _ _ _ hblk
        have d2 := cell_of_row w3 w1.heap.size 2 _ _ _ hblk
        simp only [List.getElem?_toArray, List.getElem?_cons_zero, List.getElem?_cons_succ] at d0 d1 d2
        have r4 := r3.store hblk (by decide) (by omega) 1 (.int .i64 on)
        have hresW := blk_set_other hres (p := ⟨w1.heap.size, 1, none⟩) (show w1.heap.size ≠ w.heap.size by omega) (.int .i64 on)
        have kW : Kept (fun k => k = p) w (w3.setCell ⟨w1.heap.size, 1, none⟩ (.int .i64 on)) := ((ka.mono (fun _ _ q => q.elim)).trans (k1.trans ((kb.mono (fun _ _ q => q.elim)).trans k3))).setCell (fun q => by simp only at q; omega) _
        have f0 := frozen_of hresW 0
        have f1 := frozen_of hresW 1
        have f2 := frozen_of hresW 2
        have z0 := cell_of_row _ w.heap.size 0 _ _ _ hresW
        have z1 := cell_of_row _ w.heap.size 1 _ _ _ hresW
        have z2 := cell_of_row _ w.heap.size 2 _ _ _ hresW
        simp only [List.getElem?_toArray, List.getElem?_cons_zero, List.getElem?_cons_succ] at z0 z1 z2
        have he4 := err_any _ p B _ (r4.same ((Kept.refl (fun _ => False) _).drew))
        have hne1 : w1.heap.size ≠ w.heap.size := by omega
        have r5 := ((r4.store hresW (by decide) (by omega) 0 (.int .i64 3)).store (blk_set hresW 0 _) (by decide) (by omega) 1 (.int .i64 on)).store (blk_set (blk_set hresW 0 _) 1 _) (by decide) (by omega) 2 (.string ByteArray.empty)
        have k5 := ((kW.setCell (p := ⟨w.heap.size, 0, none⟩) (fun q => by simp only at q; omega) (.int .i64 3)).setCell (p := ⟨w.heap.size, 1, none⟩) (fun q => by simp only at q; omega) (.int .i64 on)).setCell (p := ⟨w.heap.size, 2, none⟩) (fun q => by simp only at q; omega) (.string ByteArray.empty)
        have hfin := blk_set (blk_set (blk_set hresW 0 (.int .i64 3)) 1 (.int .i64 on)) 2 (.string ByteArray.empty)
        have hE : Hid (RD _ p B _ ∧ Kept (fun k => k = p) w _) := ⟨r5, k5⟩
        clear r5 k5 kW r4 hres hblk hr1 kb r1 r2 r3 k1 k3
        go_wp2_with fail
        go_region_with (go_at_call 20; refine he4.mono ?_; rintro e w9 ⟨rfl, rfl⟩)
        all_goals
          go_wp2_with fail
          have y0 := cell_of_row _ w.heap.size 0 _ _ _ hfin
          have y1 := cell_of_row _ w.heap.size 1 _ _ _ hfin
          have y2 := cell_of_row _ w.heap.size 2 _ _ _ hfin
          simp only [Array.setIfInBounds, List.size_toArray, List.length_cons, List.length_nil] at y0 y1 y2
          have hE2 := hE
          unfold Hid at hE2
          clear hE hfin f0 f1 f2 z0 z1 z2
          refine bodyPost_ret (v := .tuple #[.agg #[(.int .i64 3), (.int .i64 on), (.string ByteArray.empty)], .int .i64 0]) (by simp [results, Tryz.results21, go_sem, Act.put, y0, y1, y2]) rfl ⟨rfl, ?_, hE2.2.drew⟩
          have r6 := hE2.1.same ((Kept.refl (fun _ => False) _).drew)
          exact r6
      · have e3 : (oc == 3) = false := by simpa using g3
        rw [if_neg g3] at hB1 hw2 ⊢
        simp at hw2
        obtain ⟨_, rfl, rfl⟩ := hw2
        clear hw
        go_enter Tryz.func21, Tryz.ntmps21
        go_wp2_with fail
        refine (hby _ h1).mono ?_
        rintro e w1 ⟨rfl, r1, k1⟩
        have hr1 : w1.heap[w.heap.size]? = some (.cells #[.int .i64 0, .int .i64 0, .string ByteArray.empty] 62 (0, 0)) := k1.heap (heap_alloc_new w _) (fun q => by omega)
        have hs1 := k1.size
        rw [World.size_alloc] at hs1
        have kb := (Kept.refl (fun _ => False) w1).alloc (.cells #[.int .i64 oc, .int .i64 0, .string ByteArray.empty] 62)
        have r2 := r1.same kb
        have he := fun wx j hx => err_any wx p B j hx
        go_wp2_with fail
        refine (he _ _ r2).mono ?_
        rintro e w2 ⟨rfl, rfl⟩
        have hnl : decide (takesI oc < 0) = false := by simp; omega
        go_wp2_with fail
        refine (htk _).mono ?_
        rintro e w2 ⟨rfl, rfl⟩
        have r4 := r2
        have hresW := kb.heap hr1 (fun q => q)
        have kW : Kept (fun k => k = p) w (w1.alloc (.cells #[.int .i64 oc, .int .i64 0, .string ByteArray.empty] 62)) := (ka.mono (fun _ _ q => q.elim)).trans (k1.trans (kb.mono (fun _ _ q => q.elim)))
        have f0 := frozen_of hresW 0
        have f1 := frozen_of hresW 1
        have f2 := frozen_of hresW 2
        have z0 := cell_of_row _ w.heap.size 0 _ _ _ hresW
        have z1 := cell_of_row _ w.heap.size 1 _ _ _ hresW
        have z2 := cell_of_row _ w.heap.size 2 _ _ _ hresW
        simp only [List.getElem?_toArray, List.getElem?_cons_zero, List.getElem?_cons_succ] at z0 z1 z2
        have he4 := err_any _ p B _ (r4.same ((Kept.refl (fun _ => False) _).drew))
        have hne1 : w1.heap.size ≠ w.heap.size := by omega
        have r5 := ((r4.store hresW (by decide) (by omega) 0 (.int .i64 oc)).store (blk_set hresW 0 _) (by decide) (by omega) 1 (.int .i64 0)).store (blk_set (blk_set hresW 0 _) 1 _) (by decide) (by omega) 2 (.string ByteArray.empty)
        have k5 := ((kW.setCell (p := ⟨w.heap.size, 0, none⟩) (fun q => by simp only at q; omega) (.int .i64 oc)).setCell (p := ⟨w.heap.size, 1, none⟩) (fun q => by simp only at q; omega) (.int .i64 0)).setCell (p := ⟨w.heap.size, 2, none⟩) (fun q => by simp only at q; omega) (.string ByteArray.empty)
        have hfin := blk_set (blk_set (blk_set hresW 0 (.int .i64 oc)) 1 (.int .i64 0)) 2 (.string ByteArray.empty)
        have hE : Hid (RD _ p B _ ∧ Kept (fun k => k = p) w _) := ⟨r5, k5⟩
        clear r5 k5 kW r4 hr1 kb r1 r2 k1
        go_wp2_with fail
        go_region_with (go_at_call 20; refine he4.mono ?_; rintro e w9 ⟨rfl, rfl⟩)
        all_goals
          go_wp2_with fail
          have y0 := cell_of_row _ w.heap.size 0 _ _ _ hfin
          have y1 := cell_of_row _ w.heap.size 1 _ _ _ hfin
          have y2 := cell_of_row _ w.heap.size 2 _ _ _ hfin
          simp only [Array.setIfInBounds, List.size_toArray, List.length_cons, List.length_nil] at y0 y1 y2
          have hE2 := hE
          unfold Hid at hE2
          clear hE hfin f0 f1 f2 z0 z1 z2
          refine bodyPost_ret (v := .tuple #[.agg #[(.int .i64 oc), (.int .i64 0), (.string ByteArray.empty)], .int .i64 0]) (by simp [results, Tryz.results21, go_sem, Act.put, y0, y1, y2]) rfl ⟨rfl, ?_, hE2.2.drew⟩
          have r6 := hE2.1.same ((Kept.refl (fun _ => False) _).drew)
          exact r6
end Go.Proofs.YtballmombklalaaGreat

/- expr.Read. -/
namespace Go.Proofs.YtballmombklalaaGreat
open Go.RowKit

theorem encW_one : ∀ x, ∀ u ∈ encW x, u.oneCell' = true := by simp [encW, Value.oneCell']

set_option maxHeartbeats 1000000 in
set_option maxRecDepth 100000 in
theorem eread_any (L : List Wd) (w : World) (p : Nat) (h : RD w p (exprBytes L) 0) (hf : formI L = 0) (hn : ∀ o ∈ L, I64 o.n) :
    Calls Tryz.prog 6 #[.pointer (some ⟨p, 0, none⟩)] w fun e w' => ∃ v, e = .returned (.tuple #[v, .int .i64 0]) ∧ Row encW 3 62 w' v L ∧ (∀ j, v.ownBlock = some j → w.heap.size ≤ j) ∧ Kept (fun k => k = p) w w' := by
  obtain ⟨h64, hhi, hall⟩ := form_all hf
  have hpos : 0 < L.length := by
    cases L with
    | nil => simp [hiF] at hhi
    | cons a b => simp
  have hpl : p < w.heap.size := (Array.getElem?_eq_some_iff.1 h.all.choose_spec.1).1
  have hlb : (L.length.toUInt8.toNat : Int) = L.length := by rw [Lib.toUInt8_toNat (by omega)]
  have hby := byte_any w p (exprBytes L) 0 h _ (show (exprBytes L)[0]? = some L.length.toUInt8 from rfl)
  rw [hlb] at hby
  have hE : (exprBytes L).drop 1 = L.flatMap wordBytes := rfl
  generalize exprBytes L = B at *
  obtain ⟨i0, hi1, hi2, hi3, hi4⟩ := info_parts (P := Tryz.prog) (e := 62) (z := .agg #[.int .i64 0, .int .i64 0, .string ByteArray.empty]) (size := 3) (bytes := 32) (by kernel_rfl)
  have n1 : ((L.length : Int) == 0) = false := beq_eq_false_iff_ne.2 (by omega)
  have n2 : decide (64 < (L.length : Int)) = false := by simp; omega
  go_enter Tryz.func6, Tryz.ntmps6
  go_wp2_with fail
  refine hby.mono ?_
  rintro e w1 ⟨rfl, r1, k1⟩
  have he1 := err_any w1 p B _ r1
  go_wp2_with fail
  refine he1.mono ?_
  rintro e w2 ⟨rfl, rfl⟩
  have hs1 := k1.size
  go_wp2_with (at_make; refine wpList_make_own _ rfl _ _ 26 rfl w.heap.size 62 i0 (.agg #[.int .i64 0, .int .i64 0, .string ByteArray.empty]) 3 Tryz.underlying26 hi1 hi2 hi3 .i64 .i64 _ L.length rfl rfl rfl (by rw [hi4]; omega) (by simp only [maxLen]; omega) hs1 ?_; intro w3 hown0 hgrow0)
  obtain ⟨hrow0, hown0'⟩ := owns_zero hown0
  have hk3 : Kept (fun k => k = p) w w3 := k1.grown hgrow0 (fun k hk _ => by cases hk)
  have r3 : RD w3 p B 1 := r1.same ((Kept.refl (fun _ => False) w2).grown hgrow0 (fun k hk _ => by cases hk))
  clear hgrow0 hown0
  go_loopg [6, 29] L.length (fun k ov iv wr => ∃ (n at_ : Nat) (pre : List Wd), n + k = L.length ∧ iv = .int .i64 n ∧ pre = L.take n ∧ B.drop at_ = (L.drop n).flatMap wordBytes ∧ RD wr p B at_ ∧ Row encW 3 62 wr ov pre ∧ (∀ j, ov.ownBlock = some j → w.heap.size ≤ j) ∧ Kept (fun k => k = p) w wr)
  case atStart => exact ⟨0, 1, [], by omega, rfl, rfl, hE, r3, hrow0, hown0', hk3⟩
  case round =>
    obtain ⟨n, at_, pre, hk, rfl, hpre, hat, hrd, hrow, hown, hkept⟩ := hrel
    clear r3 hrow0 hown0' hk3 he1 r1 k1 hby hE
    obtain ⟨A, cp, rfl, _, _⟩ := hrow.shape
    have hpl2 : pre.length = n := by rw [hpre, List.length_take]; omega
    by_cases hlt : n < L.length
    · obtain ⟨o, ho⟩ : ∃ o, L[n]? = some o := ⟨L[n], List.getElem?_eq_getElem hlt⟩
      have hmem : o ∈ L := List.mem_of_getElem? ho
      have hdr : L.drop n = o :: L.drop (n + 1) := by
        rw [List.drop_eq_getElem_cons hlt]
        congr 1
        rw [List.getElem?_eq_getElem hlt] at ho
        injection ho
      rw [hdr, List.flatMap_cons] at hat
      have hone := one_any o wr p B at_ _ hrd (hall o hmem) (hn o hmem) hat
      have hat2 : Hid (B.drop (at_ + (wordBytes o).length) = (L.drop (n + 1)).flatMap wordBytes) := by
        unfold Hid; rw [← List.drop_drop, hat, List.drop_left]
      have htk : Hid (pre ++ [o] = L.take (n + 1)) := by
        unfold Hid; rw [hpre, List.take_add_one, ho]; rfl
      obtain ⟨oc, on, ot⟩ := o
      unfold aggW at hone
      simp only at hone
      have hple : pre.length ≤ 64 := by omega
      clear hat hdr ho hmem hpre hpl2
      go_wp2_with fail
      refine hone.mono ?_
      rintro e w4 ⟨rfl, r4, k4⟩
      have hs4 := k4.size
      have hsw := hkept.size
      have ka : Kept (fun _ => False) w4 ((w4.alloc (.cells #[.int .i64 oc, .int .i64 on, .string ⟨⟨ot⟩⟩] 62)).alloc (.cells #[.int .i64 oc, .int .i64 on, .string ⟨⟨ot⟩⟩] 62)) := ((Kept.refl _ w4).alloc _).alloc _
      have hrow4 : Row encW 3 62 w4 (.slice A pre.length cp) pre := hrow.kept k4 (fun g hg e => by have := hown g hg; omega)
      have hB2 := heap_alloc_new (w4.alloc (.cells #[.int .i64 oc, .int .i64 on, .string ⟨⟨ot⟩⟩] 62)) (.cells #[.int .i64 oc, .int .i64 on, .string ⟨⟨ot⟩⟩] 62)
      rw [World.size_alloc] at hB2
      obtain ⟨A', c', w5, hrun, hh⟩ := app_one (P := Tryz.prog) (enc := encW) (sz := 3) 26 26 (.agg #[.int .i64 0, .int .i64 0, .string ByteArray.empty]) 32 Tryz.underlying26 (by kernel_rfl) rfl (by decide) encW_len encW_one (hrow4.same ka) (⟨oc, on, ot⟩ : Wd) (w4.heap.size + 1) 1 hB2 (by simp only [maxLen]; omega) (by omega)
      have hhr := hh.1
      have hhk := hh.2.1
      have hho := hh.2.2
      have hown5 : Hid (∀ j, (Value.slice A' (pre.length + 1) c').ownBlock = some j → w.heap.size ≤ j) := fun j hj => by
        rcases hho j hj with q | q
        · exact hown j q
        · have := ka.size; omega
      have hk5 : Hid (Kept (fun k => k = p) w w5) := ((hkept.trans k4).trans (ka.mono (fun _ _ q => q.elim))).trans' hhk (fun _ _ q => q) (fun i hi q => absurd (hown i q) (by omega))
      have hnp : ∀ j, (Value.slice A pre.length cp).ownBlock = some j → j ≠ p := fun j hj e => by have := hown j hj; omega
      have r5 : Hid (RD w5 p B (at_ + (wordBytes ⟨oc, on, ot⟩).length)) := by
        obtain ⟨v, hb, hr⟩ := (r4.same ka).all
        refine ⟨⟨v, hhk.heap hb (fun q => hnp p q rfl), hr.kept hhk (fun g hg q => ?_)⟩, r4.le, r4.small⟩
        rcases (hrow4.same ka).2 with ⟨e, _⟩ | ⟨b, cap, cur, e, _, hg2, _⟩
        · rw [e] at q; cases q
        · rw [e] at q
          injection q with q
          simp only at q
          subst q
          exact hr.other (T' := 62) hg2 (by decide) hg
      have hrow5 : Hid (Row encW 3 62 w5 (.slice A' (pre.length + 1) c') (pre ++ [⟨oc, on, ot⟩])) := hhr
      clear hh hhr hhk hho hrow4 hrow hown hB2 ka hkept k4 r4 hrd hone
      have tok := True.intro
      go_wp2_with (at_builtin; have _t := tok; refine wpList_run rfl _ _ _ rfl rfl rfl hrun ?_; clear tok)
      go_roundg (gk - 1)
      case measure => omega
      case rel => exact ⟨n + 1, _, _, by omega, int_eq (by omega), htk, hat2, r5, hrow5, hown5, hk5⟩
    · have e : n = L.length := by omega
      subst e
      rw [List.take_length] at hpre
      subst hpre
      obtain ⟨A2, c2, hv, _, hsr⟩ := hrow.src0 encW_len
      injection hv with hv1 _ hv2
      subst hv1 hv2
      have hform := form_any pre A cp wr hsr (by simp only [maxLen]; omega)
      rw [hf] at hform
      have hrow' : Hid (Row encW 3 62 wr (.slice A pre.length cp) pre) := hrow
      have hown' : Hid (∀ j, (Value.slice A pre.length cp).ownBlock = some j → w.heap.size ≤ j) := hown
      have hkept' : Hid (Kept (fun k => k = p) w wr) := hkept
      clear hat hrd hpl2 hsr hrow hown hkept
      go_wp2_with fail
      refine hform.mono ?_
      rintro e w4 ⟨rfl, k4⟩
      go_wp2_with fail
      go_ret2
      exact ⟨_, rfl, Row.same hrow' k4, hown', Kept.trans hkept' (k4.mono (fun _ _ q => q.elim))⟩
end Go.Proofs.YtballmombklalaaGreat

/- show: signs. -/
namespace Go.Proofs.YtballmombklalaaGreat
open Go.RowKit

/-- A sign's text. -/
def markS (c : Int) : List UInt8 :=
  if c = 13 then [61] else if c = 14 then [60, 62] else if c = 15 then [60] else if c = 16 then [60, 61] else if c = 17 then [62] else if c = 18 then [62, 61]
  else if c = 7 then [43] else if c = 12 then [43, 43] else if c = 9 then [42] else if c = 10 then [47] else if c = 11 then [37] else [45]
def signT (c : Int) : Tok :=
  if c = 20 then ⟨1, [111, 114]⟩ else if c = 19 then ⟨1, [97, 110, 100]⟩ else if c = 5 then ⟨1, [110, 111, 116]⟩ else if c = 6 then ⟨1, [108, 101, 110]⟩ else ⟨4, markS c⟩

theorem mark_any (c : Int) (w : World) (h : 1 ≤ c ∧ c ≤ 20) : Calls Tryz.prog 123 #[.int .i64 c] w fun e w' => e = .returned (.string ⟨⟨markS c⟩⟩) ∧ w' = w := by
  have hc : c = 1 ∨ c = 2 ∨ c = 3 ∨ c = 4 ∨ c = 5 ∨ c = 6 ∨ c = 7 ∨ c = 8 ∨ c = 9 ∨ c = 10 ∨ c = 11 ∨ c = 12 ∨ c = 13 ∨ c = 14 ∨ c = 15 ∨ c = 16 ∨ c = 17 ∨ c = 18 ∨ c = 19 ∨ c = 20 := by omega
  rcases hc with rfl | rfl | rfl | rfl | rfl | rfl | rfl | rfl | rfl | rfl | rfl | rfl | rfl | rfl | rfl | rfl | rfl | rfl | rfl | rfl
  all_goals
    go_enter Tryz.func123, Tryz.ntmps123
    go_wp2_with fail
    go_ret
    exact ⟨rfl, rfl⟩

theorem bracket_any (s : List UInt8) (w : World) : Calls Tryz.prog 102 #[.string ⟨⟨s⟩⟩] w fun e w' => e = .returned (aggT ⟨4, s⟩) ∧ Kept (fun _ => False) w w' := by
  go_enter Tryz.func102, Tryz.ntmps102
  go_wp2_with fail
  exact bodyPost_ret (v := aggT ⟨4, s⟩) (by simp [results, Tryz.results102, go_sem, aggT]) rfl ⟨rfl, (Kept.refl _ w).alloc _⟩

theorem sign_tok (c : Int) (w : World) (h : 1 ≤ c ∧ c ≤ 20) : Calls Tryz.prog 99 #[.int .i64 c] w fun e w' => e = .returned (aggT (signT c)) ∧ Kept (fun _ => False) w w' := by
  have hm := fun wx => mark_any c wx h
  have hc : c = 20 ∨ c = 19 ∨ c = 5 ∨ c = 6 ∨ (¬ c = 20 ∧ ¬ c = 19 ∧ ¬ c = 5 ∧ ¬ c = 6) := by omega
  rcases hc with rfl | rfl | rfl | rfl | ⟨h1, h2, h3, h4⟩
  · go_enter Tryz.func99, Tryz.ntmps99
    go_wp2_with fail
    exact bodyPost_ret (v := aggT (signT 20)) (by simp [results, Tryz.results99, go_sem, aggT, signT]) rfl ⟨rfl, (Kept.refl _ w).alloc _⟩
  · go_enter Tryz.func99, Tryz.ntmps99
    go_wp2_with fail
    exact bodyPost_ret (v := aggT (signT 19)) (by simp [results, Tryz.results99, go_sem, aggT, signT]) rfl ⟨rfl, (Kept.refl _ w).alloc _⟩
  · go_enter Tryz.func99, Tryz.ntmps99
    go_wp2_with fail
    exact bodyPost_ret (v := aggT (signT 5)) (by simp [results, Tryz.results99, go_sem, aggT, signT]) rfl ⟨rfl, (Kept.refl _ w).alloc _⟩
  · go_enter Tryz.func99, Tryz.ntmps99
    go_wp2_with fail
    exact bodyPost_ret (v := aggT (signT 6)) (by simp [results, Tryz.results99, go_sem, aggT, signT]) rfl ⟨rfl, (Kept.refl _ w).alloc _⟩
  · have e : signT c = ⟨4, markS c⟩ := by unfold signT; rw [if_neg h1, if_neg h2, if_neg h3, if_neg h4]
    rw [e]
    clear e
    generalize markS c = m at *
    have g1 : (c == 20) = false := by simpa using h1
    have g2 : (c == 19) = false := by simpa using h2
    have g3 : (c == 5) = false := by simpa using h3
    have g4 : (c == 6) = false := by simpa using h4
    clear h1 h2 h3 h4
    go_enter Tryz.func99, Tryz.ntmps99
    go_wp2_with fail
    refine (hm _).mono ?_
    rintro e w' ⟨rfl, rfl⟩
    go_wp2_with fail
    exact bodyPost_ret (v := aggT ⟨4, m⟩) (by simp [results, Tryz.results99, go_sem, aggT]) rfl ⟨rfl, (Kept.refl _ w).alloc _⟩

/-- The levels that must stand at a word's parts. -/
def mustI (c : Int) : Int × Int := if levelI c = 4 then (5, 5) else if levelI c = 3 ∨ levelI c = 7 then (levelI c, levelI c) else (levelI c, levelI c + 1)
theorem level_bd (c : Int) : 1 ≤ levelI c ∧ levelI c ≤ 8 := by unfold levelI; (repeat' split) <;> omega
theorem must_any (c : Int) (w : World) : Calls Tryz.prog 101 #[.int .i64 c] w fun e w' => e = .returned (.agg #[.int .i64 (mustI c).1, .int .i64 (mustI c).2]) ∧ Kept (fun _ => False) w w' := by
  have hl := fun wx => level_any c wx
  have hb := level_bd c
  unfold mustI
  generalize levelI c = n at *
  have hc : n = 4 ∨ n = 3 ∨ n = 7 ∨ n = 1 ∨ n = 2 ∨ n = 5 ∨ n = 6 ∨ n = 8 := by omega
  rcases hc with rfl | rfl | rfl | rfl | rfl | rfl | rfl | rfl
  all_goals
    go_enter Tryz.func101, Tryz.ntmps101
    go_wp2_with fail
    refine (hl _).mono ?_
    rintro e w' ⟨rfl, rfl⟩
    go_wp2_with fail
    refine bodyPost_ret (by simp [results, Tryz.results101, go_sem] <;> rfl) rfl ⟨rfl, (Kept.refl _ _).alloc _⟩
end Go.Proofs.YtballmombklalaaGreat
