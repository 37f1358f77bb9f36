/- tally.New: a tally of one count. -/
import Derived.Test.YthkeigljiinlbaaGreatM36
namespace Go.Proofs.YthkeigljiinlbaaGreat
open Go.RowKit Go.MapKept

theorem encA_one : ∀ x : Ag, ∀ u ∈ encA x, u.oneCell' = true := by
  intro x u hu
  unfold encA at hu
  simp only [List.mem_cons, List.not_mem_nil, or_false] at hu
  rcases hu with rfl | rfl | rfl <;> rfl
theorem encC_one : ∀ x : Cl, ∀ u ∈ encC x, u.oneCell' = true := by
  intro x u hu
  unfold encC at hu
  simp only [List.mem_cons, List.not_mem_nil, or_false] at hu
  rcases hu with rfl | rfl <;> rfl
set_option maxRecDepth 100000 in
theorem cloneS_any (A : Option Addr) (c : Nat) (w : World) (hs : Src encC 2 w (fun _ => False) A S1) :
    Calls Tryz.prog 131 #[.slice A 1 c] w fun e w' => ∃ v, e = .returned v ∧ New encC 2 69 w w' v S1 := by
  obtain ⟨b, off, rfl, _, _⟩ := hs 0 _ rfl
  have hnil : ∀ w, (binOp .eql 28 (.slice (some ⟨b, off, none⟩) 1 c) (.slice none 0 0)).run Tryz.prog w = .ok (.bool false) w := fun _ => rfl
  go_enter Tryz.func131, Tryz.ntmps131
  have hn0 := New.mkL encC_len w ([] : List Cl) (by simp [maxLen]) (T := 69) #[] rfl 0 rfl
  have hap := New.src (P := Tryz.prog) (sz := 2) 28 28 (.agg #[.string ByteArray.empty, .int .i64 0]) 24 Tryz.underlying28 (by kernel_rfl) rfl (by decide) encC_len encC_one hn0 (Kept.refl _ _) S1 (some ⟨b, off, none⟩) c (by simp) (hs.same hn0.kept) (by simp only [List.length_nil, maxLen]; decide) (by decide)
  go_wp2_with (at_builtin; refine wpList_ex rfl _ _ _ _ rfl rfl rfl hap ?_; rintro v' w' ⟨A', c', rfl, hn2⟩)
  go_ret
  exact ⟨_, rfl, by simpa using hn2⟩
set_option maxRecDepth 100000 in
theorem cloneA_any (A : Option Addr) (c : Nat) (w : World) (hs : Src encA 3 w (fun _ => False) A A1) :
    Calls Tryz.prog 132 #[.slice A 1 c] w fun e w' => ∃ v, e = .returned v ∧ New encA 3 32 w w' v A1 := by
  obtain ⟨b, off, rfl, _, _⟩ := hs 0 _ rfl
  have hnil : ∀ w, (binOp .eql 33 (.slice (some ⟨b, off, none⟩) 1 c) (.slice none 0 0)).run Tryz.prog w = .ok (.bool false) w := fun _ => rfl
  go_enter Tryz.func132, Tryz.ntmps132
  have hn0 := New.mkL encA_len w ([] : List Ag) (by simp [maxLen]) (T := 32) #[] rfl 0 rfl
  have hap := New.src (P := Tryz.prog) (sz := 3) 33 33 (.agg #[.int .i64 0, .int .i64 0, .string ByteArray.empty]) 32 Tryz.underlying33 (by kernel_rfl) rfl (by decide) encA_len encA_one hn0 (Kept.refl _ _) A1 (some ⟨b, off, none⟩) c (by simp) (hs.same hn0.kept) (by simp only [List.length_nil, maxLen]; decide) (by decide)
  go_wp2_with (at_builtin; refine wpList_ex rfl _ _ _ _ rfl rfl rfl hap ?_; rintro v' w' ⟨A', c', rfl, hn2⟩)
  go_ret
  exact ⟨_, rfl, by simpa using hn2⟩

def partV (b : Nat) : Value := .iface 243 (.pointer (some ⟨b, 0, none⟩))
def encI1 (b : Nat) : List Value := [partV b]
theorem encI1_len (x : Nat) : (encI1 x).length = 1 := rfl
theorem encI1_one : ∀ x, ∀ u ∈ encI1 x, u.oneCell' = true := by simp [encI1, partV, Value.oneCell']
set_option maxRecDepth 100000 in
theorem begin_any (w : World) : Calls Tryz.prog 133 #[.int .i64 1] w fun e w' => e = .returned (partV w.heap.size) ∧ w' = w.alloc (.cells #[.int .i64 0] 245) := by
  go_enter Tryz.func133, Tryz.ntmps133
  go_wp2_with fail
  go_ret
  exact ⟨rfl, rfl⟩

/-- Block tb is a tally that holds c rows. -/
structure Tal (w0 w : World) (tb : Nat) (c : Int) (As Aa Ap : Option Addr) (cs ca cp mb cb : Nat) (es : Array MapEntry) (ck : Nat) : Prop where
  at_ : w.heap[tb]? = some (.cells #[.slice As 1 cs, .slice Aa 1 ca, .slice Ap 1 cp, .map (some mb), .int .i64 c] 211 (0, 0))
  sch : Row encC 2 69 w (.slice As 1 cs) S1
  agg : Row encA 3 32 w (.slice Aa 1 ca) A1
  part : Row encI1 1 213 w (.slice Ap 1 cp) [cb]
  cnt : w.heap[cb]? = some (.cells #[.int .i64 c] 245 (0, 0))
  map : MapA .string w mb es ck
  vals : ∀ x ∈ es.toList, ∃ n : Int, x.val = .int .i64 n ∧ 0 ≤ n ∧ n ≤ c
  big : w0.heap.size ≤ tb ∧ w0.heap.size ≤ cb ∧ w0.heap.size ≤ mb
  rng : 0 ≤ c ∧ c ≤ 1048576
  kept : Kept (fun _ => False) w0 w

set_option maxHeartbeats 2000000 in
set_option maxRecDepth 100000 in
theorem tnew_any (A B : Option Addr) (c d : Nat) (w : World) (hs : Src encC 2 w (fun _ => False) A S1) (ha : Src encA 3 w (fun _ => False) B A1) :
    Calls Tryz.prog 87 #[.slice A 1 c, .slice B 1 d] w fun e w' => ∃ tb As Aa Ap cs ca cp mb cb es ck, e = .returned (.tuple #[.pointer (some ⟨tb, 0, none⟩), .int .i64 0]) ∧ Tal w w' tb 0 As Aa Ap cs ca cp mb cb es ck := by
  have hcl := fun wx hx hy => tcols_any A B c d wx hx hy
  have hcs := fun wx hx => cloneS_any A c wx hx
  have hca := fun wx hx => cloneA_any B d wx hx
  have hbg := fun wx => begin_any wx
  have hmk : ∀ W, (Instr.makeMap 208 none).run Tryz.prog W = .ok (.map (some W.heap.size)) (W.alloc (.map #[] 0)) := fun _ => rfl
  go_enter Tryz.func87, Tryz.ntmps87
  go_wp2_with fail
  refine (hcl _ hs ha).mono ?_
  rintro e w1 ⟨v1, rfl, hn1⟩
  have k1 := hn1.kept
  go_wp2_with fail
  refine (hcs _ (hs.same k1)).mono ?_
  rintro e w2 ⟨v2, rfl, hn2⟩
  obtain ⟨As, cs, rfl, _, _⟩ := hn2.shape
  rw [show S1.length = 1 from rfl] at hn2 ⊢
  have k2 := hn2.kept
  go_wp2_with fail
  refine (hca _ (ha.same (k1.trans k2))).mono ?_
  rintro e w3 ⟨v3, rfl, hn3⟩
  obtain ⟨Aa, ca, rfl, _, _⟩ := hn3.shape
  rw [show A1.length = 1 from rfl] at hn3 ⊢
  have k3 := hn3.kept
  have h3 : w.heap.size ≤ w3.heap.size := ((k1.trans k2).trans k3).size
  obtain ⟨bb, ob, rfl, _, x0, x1, x2⟩ := ha.cellsA
  have k123 := (k1.trans k2).trans k3
  have km := (Kept.refl (fun _ => False) w3).alloc (.map #[] 0)
  have kt := km.alloc (.cells #[.slice As 1 cs, .slice Aa 1 ca, .slice none 0 0, .map (some w3.heap.size), .int .i64 0] 211)
  have at0 := heap_alloc_new (w3.alloc (.map #[] 0)) (.cells #[.slice As 1 cs, .slice Aa 1 ca, .slice none 0 0, .map (some w3.heap.size), .int .i64 0] 211)
  rw [World.size_alloc] at at0
  have hM := (MapA.new (d := .string) w3).kept ((Kept.refl (fun _ => False) _).alloc (.cells #[.slice As 1 cs, .slice Aa 1 ca, .slice none 0 0, .map (some w3.heap.size), .int .i64 0] 211)) (fun q => q)
  have hS := hn2.row.same (k3.trans kt)
  have hA := hn3.row.same kt
  have y0 := (k123.trans kt).cell x0 (fun q => q)
  have y1 := (k123.trans kt).cell x1 (fun q => q)
  have y2 := (k123.trans kt).cell x2 (fun q => q)
  have kk := k123.trans kt
  have h4 : (w3.heap.size + 1) < ((w3.alloc (.map #[] 0)).alloc (.cells #[.slice As 1 cs, .slice Aa 1 ca, .slice none 0 0, .map (some w3.heap.size), .int .i64 0] 211)).heap.size := (Array.getElem?_eq_some_iff.1 at0).1
  generalize hW4 : ((w3.alloc (.map #[] 0)).alloc (.cells #[.slice As 1 cs, .slice Aa 1 ca, .slice none 0 0, .map (some w3.heap.size), .int .i64 0] 211)) = W4 at *
  have HW4 := Lib.hid hW4
  have HST := Lib.hid (show _ ∧ _ ∧ _ ∧ _ ∧ _ from ⟨at0, hM, hS, hA, kk⟩)
  clear k1 k2 k3 k123 km kt at0 hM hS hA kk hn1 hn2 hn3 x0 x1 x2 hcl hcs hca
  clear hW4
  go_wp2_with fail
  rw [HW4.out]
  go_loopg [29] 1 (fun k iv wr => (k = 1 ∧ iv = .int .i64 0 ∧ W4 = wr) ∨ (k = 0 ∧ iv = .int .i64 1 ∧ Hid (∃ Ap cp cb, Tal w wr (w3.heap.size + 1) 0 As Aa Ap cs ca cp w3.heap.size cb #[] 0)))
  case atStart => exact .inl ⟨rfl, rfl, rfl⟩
  case round =>
    rcases hrel with ⟨rfl, rfl, rfl⟩ | ⟨rfl, rfl, HT⟩
    · have kb := (Kept.refl (fun _ => False) W4).alloc (.cells #[.int .i64 1, .int .i64 0, .string ⟨⟨[110]⟩⟩] 32)
      have gb := heap_alloc_new W4 (.cells #[.int .i64 1, .int .i64 0, .string ⟨⟨[110]⟩⟩] 32)
      go_wp2_with fail
      generalize hV : W4.alloc (.cells #[.int .i64 1, .int .i64 0, .string ⟨⟨[110]⟩⟩] 32) = V at *
      have HV := Lib.hid (show _ ∧ _ ∧ _ ∧ _ ∧ _ from ⟨kb.heap HST.out.1 (fun q => q), HST.out.2.1.kept kb (fun q => q), HST.out.2.2.1.same kb, HST.out.2.2.2.1.same kb, HST.out.2.2.2.2.trans kb⟩)
      clear hV y0 y1 y2
      have kd := (Kept.refl (fun _ => False) V).drew
      have k6 := ((Kept.refl (fun _ => False) V).alloc (.cells #[.int .i64 0] 245)).drew
      have k7 := (((Kept.refl (fun _ => False) V).alloc (.cells #[.int .i64 0] 245)).alloc (.cells #[(.iface 243 (.pointer (some ⟨V.heap.size, 0, none⟩)))] 213)).drew
      have gb1 := cell_of_row _ _ 0 _ _ _ (kd.heap gb (fun q => q))
      simp only [List.getElem?_toArray, List.getElem?_cons_zero] at gb1
      have t0 := cell_of_row _ _ 2 _ _ _ (kd.heap HV.out.1 (fun q => q))
      have t6 := cell_of_row _ _ 2 _ _ _ (k6.heap HV.out.1 (fun q => q))
      have t7 := cell_of_row _ _ 2 _ _ _ (k7.heap HV.out.1 (fun q => q))
      simp only [List.getElem?_toArray, List.getElem?_cons_zero, List.getElem?_cons_succ] at t0 t6 t7
      have hb : Calls Tryz.prog 133 #[.int .i64 1] V.drew fun e w' => e = .returned ((.iface 243 (.pointer (some ⟨V.heap.size, 0, none⟩)))) ∧ w' = (V.alloc (.cells #[.int .i64 0] 245)).drew := hbg V.drew
      obtain ⟨v8, w8, hrun, hR8, hk8, _⟩ := Row.lit (P := Tryz.prog) (sz := 1) 209 209 .nilIface 16 Tryz.underlying209 (by kernel_rfl) rfl (by decide) encI1_len encI1_one (Row.ofNil ((V.drew.alloc (.cells #[.int .i64 0] 245)).alloc (.cells #[(.iface 243 (.pointer (some ⟨V.heap.size, 0, none⟩)))] 213))) [V.heap.size] (V.heap.size + 1) 1 (by have h := heap_alloc_new (V.alloc (.cells #[.int .i64 0] 245)) (.cells #[(.iface 243 (.pointer (some ⟨V.heap.size, 0, none⟩)))] 213); rw [World.size_alloc] at h; exact h) (by simp only [List.length_cons, List.length_nil, maxLen]; omega) (by simp only [List.length_cons, List.length_nil]; omega)
      obtain ⟨A8, c8, rfl, _, _⟩ := hR8.shape
      have k8 : Kept (fun _ => False) V w8 := k7.trans' hk8 (fun _ _ q => q) (fun j hj q => by cases q)
      have g8 := k8.heap HV.out.1 (fun q => q)
      have t8 := cell_of_row _ _ 2 _ _ _ g8
      simp only [List.getElem?_toArray, List.getElem?_cons_zero, List.getElem?_cons_succ] at t8
      have f8 := frozen_of g8 2
      have gc8 : w8.heap[V.heap.size]? = some (.cells #[.int .i64 0] 245 (0, 0)) := ((((Kept.refl (fun _ => False) (V.alloc (.cells #[.int .i64 0] 245))).alloc (.cells #[(.iface 243 (.pointer (some ⟨V.heap.size, 0, none⟩)))] 213)).drew).trans' hk8 (fun _ _ q => q) (fun j hj q => by cases q)).heap (heap_alloc_new V (.cells #[.int .i64 0] 245)) (fun q => q)
      have fin : ∃ Ap cp cb, Tal w (w8.setCell ⟨w3.heap.size + 1, 2, none⟩ (.slice A8 1 c8)) (w3.heap.size + 1) 0 As Aa Ap cs ca cp w3.heap.size cb #[] 0 := by
        obtain ⟨v0, v1, v2, v3, v4⟩ := HV.out
        have ks := (Kept.refl (fun j => j = w3.heap.size + 1) w8).setCell (p := ⟨w3.heap.size + 1, 2, none⟩) (fun _ => rfl) (.slice A8 1 c8)
        have r2 := v2.same k8
        have r3 := v3.same k8
        have hne : V.heap.size ≠ w3.heap.size + 1 := fun q => by rw [q, g8] at gc8; injection gc8 with q; injection q with _ q _; exact absurd q (by decide)
        have kw := v4.trans k8
        have hvs := v4.size
        refine ⟨A8, c8, V.heap.size, blk_set g8 2 (.slice A8 1 c8), r2.kept ks (fun j hj q => r2.other g8 (by decide) (by rw [hj, q])), r3.kept ks (fun j hj q => r3.other g8 (by decide) (by rw [hj, q])), hR8.kept ks (fun j hj q => hR8.other g8 (by decide) (by rw [hj, q])), ks.heap gc8 hne, (v1.kept k8 (fun q => q)).kept ks (by omega), (fun x hx => by simp at hx), ⟨by omega, by omega, by omega⟩, ⟨by decide, by decide⟩, kw.trans' ks (fun _ _ q => q) (fun j hj q => by omega)⟩
      have FIN := Lib.hid fin
      clear kd k6 k7 kb hR8 hk8 k8 g8 gc8 gb fin
      refine region_drawn rfl ?_
      refine wpAny_take (i := 0) (v := ?_) rfl (by kernel_rfl) (by kernel_rfl) (by kernel_rfl) (fun _ _ _ h => h) (Or.inl ⟨by rfl, ?_⟩) ?_
      rotate_left
      · (intro w; go_simp)
        try with_reducible rfl
      refine wpAny_take (i := 1) (v := ?_) rfl (by kernel_rfl) (by kernel_rfl) (by kernel_rfl) (fun _ _ _ h => h) (Or.inl ⟨by rfl, ?_⟩) ?_
      rotate_left
      · (intro w; go_simp)
        try with_reducible rfl
      refine wpAny_take (i := 2) (v := ?_) rfl (by kernel_rfl) (by kernel_rfl) (by kernel_rfl) (fun _ _ _ h => h) (Or.inl ⟨by rfl, ?_⟩) ?_
      rotate_left
      · (intro w; go_simp)
        try with_reducible rfl
      refine wpAny_take (i := 3) (v := ?_) rfl (by kernel_rfl) (by kernel_rfl) (by kernel_rfl) (fun _ _ _ h => h) (Or.inl ⟨by rfl, ?_⟩) ?_
      rotate_left
      · (intro w; go_simp)
        try with_reducible rfl
      refine wpAny_take (i := 5) (v := ?_) rfl (by kernel_rfl) (by kernel_rfl) (by kernel_rfl) (fun _ _ _ h => h) (Or.inl ⟨by rfl, ?_⟩) ?_
      rotate_left
      · (intro w; go_simp)
        try with_reducible rfl
      refine wpAny_ready (rs := [4, 6]) (by kernel_rfl) (by simp) ?_
      refine AllReady.cons rfl (fun K hK => ?_) ?_
      · skip
        go_simp
        refine hK _ _ ?_
        clear hK K
        refine wpAny_ready (rs := [6]) (by kernel_rfl) (by simp) ?_
        refine AllReady.cons rfl (fun K hK => ?_) AllReady.nil
        go_simp
        refine hK _ _ ?_
        clear hK K
        refine wpAny_ready (rs := [7]) (by kernel_rfl) (by simp) ?_
        refine AllReady.cons rfl (fun K hK => ?_) AllReady.nil
        go_simp
        refine Calls.mono hb ?_
        rintro e W6 ⟨rfl, rfl⟩
        refine hK _ _ ?_
        clear hK K
        refine wpAny_ready (rs := [8]) (by kernel_rfl) (by simp) ?_
        refine AllReady.cons rfl (fun K hK => ?_) AllReady.nil
        go_simp
        refine hK _ _ ?_
        clear hK K
        refine wpAny_ready (rs := [9]) (by kernel_rfl) (by simp) ?_
        refine AllReady.cons rfl (fun K hK => ?_) AllReady.nil
        refine step_run2 rfl _ _ _ _ rfl rfl rfl hrun ?_
        refine hK _ _ ?_
        clear hK K
        refine wpAny_take (i := 10) (v := ?_) rfl (by kernel_rfl) (by kernel_rfl) (by kernel_rfl) (fun _ _ _ h => h) (Or.inl ⟨by rfl, ?_⟩) ?_
        rotate_left
        · (intro w; go_simp)
          try with_reducible rfl
        refine wpAny_take (i := 11) (v := ?_) rfl (by kernel_rfl) (by kernel_rfl) (by kernel_rfl) (fun _ _ _ h => h) (Or.inl ⟨by rfl, ?_⟩) ?_
        rotate_left
        · (intro w; go_simp)
          try with_reducible rfl
        refine wpAny_ready (rs := [12]) (by kernel_rfl) (by simp) ?_
        refine AllReady.cons rfl (fun K hK => ?_) AllReady.nil
        go_simp
        refine hK _ _ ?_
        clear hK K
        refine wpAny_done (by kernel_rfl) ?_ _
        go_wp2_with fail
        go_roundg 0
        case measure => decide
        case rel => exact .inr ⟨rfl, rfl, FIN⟩
      · skip
        refine AllReady.cons rfl (fun K hK => ?_) AllReady.nil
        go_simp
        refine hK _ _ ?_
        clear hK K
        refine wpAny_ready (rs := [4, 7]) (by kernel_rfl) (by simp) ?_
        refine AllReady.cons rfl (fun K hK => ?_) ?_
        · skip
          go_simp
          refine hK _ _ ?_
          clear hK K
          refine wpAny_ready (rs := [7]) (by kernel_rfl) (by simp) ?_
          refine AllReady.cons rfl (fun K hK => ?_) AllReady.nil
          go_simp
          refine Calls.mono hb ?_
          rintro e W6 ⟨rfl, rfl⟩
          refine hK _ _ ?_
          clear hK K
          refine wpAny_ready (rs := [8]) (by kernel_rfl) (by simp) ?_
          refine AllReady.cons rfl (fun K hK => ?_) AllReady.nil
          go_simp
          refine hK _ _ ?_
          clear hK K
          refine wpAny_ready (rs := [9]) (by kernel_rfl) (by simp) ?_
          refine AllReady.cons rfl (fun K hK => ?_) AllReady.nil
          refine step_run2 rfl _ _ _ _ rfl rfl rfl hrun ?_
          refine hK _ _ ?_
          clear hK K
          refine wpAny_take (i := 10) (v := ?_) rfl (by kernel_rfl) (by kernel_rfl) (by kernel_rfl) (fun _ _ _ h => h) (Or.inl ⟨by rfl, ?_⟩) ?_
          rotate_left
          · (intro w; go_simp)
            try with_reducible rfl
          refine wpAny_take (i := 11) (v := ?_) rfl (by kernel_rfl) (by kernel_rfl) (by kernel_rfl) (fun _ _ _ h => h) (Or.inl ⟨by rfl, ?_⟩) ?_
          rotate_left
          · (intro w; go_simp)
            try with_reducible rfl
          refine wpAny_ready (rs := [12]) (by kernel_rfl) (by simp) ?_
          refine AllReady.cons rfl (fun K hK => ?_) AllReady.nil
          go_simp
          refine hK _ _ ?_
          clear hK K
          refine wpAny_done (by kernel_rfl) ?_ _
          go_wp2_with fail
          go_roundg 0
          case measure => decide
          case rel => exact .inr ⟨rfl, rfl, FIN⟩
        · skip
          refine AllReady.cons rfl (fun K hK => ?_) AllReady.nil
          go_simp
          refine Calls.mono hb ?_
          rintro e W6 ⟨rfl, rfl⟩
          refine hK _ _ ?_
          clear hK K
          refine wpAny_ready (rs := [4, 8]) (by kernel_rfl) (by simp) ?_
          refine AllReady.cons rfl (fun K hK => ?_) ?_
          · skip
            go_simp
            refine hK _ _ ?_
            clear hK K
            refine wpAny_ready (rs := [8]) (by kernel_rfl) (by simp) ?_
            refine AllReady.cons rfl (fun K hK => ?_) AllReady.nil
            go_simp
            refine hK _ _ ?_
            clear hK K
            refine wpAny_ready (rs := [9]) (by kernel_rfl) (by simp) ?_
            refine AllReady.cons rfl (fun K hK => ?_) AllReady.nil
            refine step_run2 rfl _ _ _ _ rfl rfl rfl hrun ?_
            refine hK _ _ ?_
            clear hK K
            refine wpAny_take (i := 10) (v := ?_) rfl (by kernel_rfl) (by kernel_rfl) (by kernel_rfl) (fun _ _ _ h => h) (Or.inl ⟨by rfl, ?_⟩) ?_
            rotate_left
            · (intro w; go_simp)
              try with_reducible rfl
            refine wpAny_take (i := 11) (v := ?_) rfl (by kernel_rfl) (by kernel_rfl) (by kernel_rfl) (fun _ _ _ h => h) (Or.inl ⟨by rfl, ?_⟩) ?_
            rotate_left
            · (intro w; go_simp)
              try with_reducible rfl
            refine wpAny_ready (rs := [12]) (by kernel_rfl) (by simp) ?_
            refine AllReady.cons rfl (fun K hK => ?_) AllReady.nil
            go_simp
            refine hK _ _ ?_
            clear hK K
            refine wpAny_done (by kernel_rfl) ?_ _
            go_wp2_with fail
            go_roundg 0
            case measure => decide
            case rel => exact .inr ⟨rfl, rfl, FIN⟩
          · skip
            refine AllReady.cons rfl (fun K hK => ?_) AllReady.nil
            go_simp
            refine hK _ _ ?_
            clear hK K
            refine wpAny_ready (rs := [4]) (by kernel_rfl) (by simp) ?_
            refine AllReady.cons rfl (fun K hK => ?_) AllReady.nil
            go_simp
            refine hK _ _ ?_
            clear hK K
            refine wpAny_ready (rs := [9]) (by kernel_rfl) (by simp) ?_
            refine AllReady.cons rfl (fun K hK => ?_) AllReady.nil
            refine step_run2 rfl _ _ _ _ rfl rfl rfl hrun ?_
            refine hK _ _ ?_
            clear hK K
            refine wpAny_take (i := 10) (v := ?_) rfl (by kernel_rfl) (by kernel_rfl) (by kernel_rfl) (fun _ _ _ h => h) (Or.inl ⟨by rfl, ?_⟩) ?_
            rotate_left
            · (intro w; go_simp)
              try with_reducible rfl
            refine wpAny_take (i := 11) (v := ?_) rfl (by kernel_rfl) (by kernel_rfl) (by kernel_rfl) (fun _ _ _ h => h) (Or.inl ⟨by rfl, ?_⟩) ?_
            rotate_left
            · (intro w; go_simp)
              try with_reducible rfl
            refine wpAny_ready (rs := [12]) (by kernel_rfl) (by simp) ?_
            refine AllReady.cons rfl (fun K hK => ?_) AllReady.nil
            go_simp
            refine hK _ _ ?_
            clear hK K
            refine wpAny_done (by kernel_rfl) ?_ _
            go_wp2_with fail
            go_roundg 0
            case measure => decide
            case rel => exact .inr ⟨rfl, rfl, FIN⟩
    · go_wp2_with fail
      go_ret2
      obtain ⟨Ap, cp, cb, hT⟩ := HT.out
      exact ⟨_, As, Aa, Ap, cs, ca, cp, _, cb, _, _, rfl, hT⟩
end Go.Proofs.YthkeigljiinlbaaGreat
