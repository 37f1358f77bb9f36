/- snap.Parts. -/
import Derived.Test.YthkeigljiinlbaaGreatM35
import Derived.Test.YthkeigljiinlbaaGreatM27
namespace Go.Proofs.YthkeigljiinlbaaGreat
open Go.RowKit
attribute [local go_sem] Oper.semAt_some

/-! A plain region within a round of a range over a function. -/
theorem list_inRound {P : Program} {l n : Nat} {ops : Array Oper} {Q : Exit → Act → World → Prop} (hQ : ¬ LetsOut Q) : ∀ (r : List Oper) (a : Act) (w : World), r.all noDefer = true → wpList P ops Q r a w → wpListIn (Fence.wide.inRound l) n P ops Q r a w
  | [], _, _, _, h => h
  | o :: r, a, w, hd, h => by
    rw [List.all_cons, Bool.and_eq_true] at hd
    unfold wpList at h
    unfold wpListIn
    by_cases hw : Region.wanted o (yielded ops a.tmps) = true
    · rw [if_pos hw] at h ⊢
      rcases h with h | ⟨_, h⟩
      · exact wp_inRound hd.1 (fun a w q => list_inRound hQ r a w hd.2 q) h
      · exact absurd h hQ
    · rw [if_neg hw] at h ⊢
      exact ⟨fun _ _ => trivial, list_inRound hQ r _ _ hd.2 h⟩
theorem plain_inRound {P : Program} {l n id : Nat} {ops : List Oper} {Q : Exit → Act → World → Prop} {a : Act} {w : World} (hd : ops.all noDefer = true) (hQ : ¬ LetsOut Q) (h : wpList P ops.toArray Q ops a w) : (Code.region id ops.toArray false).wpIn (Fence.wide.inRound l) n P Q a w :=
  wpIn_region_list (by simpa using list_inRound hQ _ _ _ hd h)

def PRow.v1 (p : PRow) : Value := .slice p.ra p.r.length p.rc
def PRow.v2 (p : PRow) : Value := .slice p.fa p.f.length p.fc
def PartO (ob : Nat) (v : Value) (M : List PRow) : Nat → Prop := fun j => j = ob ∨ v.ownBlock = some j ∨ ∃ p ∈ M, p.v1.ownBlock = some j ∨ p.v2.ownBlock = some j
/-- Between the rounds. -/
def PartI (L : List Ed) (w : World) (ob : Nat) (k : Nat) (O : Nat → Prop) (W : World) : Prop :=
  ∃ (v : Value) (M : List PRow), O = PartO ob v M ∧ W.heap[ob]? = some (.cells #[v] 202 (0, 0)) ∧ Row encRw 2 204 W v M ∧ (∀ j, v.ownBlock = some j → w.heap.size ≤ j) ∧ (∀ p ∈ M, RowOk W p) ∧ M.map PRow.ab = (runsL L).take k ∧ Kept (fun _ => False) w W
theorem partI_stable (L : List Ed) (w : World) (ob : Nat) {s : Nat} (hs : w.heap.size ≤ s) : Stable s (PartI L w ob) := by
  rintro k O A C X ⟨v, M, rfl, h0, h1, h2, h3, h4, h5⟩ hX hXX
  refine ⟨v, M, rfl, hX.heap h0 (fun q => (hXX _ q).2 (.inl rfl)), h1.kept hX (fun j hj q => (hXX _ q).2 (.inr (.inl hj))), h2, fun p hp => ?_, h4, h5.trans' hX (fun _ _ q => q) (fun j hj q => by have := (hXX _ q).1; omega)⟩
  exact ⟨(h3 p hp).r.kept hX (fun j hj q => (hXX _ q).2 (.inr (.inr ⟨p, hp, .inl hj⟩))), (h3 p hp).f.kept hX (fun j hj q => (hXX _ q).2 (.inr (.inr ⟨p, hp, .inr hj⟩)))⟩

theorem part_turn {L : List Ed} {w A1 A2 W : World} {ob k : Nat} {v0 v' : Value} {M : List PRow} {p : PRow} (hob : w.heap.size ≤ ob)
    (h0 : A1.heap[ob]? = some (.cells #[v0] 202 (0, 0))) (h1 : Row encRw 2 204 A1 v0 M) (h2 : ∀ j, v0.ownBlock = some j → w.heap.size ≤ j) (h3 : ∀ p ∈ M, RowOk A1 p) (h4 : M.map PRow.ab = (runsL L).take k) (h5 : Kept (fun _ => False) w A1)
    (hx : (runsL L)[k]? = some p.ab) (hp : RowOk A1 p) (kal : Kept (fun _ => False) A1 A2) (hrow : Row encRw 2 204 W v' (M ++ [p])) (hk : Kept (fun j => v0.ownBlock = some j) A2 W) (ho : ∀ j, v'.ownBlock = some j → v0.ownBlock = some j ∨ A2.heap.size ≤ j)
    (hlt : ∀ j, PartO ob v0 M j → j < A1.heap.size) : Turn (handG (p.v1, p.v2)) (PartO ob v0 M) A1 (PartI L w ob (k + 1)) (W.setCell ⟨ob, 0, none⟩ v') := by
  have hkk : Kept (fun j => v0.ownBlock = some j) A1 W := kal.trans' hk (fun _ _ q => q.elim) (fun _ _ q => q)
  have g3 := hkk.heap h0 (fun q => h1.other h0 (by decide) q)
  have ks := (Kept.refl (fun j => j = ob) W).setCell (p := ⟨ob, 0, none⟩) (fun _ => rfl) v'
  have hrk : ∀ q, RowOk A1 q → RowOk W q := fun q hq => ⟨Row.apart hq.r h1 (by decide) hkk, Row.apart hq.f h1 (by decide) hkk⟩
  have hrs : ∀ q, RowOk W q → RowOk (W.setCell ⟨ob, 0, none⟩ v') q := fun q hq => ⟨hq.r.kept ks (fun g hg e => hq.r.other g3 (by decide) (by rw [hg, e])), hq.f.kept ks (fun g hg e => hq.f.other g3 (by decide) (by rw [hg, e]))⟩
  have hall : ∀ q ∈ M ++ [p], RowOk (W.setCell ⟨ob, 0, none⟩ v') q := fun q hq => by
    rcases List.mem_append.1 hq with hq | hq
    · exact hrs q (hrk q (h3 q hq))
    · rw [List.mem_singleton] at hq
      subst hq
      exact hrs q (hrk q hp)
  have hrv := hrow.kept ks (fun g hg e => hrow.other g3 (by decide) (by rw [hg, e]))
  refine ⟨PartO ob v' (M ++ [p]), ⟨v', M ++ [p], rfl, blk_set g3 0 v', hrv, fun j hj => ?_, hall, ?_, ?_⟩, ?_, ?_, ?_⟩
  · rcases ho j hj with q | q
    · exact h2 j q
    · exact Nat.le_trans (h5.trans kal).size q
  · have ht : (runsL L).take (k + 1) = (runsL L).take k ++ [p.ab] := by rw [List.take_add_one, hx]; rfl
    rw [List.map_append, h4, ht]
    rfl
  · exact (h5.trans' hkk (U := fun j => w.heap.size ≤ j) (fun _ _ q => q.elim) (fun j _ q => h2 j q)).trans' ks (fun j hj q => by omega) (fun j hj q => by omega)
  · exact hkk.trans' ks (fun j _ q => .inr (.inl q)) (fun j _ q => .inl q)
  · rintro j (q | q | ⟨r, hr, q⟩)
    · exact .inl (.inl q)
    · rcases ho j q with e | e
      · exact .inl (.inr (.inl e))
      · exact .inr (.inl (Nat.le_trans kal.size e))
    · rcases List.mem_append.1 hr with hr | hr
      · exact .inl (.inr (.inr ⟨r, hr, q⟩))
      · rw [List.mem_singleton] at hr
        subst hr
        exact .inr (.inr q)
  · have hs := ks.size
    have hs1 := hkk.size
    rintro j (q | q | ⟨r, hr, q⟩)
    · have := hlt j (.inl q); omega
    · exact hrv.lt j q
    · rcases q with q | q
      · exact (hall r hr).r.lt j q
      · exact (hall r hr).f.lt j q

/-- A part: a span and who is there. -/
structure PPart where
  s : Int
  t : Int
  ca : Option Addr
  cc : Nat
  l : List PCop
def PPart.v (q : PPart) : Value := .slice q.ca q.l.length q.cc
def encPt (q : PPart) : List Value := [.int .i64 q.s, .int .i64 q.t, .slice q.ca q.l.length q.cc]
theorem encPt_len (q : PPart) : (encPt q).length = 3 := rfl
theorem encPt_one : ∀ x : PPart, ∀ u ∈ encPt x, u.oneCell' = true := by
  intro x u hu
  unfold encPt at hu
  simp only [List.mem_cons, List.not_mem_nil, or_false] at hu
  rcases hu with rfl | rfl | rfl <;> rfl
def PPart.ab (q : PPart) : Int × Int × List (List Wd × Int) := (q.s, q.t, q.l.map PCop.ab)
structure PtN (w0 W : World) (v : Value) (Q : List PPart) : Prop where
  row : Row encPt 3 109 W v Q
  parts : ∀ q ∈ Q, CpS W q.v q.l
  own : ∀ j, v.ownBlock = some j → w0.heap.size ≤ j
  kept : Kept (fun _ => False) w0 W
theorem PtN.same {w0 w W : World} {v : Value} {Q : List PPart} (h : PtN w0 w v Q) (k : Kept (fun _ => False) w W) : PtN w0 W v Q := ⟨h.row.same k, fun q hq => (h.parts q hq).same k, h.own, h.kept.trans k⟩
theorem PtN.lit {P : Program} {w0 wr W : World} {v : Value} {Q : List PPart} (t ty : TypeId) (z : Value) (bytes : Nat) (ht : P.underlying t = some (.slice 109)) (hi : (P.info? 109).map (fun i => (i.zero, i.size, i.bytes)) = some (some z, 3, bytes)) (hzs : z.cells.size = 3)
    (h : PtN w0 wr v Q) (k : Kept (fun _ => False) wr W) (p : PPart) (hp : CpS W p.v p.l) (B c : Nat) {T' : TypeId} {f : Nat × Nat} (hB : W.heap[B]? = some (.cells (cellsOf encPt [p]).toArray T' f))
    (h63 : Q.length + 1 ≤ maxLen) (hb : (Q.length + 1) * bytes ≤ 140737488355328) :
    ∃ v' w', Hid ((Builtin.append_ #[t, t] ty #[v, .slice (some ⟨B, 0, none⟩) 1 c]).run P W = .ok v' w') ∧ PtN w0 w' v' (Q ++ [p]) := by
  obtain ⟨v', w', h1, h2, h3, h4⟩ := Row.lit (P := P) (sz := 3) t ty z bytes ht hi hzs (by decide) encPt_len encPt_one (h.row.same k) [p] B c hB h63 hb
  have kk := h.kept.trans k
  have ap : ∀ (q : PPart), CpS W q.v q.l → CpS w' q.v q.l := fun q hq => ⟨Row.apart hq.row (h.row.same k) (by decide) h3, fun r hr => Row.apart (hq.rows r hr) (h.row.same k) (by decide) h3⟩
  refine ⟨v', w', h1, h2, fun q hq => ?_, fun j hj => ?_, kk.trans' h3 (fun _ _ q => q) (fun i hi q => absurd (h.own i q) (by omega))⟩
  · rcases List.mem_append.1 hq with hq | hq
    · exact ap q ((h.parts q hq).same k)
    · rw [List.mem_singleton] at hq
      subst hq
      exact ap q hp
  · rcases h4 j hj with q | q
    · exact h.own j q
    · exact Nat.le_trans kk.size q
/-- The parts at the cuts. -/
def partsL (gs : List (List Wd × List Jp)) : List Int → List (Int × Int × List (List Wd × Int))
  | [] => []
  | a :: C => (if thereL gs a = [] then [] else [(a, nextC C, thereL gs a)]) ++ partsL gs C
theorem parts_len (gs : List (List Wd × List Jp)) : ∀ C : List Int, (partsL gs C).length ≤ C.length
  | [] => Nat.le_refl _
  | a :: C => by
    have := parts_len gs C
    rw [partsL, List.length_append, List.length_cons]
    by_cases h : thereL gs a = []
    · rw [if_pos h, List.length_nil]; omega
    · rw [if_neg h, List.length_singleton]; omega

set_option maxHeartbeats 4000000 in
set_option maxRecDepth 100000 in
theorem parts_any (L : List Ed) (A : Option Addr) (c : Nat) (w : World) (hl : L.length ≤ 1000) (hs : EdS w (fun _ => False) A L) (hmay : edMay L = true) (htab : edTab L = true) (h8 : ∀ x ∈ L, x.r.length ≤ 1048576) :
    Calls Tryz.prog 86 #[.slice A L.length c, .int .i64 0] w fun e w' => ∃ v Q C, e = .returned (.tuple #[v, .int .i64 0]) ∧ PtN w w' v Q ∧ CutsL L C ∧ Q.map PPart.ab = partsL (runsL L) C := by
  have hcu := fun wx hx => cuts_any L A c wx (by omega) hx hmay htab
  have hgr := fun wx => groups_fn A L.length c wx
  refine calls_marks Tryz.func86 rfl ?_
  simp only [Tryz.ntmps86, List.size_toArray, List.length_cons, List.length_nil, Nat.reduceAdd, Nat.reduceSub, Array.replicate_succ, Array.replicate_zero, List.push_toArray, List.append_toArray, List.nil_append, List.cons_append]
  gi_wp2_with fail
  refine ⟨trivial, rfl, callsIn_wide.2 ((hcu _ hs).mono ?_)⟩
  rintro e w1 ⟨vc, C, rfl, hnC, hCL⟩
  have k1 := hnC.kept
  obtain ⟨Ac, cc, rfl, _, _⟩ := hnC.shape
  obtain ⟨NC, hNC⟩ : ∃ NC, C.length = NC := ⟨_, rfl⟩
  have hNCl : NC ≤ 1001 := by have := hCL.len; omega
  rw [hNC] at hnC ⊢
  have HNCL := Lib.hid hNC
  clear hNC
  gi_wp2_with fail
  refine ⟨trivial, rfl, callsIn_wide.2 ((hgr _).mono ?_)⟩
  rintro e w3 ⟨rfl, hbx, k3⟩
  simp only [World.size_alloc] at hbx
  have q1 := heap_alloc_new (w1.alloc (.cells #[] 204)) (.cells #[.slice (some ⟨w1.heap.size, 0, none⟩) 0 0] 202)
  simp only [World.size_alloc] at q1
  have k13 : Kept (fun _ => False) w1 w3 := (((Kept.refl _ w1).alloc _).alloc _).trans k3
  have g3 := k3.heap q1 (fun q => q)
  have hw3 : w1.heap.size + 3 ≤ w3.heap.size := (Array.getElem?_eq_some_iff.1 hbx).1
  have hrow0 := (Row.new (enc := encRw) (sz := 2) (T := 204) w1).same (((Kept.refl (fun _ => False) _).alloc (.cells #[.slice (some ⟨w1.heap.size, 0, none⟩) 0 0] 202)).trans k3)
  have hI0 : PartI L w1 (w1.heap.size + 1) 0 (PartO (w1.heap.size + 1) (.slice (some ⟨w1.heap.size, 0, none⟩) 0 0) []) w3 := ⟨_, [], rfl, g3, hrow0, (fun j hj => (show w1.heap.size = j from by simpa [Value.ownBlock] using hj) ▸ (by omega)), (fun p hp => by cases hp), rfl, k13⟩
  have hO : ∀ j, PartO (w1.heap.size + 1) (.slice (some ⟨w1.heap.size, 0, none⟩) 0 0) [] j → w1.heap.size ≤ j ∧ j < w1.heap.size + 2 := by
    rintro j (q | q | ⟨r, hr, q⟩)
    · omega
    · have e : w1.heap.size = j := by simpa [Value.ownBlock] using q
      omega
    · cases hr
  have hks := k1.size
  have hsw : EdS w3 (PartO (w1.heap.size + 1) (.slice (some ⟨w1.heap.size, 0, none⟩) 0 0) []) A L :=
    hs.old.kept (k1.trans k13) (fun _ q => q.elim) (fun j q => .inr (by have := hO j q; omega))
  have HNC := Lib.hid hnC
  have HCL := Lib.hid hCL
  clear q1 k3 k13 g3 hrow0 hnC hCL
  gi_wp2_with fail
  refine range_wp (gf := 56) (lb := #[.pointer (some ⟨w1.heap.size + 1 + 1, 0, none⟩)]) rfl (enters_of Tryz.func56 (by kernel_rfl) rfl)
    (groups1_iter (w1.heap.size + 1 + 1) L A c _ w3 hbx (by omega) hsw (fun q => by have := hO _ q; omega) hmay) (fun _ => rfl) tellG_kept handG_cells
    (PartI L w1 (w1.heap.size + 1)) (fun _ _ _ _ => False) (partI_stable L w1 _ (by omega)) (fun cd _ _ _ _ _ h _ _ => h) hI0 (fun j q => by have := hO j q; omega)
    (fun v => { tmps := #[.slice A L.length c, .int .i64 0, undef, undef, .slice none 0 0, .int .i64 0, (.slice Ac NC cc), .int .i64 0, .pointer (some ⟨w1.heap.size + 1, 0, none⟩), v.1, v.2, undef, undef, undef, undef, undef, undef, .tuple #[(.slice Ac NC cc), .int .i64 0], .slice A L.length c, .int .i64 0, .tuple #[(.slice Ac NC cc), .int .i64 0], (.slice Ac NC cc), .int .i64 0, .int .i64 0, .bool false, undef, .slice (some ⟨w1.heap.size, 0, none⟩) 0 0, .slice A L.length c, .func (.func 56) #[] #[.pointer (some ⟨w1.heap.size + 1 + 1, 0, none⟩)], v.1, v.2, undef, undef, undef, undef, undef, undef, undef, undef, undef, undef, undef, undef, undef, undef, undef, undef, undef, undef, undef, undef, undef, undef, undef, undef, undef, undef, undef, undef, undef, undef, undef, undef, undef, undef, undef, undef, undef, undef, undef, undef, undef, undef, undef, undef], defers := [] }) ?assign ?body ?done ?stop
  case assign =>
    intro l' v W' K hK
    unfold encG
    gi_wp2_with fail
    exact hK
  case body =>
    rintro l k p v O1 A1 ⟨v0, M, rfl, h0, h1, h2, h3, h4, h5⟩ hxk ⟨ht1, ht2⟩ hlt hsA
    obtain ⟨v1, v2⟩ := v
    obtain ⟨Ar, cr, hv1, har, hsr⟩ := ht1.asSrc encW_len
    obtain ⟨Af, cf, hv2, haf, hsf⟩ := ht2.asSrc encJ_len
    simp only at hv1 hv2
    subst hv1 hv2
    have hpk : RowOk A1 ⟨Ar, cr, p.1, Af, cf, p.2⟩ := ⟨ht1, ht2⟩
    have hMl : M.length ≤ 1000 := by
      have h6 := congrArg List.length h4
      rw [List.length_map, List.length_take] at h6
      have := runs_len L
      omega
    obtain ⟨A0, e0, rfl, _, _⟩ := h1.shape
    have c0 := cell_of_row A1 _ 0 _ _ _ h0
    simp only [List.getElem?_toArray, List.getElem?_cons_zero] at c0
    have kal := (Kept.refl (fun _ => False) A1).alloc (.cells #[.slice Ar p.1.length cr, .slice Af p.2.length cf] 204)
    obtain ⟨v', W, hrun, hR, hkR, hoR⟩ := Row.lit (P := Tryz.prog) (sz := 2) 202 202 (.agg #[.slice none 0 0, .slice none 0 0]) 48 Tryz.underlying202 (by kernel_rfl) rfl (by decide) encRw_len encRw_one (h1.same kal) [⟨Ar, cr, p.1, Af, cf, p.2⟩] A1.heap.size 1 (heap_alloc_new A1 _) (by simp only [List.length_cons, List.length_nil, maxLen]; omega) (by simp only [List.length_cons, List.length_nil]; omega)
    simp only [List.length_cons, List.length_nil] at hrun
    obtain ⟨A5, e5, hv5, _, _⟩ := hR.shape
    obtain ⟨NN, hNN⟩ : ∃ NN, (M ++ [(⟨Ar, cr, p.1, Af, cf, p.2⟩ : PRow)]).length = NN := ⟨_, rfl⟩
    rw [hNN] at hv5
    subst hv5
    clear hNN
    have HT := Lib.hid (part_turn (p := ⟨Ar, cr, p.1, Af, cf, p.2⟩) (by omega) h0 h1 h2 h3 h4 h5 hxk hpk kal hR hkR hoR hlt)
    have g3 := (kal.trans' hkR (U := fun j => (Value.slice A0 M.length e0).ownBlock = some j) (fun _ _ q => q.elim) (fun _ _ q => q)).heap h0 (fun q => h1.other h0 (by decide) q)
    have f3 := frozen_of g3 0
    have c3 := cell_of_row _ _ 0 _ _ _ g3
    simp only [List.getElem?_toArray, List.getElem?_cons_zero] at c3
    clear h0 h1 h2 h3 h4 h5 hxk ht1 ht2 hlt hpk kal hR hkR hoR g3 hI0 hsw
    apply wpIn_block
    refine plain_inRound (by kernel_rfl) (by rintro ⟨_, _, h⟩; exact h) ?_
    have tok := True.intro
    go_wp2_with (at_builtin; have _t := tok; refine wpList_run rfl _ _ _ rfl rfl rfl hrun ?_; clear tok)
    exact HT.out
  case done =>
    rintro D O1 W1 ⟨v0, M, rfl, h0, h1, h2, h3, h4, h5⟩ hK hDw hDO
    rw [List.take_length] at h4
    obtain ⟨A0, e0, rfl, _, _⟩ := h1.shape
    have hmf : ∀ (fn : Fn) (first cap : Array Value) (w : World), (Instr.makeFunc fn first cap).run Tryz.prog w = .ok (.func fn first cap) w := fun _ _ _ _ => rfl
    have hC1 := Lib.hid (HNC.out.same h5)
    have HK := Lib.hid hK
    have H0' := Lib.hid h0
    have H1' := Lib.hid h1
    have H3' := Lib.hid h3
    have H4' := Lib.hid h4
    have H5' := Lib.hid h5
    have hPt0 : PtN W1 (W1.alloc (.cells #[] 109)) (.slice (some ⟨W1.heap.size, 0, none⟩) 0 0) [] := ⟨Row.new W1, (fun p hp => by cases hp), (fun j hj => (show W1.heap.size = j from by simpa [Value.ownBlock] using hj) ▸ Nat.le_refl _), (Kept.refl _ W1).alloc _⟩
    have HPT := Lib.hid hPt0
    have hps : ∀ p ∈ M, p.r.length ≤ 1048576 ∧ stepMayB p.f = true := fun p hp => by
      have hpm : p.ab ∈ runsL L := by rw [← h4]; exact List.mem_map.2 ⟨p, hp, rfl⟩
      obtain ⟨⟨z, hz, hzr⟩, _⟩ := runs_mem hpm
      refine ⟨?_, ((edMay_run hmay).2 _ hpm).2⟩
      have := h8 z hz
      rw [← hzr] at this
      exact this
    have HPS := Lib.hid hps
    have hMl : M.length ≤ 4096 := by
      have h6 := congrArg List.length h4
      rw [List.length_map] at h6
      have := runs_len L
      omega
    clear h0 h1 h2 h3 h4 h5 hDO hK hI0 hsw hPt0 hps hmay htab
    gi_wp2_with fail
    refine wpIn_wide.2 ?_
    go_loopg [12, 41] NC (fun k ov iv wr => ∃ (i : Nat) (Q : List PPart), i + k = NC ∧ iv = .int .i64 i ∧ PtN W1 wr ov Q ∧ Q.length ≤ i ∧ Hid (Q.map PPart.ab ++ partsL (runsL L) (C.drop i) = partsL (runsL L) C))
    case atStart => exact ⟨0, [], by omega, rfl, HPT.out, Nat.le_refl _, rfl⟩
    case round =>
      obtain ⟨i, Q, hk, rfl, hP, hQl, HQ⟩ := hrel
      have kr := hP.kept
      obtain ⟨Ao, co, rfl, _, _⟩ := hP.row.shape
      have HP := Lib.hid hP
      by_cases hlt : i < NC
      · obtain ⟨a, ha⟩ : ∃ a, C[i]? = some a := ⟨C[i]'(by rw [HNCL.out]; exact hlt), List.getElem?_eq_getElem _⟩
        obtain ⟨Ac2, cc2, eC, _, hsC⟩ := (hC1.out.same kr).row.asSrc encZ_len
        injection eC with eC1 eCn eC2
        subst eC1 eC2
        clear eCn
        obtain ⟨bc, oc, rfl, _, hcc⟩ := hsC i a ha
        have x0 := hcc 0 _ rfl
        simp only [Nat.mul_one, Nat.add_zero] at x0
        have hal := alive_any M (.slice A0 M.length e0) (w1.heap.size + 1) a wr (kr.heap H0'.out (fun q => q)) (H1'.out.same kr) (fun p hp => (H3'.out p hp).same kr) hMl HPS.out
        have hdr : C.drop i = a :: C.drop (i + 1) := by
          rw [List.drop_eq_getElem_cons (by rw [HNCL.out]; exact hlt)]
          congr 1
          have := List.getElem?_eq_getElem (l := C) (i := i) (by rw [HNCL.out]; exact hlt)
          rw [this] at ha
          injection ha
        have HDR := Lib.hid hdr
        have HSC := Lib.hid hsC
        clear hP hcc hsC hdr ha
        go_wp2_with fail
        refine hal.mono ?_
        rintro e w2 ⟨v2, Mc, rfl, hC2, hMc⟩
        have k2 := hC2.kept
        obtain ⟨A2, c2, rfl, _, _⟩ := hC2.cp.row.shape
        rw [H4'.out] at hMc
        have HMC := Lib.hid hMc
        have HC2 := Lib.hid hC2
        clear hal hC2 hMc
        by_cases h0 : Mc.length = 0
        · have hnil : Mc = [] := List.eq_nil_of_length_eq_zero h0
          subst hnil
          go_wp2_with fail
          go_roundg (NC - (i + 1))
          case measure => omega
          case rel =>
            refine ⟨i + 1, Q, by omega, rfl, HP.out.same k2, by omega, ?_⟩
            have h1 := HQ.out
            have hth : thereL (runsL L) a = [] := HMC.out.symm
            rw [HDR.out, partsL, if_pos hth, List.nil_append] at h1
            exact h1
        · have b1 : ((Mc.length : Int) == 0) = false := beq_eq_false_iff_ne.2 (by omega)
          have b3 : ((Q.length : Int) == 1024) = false := beq_eq_false_iff_ne.2 (by omega)
          obtain ⟨NM, hNM⟩ : ∃ NM, Mc.length = NM := ⟨_, rfl⟩
          obtain ⟨NQ, hNQ⟩ : ∃ NQ, Q.length = NQ := ⟨_, rfl⟩
          have HNM := Lib.hid hNM
          have HNQ := Lib.hid hNQ
          have hne : thereL (runsL L) a ≠ [] := fun q => h0 (by have := HMC.out; rw [q] at this; simpa using congrArg List.length this)
          have fin : ∀ (nx : Int), nx = nextC (C.drop (i + 1)) → ∃ v' w', Hid ((Builtin.append_ #[104, 104] 104 #[.slice Ao NQ co, .slice (some ⟨w2.heap.size, 0, none⟩) 1 1]).run Tryz.prog (w2.alloc (.cells #[.int .i64 a, .int .i64 nx, .slice A2 NM c2] 109)) = .ok v' w') ∧
              (∃ Q', PtN W1 w' v' Q' ∧ Q'.length = NQ + 1 ∧ Q'.map PPart.ab ++ partsL (runsL L) (C.drop (i + 1)) = partsL (runsL L) C) := by
            intro nx hnx
            have kb := (Kept.refl (fun _ => False) w2).alloc (.cells #[.int .i64 a, .int .i64 nx, .slice A2 NM c2] 109)
            have hal := heap_alloc_new w2 (.cells #[.int .i64 a, .int .i64 nx, .slice A2 NM c2] 109)
            obtain ⟨v', w', h1, h2⟩ := HP.out.lit (P := Tryz.prog) 104 104 (.agg #[.int .i64 0, .int .i64 0, .slice none 0 0]) 40 Tryz.underlying104 (by kernel_rfl) (by kernel_rfl) (k2.trans kb) ⟨a, nx, A2, c2, Mc⟩ (HC2.out.cp.same kb) w2.heap.size 1 (by have e : (cellsOf encPt [⟨a, nx, A2, c2, Mc⟩]).toArray = #[.int .i64 a, .int .i64 nx, .slice A2 NM c2] := (by rw [← HNM.out]; rfl); rw [e]; exact hal) (by unfold maxLen; omega) (by omega)
            rw [HNQ.out] at h1
            refine ⟨v', w', h1, _, h2, by rw [List.length_append, HNQ.out]; rfl, ?_⟩
            have h3 := HQ.out
            rw [HDR.out, partsL, if_neg hne, ← List.append_assoc] at h3
            rw [List.map_append, ← h3, hnx]
            have h4 : (List.map PPart.ab [⟨a, nextC (C.drop (i + 1)), A2, c2, Mc⟩]) = [(a, nextC (C.drop (i + 1)), thereL (runsL L) a)] := by
              rw [List.map_singleton, ← HMC.out]; rfl
            rw [h4]
          have FIN := Lib.hid fin
          rw [hNM] at b1 ⊢
          rw [hNQ] at b3 ⊢
          clear fin hNM hNQ h0 hne
          by_cases hn : i + 1 < NC
          · have hd : decide ((i : Int) + 1 < (NC : Int)) = true := by simp; omega
            obtain ⟨b2, hb2⟩ : ∃ b2, C[i + 1]? = some b2 := ⟨C[i + 1]'(by rw [HNCL.out]; exact hn), List.getElem?_eq_getElem _⟩
            have hnx : b2 = nextC (C.drop (i + 1)) := by
              rw [List.drop_eq_getElem_cons (by rw [HNCL.out]; exact hn)]
              rw [List.getElem?_eq_getElem (by rw [HNCL.out]; exact hn)] at hb2
              injection hb2 with hb2
              rw [← hb2]; rfl
            obtain ⟨bc3, oc3, e3, _, hcc3⟩ := HSC.out (i + 1) b2 hb2
            injection e3 with e3
            injection e3 with e31 e32
            subst e31 e32
            have y0 := k2.cell (hcc3 0 _ rfl) (fun q => q)
            simp only [Nat.mul_one, Nat.add_zero] at y0
            obtain ⟨v', w', hrun, hQ'⟩ := FIN.out b2 hnx
            have HQ' := Lib.hid hQ'
            clear hQ' hcc3 hb2 hnx
            have tok := True.intro
            go_wp2_with (at_builtin; have _t := tok; refine wpList_run rfl _ _ _ rfl rfl rfl hrun ?_; clear tok)
            go_roundg (NC - (i + 1))
            case measure => omega
            case rel =>
              obtain ⟨Q', q1, q2, q3⟩ := HQ'.out
              have := HNQ.out
              exact ⟨i + 1, Q', by omega, rfl, q1, by omega, q3⟩
          · have hd : decide ((i : Int) + 1 < (NC : Int)) = false := by simp; omega
            obtain ⟨v', w', hrun, hQ'⟩ := FIN.out 1125899906842624 (by rw [List.drop_eq_nil_of_le (by rw [HNCL.out]; omega)]; rfl)
            have HQ' := Lib.hid hQ'
            clear hQ'
            have tok := True.intro
            go_wp2_with (at_builtin; have _t := tok; refine wpList_run rfl _ _ _ rfl rfl rfl hrun ?_; clear tok)
            go_roundg (NC - (i + 1))
            case measure => omega
            case rel =>
              obtain ⟨Q', q1, q2, q3⟩ := HQ'.out
              have := HNQ.out
              exact ⟨i + 1, Q', by omega, rfl, q1, by omega, q3⟩
      · have hi : i = C.length := by rw [HNCL.out]; omega
        have hq := HQ.out
        rw [hi, List.drop_length, partsL, List.append_nil] at hq
        have HQ2 := Lib.hid hq
        have HKr := Lib.hid (kr.heap HK.out (fun q => q))
        clear hP hq hi
        go_wp2_with fail
        gi_wp2_with fail
        refine ⟨by simp, .inl ⟨_, _, rfl, run_takeDeferred HKr.out, .tuple #[.slice Ao Q.length co, .int .i64 0], ?_, .slice Ao Q.length co, Q, C, rfl, ?_, HCL.out, HQ2.out⟩⟩
        · simp [results, Tryz.results86, go_sem]
        · have kp := (Kept.refl (fun j => j = D) wr).putObj D (.deferred none) (fun _ => rfl)
          have hno : ∀ cs T f, (Obj.deferred (some [])) ≠ .cells cs T f := fun _ _ _ q => by cases q
          have kw1 := k1.trans H5'.out
          have hsz := kw1.size
          refine ⟨HP.out.row.kept kp (fun j hj q => HP.out.row.otherObj HKr.out hno (by rw [hj, q])), fun q hq => ?_, fun j hj => Nat.le_trans hsz (HP.out.own j hj), (kw1.trans HP.out.kept).trans' kp (fun _ _ q => q) (fun j hj q => by have := k1.size; omega)⟩
          have hc := HP.out.parts q hq
          exact ⟨hc.row.kept kp (fun j hj e => hc.row.otherObj HKr.out hno (by rw [hj, e])), fun p hp => (hc.rows p hp).kept kp (fun j hj e => (hc.rows p hp).otherObj HKr.out hno (by rw [hj, e]))⟩
  case stop =>
    intro D cd k O1 W1 hkl h
    exact h.elim
end Go.Proofs.YthkeigljiinlbaaGreat

/- window.Parts. -/
namespace Go.Proofs.YthkeigljiinlbaaGreat
open Go.RowKit

set_option maxRecDepth 100000 in
theorem wchk_any (L : List Ed) (A : Option Addr) (c : Nat) (w : World) (hl : L.length ≤ 1000) (hs : EdS w (fun _ => False) A L) (hmay : edMay L = true) (htab : edTab L = true) :
    Calls Tryz.prog 82 #[.agg #[.int .i64 1, .int .i64 0, .int .i64 0], .slice A L.length c, .int .i64 0] w fun e w' => e = .returned (.int .i64 0) ∧ Kept (fun _ => False) w w' := by
  have hem := fun wx hx => emay_any L A c wx (by omega) hx
  rw [hmay] at hem
  have het := fun wx hx => etab_any L A c wx (by omega) hx
  rw [htab] at het
  have hwc := fun wx => wcheck_any wx
  have k0 := (Kept.refl (fun _ => False) w).alloc (.cells #[.int .i64 1, .int .i64 0, .int .i64 0] 36)
  clear hmay htab
  go_enter Tryz.func82, Tryz.ntmps82
  go_wp2_with fail
  refine (hwc _).mono ?_
  rintro e w1 ⟨rfl, k1⟩
  go_wp2_with fail
  refine (hem _ (hs.same (k0.trans k1))).mono ?_
  rintro e w2 ⟨rfl, k2⟩
  go_wp2_with fail
  refine (het _ (hs.same ((k0.trans k1).trans k2))).mono ?_
  rintro e w3 ⟨rfl, k3⟩
  go_wp2_with fail
  go_ret
  exact ⟨rfl, ((k0.trans k1).trans k2).trans k3⟩

set_option maxRecDepth 100000 in
theorem wparts_any (L : List Ed) (A : Option Addr) (c : Nat) (w : World) (hl : L.length ≤ 1000) (hs : EdS w (fun _ => False) A L) (hmay : edMay L = true) (htab : edTab L = true) (h8 : ∀ x ∈ L, x.r.length ≤ 1048576) :
    Calls Tryz.prog 41 #[.agg #[.int .i64 1, .int .i64 0, .int .i64 0], .slice A L.length c, .int .i64 0, .int .i64 0] w fun e w' => ∃ v Q C, e = .returned (.tuple #[v, .int .i64 0]) ∧ PtN w w' v Q ∧ CutsL L C ∧ Q.map PPart.ab = partsL (runsL L) C := by
  have hck := fun wx hx => wchk_any L A c wx hl hx hmay htab
  have hpt := fun wx hx => parts_any L A c wx hl hx hmay htab h8
  have k0 := (Kept.refl (fun _ => False) w).alloc (.cells #[.int .i64 1, .int .i64 0, .int .i64 0] 36)
  have a0 := heap_alloc_new w (.cells #[.int .i64 1, .int .i64 0, .int .i64 0] 36)
  clear hmay htab h8
  go_enter Tryz.func41, Tryz.ntmps41
  go_wp2_with fail
  refine (hck _ (hs.same k0)).mono ?_
  rintro e w1 ⟨rfl, k1⟩
  have c0 := cell_of_row _ _ 0 _ _ _ (k1.heap a0 (fun q => q))
  simp only [List.getElem?_toArray, List.getElem?_cons_zero] at c0
  go_wp2_with fail
  refine (hpt _ (hs.same (k0.trans k1))).mono ?_
  rintro e w2 ⟨v, Q, C, rfl, hP, hC, hQ⟩
  have HP := Lib.hid hP
  have HQ := Lib.hid hQ
  clear hP hQ
  go_wp2_with fail
  go_ret2
  exact ⟨v, Q, C, rfl, ⟨HP.out.row, HP.out.parts, fun j hj => Nat.le_trans (k0.trans k1).size (HP.out.own j hj), (k0.trans k1).trans HP.out.kept⟩, hC, HQ.out⟩
end Go.Proofs.YthkeigljiinlbaaGreat
