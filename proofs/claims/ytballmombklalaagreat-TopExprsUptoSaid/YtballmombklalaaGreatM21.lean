/- Expressions as trees; expr.begin, slices.Clone, expr.Parts. -/
import Derived.Test.YtballmombklalaaGreatM20
import Derived.Deep.OwnRows
namespace Go.Proofs.YtballmombklalaaGreat
open Go.RowKit

inductive Ex where
  | leaf (o : Wd)
  | un (o : Wd) (a : Ex)
  | bin (o : Wd) (a b : Ex)
def Ex.root : Ex → Wd
  | .leaf o => o
  | .un o _ => o
  | .bin o _ _ => o
def Ex.kids : Ex → List Ex
  | .leaf _ => []
  | .un _ a => [a]
  | .bin _ a b => [a, b]
def Ex.flat : Ex → List Wd
  | .leaf o => [o]
  | .un o a => a.flat ++ [o]
  | .bin o a b => a.flat ++ (b.flat ++ [o])
def Ex.good : Ex → Prop
  | .leaf o => wdB o = true ∧ takesI o.c = 0
  | .un o a => wdB o = true ∧ takesI o.c = 1 ∧ a.good
  | .bin o a b => wdB o = true ∧ takesI o.c = 2 ∧ a.good ∧ b.good
theorem Ex.flat_kids (t : Ex) : t.flat = t.kids.flatMap Ex.flat ++ [t.root] := by cases t <;> simp [Ex.flat, Ex.kids, Ex.root]
theorem Ex.flat_pos (t : Ex) : 0 < t.flat.length := by rw [t.flat_kids]; simp
theorem Ex.kids_good {t : Ex} (h : t.good) : ∀ k ∈ t.kids, k.good := by
  cases t <;> simp only [Ex.good, Ex.kids] at h ⊢ <;> simp
  · exact h.2.2
  · exact h.2.2
theorem Ex.takes {t : Ex} (h : t.good) : takesI t.root.c = (t.kids.length : Int) := by
  cases t <;> simp only [Ex.good, Ex.kids, Ex.root] at h ⊢ <;> simp [h]
theorem Ex.root_good {t : Ex} (h : t.good) : wdB t.root = true := by cases t <;> simp only [Ex.good, Ex.root] at h ⊢ <;> exact h.1
theorem Ex.hi : ∀ (t : Ex), t.good → ∀ (r : List Wd) (h : Int), 0 ≤ h → hiF (t.flat ++ r) h = hiF r (h + 1)
  | .leaf o, g, r, h, h0 => by
    simp only [Ex.flat, List.cons_append, List.nil_append, hiF]
    rw [if_pos ⟨g.1, by rw [g.2]; exact h0⟩, g.2]
    simp
  | .un o a, g, r, h, h0 => by
    simp only [Ex.flat, List.append_assoc]
    rw [Ex.hi a g.2.2 _ h h0]
    simp only [List.cons_append, List.nil_append, hiF]
    rw [if_pos ⟨g.1, by rw [g.2.1]; omega⟩, g.2.1]
    congr 1
    omega
  | .bin o a b, g, r, h, h0 => by
    simp only [Ex.flat, List.append_assoc]
    rw [Ex.hi a g.2.2.1 _ h h0, Ex.hi b g.2.2.2 _ _ (by omega)]
    simp only [List.cons_append, List.nil_append, hiF]
    rw [if_pos ⟨g.1, by rw [g.2.1]; omega⟩, g.2.1]
    congr 1
    omega
theorem Ex.form {t : Ex} (g : t.good) (h : t.flat.length ≤ 64) : formI t.flat = 0 := by
  unfold formI
  rw [if_neg (by omega)]
  have := Ex.hi t g [] 0 (by omega)
  rw [List.append_nil] at this
  rw [this]
  simp [hiF]
theorem two_last {α : Type} : ∀ (l : List α), 2 ≤ l.length → ∃ m a b, l = m ++ [a, b] := fun l h => by
  rcases List.eq_nil_or_concat l with rfl | ⟨l2, b, rfl⟩
  · simp at h
  · rcases List.eq_nil_or_concat l2 with rfl | ⟨m, a, rfl⟩
    · simp at h
    · exact ⟨m, a, b, by simp⟩
theorem hi_trees : ∀ (x : List Wd) (ts : List Ex) (r : Int), (∀ t ∈ ts, t.good) → hiF x ts.length = some r → ∃ us : List Ex, (us.length : Int) = r ∧ (∀ t ∈ us, t.good) ∧ us.flatMap Ex.flat = ts.flatMap Ex.flat ++ x
  | [], ts, r, hg, h => by
    rw [hiF] at h
    injection h with h
    exact ⟨ts, h, hg, by simp⟩
  | o :: x, ts, r, hg, h => by
    rw [hiF] at h
    split at h
    · rename_i hc
      obtain ⟨h1, h2⟩ := hc
      have h3 := wd_takes h1
      have hb := (takes_bd o.c).2
      have hcase : takesI o.c = 0 ∨ takesI o.c = 1 ∨ takesI o.c = 2 := by omega
      rcases hcase with e | e | e
      · rw [e] at h
        obtain ⟨us, q1, q2, q3⟩ := hi_trees x (ts ++ [.leaf o]) r (by
          intro t ht
          rw [List.mem_append, List.mem_singleton] at ht
          rcases ht with ht | rfl
          · exact hg t ht
          · exact ⟨h1, e⟩) (by rw [List.length_append, List.length_singleton]; rw [← h]; congr 1)
        exact ⟨us, q1, q2, by rw [q3]; simp [Ex.flat]⟩
      · rw [e] at h h2
        rcases List.eq_nil_or_concat ts with rfl | ⟨ts, a, rfl⟩
        · simp at h2
        · rw [List.concat_eq_append] at *
          obtain ⟨us, q1, q2, q3⟩ := hi_trees x (ts ++ [.un o a]) r (by
            intro t ht
            rw [List.mem_append, List.mem_singleton] at ht
            rcases ht with ht | rfl
            · exact hg t (by simp [ht])
            · exact ⟨h1, e, hg a (by simp)⟩) (by rw [List.length_append, List.length_singleton] at h ⊢; rw [← h]; congr 1; try omega)
          exact ⟨us, q1, q2, by rw [q3]; simp [Ex.flat]⟩
      · rw [e] at h h2
        obtain ⟨m, a, b, rfl⟩ := two_last ts (by omega)
        obtain ⟨us, q1, q2, q3⟩ := hi_trees x (m ++ [.bin o a b]) r (by
          intro t ht
          rw [List.mem_append, List.mem_singleton] at ht
          rcases ht with ht | rfl
          · exact hg t (by simp [ht])
          · exact ⟨h1, e, hg a (by simp), hg b (by simp)⟩) (by simp only [List.length_append, List.length_singleton, List.length_cons, List.length_nil] at h ⊢; rw [← h]; congr 1; omega)
        exact ⟨us, q1, q2, by rw [q3]; simp [Ex.flat]⟩
    · cases h
theorem form_tree {x : List Wd} (h : formI x = 0) : ∃ t : Ex, t.good ∧ t.flat = x ∧ x.length ≤ 64 := by
  obtain ⟨h1, h2, _⟩ := form_all h
  obtain ⟨us, q1, q2, q3⟩ := hi_trees x [] 1 (by simp) h2
  have : us.length = 1 := by omega
  obtain ⟨t, rfl⟩ := List.length_eq_one_iff.1 this
  exact ⟨t, q2 t (by simp), by simpa using q3, h1⟩

set_option maxRecDepth 100000 in
theorem ebegin_any (L pre : List Wd) (t : Ex) (A : Option Addr) (cap : Nat) (w : World) (h : Src encW 3 w (fun _ => False) A L) (hl : L.length ≤ 64) (hg : t.good) (hL : L = pre ++ t.flat) :
    Calls Tryz.prog 119 #[.slice A L.length cap] w fun e w' => e = .returned (.int .i64 pre.length) ∧ Kept (fun _ => False) w w' := by
  have ht := fun c wx => takes_any c wx
  have HL := Lib.hid hL
  clear hL
  go_enter Tryz.func119, Tryz.ntmps119
  go_wp2_with fail
  go_loopg [3, 4] L.length (fun k lv av wr => ∃ (ts : List Ex), k ≤ L.length ∧ av = .int .i64 k ∧ lv = .int .i64 ts.length ∧ L.take k = pre ++ ts.flatMap Ex.flat ∧ (∀ t ∈ ts, t.good) ∧ Kept (fun _ => False) w wr)
  case atStart => exact ⟨[t], by omega, rfl, rfl, by rw [List.take_length, HL.out]; simp, by simpa using hg, Kept.refl _ w⟩
  case round =>
    obtain ⟨ts, hk, rfl, rfl, hts, hgs, hkept⟩ := hrel
    rcases List.eq_nil_or_concat ts with rfl | ⟨us, t2, rfl⟩
    · have hpl : gk = pre.length := by
        have := congrArg List.length hts
        rw [List.length_take, List.length_append] at this
        simp at this
        omega
      subst hpl
      go_wp2_with fail
      go_ret
      exact ⟨rfl, hkept⟩
    · rw [List.concat_eq_append] at *
      have hg2 := hgs t2 (by simp)
      rw [List.flatMap_append, List.flatMap_singleton, t2.flat_kids, ← List.append_assoc, ← List.append_assoc] at hts
      obtain ⟨m, rfl⟩ : ∃ m, gk = m + 1 := by
        cases gk with
        | zero => have := congrArg List.length hts; simp at this
        | succ m => exact ⟨m, rfl⟩
      have hm : m < L.length := by omega
      rw [List.take_succ_eq_append_getElem hm] at hts
      obtain ⟨h1, h2⟩ := List.append_inj' hts rfl
      have hx : L[m]? = some t2.root := by rw [List.getElem?_eq_getElem hm]; injection h2 with h2; rw [h2]
      obtain ⟨b, off, rfl, _, x0, _, _⟩ := (h.same hkept).cells3 hx
      have htk := Ex.takes hg2
      have ht2 := fun wx => ht t2.root.c wx
      rw [htk] at ht2
      have hkb : t2.kids.length ≤ 2 := by have := (takes_bd t2.root.c).2; omega
      have hul : us.length ≤ 64 := by
        have := congrArg List.length h1
        have hfl : ∀ us : List Ex, us.length ≤ (us.flatMap Ex.flat).length := by
          intro us
          induction us with
          | nil => simp
          | cons a us ih => rw [List.flatMap_cons, List.length_append, List.length_cons]; have := a.flat_pos; omega
        have := hfl us
        simp only [List.length_append, List.length_take] at *
        omega
      have hlt : decide ((0 : Int) < ((us ++ [t2]).length : Int)) = true := by simp
      have hlen : (us ++ [t2]).length = us.length + 1 := by simp
      have H1 := Lib.hid h1
      have e1 : IntKind.i64.wrap (((m + 1 : Nat) : Int) - 1) = (m : Int) := by rw [IntKind.wrap_i64]; omega
      rw [hlen] at hlt ⊢
      clear hts h1 h2 hx ht
      go_wp2_with fail
      refine (ht2 _).mono ?_
      rintro e w' ⟨rfl, rfl⟩
      go_wp2_with fail
      go_roundg m
      case measure => omega
      case rel => exact ⟨us ++ t2.kids, by omega, by first | rfl | exact int_eq (by omega), int_eq (by simp only [List.length_append]; first | omega | (simp only [wrap64]; omega)), by rw [H1.out]; simp, (by
          intro t ht
          rw [List.mem_append] at ht
          rcases ht with ht | ht
          · exact hgs t (by simp [ht])
          · exact Ex.kids_good hg2 t ht), hkept⟩

set_option maxRecDepth 100000 in
theorem clone_any (L : List Wd) (ad : Addr) (c : Nat) (w : World) (h : Src encW 3 w (fun _ => False) (some ad) L) (hl : L.length ≤ 1048576) :
    Calls Tryz.prog 120 #[.slice (some ad) L.length c] w fun e w' => ∃ v, e = .returned v ∧ New encW 3 62 w w' v L := by
  have hn0 : New encW 3 62 w (w.alloc (.cells #[] 62)) (.slice (some ⟨w.heap.size, 0, none⟩) 0 0) ([] : List Wd) := New.mk0 w
  have hx := New.src (sz := 3) (P := Tryz.prog) 26 26 (.agg #[.int .i64 0, .int .i64 0, .string ByteArray.empty]) 32 Tryz.underlying26 (by kernel_rfl) rfl (by decide) encW_len encW_one hn0 (Kept.refl _ _) L (some ad) c (by simp) (h.same ((Kept.refl _ w).alloc _)) (by simp only [maxLen, List.length_nil]; omega) (by simp only [List.length_nil]; omega)
  obtain ⟨v', w', hrun, A', c', hv, hn⟩ := hx
  subst hv
  have he : ∀ w : World, (binOp .eql 26 (.slice (some ad) L.length c) (.slice none 0 0)).run Tryz.prog w = .ok (.bool false) w := fun _ => rfl
  go_enter Tryz.func120, Tryz.ntmps120
  go_wp2_with (at_builtin; refine wpList_run2 rfl _ _ _ _ rfl rfl rfl hrun ?_)
  go_ret
  exact ⟨_, rfl, by simpa using hn⟩

/-- v holds the rows of the words of these. -/
def Held (w : World) (v : Value) (ks : List Ex) : Prop := ∃ b c, v = .slice (some ⟨b, 0, none⟩) ks.length c ∧ ∀ (i : Nat) (k : Ex), ks[i]? = some k → ∃ D d, w.cell? ⟨b, i, none⟩ = some (.slice (some D) k.flat.length d) ∧ k.flat.length ≤ d ∧ Src encW 3 w (fun _ => False) (some D) k.flat
theorem Held.same {w w' : World} {v : Value} {ks : List Ex} (h : Held w v ks) (k : Kept (fun _ => False) w w') : Held w' v ks := by
  obtain ⟨b, c, e, hc⟩ := h
  refine ⟨b, c, e, fun i x hi => ?_⟩
  obtain ⟨D, d, q1, q3, q2⟩ := hc i x hi
  exact ⟨D, d, k.cell q1 (fun q => q), q3, q2.same k⟩
theorem kids_drop {ks : List Ex} {k : Nat} (h : k < ks.length) : ks.take (k + 1) = ks.take k ++ [ks[k]] := List.take_succ_eq_append_getElem h

theorem Src.part {w : World} {N : Nat → Prop} {b off : Nat} {L M R : List Wd} (h : Src encW 3 w N (some ⟨b, off, none⟩) L) (hL : L = M ++ R) : Src encW 3 w N (some ⟨b, off, none⟩) M ∧ Src encW 3 w N (some ⟨b, off + M.length * 3, none⟩) R := by
  subst hL
  refine ⟨fun i x hi => ?_, fun i x hi => ?_⟩
  · exact h i x (by rw [List.getElem?_append_left (List.getElem?_eq_some_iff.1 hi).1]; exact hi)
  · obtain ⟨b', off', e, hb, hc⟩ := h (M.length + i) x (by rw [List.getElem?_append_right (by omega)]; rw [show M.length + i - M.length = i by omega]; exact hi)
    injection e with e
    injection e with e1 e2
    subst e1 e2
    refine ⟨_, _, rfl, hb, fun j u hu => ?_⟩
    have := hc j u hu
    rw [show off + (M.length + i) * 3 + j = off + M.length * 3 + i * 3 + j by omega] at this
    exact this

set_option maxRecDepth 100000 in
set_option maxHeartbeats 1000000 in
theorem parts_any (t : Ex) (A : Option Addr) (cap : Nat) (w : World) (h : Src encW 3 w (fun _ => False) A t.flat) (hl : t.flat.length ≤ 64) (hcap : t.flat.length ≤ cap) (hg : t.good) :
    Calls Tryz.prog 96 #[.slice A t.flat.length cap] w fun e w' => ∃ v, e = .returned (.tuple #[v, .int .i64 0]) ∧ Held w' v t.kids ∧ Kept (fun _ => False) w w' := by
  have hform := form_any t.flat A cap w h (by simp only [maxLen]; omega)
  rw [t.form hg hl] at hform
  have hfl := t.flat_kids
  have htk := t.takes hg
  have ht := fun wx => takes_any t.root.c wx
  rw [htk] at ht
  have hkb : t.kids.length ≤ 2 := by have := (takes_bd t.root.c).2; omega
  have hkg := Ex.kids_good hg
  clear htk hg
  generalize t.kids = ks at *
  generalize t.root = r at *
  generalize t.flat = L at *
  obtain ⟨m, hm⟩ : ∃ m, L.length = m + 1 := ⟨(ks.flatMap Ex.flat).length, by rw [hfl]; simp⟩
  have hml : (ks.flatMap Ex.flat).length = m := by rw [hfl, List.length_append, List.length_singleton] at hm; omega
  have hx : L[m]? = some r := by rw [hfl, List.getElem?_append_right (by omega)]; rw [hml]; simp
  obtain ⟨b, off, rfl, _, x0, _, _⟩ := h.cells3 hx
  have hsrc := (h.part hfl).1
  have hmk := fun wx => run_make_row' (P := Tryz.prog) 169 26 (.slice none 0 0) 24 Tryz.underlying169 (by kernel_rfl) rfl .i64 .i64 ks.length (by omega) (by omega) wx
  have HF := Lib.hid hfl
  have HM := Lib.hid hml
  have e1 : IntKind.i64.wrap ((L.length : Int) - 1) = (m : Int) := by rw [IntKind.wrap_i64]; omega
  have e2 : (L.length : Int) - 1 = (m : Int) := by omega
  clear hfl hml hx h
  rw [hm] at hform ⊢
  clear hm
  go_enter Tryz.func96, Tryz.ntmps96
  go_wp2_with fail
  refine hform.mono ?_
  rintro e w1 ⟨rfl, k1⟩
  have x1 := k1.cell x0 (fun q => q)
  go_wp2_with fail
  refine (ht _).mono ?_
  rintro e w1 ⟨rfl, rfl⟩
  go_wp2_with fail
  have hB := heap_alloc_new w1 (.cells (madeCells #[.slice none 0 0] ks.length) 26)
  have kB : Kept (fun _ => False) w (w1.alloc (.cells (madeCells #[.slice none 0 0] ks.length) 26)) := k1.alloc _
  have hBs : w.heap.size ≤ w1.heap.size := k1.size
  generalize w1.alloc (.cells (madeCells #[.slice none 0 0] ks.length) 26) = W at *
  generalize w1.heap.size = B at *
  go_loopg [7, 8] ks.length (fun k rv iv wr => k ≤ ks.length ∧ iv = .int .i64 ((k : Int) - 1) ∧ (∃ m' d', rv = .slice (some ⟨b, off, none⟩) m' d' ∧ m' ≤ d' ∧ Hid (((ks.take k).flatMap Ex.flat).length = m')) ∧
    (∃ cs, wr.heap[B]? = some (.cells cs 26 (0, 0)) ∧ cs.size = ks.length ∧ ∀ (i : Nat) (x : Ex), k ≤ i → ks[i]? = some x → ∃ D d, cs[i]? = some (.slice (some D) x.flat.length d) ∧ x.flat.length ≤ d ∧ Src encW 3 wr (fun j => j = B) (some D) x.flat) ∧ Kept (fun _ => False) w wr)
  case atStart => exact ⟨by omega, int_eq (by omega), ⟨m, m, rfl, Nat.le_refl _, by rw [List.take_length]; exact HM⟩, ⟨_, hB, by simp [size_madeCells], fun i x hi hx => by have := (List.getElem?_eq_some_iff.1 hx).1; omega⟩, kB⟩
  case round =>
    obtain ⟨hk, rfl, ⟨m', d', rfl, hmd, Hm⟩, ⟨cs, hcs, hsz, hall⟩, hkept⟩ := hrel
    cases gk with
    | zero =>
      go_wp2_with fail
      go_ret2
      refine ⟨_, rfl, ⟨B, _, rfl, fun i x hi => ?_⟩, hkept⟩
      obtain ⟨D, d, q1, q2, q3⟩ := hall i x (Nat.zero_le _) hi
      exact ⟨D, d, by rw [cell_of_row _ B i _ _ _ hcs]; exact q1, q2, q3.kept (Kept.refl (fun _ => False) _) (fun _ q => q.elim) (fun _ q => q.elim)⟩
    | succ k' =>
      have hlt : k' < ks.length := by omega
      obtain ⟨x, hx⟩ : ∃ x, ks[k']? = some x := ⟨_, List.getElem?_eq_getElem hlt⟩
      have hxe : ks[k'] = x := by rw [List.getElem?_eq_getElem hlt] at hx; injection hx
      have hxg := hkg x (List.mem_of_getElem? hx)
      have hm' := Hm.out
      rw [kids_drop hlt, hxe, List.flatMap_append, List.flatMap_singleton, List.length_append] at hm'
      have hxp := x.flat_pos
      obtain ⟨pre, hpre⟩ : ∃ pre, (ks.take k').flatMap Ex.flat = pre := ⟨_, rfl⟩
      rw [hpre] at hm'
      have hsp : ks.flatMap Ex.flat = (pre ++ x.flat) ++ (ks.drop (k' + 1)).flatMap Ex.flat := by
        rw [← hpre]
        conv => lhs; rw [← List.take_append_drop (k' + 1) ks]
        rw [List.flatMap_append, kids_drop hlt, hxe, List.flatMap_append, List.flatMap_singleton]
      have hs1 := ((hsrc.same hkept).part hsp).1
      have hll : (pre ++ x.flat).length ≤ 64 := by
        have := HM.out
        have h2 := congrArg List.length HF.out
        rw [hsp] at h2
        simp only [List.length_append] at h2 ⊢
        omega
      have hbg := ebegin_any (pre ++ x.flat) pre x _ d' _ hs1 hll hxg rfl
      rw [List.length_append, hm'] at hbg
      have hs2 := (hs1.part rfl).2
      have HP := Lib.hid hpre
      have HX := Lib.hid hx
      have hcl := fun wx hq cq => clone_any x.flat ⟨b, off + pre.length * 3, none⟩ cq wx hq (by simp only [List.length_append] at hll; omega)
      obtain ⟨pl, hpl⟩ : ∃ pl, pre.length = pl := ⟨_, rfl⟩
      obtain ⟨xl, hxl⟩ : ∃ xl, x.flat.length = xl := ⟨_, rfl⟩
      rw [hpl] at hm' hbg hs2 hcl
      rw [hxl] at hm' hxp hcl
      have HPL := Lib.hid hpl
      have HXL := Lib.hid hxl
      have em : m' - pl = xl := by omega
      have en : ¬ (d' = pl) := by omega
      have el : pl ≤ m' := by omega
      have ed : pl ≤ d' := by omega
      have ei : (((k' + 1 : Nat) : Int) - 1) = (k' : Int) := by omega
      clear hpl hxl hpre hx hxe hm' hll hsp hs1 Hm
      rw [ei]
      go_wp2_with fail
      refine hbg.mono ?_
      rintro e w2 ⟨rfl, k2⟩
      go_wp2_with fail
      refine (hcl _ (hs2.same k2) _).mono ?_
      rintro e w3 ⟨v, rfl, hnew⟩
      have hlB : B < wr.heap.size := (Array.getElem?_eq_some_iff.1 hcs).1
      have k3 : Kept (fun _ => False) wr w3 := k2.trans hnew.kept
      obtain ⟨A4, c4, rfl, hl4, _, hs4⟩ := hnew.row.src encW_len (fun j => j = B) (fun j hj q => by have := hnew.own j hj; have := k2.size; omega)
      obtain ⟨b4, o4, rfl, _, _⟩ := hs4 0 _ (List.getElem?_eq_getElem x.flat_pos)
      have hc3 := k3.heap hcs (fun q => q)
      have hkc : k' < cs.size := by omega
      have y0 : w3.cell? ⟨B, k', none⟩ = some cs[k'] := by rw [cell_of_row _ B k' _ _ _ hc3]; simp
      have y1 := frozen_of hc3 k'
      have HL4 : Hid _ := Lib.hid hl4
      have hkk := hkept.trans k3
      clear hnew hl4 hbg hcl
      rw [HXL.out]
      go_wp2_with fail
      go_roundg k'
      case measure => omega
      case rel =>
        refine ⟨by omega, rfl, ⟨_, _, rfl, Nat.le_refl _, by unfold Hid; rw [HP.out]; exact HPL.out⟩, ⟨_, blk_set hc3 k' _, by simp [hsz], fun i y hi hy => ?_⟩, hkk.setCell (p := ⟨B, k', none⟩) (fun q => by have q2 : B < w.heap.size := q; omega) _⟩
        by_cases hik : i = k'
        · subst hik
          have hxy := HX.out
          rw [hy] at hxy
          injection hxy with hxy
          subst hxy
          rw [HXL.out]
          exact ⟨_, c4, by simp [hkc], by rw [← HXL.out]; exact HL4.out, hs4.kept ((Kept.refl (fun j => j = B) _).setCell (p := ⟨B, i, none⟩) (fun _ => rfl) _) (fun _ q => q) (fun _ q => q)⟩
        · obtain ⟨D, d, q1, q2, q3⟩ := hall i y (by omega) hy
          exact ⟨D, d, by rw [Array.getElem?_setIfInBounds_ne (by omega)]; exact q1, q2, (q3.same k3).kept ((Kept.refl (fun j => j = B) _).setCell (p := ⟨B, k', none⟩) (fun _ => rfl) _) (fun _ q => q) (fun _ q => q)⟩
end Go.Proofs.YtballmombklalaaGreat
