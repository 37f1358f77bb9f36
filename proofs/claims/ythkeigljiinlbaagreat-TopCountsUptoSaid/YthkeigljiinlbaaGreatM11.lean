/- Picked out of the text BA of TopExprs. -/
import Derived.Test.YthkeigljiinlbaaGreatM10
import Derived.Defers
import Derived.Recover
import Derived.Stop.RegionWithIn
import Derived.RegionIn
namespace Go.Proofs.YthkeigljiinlbaaGreat
open Go.RowKit

/-- The two answers of Eval, as they stand in memory. -/
structure Res2 (W : World) (n : Nat) (v : Wd) (e : Int) : Prop where
  h4 : W.heap[n]? = some (.cells #[.int .i64 v.c, .int .i64 v.n, .string ⟨⟨v.t⟩⟩] 48 (0, 0))
  h5 : W.heap[n + 1]? = some (.cells #[.int .i64 e] 24 (0, 0))
theorem Res2.cells {W : World} {n : Nat} {v : Wd} {e : Int} (h : Res2 W n v e) : W.cell? ⟨n, 0, none⟩ = some (.int .i64 v.c) ∧ W.cell? ⟨n, 1, none⟩ = some (.int .i64 v.n) ∧ W.cell? ⟨n, 2, none⟩ = some (.string ⟨⟨v.t⟩⟩) ∧ W.cell? ⟨n + 1, 0, none⟩ = some (.int .i64 e) ∧
    W.frozen? ⟨n, 0, none⟩ = false ∧ W.frozen? ⟨n, 1, none⟩ = false ∧ W.frozen? ⟨n, 2, none⟩ = false ∧ W.frozen? ⟨n + 1, 0, none⟩ = false := by
  refine ⟨?_, ?_, ?_, ?_, frozen_of h.h4 0, frozen_of h.h4 1, frozen_of h.h4 2, frozen_of h.h5 0⟩
  · rw [cell_of_row W n 0 _ _ _ h.h4]; rfl
  · rw [cell_of_row W n 1 _ _ _ h.h4]; rfl
  · rw [cell_of_row W n 2 _ _ _ h.h4]; rfl
  · rw [cell_of_row W (n + 1) 0 _ _ _ h.h5]; rfl
end Go.Proofs.YthkeigljiinlbaaGreat

/- Picked out of the text BB of TopExprs. -/
namespace Go.Proofs.YthkeigljiinlbaaGreat
open Go.RowKit

theorem row_th {r : List Wd} (h : rowB r = true) (hn : ∀ v ∈ r, I64 v.n) : r.length ≤ 8 ∧ ∀ v ∈ r, thB v := by
  unfold rowB at h
  simp only [Bool.and_eq_true, decide_eq_true_eq, List.all_eq_true] at h
  refine ⟨h.1, fun v hv => ?_⟩
  have := h.2 v hv
  unfold valB at this
  simp only [decide_eq_true_eq] at this
  rcases this with ⟨q1, q2⟩ | ⟨q1, q2, q3⟩
  · exact .inl ⟨q1, hn v hv, q2⟩
  · exact .inr ⟨q1, q2, q3⟩

end Go.Proofs.YthkeigljiinlbaaGreat

/- Picked out of the text BC of TopExprs. -/
namespace Go.Proofs.YthkeigljiinlbaaGreat
open Go.RowKit
attribute [local go_sem] Oper.semAt_some

structure Ed where
  r : List Wd
  a : Int
  n : Int
deriving DecidableEq
def Ed.j (x : Ed) : Jp := ⟨x.a, x.n⟩
def runsF : Nat → List Ed → List (List Wd × List Jp)
  | 0, _ => []
  | _ + 1, [] => []
  | n + 1, x :: l => (x.r, ((x :: l).takeWhile (fun y => y.r == x.r)).map Ed.j) :: runsF n ((x :: l).dropWhile (fun y => y.r == x.r))
/-- Rows with their functions, as far as rows that follow each other are the same. -/
def runsL (l : List Ed) : List (List Wd × List Jp) := runsF l.length l
theorem dw_len {α : Type} (p : α → Bool) (x : α) (l : List α) (h : p x = true) : ((x :: l).dropWhile p).length ≤ l.length := by
  rw [List.dropWhile_cons_of_pos h]
  exact (List.dropWhile_sublist p).length_le
theorem runsF_fuel : ∀ (n m : Nat) (l : List Ed), l.length ≤ n → l.length ≤ m → runsF n l = runsF m l
  | 0, m, l, h, _ => by
    have : l = [] := List.eq_nil_of_length_eq_zero (by omega)
    subst this
    cases m <;> rfl
  | n + 1, 0, l, _, h => by
    have : l = [] := List.eq_nil_of_length_eq_zero (by omega)
    subst this
    rfl
  | n + 1, m + 1, [], _, _ => rfl
  | n + 1, m + 1, x :: l, h1, h2 => by
    have hd := dw_len (fun y : Ed => y.r == x.r) x l (by simp)
    simp only [List.length_cons] at h1 h2
    rw [runsF, runsF, runsF_fuel n m _ (by omega) (by omega)]
theorem runs_cons (x : Ed) (l : List Ed) : runsL (x :: l) = (x.r, ((x :: l).takeWhile (fun y => y.r == x.r)).map Ed.j) :: runsL ((x :: l).dropWhile (fun y => y.r == x.r)) := by
  have hd := dw_len (fun y : Ed => y.r == x.r) x l (by simp)
  unfold runsL
  rw [List.length_cons, runsF, runsF_fuel l.length _ _ hd (Nat.le_refl _)]
theorem tw_at {α : Type} (p : α → Bool) : ∀ (s : List α) (n : Nat), n ≤ s.length → (∀ x ∈ s.take n, p x = true) → (n = s.length ∨ ∃ x, s[n]? = some x ∧ p x = false) → s.takeWhile p = s.take n ∧ s.dropWhile p = s.drop n
  | [], n, _, _, _ => by simp
  | x :: s, 0, _, _, h => by
    rcases h with h | ⟨y, h, hp⟩
    · simp at h
    · simp at h
      subst h
      simp [hp]
  | x :: s, n + 1, hn, ha, h => by
    have hx : p x = true := ha x (by simp)
    obtain ⟨h1, h2⟩ := tw_at p s n (by simpa using hn) (fun y hy => ha y (by simp [hy])) (by
      rcases h with h | ⟨y, h, hp⟩
      · exact .inl (by simpa using h)
      · exact .inr ⟨y, by simpa using h, hp⟩)
    rw [List.takeWhile_cons_of_pos hx, List.dropWhile_cons_of_pos hx, h1, h2]
    exact ⟨rfl, rfl⟩

/-- The edges at A read as L; neither they nor their rows lie in N. -/
def EdS (w : World) (N : Nat → Prop) (A : Option Addr) (L : List Ed) : Prop :=
  ∀ (i : Nat) (x : Ed), L[i]? = some x → ∃ b off B d, A = some ⟨b, off, none⟩ ∧ ¬ N b ∧ w.cell? ⟨b, off + i * 3, none⟩ = some (.slice B x.r.length d) ∧ w.cell? ⟨b, off + i * 3 + 1, none⟩ = some (.int .i64 x.a) ∧ w.cell? ⟨b, off + i * 3 + 2, none⟩ = some (.int .i64 x.n) ∧
    (B = none → x.r = [] ∧ d = 0) ∧ Src encW 3 w N B x.r ∧ x.r.length ≤ 1048576
theorem EdS.kept {w w' : World} {N N' S : Nat → Prop} {A : Option Addr} {L : List Ed} (h : EdS w N A L) (k : Kept S w w') (hS : ∀ j, S j → N j) (hN : ∀ j, N' j → N j) : EdS w' N' A L := by
  intro i x hi
  obtain ⟨b, off, B, d, e, hb, c0, c1, c2, hB, hs, hl⟩ := h i x hi
  exact ⟨b, off, B, d, e, fun q => hb (hN b q), k.cell c0 (fun q => hb (hS b q)), k.cell c1 (fun q => hb (hS b q)), k.cell c2 (fun q => hb (hS b q)), hB, hs.kept k hS hN, hl⟩
theorem EdS.same {w w' : World} {N : Nat → Prop} {A : Option Addr} {L : List Ed} (h : EdS w N A L) (k : Kept (fun _ => False) w w') : EdS w' N A L := h.kept k (fun _ q => q.elim) (fun _ q => q)
theorem Src.old {α : Type} {enc : α → List Value} {sz : Nat} {w : World} {N : Nat → Prop} {A : Option Addr} {L : List α} (hlen : ∀ x, (enc x).length = sz) (h0 : 0 < sz) (h : Src enc sz w N A L) : Src enc sz w (fun j => N j ∨ w.heap.size ≤ j) A L := by
  intro i x hi
  obtain ⟨b, off, e, hn, hc⟩ := h i x hi
  have hx0 : 0 < (enc x).length := by rw [hlen]; exact h0
  have hb := World.block_lt_of_cell? (w := w) _ (hc 0 _ (List.getElem?_eq_getElem hx0))
  exact ⟨b, off, e, fun q => by rcases q with q | q; exact hn q; simp only at hb; omega, hc⟩
theorem EdS.old {w : World} {N : Nat → Prop} {A : Option Addr} {L : List Ed} (h : EdS w N A L) : EdS w (fun j => N j ∨ w.heap.size ≤ j) A L := by
  intro i x hi
  obtain ⟨b, off, B, d, e, hb, c0, c1, c2, hB, hs, hl⟩ := h i x hi
  have hbl := World.block_lt_of_cell? (w := w) _ c0
  exact ⟨b, off, B, d, e, fun q => by rcases q with q | q; exact hb q; simp only at hbl; omega, c0, c1, c2, hB, hs.old encW_len (by decide), hl⟩

theorem runs_any (A : Option Addr) (n c : Nat) (w : World) : Calls Tryz.prog 57 #[.slice A n c] w fun e w' =>
    e = .returned (.func (.func 100) #[] #[.pointer (some ⟨w.heap.size, 0, none⟩)]) ∧ w'.heap[w.heap.size]? = some (.cells #[.slice A n c] 22 (0, 0)) ∧ Kept (fun _ => False) w w' := by
  have hmf : ∀ (fn : Fn) (first cap : Array Value) (w : World), (Instr.makeFunc fn first cap).run Tryz.prog w = .ok (.func fn first cap) w := fun _ _ _ _ => rfl
  go_enter Tryz.func57, Tryz.ntmps57
  go_wp2_with fail
  go_ret
  exact ⟨rfl, heap_alloc_new w _, (Kept.refl _ w).alloc _⟩
theorem groups_fn (A : Option Addr) (n c : Nat) (w : World) : Calls Tryz.prog 19 #[.slice A n c] w fun e w' =>
    e = .returned (.func (.func 56) #[] #[.pointer (some ⟨w.heap.size, 0, none⟩)]) ∧ w'.heap[w.heap.size]? = some (.cells #[.slice A n c] 22 (0, 0)) ∧ Kept (fun _ => False) w w' := by
  have hmf : ∀ (fn : Fn) (first cap : Array Value) (w : World), (Instr.makeFunc fn first cap).run Tryz.prog w = .ok (.func fn first cap) w := fun _ _ _ _ => rfl
  go_enter Tryz.func19, Tryz.ntmps19
  go_wp2_with fail
  go_ret
  exact ⟨rfl, heap_alloc_new w _, (Kept.refl _ w).alloc _⟩

def encG (v : Value × Value) : Array Value := #[v.1, v.2]
def tellG (_ : Nat) (p : List Wd × List Jp) (v : Value × Value) (A : World) : Prop := Row encW 3 48 A v.1 p.1 ∧ Row encJ 2 80 A v.2 p.2
def handG (v : Value × Value) (j : Nat) : Prop := v.1.ownBlock = some j ∨ v.2.ownBlock = some j
theorem row_cells {α : Type} {enc : α → List Value} {sz : Nat} {T : TypeId} {w : World} {v : Value} {L : List α} (h : Row enc sz T w v L) {j : Nat} (q : v.ownBlock = some j) : ∃ cs, w.heap[j]? = some (.cells cs T (0, 0)) := by
  rcases h.2 with ⟨rfl, _⟩ | ⟨g, cap, cur, rfl, _, hg, _⟩
  · cases q
  · injection q with q
    subst q
    exact ⟨cur, hg⟩
theorem tellG_kept (k : Nat) (p : List Wd × List Jp) (v : Value × Value) (A B : World) (l : Nat) (h : tellG k p v A) (hk : Kept (fun j => j = l) A B) (hl : ∀ cs T f, A.heap[l]? ≠ some (.cells cs T f)) : tellG k p v B := by
  refine ⟨h.1.kept hk (fun g hg q => ?_), h.2.kept hk (fun g hg q => ?_)⟩
  · obtain ⟨cs, q2⟩ := row_cells h.1 hg
    subst q
    exact hl _ _ _ q2
  · obtain ⟨cs, q2⟩ := row_cells h.2 hg
    subst q
    exact hl _ _ _ q2
theorem handG_cells (k : Nat) (p : List Wd × List Jp) (v : Value × Value) (A : World) (j : Nat) (h : tellG k p v A) (q : handG v j) : ∃ cs T f, A.heap[j]? = some (.cells cs T f) := by
  rcases q with q | q
  · obtain ⟨cs, q2⟩ := row_cells h.1 q
    exact ⟨_, _, _, q2⟩
  · obtain ⟨cs, q2⟩ := row_cells h.2 q
    exact ⟨_, _, _, q2⟩

set_option maxHeartbeats 2000000 in
set_option maxRecDepth 100000 in
theorem runs1_iter (bx : Nat) (L : List Ed) (A : Option Addr) (c : Nat) (O0 : Nat → Prop) (w : World) (hb : w.heap[bx]? = some (.cells #[.slice A L.length c] 22 (0, 0))) (hl : L.length ≤ 1048576) (hs : EdS w O0 A L) (hO0 : ¬ O0 bx) :
    Iter Tryz.prog 100 #[.pointer (some ⟨bx, 0, none⟩)] encG (runsL L) tellG handG O0 w := by
  intro l J Jx O W hkW hO hJ hJx hY h0
  have hb1 := hkW.heap hb (fun q => q)
  have c1 := cell_of_row W bx 0 _ _ _ hb1
  simp only [List.getElem?_toArray, List.getElem?_cons_zero] at c1
  have hbx := (Array.getElem?_eq_some_iff.1 hb).1
  have c0w := cell_of_row w bx 0 _ _ _ hb
  simp only [List.getElem?_toArray, List.getElem?_cons_zero] at c0w
  have hs' := hs.old
  refine (callsIn_wide (n := 0)).1 ?_
  (refine callsIn_of_wp Tryz.func100 rfl trivial ?_; simp only [Tryz.ntmps100, List.size_toArray, List.length_cons, List.length_nil, Nat.reduceAdd, Nat.reduceSub, Array.replicate_succ, Array.replicate_zero, List.push_toArray, List.append_toArray, List.nil_append, List.cons_append])
  gi_wp2_with fail
  gi_loopw [3] (fun iv wr => ∃ (n k : Nat) (O' : Nat → Prop), iv = .int .i64 n ∧ n ≤ L.length ∧ Hid (runsL (L.drop n) = (runsL L).drop k) ∧ k ≤ (runsL L).length ∧ J k O' wr ∧ (∀ j, O' j → O0 j ∨ w.heap.size ≤ j) ∧ (∀ j, O' j → j < wr.heap.size) ∧ W.heap.size ≤ wr.heap.size ∧ Kept (fun j => O0 j ∨ w.heap.size ≤ j) w wr)
    (fun iv _ => L.length - (intOf iv).toNat)
  case atStart => exact ⟨0, 0, O, rfl, Nat.zero_le _, rfl, Nat.zero_le _, h0, fun j q => (hO j q).1, fun j q => (hO j q).2, Nat.le_refl _, hkW.mono (fun _ _ q => q.elim)⟩
  case round =>
    obtain ⟨n, k, O', rfl, hn, HRR, hkk, hj, hO1, hO2, hsz, hkr⟩ := hrel
    generalize hwo : wr = wo at *
    clear hwo
    have c2 := hkr.cell c0w (show ¬ (O0 bx ∨ w.heap.size ≤ bx) from fun q => by rcases q with q | q; exact hO0 q; omega)
    by_cases hlt : n < L.length
    · obtain ⟨x, hx⟩ : ∃ x, L[n]? = some x := ⟨L[n], List.getElem?_eq_getElem hlt⟩
      have hsr : EdS wo (fun j => O0 j ∨ w.heap.size ≤ j) A L := hs'.kept hkr (fun _ q => q) (fun _ q => q)
      obtain ⟨b, off, B, d, rfl, hb0, x0, x1, x2, hB, hsx, hxl⟩ := hsr n x hx
      have hdr : L.drop n = x :: L.drop (n + 1) := by
        rw [List.drop_eq_getElem_cons hlt]; congr 1; rw [List.getElem?_eq_getElem hlt] at hx; injection hx
      have hrr := HRR.out
      rw [hdr, runs_cons] at hrr
      have HRC := Lib.hid hrr
      have HDR := Lib.hid hdr
      clear hrr hdr
      gi_wp2_with fail
      gi_loopw [3, 5] (fun iv fv wq => ∃ (m : Nat) (pre : List Jp), iv = .int .i64 m ∧ n ≤ m ∧ m ≤ L.length ∧ Hid (pre = ((L.drop n).take (m - n)).map Ed.j) ∧ pre.length = m - n ∧ Hid (∀ y ∈ (L.drop n).take (m - n), y.r = x.r) ∧ New encJ 2 80 wo wq fv pre) (fun iv _ _ => L.length - (intOf iv).toNat)
      case atStart => exact ⟨n, [], rfl, Nat.le_refl _, hn, by unfold Hid; simp, by simp, by unfold Hid; simp, New.mk0 wo⟩
      case round =>
        obtain ⟨m, pre, rfl, hnm, hmL, HPRE, hpl, HALL, hnew⟩ := hrel
        obtain ⟨Af, cf, rfl, _, _⟩ := hnew.shape
        have kq := hnew.kept
        have c3 := kq.cell c2 (fun q => q)
        have HPL := Lib.hid hpl
        have hpb : pre.length ≤ 1048576 := by omega
        clear hpl
        by_cases hml : m < L.length
        · obtain ⟨y, hy⟩ : ∃ y, L[m]? = some y := ⟨L[m], List.getElem?_eq_getElem hml⟩
          obtain ⟨b2, off2, B2, d2, hA2, hb2, y0, y1, y2, hB2, hsy, hyl⟩ := (hsr.same kq) m y hy
          injection hA2 with hA2
          injection hA2 with e1 e2
          subst e1 e2
          have hsame := fun wx (kx : Kept (fun _ => False) wr wx) => rsame_any y.r x.r B2 B d2 d wx ((hsy.kept kx (fun _ q => q.elim) (fun _ q => q)).kept (Kept.refl (fun _ => False) wx) (fun _ q => q.elim) (fun _ q => q.elim)) (((hsx.same kq).same kx).kept (Kept.refl (fun _ => False) wx) (fun _ q => q.elim) (fun _ q => q.elim)) (by unfold maxLen; omega) (by unfold maxLen; omega)
          have hsm := hsame _ (Kept.refl _ _)
          by_cases hyx : y.r = x.r
          · rw [decide_eq_true hyx] at hsm
            have HYX := Lib.hid hyx
            have htk : (L.drop n).take (m + 1 - n) = (L.drop n).take (m - n) ++ [y] := by
              rw [show m + 1 - n = (m - n) + 1 by omega, List.take_add_one, List.getElem?_drop, show n + (m - n) = m by omega, hy]
              rfl
            have HTK := Lib.hid htk
            clear htk
            obtain ⟨yr, ya, yn⟩ := y
            simp only at *
            clear hyx hsame
            gi_wp2_with fail
            refine ⟨trivial, rfl, callsIn_wide.2 (hsm.mono ?_)⟩
            rintro e w2 ⟨rfl, nd, rfl⟩
            gi_wp2_with fail
            have kV := drew_kept wr nd
            have hnV := hnew.same kV
            have c4 := kV.cell c3 (fun q => q)
            have v1 := kV.cell y1 (fun q => q)
            have v2 := kV.cell y2 (fun q => q)
            generalize wr.drewN nd = V at *
            refine wpIn_wide.2 ?_
            go_region_law (refine step_ex rfl _ _ _ _ rfl rfl rfl (New.lit (sz := 2) _ _ (.agg #[.int .i64 0, .int .i64 0]) 16 Tryz.underlying52 (by kernel_rfl) rfl (by decide) encJ_len encJ_one hnV (by first | exact ((Kept.refl _ _).alloc _).drew | exact ((Kept.refl _ _).drew).alloc _) [⟨ya, yn⟩] _ _ (heap_alloc_new _ _) (by simp only [maxLen, List.length_cons, List.length_nil]; omega) (by simp only [List.length_cons, List.length_nil]; omega)) ?_; rintro v' w4 ⟨A', c', rfl, hn4⟩)
            all_goals
              gi_wp2_with fail
              go_roundw
              case rel => exact ⟨m + 1, pre ++ [⟨ya, yn⟩], int_eq (by omega), by omega, by omega, by unfold Hid; rw [HTK.out, HPRE.out, List.map_append]; rfl, by rw [List.length_append, List.length_singleton, HPL.out]; omega, by
                unfold Hid
                rw [HTK.out]
                intro z hz
                rw [List.mem_append, List.mem_singleton] at hz
                rcases hz with hz | rfl
                · exact HALL.out z hz
                · exact HYX.out, hn4⟩
              case measure => simp [intOf]; omega
          · rw [decide_eq_false hyx] at hsm
            have HYX := Lib.hid hyx
            have hmn : n < m := by
              rcases Nat.lt_or_eq_of_le hnm with q | q
              · exact q
              · subst q
                rw [hx] at hy
                injection hy with hy
                subst hy
                exact absurd rfl hyx
            clear hyx hsame
            gi_wp2_with fail
            refine ⟨trivial, rfl, callsIn_wide.2 (hsm.mono ?_)⟩
            rintro e w2 ⟨rfl, nd, rfl⟩
            have htw := tw_at (fun z : Ed => z.r == x.r) (L.drop n) (m - n) (by rw [List.length_drop]; omega) (fun z hz => by simpa using HALL.out z hz) (.inr ⟨y, by rw [List.getElem?_drop, show n + (m - n) = m by omega]; exact hy, by simpa using HYX.out⟩)
            have hr2 := HRC.out
            rw [← HDR.out, htw.1, htw.2, List.drop_drop, show n + (m - n) = m by omega, ← HPRE.out] at hr2
            have hk0 : (runsL L)[k]? = some (x.r, pre) := by
              have := congrArg (fun l => l[0]?) hr2
              simp only [List.getElem?_cons_zero, List.getElem?_drop, Nat.add_zero] at this
              exact this.symm
            have hk1 : runsL (L.drop m) = (runsL L).drop (k + 1) := by
              have := congrArg List.tail hr2
              rw [List.tail_cons, List.tail_drop] at this
              exact this
            have hkl : k < (runsL L).length := (List.getElem?_eq_some_iff.1 hk0).1
            have HK1 := Lib.hid hk1
            have HK0 := Lib.hid hk0
            clear htw hr2 hk0 hk1
            gi_wp2_with fail
            refine ⟨trivial, rfl, callsIn_wide.2 ((rcopy_any x.r B d _ hB (((hsx.same kq).same (drew_kept wr nd)).kept (Kept.refl (fun _ => False) _) (fun _ q => q.elim) (fun _ q => q.elim)) hxl).mono ?_)⟩
            rintro e w3 ⟨vr, rfl, hcp⟩
            have k3 : Kept (fun _ => False) wo w3 := (kq.trans (drew_kept wr nd)).trans hcp.kept
            obtain ⟨Ar, cr, hvr, _, _⟩ := hcp.shape
            have hnf := hnew.row.same ((drew_kept wr nd).trans hcp.kept)
            have hown1 := hcp.own
            have hown2 := hnew.own
            have hrr1 := hcp.row
            subst hvr
            obtain ⟨fn, tmps, assign, body, hy, hR⟩ := hY k (x.r, pre) (.slice Ar x.r.length cr, .slice Af pre.length cf) O' w3 (hJ k O' wo _ _ hj k3 (fun j q => q.elim)) HK0.out ⟨hrr1, hnf⟩ (fun j q => Nat.lt_of_lt_of_le (hO2 j q) k3.size) (Nat.le_trans hsz k3.size)
            dsimp only [encG] at hy
            have hsz2 := k3.size
            have hsz3 := hkr.size
            have hszq := (kq.trans (drew_kept wr nd)).size
            clear hcp hnf hrr1
            gi_wp2_with fail
            refine ⟨rfl, hR.mono ?_⟩
            rintro e Bw (⟨rfl, O2, hj2, hkB, hgr, hltB⟩ | ⟨rfl, O2, hj2, hkB, hgr, hltB⟩)
            · have hk2 : Kept (fun j => O0 j ∨ w.heap.size ≤ j) w Bw := (hkr.trans' (k3.trans' hkB (U := fun j => O0 j ∨ w.heap.size ≤ j) (fun _ _ q => q.elim) (fun j _ q => hO1 j q)) (fun _ _ q => q) (fun _ _ q => q))
              have hgr2 : ∀ j, O2 j → O0 j ∨ w.heap.size ≤ j := fun j q => by
                rcases hgr j q with q | q | q
                · exact hO1 j q
                · exact .inr (by omega)
                · rcases q with q | q
                  · have := hown1 j q; exact .inr (by omega)
                  · have := hown2 j q; exact .inr (by omega)
              have hszB := hkB.size
              gi_wp2_with fail
              go_roundw
              case rel => exact ⟨m, k + 1, O2, rfl, hmL, HK1, hkl, hj2, hgr2, hltB, by omega, hk2⟩
              case measure => simp [intOf]; omega
            · gi_wp2_with fail
              refine bodyPost_ret (results_none rfl _ _ _) rfl ?_
              exact ⟨⟨_, rfl⟩, .inr ⟨k, O2, hkl, hj2⟩⟩
        · have hme : m = L.length := by omega
          have htw := tw_at (fun z : Ed => z.r == x.r) (L.drop n) (m - n) (by rw [List.length_drop]; omega) (fun z hz => by simpa using HALL.out z hz) (.inl (by rw [List.length_drop]; omega))
          have hr2 := HRC.out
          rw [← HDR.out, htw.1, htw.2, List.drop_drop, show n + (m - n) = m by omega, ← HPRE.out] at hr2
          have hk0 : (runsL L)[k]? = some (x.r, pre) := by
            have := congrArg (fun l => l[0]?) hr2
            simp only [List.getElem?_cons_zero, List.getElem?_drop, Nat.add_zero] at this
            exact this.symm
          have hk1 : runsL (L.drop m) = (runsL L).drop (k + 1) := by
            have := congrArg List.tail hr2
            rw [List.tail_cons, List.tail_drop] at this
            exact this
          have hkl : k < (runsL L).length := (List.getElem?_eq_some_iff.1 hk0).1
          have HK1 := Lib.hid hk1
          have HK0 := Lib.hid hk0
          clear htw hr2 hk0 hk1
          gi_wp2_with fail
          refine ⟨trivial, ?_⟩
          gi_wp2_with fail
          refine ⟨trivial, rfl, callsIn_wide.2 ((rcopy_any x.r B d _ hB (((hsx.same kq).same (Kept.refl (fun _ => False) wr)).kept (Kept.refl (fun _ => False) _) (fun _ q => q.elim) (fun _ q => q.elim)) hxl).mono ?_)⟩
          rintro e w3 ⟨vr, rfl, hcp⟩
          have k3 : Kept (fun _ => False) wo w3 := (kq.trans (Kept.refl (fun _ => False) wr)).trans hcp.kept
          obtain ⟨Ar, cr, hvr, _, _⟩ := hcp.shape
          have hnf := hnew.row.same ((Kept.refl (fun _ => False) wr).trans hcp.kept)
          have hown1 := hcp.own
          have hown2 := hnew.own
          have hrr1 := hcp.row
          subst hvr
          obtain ⟨fn, tmps, assign, body, hy, hR⟩ := hY k (x.r, pre) (.slice Ar x.r.length cr, .slice Af pre.length cf) O' w3 (hJ k O' wo _ _ hj k3 (fun j q => q.elim)) HK0.out ⟨hrr1, hnf⟩ (fun j q => Nat.lt_of_lt_of_le (hO2 j q) k3.size) (Nat.le_trans hsz k3.size)
          dsimp only [encG] at hy
          have hsz2 := k3.size
          have hsz3 := hkr.size
          have hszq := (kq.trans (Kept.refl (fun _ => False) wr)).size
          clear hcp hnf hrr1
          gi_wp2_with fail
          refine ⟨rfl, hR.mono ?_⟩
          rintro e Bw (⟨rfl, O2, hj2, hkB, hgr, hltB⟩ | ⟨rfl, O2, hj2, hkB, hgr, hltB⟩)
          · have hk2 : Kept (fun j => O0 j ∨ w.heap.size ≤ j) w Bw := (hkr.trans' (k3.trans' hkB (U := fun j => O0 j ∨ w.heap.size ≤ j) (fun _ _ q => q.elim) (fun j _ q => hO1 j q)) (fun _ _ q => q) (fun _ _ q => q))
            have hgr2 : ∀ j, O2 j → O0 j ∨ w.heap.size ≤ j := fun j q => by
              rcases hgr j q with q | q | q
              · exact hO1 j q
              · exact .inr (by omega)
              · rcases q with q | q
                · have := hown1 j q; exact .inr (by omega)
                · have := hown2 j q; exact .inr (by omega)
            have hszB := hkB.size
            gi_wp2_with fail
            go_roundw
            case rel => exact ⟨m, k + 1, O2, (by rw [hme]), hmL, HK1, hkl, hj2, hgr2, hltB, by omega, hk2⟩
            case measure => simp [intOf]; omega
          · gi_wp2_with fail
            refine bodyPost_ret (results_none rfl _ _ _) rfl ?_
            exact ⟨⟨_, rfl⟩, .inr ⟨k, O2, hkl, hj2⟩⟩
    · have e : n = L.length := by omega
      subst e
      have hrr := HRR.out
      rw [List.drop_length] at hrr
      have hke : k = (runsL L).length := by
        have h0 : (runsL L).drop k = [] := by rw [← hrr]; rfl
        have := List.drop_eq_nil_iff.1 h0
        omega
      subst hke
      gi_wp2_with fail
      go_end0
      exact ⟨⟨_, rfl⟩, .inl ⟨O', hj⟩⟩
end Go.Proofs.YthkeigljiinlbaaGreat
