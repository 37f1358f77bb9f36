/- edge: runs of edges with one row. -/
import Derived.Test.YtballmombklalaaGreatM16
import Derived.Stop.RegionWithIn
import Derived.RegionIn
namespace Go.Proofs.YtballmombklalaaGreat
open Go.RowKit
attribute [local go_sem] Oper.semAt_some

structure Ed where
  r : List Wd
  a : Int
  n : Int
deriving DecidableEq
def Ed.j (x : Ed) : Jp := ⟨x.a, x.n⟩
def runsF : Nat → List Ed → List (List Wd × List Jp)
  | 0, _ => []
  | _ + 1, [] => []
  | n + 1, x :: l => (x.r, ((x :: l).takeWhile (fun y => y.r == x.r)).map Ed.j) :: runsF n ((x :: l).dropWhile (fun y => y.r == x.r))
/-- Rows with their functions, as far as rows that follow each other are the same. -/
def runsL (l : List Ed) : List (List Wd × List Jp) := runsF l.length l
theorem dw_len {α : Type} (p : α → Bool) (x : α) (l : List α) (h : p x = true) : ((x :: l).dropWhile p).length ≤ l.length := by
  rw [List.dropWhile_cons_of_pos h]
  exact (List.dropWhile_sublist p).length_le
theorem runsF_fuel : ∀ (n m : Nat) (l : List Ed), l.length ≤ n → l.length ≤ m → runsF n l = runsF m l
  | 0, m, l, h, _ => by
    have : l = [] := List.eq_nil_of_length_eq_zero (by omega)
    subst this
    cases m <;> rfl
  | n + 1, 0, l, _, h => by
    have : l = [] := List.eq_nil_of_length_eq_zero (by omega)
    subst this
    rfl
  | n + 1, m + 1, [], _, _ => rfl
  | n + 1, m + 1, x :: l, h1, h2 => by
    have hd := dw_len (fun y : Ed => y.r == x.r) x l (by simp)
    simp only [List.length_cons] at h1 h2
    rw [runsF, runsF, runsF_fuel n m _ (by omega) (by omega)]
theorem runs_cons (x : Ed) (l : List Ed) : runsL (x :: l) = (x.r, ((x :: l).takeWhile (fun y => y.r == x.r)).map Ed.j) :: runsL ((x :: l).dropWhile (fun y => y.r == x.r)) := by
  have hd := dw_len (fun y : Ed => y.r == x.r) x l (by simp)
  unfold runsL
  rw [List.length_cons, runsF, runsF_fuel l.length _ _ hd (Nat.le_refl _)]
theorem tw_at {α : Type} (p : α → Bool) : ∀ (s : List α) (n : Nat), n ≤ s.length → (∀ x ∈ s.take n, p x = true) → (n = s.length ∨ ∃ x, s[n]? = some x ∧ p x = false) → s.takeWhile p = s.take n ∧ s.dropWhile p = s.drop n
  | [], n, _, _, _ => by simp
  | x :: s, 0, _, _, h => by
    rcases h with h | ⟨y, h, hp⟩
    · simp at h
    · simp at h
      subst h
      simp [hp]
  | x :: s, n + 1, hn, ha, h => by
    have hx : p x = true := ha x (by simp)
    obtain ⟨h1, h2⟩ := tw_at p s n (by simpa using hn) (fun y hy => ha y (by simp [hy])) (by
      rcases h with h | ⟨y, h, hp⟩
      · exact .inl (by simpa using h)
      · exact .inr ⟨y, by simpa using h, hp⟩)
    rw [List.takeWhile_cons_of_pos hx, List.dropWhile_cons_of_pos hx, h1, h2]
    exact ⟨rfl, rfl⟩

/-- The edges at A read as L; neither they nor their rows lie in N. -/
def EdS (w : World) (N : Nat → Prop) (A : Option Addr) (L : List Ed) : Prop :=
  ∀ (i : Nat) (x : Ed), L[i]? = some x → ∃ b off B d, A = some ⟨b, off, none⟩ ∧ ¬ N b ∧ w.cell? ⟨b, off + i * 3, none⟩ = some (.slice B x.r.length d) ∧ w.cell? ⟨b, off + i * 3 + 1, none⟩ = some (.int .i64 x.a) ∧ w.cell? ⟨b, off + i * 3 + 2, none⟩ = some (.int .i64 x.n) ∧
    (B = none → x.r = [] ∧ d = 0) ∧ Src encW 3 w N B x.r ∧ x.r.length ≤ 1048576
theorem EdS.kept {w w' : World} {N N' S : Nat → Prop} {A : Option Addr} {L : List Ed} (h : EdS w N A L) (k : Kept S w w') (hS : ∀ j, S j → N j) (hN : ∀ j, N' j → N j) : EdS w' N' A L := by
  intro i x hi
  obtain ⟨b, off, B, d, e, hb, c0, c1, c2, hB, hs, hl⟩ := h i x hi
  exact ⟨b, off, B, d, e, fun q => hb (hN b q), k.cell c0 (fun q => hb (hS b q)), k.cell c1 (fun q => hb (hS b q)), k.cell c2 (fun q => hb (hS b q)), hB, hs.kept k hS hN, hl⟩
theorem EdS.same {w w' : World} {N : Nat → Prop} {A : Option Addr} {L : List Ed} (h : EdS w N A L) (k : Kept (fun _ => False) w w') : EdS w' N A L := h.kept k (fun _ q => q.elim) (fun _ q => q)
theorem Src.old {α : Type} {enc : α → List Value} {sz : Nat} {w : World} {N : Nat → Prop} {A : Option Addr} {L : List α} (hlen : ∀ x, (enc x).length = sz) (h0 : 0 < sz) (h : Src enc sz w N A L) : Src enc sz w (fun j => N j ∨ w.heap.size ≤ j) A L := by
  intro i x hi
  obtain ⟨b, off, e, hn, hc⟩ := h i x hi
  have hx0 : 0 < (enc x).length := by rw [hlen]; exact h0
  have hb := World.block_lt_of_cell? (w := w) _ (hc 0 _ (List.getElem?_eq_getElem hx0))
  exact ⟨b, off, e, fun q => by rcases q with q | q; exact hn q; simp only at hb; omega, hc⟩
theorem EdS.old {w : World} {N : Nat → Prop} {A : Option Addr} {L : List Ed} (h : EdS w N A L) : EdS w (fun j => N j ∨ w.heap.size ≤ j) A L := by
  intro i x hi
  obtain ⟨b, off, B, d, e, hb, c0, c1, c2, hB, hs, hl⟩ := h i x hi
  have hbl := World.block_lt_of_cell? (w := w) _ c0
  exact ⟨b, off, B, d, e, fun q => by rcases q with q | q; exact hb q; simp only at hbl; omega, c0, c1, c2, hB, hs.old encW_len (by decide), hl⟩

theorem runs_any (A : Option Addr) (n c : Nat) (w : World) : Calls Tryz.prog 66 #[.slice A n c] w fun e w' =>
    e = .returned (.func (.func 106) #[] #[.pointer (some ⟨w.heap.size, 0, none⟩)]) ∧ w'.heap[w.heap.size]? = some (.cells #[.slice A n c] 24 (0, 0)) ∧ Kept (fun _ => False) w w' := by
  have hmf : ∀ (fn : Fn) (first cap : Array Value) (w : World), (Instr.makeFunc fn first cap).run Tryz.prog w = .ok (.func fn first cap) w := fun _ _ _ _ => rfl
  go_enter Tryz.func66, Tryz.ntmps66
  go_wp2_with fail
  go_ret
  exact ⟨rfl, heap_alloc_new w _, (Kept.refl _ w).alloc _⟩
theorem groups_fn (A : Option Addr) (n c : Nat) (w : World) : Calls Tryz.prog 29 #[.slice A n c] w fun e w' =>
    e = .returned (.func (.func 65) #[] #[.pointer (some ⟨w.heap.size, 0, none⟩)]) ∧ w'.heap[w.heap.size]? = some (.cells #[.slice A n c] 24 (0, 0)) ∧ Kept (fun _ => False) w w' := by
  have hmf : ∀ (fn : Fn) (first cap : Array Value) (w : World), (Instr.makeFunc fn first cap).run Tryz.prog w = .ok (.func fn first cap) w := fun _ _ _ _ => rfl
  go_enter Tryz.func29, Tryz.ntmps29
  go_wp2_with fail
  go_ret
  exact ⟨rfl, heap_alloc_new w _, (Kept.refl _ w).alloc _⟩

def encG (v : Value × Value) : Array Value := #[v.1, v.2]
def tellG (_ : Nat) (p : List Wd × List Jp) (v : Value × Value) (A : World) : Prop := Row encW 3 52 A v.1 p.1 ∧ Row encJ 2 182 A v.2 p.2
def handG (v : Value × Value) (j : Nat) : Prop := v.1.ownBlock = some j ∨ v.2.ownBlock = some j
theorem row_cells {α : Type} {enc : α → List Value} {sz : Nat} {T : TypeId} {w : World} {v : Value} {L : List α} (h : Row enc sz T w v L) {j : Nat} (q : v.ownBlock = some j) : ∃ cs, w.heap[j]? = some (.cells cs T (0, 0)) := by
  rcases h.2 with ⟨rfl, _⟩ | ⟨g, cap, cur, rfl, _, hg, _⟩
  · cases q
  · injection q with q
    subst q
    exact ⟨cur, hg⟩
theorem tellG_kept (k : Nat) (p : List Wd × List Jp) (v : Value × Value) (A B : World) (l : Nat) (h : tellG k p v A) (hk : Kept (fun j => j = l) A B) (hl : ∀ cs T f, A.heap[l]? ≠ some (.cells cs T f)) : tellG k p v B := by
  refine ⟨h.1.kept hk (fun g hg q => ?_), h.2.kept hk (fun g hg q => ?_)⟩
  · obtain ⟨cs, q2⟩ := row_cells h.1 hg
    subst q
    exact hl _ _ _ q2
  · obtain ⟨cs, q2⟩ := row_cells h.2 hg
    subst q
    exact hl _ _ _ q2
theorem handG_cells (k : Nat) (p : List Wd × List Jp) (v : Value × Value) (A : World) (j : Nat) (h : tellG k p v A) (q : handG v j) : ∃ cs T f, A.heap[j]? = some (.cells cs T f) := by
  rcases q with q | q
  · obtain ⟨cs, q2⟩ := row_cells h.1 q
    exact ⟨_, _, _, q2⟩
  · obtain ⟨cs, q2⟩ := row_cells h.2 q
    exact ⟨_, _, _, q2⟩

set_option maxHeartbeats 2000000 in
set_option maxRecDepth 100000 in
theorem runs1_iter (bx : Nat) (L : List Ed) (A : Option Addr) (c : Nat) (O0 : Nat → Prop) (w : World) (hb : w.heap[bx]? = some (.cells #[.slice A L.length c] 24 (0, 0))) (hl : L.length ≤ 1048576) (hs : EdS w O0 A L) (hO0 : ¬ O0 bx) :
    Iter Tryz.prog 106 #[.pointer (some ⟨bx, 0, none⟩)] encG (runsL L) tellG handG O0 w := by
  intro l J Jx O W hkW hO hJ hJx hY h0
  have hb1 := hkW.heap hb (fun q => q)
  have c1 := cell_of_row W bx 0 _ _ _ hb1
  simp only [List.getElem?_toArray, List.getElem?_cons_zero] at c1
  have hbx := (Array.getElem?_eq_some_iff.1 hb).1
  have c0w := cell_of_row w bx 0 _ _ _ hb
  simp only [List.getElem?_toArray, List.getElem?_cons_zero] at c0w
  have hs' := hs.old
  refine (callsIn_wide (n := 0)).1 ?_
  (refine callsIn_of_wp Tryz.func106 rfl trivial ?_; simp only [Tryz.ntmps106, List.size_toArray, List.length_cons, List.length_nil, Nat.reduceAdd, Nat.reduceSub, Array.replicate_succ, Array.replicate_zero, List.push_toArray, List.append_toArray, List.nil_append, List.cons_append])
  gi_wp2_with fail
  gi_loopw [3] (fun iv wr => ∃ (n k : Nat) (O' : Nat → Prop), iv = .int .i64 n ∧ n ≤ L.length ∧ Hid (runsL (L.drop n) = (runsL L).drop k) ∧ k ≤ (runsL L).length ∧ J k O' wr ∧ (∀ j, O' j → O0 j ∨ w.heap.size ≤ j) ∧ (∀ j, O' j → j < wr.heap.size) ∧ W.heap.size ≤ wr.heap.size ∧ Kept (fun j => O0 j ∨ w.heap.size ≤ j) w wr)
    (fun iv _ => L.length - (intOf iv).toNat)
  case atStart => exact ⟨0, 0, O, rfl, Nat.zero_le _, rfl, Nat.zero_le _, h0, fun j q => (hO j q).1, fun j q => (hO j q).2, Nat.le_refl _, hkW.mono (fun _ _ q => q.elim)⟩
  case round =>
    obtain ⟨n, k, O', rfl, hn, HRR, hkk, hj, hO1, hO2, hsz, hkr⟩ := hrel
    generalize hwo : wr = wo at *
    clear hwo
    have c2 := hkr.cell c0w (show ¬ (O0 bx ∨ w.heap.size ≤ bx) from fun q => by rcases q with q | q; exact hO0 q; omega)
    by_cases hlt : n < L.length
    · obtain ⟨x, hx⟩ : ∃ x, L[n]? = some x := ⟨L[n], List.getElem?_eq_getElem hlt⟩
      have hsr : EdS wo (fun j => O0 j ∨ w.heap.size ≤ j) A L := hs'.kept hkr (fun _ q => q) (fun _ q => q)
      obtain ⟨b, off, B, d, rfl, hb0, x0, x1, x2, hB, hsx, hxl⟩ := hsr n x hx
      have hdr : L.drop n = x :: L.drop (n + 1) := by
        rw [List.drop_eq_getElem_cons hlt]; congr 1; rw [List.getElem?_eq_getElem hlt] at hx; injection hx
      have hrr := HRR.out
      rw [hdr, runs_cons] at hrr
      have HRC := Lib.hid hrr
      have HDR := Lib.hid hdr
      clear hrr hdr
      gi_wp2_with fail
      gi_loopw [3, 5] (fun iv fv wq => ∃ (m : Nat) (pre : List Jp), iv = .int .i64 m ∧ n ≤ m ∧ m ≤ L.length ∧ Hid (pre = ((L.drop n).take (m - n)).map Ed.j) ∧ pre.length = m - n ∧ Hid (∀ y ∈ (L.drop n).take (m - n), y.r = x.r) ∧ New encJ 2 182 wo wq fv pre) (fun iv _ _ => L.length - (intOf iv).toNat)
      case atStart => exact ⟨n, [], rfl, Nat.le_refl _, hn, by unfold Hid; simp, by simp, by unfold Hid; simp, New.mk0 wo⟩
      case round =>
        obtain ⟨m, pre, rfl, hnm, hmL, HPRE, hpl, HALL, hnew⟩ := hrel
        obtain ⟨Af, cf, rfl, _, _⟩ := hnew.shape
        have kq := hnew.kept
        have c3 := kq.cell c2 (fun q => q)
        have HPL := Lib.hid hpl
        have hpb : pre.length ≤ 1048576 := by omega
        clear hpl
        by_cases hml : m < L.length
        · obtain ⟨y, hy⟩ : ∃ y, L[m]? = some y := ⟨L[m], List.getElem?_eq_getElem hml⟩
          obtain ⟨b2, off2, B2, d2, hA2, hb2, y0, y1, y2, hB2, hsy, hyl⟩ := (hsr.same kq) m y hy
          injection hA2 with hA2
          injection hA2 with e1 e2
          subst e1 e2
          have hsame := fun wx (kx : Kept (fun _ => False) wr wx) => rsame_any y.r x.r B2 B d2 d wx ((hsy.kept kx (fun _ q => q.elim) (fun _ q => q)).kept (Kept.refl (fun _ => False) wx) (fun _ q => q.elim) (fun _ q => q.elim)) (((hsx.same kq).same kx).kept (Kept.refl (fun _ => False) wx) (fun _ q => q.elim) (fun _ q => q.elim)) (by unfold maxLen; omega) (by unfold maxLen; omega)
          have hsm := hsame _ (Kept.refl _ _)
          by_cases hyx : y.r = x.r
          · rw [decide_eq_true hyx] at hsm
            have HYX := Lib.hid hyx
            have htk : (L.drop n).take (m + 1 - n) = (L.drop n).take (m - n) ++ [y] := by
              rw [show m + 1 - n = (m - n) + 1 by omega, List.take_add_one, List.getElem?_drop, show n + (m - n) = m by omega, hy]
              rfl
            have HTK := Lib.hid htk
            clear htk
            obtain ⟨yr, ya, yn⟩ := y
            simp only at *
            clear hyx hsame
            gi_wp2_with fail
            refine ⟨trivial, rfl, callsIn_wide.2 (hsm.mono ?_)⟩
            rintro e w2 ⟨rfl, nd, rfl⟩
            gi_wp2_with fail
            have kV := drew_kept wr nd
            have hnV := hnew.same kV
            have c4 := kV.cell c3 (fun q => q)
            have v1 := kV.cell y1 (fun q => q)
            have v2 := kV.cell y2 (fun q => q)
            generalize wr.drewN nd = V at *
            refine wpIn_wide.2 ?_
            go_region_law (refine step_ex rfl _ _ _ _ rfl rfl rfl (New.lit (sz := 2) _ _ (.agg #[.int .i64 0, .int .i64 0]) 16 Tryz.underlying78 (by kernel_rfl) rfl (by decide) encJ_len encJ_one hnV (by first | exact ((Kept.refl _ _).alloc _).drew | exact ((Kept.refl _ _).drew).alloc _) [⟨ya, yn⟩] _ _ (heap_alloc_new _ _) (by simp only [maxLen, List.length_cons, List.length_nil]; omega) (by simp only [List.length_cons, List.length_nil]; omega)) ?_; rintro v' w4 ⟨A', c', rfl, hn4⟩)
            all_goals
              gi_wp2_with fail
              go_roundw
              case rel => exact ⟨m + 1, pre ++ [⟨ya, yn⟩], int_eq (by omega), by omega, by omega, by unfold Hid; rw [HTK.out, HPRE.out, List.map_append]; rfl, by rw [List.length_append, List.length_singleton, HPL.out]; omega, by
                unfold Hid
                rw [HTK.out]
                intro z hz
                rw [List.mem_append, List.mem_singleton] at hz
                rcases hz with hz | rfl
                · exact HALL.out z hz
                · exact HYX.out, hn4⟩
              case measure => simp [intOf]; omega
          · rw [decide_eq_false hyx] at hsm
            have HYX := Lib.hid hyx
            have hmn : n < m := by
              rcases Nat.lt_or_eq_of_le hnm with q | q
              · exact q
              · subst q
                rw [hx] at hy
                injection hy with hy
                subst hy
                exact absurd rfl hyx
            clear hyx hsame
            gi_wp2_with fail
            refine ⟨trivial, rfl, callsIn_wide.2 (hsm.mono ?_)⟩
            rintro e w2 ⟨rfl, nd, rfl⟩
            have htw := tw_at (fun z : Ed => z.r == x.r) (L.drop n) (m - n) (by rw [List.length_drop]; omega) (fun z hz => by simpa using HALL.out z hz) (.inr ⟨y, by rw [List.getElem?_drop, show n + (m - n) = m by omega]; exact hy, by simpa using HYX.out⟩)
            have hr2 := HRC.out
            rw [← HDR.out, htw.1, htw.2, List.drop_drop, show n + (m - n) = m by omega, ← HPRE.out] at hr2
            have hk0 : (runsL L)[k]? = some (x.r, pre) := by
              have := congrArg (fun l => l[0]?) hr2
              simp only [List.getElem?_cons_zero, List.getElem?_drop, Nat.add_zero] at this
              exact this.symm
            have hk1 : runsL (L.drop m) = (runsL L).drop (k + 1) := by
              have := congrArg List.tail hr2
              rw [List.tail_cons, List.tail_drop] at this
              exact this
            have hkl : k < (runsL L).length := (List.getElem?_eq_some_iff.1 hk0).1
            have HK1 := Lib.hid hk1
            have HK0 := Lib.hid hk0
            clear htw hr2 hk0 hk1
            gi_wp2_with fail
            refine ⟨trivial, rfl, callsIn_wide.2 ((rcopy_any x.r B d _ hB (((hsx.same kq).same (drew_kept wr nd)).kept (Kept.refl (fun _ => False) _) (fun _ q => q.elim) (fun _ q => q.elim)) hxl).mono ?_)⟩
            rintro e w3 ⟨vr, rfl, hcp⟩
            have k3 : Kept (fun _ => False) wo w3 := (kq.trans (drew_kept wr nd)).trans hcp.kept
            obtain ⟨Ar, cr, hvr, _, _⟩ := hcp.shape
            have hnf := hnew.row.same ((drew_kept wr nd).trans hcp.kept)
            have hown1 := hcp.own
            have hown2 := hnew.own
            have hrr1 := hcp.row
            subst hvr
            obtain ⟨fn, tmps, assign, body, hy, hR⟩ := hY k (x.r, pre) (.slice Ar x.r.length cr, .slice Af pre.length cf) O' w3 (hJ k O' wo _ _ hj k3 (fun j q => q.elim)) HK0.out ⟨hrr1, hnf⟩ (fun j q => Nat.lt_of_lt_of_le (hO2 j q) k3.size) (Nat.le_trans hsz k3.size)
            dsimp only [encG] at hy
            have hsz2 := k3.size
            have hsz3 := hkr.size
            have hszq := (kq.trans (drew_kept wr nd)).size
            clear hcp hnf hrr1
            gi_wp2_with fail
            refine ⟨rfl, hR.mono ?_⟩
            rintro e Bw (⟨rfl, O2, hj2, hkB, hgr, hltB⟩ | ⟨rfl, O2, hj2, hkB, hgr, hltB⟩)
            · have hk2 : Kept (fun j => O0 j ∨ w.heap.size ≤ j) w Bw := (hkr.trans' (k3.trans' hkB (U := fun j => O0 j ∨ w.heap.size ≤ j) (fun _ _ q => q.elim) (fun j _ q => hO1 j q)) (fun _ _ q => q) (fun _ _ q => q))
              have hgr2 : ∀ j, O2 j → O0 j ∨ w.heap.size ≤ j := fun j q => by
                rcases hgr j q with q | q | q
                · exact hO1 j q
                · exact .inr (by omega)
                · rcases q with q | q
                  · have := hown1 j q; exact .inr (by omega)
                  · have := hown2 j q; exact .inr (by omega)
              have hszB := hkB.size
              gi_wp2_with fail
              go_roundw
              case rel => exact ⟨m, k + 1, O2, rfl, hmL, HK1, hkl, hj2, hgr2, hltB, by omega, hk2⟩
              case measure => simp [intOf]; omega
            · gi_wp2_with fail
              refine bodyPost_ret (results_none rfl _ _ _) rfl ?_
              exact ⟨⟨_, rfl⟩, .inr ⟨k, O2, hkl, hj2⟩⟩
        · have hme : m = L.length := by omega
          have htw := tw_at (fun z : Ed => z.r == x.r) (L.drop n) (m - n) (by rw [List.length_drop]; omega) (fun z hz => by simpa using HALL.out z hz) (.inl (by rw [List.length_drop]; omega))
          have hr2 := HRC.out
          rw [← HDR.out, htw.1, htw.2, List.drop_drop, show n + (m - n) = m by omega, ← HPRE.out] at hr2
          have hk0 : (runsL L)[k]? = some (x.r, pre) := by
            have := congrArg (fun l => l[0]?) hr2
            simp only [List.getElem?_cons_zero, List.getElem?_drop, Nat.add_zero] at this
            exact this.symm
          have hk1 : runsL (L.drop m) = (runsL L).drop (k + 1) := by
            have := congrArg List.tail hr2
            rw [List.tail_cons, List.tail_drop] at this
            exact this
          have hkl : k < (runsL L).length := (List.getElem?_eq_some_iff.1 hk0).1
          have HK1 := Lib.hid hk1
          have HK0 := Lib.hid hk0
          clear htw hr2 hk0 hk1
          gi_wp2_with fail
          refine ⟨trivial, ?_⟩
          gi_wp2_with fail
          refine ⟨trivial, rfl, callsIn_wide.2 ((rcopy_any x.r B d _ hB (((hsx.same kq).same (Kept.refl (fun _ => False) wr)).kept (Kept.refl (fun _ => False) _) (fun _ q => q.elim) (fun _ q => q.elim)) hxl).mono ?_)⟩
          rintro e w3 ⟨vr, rfl, hcp⟩
          have k3 : Kept (fun _ => False) wo w3 := (kq.trans (Kept.refl (fun _ => False) wr)).trans hcp.kept
          obtain ⟨Ar, cr, hvr, _, _⟩ := hcp.shape
          have hnf := hnew.row.same ((Kept.refl (fun _ => False) wr).trans hcp.kept)
          have hown1 := hcp.own
          have hown2 := hnew.own
          have hrr1 := hcp.row
          subst hvr
          obtain ⟨fn, tmps, assign, body, hy, hR⟩ := hY k (x.r, pre) (.slice Ar x.r.length cr, .slice Af pre.length cf) O' w3 (hJ k O' wo _ _ hj k3 (fun j q => q.elim)) HK0.out ⟨hrr1, hnf⟩ (fun j q => Nat.lt_of_lt_of_le (hO2 j q) k3.size) (Nat.le_trans hsz k3.size)
          dsimp only [encG] at hy
          have hsz2 := k3.size
          have hsz3 := hkr.size
          have hszq := (kq.trans (Kept.refl (fun _ => False) wr)).size
          clear hcp hnf hrr1
          gi_wp2_with fail
          refine ⟨rfl, hR.mono ?_⟩
          rintro e Bw (⟨rfl, O2, hj2, hkB, hgr, hltB⟩ | ⟨rfl, O2, hj2, hkB, hgr, hltB⟩)
          · have hk2 : Kept (fun j => O0 j ∨ w.heap.size ≤ j) w Bw := (hkr.trans' (k3.trans' hkB (U := fun j => O0 j ∨ w.heap.size ≤ j) (fun _ _ q => q.elim) (fun j _ q => hO1 j q)) (fun _ _ q => q) (fun _ _ q => q))
            have hgr2 : ∀ j, O2 j → O0 j ∨ w.heap.size ≤ j := fun j q => by
              rcases hgr j q with q | q | q
              · exact hO1 j q
              · exact .inr (by omega)
              · rcases q with q | q
                · have := hown1 j q; exact .inr (by omega)
                · have := hown2 j q; exact .inr (by omega)
            have hszB := hkB.size
            gi_wp2_with fail
            go_roundw
            case rel => exact ⟨m, k + 1, O2, (by rw [hme]), hmL, HK1, hkl, hj2, hgr2, hltB, by omega, hk2⟩
            case measure => simp [intOf]; omega
          · gi_wp2_with fail
            refine bodyPost_ret (results_none rfl _ _ _) rfl ?_
            exact ⟨⟨_, rfl⟩, .inr ⟨k, O2, hkl, hj2⟩⟩
    · have e : n = L.length := by omega
      subst e
      have hrr := HRR.out
      rw [List.drop_length] at hrr
      have hke : k = (runsL L).length := by
        have h0 : (runsL L).drop k = [] := by rw [← hrr]; rfl
        have := List.drop_eq_nil_iff.1 h0
        omega
      subst hke
      gi_wp2_with fail
      go_end0
      exact ⟨⟨_, rfl⟩, .inl ⟨O', hj⟩⟩
end Go.Proofs.YtballmombklalaaGreat

/- edge: each, May. -/
namespace Go.Proofs.YtballmombklalaaGreat
open Go.RowKit
attribute [local go_sem] Oper.semAt_some

/-- Do rows rise, and is each row one, and its function? -/
def riseB : Option (List Wd) → List Wd → Bool
  | none, _ => true
  | some q, r => decide (cmpR q r < 0)
def eachB : List (List Wd × List Jp) → Option (List Wd) → Bool
  | [], _ => true
  | p :: r, last => if (rowB p.1 && (riseB last p.1 && stepMayB p.2)) = true then eachB r (some p.1) else false
def edMay (L : List Ed) : Bool := decide (L.length ≤ 4096) && eachB (runsL L) none

def EachO (n : Nat) (lv : Value) : Nat → Prop := fun j => j = n + 1 ∨ j = n + 1 + 1 ∨ j = n + 1 + 1 + 1 ∨ lv.ownBlock = some j
/-- Between the rounds of each, and behind the one that leaves. -/
def EachI (L : List Ed) (w : World) (R : Bool) (k : Nat) (O : Nat → Prop) (W : World) : Prop :=
  ∃ (last : Option (List Wd)) (lv : Value), O = EachO w.heap.size lv ∧ W.heap[w.heap.size]? = some (.cells #[.func (.func 64) #[] #[]] 143 (0, 0)) ∧ W.heap[w.heap.size + 1]? = some (.cells #[.bool false] 4 (0, 0)) ∧
    W.heap[w.heap.size + 1 + 1]? = some (.cells #[lv] 56 (0, 0)) ∧ W.heap[w.heap.size + 1 + 1 + 1]? = some (.cells #[.bool last.isSome] 4 (0, 0)) ∧ (match last with | none => lv = .slice none 0 0 | some q => Row encW 3 52 W lv q) ∧
    Kept (fun _ => False) w W ∧ eachB ((runsL L).drop k) last = R
def EachX (w : World) (R : Bool) (c : Code) (_ : Nat) (_ : Nat → Prop) (W : World) : Prop :=
  c = .ret ∧ R = false ∧ W.heap[w.heap.size + 1]? = some (.cells #[.bool false] 4 (0, 0)) ∧ Kept (fun _ => False) w W
theorem eachI_stable (L : List Ed) (w : World) (R : Bool) {s : Nat} (hs : w.heap.size + 4 ≤ s) : Stable s (EachI L w R) := by
  rintro k O A B X ⟨last, lv, rfl, h0, h1, h2, h3, h4, h6, h7⟩ hX hXX
  have hx : ∀ j, X j → w.heap.size + 4 ≤ j ∧ lv.ownBlock ≠ some j := fun j q => ⟨by have := (hXX j q).1; omega, fun q2 => (hXX j q).2 (.inr (.inr (.inr q2)))⟩
  refine ⟨last, lv, rfl, hX.heap h0 (fun q => by have := (hx _ q).1; omega), hX.heap h1 (fun q => by have := (hx _ q).1; omega), hX.heap h2 (fun q => by have := (hx _ q).1; omega), hX.heap h3 (fun q => by have := (hx _ q).1; omega), ?_, h6.trans' hX (fun _ _ q => q) (fun j hj q => by have := (hx _ q).1; omega), h7⟩
  cases last with
  | none => exact h4
  | some q => exact Row.kept (S := X) h4 hX (fun g hg q => (hx g q).2 hg)
theorem eachX_stable (w : World) (R : Bool) (c : Code) {s : Nat} (hs : w.heap.size + 4 ≤ s) : Stable s (EachX w R c) := by
  rintro k O A B X ⟨rfl, h0, h1, h2⟩ hX hXX
  exact ⟨rfl, h0, hX.heap h1 (fun q => by have := (hXX _ q).1; omega), h2.trans' hX (fun _ _ q => q) (fun j hj q => by have := (hXX _ q).1; omega)⟩

set_option maxHeartbeats 2000000 in
set_option maxRecDepth 100000 in
theorem each_any (L : List Ed) (A : Option Addr) (c : Nat) (w : World) (hl : L.length ≤ 1048576) (hs : EdS w (fun _ => False) A L) :
    Calls Tryz.prog 63 #[.slice A L.length c, .func (.func 64) #[] #[]] w fun e w' => e = .returned (.bool (edMay L)) ∧ Kept (fun _ => False) w w' := by
  obtain ⟨R, hR⟩ : ∃ R, edMay L = R := ⟨_, rfl⟩
  have HR : Hid _ := Lib.hid hR
  rw [hR]
  clear hR
  have hrn := fun wx => runs_any A L.length c wx
  by_cases h40 : L.length ≤ 4096
  · have b1 : decide ((4096 : Int) < (L.length : Int)) = false := by simp; omega
    have hall : Hid (eachB (runsL L) none = R) := by unfold Hid; rw [← HR.out]; unfold edMay; simp [h40]
    refine calls_marks Tryz.func63 rfl ?_
    simp only [Tryz.ntmps63, List.size_toArray, List.length_cons, List.length_nil, Nat.reduceAdd, Nat.reduceSub, Array.replicate_succ, Array.replicate_zero, List.push_toArray, List.append_toArray, List.nil_append, List.cons_append]
    gi_wp2_with fail
    refine ⟨trivial, rfl, callsIn_wide.2 ((hrn _).mono ?_)⟩
    rintro e w1 ⟨rfl, hbx, k1⟩
    have k0 : Kept (fun _ => False) w ((((w.alloc (.cells #[.func (.func 64) #[] #[]] 143)).alloc (.cells #[.bool false] 4)).alloc (.cells #[.slice none 0 0] 56)).alloc (.cells #[.bool false] 4)) := ((((Kept.refl _ w).alloc _).alloc _).alloc _).alloc _
    have a0 := heap_alloc_new w (.cells #[.func (.func 64) #[] #[]] 143)
    have a1 := heap_alloc_new (w.alloc (.cells #[.func (.func 64) #[] #[]] 143)) (.cells #[.bool false] 4)
    have a2 := heap_alloc_new ((w.alloc (.cells #[.func (.func 64) #[] #[]] 143)).alloc (.cells #[.bool false] 4)) (.cells #[.slice none 0 0] 56)
    have a3 := heap_alloc_new (((w.alloc (.cells #[.func (.func 64) #[] #[]] 143)).alloc (.cells #[.bool false] 4)).alloc (.cells #[.slice none 0 0] 56)) (.cells #[.bool false] 4)
    simp only [World.size_alloc] at a1 a2 a3 hbx
    have b0 := k1.heap (Kept.heap (((Kept.refl (fun _ => False) _).alloc _).alloc _ |>.alloc _) a0 (fun q => q)) (fun q => q)
    have b1' := k1.heap (Kept.heap (((Kept.refl (fun _ => False) _).alloc _).alloc _) a1 (fun q => q)) (fun q => q)
    have b2 := k1.heap (Kept.heap ((Kept.refl (fun _ => False) _).alloc _) a2 (fun q => q)) (fun q => q)
    have b3 := k1.heap a3 (fun q => q)
    have kw1 := k0.trans k1
    have hsz : w.heap.size + 5 ≤ w1.heap.size := (Array.getElem?_eq_some_iff.1 hbx).1
    have hI0 : EachI L w R 0 (EachO w.heap.size (.slice none 0 0)) w1 := ⟨none, _, rfl, b0, b1', b2, b3, rfl, kw1, hall.out⟩
    have hes : EdS w1 (EachO w.heap.size (.slice none 0 0)) A L := by
      refine (hs.old.kept kw1 (fun _ q => q.elim) (fun j q => .inr ?_) : EdS w1 (EachO w.heap.size (.slice none 0 0)) A L)
      rcases q with q | q | q | q
      · omega
      · omega
      · omega
      · cases q
    clear a0 a1 a2 a3 b0 b1' b2 b3 k0 k1
    gi_wp2_with fail
    refine range_wp (gf := 106) (lb := #[.pointer (some ⟨w.heap.size + 1 + 1 + 1 + 1, 0, none⟩)]) rfl (enters_of Tryz.func106 (by kernel_rfl) rfl)
      (runs1_iter (w.heap.size + 1 + 1 + 1 + 1) L A c (EachO w.heap.size (.slice none 0 0)) w1 hbx hl hes (by rintro (q | q | q | q) <;> first | omega | cases q)) (fun _ => rfl) tellG_kept handG_cells
      (EachI L w R) (EachX w R) (eachI_stable L w R (by omega)) (fun cd => eachX_stable w R cd (by omega)) hI0 (by rintro j (q | q | q | q) <;> first | omega | cases q)
      (fun v => { tmps := #[.slice A L.length c, .func (.func 64) #[] #[], undef, .pointer (some ⟨w.heap.size, 0, none⟩), .pointer (some ⟨w.heap.size + 1, 0, none⟩), .pointer (some ⟨w.heap.size + 1 + 1, 0, none⟩), .pointer (some ⟨w.heap.size + 1 + 1 + 1, 0, none⟩), v.1, v.2, .slice A L.length c, .int .i64 L.length, .bool false, .slice A L.length c, .func (.func 106) #[] #[.pointer (some ⟨w.heap.size + 1 + 1 + 1 + 1, 0, none⟩)], v.1, v.2, undef, undef, undef, undef, undef, undef, undef, undef, undef, undef, undef, undef, undef, undef, undef, undef, undef, undef, undef], defers := [] }) ?assign ?body ?done ?stop
    case assign =>
      intro l v W K hK
      unfold encG
      gi_wp2_with fail
      exact hK
    case body =>
      rintro l k p v O A' ⟨last, lv, rfl, h0, h1, h2, h3, h4, h6, h7⟩ hx ⟨hvr, hvf⟩ hlt hsA
      have hkl : k < (runsL L).length := (List.getElem?_eq_some_iff.1 hx).1
      have hdr : (runsL L).drop k = p :: (runsL L).drop (k + 1) := by
        rw [List.drop_eq_getElem_cons hkl]; congr 1; rw [List.getElem?_eq_getElem hkl] at hx; injection hx
      rw [hdr, eachB] at h7
      have exit : ∀ B, Kept (fun _ => False) A' B → R = false → Turn (handG v) (EachO w.heap.size lv) A' (EachX w R .ret k) (B.setCell ⟨w.heap.size + 1, 0, none⟩ (.bool false)) := fun B kB hr => by
        have hb2 := blk_set (kB.heap h1 (fun q => q)) 0 (.bool false)
        have kb := (kB.mono (fun _ _ q => q.elim) : Kept (EachO w.heap.size lv) A' B).setCell (p := ⟨w.heap.size + 1, 0, none⟩) (fun _ => .inl rfl) (.bool false)
        have kb2 := (kB.mono (fun _ _ q => q.elim) : Kept (fun j => j = w.heap.size + 1) A' B).setCell (p := ⟨w.heap.size + 1, 0, none⟩) (fun _ => rfl) (.bool false)
        exact ⟨_, ⟨rfl, hr, hb2, h6.trans' kb2 (fun _ _ q => q) (fun j hj q => by omega)⟩, kb, fun j q => .inl q, fun j q => by have := kb.size; have := hlt j q; omega⟩
      have goon : ∀ B, Kept (fun _ => False) A' B → eachB ((runsL L).drop (k + 1)) (some p.1) = R → Turn (handG v) (EachO w.heap.size lv) A' (EachI L w R (k + 1)) ((B.setCell ⟨w.heap.size + 1 + 1, 0, none⟩ v.1).setCell ⟨w.heap.size + 1 + 1 + 1, 0, none⟩ (.bool true)) := fun B kB hr => by
        have g0 := kB.heap h0 (fun q => q)
        have g1 := kB.heap h1 (fun q => q)
        have g2 := kB.heap h2 (fun q => q)
        have g3 := kB.heap h3 (fun q => q)
        have hvB := hvr.same kB
        have o2 := hvB.other g2 (by decide)
        have o3 := hvB.other g3 (by decide)
        have kb := ((kB.mono (fun _ _ q => q.elim) : Kept (EachO w.heap.size lv) A' B).setCell (p := ⟨w.heap.size + 1 + 1, 0, none⟩) (fun _ => .inr (.inl rfl)) v.1).setCell (p := ⟨w.heap.size + 1 + 1 + 1, 0, none⟩) (fun _ => .inr (.inr (.inl rfl))) (.bool true)
        have kb2 := ((Kept.refl (fun j => j = w.heap.size + 1 + 1 ∨ j = w.heap.size + 1 + 1 + 1) B).setCell (p := ⟨w.heap.size + 1 + 1, 0, none⟩) (fun _ => .inl rfl) v.1).setCell (p := ⟨w.heap.size + 1 + 1 + 1, 0, none⟩) (fun _ => .inr rfl) (.bool true)
        refine ⟨EachO w.heap.size v.1, ⟨some p.1, v.1, rfl, ?_, ?_, ?_, ?_, ?_, ?_, hr⟩, kb, ?_, ?_⟩
        · exact kb2.heap g0 (fun q => by omega)
        · exact kb2.heap g1 (fun q => by omega)
        · exact blk_set_other (blk_set g2 0 v.1) (p := ⟨w.heap.size + 1 + 1 + 1, 0, none⟩) (by simp) _
        · exact blk_set (blk_set_other g3 (p := ⟨w.heap.size + 1 + 1, 0, none⟩) (by simp) v.1) 0 (.bool true)
        · exact hvB.kept kb2 (fun g hg q => by rcases q with q | q; exact o2 (by rw [hg, q]); exact o3 (by rw [hg, q]))
        · exact (h6.trans kB).trans' kb2 (fun _ _ q => q) (fun j hj q => by omega)
        · rintro j (q | q | q | q)
          · exact .inl (.inl q)
          · exact .inl (.inr (.inl q))
          · exact .inl (.inr (.inr (.inl q)))
          · exact .inr (.inr (.inl q))
        · intro j q
          have hsB := kb.size
          have hss := kB.size
          rcases q with q | q | q | q
          · have := (Array.getElem?_eq_some_iff.1 h1).1; omega
          · have := (Array.getElem?_eq_some_iff.1 h2).1; omega
          · have := (Array.getElem?_eq_some_iff.1 h3).1; omega
          · have := hvr.lt j q; omega
      have EX := Lib.hid exit
      have GO := Lib.hid goon
      have H7 := Lib.hid h7
      have c0 := cell_of_row A' w.heap.size 0 _ _ _ h0
      have c1 := cell_of_row A' (w.heap.size + 1) 0 _ _ _ h1
      have c2 := cell_of_row A' (w.heap.size + 1 + 1) 0 _ _ _ h2
      have c3 := cell_of_row A' (w.heap.size + 1 + 1 + 1) 0 _ _ _ h3
      simp only [List.getElem?_toArray, List.getElem?_cons_zero] at c0 c1 c2 c3
      have f1 := frozen_of h1 0
      have f2 := frozen_of h2 0
      have f3 := frozen_of h3 0
      obtain ⟨v1, v2⟩ := v
      obtain ⟨Ar, cr, hv1, hrc, hrm, hsr⟩ := hvr.src encW_len (fun _ => False) (fun _ _ q => q)
      obtain ⟨Af, cf, hv2, hfc, hfm, hsf⟩ := hvf.src encJ_len (fun _ => False) (fun _ _ q => q)
      simp only at hv1 hv2
      subst hv1 hv2
      have hmay := fun wx hx => rowMay_any p.1 Ar cr wx hx (by omega)
      have hstep := fun wx hx => stepMay_any p.2 Af cf wx hx (by omega)
      have CF : ∀ {B : World}, Kept (fun _ => False) A' B → B.cell? ⟨w.heap.size + 1, 0, none⟩ = some (.bool false) ∧ B.frozen? ⟨w.heap.size + 1, 0, none⟩ = false ∧ B.frozen? ⟨w.heap.size + 1 + 1, 0, none⟩ = false ∧ B.frozen? ⟨w.heap.size + 1 + 1 + 1, 0, none⟩ = false := fun kB =>
        ⟨kB.cell c1 (fun q => q), frozen_of (kB.heap h1 (fun q => q)) 0, frozen_of (kB.heap h2 (fun q => q)) 0, frozen_of (kB.heap h3 (fun q => q)) 0⟩
      clear exit goon h7 hdr hx hlt h0 h1 h2 h3 hI0 hes
      cases g1 : rowB p.1 with
      | false =>
        rw [g1] at hmay H7
        have HRF : Hid (R = false) := by have := H7.out; rw [Bool.false_and, if_neg (by simp)] at this; exact this.symm
        clear g1 H7
        gi_wp2_with fail
        refine ⟨trivial, rfl, CallsIn.inRound l (callsIn_wide.2 ((hmay _ hsr).mono ?_))⟩
        rintro e w2 ⟨rfl, k2⟩
        obtain ⟨d1, e1, e2, e3⟩ := CF k2
        gi_wp2_with fail
        · exfalso; rename_i hq _; cases hq
        · exfalso; rename_i hq _; cases hq
        refine ⟨trivial, ?_⟩
        gi_wp2_with fail
        refine ⟨by simp, ?_⟩
        gi_wp2_with fail
        exact EX.out _ k2 HRF.out
      | true =>
        rw [g1] at hmay H7
        clear g1
        cases last with
        | none =>
          have h4' : lv = .slice none 0 0 := h4
          subst h4'
          simp only [Option.isSome_none] at c3
          cases g3 : stepMayB p.2 with
          | false =>
            rw [g3] at hstep H7
            have HRF : Hid (R = false) := by have := H7.out; rw [Bool.and_false, Bool.and_false, if_neg (by simp)] at this; exact this.symm
            clear g3 H7
            gi_wp2_with fail
            refine ⟨trivial, rfl, CallsIn.inRound l (callsIn_wide.2 ((hmay _ hsr).mono ?_))⟩
            rintro e w2 ⟨rfl, k2⟩
            have c3' := k2.cell c3 (fun q => q)
            have c2' := k2.cell c2 (fun q => q)
            have c0' := k2.cell c0 (fun q => q)
            obtain ⟨d1, e1, e2, e3⟩ := CF k2
            gi_wp2_with fail
            refine ⟨trivial, ?_⟩
            have K2 := k2
            have hsf2 := hsf.same K2
            gi_wp2_with fail
            refine ⟨trivial, rfl, CallsIn.inRound l (callsIn_wide.2 ((hstep _ hsf2).mono ?_))⟩
            rintro e w4 ⟨rfl, k4⟩
            have kk := K2.trans k4
            obtain ⟨d1, e1, e2, e3⟩ := CF kk
            have c2' := kk.cell c2 (fun q => q)
            have c3'' := kk.cell c3 (fun q => q)
            gi_wp2_with fail
            exact EX.out _ kk HRF.out
          | true =>
            rw [g3] at hstep H7
            have HRT : Hid (eachB ((runsL L).drop (k + 1)) (some p.1) = R) := by have := H7.out; rw [if_pos (by rfl)] at this; exact this
            clear g3 H7
            gi_wp2_with fail
            refine ⟨trivial, rfl, CallsIn.inRound l (callsIn_wide.2 ((hmay _ hsr).mono ?_))⟩
            rintro e w2 ⟨rfl, k2⟩
            have c3' := k2.cell c3 (fun q => q)
            have c2' := k2.cell c2 (fun q => q)
            have c0' := k2.cell c0 (fun q => q)
            obtain ⟨d1, e1, e2, e3⟩ := CF k2
            gi_wp2_with fail
            refine ⟨trivial, ?_⟩
            have K2 := k2
            have hsf2 := hsf.same K2
            gi_wp2_with fail
            refine ⟨trivial, rfl, CallsIn.inRound l (callsIn_wide.2 ((hstep _ hsf2).mono ?_))⟩
            rintro e w4 ⟨rfl, k4⟩
            have kk := K2.trans k4
            obtain ⟨d1, e1, e2, e3⟩ := CF kk
            have c2' := kk.cell c2 (fun q => q)
            have c3'' := kk.cell c3 (fun q => q)
            gi_wp2_with fail
            exact GO.out _ kk HRT.out
        | some q =>
          have h4' : Row encW 3 52 A' lv q := h4
          obtain ⟨Aq, cq, hq1, hqc, hqm, hsq⟩ := h4'.src encW_len (fun _ => False) (fun _ _ q => q)
          subst hq1
          simp only [Option.isSome_some] at c3
          have hcmp := fun wx hx hy => rcmp_any q p.1 Aq Ar cq cr wx hx hy (by omega) (by omega) hqc hqm
          cases g2 : decide (cmpR q p.1 < 0) with
          | false =>
            have HRF : Hid (R = false) := by
              have := H7.out
              rw [show riseB (some q) p.1 = false from g2, Bool.false_and, Bool.and_false, if_neg (by simp)] at this
              exact this.symm
            have g2' : decide ((0 : Int) ≤ cmpR q p.1) = true := by simp at g2 ⊢; omega
            clear g2 H7 h4 h4'
            generalize cmpR q p.1 = cm at *
            gi_wp2_with fail
            refine ⟨trivial, rfl, CallsIn.inRound l (callsIn_wide.2 ((hmay _ hsr).mono ?_))⟩
            rintro e w2 ⟨rfl, k2⟩
            have c3' := k2.cell c3 (fun q => q)
            have c2' := k2.cell c2 (fun q => q)
            have c0' := k2.cell c0 (fun q => q)
            obtain ⟨d1, e1, e2, e3⟩ := CF k2
            gi_wp2_with fail
            refine ⟨trivial, rfl, CallsIn.inRound l (callsIn_wide.2 ((hcmp _ (hsq.same k2) (hsr.same k2)).mono ?_))⟩
            rintro e w3 ⟨rfl, k3⟩
            have K2 := k2.trans k3
            obtain ⟨d1, e1, e2, e3⟩ := CF K2
            gi_wp2_with fail
            refine ⟨by simp, ?_⟩
            gi_wp2_with fail
            exact EX.out _ K2 HRF.out
          | true =>
            have g2' : decide ((0 : Int) ≤ cmpR q p.1) = false := by simp at g2 ⊢; omega
            have hri : riseB (some q) p.1 = true := g2
            cases g3 : stepMayB p.2 with
            | false =>
              rw [g3] at hstep H7
              have HRF : Hid (R = false) := by have := H7.out; rw [Bool.and_false, Bool.and_false, if_neg (by simp)] at this; exact this.symm
              clear g3 H7 g2 hri h4 h4'
              generalize cmpR q p.1 = cm at *
              gi_wp2_with fail
              refine ⟨trivial, rfl, CallsIn.inRound l (callsIn_wide.2 ((hmay _ hsr).mono ?_))⟩
              rintro e w2 ⟨rfl, k2⟩
              have c3' := k2.cell c3 (fun q => q)
              have c2' := k2.cell c2 (fun q => q)
              have c0' := k2.cell c0 (fun q => q)
              obtain ⟨d1, e1, e2, e3⟩ := CF k2
              gi_wp2_with fail
              refine ⟨trivial, rfl, CallsIn.inRound l (callsIn_wide.2 ((hcmp _ (hsq.same k2) (hsr.same k2)).mono ?_))⟩
              rintro e w3 ⟨rfl, k3⟩
              have K2 := k2.trans k3
              have c0'' := K2.cell c0 (fun q => q)
              have hsf2 := hsf.same K2
              gi_wp2_with fail
              refine ⟨trivial, rfl, CallsIn.inRound l (callsIn_wide.2 ((hstep _ hsf2).mono ?_))⟩
              rintro e w4 ⟨rfl, k4⟩
              have kk := K2.trans k4
              obtain ⟨d1, e1, e2, e3⟩ := CF kk
              have c2' := kk.cell c2 (fun q => q)
              have c3'' := kk.cell c3 (fun q => q)
              gi_wp2_with fail
              exact EX.out _ kk HRF.out
            | true =>
              rw [g3, hri] at H7
              rw [g3] at hstep
              have HRT : Hid (eachB ((runsL L).drop (k + 1)) (some p.1) = R) := by have := H7.out; rw [if_pos (by rfl)] at this; exact this
              clear g3 H7 g2 hri h4 h4'
              generalize cmpR q p.1 = cm at *
              gi_wp2_with fail
              refine ⟨trivial, rfl, CallsIn.inRound l (callsIn_wide.2 ((hmay _ hsr).mono ?_))⟩
              rintro e w2 ⟨rfl, k2⟩
              have c3' := k2.cell c3 (fun q => q)
              have c2' := k2.cell c2 (fun q => q)
              have c0' := k2.cell c0 (fun q => q)
              obtain ⟨d1, e1, e2, e3⟩ := CF k2
              gi_wp2_with fail
              refine ⟨trivial, rfl, CallsIn.inRound l (callsIn_wide.2 ((hcmp _ (hsq.same k2) (hsr.same k2)).mono ?_))⟩
              rintro e w3 ⟨rfl, k3⟩
              have K2 := k2.trans k3
              have c0'' := K2.cell c0 (fun q => q)
              have hsf2 := hsf.same K2
              gi_wp2_with fail
              refine ⟨trivial, rfl, CallsIn.inRound l (callsIn_wide.2 ((hstep _ hsf2).mono ?_))⟩
              rintro e w4 ⟨rfl, k4⟩
              have kk := K2.trans k4
              obtain ⟨d1, e1, e2, e3⟩ := CF kk
              have c2' := kk.cell c2 (fun q => q)
              have c3'' := kk.cell c3 (fun q => q)
              gi_wp2_with fail
              exact GO.out _ kk HRT.out
    case done =>
      rintro D O W ⟨last, lv, rfl, h0, h1, h2, h3, h4, h6, h7⟩ hK hD hDO
      have hRt : true = R := by rw [List.drop_length] at h7; exact h7
      subst hRt
      have c2 := cell_of_row W (w.heap.size + 1) 0 _ _ _ h1
      have f2 := frozen_of h1 0
      simp only [List.getElem?_toArray, List.getElem?_cons_zero] at c2
      have hb2 := blk_set h1 0 (.bool true)
      have kb := (Kept.refl (fun j => j = w.heap.size + 1) W).setCell (p := ⟨w.heap.size + 1, 0, none⟩) (fun _ => rfl) (.bool true)
      have hK2 := kb.heap hK (fun q => hDO (.inl q))
      have kf0 := h6.trans' kb (fun _ _ q => q) (fun j hj q => by omega)
      have kp := (Kept.refl (fun j => j = D) (W.setCell ⟨w.heap.size + 1, 0, none⟩ (.bool true))).putObj D (.deferred none) (fun _ => rfl)
      have y0 := cell_of_row _ (w.heap.size + 1) 0 _ _ _ (kp.heap hb2 (fun q => hDO (.inl q.symm)))
      (try simp only [Array.setIfInBounds, List.size_toArray, List.length_cons, List.length_nil] at y0)
      have kf : Hid (Kept (fun _ => False) w _) := kf0.trans' kp (fun _ _ q => q) (fun j hj q => by have := kw1.size; omega)
      have HK := Lib.hid hK2
      have HY := Lib.hid y0
      clear h0 h1 h2 h3 h4 h6 h7 hb2 kb hK2 kp y0 hK kf0 hDO hI0 hes
      gi_wp2_with fail
      refine ⟨by simp, .inl ⟨_, _, rfl, run_takeDeferred HK.out, _, ?_, rfl, kf⟩⟩
      have hy := HY.out
      simp [results, Tryz.results63, go_sem, hy]
    case stop =>
      rintro D cd k O W hkl ⟨rfl, hr, h1, h6⟩ hK hD hDO
      subst hr
      have kp := (Kept.refl (fun j => j = D) W).putObj D (.deferred none) (fun _ => rfl)
      have y0 := cell_of_row _ (w.heap.size + 1) 0 _ _ _ (kp.heap h1 (fun q => by omega))
      have kf : Hid (Kept (fun _ => False) w _) := h6.trans' kp (fun _ _ q => q) (fun j hj q => by have := kw1.size; omega)
      have HK := Lib.hid hK
      have HY := Lib.hid y0
      clear h6 h1 kp y0 hK hI0 hes
      gi_wp2_with fail
      refine ⟨by simp, .inl ⟨_, _, rfl, run_takeDeferred HK.out, _, ?_, rfl, kf⟩⟩
      have hy := HY.out
      simp [results, Tryz.results63, go_sem, hy]
  · obtain rfl : R = false := by rw [← HR.out]; unfold edMay; simp [h40]
    have b1 : decide ((4096 : Int) < (L.length : Int)) = true := by simp; omega
    refine calls_marks Tryz.func63 rfl ?_
    simp only [Tryz.ntmps63, List.size_toArray, List.length_cons, List.length_nil, Nat.reduceAdd, Nat.reduceSub, Array.replicate_succ, Array.replicate_zero, List.push_toArray, List.append_toArray, List.nil_append, List.cons_append]
    gi_wp2_with fail
    refine ⟨_, ?_, rfl, ((Kept.refl _ w).alloc _).alloc _⟩
    simp [results, Tryz.results63, go_sem]

theorem emay_any (L : List Ed) (A : Option Addr) (c : Nat) (w : World) (hl : L.length ≤ 1048576) (hs : EdS w (fun _ => False) A L) :
    Calls Tryz.prog 28 #[.slice A L.length c] w fun e w' => e = .returned (.bool (edMay L)) ∧ Kept (fun _ => False) w w' := by
  have he := fun wx hx => each_any L A c wx hl hx
  go_enter Tryz.func28, Tryz.ntmps28
  go_wp2_with fail
  refine (he _ hs).mono ?_
  rintro e w1 ⟨rfl, k1⟩
  go_wp2_with fail
  go_ret
  exact ⟨rfl, k1⟩
end Go.Proofs.YtballmombklalaaGreat

/- edge: Same. -/
namespace Go.Proofs.YtballmombklalaaGreat
open Go.RowKit

set_option maxHeartbeats 1000000 in
set_option maxRecDepth 100000 in
theorem same1_any (x y : Ed) (B C : Option Addr) (d e0 : Nat) (w : World) (hx : Src encW 3 w (fun _ => False) B x.r) (hy : Src encW 3 w (fun _ => False) C y.r) (hxl : x.r.length ≤ 1048576) (hyl : y.r.length ≤ 1048576) :
    Calls Tryz.prog 33 #[.agg #[.slice B x.r.length d, .int .i64 x.a, .int .i64 x.n], .agg #[.slice C y.r.length e0, .int .i64 y.a, .int .i64 y.n]] w fun e w' => e = .returned (.bool (decide (x = y))) ∧ Kept (fun _ => False) w w' := by
  have ka := ((Kept.refl (fun _ => False) w).alloc (.cells #[.slice B x.r.length d, .int .i64 x.a, .int .i64 x.n] 84)).alloc (.cells #[.slice C y.r.length e0, .int .i64 y.a, .int .i64 y.n] 84)
  have hsm := fun wx (k : Kept (fun _ => False) w wx) => rsame_any x.r y.r B C d e0 wx (hx.same k) (hy.same k) (by unfold maxLen; omega) (by unfold maxLen; omega)
  have hsm2 := hsm _ ka
  obtain ⟨xr, xa, xn⟩ := x
  obtain ⟨yr, ya, yn⟩ := y
  simp only at *
  clear hsm hx hy
  by_cases g1 : xa = ya
  · subst g1
    have b1 : (xa == xa) = true := by simp
    by_cases g2 : xn = yn
    · subst g2
      have b2 : (xn == xn) = true := by simp
      have hd : decide ((⟨xr, xa, xn⟩ : Ed) = ⟨yr, xa, xn⟩) = decide (xr = yr) := by simp
      rw [hd]
      generalize decide (xr = yr) = z at *
      clear hd
      go_enter Tryz.func33, Tryz.ntmps33
      go_wp2_with fail
      refine hsm2.mono ?_
      rintro e w1 ⟨rfl, n, rfl⟩
      go_wp2_with fail
      go_ret
      exact ⟨rfl, ka.trans (drew_kept _ n)⟩
    · have b2 : (xn == yn) = false := by simpa using g2
      have hd : decide ((⟨xr, xa, xn⟩ : Ed) = ⟨yr, xa, yn⟩) = false := by simp [g2]
      rw [hd]
      clear hd g2 hsm2
      go_enter Tryz.func33, Tryz.ntmps33
      go_wp2_with fail
      go_ret
      exact ⟨rfl, ka⟩
  · have b1 : (xa == ya) = false := by simpa using g1
    have hd : decide ((⟨xr, xa, xn⟩ : Ed) = ⟨yr, ya, yn⟩) = false := by simp [g1]
    rw [hd]
    clear hd g1 hsm2
    go_enter Tryz.func33, Tryz.ntmps33
    go_wp2_with fail
    go_ret
    exact ⟨rfl, ka⟩

set_option maxHeartbeats 1000000 in
set_option maxRecDepth 100000 in
theorem edgesEq_any (L M : List Ed) (A B : Option Addr) (c d : Nat) (w : World) (h : EdS w (fun _ => False) A L) (k : EdS w (fun _ => False) B M) (hl : L.length ≤ maxLen) (hm : M.length ≤ maxLen) :
    Calls Tryz.prog 32 #[.slice A L.length c, .slice B M.length d, .func (.func 33) #[] #[]] w fun e w' => e = .returned (.bool (decide (L = M))) ∧ Kept (fun _ => False) w w' := by
  unfold maxLen at hl hm
  obtain ⟨R, hR⟩ : ∃ R, decide (L = M) = R := ⟨_, rfl⟩
  rw [hR]
  by_cases hlen : L.length = M.length
  · have HR := Lib.hid hR
    have HL := Lib.hid hlen
    have b1 : ((L.length : Int) != (M.length : Int)) = false := by simp [hlen]
    clear hR hlen
    go_enter Tryz.func32, Tryz.ntmps32
    go_wp2_with fail
    go_loopg [17] L.length (fun k iv wr => ∃ n : Nat, n + k = L.length ∧ iv = .int .i64 n ∧ Hid (L.take n = M.take n) ∧ Kept (fun _ => False) w wr)
    case atStart => exact ⟨0, by omega, rfl, by unfold Hid; simp, Kept.refl _ w⟩
    case round =>
      obtain ⟨n, hk, rfl, HT, hkept⟩ := hrel
      by_cases hlt : n < L.length
      · have hltM : n < M.length := by rw [← HL.out]; exact hlt
        obtain ⟨x, hx⟩ : ∃ x, L[n]? = some x := ⟨_, List.getElem?_eq_getElem hlt⟩
        obtain ⟨y, hy⟩ : ∃ y, M[n]? = some y := ⟨_, List.getElem?_eq_getElem hltM⟩
        obtain ⟨b, off, X, dx, rfl, _, x0, x1, x2, _, hsx, hxl⟩ := (h.same hkept) n x hx
        obtain ⟨b', off', Y, dy, rfl, _, y0, y1, y2, _, hsy, hyl⟩ := (k.same hkept) n y hy
        have kaa := ((Kept.refl (fun _ => False) wr).alloc (.cells #[.slice X x.r.length dx, .int .i64 x.a, .int .i64 x.n] 84))
        have y0' := kaa.cell y0 (fun q => q)
        have y1' := kaa.cell y1 (fun q => q)
        have y2' := kaa.cell y2 (fun q => q)
        have kab := kaa.alloc (.cells #[.slice Y y.r.length dy, .int .i64 y.a, .int .i64 y.n] 84)
        have hs1 := same1_any x y X Y dx dy _ (hsx.same kab) (hsy.same kab) hxl hyl
        have htk : L.take (n + 1) = L.take n ++ [x] := by rw [List.take_add_one, hx]; rfl
        have htm : M.take (n + 1) = M.take n ++ [y] := by rw [List.take_add_one, hy]; rfl
        have HA := Lib.hid htk
        have HB := Lib.hid htm
        have HX := Lib.hid hx
        have HY := Lib.hid hy
        clear htk htm hx hy
        cases hxy : decide (x = y) with
        | true =>
          rw [hxy] at hs1
          have HXY := Lib.hid (of_decide_eq_true hxy)
          clear hxy
          go_wp2_with fail
          refine hs1.mono ?_
          rintro e w2 ⟨rfl, k2⟩
          go_wp2_with fail
          go_roundg (gk - 1)
          case measure => omega
          case rel => exact ⟨n + 1, by omega, int_eq (by omega), by unfold Hid; rw [HA.out, HB.out, HT.out, HXY.out], (hkept.trans kab).trans k2⟩
        | false =>
          rw [hxy] at hs1
          have HRF : Hid (R = false) := by
            unfold Hid
            rw [← HR.out]
            simp at hxy
            simp
            intro e
            apply hxy
            have h1 := HX.out
            rw [e, HY.out] at h1
            injection h1 with h1
            exact h1.symm
          clear hxy
          go_wp2_with fail
          refine hs1.mono ?_
          rintro e w2 ⟨rfl, k2⟩
          go_wp2_with fail
          go_ret
          exact ⟨ret_bool HRF.out.symm, (hkept.trans kab).trans k2⟩
      · have e : n = L.length := by omega
        have HRT : Hid (R = true) := by
          unfold Hid
          rw [← HR.out]
          have := HT.out
          rw [e, List.take_length, HL.out, List.take_length] at this
          simp [this]
        clear e
        go_wp2_with fail
        go_ret
        exact ⟨ret_bool HRT.out.symm, hkept⟩
  · have b1 : ((L.length : Int) != (M.length : Int)) = true := by simp; omega
    have hRf : R = false := by rw [← hR]; simp; intro e; exact hlen (by rw [e])
    subst hRf
    clear hR
    go_enter Tryz.func32, Tryz.ntmps32
    go_wp2_with fail
    go_ret
    exact ⟨rfl, Kept.refl _ w⟩

theorem edgeSame_any (L M : List Ed) (A B : Option Addr) (c d : Nat) (w : World) (h : EdS w (fun _ => False) A L) (k : EdS w (fun _ => False) B M) (hl : L.length ≤ maxLen) (hm : M.length ≤ maxLen) :
    Calls Tryz.prog 12 #[.slice A L.length c, .slice B M.length d] w fun e w' => e = .returned (.bool (decide (L = M))) ∧ Kept (fun _ => False) w w' := by
  have he := edgesEq_any L M A B c d w h k hl hm
  go_enter Tryz.func12, Tryz.ntmps12
  go_wp2_with fail
  refine he.mono ?_
  rintro e w1 ⟨rfl, k1⟩
  go_wp2_with fail
  go_ret
  exact ⟨rfl, k1⟩
end Go.Proofs.YtballmombklalaaGreat
