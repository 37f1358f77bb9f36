/- Picked out of the text AE of TopExprs. -/
import Derived.Test.YthkeigljiinlbaaGreatM8
namespace Go.Proofs.YthkeigljiinlbaaGreat
open Go.RowKit
attribute [local go_sem] Oper.semAt_some

/-- A column. -/
structure Cl where
  n : List UInt8
  k : Int
deriving DecidableEq
def encC (x : Cl) : List Value := [.string ⟨⟨x.n⟩⟩, .int .i64 x.k]
theorem encC_len (x : Cl) : (encC x).length = 2 := rfl
theorem Src.cellsC {w : World} {N : Nat → Prop} {A : Option Addr} {L : List Cl} (h : Src encC 2 w N A L) {i : Nat} {o : Cl} (hi : L[i]? = some o) :
    ∃ b off, A = some ⟨b, off, none⟩ ∧ ¬ N b ∧ w.cell? ⟨b, off + i * 2, none⟩ = some (.string ⟨⟨o.n⟩⟩) ∧ w.cell? ⟨b, off + i * 2 + 1, none⟩ = some (.int .i64 o.k) := by
  obtain ⟨b, off, e, hb, hc⟩ := h i o hi
  exact ⟨b, off, e, hb, hc 0 _ rfl, hc 1 _ rfl⟩

theorem names_any (A : Option Addr) (n c : Nat) (w : World) : Calls Tryz.prog 71 #[.slice A n c] w fun e w' =>
    e = .returned (.func (.func 106) #[] #[.pointer (some ⟨w.heap.size, 0, none⟩)]) ∧ w'.heap[w.heap.size]? = some (.cells #[.slice A n c] 28 (0, 0)) ∧ Kept (fun _ => False) w w' := by
  have hmf : ∀ (fn : Fn) (first cap : Array Value) (w : World), (Instr.makeFunc fn first cap).run Tryz.prog w = .ok (.func fn first cap) w := fun _ _ _ _ => rfl
  go_enter Tryz.func71, Tryz.ntmps71
  go_wp2_with fail
  go_ret
  exact ⟨rfl, heap_alloc_new w _, (Kept.refl _ w).alloc _⟩

def encN (v : Nat × List UInt8) : Array Value := #[.int .i64 v.1, .string ⟨⟨v.2⟩⟩]
def tellN (k : Nat) (x : Cl) (v : Nat × List UInt8) (_ : World) : Prop := v = (k, x.n)

set_option maxHeartbeats 1000000 in
theorem names1_iter (bx : Nat) (L : List Cl) (A : Option Addr) (c : Nat) (O0 : Nat → Prop) (w : World) (hb : w.heap[bx]? = some (.cells #[.slice A L.length c] 28 (0, 0))) (hl : L.length ≤ maxLen) (hs : Src encC 2 w O0 A L) (hO0 : ¬ O0 bx) :
    Iter Tryz.prog 106 #[.pointer (some ⟨bx, 0, none⟩)] encN L tellN (fun _ _ => False) O0 w := by
  intro l J Jx O W hkW hO hJ hJx hY h0
  unfold maxLen at hl
  have hb1 := hkW.heap hb (fun q => q)
  have c1 := cell_of_row W bx 0 _ _ _ hb1
  simp only [List.getElem?_toArray, List.getElem?_cons_zero] at c1
  have hs' : Src encC 2 w (fun j => O0 j ∨ w.heap.size ≤ j) A L := by
    intro i x hi
    obtain ⟨b, off, e, hn, hc⟩ := hs i x hi
    have hbl := World.block_lt_of_cell? (w := w) _ (hc 0 _ rfl)
    exact ⟨b, off, e, fun q => by rcases q with q | q; exact hn q; simp only at hbl; omega, hc⟩
  refine (callsIn_wide (n := 0)).1 ?_
  (refine callsIn_of_wp Tryz.func106 rfl trivial ?_; simp only [Tryz.ntmps106, List.size_toArray, List.length_cons, List.length_nil, Nat.reduceAdd, Nat.reduceSub, Array.replicate_succ, Array.replicate_zero, List.push_toArray, List.append_toArray, List.nil_append, List.cons_append])
  gi_wp2_with fail
  gi_loopw [7] (fun iv wr => ∃ (n : Nat) (O' : Nat → Prop), iv = .int .i64 n ∧ n ≤ L.length ∧ J n O' wr ∧ (∀ j, O' j → O0 j ∨ w.heap.size ≤ j) ∧ (∀ j, O' j → j < wr.heap.size) ∧ W.heap.size ≤ wr.heap.size ∧ Kept (fun j => O0 j ∨ w.heap.size ≤ j) w wr)
    (fun iv _ => L.length - (intOf iv).toNat)
  case atStart => exact ⟨0, O, rfl, Nat.zero_le _, h0, fun j q => (hO j q).1, fun j q => (hO j q).2, Nat.le_refl _, hkW.mono (fun _ _ q => q.elim)⟩
  case round =>
    obtain ⟨n, O', rfl, hn, hj, hO1, hO2, hsz, hk⟩ := hrel
    by_cases hlt : n < L.length
    · obtain ⟨x, hx⟩ : ∃ x, L[n]? = some x := ⟨L[n], List.getElem?_eq_getElem hlt⟩
      obtain ⟨b, off, rfl, _, x0, x1⟩ := (hs'.kept hk (fun _ q => q) (fun _ q => q) : Src encC 2 wr (fun j => O0 j ∨ w.heap.size ≤ j) A L).cellsC hx
      obtain ⟨xn, xk⟩ := x
      simp only at x0 x1
      have ka : Kept (fun _ => False) wr (wr.alloc (.cells #[.string ⟨⟨xn⟩⟩, .int .i64 xk] 69)) := (Kept.refl _ wr).alloc _
      obtain ⟨fn, tmps, assign, body, hy, hR⟩ := hY n ⟨xn, xk⟩ (n, xn) O' (wr.alloc (.cells #[.string ⟨⟨xn⟩⟩, .int .i64 xk] 69)) (hJ n O' wr _ _ hj ka (fun j q => q.elim)) hx rfl (fun j q => Nat.lt_of_lt_of_le (hO2 j q) ka.size) (Nat.le_trans hsz ka.size)
      dsimp only [encN] at hy
      have hsz2 := ka.size
      gi_wp2_with fail
      refine ⟨rfl, hR.mono ?_⟩
      rintro e B (⟨rfl, O2, hj2, hkB, hgr, hltB⟩ | ⟨rfl, O2, hj2, hkB, hgr, hltB⟩)
      · have hk2 : Kept (fun j => O0 j ∨ w.heap.size ≤ j) w B := (hk.trans' (ka.trans' hkB (U := fun j => O0 j ∨ w.heap.size ≤ j) (fun _ _ q => q.elim) (fun j _ q => hO1 j q)) (fun _ _ q => q) (fun _ _ q => q))
        have hgr2 : ∀ j, O2 j → O0 j ∨ w.heap.size ≤ j := fun j q => by
          rcases hgr j q with q | q | q
          · exact hO1 j q
          · have := hk.size; exact .inr (by omega)
          · exact q.elim
        have hszB := hkB.size
        gi_wp2_with fail
        go_roundw
        case rel => exact ⟨n + 1, O2, int_eq (by omega), by omega, hj2, hgr2, hltB, by omega, hk2⟩
        case measure => simp [intOf]; omega
      · gi_wp2_with fail
        refine bodyPost_ret (results_none rfl _ _ _) rfl ?_
        exact ⟨⟨_, rfl⟩, .inr ⟨n, O2, hlt, hj2⟩⟩
    · have e : n = L.length := by omega
      subst e
      gi_wp2_with fail
      go_end0
      exact ⟨⟨_, rfl⟩, .inl ⟨O', hj⟩⟩

/-- The first column with a name. -/
def indexC : List Cl → List UInt8 → Nat → Int
  | [], _, _ => -1
  | x :: r, t, n => if x.n = t then (n : Int) else indexC r t (n + 1)
theorem indexC_none : ∀ (L : List Cl) (t : List UInt8) (n : Nat), (∀ (i : Nat) (x : Cl), L[i]? = some x → x.n ≠ t) → indexC L t n = -1
  | [], _, _, _ => rfl
  | x :: r, t, n, h => by
    rw [indexC, if_neg (h 0 x rfl)]
    exact indexC_none r t (n + 1) (fun i y hy => h (i + 1) y (by simpa using hy))
theorem indexC_some : ∀ (L : List Cl) (t : List UInt8) (n k : Nat) (x : Cl), L[k]? = some x → x.n = t → (∀ (i : Nat) (y : Cl), i < k → L[i]? = some y → y.n ≠ t) → indexC L t n = (n + k : Nat)
  | [], _, _, k, x, h, _, _ => by simp at h
  | a :: r, t, n, 0, x, h, ht, _ => by
    simp at h
    subst h
    rw [indexC, if_pos ht]; rfl
  | a :: r, t, n, k + 1, x, h, ht, hb => by
    rw [indexC, if_neg (hb 0 a (by omega) rfl), indexC_some r t (n + 1) k x (by simpa using h) ht (fun i y hi hy => hb (i + 1) y (by omega) (by simpa using hy))]
    omega

/-- Between the rounds of Index, and behind the one that leaves. -/
def IdxI (L : List Cl) (t : List UInt8) (w : World) (k : Nat) (O : Nat → Prop) (W : World) : Prop :=
  O = (fun j => j = w.heap.size + 1) ∧ W.heap[w.heap.size]? = some (.cells #[.string ⟨⟨t⟩⟩] 9 (0, 0)) ∧ W.heap[w.heap.size + 1]? = some (.cells #[.int .i64 0] 3 (0, 0)) ∧ Kept (fun _ => False) w W ∧ ∀ (i : Nat) (y : Cl), i < k → L[i]? = some y → y.n ≠ t
def IdxX (L : List Cl) (t : List UInt8) (w : World) (c : Code) (k : Nat) (_ : Nat → Prop) (W : World) : Prop :=
  c = .ret ∧ W.heap[w.heap.size + 1]? = some (.cells #[.int .i64 k] 3 (0, 0)) ∧ Kept (fun _ => False) w W ∧ (∀ (i : Nat) (y : Cl), i < k → L[i]? = some y → y.n ≠ t) ∧ ∃ x, L[k]? = some x ∧ x.n = t
theorem idxI_stable (L : List Cl) (t : List UInt8) (w : World) {s : Nat} (hs : w.heap.size + 2 ≤ s) : Stable s (IdxI L t w) := by
  rintro k O A B X ⟨rfl, h1, h2, h3, h4⟩ hX hXX
  exact ⟨rfl, hX.heap h1 (fun q => by have := (hXX _ q).1; omega), hX.heap h2 (fun q => by have := (hXX _ q).1; omega), h3.trans' hX (fun _ _ q => q) (fun j hj q => by have := (hXX _ q).1; omega), h4⟩
theorem idxX_stable (L : List Cl) (t : List UInt8) (w : World) (c : Code) {s : Nat} (hs : w.heap.size + 2 ≤ s) : Stable s (IdxX L t w c) := by
  rintro k O A B X ⟨rfl, h2, h3, h4⟩ hX hXX
  exact ⟨rfl, hX.heap h2 (fun q => by have := (hXX _ q).1; omega), h3.trans' hX (fun _ _ q => q) (fun j hj q => by have := (hXX _ q).1; omega), h4⟩

set_option maxHeartbeats 1000000 in
theorem index_any (L : List Cl) (A : Option Addr) (c : Nat) (t : List UInt8) (w : World) (hl : L.length ≤ maxLen) (hs : Src encC 2 w (fun _ => False) A L) :
    Calls Tryz.prog 31 #[.slice A L.length c, .string ⟨⟨t⟩⟩] w fun e w' => e = .returned (.int .i64 (indexC L t 0)) ∧ Kept (fun _ => False) w w' := by
  obtain ⟨R, hR⟩ : ∃ R, indexC L t 0 = R := ⟨_, rfl⟩
  have HR : Hid _ := Lib.hid hR
  rw [hR]
  clear hR
  have hnm := fun wx => names_any A L.length c wx
  refine calls_marks Tryz.func31 rfl ?_
  simp only [Tryz.ntmps31, List.size_toArray, List.length_cons, List.length_nil, Nat.reduceAdd, Nat.reduceSub, Array.replicate_succ, Array.replicate_zero, List.push_toArray, List.append_toArray, List.nil_append, List.cons_append]
  gi_wp2_with fail
  refine ⟨trivial, rfl, callsIn_wide.2 ((hnm _).mono ?_)⟩
  rintro e w1 ⟨rfl, hbx, k1⟩
  have kw1 : Kept (fun _ => False) w w1 := (((Kept.refl (fun _ => False) w).alloc _).alloc _).trans k1
  simp only [World.size_alloc] at hbx
  have hsz : w.heap.size + 3 ≤ w1.heap.size := (Array.getElem?_eq_some_iff.1 hbx).1
  have ht1 : w1.heap[w.heap.size]? = some (.cells #[.string ⟨⟨t⟩⟩] 9 (0, 0)) := k1.heap (Kept.heap ((Kept.refl (fun _ => False) _).alloc _) (heap_alloc_new w _) (fun q => q)) (fun q => q)
  have hr1 : w1.heap[w.heap.size + 1]? = some (.cells #[.int .i64 0] 3 (0, 0)) := by
    have := heap_alloc_new (w.alloc (.cells #[.string ⟨⟨t⟩⟩] 9)) (.cells #[.int .i64 0] 3)
    rw [World.size_alloc] at this
    exact k1.heap this (fun q => q)
  gi_wp2_with fail
  refine range_wp (gf := 106) (lb := #[.pointer (some ⟨w.heap.size + 2, 0, none⟩)]) rfl (enters_of Tryz.func106 (by kernel_rfl) rfl)
    (names1_iter (w.heap.size + 2) L A c (fun j => j = w.heap.size + 1) w1 hbx hl (hs.fresh encC_len (by decide) kw1 (fun j q => by omega)) (by omega)) (fun _ => rfl) (fun k x v A B l h _ _ => h) (fun _ _ _ _ _ _ q => q.elim)
    (IdxI L t w) (IdxX L t w)
    (idxI_stable L t w (by omega)) (fun c => idxX_stable L t w c (by omega)) ⟨rfl, ht1, hr1, kw1, fun i y q => by omega⟩ (fun j q => by omega)
    (fun v => { tmps := #[.slice A L.length c, .string ⟨⟨t⟩⟩, undef, .pointer (some ⟨w.heap.size, 0, none⟩), .pointer (some ⟨w.heap.size + 1, 0, none⟩), .int .i64 v.1, .string ⟨⟨v.2⟩⟩, .slice A L.length c, .func (.func 106) #[] #[.pointer (some ⟨w.heap.size + 2, 0, none⟩)], .int .i64 v.1, .string ⟨⟨v.2⟩⟩, undef, undef, undef, undef], defers := [] }) ?assign ?body ?done ?stop
  case assign =>
    intro l v W K hK
    unfold encN
    gi_wp2_with fail
    exact hK
  case body =>
    rintro l k x v O A ⟨rfl, h1, h2, h3, h4⟩ hx rfl hlt hsA
    have c1 := cell_of_row A w.heap.size 0 _ _ _ h1
    have c2 := cell_of_row A (w.heap.size + 1) 0 _ _ _ h2
    have f2 := frozen_of h2 0
    simp only [List.getElem?_toArray, List.getElem?_cons_zero] at c1 c2
    obtain ⟨xn, xk⟩ := x
    by_cases hxt : xn = t
    · subst hxt
      have hb2 := blk_set h2 0 (.int .i64 k)
      have kb := (Kept.refl (fun j => j = w.heap.size + 1) A).setCell (p := ⟨w.heap.size + 1, 0, none⟩) (fun _ => rfl) (.int .i64 k)
      have HT : Turn (fun _ => False) (fun j => j = w.heap.size + 1) A (IdxX L xn w .ret k) (A.setCell ⟨w.heap.size + 1, 0, none⟩ (.int .i64 k)) :=
        ⟨_, ⟨rfl, hb2, h3.trans' kb (fun _ _ q => q) (fun j hj q => by omega), h4, _, hx, rfl⟩, kb, fun j q => .inl q, fun j q => by have := kb.size; have := hlt j q; omega⟩
      clear h1 h2 h3 h4 hx hlt hb2 kb
      gi_wp2_with fail
      exact HT
    · have hb : (xn == t) = false := by simpa using hxt
      have HT : Turn (fun _ => False) (fun j => j = w.heap.size + 1) A (IdxI L t w (k + 1)) A :=
        ⟨_, ⟨rfl, h1, h2, h3, fun i y hi hy => by
          rcases Nat.lt_or_eq_of_le (Nat.le_of_lt_succ hi) with q | q
          · exact h4 i y q hy
          · subst q; rw [hx] at hy; injection hy with hy; subst hy; exact hxt⟩, Kept.refl _ A, fun j q => .inl q, hlt⟩
      clear h1 h2 h3 h4 hx hlt hxt
      gi_wp2_with fail
      exact HT
  case done =>
    rintro D O W ⟨rfl, h1, h2, h3, h4⟩ hK hD hDO
    have c2 := cell_of_row W (w.heap.size + 1) 0 _ _ _ h2
    have f2 := frozen_of h2 0
    simp only [List.getElem?_toArray, List.getElem?_cons_zero] at c2
    have hb2 := blk_set h2 0 (.int .i64 (-1))
    have kb := (Kept.refl (fun j => j = w.heap.size + 1) W).setCell (p := ⟨w.heap.size + 1, 0, none⟩) (fun _ => rfl) (.int .i64 (-1))
    have hK2 := kb.heap hK (by omega)
    have kf0 := h3.trans' kb (fun _ _ q => q) (fun j hj q => by omega)
    have hv : indexC L t 0 = -1 := indexC_none L t 0 (fun i x hx => h4 i x (List.getElem?_eq_some_iff.1 hx).1 hx)
    obtain rfl : R = -1 := by rw [← HR.out, hv]
    have kp := (Kept.refl (fun j => j = D) (W.setCell ⟨w.heap.size + 1, 0, none⟩ (.int .i64 (-1)))).putObj D (.deferred none) (fun _ => rfl)
    have y0 := cell_of_row _ (w.heap.size + 1) 0 _ _ _ (kp.heap hb2 (fun q => by omega))
    (try simp only [Array.setIfInBounds, List.size_toArray, List.length_cons, List.length_nil] at y0)
    have kf : Hid (Kept (fun _ => False) w _) := kf0.trans' kp (fun _ _ q => q) (fun j hj q => by have := kw1.size; omega)
    have HK := Lib.hid hK2
    have HY := Lib.hid y0
    clear h1 h2 h3 h4 hb2 kb hK2 kp y0 hK hv kf0
    gi_wp2_with fail
    refine ⟨by simp, .inl ⟨_, _, rfl, run_takeDeferred HK.out, _, ?_, rfl, kf⟩⟩
    have hy := HY.out
    simp [results, Tryz.results31, go_sem, hy]
  case stop =>
    rintro D c k O W hkl ⟨rfl, hb2, h3, h4, x, hx, hxt⟩ hK hD _
    have hK2 := hK
    have kf0 := h3
    have hv : indexC L t 0 = k := by rw [indexC_some L t 0 k x hx hxt h4]; omega
    obtain rfl : R = k := by rw [← HR.out, hv]
    have kp := (Kept.refl (fun j => j = D) W).putObj D (.deferred none) (fun _ => rfl)
    have y0 := cell_of_row _ (w.heap.size + 1) 0 _ _ _ (kp.heap hb2 (fun q => by omega))
    (try simp only [Array.setIfInBounds, List.size_toArray, List.length_cons, List.length_nil] at y0)
    have kf : Hid (Kept (fun _ => False) w _) := kf0.trans' kp (fun _ _ q => q) (fun j hj q => by have := kw1.size; omega)
    have HK := Lib.hid hK2
    have HY := Lib.hid y0
    clear h3 h4 hb2 hK2 kp y0 hK hv kf0 hx
    gi_wp2_with fail
    refine ⟨by simp, .inl ⟨_, _, rfl, run_takeDeferred HK.out, _, ?_, rfl, kf⟩⟩
    have hy := HY.out
    simp [results, Tryz.results31, go_sem, hy]

/-- Does p hold of each thing, at its place? -/
def allI {α : Type} (p : Nat → α → Bool) : List α → Nat → Bool
  | [], _ => true
  | x :: r, n => p n x && allI p r (n + 1)
theorem allI_true {α : Type} (p : Nat → α → Bool) : ∀ (L : List α) (n : Nat), (∀ (i : Nat) (x : α), L[i]? = some x → p (n + i) x = true) → allI p L n = true
  | [], _, _ => rfl
  | x :: r, n, h => by
    have h0 : p n x = true := h 0 x rfl
    rw [allI, h0, Bool.true_and]
    exact allI_true p r (n + 1) (fun i y hy => by have := h (i + 1) y (by simpa using hy); rw [show n + (i + 1) = n + 1 + i by omega] at this; exact this)
theorem allI_get {α : Type} (p : Nat → α → Bool) : ∀ (L : List α) (n : Nat), allI p L n = true → ∀ (i : Nat) (x : α), L[i]? = some x → p (n + i) x = true
  | [], _, _, i, x, h => by simp at h
  | y :: r, n, h, i, x, hx => by
    rw [allI, Bool.and_eq_true] at h
    cases i with
    | zero => simp at hx; subst hx; exact h.1
    | succ i => have := allI_get p r (n + 1) h.2 i x (by simpa using hx); rw [show n + (i + 1) = n + 1 + i by omega]; exact this
theorem allI_false {α : Type} (p : Nat → α → Bool) (L : List α) (n i : Nat) (x : α) (hx : L[i]? = some x) (hp : p (n + i) x = false) : allI p L n = false := by
  rw [Bool.eq_false_iff]
  intro h
  rw [allI_get p L n h i x hx] at hp
  cases hp
def colB (L : List Cl) (i : Nat) (x : Cl) : Bool := nameB x.n && (decide (x.k = 1 ∨ x.k = 2) && decide (indexC L x.n 0 = i))
/-- Is it a schema? -/
def schB (L : List Cl) : Bool := decide (1 ≤ L.length ∧ L.length ≤ 8) && allI (colB L) L 0

/-- Between the rounds of May, and behind the one that leaves. -/
def MayI (L : List Cl) (A : Option Addr) (c : Nat) (w : World) (k : Nat) (O : Nat → Prop) (W : World) : Prop :=
  O = (fun j => j = w.heap.size + 1) ∧ W.heap[w.heap.size]? = some (.cells #[.slice A L.length c] 28 (0, 0)) ∧ W.heap[w.heap.size + 1]? = some (.cells #[.bool false] 4 (0, 0)) ∧ Kept (fun _ => False) w W ∧ ∀ (i : Nat) (y : Cl), i < k → L[i]? = some y → colB L i y = true
def MayX (L : List Cl) (w : World) (c : Code) (k : Nat) (_ : Nat → Prop) (W : World) : Prop :=
  c = .ret ∧ W.heap[w.heap.size + 1]? = some (.cells #[.bool false] 4 (0, 0)) ∧ Kept (fun _ => False) w W ∧ ∃ x, L[k]? = some x ∧ colB L k x = false
theorem mayI_stable (L : List Cl) (A : Option Addr) (c : Nat) (w : World) {s : Nat} (hs : w.heap.size + 2 ≤ s) : Stable s (MayI L A c w) := by
  rintro k O A B X ⟨rfl, h1, h2, h3, h4⟩ hX hXX
  exact ⟨rfl, hX.heap h1 (fun q => by have := (hXX _ q).1; omega), hX.heap h2 (fun q => by have := (hXX _ q).1; omega), h3.trans' hX (fun _ _ q => q) (fun j hj q => by have := (hXX _ q).1; omega), h4⟩
theorem mayX_stable (L : List Cl) (w : World) (c : Code) {s : Nat} (hs : w.heap.size + 2 ≤ s) : Stable s (MayX L w c) := by
  rintro k O A B X ⟨rfl, h2, h3, h4⟩ hX hXX
  exact ⟨rfl, hX.heap h2 (fun q => by have := (hXX _ q).1; omega), h3.trans' hX (fun _ _ q => q) (fun j hj q => by have := (hXX _ q).1; omega), h4⟩

set_option maxHeartbeats 2000000 in
theorem smay_any (L : List Cl) (A : Option Addr) (c : Nat) (w : World) (hl : L.length ≤ maxLen) (hs : Src encC 2 w (fun _ => False) A L) :
    Calls Tryz.prog 64 #[.slice A L.length c] w fun e w' => e = .returned (.bool (schB L)) ∧ Kept (fun _ => False) w w' := by
  obtain ⟨R, hR⟩ : ∃ R, schB L = R := ⟨_, rfl⟩
  have HR : Hid _ := Lib.hid hR
  rw [hR]
  clear hR
  have hl' := hl
  unfold maxLen at hl'
  have hnm := fun wx => names_any A L.length c wx
  by_cases h18 : 1 ≤ L.length ∧ L.length ≤ 8
  · obtain ⟨h1, h8⟩ := h18
    have b1 : decide ((L.length : Int) < 1) = false := by simp; omega
    have b2 : decide ((8 : Int) < (L.length : Int)) = false := by simp; omega
    have hall : Hid (R = allI (colB L) L 0) := by unfold Hid; rw [← HR.out]; unfold schB; simp [h1, h8]
    refine calls_marks Tryz.func64 rfl ?_
    simp only [Tryz.ntmps64, List.size_toArray, List.length_cons, List.length_nil, Nat.reduceAdd, Nat.reduceSub, Array.replicate_succ, Array.replicate_zero, List.push_toArray, List.append_toArray, List.nil_append, List.cons_append]
    gi_wp2_with fail
    refine ⟨trivial, rfl, callsIn_wide.2 ((hnm _).mono ?_)⟩
    rintro e w1 ⟨rfl, hbx, k1⟩
    have kw1 : Kept (fun _ => False) w w1 := (((Kept.refl (fun _ => False) w).alloc _).alloc _).trans k1
    simp only [World.size_alloc] at hbx
    have hsz : w.heap.size + 3 ≤ w1.heap.size := (Array.getElem?_eq_some_iff.1 hbx).1
    have ht1 : w1.heap[w.heap.size]? = some (.cells #[.slice A L.length c] 28 (0, 0)) := k1.heap (Kept.heap ((Kept.refl (fun _ => False) _).alloc _) (heap_alloc_new w _) (fun q => q)) (fun q => q)
    have hr1 : w1.heap[w.heap.size + 1]? = some (.cells #[.bool false] 4 (0, 0)) := by
      have := heap_alloc_new (w.alloc (.cells #[.slice A L.length c] 28)) (.cells #[.bool false] 4)
      rw [World.size_alloc] at this
      exact k1.heap this (fun q => q)
    gi_wp2_with fail
    refine range_wp (gf := 106) (lb := #[.pointer (some ⟨w.heap.size + 2, 0, none⟩)]) rfl (enters_of Tryz.func106 (by kernel_rfl) rfl)
      (names1_iter (w.heap.size + 2) L A c (fun j => j = w.heap.size + 1) w1 hbx hl (hs.fresh encC_len (by decide) kw1 (fun j q => by omega)) (by omega)) (fun _ => rfl) (fun k x v A B l h _ _ => h) (fun _ _ _ _ _ _ q => q.elim)
      (MayI L A c w) (MayX L w) (mayI_stable L A c w (by omega)) (fun cd => mayX_stable L w cd (by omega)) ⟨rfl, ht1, hr1, kw1, fun i y q => by omega⟩ (fun j q => by omega)
      (fun v => { tmps := #[.slice A L.length c, .pointer (some ⟨w.heap.size, 0, none⟩), .pointer (some ⟨w.heap.size + 1, 0, none⟩), .int .i64 v.1, .string ⟨⟨v.2⟩⟩, .slice A L.length c, .int .i64 L.length, .bool false, .bool false, .slice A L.length c, .int .i64 L.length, .bool false, .bool false, .slice A L.length c, .func (.func 106) #[] #[.pointer (some ⟨w.heap.size + 2, 0, none⟩)], .int .i64 v.1, .string ⟨⟨v.2⟩⟩, undef, undef, undef, undef, undef, undef, undef, undef, undef, undef, undef, undef, undef, undef, undef, undef, undef, undef, undef], defers := [] }) ?assign ?body ?done ?stop
    case assign =>
      intro l v W K hK
      unfold encN
      gi_wp2_with fail
      exact hK
    case body =>
      rintro l k x v O A' ⟨rfl, h1', h2, h3, h4⟩ hx rfl hlt hsA
      have c1 := cell_of_row A' w.heap.size 0 _ _ _ h1'
      have c2 := cell_of_row A' (w.heap.size + 1) 0 _ _ _ h2
      have f2 := frozen_of h2 0
      simp only [List.getElem?_toArray, List.getElem?_cons_zero] at c1 c2
      have hkl : k < L.length := (List.getElem?_eq_some_iff.1 hx).1
      obtain ⟨b, off, rfl, _, x0, x1⟩ := (hs.same h3).cellsC hx
      have hnm2 := fun wx => name_any x.n wx
      have hkd := fun wx => kind_any x.k wx
      have hix := fun wx hw => index_any L (some ⟨b, off, none⟩) c x.n wx hl hw
      have hsA' := hs.same h3
      have hcol : colB L k x = (nameB x.n && (decide (x.k = 1 ∨ x.k = 2) && decide (indexC L x.n 0 = k))) := rfl
      have exit : ∀ B, Kept (fun _ => False) A' B → colB L k x = false → Turn (fun _ => False) (fun j => j = w.heap.size + 1) A' (MayX L w .ret k) (B.setCell ⟨w.heap.size + 1, 0, none⟩ (.bool false)) := fun B kB hc => by
        have hb2 := blk_set (kB.heap h2 (fun q => q)) 0 (.bool false)
        have kb := (kB.mono (fun _ _ q => q.elim) : Kept (fun j => j = w.heap.size + 1) A' B).setCell (p := ⟨w.heap.size + 1, 0, none⟩) (fun _ => rfl) (.bool false)
        exact ⟨_, ⟨rfl, hb2, h3.trans' kb (fun _ _ q => q) (fun j hj q => by omega), x, hx, hc⟩, kb, fun j q => .inl q, fun j q => by have := kb.size; have := hlt j q; omega⟩
      have goon : ∀ B, Kept (fun _ => False) A' B → colB L k x = true → Turn (fun _ => False) (fun j => j = w.heap.size + 1) A' (MayI L (some ⟨b, off, none⟩) c w (k + 1)) B := fun B kB hc =>
        ⟨_, ⟨rfl, kB.heap h1' (fun q => q), kB.heap h2 (fun q => q), h3.trans kB, fun i y hi hy => by
          rcases Nat.lt_or_eq_of_le (Nat.le_of_lt_succ hi) with q | q
          · exact h4 i y q hy
          · subst q; rw [hx] at hy; injection hy with hy; subst hy; exact hc⟩, kB.mono (fun _ _ q => q.elim), fun j q => .inl q, fun j q => Nat.lt_of_lt_of_le (hlt j q) kB.size⟩
      have EX := Lib.hid exit
      have GO := Lib.hid goon
      obtain ⟨xn, xk⟩ := x
      simp only at x0 x1 hnm2 hkd hix hcol
      have hkl' : (k : Int) < (L.length : Int) := by omega
      clear exit goon h4 hx hlt h1'
      cases g1 : nameB xn with
      | false =>
        rw [g1] at hnm2 hcol
        have HC := Lib.hid hcol
        clear hcol g1
        gi_wp2_with fail
        refine ⟨trivial, rfl, CallsIn.inRound l (callsIn_wide.2 ((hnm2 _).mono ?_))⟩
        rintro e w2 ⟨rfl, rfl⟩
        gi_wp2_with fail
        refine ⟨trivial, ?_⟩
        gi_wp2_with fail
        refine ⟨trivial, ?_⟩
        gi_wp2_with fail
        exact EX.out _ (Kept.refl _ _) HC.out
      | true =>
        rw [g1, Bool.true_and] at hcol
        rw [g1] at hnm2
        cases g2 : decide (xk = 1 ∨ xk = 2) with
        | false =>
          rw [g2] at hkd hcol
          have HC := Lib.hid hcol
          clear hcol g1 g2
          gi_wp2_with fail
          refine ⟨trivial, rfl, CallsIn.inRound l (callsIn_wide.2 ((hnm2 _).mono ?_))⟩
          rintro e w2 ⟨rfl, rfl⟩
          gi_wp2_with fail
          refine ⟨trivial, rfl, CallsIn.inRound l (callsIn_wide.2 ((hkd _).mono ?_))⟩
          rintro e w2 ⟨rfl, rfl⟩
          gi_wp2_with fail
          refine ⟨trivial, ?_⟩
          gi_wp2_with fail
          exact EX.out _ (Kept.refl _ _) HC.out
        | true =>
          rw [g2, Bool.true_and] at hcol
          rw [g2] at hkd
          by_cases g3 : indexC L xn 0 = k
          · rw [decide_eq_true g3] at hcol
            have HC := Lib.hid hcol
            rw [g3] at hix
            clear hcol g1 g2 g3
            gi_wp2_with fail
            refine ⟨trivial, rfl, CallsIn.inRound l (callsIn_wide.2 ((hnm2 _).mono ?_))⟩
            rintro e w2 ⟨rfl, rfl⟩
            gi_wp2_with fail
            refine ⟨trivial, rfl, CallsIn.inRound l (callsIn_wide.2 ((hkd _).mono ?_))⟩
            rintro e w2 ⟨rfl, rfl⟩
            gi_wp2_with fail
            refine ⟨trivial, rfl, CallsIn.inRound l (callsIn_wide.2 ((hix _ hsA').mono ?_))⟩
            rintro e w3 ⟨rfl, k3⟩
            gi_wp2_with fail
            exact GO.out _ k3 HC.out
          · rw [decide_eq_false g3] at hcol
            have HC := Lib.hid hcol
            have g4 : (indexC L xn 0 == (k : Int)) = false := by simpa using g3
            have g5 : (indexC L xn 0 != (k : Int)) = true := by simpa using g3
            generalize indexC L xn 0 = ix at *
            clear hcol g1 g2 g3
            gi_wp2_with fail
            refine ⟨trivial, rfl, CallsIn.inRound l (callsIn_wide.2 ((hnm2 _).mono ?_))⟩
            rintro e w2 ⟨rfl, rfl⟩
            gi_wp2_with fail
            refine ⟨trivial, rfl, CallsIn.inRound l (callsIn_wide.2 ((hkd _).mono ?_))⟩
            rintro e w2 ⟨rfl, rfl⟩
            gi_wp2_with fail
            refine ⟨trivial, rfl, CallsIn.inRound l (callsIn_wide.2 ((hix _ hsA').mono ?_))⟩
            rintro e w3 ⟨rfl, k3⟩
            have c3 := k3.cell c2 (fun q => q)
            have f3 := frozen_of (k3.heap h2 (fun q => q)) 0
            gi_wp2_with fail
            exact EX.out _ k3 HC.out
    case done =>
      rintro D O W ⟨rfl, h1', h2, h3, h4⟩ hK hD hDO
      have c2 := cell_of_row W (w.heap.size + 1) 0 _ _ _ h2
      have f2 := frozen_of h2 0
      simp only [List.getElem?_toArray, List.getElem?_cons_zero] at c2
      have hb2 := blk_set h2 0 (.bool true)
      have kb := (Kept.refl (fun j => j = w.heap.size + 1) W).setCell (p := ⟨w.heap.size + 1, 0, none⟩) (fun _ => rfl) (.bool true)
      have hK2 := kb.heap hK (by omega)
      have kf0 := h3.trans' kb (fun _ _ q => q) (fun j hj q => by omega)
      have hv : allI (colB L) L 0 = true := allI_true _ L 0 (fun i x hx => by rw [Nat.zero_add]; exact h4 i x (List.getElem?_eq_some_iff.1 hx).1 hx)
      obtain rfl : R = true := by rw [hall.out, hv]
      have kp := (Kept.refl (fun j => j = D) (W.setCell ⟨w.heap.size + 1, 0, none⟩ (.bool true))).putObj D (.deferred none) (fun _ => rfl)
      have y0 := cell_of_row _ (w.heap.size + 1) 0 _ _ _ (kp.heap hb2 (fun q => by omega))
      (try simp only [Array.setIfInBounds, List.size_toArray, List.length_cons, List.length_nil] at y0)
      have kf : Hid (Kept (fun _ => False) w _) := kf0.trans' kp (fun _ _ q => q) (fun j hj q => by have := kw1.size; omega)
      have HK := Lib.hid hK2
      have HY := Lib.hid y0
      clear h1' h2 h3 h4 hb2 kb hK2 kp y0 hK hv kf0
      gi_wp2_with fail
      refine ⟨by simp, .inl ⟨_, _, rfl, run_takeDeferred HK.out, _, ?_, rfl, kf⟩⟩
      have hy := HY.out
      simp [results, Tryz.results64, go_sem, hy]
    case stop =>
      rintro D cd k O W hkl ⟨rfl, hb2, h3, x, hx, hxc⟩ hK hD _
      obtain rfl : R = false := by rw [hall.out, allI_false (colB L) L 0 k x hx (by rw [Nat.zero_add]; exact hxc)]
      have kp := (Kept.refl (fun j => j = D) W).putObj D (.deferred none) (fun _ => rfl)
      have y0 := cell_of_row _ (w.heap.size + 1) 0 _ _ _ (kp.heap hb2 (fun q => by omega))
      have kf : Hid (Kept (fun _ => False) w _) := h3.trans' kp (fun _ _ q => q) (fun j hj q => by have := kw1.size; omega)
      have HK := Lib.hid hK
      have HY := Lib.hid y0
      clear h3 hb2 kp y0 hK hx
      gi_wp2_with fail
      refine ⟨by simp, .inl ⟨_, _, rfl, run_takeDeferred HK.out, _, ?_, rfl, kf⟩⟩
      have hy := HY.out
      simp [results, Tryz.results64, go_sem, hy]
  · obtain rfl : R = false := by rw [← HR.out]; unfold schB; simp only [h18]; rfl
    have fin : ∀ v : Value, True := fun _ => trivial
    by_cases h1 : L.length < 1
    · have b1 : decide ((L.length : Int) < 1) = true := by simp; omega
      refine calls_marks Tryz.func64 rfl ?_
      simp only [Tryz.ntmps64, List.size_toArray, List.length_cons, List.length_nil, Nat.reduceAdd, Nat.reduceSub, Array.replicate_succ, Array.replicate_zero, List.push_toArray, List.append_toArray, List.nil_append, List.cons_append]
      gi_wp2_with fail
      refine ⟨_, ?_, rfl, ((Kept.refl _ w).alloc _).alloc _⟩
      simp [results, Tryz.results64, go_sem]
    · have b1 : decide ((L.length : Int) < 1) = false := by simp; omega
      have b2 : decide ((8 : Int) < (L.length : Int)) = true := by simp; omega
      refine calls_marks Tryz.func64 rfl ?_
      simp only [Tryz.ntmps64, List.size_toArray, List.length_cons, List.length_nil, Nat.reduceAdd, Nat.reduceSub, Array.replicate_succ, Array.replicate_zero, List.push_toArray, List.append_toArray, List.nil_append, List.cons_append]
      gi_wp2_with fail
      refine ⟨_, ?_, rfl, ((Kept.refl _ w).alloc _).alloc _⟩
      simp [results, Tryz.results64, go_sem]
end Go.Proofs.YthkeigljiinlbaaGreat

/- Picked out of the text AF of TopExprs. -/
namespace Go.Proofs.YthkeigljiinlbaaGreat
open Go.RowKit

/-- The next token's text, if it is a name or a sign. -/
def nextS : List Tok → List UInt8
  | [] => []
  | t :: _ => if t.k = 1 ∨ t.k = 4 then t.t else []
abbrev PR := Except Int (List Wd × List Tok)
end Go.Proofs.YthkeigljiinlbaaGreat
