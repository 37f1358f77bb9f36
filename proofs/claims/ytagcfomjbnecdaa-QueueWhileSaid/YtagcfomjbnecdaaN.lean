/- The reference's first and Peek. -/
import Derived.Test.YtagcfomjbnecdaaK
namespace Go.Proofs.Ytagcfomjbnecdaa
open Go.RowKit

/-- The reference's queue in block r. -/
structure RM (w : World) (r : Nat) (vL : Value) (L : List J) : Prop where
  blk : w.heap[r]? = some (.cells #[vL] 32 (0, 0))
  row : JR w vL L
theorem JR.other {w : World} {v : Value} {H : List J} (h : JR w v H) {c : Nat} {cs : Array Value} {T : TypeId} (hc : w.heap[c]? = some (.cells cs T (0, 0))) (hT : T ≠ 27) : v.ownBlock ≠ some c := by
  intro he
  rcases h.2 with ⟨rfl, _⟩ | ⟨g, cap, cur, rfl, _, hg, _⟩
  · cases he
  · simp [Value.ownBlock] at he
    subst he
    rw [hg] at hc
    injection hc with hc
    injection hc with _ h2 _
    exact hT h2.symm
theorem RM.c0 {w : World} {r : Nat} {vL : Value} {L : List J} (h : RM w r vL L) : w.cell? ⟨r, 0, none⟩ = some vL := by rw [cell_of_row w r 0 _ 32 (0, 0) h.blk]; rfl
theorem RM.lt {w : World} {r : Nat} {vL : Value} {L : List J} (h : RM w r vL L) : r < w.heap.size := (Array.getElem?_eq_some_iff.1 h.blk).1
theorem RM.ownlt {w : World} {r : Nat} {vL : Value} {L : List J} (h : RM w r vL L) {j : Nat} (hj : Own r vL j) : j < w.heap.size := by
  rcases hj with q | q
  · have := h.lt; omega
  · exact (World.ownsRow.lt h.row j q).2
theorem RM.kept {S : Nat → Prop} {w w' : World} {r : Nat} {vL : Value} {L : List J} (h : RM w r vL L) (k : Kept S w w') (hn : ∀ j, Own r vL j → ¬ S j) : RM w' r vL L :=
  ⟨k.heap h.blk (hn r (.inl rfl)), h.row.kept k (fun j hj => hn j (.inr hj))⟩

theorem gj_take {L : List J} {k i : Nat} (h : i < k) : gj (L.take k) i = gj L i := by
  unfold gj
  rw [List.getD_eq_getElem?_getD, List.getD_eq_getElem?_getD, List.getElem?_take, if_pos h]
theorem first_one {L : List J} (h : 0 < L.length) : IsFirst (L.take 1) 0 := by
  refine ⟨by rw [List.length_take]; omega, fun j hj => absurd hj (by omega), fun j hj => ?_⟩
  rw [List.length_take] at hj
  have : j = 0 := by omega
  subst this
  exact Int.le_refl _
theorem first_yes {L : List J} {k m : Nat} (h : IsFirst (L.take k) m) (hk : k < L.length) (hlt : (gj L k).1 < (gj L m).1) : IsFirst (L.take (k + 1)) k := by
  obtain ⟨h1, h2, h3⟩ := h
  rw [List.length_take] at h1 h3
  have hl : (L.take (k + 1)).length = k + 1 := by rw [List.length_take]; omega
  have all : ∀ j, j < k → (gj L m).1 ≤ (gj L j).1 := fun j hj => by
    have := h3 j (by omega)
    rw [gj_take (by omega), gj_take hj] at this
    exact this
  refine ⟨by omega, fun j hj => ?_, fun j hj => ?_⟩
  · rw [gj_take (by omega), gj_take (by omega)]
    have := all j hj
    omega
  · rw [hl] at hj
    rw [gj_take (by omega), gj_take hj]
    rcases Nat.lt_or_ge j k with q | q
    · have := all j q
      omega
    · have : j = k := by omega
      subst this
      exact Int.le_refl _
theorem first_no {L : List J} {k m : Nat} (h : IsFirst (L.take k) m) (hk : k < L.length) (hlt : ¬ (gj L k).1 < (gj L m).1) : IsFirst (L.take (k + 1)) m := by
  obtain ⟨h1, h2, h3⟩ := h
  rw [List.length_take] at h1 h3
  have hl : (L.take (k + 1)).length = k + 1 := by rw [List.length_take]; omega
  have hmk : m < k := by omega
  refine ⟨by omega, fun j hj => ?_, fun j hj => ?_⟩
  · have := h2 j hj
    rw [gj_take hmk, gj_take (by omega)] at this
    rw [gj_take (by omega), gj_take (by omega)]
    exact this
  · rw [hl] at hj
    rw [gj_take (by omega), gj_take hj]
    rcases Nat.lt_or_ge j k with q | q
    · have := h3 j (by omega)
      rw [gj_take hmk, gj_take q] at this
      exact this
    · have : j = k := by omega
      subst this
      omega

/-- The place of the first one, or -1. -/
def fstI (L : List J) : Int := if L = [] then -1 else fst L

theorem ret_int {a b : Int} (h : a = b) : Ending.returned (.int .i64 a) = .returned (.int .i64 b) := by rw [h]
theorem drew_kept (w : World) (n : Nat) : Kept (fun _ => False) w (w.drewN n) := (Kept.refl _ w).drewN n

set_option maxHeartbeats 2000000 in
theorem rfirst_any (w : World) (r : Nat) (vL : Value) (L : List J) (h : RM w r vL L) (hm : L.length ≤ 1000000) :
    Calls Try.prog 20 #[.pointer (some ⟨r, 0, none⟩)] w fun e w' => e = .returned (.int .i64 (fstI L)) ∧ ∃ n, w' = w.drewN n := by
  have c0 := h.c0
  obtain ⟨A, cap, rfl, hcap, _⟩ := h.row.shape
  go_enter Try.func20, Try.ntmps20
  go_wp2
  go_loopw [3, 4] (fun a i wr => ∃ k n : Nat, k ≤ L.length ∧ i = .int .i64 k ∧ wr = w.drewN n ∧ ((k = 0 ∧ a = .int .i64 (-1)) ∨ ∃ m : Nat, a = .int .i64 m ∧ IsFirst (L.take k) m)) (fun _ i _ => L.length - (intOf i).toNat)
  case atStart => exact ⟨0, 0, Nat.zero_le _, rfl, rfl, .inl ⟨rfl, rfl⟩⟩
  case round =>
    obtain ⟨k, n, hk, rfl, rfl, hc⟩ := hrel
    by_cases hlt : k < L.length
    · have hne : L ≠ [] := fun e => by subst e; simp at hlt
      obtain ⟨b, cap', hv, _, _, _, hcell⟩ := h.row.cells hne
      injection hv with hv1 _ hv3
      subst hv1 hv3
      obtain ⟨x0, x1⟩ := hcell k hlt
      have hki : (k : Int) < (L.length : Int) := by omega
      rcases hc with ⟨rfl, rfl⟩ | ⟨m, rfl, hF⟩
      · clear hcell
        go_wp2
        go_quiet (fail)
        go_wp2
        go_roundw
        case rel => exact ⟨1, n + nq, by omega, rfl, rfl, .inr ⟨0, rfl, first_one hlt⟩⟩
        case measure => simp [intOf]; omega
      · have hml := hF.1
        rw [List.length_take] at hml
        obtain ⟨y0, y1⟩ := hcell m (by omega)
        have hmi : (m : Int) < (L.length : Int) := by omega
        clear hcell
        by_cases hl : (gj L k).1 < (gj L m).1
        · go_wp2
          go_quiet (fail)
          go_wp2
          go_roundw
          case rel => exact ⟨k + 1, n + nq, by omega, by go_num, rfl, .inr ⟨k, rfl, first_yes hF hlt (by omega)⟩⟩
          case measure => simp [intOf]; omega
        · go_wp2
          go_quiet (fail)
          go_wp2
          go_roundw
          case rel => exact ⟨k + 1, n + nq, by omega, by go_num, rfl, .inr ⟨m, rfl, first_no hF hlt (by omega)⟩⟩
          case measure => simp [intOf]; omega
    · have hkl : k = L.length := by omega
      rcases hc with ⟨rfl, rfl⟩ | ⟨m, rfl, hF⟩
      · have hL : L = [] := List.eq_nil_of_length_eq_zero hkl.symm
        have hv : fstI L = -1 := by unfold fstI; rw [if_pos hL]
        clear hkl hL
        go_wp2
        go_ret
        exact ⟨ret_int hv.symm, n, rfl⟩
      · rw [hkl, List.take_length] at hF
        have hne : L ≠ [] := fun e => by subst e; have := hF.1; simp at this
        have hv : fstI L = m := by unfold fstI; rw [if_neg hne, (fst_first hne).uniq hF]
        clear hkl hF hne
        go_wp2
        go_ret
        exact ⟨ret_int hv.symm, n, rfl⟩

theorem rpeek_nil (w : World) (r : Nat) (vL : Value) (h : RM w r vL []) :
    Calls Try.prog 13 #[.pointer (some ⟨r, 0, none⟩)] w fun e w' => e = .returned (.tuple #[.agg #[.int .i64 0, .int .i64 0], .bool false]) ∧ Kept (fun _ => False) w w' := by
  have kA : Kept (fun _ => False) w (w.alloc (.cells #[.int .i64 0, .int .i64 0] 27)) := (Kept.refl _ w).alloc _
  have hf := rfirst_any _ r vL [] (h.kept kA (fun _ _ q => q)) (by simp)
  have hv : fstI [] = -1 := rfl
  rw [hv] at hf
  go_enter Try.func13, Try.ntmps13
  go_wp2_with fail
  refine hf.mono ?_
  rintro e w2 ⟨rfl, n, rfl⟩
  go_wp2_with fail
  refine bodyPost_ret (v := .tuple #[.agg #[.int .i64 0, .int .i64 0], .bool false]) (by simp [results, Try.results13, go_sem]) rfl ⟨rfl, ?_⟩
  exact ((kA.drewN n).setCell (p := ⟨w.heap.size, 0, none⟩) (fun q => absurd q (Nat.lt_irrefl _)) _).setCell (p := ⟨w.heap.size, 1, none⟩) (fun q => absurd q (Nat.lt_irrefl _)) _

set_option maxHeartbeats 1000000 in
theorem rpeek_some (w : World) (r : Nat) (vL : Value) (L : List J) (h : RM w r vL L) (hn : L ≠ []) (hm : L.length ≤ 1000) :
    Calls Try.prog 13 #[.pointer (some ⟨r, 0, none⟩)] w fun e w' => e = .returned (.tuple #[.agg #[.int .i64 (gj L (fst L)).1, .int .i64 (gj L (fst L)).2], .bool true]) ∧ Kept (fun _ => False) w w' := by
  have kA : Kept (fun _ => False) w (w.alloc (.cells #[.int .i64 0, .int .i64 0] 27)) := (Kept.refl _ w).alloc _
  have hf := rfirst_any _ r vL L (h.kept kA (fun _ _ q => q)) (by omega)
  have hv : fstI L = (fst L : Nat) := by unfold fstI; rw [if_neg hn]
  rw [hv] at hf
  have h1 := (fst_first hn).1
  have c0 := h.c0
  have hrl := h.lt
  obtain ⟨b, cap, rfl, _, _, hbl, hcell⟩ := h.row.cells hn
  obtain ⟨x0, x1⟩ := hcell (fst L) h1
  have h1i : ((fst L : Nat) : Int) < (L.length : Int) := by omega
  clear hcell h
  generalize gj L (fst L) = x at *
  generalize fst L = m at *
  generalize L.length = n at *
  go_enter Try.func13, Try.ntmps13
  go_wp2_with fail
  refine hf.mono ?_
  rintro e w2 ⟨rfl, n2, rfl⟩
  clear hf
  go_wp2_with fail
  refine bodyPost_ret (v := .tuple #[.agg #[.int .i64 x.1, .int .i64 x.2], .bool true]) (by simp [results, Try.results13, go_sem]) rfl ⟨rfl, ?_⟩
  exact ((kA.drewN n2).setCell (p := ⟨w.heap.size, 0, none⟩) (fun q => absurd q (Nat.lt_irrefl _)) _).setCell (p := ⟨w.heap.size, 1, none⟩) (fun q => absurd q (Nat.lt_irrefl _)) _
end Go.Proofs.Ytagcfomjbnecdaa
