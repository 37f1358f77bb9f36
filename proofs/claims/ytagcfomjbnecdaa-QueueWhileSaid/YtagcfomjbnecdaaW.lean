/- The rows of QueueSorts; Same; While. -/
import Derived.Test.YtagcfomjbnecdaaV
namespace Go.Proofs.Ytagcfomjbnecdaa
open Go.RowKit

theorem sorts_long (w : World) (A : Option Addr) (n cap : Nat) (hm : 200 < n) : Calls Try.prog 4 #[.slice A n cap] w fun e w' => e = .returned (.bool true) ∧ Kept (fun _ => False) w w' := by
  have hmi : (200 : Int) < (n : Int) := by omega
  go_enter Try.func4, Try.ntmps4
  go_wp2_with fail
  refine (live_any _).mono ?_
  rintro e w2 ⟨rfl, k2⟩
  go_wp2_with fail
  go_ret
  exact ⟨rfl, k2⟩
theorem sorts_law (w : World) (a : Option Addr) (len cap : Nat) (L : List J) (hL : L.length = len) (h : JS w (fun k => w.heap.size ≤ k) a L) :
    Calls Try.prog 4 #[.slice a len cap] w fun e w' => e = .returned (.bool true) ∧ Kept (fun _ => False) w w' := by
  rcases Nat.lt_or_ge 200 len with q | q
  · exact sorts_long w a len cap q
  · subst hL
    exact sorts_short w a cap L h q

theorem below_any (a n b : Int) (bb : Nat) (w : World) (hb : w.cell? ⟨bb, 0, none⟩ = some (.int .i64 b)) (hl : bb < w.heap.size) : Calls Try.prog 16 #[.agg #[.int .i64 a, .int .i64 n], .pointer (some ⟨bb, 0, none⟩)] w fun e w' => e = .returned (.bool (decide (a < b))) ∧ Kept (fun _ => False) w w' := by
  go_enter Try.func16, Try.ntmps16
  go_wp2
  go_ret
  exact ⟨rfl, (Kept.refl _ _).alloc _⟩

set_option maxHeartbeats 1000000 in
theorem same_any (w : World) (v u : Value) (L : List J) (hv : JR w v L) (hu : JR w u L) (hm : L.length ≤ 1000000) :
    Calls Try.prog 17 #[v, u] w fun e w' => e = .returned (.bool true) ∧ ∃ n, w' = w.drewN n := by
  have hsrc : ∀ x, JR w x L → ∀ A c, x = .slice A L.length c → ∀ j, j < L.length → ∃ b, A = some ⟨b, 0, none⟩ ∧ w.cell? ⟨b, j * 2, none⟩ = some (.int .i64 (gj L j).1) ∧ w.cell? ⟨b, j * 2 + 1, none⟩ = some (.int .i64 (gj L j).2) := by
    intro x hx A c hA j hj
    obtain ⟨b, c', hv, _, _, _, hc⟩ := hx.cells (fun e => by rw [e] at hj; simp at hj)
    rw [hA] at hv
    injection hv with hv _ _
    obtain ⟨c0, c1⟩ := hc j hj
    exact ⟨b, hv, c0, c1⟩
  obtain ⟨A, c, rfl, _, _⟩ := hv.shape
  obtain ⟨B, c', rfl, _, _⟩ := hu.shape
  have HA := Lib.hid (hsrc _ hv A c rfl)
  have HB := Lib.hid (hsrc _ hu B c' rfl)
  clear hsrc hv hu
  go_enter Try.func17, Try.ntmps17
  go_wp2
  go_loopw [5] (fun i wr => ∃ k n : Nat, k ≤ L.length ∧ i = .int .i64 k ∧ wr = w.drewN n) (fun i _ => L.length - (intOf i).toNat)
  case atStart => exact ⟨0, 0, Nat.zero_le _, rfl, rfl⟩
  case round =>
    obtain ⟨k, n, hk, rfl, rfl⟩ := hrel
    by_cases hlt : k < L.length
    · obtain ⟨b, rfl, x0, x1⟩ := HA.out k hlt
      obtain ⟨b', rfl, y0, y1⟩ := HB.out k hlt
      go_wp2
      go_quiet (fail)
      go_wp2
      go_roundw
      case rel => exact ⟨k + 1, n + nq, by omega, by go_num, rfl⟩
      case measure => simp [intOf]; omega
    · go_wp2
      go_ret
      exact ⟨rfl, n, rfl⟩

/-- What holds in While: O has been taken out. -/
structure WhI (w : World) (c : Nat) (vH : Value) (b : Int) (T : Int) (L : List J) (k : Nat) (wr : World) (H' : List It) (vH' : Value) (K' : List It) (O : List J) (vO : Value) : Prop where
  q : QM wr c vH' H' T
  heap : Heap H'
  rel : Rel H' T K'
  cnt : K'.length = k
  row : JR wr vO O
  all : O ++ (wh b (jumps K').length (jumps K')).1 = (wh b L.length L).1
  rest : (wh b (jumps K').length (jumps K')).2 = (wh b L.length L).2
  own : vH'.ownBlock = vH.ownBlock
  oo : ∀ j, vO.ownBlock = some j → w.heap.size ≤ j ∧ ¬ Own c vH j
  kept : Kept (Own c vH) w wr
  small : O.length + k ≤ L.length

/-- What While returns and leaves. -/
def PostWhile (c : Nat) (vH : Value) (b T : Int) (L : List J) (w : World) (e : Ending) (w' : World) : Prop :=
  ∃ vO H' vH', e = .returned vO ∧ JR w' vO (wh b L.length L).1 ∧ QM w' c vH' H' T ∧ H'.length = (wh b L.length L).2.length ∧ vH'.ownBlock = vH.ownBlock ∧ (∀ j, vO.ownBlock = some j → w.heap.size ≤ j ∧ ¬ Own c vH j) ∧ Kept (Own c vH) w w'

theorem WhI.stop {w wr : World} {c : Nat} {vH : Value} {b T : Int} {L : List J} {k : Nat} {H' : List It} {vH' : Value} {K' : List It} {O : List J} {vO : Value} (I : WhI w c vH b T L k wr H' vH' K' O vO) (hs : ¬ (jumps K' ≠ [] ∧ (gj (jumps K') (fst (jumps K'))).1 < b)) {w2 : World} (k2 : Kept (fun _ => False) wr w2) :
    PostWhile c vH b T L w (.returned vO) w2 := by
  have h1 := I.all
  have h2 := I.rest
  rw [wh_stop hs] at h1 h2
  simp only [List.append_nil] at h1 h2
  refine ⟨vO, H', vH', rfl, ?_, I.q.kept k2 (fun _ _ q => q), ?_, I.own, I.oo, I.kept.trans (k2.mono (fun _ _ q => q.elim))⟩
  · rw [← h1]
    exact I.row.kept k2 (fun _ _ q => q)
  · rw [← h2, jumps_len, I.rel.len]

theorem WhI.next {w wr : World} {c : Nat} {vH : Value} {b T : Int} {L : List J} {k : Nat} {H' : List It} {vH' : Value} {K' : List It} {O : List J} {vO : Value} (I : WhI w c vH b T L k wr H' vH' K' O vO) (hn : K' ≠ []) (hlt : (gj (jumps K') (fst (jumps K'))).1 < b)
    {w1 w2 w3 w4 : World} (k1 : Kept (fun _ => False) wr w1) {H2 : List It} {vH2 : Value} (h1 : (g H' 0 :: H2).Perm H') (h2 : Heap H2) (h3 : QM w2 c vH2 H2 T) (h4 : Kept (Own c vH') w1 w2) (h5 : vH2.ownBlock = vH'.ownBlock) (k3 : Kept (fun _ => False) w2 w3)
    {vO2 : Value} (r : JR w4 vO2 (O ++ [gj (jumps K') (fst (jumps K'))])) (kg : Kept (fun j => vO.ownBlock = some j) w3 w4) (hn2 : ∀ j, vO2.ownBlock = some j → vO.ownBlock = some j ∨ w3.heap.size ≤ j) :
    WhI w c vH b T L (K'.eraseIdx (fst (jumps K'))).length w4 H2 vH2 (K'.eraseIdx (fst (jumps K'))) (O ++ [gj (jumps K') (fst (jumps K'))]) vO2 := by
  have hj : jumps K' ≠ [] := by simpa [jumps] using hn
  have hf := (fst_first hj).1
  rw [jumps_len] at hf
  have eq : ∀ j, Own c vH2 j ↔ Own c vH j := fun j => by unfold Own; rw [h5, I.own]
  have eq' : ∀ j, Own c vH' j ↔ Own c vH j := fun j => by unfold Own; rw [I.own]
  have s1 := I.kept.size
  have s2 := k1.size
  have s3 := h4.size
  have s4 := k3.size
  have cl : ∀ j, Own c vH' j → j < wr.heap.size := fun j hj => I.q.ownlt hj
  have ha := I.all
  have hr := I.rest
  rw [wh_step hj hlt] at ha hr
  have he : (jumps K').eraseIdx (fst (jumps K')) = jumps (K'.eraseIdx (fst (jumps K'))) := by rw [jumps_erase, List.eraseIdx_eq_take_drop_succ]
  rw [he] at ha hr
  refine ⟨(h3.kept k3 (fun _ _ q => q)).kept kg (fun j hj q => (I.oo j q).2 ((eq j).1 hj)), h2, I.rel.pop I.heap hn h1, rfl, r, ?_, hr, h5.trans I.own, fun j hj => ?_, ?_, ?_⟩
  · rw [List.append_assoc]
    exact ha
  · rcases hn2 j hj with q | q
    · exact I.oo j q
    · exact ⟨by omega, fun e => by have := cl j ((eq' j).2 e); omega⟩
  · refine (((I.kept.trans (k1.mono (fun _ _ q => q.elim))).trans (h4.mono (fun j _ q => (eq' j).1 q))).trans (k3.mono (fun _ _ q => q.elim))).trans' kg (fun _ _ q => q) (fun j hj q => ?_)
    have := (I.oo j q).1
    omega
  · have := I.small
    have := I.cnt
    rw [List.length_append, List.length_eraseIdx, if_pos hf]
    simp only [List.length_cons, List.length_nil]
    omega

end Go.Proofs.Ytagcfomjbnecdaa
