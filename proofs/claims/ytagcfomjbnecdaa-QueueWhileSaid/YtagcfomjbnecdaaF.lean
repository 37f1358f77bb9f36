/- up: the last thing comes to its place. -/
import Derived.Test.YtagcfomjbnecdaaD
import Derived.Test.YtagcfomjbnecdaaE
namespace Go.Proofs.Ytagcfomjbnecdaa
open Go.RowKit

/-- The things of H are in another order now, that of a heap. -/
def PostHeap (c : Nat) (vH : Value) (H : List It) (T : Int) (w w' : World) : Prop :=
  ∃ H', H'.Perm H ∧ Heap H' ∧ QM w' c vH H' T ∧ Kept (fun k => vH.ownBlock = some k) w w'

theorem ahead_at (w : World) (c : Nat) (vH : Value) (H : List It) (T : Int) (h : QM w c vH H T) (i j : Nat) (I J : Int) (v : Bool) (hI : I = i) (hJ : J = j) (hi : i < H.length) (hj : j < H.length) (hm : H.length ≤ 1000000) (hv : ltB (g H i) (g H j) = v) :
    Calls Try.prog 21 #[.pointer (some ⟨c, 0, none⟩), .int .i64 I, .int .i64 J] w fun e w' => e = .returned (.bool v) ∧ Kept (fun _ => False) w w' := by
  subst hI hJ hv
  exact ahead_any w c vH H T h i j hi hj hm

theorem int_half (q : Nat) : Value.int .i64 ((q : Int) / 2) = .int .i64 ((q / 2 : Nat) : Int) := by
  have : (q : Int) / 2 = ((q / 2 : Nat) : Int) := by omega
  rw [this]
theorem up_half {H : List It} {q : Nat} (h : UpI H (q + 1)) (hi : q + 1 < H.length) (hlt : lt (g H (q + 1)) (g H (q / 2))) : UpI (swap H (q + 1) (q / 2)) (q / 2) := up_swap h (by omega) hi hlt
theorem QM.drew {w : World} {c : Nat} {vH : Value} {H : List It} {T : Int} (h : QM w c vH H T) : QM w.drew c vH H T := h.kept ((Kept.refl (fun _ => False) w).drew) (fun _ _ q => q)

set_option maxHeartbeats 4000000 in
theorem up_any (w : World) (c : Nat) (vH : Value) (H : List It) (T : Int) (h : QM w c vH H T) (n : Nat) (hn : H.length = n + 1) (hU : UpI H n) (hm : n ≤ 1000) :
    Calls Try.prog 18 #[.pointer (some ⟨c, 0, none⟩)] w fun e w' => e = .returned (.tuple #[]) ∧ PostHeap c vH H T w w' := by
  have c0 := h.c0
  obtain ⟨b, cap, rfl, hcap, _, hbl, _, _⟩ := h.row.cells (fun e => by subst e; simp at hn)
  rw [hn] at c0
  have h1 : QM w c (.slice (some ⟨b, 0, none⟩) (n + 1) cap) H T := by rw [← hn]; exact h
  unfold PostHeap
  rw [hn]
  go_enter Try.func18, Try.ntmps18
  go_wp2
  clear c0
  go_loopw [2] (fun i wr => ∃ (k : Nat) (H' : List It), k ≤ n ∧ i = .int .i64 k ∧ H'.Perm H ∧ UpI H' k ∧ QM wr c (.slice (some ⟨b, 0, none⟩) (n + 1) cap) H' T ∧ Kept (fun k => k = b) w wr) (fun i _ => (intOf i).toNat)
  case atStart => exact ⟨n, H, Nat.le_refl _, by go_num, List.Perm.refl _, hU, h1, Kept.refl _ _⟩
  case round =>
    obtain ⟨k, H', hk, rfl, hp, hU', Q, K⟩ := hrel
    have hl : H'.length = n + 1 := by rw [← hn]; exact hp.length_eq
    by_cases h0 : k = 0
    · subst h0
      go_wp2
      go_end0
      exact ⟨rfl, H', hp, up_stop hU' (.inl rfl), Q, K.mono (fun j _ q => by rw [q]; rfl)⟩
    · obtain ⟨q, rfl⟩ : ∃ q, k = q + 1 := ⟨k - 1, by omega⟩
      by_cases hlt : lt (g H' (q + 1)) (g H' (q / 2))
      · have ha := ahead_at wr c _ H' T Q (q + 1) (q / 2) (q + 1) (q / 2) true (by omega) (by omega) (by omega) (by omega) (by omega) (by simp [ltB, hlt])
        go_wp2_with fail
        refine ha.mono ?_
        rintro e w2 ⟨rfl, k2⟩
        have Q2 := Q.kept k2 (fun _ _ q => q)
        obtain ⟨Q3, K3⟩ := Q2.swap hl (i := q + 1) (j := q / 2) (by omega) (by omega)
        obtain ⟨hcell, hfr, hb2, _⟩ := Q2.row.at_
        obtain ⟨x0, x1, x2⟩ := hcell (q + 1) (by omega)
        obtain ⟨y0, y1, y2⟩ := hcell (q / 2) (by omega)
        have hcb : c ≠ b := fun e => Q2.notR (by rw [e]; rfl)
        have f0 := hfr ((q + 1) * 3)
        have f1 := hfr ((q + 1) * 3 + 1)
        have f2 := hfr ((q + 1) * 3 + 2)
        have f3 := hfr (q / 2 * 3)
        have f4 := hfr (q / 2 * 3 + 1)
        have f5 := hfr (q / 2 * 3 + 2)
        have c0 := Q2.c0
        clear hcell hfr ha Q
        go_wp2_with fail
        go_region
        go_wp2
        go_roundw
        case measure => simp [intOf]; omega
        case rel =>
          exact ⟨q / 2, swap H' (q + 1) (q / 2), by omega, int_half q, (swap_perm _ _ _ (by omega) (by omega)).trans hp, up_half hU' (by omega) hlt, Q3.drew, ((K.trans (k2.mono (fun _ _ q => q.elim))).trans K3).drew⟩
      · have ha := ahead_at wr c _ H' T Q (q + 1) (q / 2) (q + 1) (q / 2) false (by omega) (by omega) (by omega) (by omega) (by omega) (by simp [ltB, hlt])
        go_wp2_with fail
        refine ha.mono ?_
        rintro e w2 ⟨rfl, k2⟩
        have Q2 := Q.kept k2 (fun _ _ q => q)
        go_wp2_with fail
        refine bodyPost_ret (results_none rfl _ _ _) rfl ?_
        exact ⟨rfl, H', hp, up_stop hU' (.inr hlt), Q2, (K.mono (fun j _ q => by rw [q]; rfl)).trans (k2.mono (fun _ _ q => q.elim))⟩
end Go.Proofs.Ytagcfomjbnecdaa
