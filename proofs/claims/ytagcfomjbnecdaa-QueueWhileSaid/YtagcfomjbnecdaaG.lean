/- down: the first thing comes to its place. -/
import Derived.Test.YtagcfomjbnecdaaF
namespace Go.Proofs.Ytagcfomjbnecdaa
open Go.RowKit

/-- Of k and its children ahead of ch f is the first one. -/
structure Scan (H : List It) (k f ch : Nat) : Prop where
  le : ch ≤ 2 * k + 3
  at_ : f = k ∨ (2 * k + 1 ≤ f ∧ f < ch ∧ f < H.length ∧ lt (g H f) (g H k))
  self : ¬ lt (g H k) (g H f)
  all : ∀ j, 2 * k + 1 ≤ j → j < ch → j < H.length → ¬ lt (g H j) (g H f)

theorem Scan.start (H : List It) (k : Nat) : Scan H k k (2 * k + 1) := ⟨by omega, .inl rfl, nlt_self _, fun j h1 h2 _ => by omega⟩
theorem Scan.yes {H : List It} {k f ch : Nat} (s : Scan H k f ch) (h1 : ch ≤ 2 * k + 2) (h0 : 2 * k + 1 ≤ ch) (h2 : ch < H.length) (h3 : lt (g H ch) (g H f)) : Scan H k ch (ch + 1) := by
  refine ⟨by omega, .inr ⟨h0, by omega, h2, ?_⟩, nlt_trans (nlt_of_lt h3) s.self, fun j j1 j2 j3 => ?_⟩
  · rcases s.at_ with e | ⟨_, _, _, e⟩
    · rw [← e]; exact h3
    · exact lt_trans h3 e
  · rcases Nat.lt_or_ge j ch with q | q
    · exact nlt_trans (nlt_of_lt h3) (s.all j j1 q j3)
    · have : j = ch := by omega
      subst this
      exact nlt_self _
theorem Scan.no {H : List It} {k f ch : Nat} (s : Scan H k f ch) (h1 : ch ≤ 2 * k + 2) (h3 : ¬ lt (g H ch) (g H f)) : Scan H k f (ch + 1) := by
  refine ⟨by omega, ?_, s.self, fun j j1 j2 j3 => ?_⟩
  · rcases s.at_ with e | ⟨a, b, c, d⟩
    · exact .inl e
    · exact .inr ⟨a, by omega, c, d⟩
  · rcases Nat.lt_or_ge j ch with q | q
    · exact s.all j j1 q j3
    · have : j = ch := by omega
      subst this
      exact h3
theorem Scan.first {H : List It} {k f ch : Nat} (s : Scan H k f ch) (h : 2 * k + 2 < ch ∨ H.length ≤ ch) (hk : k < H.length) : First H k f := by
  refine ⟨?_, ?_, s.self, fun j j0 jl hj => s.all j (by omega) ?_ jl⟩
  · rcases s.at_ with e | ⟨a, b, _⟩
    · exact .inl e
    · have := s.le
      omega
  · rcases s.at_ with e | ⟨_, _, c, _⟩
    · omega
    · exact c
  · omega
theorem Scan.stop {H : List It} {k ch : Nat} (s : Scan H k k ch) (h : 2 * k + 2 < ch ∨ H.length ≤ ch) (hD : DownI H k) : Heap H := by
  rcases Nat.lt_or_ge k H.length with hk | hk
  · exact down_stop hD (s.first h hk)
  · exact down_none hD hk
theorem Scan.go {H : List It} {k f ch : Nat} (s : Scan H k f ch) (h : 2 * k + 2 < ch ∨ H.length ≤ ch) (hD : DownI H k) (hf : f ≠ k) : k < f ∧ f < H.length ∧ DownI (swap H k f) f := by
  rcases s.at_ with e | ⟨a, b, c, d⟩
  · exact absurd e hf
  · exact ⟨by omega, c, down_swap hD (by omega) (s.first h (by omega)) hf d⟩

theorem int_eq {a b : Int} (h : a = b) : Value.int .i64 a = .int .i64 b := by rw [h]

set_option maxHeartbeats 4000000 in
theorem down_any (w : World) (c : Nat) (b cap n : Nat) (H : List It) (T : Int) (h : QM w c (.slice (some ⟨b, 0, none⟩) n cap) H T) (hn : H.length = n) (hD : DownI H 0) (hm : n ≤ 1000) :
    Calls Try.prog 19 #[.pointer (some ⟨c, 0, none⟩)] w fun e w' => e = .returned (.tuple #[]) ∧ PostHeap c (.slice (some ⟨b, 0, none⟩) n cap) H T w w' := by
  unfold PostHeap
  go_enter Try.func19, Try.ntmps19
  go_wp2
  go_loopw [2] (fun i wr => ∃ (k : Nat) (H' : List It), k ≤ n ∧ i = .int .i64 k ∧ H'.Perm H ∧ DownI H' k ∧ QM wr c (.slice (some ⟨b, 0, none⟩) n cap) H' T ∧ Kept (fun k => k = b) w wr) (fun i _ => n - (intOf i).toNat)
  case atStart => exact ⟨0, H, Nat.zero_le _, rfl, List.Perm.refl _, hD, h, Kept.refl _ _⟩
  case round =>
    obtain ⟨k, H', hk, rfl, hp, hD', Q, K⟩ := hrel
    have hl : H'.length = n := by rw [← hn]; exact hp.length_eq
    obtain ⟨wo, rfl⟩ : ∃ wo : World, wo = wr := ⟨_, rfl⟩
    go_wp2
    go_loopw [3, 4] (fun fv cv wr => ∃ (f ch : Nat), fv = .int .i64 f ∧ cv = .int .i64 ch ∧ 2 * k + 1 ≤ ch ∧ Scan H' k f ch ∧ QM wr c (.slice (some ⟨b, 0, none⟩) n cap) H' T ∧ Kept (fun _ => False) wo wr) (fun _ cv _ => 2 * k + 3 - (intOf cv).toNat)
    case atStart => exact ⟨k, 2 * k + 1, rfl, int_eq (by omega), Nat.le_refl _, Scan.start H' k, Q, Kept.refl _ _⟩
    case round =>
      obtain ⟨f, ch, rfl, rfl, hch, S, Q2, K2⟩ := hrel
      have c0 := Q2.c0
      have hle := S.le
      by_cases h1 : ch ≤ 2 * k + 2
      · by_cases h2 : ch < n
        · have hf : f < H'.length := by
            rcases S.at_ with e | ⟨_, _, e, _⟩ <;> omega
          by_cases hlt : lt (g H' ch) (g H' f)
          · have ha := ahead_at wr c _ H' T Q2 ch f ch f true rfl rfl (by omega) hf (by omega) (by simp [ltB, hlt])
            go_wp2_with fail
            refine ha.mono ?_
            rintro e w2 ⟨rfl, k2⟩
            go_wp2_with fail
            go_roundw
            case rel => exact ⟨ch, ch + 1, rfl, by go_num, by omega, S.yes h1 hch (by omega) hlt, Q2.kept k2 (fun _ _ q => q), K2.trans k2⟩
            case measure => simp [intOf]; omega
          · have ha := ahead_at wr c _ H' T Q2 ch f ch f false rfl rfl (by omega) hf (by omega) (by simp [ltB, hlt])
            go_wp2_with fail
            refine ha.mono ?_
            rintro e w2 ⟨rfl, k2⟩
            go_wp2_with fail
            go_roundw
            case rel => exact ⟨f, ch + 1, rfl, by go_num, by omega, S.no h1 hlt, Q2.kept k2 (fun _ _ q => q), K2.trans k2⟩
            case measure => simp [intOf]; omega
        · have hs : 2 * k + 2 < ch ∨ H'.length ≤ ch := .inr (by omega)
          by_cases hfk : f = k
          · subst hfk
            go_wp2
            refine bodyPost_ret (results_none rfl _ _ _) rfl ?_
            exact ⟨rfl, H', hp, S.stop hs hD', Q2, (K.mono (fun j _ q => by rw [q]; rfl)).trans (K2.mono (fun _ _ q => q.elim))⟩
          · have hfkb : ((f : Int) == (k : Int)) = false := by simp only [beq_eq_false_iff_ne, ne_eq]; omega
            obtain ⟨hkf, hfl, hD2⟩ := S.go hs hD' hfk
            obtain ⟨hcell, hfr, hb2, _⟩ := Q2.row.at_
            obtain ⟨Q3, K3⟩ := Q2.swap hl (i := k) (j := f) (by omega) hfl
            obtain ⟨x0, x1, x2⟩ := hcell k (by omega)
            obtain ⟨y0, y1, y2⟩ := hcell f hfl
            have hcb : c ≠ b := fun e => Q2.notR (by rw [e]; rfl)
            have f0 := hfr (k * 3)
            have f1 := hfr (k * 3 + 1)
            have f2 := hfr (k * 3 + 2)
            have f3 := hfr (f * 3)
            have f4 := hfr (f * 3 + 1)
            have f5 := hfr (f * 3 + 2)
            have hfi : (f : Int) < (n : Int) := by omega
            have hki : (k : Int) < (n : Int) := by omega
            clear hcell hfr Q
            go_wp2
            go_region
            go_wp2
            go_roundw
            case measure => simp [intOf]; omega
            case rel =>
              exact ⟨f, swap H' k f, by omega, rfl, (swap_perm _ _ _ (by omega) hfl).trans hp, hD2, Q3.drew, ((K.trans (K2.mono (fun _ _ q => q.elim))).trans K3).drew⟩
      · have hs : 2 * k + 2 < ch ∨ H'.length ≤ ch := .inl (by omega)
        by_cases hfk : f = k
        · subst hfk
          go_wp2
          refine bodyPost_ret (results_none rfl _ _ _) rfl ?_
          exact ⟨rfl, H', hp, S.stop hs hD', Q2, (K.mono (fun j _ q => by rw [q]; rfl)).trans (K2.mono (fun _ _ q => q.elim))⟩
        · have hfkb : ((f : Int) == (k : Int)) = false := by simp only [beq_eq_false_iff_ne, ne_eq]; omega
          obtain ⟨hkf, hfl, hD2⟩ := S.go hs hD' hfk
          obtain ⟨hcell, hfr, hb2, _⟩ := Q2.row.at_
          obtain ⟨Q3, K3⟩ := Q2.swap hl (i := k) (j := f) (by omega) hfl
          obtain ⟨x0, x1, x2⟩ := hcell k (by omega)
          obtain ⟨y0, y1, y2⟩ := hcell f hfl
          have hcb : c ≠ b := fun e => Q2.notR (by rw [e]; rfl)
          have f0 := hfr (k * 3)
          have f1 := hfr (k * 3 + 1)
          have f2 := hfr (k * 3 + 2)
          have f3 := hfr (f * 3)
          have f4 := hfr (f * 3 + 1)
          have f5 := hfr (f * 3 + 2)
          have hfi : (f : Int) < (n : Int) := by omega
          have hki : (k : Int) < (n : Int) := by omega
          clear hcell hfr Q
          go_wp2
          go_region
          go_wp2
          go_roundw
          case measure => simp [intOf]; omega
          case rel =>
            exact ⟨f, swap H' k f, by omega, rfl, (swap_perm _ _ _ (by omega) hfl).trans hp, hD2, Q3.drew, ((K.trans (K2.mono (fun _ _ q => q.elim))).trans K3).drew⟩
end Go.Proofs.Ytagcfomjbnecdaa
