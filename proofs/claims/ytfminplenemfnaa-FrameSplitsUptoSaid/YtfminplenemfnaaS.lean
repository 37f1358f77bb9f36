/- FrameBack: wrapped bodies, fed one behind the other. -/
import Derived.Test.YtfminplenemfnaaR
namespace Go.Proofs.Ytfminplenemfnaa
open Go.RowKit

/-- The rows that A leads to read as LL. -/
def Rws (w : World) (A : Option Addr) (LL : List (List Int)) : Prop :=
  ∀ i l, LL[i]? = some l → ∃ b off g v, A = some ⟨b, off, none⟩ ∧ w.cell? ⟨b, off + i, none⟩ = some v ∧ SlA w g v l ∧ Bytes l
theorem Rws.kept {w w' : World} {A : Option Addr} {LL : List (List Int)} (h : Rws w A LL) (k : Kept (fun _ => False) w w') : Rws w' A LL := by
  intro i l hi
  obtain ⟨b, off, g, v, h1, h2, h3, h4⟩ := h i l hi
  exact ⟨b, off, g, v, h1, k.cell h2 (fun q => q), h3.kept k (fun q => q), h4⟩

theorem wrapped_want (l : List Int) : wantI (wrapped l) = (l.length : Int) := by
  show (l.length : Int) / 256 * 256 + (l.length : Int) % 256 = l.length
  omega
theorem parse_wrapped (l : List Int) (h : l.length ≤ 4096) : parse ([] ++ wrapped l) = ([(l, 0)], []) := by
  have hw := wrapped_want l
  have hl : (wrapped l).length = 2 + l.length := by simp [wrapped]; omega
  have h1 := parse_full (r := wrapped l) (s := []) (by omega) (by unfold wantN; omega)
  rw [List.append_nil, parse_opn (t := []) (.inl (by simp))] at h1
  rw [List.nil_append, h1]
  have hf : fr (wrapped l) = (l, 0) := by
    unfold fr bodyOf
    rw [hw, if_pos (by omega), if_neg (by omega)]
    rfl
  rw [hf]
theorem wrapped_bytes {l : List Int} (h : Bytes l) (hl : l.length ≤ 4096) : Bytes (wrapped l) := by
  intro x hx
  unfold wrapped at hx
  rcases List.mem_append.1 hx with q | q
  · simp only [List.mem_cons, List.not_mem_nil, or_false] at q
    rcases q with rfl | rfl <;> omega
  · exact h x q

/-- What holds at the head of FrameBack's loop. -/
structure BackI (w : World) (c : Nat) (wr : World) (vL vB : Value) : Prop where
  cut : Cut wr c vL vB [] [] 0
  own : ∀ j, Own c vL vB j → w.heap.size ≤ j
  kept : Kept (fun _ => False) w wr

theorem St.nil {w : World} {c : Nat} {vL vB : Value} (h : Cut w c vL vB [] [] 0) : St w c vL vB [] := by
  have hb : bodyOf [] = [] := by unfold bodyOf; split <;> rfl
  unfold St
  rw [hb]
  exact h
theorem St.toNil {w : World} {c : Nat} {vL vB : Value} (h : St w c vL vB []) : Cut w c vL vB [] [] 0 := by
  have hb : bodyOf [] = [] := by unfold bodyOf; split <;> rfl
  unfold St at h
  rw [hb] at h
  exact h

theorem BackI.start {w w1 : World} {c : Nat} (hc : w.heap.size ≤ c) (C : Cut w1 c (.slice none 0 0) (.slice none 0 0) [] [] 0) (k : Kept (fun _ => False) w w1) : BackI w c w1 (.slice none 0 0) (.slice none 0 0) := by
  refine ⟨C, ?_, k⟩
  rintro j (q | q | q)
  · omega
  · cases q
  · cases q

theorem Cut.drewN {w : World} {c : Nat} {vL vB : Value} {hd body : List Int} {got : Int} (h : Cut w c vL vB hd body got) (n : Nat) : Cut (w.drewN n) c vL vB hd body got := h.kept ((Kept.refl (fun _ => False) w).drewN n) (fun _ _ q => q)
theorem BackI.drewN {w wr : World} {c : Nat} {vL vB : Value} (h : BackI w c wr vL vB) (n : Nat) : BackI w c (wr.drewN n) vL vB := ⟨h.cut.drewN n, h.own, h.kept.drewN n⟩

/-- Behind Wrap and Feed. -/
theorem BackI.next {w wr w1 w2 : World} {c : Nat} {vL vB vL2 vB2 : Value} (I : BackI w c wr vL vB) (k1 : Kept (fun _ => False) wr w1) (C2 : St w2 c vL2 vB2 []) (k2 : Kept (Own c vL vB) w1 w2) (j2 : ∀ k, Own c vL2 vB2 k → Own c vL vB k ∨ w1.heap.size ≤ k) : BackI w c w2 vL2 vB2 := by
  refine ⟨C2.toNil, fun j hj => ?_, (I.kept.trans k1).trans' k2 (fun _ _ q => q) (fun i hi q => ?_)⟩
  · rcases j2 j hj with q | q
    · exact I.own j q
    · have := I.kept.size
      have := k1.size
      omega
  · have := I.own i q
    omega

theorem OR.toN {w : World} {v : Value} {l : List Int} (h : OR w v l) : ∃ g, SlN w g v l ∧ ∀ (_ : l ≠ []), v.ownBlock = some g := by
  rcases h.reads with ⟨rfl, rfl⟩ | ⟨g, hg, hs⟩
  · exact ⟨0, ⟨Option.none, 0, rfl, Nat.le_refl _, fun q => absurd rfl q⟩, fun q => absurd rfl q⟩
  · exact ⟨g, (SlA.toN (.inr (.inr hs))), fun _ => hg⟩

set_option maxHeartbeats 2000000 in
theorem back_any (w : World) (A : Option Addr) (cap : Nat) (LL : List (List Int)) (h : Rws w A LL) (hm : LL.length ≤ 9223372036854775807) :
    Calls Try.prog 6 #[.slice A LL.length cap] w fun e w' => e = .returned (.bool true) ∧ Kept (fun _ => False) w w' := by
  go_enter Try.func6, Try.ntmps6
  go_wp2_with fail
  refine (new_any _).mono ?_
  rintro e w1 ⟨c, rfl, hc, C1, k1⟩
  have hI1 := BackI.start hc C1 k1
  clear C1 k1
  go_wp2_with fail
  go_loopw [4] (fun i wr => ∃ (k : Nat) (vL vB : Value), k ≤ LL.length ∧ i = .int .i64 k ∧ BackI w c wr vL vB) (fun i _ => LL.length - (intOf i).toNat)
  case atStart => exact ⟨0, _, _, Nat.zero_le _, rfl, hI1⟩
  case round =>
    clear hI1
    obtain ⟨k, vL, vB, hk, rfl, I⟩ := hrel
    by_cases hlt : k < LL.length
    · obtain ⟨l, hl⟩ : ∃ l, LL[k]? = some l := ⟨LL[k], List.getElem?_eq_getElem hlt⟩
      obtain ⟨b, off, g, v, rfl, hcellw, hSw, hB⟩ := h k l hl
      have hcell := I.kept.cell hcellw (fun q => q)
      have hS := hSw.kept I.kept (fun q => q)
      obtain ⟨A2, cap2, hv2, hcap2, hx2⟩ := hS.toN
      clear hx2
      by_cases hlen : 4096 < l.length
      · have hw := wrap_long wr g v l hS hlen
        subst hv2
        have hlen2 : (4096 : Int) < (l.length : Int) := by omega
        clear hS
        go_wp2_with fail
        refine hw.mono ?_
        rintro e w2 ⟨rfl, rfl⟩
        go_wp2_with fail
        go_roundw
        case rel => exact ⟨k + 1, vL, vB, by omega, by go_num, I⟩
        case measure => simp [intOf]; omega
      · have hw := wrap_short wr g v l hS (by omega)
        subst hv2
        have hlen2 : ¬ (4096 : Int) < (l.length : Int) := by omega
        go_wp2_with fail
        refine hw.mono ?_
        rintro e w2 ⟨vW, rfl, r2, k2, j2⟩
        have hcell2 := k2.cell hcell (fun q => q)
        go_wp2_with fail
        have St1 : St w2 c vL vB [] := (St.nil I.cut).kept k2 (fun _ _ q => q)
        have hbw := wrapped_bytes hB (by omega : l.length ≤ 4096)
        have hlw : (wrapped l).length ≤ 4398046510000 := by unfold wrapped; simp only [List.length_append, List.length_cons, List.length_nil]; omega
        obtain ⟨gW, hN, hgW⟩ := r2.toN
        have hgW := hgW (by unfold wrapped; simp)
        have hnO : ¬ Own c vL vB gW := by
          have hge := j2 gW hgW
          rintro (q | q | q)
          · have := I.cut.lt; omega
          · have := I.cut.rowL.lt gW q; omega
          · have := I.cut.rowB.lt gW q; omega
        refine (feed_any w2 c vL vB [] gW vW (wrapped l) St1 hnO (fun x hx => by cases hx) hbw (.inl (by simp)) hlw hN).mono ?_
        clear hnO hgW hN
        rintro e w4 ⟨vO4, vs4, vL4, vB4, rfl, R4, O4, F4, S4, K4, J4⟩
        rw [parse_wrapped l (by omega)] at F4 S4
        obtain ⟨x, n, rfl⟩ : ∃ x n, vs4 = [(x, n)] := by
          match vs4, F4.1 with
          | [(x, n)], _ => exact ⟨x, n, rfl⟩
        obtain ⟨g4, cap4, rfl, hc4, hcells⟩ := R4.cells (by simp)
        obtain ⟨hn, hx⟩ := F4.2 0 (x, n) (l, 0) rfl rfl
        simp only at hn hx
        subst hn
        have hcell0 := (hcells 0 _ rfl).1
        have hcell1 := (hcells 0 _ rfl).2
        simp only [Nat.zero_mul, Nat.zero_add] at hcell0 hcell1
        have I4 := I.next k2 S4 K4 J4
        have hcell4 := I4.kept.cell hcellw (fun q => q)
        have hS4 := hSw.kept I4.kept (fun q => q)
        have hcv1 : ∀ n, (convert 22 9 x).run Try.prog (w4.drewN n) = .ok (.string (strOfNums l)) (w4.drewN n) := fun n => conv_Fr (w := w4.drewN n) hx
        have hcv2 : ∀ n, (convert 22 9 (.slice A2 l.length cap2)).run Try.prog (w4.drewN n) = .ok (.string (strOfNums l)) (w4.drewN n) := fun n => conv_A (w := w4.drewN n) hS4
        have hh := fun n => held_any (w4.drewN n) c vL4 vB4 [] [] 0 (I4.cut.drewN n) (by simp) (by simp)
        clear hcells hx F4 R4 O4 J4 K4 hcell hS hcellw hS4 hSw hw St1 hbw hlw
        go_wp2_with fail
        go_quiet ((go_at_call 14; exact Calls.quiet_of (hh _)))
        go_wp2_with fail
        go_roundw
        case rel => exact ⟨k + 1, vL4, vB4, by omega, by go_num, I4.drewN _⟩
        case measure => simp [intOf]; omega
    · go_wp2_with fail
      refine (live_any _).mono ?_
      rintro e w2 ⟨rfl, k2⟩
      go_wp2_with fail
      go_ret
      exact ⟨rfl, I.kept.trans k2⟩
end Go.Proofs.Ytfminplenemfnaa
