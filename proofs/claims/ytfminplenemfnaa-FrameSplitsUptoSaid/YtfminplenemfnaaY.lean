/- FrameCuts' walk. -/
import Derived.Test.YtfminplenemfnaaX
namespace Go.Proofs.Ytfminplenemfnaa
open Go.RowKit

theorem flat_take {LL : List (List Int)} {k : Nat} {l : List Int} (h : LL[k]? = some l) : (LL.take (k + 1)).flatten = (LL.take k).flatten ++ l := by
  obtain ⟨hk, hl⟩ := List.getElem?_eq_some_iff.1 h
  rw [List.take_succ_eq_append_getElem hk, List.flatten_append, hl]
  simp
theorem flat_len (LL : List (List Int)) (k : Nat) : (LL.take k).flatten.length ≤ LL.flatten.length := by
  have h : LL.flatten = (LL.take k).flatten ++ (LL.drop k).flatten := by rw [← List.flatten_append, List.take_append_drop]
  rw [h, List.length_append]
  omega
theorem flat_bytes {LL : List (List Int)} (h : ∀ l ∈ LL, Bytes l) (k : Nat) : Bytes (LL.take k).flatten := by
  intro x hx
  obtain ⟨l, hl, hxl⟩ := List.mem_flatten.1 hx
  exact h l (List.mem_of_mem_take hl) x hxl

theorem CutsI.start {w w1 : World} {c : Nat} (hc : w.heap.size ≤ c) (C : Cut w1 c (.slice none 0 0) (.slice none 0 0) [] [] 0) (k : Kept (fun _ => False) w w1) :
    CutsI w c ((w1.alloc (.cells #[] 5)).alloc (.cells #[] 41)) [] (.slice (some ⟨w1.heap.size + 1, 0, none⟩) 0 0) (.slice (some ⟨w1.heap.size, 0, none⟩) 0 0) (.slice none 0 0) (.slice none 0 0) [] := by
  have hp : parse [] = ([], []) := parse_opn (.inl (by simp))
  have hs := k.size
  have ka : Kept (fun _ => False) w1 ((w1.alloc (.cells #[] 5)).alloc (.cells #[] 41)) := ((Kept.refl _ _).alloc _).alloc _
  have hcl := C.lt
  have r1 : OR (w1.alloc (.cells #[] 5)) (.slice (some ⟨w1.heap.size, 0, none⟩) 0 0) [] := World.ownsRow_lit w1 #[] 0 (Nat.zero_le _) (Nat.zero_le _) rfl
  have r2 := World.ownsRow_lit (w1.alloc (.cells #[] 5)) (e := 41) (size := 2) (base := 0) #[] 0 (Nat.zero_le _) (Nat.zero_le _) rfl
  refine ⟨?_, ?_, ?_, ?_, r1.kept ((Kept.refl (fun _ => False) _).alloc _) (fun _ _ q => q), ?_, ?_, k.trans ka⟩
  · rw [hp]
    exact St.nil (C.kept ka (fun _ _ q => q))
  · rintro j (q | q | q)
    · omega
    · cases q
    · cases q
  · have e : (w1.alloc (.cells #[] 5)).heap.size = w1.heap.size + 1 := by simp
    rw [e] at r2
    exact r2
  · intro j hj
    injection hj with hj
    simp only at hj
    refine ⟨by omega, ?_⟩
    rintro (q | q | q)
    · omega
    · cases q
    · cases q
  · intro j hj
    injection hj with hj
    simp only at hj
    refine ⟨by omega, ?_, ?_⟩
    · rintro (q | q | q)
      · omega
      · cases q
      · cases q
    · intro q
      injection q with q
      simp only at q
      omega
  · rw [hp]
    exact Fits.nil _ _

set_option maxHeartbeats 4000000 in
theorem cuts_any (w : World) (A : Option Addr) (cap : Nat) (LL : List (List Int)) (h : Rws w A LL) (hB : ∀ l ∈ LL, Bytes l) (hm : LL.length ≤ 9223372036854775807) (hsum : LL.flatten.length ≤ 1048576) :
    Calls Try.prog 4 #[.slice A LL.length cap] w fun e w' => e = .returned (.bool true) ∧ Kept (fun _ => False) w w' := by
  go_enter Try.func4, Try.ntmps4
  go_wp2_with fail
  refine (new_any _).mono ?_
  rintro e w1 ⟨c, rfl, hc, C1, k1⟩
  have hI1 := CutsI.start hc C1 k1
  clear C1 k1
  go_wp2_with fail
  go_loopw [4, 5, 6] (fun vA vG i wr => ∃ (k : Nat) (vL vB : Value) (vs : List (Value × Int)), k ≤ LL.length ∧ i = .int .i64 k ∧ CutsI w c wr (LL.take k).flatten vG vA vL vB vs) (fun _ _ i _ => LL.length - (intOf i).toNat)
  case atStart => exact ⟨0, _, _, _, Nat.zero_le _, rfl, hI1⟩
  case round =>
    clear hI1
    obtain ⟨k, vL, vB, vs, hk, rfl, I⟩ := hrel
    by_cases hlt : k < LL.length
    · obtain ⟨l, hl⟩ : ∃ l, LL[k]? = some l := ⟨LL[k], List.getElem?_eq_getElem hlt⟩
      obtain ⟨b, off, g, v, rfl, hcellw, hSw, hBl⟩ := h k l hl
      have hcell := I.kept.cell hcellw (fun q => q)
      have hS := hSw.kept I.kept (fun q => q)
      have hft := flat_take hl
      have hfl := flat_len LL (k + 1)
      have hbt := flat_bytes hB k
      rw [hft] at hfl
      generalize (LL.take k).flatten = t at *
      rw [List.length_append] at hfl
      have hr0 : OR (wr.alloc (.cells #[] 5)) (.slice (some ⟨wr.heap.size, 0, none⟩) 0 0) [] := World.ownsRow_lit wr #[] 0 (Nat.zero_le _) (Nat.zero_le _) rfl
      have ka : Kept (fun _ => False) wr (wr.alloc (.cells #[] 5)) := (Kept.refl _ _).alloc _
      have hcella := ka.cell hcell (fun q => q)
      have hSa := hS.kept ka (fun q => q)
      have HFT := Lib.hid hft
      clear hft hS
      go_wp2_with (at_builtin; refine wpList_append_A _ rfl _ _ rfl _ [] rfl hr0 g v l rfl hSa (by simp only [List.length_nil]; omega) ?_; intro vN w2 r2 g2 n2)
      have k1 : Kept (fun _ => False) wr w2 := ka.grown g2 (fun k hk hlt => by injection hk with hk; simp only at hk; omega)
      have j1 := n2.ge (w := wr) (fun k hk => by injection hk with hk; simp only at hk; omega) ka.size
      rw [List.nil_append] at r2
      have S1 : St w2 c vL vB (parse t).2 := Cut.kept I.st k1 (fun _ _ q => q)
      obtain ⟨gN, hnO, hN⟩ := r2.toN2 (Own c vL vB) (fun j hj => Own.lt S1 hj) (fun k hk q => by have := Own.lt I.st q; have := j1 k hk; omega)
      go_wp2_with fail
      refine (feed_any w2 c vL vB (parse t).2 gN vN l S1 hnO (parse_rest_bytes t hbt) hBl (parse_rest_opn t) (by omega) hN).mono ?_
      clear hnO hN hcella hSa hr0 S1
      rintro e w3 ⟨vO, vs2, vL2, vB2, rfl, R2, O2, F2, S2, K2, J2⟩
      have RG := I.rowG k1 K2
      have hlen1 := parse_len t
      have hlen2 := parse_len ((parse t).2 ++ l)
      rw [List.length_append] at hlen2
      have hvs := I.fits.1
      have hvs2 := F2.1
      have hone := F2.one
      go_wp2_with (first
        | (at_builtin; refine wpList_append_F _ rfl _ _ rfl _ vs rfl RG vO vs2 rfl R2 hone (by omega) ?_; intro vG2 w4 R3 g3 n3
           have RA := I.rowA k1 K2 g3
           have KG := I.args k1 K2 g3
           have hcell4 := KG.cell hcellw (fun q => q)
           have hS4 := hSw.kept KG (fun q => q))
        | (at_builtin; refine wpList_append_A _ rfl _ _ rfl _ t rfl RA g v l rfl hS4 (by omega) ?_; intro vA2 w5 R4 g4 n4))
      obtain ⟨gA, _, hNA⟩ := R4.toN2 (fun _ => False) (fun _ q => q.elim) (fun _ _ q => q)
      go_wp2_with fail
      refine (all_any w5 gA vA2 (t ++ l) hNA (hbt.app hBl) (by rw [List.length_append]; omega)).mono ?_
      rintro e w6 ⟨vQ, us, rfl, RQ, FQ6, k6⟩
      have I6 := I.next k1 F2 S2 K2 J2 R3 g3 n3 R4 g4 n4 k6
      have hlen3 := parse_len (t ++ l)
      rw [List.length_append] at hlen3
      have hal := alike_any w6 vG2 vQ (vs ++ vs2) us _ _ _ I6.g I6.fits RQ FQ6 (by omega)
      have hhe := fun n => held_st (w6.drewN n) c vL2 vB2 _ (Cut.drewN I6.st n) (opn_len (parse_rest_opn _) (parse_rest_bytes _ (hbt.app hBl)))
      clear RA KG hcell4 hS4 R4 hNA RQ FQ6 S2 F2 R2 R3 hlen3 k6 I RG
      generalize (parse (t ++ l)).2.length = hN at *
      go_wp2_with fail
      refine hal.mono ?_
      rintro e w7 ⟨rfl, n7, rfl⟩
      go_wp2_with fail
      refine (hhe n7).mono ?_
      rintro e w8 ⟨rfl, n8, rfl⟩
      go_wp2_with fail
      go_roundw
      case rel => exact ⟨k + 1, vL2, vB2, vs ++ vs2, by omega, by go_num, by rw [HFT.out]; exact I6.drewN _⟩
      case measure => simp [intOf]; omega
    · go_wp2_with fail
      refine (live_any _).mono ?_
      rintro e w2 ⟨rfl, k2⟩
      go_wp2_with fail
      go_ret
      exact ⟨rfl, I.kept.trans k2⟩
end Go.Proofs.Ytfminplenemfnaa
