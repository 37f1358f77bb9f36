/- QueueSorts' walk. -/
import Derived.Test.YtagcfomjbnecdaaU
namespace Go.Proofs.Ytagcfomjbnecdaa
open Go.RowKit

theorem gj_app_len (L : List J) (x : J) : gj (L ++ [x]) L.length = x := by
  unfold gj; rw [List.getD_eq_getElem?_getD, List.getElem?_append_right (Nat.le_refl _)]; simp

set_option maxRecDepth 100000 in
set_option maxHeartbeats 8000000 in
theorem sorts_short (w : World) (A : Option Addr) (cap : Nat) (L : List J) (h : JS w (fun k => w.heap.size ≤ k) A L) (hm : L.length ≤ 200) :
    Calls Try.prog 4 #[.slice A L.length cap] w fun e w' => e = .returned (.bool true) ∧ Kept (fun _ => False) w w' := by
  have hmi : ¬ (200 : Int) < (L.length : Int) := by omega
  obtain ⟨i0, hi, hz0, hz1, hz2⟩ := info_parts Try.info27
  go_enter Try.func4, Try.ntmps4
  go_wp2_with fail
  refine (new_any _).mono ?_
  rintro e w1 ⟨c, rfl, hc, Q1, k1⟩
  have js : JS w1 (Own c (.slice none 0 0)) A L := h.weak k1 (fun j q => by
    rcases q with q | q
    · omega
    · cases q)
  have hH0 : Heap [] := fun j _ h => by simp at h
  go_wp2_with fail
  refine (push_any _ c _ [] 0 Q1 hH0 [] Rel.nil A cap L js (by simp; omega) (by decide)).mono ?_
  rintro e w2 ⟨rfl, H0, vH0, K0, hH, R0, hj0, Q2, K2, own2⟩
  rw [show jumps [] ++ L = L from rfl] at hj0
  have s1 := k1.size
  have s0 := Q1.lt
  have oc2 : ∀ j, Own c vH0 j → w.heap.size ≤ j := fun j hj => by
    rcases own2 j hj with q | q
    · rcases q with q | q
      · omega
      · cases q
    · omega
  have k2 : Kept (fun _ => False) w w2 := k1.trans' K2 (fun _ _ q => q) (fun j hj q => by
    rcases q with q | q
    · omega
    · cases q)
  have kA : Kept (fun _ => False) w2 (w2.alloc (.cells #[] 27)) := (Kept.refl _ w2).alloc _
  have I0 : SortI w c (w2.alloc (.cells #[] 27)) 0 K0 (0 + (L.length : Int)) H0 vH0 [] (.slice (some ⟨w2.heap.size, 0, none⟩) 0 0) := by
    refine ⟨Q2.kept kA (fun _ _ q => q), hH, Pops.start R0.perm, rfl, World.ownsRow_lit w2 #[] 0 (Nat.zero_le _) (Nat.zero_le _) rfl, oc2, fun j hj => ?_, k2.trans kA⟩
    injection hj with hj
    simp only at hj
    have := k2.size
    exact ⟨by omega, fun e => by have := Q2.ownlt e; omega⟩
  have hK0 : K0.length = L.length := by rw [← jumps_len, hj0]
  clear js Q1 Q2 R0 own2 oc2 kA hH k2 K2 hH0
  generalize (0 : Int) + (L.length : Int) = T at *
  have HK := Lib.hid hK0
  have HJ := Lib.hid hj0
  clear hK0 hj0
  go_wp2_with fail
  go_loopw [4, 5] (fun vO i wr => ∃ (k : Nat) (H : List It) (vH : Value) (out : List It), k ≤ L.length ∧ i = .int .i64 k ∧ SortI w c wr k K0 T H vH out vO) (fun _ i _ => L.length - (intOf i).toNat)
  case atStart => exact ⟨0, H0, vH0, [], Nat.zero_le _, rfl, I0⟩
  case round =>
    clear I0
    obtain ⟨k, H, vH, out, hk, rfl, I⟩ := hrel
    have hall := I.all
    rw [HK.out] at hall
    by_cases hlt : k < L.length
    · obtain ⟨n, hn⟩ : ∃ n, H.length = n + 1 := ⟨H.length - 1, by omega⟩
      have hpop := pop_some wr c vH H T I.q n hn I.heap (by omega)
      obtain ⟨AO, cO, rfl, _, _⟩ := I.row.shape
      have hol : (jumps out).length ≤ 200 := by rw [jumps_len, I.len]; omega
      unfold PostPop at hpop
      have hris := I.pops.rises (by omega : 0 < H.length)
      have hJG : g H 0 = ⟨(g H 0).a, (g H 0).n, (g H 0).t⟩ := rfl
      clear hall
      go_wp2_with fail
      refine hpop.mono ?_
      clear hpop
      rintro e w3 ⟨H2, vH2, rfl, hp2, hH2, Q3, K3, o2⟩
      have kB : Kept (fun _ => False) w3 (w3.alloc (.cells #[.int .i64 (g H 0).a, .int .i64 (g H 0).n] 27)) := (Kept.refl _ w3).alloc _
      have R4 : JR (w3.alloc (.cells #[.int .i64 (g H 0).a, .int .i64 (g H 0).n] 27)) (.slice AO (jumps out).length cO) (jumps out) := (I.row.kept K3 (fun j hj => (I.oo j hj).2)).kept kB (fun _ _ q => q)
      have hb4 := heap_alloc_new w3 (.cells #[.int .i64 (g H 0).a, .int .i64 (g H 0).n] 27)
      have hs4 : w3.heap.size < (w3.alloc (.cells #[.int .i64 (g H 0).a, .int .i64 (g H 0).n] 27)).heap.size := by simp
      go_wp2_with fail
      generalize hW4 : w3.alloc (Obj.cells #[Value.int IntKind.i64 (g H 0).a, Value.int IntKind.i64 (g H 0).n] 27) = W4 at *
      have z0 := cell_of_row W4 _ 0 _ 27 (0, 0) hb4
      have z1 := cell_of_row W4 _ 1 _ 27 (0, 0) hb4
      simp only [List.getElem?_toArray, List.getElem?_cons_zero, List.getElem?_cons_succ] at z0 z1
      clear hJG
      by_cases hk0 : k = 0
      · subst hk0
        go_quiet (fail)
        have own4 : (W4.drewN nq).ownsRow 0 27 2 (.slice AO (jumps out).length cO) (jumps out).length (jrow (jumps out)) := R4
        go_wp2_with (at_builtin; refine wpList_append_at _ rfl _ _ 30 rfl 27 i0 (.agg #[.int .i64 0, .int .i64 0]) 2 16 Try.underlying30 hi hz0 hz1 hz2 rfl (by decide) (.slice AO (jumps out).length cO) (jumps out).length (jrow (jumps out)) rfl (World.ownsRow.alloc own4 _) ⟨W4.heap.size, 0, none⟩ 1 1 [.int .i64 (g H 0).a, .int .i64 (g H 0).n] rfl rfl (World.news_of_block (heap_alloc_new (W4.drewN nq) (.cells #[.int .i64 (g H 0).a, .int .i64 (g H 0).n] 27))) (by simp [Value.oneCell']) (by simp only [maxLen]; omega) (by omega) ?_; intro vO2 w5 r5 g5 n5)
        have r5' : JR w5 vO2 (jumps (out ++ [g H 0])) := by
          unfold JR
          rw [jumps_snoc, jrow_app, List.length_append]
          exact r5
        have kg : Kept (fun j => (Value.slice AO (jumps out).length cO).ownBlock = some j) W4 w5 := (((Kept.refl _ W4).drewN nq).alloc _).grown g5 (fun j hj _ => hj)
        have hn5 : ∀ j, vO2.ownBlock = some j → (Value.slice AO (jumps out).length cO).ownBlock = some j ∨ W4.heap.size ≤ j := fun j hj => by
          rcases n5 with e | ⟨k', e, hk'⟩
          · exact .inl (by rw [← e]; exact hj)
          · rw [hj] at e
            injection e with e
            have : ((W4.drewN nq).alloc (.cells #[.int .i64 (g H 0).a, .int .i64 (g H 0).n] 27)).heap.size = W4.heap.size + 1 := by simp
            exact .inr (by omega)
        have IN := I.next hp2 hH2 Q3 K3 o2 kB r5' kg hn5
        clear r5 g5 n5 own4 r5' kg hn5
        go_wp2_with fail
        go_roundw
        case rel => exact ⟨1, H2, vH2, _, by omega, rfl, IN⟩
        case measure => simp [intOf]; omega
      · obtain ⟨q, rfl⟩ : ∃ q, k = q + 1 := ⟨k - 1, by omega⟩
        have hlen := I.len
        have hle := hris q hlen
        have hne : jumps out ≠ [] := fun e => by have := congrArg List.length e; rw [jumps_len, hlen] at this; simp at this
        obtain ⟨bO, cap', hv, _, _, _, hcell⟩ := R4.cells hne
        injection hv with hv1 _ hv3
        subst hv1 hv3
        obtain ⟨y0, y1⟩ := hcell q (by rw [jumps_len]; omega)
        have hqi : (q : Int) < ((jumps out).length : Int) := by rw [jumps_len]; omega
        have hqn : ¬ (g H 0).a < (gj (jumps out) q).1 := by omega
        have HLEN := Lib.hid hlen
        clear hcell hlen hle hris
        go_quiet (fail)
        have own4 : (W4.drewN nq).ownsRow 0 27 2 (.slice (some ⟨bO, 0, none⟩) (jumps out).length cO) (jumps out).length (jrow (jumps out)) := R4
        go_wp2_with (at_builtin; refine wpList_append_at _ rfl _ _ 30 rfl 27 i0 (.agg #[.int .i64 0, .int .i64 0]) 2 16 Try.underlying30 hi hz0 hz1 hz2 rfl (by decide) (.slice (some ⟨bO, 0, none⟩) (jumps out).length cO) (jumps out).length (jrow (jumps out)) rfl (World.ownsRow.alloc own4 _) ⟨W4.heap.size, 0, none⟩ 1 1 [.int .i64 (g H 0).a, .int .i64 (g H 0).n] rfl rfl (World.news_of_block (heap_alloc_new (W4.drewN nq) (.cells #[.int .i64 (g H 0).a, .int .i64 (g H 0).n] 27))) (by simp [Value.oneCell']) (by simp only [maxLen]; omega) (by omega) ?_; intro vO2 w5 r5 g5 n5)
        have r5' : JR w5 vO2 (jumps (out ++ [g H 0])) := by
          unfold JR
          rw [jumps_snoc, jrow_app, List.length_append]
          exact r5
        have kg : Kept (fun j => (Value.slice (some ⟨bO, 0, none⟩) (jumps out).length cO).ownBlock = some j) W4 w5 := (((Kept.refl _ W4).drewN nq).alloc _).grown g5 (fun j hj _ => hj)
        have hn5 : ∀ j, vO2.ownBlock = some j → (Value.slice (some ⟨bO, 0, none⟩) (jumps out).length cO).ownBlock = some j ∨ W4.heap.size ≤ j := fun j hj => by
          rcases n5 with e | ⟨k', e, hk'⟩
          · exact .inl (by rw [← e]; exact hj)
          · rw [hj] at e
            injection e with e
            have : ((W4.drewN nq).alloc (.cells #[.int .i64 (g H 0).a, .int .i64 (g H 0).n] 27)).heap.size = W4.heap.size + 1 := by simp
            exact .inr (by omega)
        have IN := I.next hp2 hH2 Q3 K3 o2 kB r5' kg hn5
        clear r5 g5 n5 own4 r5' kg hn5
        go_wp2_with fail
        go_roundw
        case rel => exact ⟨q + 1 + 1, H2, vH2, _, by omega, by go_num, IN⟩
        case measure => simp [intOf]; omega
    · have hkl : k = L.length := by omega
      have hH0' : H = [] := List.eq_nil_of_length_eq_zero (by omega)
      subst hH0'
      have hP := I.pops.end_
      have hJ : jumps K0 = L := HJ.out
      rw [hJ] at hP
      obtain ⟨AO, cO, rfl, _, _⟩ := I.row.shape
      have hol : (jumps out).length = L.length := by rw [jumps_len, I.len, hkl]
      have KK := I.kept
      have hq := I.q
      have hrow := I.row
      have HOL := Lib.hid hol
      rw [hol]
      clear hall hkl I hol HK HJ hJ
      generalize jumps out = O at *
      have hsrc : ∀ j, j < L.length → ∃ b off, A = some ⟨b, off, none⟩ ∧ wr.cell? ⟨b, off + j * 2, none⟩ = some (.int .i64 (gj L j).1) ∧ wr.cell? ⟨b, off + j * 2 + 1, none⟩ = some (.int .i64 (gj L j).2) := fun j hj => by
        obtain ⟨b, off, e, _, c0, c1⟩ := h j hj
        exact ⟨b, off, e, KK.cell c0 (fun q => q), KK.cell c1 (fun q => q)⟩
      have hout : ∀ j, j < L.length → ∃ b, AO = some ⟨b, 0, none⟩ ∧ wr.cell? ⟨b, j * 2, none⟩ = some (.int .i64 (gj O j).1) ∧ wr.cell? ⟨b, j * 2 + 1, none⟩ = some (.int .i64 (gj O j).2) := fun j hj => by
        have hO := HOL.out
        have hne : O ≠ [] := fun e => by rw [e] at hO; simp at hO; omega
        obtain ⟨b, c', hv, _, _, _, hc⟩ := hrow.cells hne
        injection hv with hv _ _
        obtain ⟨c0, c1⟩ := hc j (by omega)
        exact ⟨b, hv, c0, c1⟩
      have HSRC := Lib.hid hsrc
      have HOUT := Lib.hid hout
      have HP := Lib.hid hP
      clear hsrc hout hP hrow
      go_wp2_with fail
      go_loopw [8] (fun i w' => ∃ k n : Nat, k ≤ L.length ∧ i = .int .i64 k ∧ w' = wr.drewN n) (fun i _ => L.length - (intOf i).toNat)
      case atStart => exact ⟨0, 0, Nat.zero_le _, rfl, rfl⟩
      case round =>
        obtain ⟨i, n, hk, rfl, rfl⟩ := hrel
        by_cases hlt : i < L.length
        · obtain ⟨b, off, rfl, y0, y1⟩ := HSRC.out i hlt
          obtain ⟨bO, rfl, _, _⟩ := HOUT.out i hlt
          go_wp2_with fail
          go_loopw [9, 10] (fun nv jv w' => ∃ j n : Nat, j ≤ L.length ∧ nv = .int .i64 (cnt (gj L i) (L.take j) - cnt (gj L i) (O.take j)) ∧ jv = .int .i64 j ∧ w' = wr.drewN n) (fun _ jv _ => L.length - (intOf jv).toNat)
          case atStart => exact ⟨0, n, Nat.zero_le _, rfl, rfl, rfl⟩
          case round =>
            obtain ⟨j, n, hj, rfl, rfl, rfl⟩ := hrel
            by_cases hjt : j < L.length
            · obtain ⟨b', off', hv, x0, x1⟩ := HSRC.out j hjt
              obtain ⟨bO', hv2, z0, z1⟩ := HOUT.out j hjt
              injection hv with hv
              injection hv with h1 h2
              subst h1 h2
              injection hv2 with hv2
              injection hv2 with h1
              subst h1
              have t1 := cnt_take (gj L i) L j hjt
              have t2 := cnt_take (gj L i) O j (by rw [HOL.out]; exact hjt)
              have bd1 := cnt_bd (gj L i) L j
              have bd2 := cnt_bd (gj L i) O j
              have hii : (i : Int) < (L.length : Int) := by omega
              have hji : (j : Int) < (L.length : Int) := by omega
              by_cases e1 : gj L j = gj L i
              · rw [if_pos e1] at t1
                have w1 := congrArg Prod.fst e1
                have w2 := congrArg Prod.snd e1
                rw [w1] at x0
                rw [w2] at x1
                clear w1 w2
                by_cases e2 : gj O j = gj L i
                · rw [if_pos e2] at t2
                  have w1 := congrArg Prod.fst e2
                  have w2 := congrArg Prod.snd e2
                  rw [w1] at z0
                  rw [w2] at z1
                  clear w1 w2
                  go_wp2
                  go_quiet (fail)
                  go_wp2
                  go_quiet (fail)
                  go_wp2
                  go_roundw
                  case rel => exact ⟨j + 1, _, by omega, int_eq (by rw [t1, t2]; omega), by go_num, rfl⟩
                  case measure => simp [intOf]; omega
                · rw [if_neg e2] at t2
                  rcases jne2 e2 with hb2 | hb2
                  · have tok := True.intro
                    go_wp2
                    go_quiet (fail)
                    go_wp2
                    go_quiet (fail)
                    go_wp2
                    go_roundw
                    case rel => exact ⟨j + 1, _, by omega, int_eq (by rw [t1, t2]; omega), by go_num, rfl⟩
                    case measure => simp [intOf]; omega
                  · obtain ⟨w1, hb2⟩ := hb2
                    rw [w1] at z0
                    clear w1
                    go_wp2
                    go_quiet (fail)
                    go_wp2
                    go_quiet (fail)
                    go_wp2
                    go_roundw
                    case rel => exact ⟨j + 1, _, by omega, int_eq (by rw [t1, t2]; omega), by go_num, rfl⟩
                    case measure => simp [intOf]; omega
              · rw [if_neg e1] at t1
                rcases jne2 e1 with hb1 | hb1
                · have tok := True.intro
                  by_cases e2 : gj O j = gj L i
                  · rw [if_pos e2] at t2
                    have w1 := congrArg Prod.fst e2
                    have w2 := congrArg Prod.snd e2
                    rw [w1] at z0
                    rw [w2] at z1
                    clear w1 w2
                    go_wp2
                    go_quiet (fail)
                    go_wp2
                    go_quiet (fail)
                    go_wp2
                    go_roundw
                    case rel => exact ⟨j + 1, _, by omega, int_eq (by rw [t1, t2]; omega), by go_num, rfl⟩
                    case measure => simp [intOf]; omega
                  · rw [if_neg e2] at t2
                    rcases jne2 e2 with hb2 | hb2
                    · have tok := True.intro
                      go_wp2
                      go_quiet (fail)
                      go_wp2
                      go_quiet (fail)
                      go_wp2
                      go_roundw
                      case rel => exact ⟨j + 1, _, by omega, int_eq (by rw [t1, t2]; omega), by go_num, rfl⟩
                      case measure => simp [intOf]; omega
                    · obtain ⟨w1, hb2⟩ := hb2
                      rw [w1] at z0
                      clear w1
                      go_wp2
                      go_quiet (fail)
                      go_wp2
                      go_quiet (fail)
                      go_wp2
                      go_roundw
                      case rel => exact ⟨j + 1, _, by omega, int_eq (by rw [t1, t2]; omega), by go_num, rfl⟩
                      case measure => simp [intOf]; omega
                · obtain ⟨w1, hb1⟩ := hb1
                  rw [w1] at x0
                  clear w1
                  by_cases e2 : gj O j = gj L i
                  · rw [if_pos e2] at t2
                    have w1 := congrArg Prod.fst e2
                    have w2 := congrArg Prod.snd e2
                    rw [w1] at z0
                    rw [w2] at z1
                    clear w1 w2
                    go_wp2
                    go_quiet (fail)
                    go_wp2
                    go_quiet (fail)
                    go_wp2
                    go_roundw
                    case rel => exact ⟨j + 1, _, by omega, int_eq (by rw [t1, t2]; omega), by go_num, rfl⟩
                    case measure => simp [intOf]; omega
                  · rw [if_neg e2] at t2
                    rcases jne2 e2 with hb2 | hb2
                    · have tok := True.intro
                      go_wp2
                      go_quiet (fail)
                      go_wp2
                      go_quiet (fail)
                      go_wp2
                      go_roundw
                      case rel => exact ⟨j + 1, _, by omega, int_eq (by rw [t1, t2]; omega), by go_num, rfl⟩
                      case measure => simp [intOf]; omega
                    · obtain ⟨w1, hb2⟩ := hb2
                      rw [w1] at z0
                      clear w1
                      go_wp2
                      go_quiet (fail)
                      go_wp2
                      go_quiet (fail)
                      go_wp2
                      go_roundw
                      case rel => exact ⟨j + 1, _, by omega, int_eq (by rw [t1, t2]; omega), by go_num, rfl⟩
                      case measure => simp [intOf]; omega
            · have hjn : j = L.length := by omega
              have hz : cnt (gj L i) (L.take j) - cnt (gj L i) (O.take j) = 0 := by
                have := HP.out (gj L i)
                rw [hjn, List.take_length, ← HOL.out, List.take_length]
                omega
              clear hjn
              go_wp2
              go_roundw
              case rel => exact ⟨i + 1, n, by omega, by go_num, rfl⟩
              case measure => simp [intOf]; omega
        · go_wp2_with fail
          refine (live_any _).mono ?_
          rintro e u1 ⟨rfl, l1⟩
          have KL := (KK.drewN n).trans l1
          have hlen := len_any u1 c _ [] T ((hq.drewN n).kept l1 (fun _ _ q => q))
          go_wp2_with fail
          refine hlen.mono ?_
          rintro e u2 ⟨rfl, rfl⟩
          go_wp2_with fail
          go_ret
          exact ⟨rfl, KL⟩
end Go.Proofs.Ytagcfomjbnecdaa
