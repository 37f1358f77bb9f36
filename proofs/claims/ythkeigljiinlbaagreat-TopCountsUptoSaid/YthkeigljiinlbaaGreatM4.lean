/- Picked out of the text N of TopExprs. -/
import Derived.Test.YthkeigljiinlbaaGreatM3
namespace Go.Proofs.YthkeigljiinlbaaGreat
open Go.RowKit

/-- The state of the loop: j groups are read. -/
structure GI (B : List UInt8) (i n : Nat) (rest : List UInt8) (j a r : Nat) : Prop where
  sum : n = a + r * 128 ^ j
  lt : a < 128 ^ j
  pos : 0 < j → 0 < r
  at_ : B.drop (i + j) = Lib.uvarint r ++ rest
  len : j + (Lib.uvarint r).length = (Lib.uvarint n).length
theorem GI.small {B : List UInt8} {i n j a r : Nat} {rest : List UInt8} (h : GI B i n rest j a r) (hn : n < 18446744073709551616) : j = 9 → r ≤ 1 := by
  rintro rfl
  have h1 := h.sum
  rcases Nat.lt_or_ge 1 r with h2 | h2
  · have : 2 * 128 ^ 9 ≤ r * 128 ^ 9 := Nat.mul_le_mul_right _ h2
    omega
  · exact h2

end Go.Proofs.YthkeigljiinlbaaGreat

/- Picked out of the text Q of TopExprs. -/
namespace Go.Proofs.YthkeigljiinlbaaGreat
open Go.RowKit

theorem encW_one : ∀ x, ∀ u ∈ encW x, u.oneCell' = true := by simp [encW, Value.oneCell']

end Go.Proofs.YthkeigljiinlbaaGreat

/- Picked out of the text S of TopExprs. -/
namespace Go.Proofs.YthkeigljiinlbaaGreat
open Go.RowKit

set_option maxHeartbeats 1000000 in
set_option maxRecDepth 100000 in
theorem equalV (L M : List Wd) (A B : Option Addr) (c d : Nat) (w : World) (h : Src encW 3 w (fun _ => False) A L) (k : Src encW 3 w (fun _ => False) B M) (hl : L.length ≤ maxLen) (hm : M.length ≤ maxLen) :
    Calls Tryz.prog 63 #[.slice A L.length c, .slice B M.length d] w fun e w' => e = .returned (.bool (decide (L = M))) ∧ ∃ n, w' = w.drewN n := by
  unfold maxLen at hl hm
  by_cases hlm : L.length = M.length
  · have hb : ((L.length : Int) == (M.length : Int)) = true := by rw [hlm]; simp
    have hb2 : ((L.length : Int) != (M.length : Int)) = false := by rw [hlm]; simp
    generalize hR0 : decide (L = M) = R
    have hR : Hid (decide (L = M) = R) := hR0
    have hlm' : Hid (L.length = M.length) := hlm
    clear hR0 hlm
    go_enter Tryz.func63, Tryz.ntmps63
    go_wp2_with fail
    go_loopg [5, 13] L.length (fun g _ iv wr => ∃ n m : Nat, n + g = L.length ∧ iv = .int .i64 n ∧ L.take n = M.take n ∧ wr = w.drewN m)
    case atStart => exact ⟨0, 0, by omega, rfl, rfl, rfl⟩
    case round =>
      obtain ⟨n, m, hk, rfl, htk, rfl⟩ := hrel
      by_cases hlt : n < L.length
      · have hltM : n < M.length := by unfold Hid at hlm'; omega
        obtain ⟨x, hx⟩ : ∃ x, L[n]? = some x := ⟨L[n], List.getElem?_eq_getElem hlt⟩
        obtain ⟨y, hy⟩ : ∃ y, M[n]? = some y := ⟨M[n], List.getElem?_eq_getElem hltM⟩
        obtain ⟨b, off, rfl, _, x0, x1, x2⟩ := h.cells3 hx
        obtain ⟨b', off', rfl, _, y0, y1, y2⟩ := k.cells3 hy
        have hn1 := List.take_add_one (l := L) (i := n)
        have hn2 := List.take_add_one (l := M) (i := n)
        rw [hx] at hn1
        rw [hy] at hn2
        by_cases hxy : x = y
        · subst hxy
          have htk2 : Hid (L.take (n + 1) = M.take (n + 1)) := by unfold Hid; rw [hn1, hn2, htk]
          clear htk hn1 hn2 hx hy
          have hlt' : (n : Int) < (L.length : Int) := by omega
          have hltM' : (n : Int) < (M.length : Int) := by omega
          go_wp2_with fail
          go_quiet (fail)
          go_wp2_with fail
          go_roundg (gk - 1)
          case measure => omega
          case rel => exact ⟨n + 1, m + nq, by omega, int_eq (by omega), htk2, by first | rfl | exact World.drewN_drewN _ _ _⟩
        · have hRf : Hid (R = false) := by
            have : decide (L = M) = R := hR
            rw [← this, decide_eq_false_iff_not]
            rintro rfl
            rw [hx] at hy
            injection hy with hy
            exact hxy hy
          clear htk hn1 hn2 hx hy
          have hlt' : (n : Int) < (L.length : Int) := by omega
          have hltM' : (n : Int) < (M.length : Int) := by omega
          obtain ⟨xc, xn, xt⟩ := x
          obtain ⟨yc, yn, yt⟩ := y
          simp only at x0 x1 x2 y0 y1 y2
          by_cases g1 : xc = yc
          · subst g1
            by_cases g2 : xn = yn
            · subst g2
              have g3 : (xt == yt) = false := by
                rw [beq_eq_false_iff_ne]; rintro rfl; exact hxy rfl
              clear hxy
              go_wp2_with fail
              go_quiet (fail)
              go_wp2_with fail
              go_ret
              exact ⟨ret_bool hRf.symm, m + nq, by first | rfl | exact World.drewN_drewN _ _ _⟩
            · have g3 : (xn == yn) = false := by simpa using g2
              clear hxy g2
              go_wp2_with fail
              go_quiet (fail)
              go_wp2_with fail
              go_ret
              exact ⟨ret_bool hRf.symm, m + nq, by first | rfl | exact World.drewN_drewN _ _ _⟩
          · have g3 : (xc == yc) = false := by simpa using g1
            clear hxy g1
            go_wp2_with fail
            go_quiet (fail)
            go_wp2_with fail
            go_ret
            exact ⟨ret_bool hRf.symm, m + nq, by first | rfl | exact World.drewN_drewN _ _ _⟩
      · have e : n = L.length := by omega
        subst e
        have hRt : Hid (R = true) := by
          have : decide (L = M) = R := hR
          have q := hlm'
          unfold Hid at q
          rw [← this, decide_eq_true_iff]
          rw [List.take_length, q, List.take_length] at htk
          exact htk
        clear htk
        go_wp2_with fail
        go_ret
        exact ⟨ret_bool hRt.symm, _, rfl⟩
  · have hb : ((L.length : Int) == (M.length : Int)) = false := by rw [beq_eq_false_iff_ne]; omega
    have hb2 : ((L.length : Int) != (M.length : Int)) = true := by rw [bne_iff_ne]; omega
    have hR : decide (L = M) = false := by rw [decide_eq_false_iff_not]; rintro rfl; exact hlm rfl
    rw [hR]
    clear hR hlm
    go_enter Tryz.func63, Tryz.ntmps63
    go_wp2_with fail
    go_ret
    exact ⟨rfl, 0, rfl⟩

theorem rsame_any (L M : List Wd) (A B : Option Addr) (c d : Nat) (w : World) (h : Src encW 3 w (fun _ => False) A L) (k : Src encW 3 w (fun _ => False) B M) (hl : L.length ≤ maxLen) (hm : M.length ≤ maxLen) :
    Calls Tryz.prog 25 #[.slice A L.length c, .slice B M.length d] w fun e w' => e = .returned (.bool (decide (L = M))) ∧ ∃ n, w' = w.drewN n := by
  have he := equalV L M A B c d w h k hl hm
  go_enter Tryz.func25, Tryz.ntmps25
  go_wp2_with fail
  refine he.mono ?_
  rintro e w' ⟨rfl, n, rfl⟩
  go_wp2_with fail
  go_ret
  exact ⟨rfl, n, rfl⟩
end Go.Proofs.YthkeigljiinlbaaGreat
