/- Picked out of the text C of TopExprs. -/
import Derived.Test.YthkeigljiinlbaaGreatM1
import Derived.Test.YthkeigljiinlbaaGreatL
import Derived.Lib.IndexLaws
namespace Go.Proofs.YthkeigljiinlbaaGreat
open Go.RowKit

def letterB (c : UInt8) : Bool := decide (97 ≤ (c.toNat : Int) ∧ (c.toNat : Int) ≤ 122)
theorem kind_any (k : Int) (w : World) : Calls Tryz.prog 103 #[.int .i64 k] w fun e w' => e = .returned (.bool (decide (k = 1 ∨ k = 2))) ∧ w' = w := by
  go_enter Tryz.func103, Tryz.ntmps103
  go_wp2
  all_goals go_ret
  all_goals refine ⟨ret_bool ?_, rfl⟩
  all_goals rw [Bool.eq_iff_iff]
  all_goals simp
  all_goals omega

def fairB (n : Int) : Bool := decide (-1048576 ≤ n ∧ n ≤ 1048576)
theorem fair_any (n : Int) (w : World) : Calls Tryz.prog 59 #[.int .i64 n] w fun e w' => e = .returned (.bool (fairB n)) ∧ w' = w := by
  unfold fairB
  go_enter Tryz.func59, Tryz.ntmps59
  go_wp2
  all_goals go_ret
  all_goals refine ⟨ret_bool ?_, rfl⟩
  all_goals rw [Bool.eq_iff_iff]
  all_goals simp
  all_goals omega

end Go.Proofs.YthkeigljiinlbaaGreat

/- Picked out of the text D of TopExprs. -/
namespace Go.Proofs.YthkeigljiinlbaaGreat
open Go.RowKit

/-- A word's code between two things, at a level. -/
def codeI (level : Int) (s : List UInt8) : Int :=
  if level = 1 then (if s = [111, 114] then 20 else 0)
  else if level = 2 then (if s = [97, 110, 100] then 19 else 0)
  else if level = 4 then (if s = [61] then 13 else if s = [60, 62] then 14 else if s = [60] then 15 else if s = [60, 61] then 16 else if s = [62] then 17 else if s = [62, 61] then 18 else 0)
  else if level = 5 then (if s = [43] then 7 else if s = [45] then 8 else if s = [43, 43] then 12 else 0)
  else if level = 6 then (if s = [42] then 9 else if s = [47] then 10 else if s = [37] then 11 else 0)
  else 0
def lodB (c : UInt8) : Bool := letterB c || digitB c
def wordB (s : List UInt8) : Bool := decide (s = [97, 110, 100] ∨ s = [111, 114] ∨ s = [110, 111, 116] ∨ s = [108, 101, 110])
/-- Is it a name? -/
def nameB (s : List UInt8) : Bool := decide (1 ≤ s.length ∧ s.length ≤ 16) && letterB (s.headD 0) && s.all lodB && !wordB s
theorem name_len {s : List UInt8} (h : ¬ (1 ≤ s.length ∧ s.length ≤ 16)) : nameB s = false := by unfold nameB; simp [h]
set_option maxHeartbeats 1000000 in
theorem name_any (s : List UInt8) (w : World) : Calls Tryz.prog 102 #[.string ⟨⟨s⟩⟩] w fun e w' => e = .returned (.bool (nameB s)) ∧ w' = w := by
  by_cases hl : 1 ≤ s.length ∧ s.length ≤ 16
  · obtain ⟨h1, h2⟩ := hl
    obtain ⟨c, q, hs⟩ : ∃ c q, s = c :: q := by cases s with | nil => simp at h1 | cons c q => exact ⟨c, q, rfl⟩
    have h0 : ∀ h, (⟨⟨s⟩⟩ : ByteArray)[0]'h = c := by subst hs; exact fun _ => rfl
    have hc : c.toNat < 256 := c.toNat_lt
    have hg : ∀ i (h : i < (⟨⟨s⟩⟩ : ByteArray).size), (⟨⟨s⟩⟩ : ByteArray)[i]'h = s[i]'h := fun i h => rfl
    have hh : Hid (s.headD 0 = c) := by subst hs; rfl
    clear hs
    by_cases hlo : (c.toNat : Int) < 97
    · have hn : Hid (nameB s = false) := by
        unfold Hid nameB
        rw [show s.headD 0 = c from hh]
        have : letterB c = false := by unfold letterB; simp; omega
        simp [this]
      clear hg
      go_enter Tryz.func102, Tryz.ntmps102
      go_wp2
      go_ret
      exact ⟨ret_bool hn.symm, rfl⟩
    · have hlo' : 97 ≤ (c.toNat : Int) := by omega
      go_enter Tryz.func102, Tryz.ntmps102
      go_upto_region 3 with fail
      clear h0
      go_wp2_with fail
      go_loopg [3, 4, 20] s.length (fun k _ _ i wr => ∃ n : Nat, n + k = s.length ∧ i = .int .i64 n ∧ (s.take n).all lodB = true ∧ w = wr)
      case atStart => exact ⟨0, by omega, rfl, rfl, rfl⟩
      case round =>
        obtain ⟨n, hk, rfl, hall, rfl⟩ := hrel
        by_cases hlt : n < s.length
        · obtain ⟨x, hx⟩ : ∃ x, s[n]? = some x := ⟨s[n], List.getElem?_eq_getElem hlt⟩
          have hx' : s[n] = x := by rw [List.getElem?_eq_getElem hlt] at hx; injection hx
          have htk := List.take_add_one (l := s) (i := n)
          have hsome : (some x).toList = [x] := rfl
          rw [hx, hsome] at htk
          have hmem : x ∈ s := by rw [← hx']; exact List.getElem_mem hlt
          cases hlod : lodB x with
          | true =>
            have hall2 : Hid ((s.take (n + 1)).all lodB = true) := by unfold Hid; rw [htk, List.all_append, hall]; simp [hlod]
            have hcs : (97 ≤ (x.toNat : Int) ∧ (x.toNat : Int) ≤ 122) ∨ (48 ≤ (x.toNat : Int) ∧ (x.toNat : Int) ≤ 57) := by
              simp [lodB, letterB, digitB] at hlod; omega
            clear hx hall hmem htk hlod hsome
            rcases hcs with ⟨d1, d2⟩ | ⟨d1, d2⟩
            · go_wp2_with fail
              go_roundg (gk - 1)
              case measure => omega
              case rel => exact ⟨n + 1, by omega, int_eq (by omega), hall2, rfl⟩
            · have d3 : (x.toNat : Int) < 97 := by omega
              go_wp2_with fail
              go_roundg (gk - 1)
              case measure => omega
              case rel => exact ⟨n + 1, by omega, int_eq (by omega), hall2, rfl⟩
          | false =>
            have hn : Hid (nameB s = false) := by
              unfold Hid nameB
              have : s.all lodB = false := by
                rw [Bool.eq_false_iff]; intro h
                rw [List.all_eq_true] at h
                rw [h x hmem] at hlod; cases hlod
              simp [this]
            have hcs : (122 < (x.toNat : Int)) ∨ (57 < (x.toNat : Int) ∧ (x.toNat : Int) < 97) ∨ ((x.toNat : Int) < 48) := by
              simp [lodB, letterB, digitB] at hlod; omega
            clear hx hall hmem htk hlod hsome
            rcases hcs with d1 | ⟨d1, d2⟩ | d1
            · have d2 : 97 ≤ (x.toNat : Int) := by omega
              have d3 : 48 ≤ (x.toNat : Int) := by omega
              have d4 : 57 < (x.toNat : Int) := by omega
              have d5 : decide ((x.toNat : Int) ≤ 122) = false := by simp; omega
              go_wp2_with fail
              go_ret
              exact ⟨ret_bool hn.symm, rfl⟩
            · have d3 : 48 ≤ (x.toNat : Int) := by omega
              go_wp2_with fail
              go_ret
              exact ⟨ret_bool hn.symm, rfl⟩
            · have d3 : (x.toNat : Int) < 97 := by omega
              go_wp2_with fail
              go_ret
              exact ⟨ret_bool hn.symm, rfl⟩
        · have e : n = s.length := by omega
          subst e
          rw [List.take_length] at hall
          have hn : Hid (nameB s = !wordB s) := by
            unfold Hid nameB
            rw [show s.headD 0 = c from hh]
            have : letterB c = true := by
              have hm : lodB c = true := by
                rw [List.all_eq_true] at hall
                refine hall c ?_
                have h3 : s.headD 0 = c := hh
                cases s with
                | nil => simp at h1
                | cons a b => simp at h3; subst h3; simp
              simp [lodB, letterB, digitB] at hm
              unfold letterB; simp; omega
            simp [this, hall, h1, h2]
          have hw : wordB s = ((s == [97, 110, 100]) || (s == [111, 114]) || (s == [110, 111, 116]) || (s == [108, 101, 110])) := by
            unfold wordB; rw [Bool.eq_iff_iff]; simp [or_assoc]
          have hn2 : Hid (nameB s = !((s == [97, 110, 100]) || (s == [111, 114]) || (s == [110, 111, 116]) || (s == [108, 101, 110]))) := by rw [← hw]; exact hn
          clear hall hh hlo hlo' hw hn
          cases b1 : (s == [97, 110, 100]) with
          | true =>
            have hn3 : Hid (nameB s = false) := by unfold Hid; rw [show nameB s = _ from hn2, b1]; rfl
            go_wp2_with fail
            go_ret
            exact ⟨ret_bool hn3.symm, rfl⟩
          | false =>
            cases b2 : (s == [111, 114]) with
            | true =>
              have hn3 : Hid (nameB s = false) := by unfold Hid; rw [show nameB s = _ from hn2, b1, b2]; rfl
              go_wp2_with fail
              go_ret
              exact ⟨ret_bool hn3.symm, rfl⟩
            | false =>
              cases b3 : (s == [110, 111, 116]) with
              | true =>
                have hn3 : Hid (nameB s = false) := by unfold Hid; rw [show nameB s = _ from hn2, b1, b2, b3]; rfl
                go_wp2_with fail
                go_ret
                exact ⟨ret_bool hn3.symm, rfl⟩
              | false =>
                cases b4 : (s == [108, 101, 110]) with
                | true =>
                  have hn3 : Hid (nameB s = false) := by unfold Hid; rw [show nameB s = _ from hn2, b1, b2, b3, b4]; rfl
                  go_wp2_with fail
                  go_ret
                  exact ⟨ret_bool hn3.symm, rfl⟩
                | false =>
                  have hn3 : Hid (nameB s = true) := by unfold Hid; rw [show nameB s = _ from hn2, b1, b2, b3, b4]; rfl
                  go_wp2_with fail
                  go_ret
                  exact ⟨ret_bool hn3.symm, rfl⟩
  · rw [name_len hl]
    by_cases h1 : s.length < 1
    · have h1' : decide ((s.length : Int) < 1) = true := by simp; omega
      go_enter Tryz.func102, Tryz.ntmps102
      go_wp2_with fail
      go_ret
      exact ⟨rfl, rfl⟩
    · have h1' : decide ((s.length : Int) < 1) = false := by simp; omega
      have h2' : decide (16 < (s.length : Int)) = true := by simp; omega
      go_enter Tryz.func102, Tryz.ntmps102
      go_wp2_with fail
      go_ret
      exact ⟨rfl, rfl⟩
end Go.Proofs.YthkeigljiinlbaaGreat

/- Picked out of the text F of TopExprs. -/
namespace Go.Proofs.YthkeigljiinlbaaGreat
open Go.RowKit

structure Tok where
  k : Int
  t : List UInt8
deriving DecidableEq
end Go.Proofs.YthkeigljiinlbaaGreat
