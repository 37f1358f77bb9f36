/- slices.Equal at words of expressions and at values (they have the same parts). -/
import Derived.Test.YtballmombklalaaGreatM10
namespace Go.Proofs.YtballmombklalaaGreat
open Go.RowKit

set_option maxHeartbeats 1000000 in
set_option maxRecDepth 100000 in
theorem equalW (L M : List Wd) (A B : Option Addr) (c d : Nat) (w : World) (h : Src encW 3 w (fun _ => False) A L) (k : Src encW 3 w (fun _ => False) B M) (hl : L.length ≤ maxLen) (hm : M.length ≤ maxLen) :
    Calls Tryz.prog 27 #[.slice A L.length c, .slice B M.length d] w fun e w' => e = .returned (.bool (decide (L = M))) ∧ ∃ n, w' = w.drewN n := by
  unfold maxLen at hl hm
  by_cases hlm : L.length = M.length
  · have hb : ((L.length : Int) == (M.length : Int)) = true := by rw [hlm]; simp
    have hb2 : ((L.length : Int) != (M.length : Int)) = false := by rw [hlm]; simp
    generalize hR0 : decide (L = M) = R
    have hR : Hid (decide (L = M) = R) := hR0
    have hlm' : Hid (L.length = M.length) := hlm
    clear hR0 hlm
    go_enter Tryz.func27, Tryz.ntmps27
    go_wp2_with fail
    go_loopg [5, 13] L.length (fun g _ iv wr => ∃ n m : Nat, n + g = L.length ∧ iv = .int .i64 n ∧ L.take n = M.take n ∧ wr = w.drewN m)
    case atStart => exact ⟨0, 0, by omega, rfl, rfl, rfl⟩
    case round =>
      obtain ⟨n, m, hk, rfl, htk, rfl⟩ := hrel
      by_cases hlt : n < L.length
      · have hltM : n < M.length := by unfold Hid at hlm'; omega
        obtain ⟨x, hx⟩ : ∃ x, L[n]? = some x := ⟨L[n], List.getElem?_eq_getElem hlt⟩
        obtain ⟨y, hy⟩ : ∃ y, M[n]? = some y := ⟨M[n], List.getElem?_eq_getElem hltM⟩
        obtain ⟨b, off, rfl, _, x0, x1, x2⟩ := h.cells3 hx
        obtain ⟨b', off', rfl, _, y0, y1, y2⟩ := k.cells3 hy
        have hn1 := List.take_add_one (l := L) (i := n)
        have hn2 := List.take_add_one (l := M) (i := n)
        rw [hx] at hn1
        rw [hy] at hn2
        by_cases hxy : x = y
        · subst hxy
          have htk2 : Hid (L.take (n + 1) = M.take (n + 1)) := by unfold Hid; rw [hn1, hn2, htk]
          clear htk hn1 hn2 hx hy
          have hlt' : (n : Int) < (L.length : Int) := by omega
          have hltM' : (n : Int) < (M.length : Int) := by omega
          go_wp2_with fail
          go_quiet (fail)
          go_wp2_with fail
          go_roundg (gk - 1)
          case measure => omega
          case rel => exact ⟨n + 1, m + nq, by omega, int_eq (by omega), htk2, by first | rfl | exact World.drewN_drewN _ _ _⟩
        · have hRf : Hid (R = false) := by
            have : decide (L = M) = R := hR
            rw [← this, decide_eq_false_iff_not]
            rintro rfl
            rw [hx] at hy
            injection hy with hy
            exact hxy hy
          clear htk hn1 hn2 hx hy
          have hlt' : (n : Int) < (L.length : Int) := by omega
          have hltM' : (n : Int) < (M.length : Int) := by omega
          obtain ⟨xc, xn, xt⟩ := x
          obtain ⟨yc, yn, yt⟩ := y
          simp only at x0 x1 x2 y0 y1 y2
          by_cases g1 : xc = yc
          · subst g1
            by_cases g2 : xn = yn
            · subst g2
              have g3 : (xt == yt) = false := by
                rw [beq_eq_false_iff_ne]; rintro rfl; exact hxy rfl
              clear hxy
              go_wp2_with fail
              go_quiet (fail)
              go_wp2_with fail
              go_ret
              exact ⟨ret_bool hRf.symm, m + nq, by first | rfl | exact World.drewN_drewN _ _ _⟩
            · have g3 : (xn == yn) = false := by simpa using g2
              clear hxy g2
              go_wp2_with fail
              go_quiet (fail)
              go_wp2_with fail
              go_ret
              exact ⟨ret_bool hRf.symm, m + nq, by first | rfl | exact World.drewN_drewN _ _ _⟩
          · have g3 : (xc == yc) = false := by simpa using g1
            clear hxy g1
            go_wp2_with fail
            go_quiet (fail)
            go_wp2_with fail
            go_ret
            exact ⟨ret_bool hRf.symm, m + nq, by first | rfl | exact World.drewN_drewN _ _ _⟩
      · have e : n = L.length := by omega
        subst e
        have hRt : Hid (R = true) := by
          have : decide (L = M) = R := hR
          have q := hlm'
          unfold Hid at q
          rw [← this, decide_eq_true_iff]
          rw [List.take_length, q, List.take_length] at htk
          exact htk
        clear htk
        go_wp2_with fail
        go_ret
        exact ⟨ret_bool hRt.symm, _, rfl⟩
  · have hb : ((L.length : Int) == (M.length : Int)) = false := by rw [beq_eq_false_iff_ne]; omega
    have hb2 : ((L.length : Int) != (M.length : Int)) = true := by rw [bne_iff_ne]; omega
    have hR : decide (L = M) = false := by rw [decide_eq_false_iff_not]; rintro rfl; exact hlm rfl
    rw [hR]
    clear hR hlm
    go_enter Tryz.func27, Tryz.ntmps27
    go_wp2_with fail
    go_ret
    exact ⟨rfl, 0, rfl⟩

set_option maxHeartbeats 1000000 in
set_option maxRecDepth 100000 in
theorem equalV (L M : List Wd) (A B : Option Addr) (c d : Nat) (w : World) (h : Src encW 3 w (fun _ => False) A L) (k : Src encW 3 w (fun _ => False) B M) (hl : L.length ≤ maxLen) (hm : M.length ≤ maxLen) :
    Calls Tryz.prog 68 #[.slice A L.length c, .slice B M.length d] w fun e w' => e = .returned (.bool (decide (L = M))) ∧ ∃ n, w' = w.drewN n := by
  unfold maxLen at hl hm
  by_cases hlm : L.length = M.length
  · have hb : ((L.length : Int) == (M.length : Int)) = true := by rw [hlm]; simp
    have hb2 : ((L.length : Int) != (M.length : Int)) = false := by rw [hlm]; simp
    generalize hR0 : decide (L = M) = R
    have hR : Hid (decide (L = M) = R) := hR0
    have hlm' : Hid (L.length = M.length) := hlm
    clear hR0 hlm
    go_enter Tryz.func68, Tryz.ntmps68
    go_wp2_with fail
    go_loopg [5, 13] L.length (fun g _ iv wr => ∃ n m : Nat, n + g = L.length ∧ iv = .int .i64 n ∧ L.take n = M.take n ∧ wr = w.drewN m)
    case atStart => exact ⟨0, 0, by omega, rfl, rfl, rfl⟩
    case round =>
      obtain ⟨n, m, hk, rfl, htk, rfl⟩ := hrel
      by_cases hlt : n < L.length
      · have hltM : n < M.length := by unfold Hid at hlm'; omega
        obtain ⟨x, hx⟩ : ∃ x, L[n]? = some x := ⟨L[n], List.getElem?_eq_getElem hlt⟩
        obtain ⟨y, hy⟩ : ∃ y, M[n]? = some y := ⟨M[n], List.getElem?_eq_getElem hltM⟩
        obtain ⟨b, off, rfl, _, x0, x1, x2⟩ := h.cells3 hx
        obtain ⟨b', off', rfl, _, y0, y1, y2⟩ := k.cells3 hy
        have hn1 := List.take_add_one (l := L) (i := n)
        have hn2 := List.take_add_one (l := M) (i := n)
        rw [hx] at hn1
        rw [hy] at hn2
        by_cases hxy : x = y
        · subst hxy
          have htk2 : Hid (L.take (n + 1) = M.take (n + 1)) := by unfold Hid; rw [hn1, hn2, htk]
          clear htk hn1 hn2 hx hy
          have hlt' : (n : Int) < (L.length : Int) := by omega
          have hltM' : (n : Int) < (M.length : Int) := by omega
          go_wp2_with fail
          go_quiet (fail)
          go_wp2_with fail
          go_roundg (gk - 1)
          case measure => omega
          case rel => exact ⟨n + 1, m + nq, by omega, int_eq (by omega), htk2, by first | rfl | exact World.drewN_drewN _ _ _⟩
        · have hRf : Hid (R = false) := by
            have : decide (L = M) = R := hR
            rw [← this, decide_eq_false_iff_not]
            rintro rfl
            rw [hx] at hy
            injection hy with hy
            exact hxy hy
          clear htk hn1 hn2 hx hy
          have hlt' : (n : Int) < (L.length : Int) := by omega
          have hltM' : (n : Int) < (M.length : Int) := by omega
          obtain ⟨xc, xn, xt⟩ := x
          obtain ⟨yc, yn, yt⟩ := y
          simp only at x0 x1 x2 y0 y1 y2
          by_cases g1 : xc = yc
          · subst g1
            by_cases g2 : xn = yn
            · subst g2
              have g3 : (xt == yt) = false := by
                rw [beq_eq_false_iff_ne]; rintro rfl; exact hxy rfl
              clear hxy
              go_wp2_with fail
              go_quiet (fail)
              go_wp2_with fail
              go_ret
              exact ⟨ret_bool hRf.symm, m + nq, by first | rfl | exact World.drewN_drewN _ _ _⟩
            · have g3 : (xn == yn) = false := by simpa using g2
              clear hxy g2
              go_wp2_with fail
              go_quiet (fail)
              go_wp2_with fail
              go_ret
              exact ⟨ret_bool hRf.symm, m + nq, by first | rfl | exact World.drewN_drewN _ _ _⟩
          · have g3 : (xc == yc) = false := by simpa using g1
            clear hxy g1
            go_wp2_with fail
            go_quiet (fail)
            go_wp2_with fail
            go_ret
            exact ⟨ret_bool hRf.symm, m + nq, by first | rfl | exact World.drewN_drewN _ _ _⟩
      · have e : n = L.length := by omega
        subst e
        have hRt : Hid (R = true) := by
          have : decide (L = M) = R := hR
          have q := hlm'
          unfold Hid at q
          rw [← this, decide_eq_true_iff]
          rw [List.take_length, q, List.take_length] at htk
          exact htk
        clear htk
        go_wp2_with fail
        go_ret
        exact ⟨ret_bool hRt.symm, _, rfl⟩
  · have hb : ((L.length : Int) == (M.length : Int)) = false := by rw [beq_eq_false_iff_ne]; omega
    have hb2 : ((L.length : Int) != (M.length : Int)) = true := by rw [bne_iff_ne]; omega
    have hR : decide (L = M) = false := by rw [decide_eq_false_iff_not]; rintro rfl; exact hlm rfl
    rw [hR]
    clear hR hlm
    go_enter Tryz.func68, Tryz.ntmps68
    go_wp2_with fail
    go_ret
    exact ⟨rfl, 0, rfl⟩

theorem esame_any (L M : List Wd) (A B : Option Addr) (c d : Nat) (w : World) (h : Src encW 3 w (fun _ => False) A L) (k : Src encW 3 w (fun _ => False) B M) (hl : L.length ≤ maxLen) (hm : M.length ≤ maxLen) :
    Calls Tryz.prog 10 #[.slice A L.length c, .slice B M.length d] w fun e w' => e = .returned (.bool (decide (L = M))) ∧ ∃ n, w' = w.drewN n := by
  have he := equalW L M A B c d w h k hl hm
  go_enter Tryz.func10, Tryz.ntmps10
  go_wp2_with fail
  refine he.mono ?_
  rintro e w' ⟨rfl, n, rfl⟩
  go_wp2_with fail
  go_ret
  exact ⟨rfl, n, rfl⟩
theorem rsame_any (L M : List Wd) (A B : Option Addr) (c d : Nat) (w : World) (h : Src encW 3 w (fun _ => False) A L) (k : Src encW 3 w (fun _ => False) B M) (hl : L.length ≤ maxLen) (hm : M.length ≤ maxLen) :
    Calls Tryz.prog 34 #[.slice A L.length c, .slice B M.length d] w fun e w' => e = .returned (.bool (decide (L = M))) ∧ ∃ n, w' = w.drewN n := by
  have he := equalV L M A B c d w h k hl hm
  go_enter Tryz.func34, Tryz.ntmps34
  go_wp2_with fail
  refine he.mono ?_
  rintro e w' ⟨rfl, n, rfl⟩
  go_wp2_with fail
  go_ret
  exact ⟨rfl, n, rfl⟩
end Go.Proofs.YtballmombklalaaGreat

/- step.May. -/
namespace Go.Proofs.YtballmombklalaaGreat
open Go.RowKit

/-- A jump. -/
structure Jp where
  a : Int
  n : Int
deriving DecidableEq
def encJ (x : Jp) : List Value := [.int .i64 x.a, .int .i64 x.n]
theorem encJ_len (x : Jp) : (encJ x).length = 2 := rfl
theorem encJ_one : ∀ x, ∀ u ∈ encJ x, u.oneCell' = true := by simp [encJ, Value.oneCell']
theorem Src.cells2 {w : World} {N : Nat → Prop} {A : Option Addr} {L : List Jp} (h : Src encJ 2 w N A L) {i : Nat} {o : Jp} (hi : L[i]? = some o) :
    ∃ b off, A = some ⟨b, off, none⟩ ∧ ¬ N b ∧ w.cell? ⟨b, off + i * 2, none⟩ = some (.int .i64 o.a) ∧ w.cell? ⟨b, off + i * 2 + 1, none⟩ = some (.int .i64 o.n) := by
  obtain ⟨b, off, e, hb, hc⟩ := h i o hi
  exact ⟨b, off, e, hb, hc 0 _ rfl, hc 1 _ rfl⟩

/-- Do jumps rise behind a place, and may each be? -/
def risesF : List Jp → Int → Bool
  | [], _ => true
  | x :: r, last => if x.a ≤ last ∨ 1125899906842624 ≤ x.a ∨ x.n = 0 ∨ fairB x.n = false then false else risesF r x.a
def stepMayB (L : List Jp) : Bool := if 1024 < L.length then false else risesF L (-2)

set_option maxHeartbeats 1000000 in
set_option maxRecDepth 100000 in
theorem stepMay_any (L : List Jp) (A : Option Addr) (c : Nat) (w : World) (h : Src encJ 2 w (fun _ => False) A L) (hl : L.length ≤ maxLen) :
    Calls Tryz.prog 64 #[.slice A L.length c] w fun e w' => e = .returned (.bool (stepMayB L)) ∧ Kept (fun _ => False) w w' := by
  unfold maxLen at hl
  unfold stepMayB
  by_cases hb : 1024 < L.length
  · rw [if_pos hb]
    have hb' : decide (1024 < (L.length : Int)) = true := by simp; omega
    go_enter Tryz.func64, Tryz.ntmps64
    go_wp2_with fail
    go_ret
    exact ⟨rfl, Kept.refl _ w⟩
  · rw [if_neg hb]
    have hb' : decide (1024 < (L.length : Int)) = false := by simp; omega
    generalize hR0 : risesF L (-2) = R
    go_enter Tryz.func64, Tryz.ntmps64
    go_wp2_with fail
    go_loopg [3, 11] L.length (fun k lv iv wr => ∃ (n : Nat) (last : Int), n + k = L.length ∧ iv = .int .i64 n ∧ lv = .int .i64 last ∧ risesF (L.drop n) last = R ∧ Kept (fun _ => False) w wr)
    case atStart => exact ⟨0, -2, by omega, rfl, rfl, hR0, Kept.refl _ w⟩
    case round =>
      obtain ⟨n, last, hk, rfl, rfl, hsf, hkept⟩ := hrel
      by_cases hlt : n < L.length
      · obtain ⟨o, ho⟩ : ∃ o, L[n]? = some o := ⟨L[n], List.getElem?_eq_getElem hlt⟩
        have hdr : L.drop n = o :: L.drop (n + 1) := by
          rw [List.drop_eq_getElem_cons hlt]
          congr 1
          rw [List.getElem?_eq_getElem hlt] at ho
          injection ho
        rw [hdr, risesF] at hsf
        obtain ⟨b, off, hA, _, x0, x1⟩ := (h.same hkept).cells2 ho
        subst hA
        have hf := fun wx => fair_any o.n wx
        obtain ⟨oa, on⟩ := o
        simp only at x0 x1 hf hsf
        clear hdr ho hR0
        have k0 : Kept (fun _ => False) w (wr.alloc (.cells #[.int .i64 oa, .int .i64 on] 182)) := hkept.alloc _
        by_cases g1 : oa ≤ last
        · rw [if_pos (.inl g1)] at hsf
          subst hsf
          go_wp2_with fail
          go_ret
          exact ⟨rfl, k0⟩
        · by_cases g2 : 1125899906842624 ≤ oa
          · rw [if_pos (.inr (.inl g2))] at hsf
            subst hsf
            have g1' : decide (oa ≤ last) = false := by simp; omega
            clear g1
            go_wp2_with fail
            go_ret
            exact ⟨rfl, k0⟩
          · have g1' : decide (oa ≤ last) = false := by simp; omega
            have g2' : decide (1125899906842624 ≤ oa) = false := by simp; omega
            by_cases g3 : on = 0
            · rw [if_pos (.inr (.inr (.inl g3)))] at hsf
              subst hsf
              have g3' : (on == 0) = true := by simpa using g3
              subst g3
              clear g1 g2
              go_wp2_with fail
              go_ret
              exact ⟨rfl, k0⟩
            · have g3' : (on == 0) = false := by simpa using g3
              cases g4 : fairB on with
              | false =>
                rw [if_pos (.inr (.inr (.inr g4)))] at hsf
                subst hsf
                rw [g4] at hf
                clear g1 g2 g3 g4
                go_wp2_with fail
                refine (hf _).mono ?_
                rintro e w' ⟨rfl, rfl⟩
                go_wp2_with fail
                go_ret
                exact ⟨rfl, k0⟩
              | true =>
                rw [if_neg (by rw [g4]; simp; omega)] at hsf
                rw [g4] at hf
                have hsf' : Hid (risesF (L.drop (n + 1)) oa = R) := hsf
                clear g1 g2 g3 g4 hsf
                go_wp2_with fail
                refine (hf _).mono ?_
                rintro e w' ⟨rfl, rfl⟩
                go_wp2_with fail
                go_roundg (gk - 1)
                case measure => omega
                case rel => exact ⟨n + 1, oa, by omega, int_eq (by omega), rfl, hsf', k0⟩
      · have e : n = L.length := by omega
        subst e
        rw [List.drop_length, risesF] at hsf
        subst hsf
        go_wp2_with fail
        go_ret
        exact ⟨rfl, hkept⟩
end Go.Proofs.YtballmombklalaaGreat

/- row.Copy. -/
namespace Go.Proofs.YtballmombklalaaGreat
open Go.RowKit

set_option maxHeartbeats 1000000 in
set_option maxRecDepth 100000 in
theorem rcopy_any (L : List Wd) (A : Option Addr) (c : Nat) (w : World) (hA : A = none → L = [] ∧ c = 0) (h : Src encW 3 w (fun _ => False) A L) (hl : L.length ≤ 1048576) :
    Calls Tryz.prog 107 #[.slice A L.length c] w fun e w' => ∃ v, e = .returned v ∧ New encW 3 52 w w' v L := by
  obtain ⟨i0, hi1, hi2, hi3, hi4⟩ := info_parts (P := Tryz.prog) (e := 52) (z := .agg #[.int .i64 0, .int .i64 0, .string ByteArray.empty]) (size := 3) (bytes := 32) (by kernel_rfl)
  have tok := True.intro
  have tok2 := True.intro
  go_enter Tryz.func107, Tryz.ntmps107
  go_wp2_with (first
    | (at_make; go_loud (
       have _t := tok
       refine wpList_make_own _ rfl _ _ 56 rfl w.heap.size 52 i0 (.agg #[.int .i64 0, .int .i64 0, .string ByteArray.empty]) 3 Tryz.underlying56 hi1 hi2 hi3 .i64 .i64 _ L.length rfl rfl rfl (by rw [hi4]; omega) (by simp only [maxLen]; omega) (Nat.le_refl _) ?_
       intro w3 hown0 hgrow0
       obtain ⟨hrow0, hown1⟩ := owns_zero hown0
       have hk3 : Kept (fun _ => False) w w3 := (Kept.refl _ w).grown hgrow0 (fun k hk _ => by cases hk)
       have hr3 : Row encW 3 52 w3 (.slice (some ⟨w.heap.size, 0, none⟩) 0 L.length) ([] : List Wd) := hrow0
       obtain ⟨A', c', w4, hrun0, q1, q2, q3⟩ := app_src (P := Tryz.prog) (enc := encW) (sz := 3) (M := L) (N := fun _ => False) 56 56 (.agg #[.int .i64 0, .int .i64 0, .string ByteArray.empty]) 32 Tryz.underlying56 (by kernel_rfl) rfl (by decide) encW_len encW_one hr3 A c hA (h.same hk3) (by simp only [maxLen, List.length_nil]; omega) (by simp only [List.length_nil]; omega)
       rw [List.length_nil, Nat.zero_add] at hrun0
       have hrun : Hid _ := hrun0
       have hnew : Hid (New encW 3 52 w w4 (.slice A' L.length c') L) := ⟨q1, fun j hj => by
           have hj2 : (Value.slice A' (([] : List Wd).length + L.length) c').ownBlock = some j := by rw [List.length_nil, Nat.zero_add]; exact hj
           rcases q3 j hj2 with q | q
           · exact hown1 j q
           · exact Nat.le_trans hk3.size q, hk3.trans' q2 (fun _ _ q => q) (fun i hi q => absurd (hown1 i q) (by omega))⟩
       clear hrun0 q1 q2 q3 hr3 hk3 hrow0 hown1 hown0 hgrow0 tok))
    | (at_builtin; have _t := tok2; refine wpList_run rfl _ _ _ rfl rfl rfl hrun ?_; clear tok2))
  go_ret
  have hn : New encW 3 52 w w4 (.slice A' L.length c') L := hnew
  exact ⟨_, rfl, by first | exact hn | simpa using hn⟩
end Go.Proofs.YtballmombklalaaGreat

/- value: what a value is; May, Show of texts. -/
namespace Go.Proofs.YtballmombklalaaGreat
open Go.RowKit

/-- A value as a thing. -/
def thingV (v : Wd) : Value :=
  if v.c = 1 ∧ v.t = [] then .iface 209 (.int .i64 v.n)
  else if v.c = 2 ∧ v.n = 0 ∧ v.t.length ≤ 64 then .iface 210 (.string ⟨⟨v.t⟩⟩) else Value.nilIface
def valB (v : Wd) : Bool := decide ((v.c = 1 ∧ v.t = []) ∨ (v.c = 2 ∧ v.n = 0 ∧ v.t.length ≤ 64))

theorem of_any (v : Wd) (w : World) : Calls Tryz.prog 113 #[aggW v] w fun e w' => e = .returned (.tuple #[thingV v, .bool (valB v)]) ∧ Kept (fun _ => False) w w' := by
  obtain ⟨c, n, t⟩ := v
  unfold aggW thingV valB
  simp only
  have k0 := fun o => (Kept.refl (fun _ => False) w).alloc o
  by_cases h1 : c = 1
  · subst h1
    by_cases h2 : t = []
    · subst h2
      go_enter Tryz.func113, Tryz.ntmps113
      go_wp2_with fail
      go_ret2
      exact ⟨rfl, k0 _⟩
    · have g2 : (t == []) = false := by simpa using h2
      rw [if_neg (fun q => h2 q.2), if_neg (fun q => by omega)]
      have hv : decide (((1 : Int) = 1 ∧ t = []) ∨ ((1 : Int) = 2 ∧ n = 0 ∧ t.length ≤ 64)) = false := by simp [h2]
      rw [hv]
      clear h2 hv
      go_enter Tryz.func113, Tryz.ntmps113
      go_wp2_with fail
      go_ret2
      exact ⟨rfl, k0 _⟩
  · have g1 : (c == 1) = false := by simpa using h1
    rw [if_neg (fun q => h1 q.1)]
    by_cases h2 : c = 2 ∧ n = 0 ∧ t.length ≤ 64
    · have hv : decide ((c = 1 ∧ t = []) ∨ (c = 2 ∧ n = 0 ∧ t.length ≤ 64)) = true := by simp [h2]
      rw [if_pos h2, hv]
      obtain ⟨rfl, rfl, h3⟩ := h2
      have g3 : decide ((t.length : Int) ≤ 64) = true := by simp; omega
      clear hv h1
      go_enter Tryz.func113, Tryz.ntmps113
      go_wp2_with fail
      go_ret2
      exact ⟨rfl, k0 _⟩
    · have hv : decide ((c = 1 ∧ t = []) ∨ (c = 2 ∧ n = 0 ∧ t.length ≤ 64)) = false := by
        rw [decide_eq_false_iff_not]
        rintro (q | q)
        · exact h1 q.1
        · exact h2 q
      rw [if_neg h2, hv]
      clear hv
      by_cases h3 : c = 2
      · subst h3
        by_cases h4 : n = 0
        · subst h4
          have g3 : decide ((t.length : Int) ≤ 64) = false := by simp; omega
          clear h1 h2
          go_enter Tryz.func113, Tryz.ntmps113
          go_wp2_with fail
          go_ret2
          exact ⟨rfl, k0 _⟩
        · have g3 : (n == 0) = false := by simpa using h4
          clear h1 h2 h4
          go_enter Tryz.func113, Tryz.ntmps113
          go_wp2_with fail
          go_ret2
          exact ⟨rfl, k0 _⟩
      · have g3 : (c == 2) = false := by simpa using h3
        clear h1 h2 h3
        go_enter Tryz.func113, Tryz.ntmps113
        go_wp2_with fail
        go_ret2
        exact ⟨rfl, k0 _⟩

theorem vmay_any (v : Wd) (w : World) : Calls Tryz.prog 81 #[aggW v] w fun e w' => e = .returned (.bool (valB v)) ∧ Kept (fun _ => False) w w' := by
  have ho := fun wx => of_any v wx
  obtain ⟨c, n, t⟩ := v
  unfold aggW at *
  simp only at ho ⊢
  go_enter Tryz.func81, Tryz.ntmps81
  go_wp2_with fail
  refine (ho _).mono ?_
  rintro e w' ⟨rfl, k⟩
  go_wp2_with fail
  go_ret
  exact ⟨rfl, ((Kept.refl _ w).alloc _).trans k⟩
end Go.Proofs.YtballmombklalaaGreat

/- value.Compare. -/
namespace Go.Proofs.YtballmombklalaaGreat
open Go.RowKit

/-- Type assertions on what the walk knows. -/
theorem ta_yes {P : Program} (t xT : TypeId) (v : Value) {d : TypeDesc} (h : P.underlying t = some d) (hd : ∀ l, d ≠ .interface l) (ok : Bool) (w : World) :
    (Instr.typeAssert (.iface t v) xT t ok).run P w = .ok (if ok = true then .tuple #[v, .bool true] else v) w := by
  cases d <;> first | (exact absurd rfl (hd _)) | (cases ok <;> simp [Instr.typeAssert, run_underlying h, go_sem, Result.andThen])
theorem ta_no {P : Program} (t xT t' : TypeId) (v z : Value) {d : TypeDesc} (h : P.underlying t' = some d) (hd : ∀ l, d ≠ .interface l) (hne : t ≠ t') (w : World) (hz : (zeroValue t').run P w = .ok z w) :
    (Instr.typeAssert (.iface t v) xT t' true).run P w = .ok (.tuple #[z, .bool false]) w := by
  have hne' : ¬ t' = t := fun e => hne e.symm
  cases d <;> first | (exact absurd rfl (hd _)) | (simp [Instr.typeAssert, run_underlying h, go_sem, Result.andThen, hne, hne', hz])
theorem ta_num (x : Int) (w : World) : (Instr.typeAssert (.iface 209 (.int .i64 x)) 188 209 true).run Tryz.prog w = .ok (.tuple #[.int .i64 x, .bool true]) w :=
  ta_yes (P := Tryz.prog) 209 188 _ Tryz.underlying209 (fun l q => by cases q) true w
theorem ta_wnum (s : ByteArray) (w : World) : (Instr.typeAssert (.iface 210 (.string s)) 188 209 true).run Tryz.prog w = .ok (.tuple #[.int .i64 0, .bool false]) w :=
  ta_no (P := Tryz.prog) 210 188 209 _ _ Tryz.underlying209 (fun l q => by cases q) (by decide) w (by kernel_rfl)
theorem ta_words (s : ByteArray) (w : World) : (Instr.typeAssert (.iface 210 (.string s)) 188 210 false).run Tryz.prog w = .ok (.string s) w :=
  ta_yes (P := Tryz.prog) 210 188 _ Tryz.underlying210 (fun l q => by cases q) false w

theorem cmpN_any (x y : Int) (w : World) : Calls Tryz.prog 140 #[.int .i64 x, .int .i64 y] w fun e w' => e = .returned (.int .i64 (Lib.compareInt x y)) ∧ w' = w := by
  go_enter Tryz.func140, Tryz.ntmps140
  go_wp2
  all_goals (go_ret; refine ⟨?_, rfl⟩; unfold Lib.compareInt; (repeat' split) <;> first | rfl | (exfalso; omega))

/-- How a value stands to another. -/
def cmpV (a b : Wd) : Int :=
  if valB a = true ∧ valB b = true then (if a.c = 1 then (if b.c = 1 then Lib.compareInt a.n b.n else -1) else if b.c = 1 then 1 else Lib.compareBytes a.t b.t) else 0

theorem thing_cases (v : Wd) : (valB v = false ∧ thingV v = Value.nilIface) ∨ (valB v = true ∧ v.c = 1 ∧ thingV v = .iface 209 (.int .i64 v.n)) ∨ (valB v = true ∧ v.c = 2 ∧ thingV v = .iface 210 (.string ⟨⟨v.t⟩⟩)) := by
  unfold valB thingV
  by_cases h1 : v.c = 1 ∧ v.t = []
  · exact .inr (.inl ⟨by simp [h1], h1.1, by rw [if_pos h1]⟩)
  · by_cases h2 : v.c = 2 ∧ v.n = 0 ∧ v.t.length ≤ 64
    · exact .inr (.inr ⟨by simp [h2], h2.1, by rw [if_neg h1, if_pos h2]⟩)
    · refine .inl ⟨?_, by rw [if_neg h1, if_neg h2]⟩
      rw [decide_eq_false_iff_not]
      rintro (q | q)
      · exact h1 q
      · exact h2 q

set_option maxHeartbeats 4000000 in
set_option maxRecDepth 100000 in
theorem vcmp_any (a b : Wd) (w : World) : Calls Tryz.prog 129 #[aggW a, aggW b] w fun e w' => e = .returned (.int .i64 (cmpV a b)) ∧ Kept (fun _ => False) w w' := by
  have tn := ta_num
  have tw := ta_wnum
  have ts := ta_words
  have ha := fun wx => of_any a wx
  have hb := fun wx => of_any b wx
  have hci := cmpN_any a.n b.n
  have hcs : ∀ wx, Calls Tryz.prog 141 #[.string ⟨⟨a.t⟩⟩, .string ⟨⟨b.t⟩⟩] wx fun e w' => e = .returned (.int .i64 (Lib.compareBytes a.t b.t)) ∧ w' = wx := fun wx => Tryz.strings_Compare ⟨⟨a.t⟩⟩ ⟨⟨b.t⟩⟩ wx
  have hca := thing_cases a
  have hcb := thing_cases b
  unfold cmpV
  obtain ⟨ac, an, at_⟩ := a
  obtain ⟨bc, bn, bt_⟩ := b
  unfold aggW at *
  simp only at *
  generalize valB ⟨ac, an, at_⟩ = va at *
  generalize valB ⟨bc, bn, bt_⟩ = vb at *
  generalize thingV ⟨ac, an, at_⟩ = ta at *
  generalize thingV ⟨bc, bn, bt_⟩ = tb at *
  rcases hca with ⟨rfl, rfl⟩ | ⟨rfl, c1, rfl⟩ | ⟨rfl, c1, rfl⟩
  · rw [if_neg (by simp)]
    clear hcb hci hcs
    go_enter Tryz.func129, Tryz.ntmps129
    go_wp2_with fail
    refine (ha _).mono ?_
    rintro e w1 ⟨rfl, k1⟩
    have hB := heap_alloc_new (w.alloc (.cells #[.int .i64 ac, .int .i64 an, .string ⟨⟨at_⟩⟩] 52)) (.cells #[.int .i64 bc, .int .i64 bn, .string ⟨⟨bt_⟩⟩] 52)
    rw [World.size_alloc] at hB
    have hB1 := k1.heap hB (fun q => q)
    have q0 := cell_of_row w1 (w.heap.size + 1) 0 _ _ _ hB1
    have q1 := cell_of_row w1 (w.heap.size + 1) 1 _ _ _ hB1
    have q2 := cell_of_row w1 (w.heap.size + 1) 2 _ _ _ hB1
    simp only [List.getElem?_toArray, List.getElem?_cons_zero, List.getElem?_cons_succ] at q0 q1 q2
    clear hB hB1
    go_wp2_with fail
    refine (hb _).mono ?_
    rintro e w2 ⟨rfl, k2⟩
    have kk : Hid (Kept (fun _ => False) w w2) := (((Kept.refl _ w).alloc _).alloc _).trans (k1.trans k2)
    clear k1 k2
    go_wp2_with fail
    go_ret
    exact ⟨rfl, kk⟩
  · rcases hcb with ⟨rfl, rfl⟩ | ⟨rfl, c2, rfl⟩ | ⟨rfl, c2, rfl⟩
    · rw [if_neg (by simp)]
      clear hci hcs c1
      go_enter Tryz.func129, Tryz.ntmps129
      go_wp2_with fail
      refine (ha _).mono ?_
      rintro e w1 ⟨rfl, k1⟩
      have hB := heap_alloc_new (w.alloc (.cells #[.int .i64 ac, .int .i64 an, .string ⟨⟨at_⟩⟩] 52)) (.cells #[.int .i64 bc, .int .i64 bn, .string ⟨⟨bt_⟩⟩] 52)
      rw [World.size_alloc] at hB
      have hB1 := k1.heap hB (fun q => q)
      have q0 := cell_of_row w1 (w.heap.size + 1) 0 _ _ _ hB1
      have q1 := cell_of_row w1 (w.heap.size + 1) 1 _ _ _ hB1
      have q2 := cell_of_row w1 (w.heap.size + 1) 2 _ _ _ hB1
      simp only [List.getElem?_toArray, List.getElem?_cons_zero, List.getElem?_cons_succ] at q0 q1 q2
      clear hB hB1
      go_wp2_with fail
      refine (hb _).mono ?_
      rintro e w2 ⟨rfl, k2⟩
      have kk : Hid (Kept (fun _ => False) w w2) := (((Kept.refl _ w).alloc _).alloc _).trans (k1.trans k2)
      clear k1 k2
      go_wp2_with fail
      go_ret
      exact ⟨rfl, kk⟩
    · rw [if_pos ⟨rfl, rfl⟩, if_pos c1, if_pos c2]
      clear hcs c1 c2
      generalize Lib.compareInt an bn = r at *
      go_enter Tryz.func129, Tryz.ntmps129
      go_wp2_with fail
      refine (ha _).mono ?_
      rintro e w1 ⟨rfl, k1⟩
      have hB := heap_alloc_new (w.alloc (.cells #[.int .i64 ac, .int .i64 an, .string ⟨⟨at_⟩⟩] 52)) (.cells #[.int .i64 bc, .int .i64 bn, .string ⟨⟨bt_⟩⟩] 52)
      rw [World.size_alloc] at hB
      have hB1 := k1.heap hB (fun q => q)
      have q0 := cell_of_row w1 (w.heap.size + 1) 0 _ _ _ hB1
      have q1 := cell_of_row w1 (w.heap.size + 1) 1 _ _ _ hB1
      have q2 := cell_of_row w1 (w.heap.size + 1) 2 _ _ _ hB1
      simp only [List.getElem?_toArray, List.getElem?_cons_zero, List.getElem?_cons_succ] at q0 q1 q2
      clear hB hB1
      go_wp2_with fail
      refine (hb _).mono ?_
      rintro e w2 ⟨rfl, k2⟩
      have kk : Hid (Kept (fun _ => False) w w2) := (((Kept.refl _ w).alloc _).alloc _).trans (k1.trans k2)
      clear k1 k2
      go_wp2_with fail
      refine (hci _).mono ?_
      rintro e w3 ⟨rfl, rfl⟩
      go_wp2_with fail
      go_ret
      exact ⟨rfl, kk⟩
    · rw [if_pos ⟨rfl, rfl⟩, if_pos c1, if_neg (by rw [c2]; decide)]
      clear hci hcs c1 c2
      go_enter Tryz.func129, Tryz.ntmps129
      go_wp2_with fail
      refine (ha _).mono ?_
      rintro e w1 ⟨rfl, k1⟩
      have hB := heap_alloc_new (w.alloc (.cells #[.int .i64 ac, .int .i64 an, .string ⟨⟨at_⟩⟩] 52)) (.cells #[.int .i64 bc, .int .i64 bn, .string ⟨⟨bt_⟩⟩] 52)
      rw [World.size_alloc] at hB
      have hB1 := k1.heap hB (fun q => q)
      have q0 := cell_of_row w1 (w.heap.size + 1) 0 _ _ _ hB1
      have q1 := cell_of_row w1 (w.heap.size + 1) 1 _ _ _ hB1
      have q2 := cell_of_row w1 (w.heap.size + 1) 2 _ _ _ hB1
      simp only [List.getElem?_toArray, List.getElem?_cons_zero, List.getElem?_cons_succ] at q0 q1 q2
      clear hB hB1
      go_wp2_with fail
      refine (hb _).mono ?_
      rintro e w2 ⟨rfl, k2⟩
      have kk : Hid (Kept (fun _ => False) w w2) := (((Kept.refl _ w).alloc _).alloc _).trans (k1.trans k2)
      clear k1 k2
      go_wp2_with fail
      go_ret
      exact ⟨rfl, kk⟩
  · rcases hcb with ⟨rfl, rfl⟩ | ⟨rfl, c2, rfl⟩ | ⟨rfl, c2, rfl⟩
    · rw [if_neg (by simp)]
      clear hci hcs c1
      go_enter Tryz.func129, Tryz.ntmps129
      go_wp2_with fail
      refine (ha _).mono ?_
      rintro e w1 ⟨rfl, k1⟩
      have hB := heap_alloc_new (w.alloc (.cells #[.int .i64 ac, .int .i64 an, .string ⟨⟨at_⟩⟩] 52)) (.cells #[.int .i64 bc, .int .i64 bn, .string ⟨⟨bt_⟩⟩] 52)
      rw [World.size_alloc] at hB
      have hB1 := k1.heap hB (fun q => q)
      have q0 := cell_of_row w1 (w.heap.size + 1) 0 _ _ _ hB1
      have q1 := cell_of_row w1 (w.heap.size + 1) 1 _ _ _ hB1
      have q2 := cell_of_row w1 (w.heap.size + 1) 2 _ _ _ hB1
      simp only [List.getElem?_toArray, List.getElem?_cons_zero, List.getElem?_cons_succ] at q0 q1 q2
      clear hB hB1
      go_wp2_with fail
      refine (hb _).mono ?_
      rintro e w2 ⟨rfl, k2⟩
      have kk : Hid (Kept (fun _ => False) w w2) := (((Kept.refl _ w).alloc _).alloc _).trans (k1.trans k2)
      clear k1 k2
      go_wp2_with fail
      go_ret
      exact ⟨rfl, kk⟩
    · rw [if_pos ⟨rfl, rfl⟩, if_neg (by rw [c1]; decide), if_pos c2]
      clear hci hcs c1 c2
      go_enter Tryz.func129, Tryz.ntmps129
      go_wp2_with fail
      refine (ha _).mono ?_
      rintro e w1 ⟨rfl, k1⟩
      have hB := heap_alloc_new (w.alloc (.cells #[.int .i64 ac, .int .i64 an, .string ⟨⟨at_⟩⟩] 52)) (.cells #[.int .i64 bc, .int .i64 bn, .string ⟨⟨bt_⟩⟩] 52)
      rw [World.size_alloc] at hB
      have hB1 := k1.heap hB (fun q => q)
      have q0 := cell_of_row w1 (w.heap.size + 1) 0 _ _ _ hB1
      have q1 := cell_of_row w1 (w.heap.size + 1) 1 _ _ _ hB1
      have q2 := cell_of_row w1 (w.heap.size + 1) 2 _ _ _ hB1
      simp only [List.getElem?_toArray, List.getElem?_cons_zero, List.getElem?_cons_succ] at q0 q1 q2
      clear hB hB1
      go_wp2_with fail
      refine (hb _).mono ?_
      rintro e w2 ⟨rfl, k2⟩
      have kk : Hid (Kept (fun _ => False) w w2) := (((Kept.refl _ w).alloc _).alloc _).trans (k1.trans k2)
      clear k1 k2
      go_wp2_with fail
      go_ret
      exact ⟨rfl, kk⟩
    · rw [if_pos ⟨rfl, rfl⟩, if_neg (by rw [c1]; decide), if_neg (by rw [c2]; decide)]
      clear hci c1 c2
      generalize Lib.compareBytes at_ bt_ = r at *
      go_enter Tryz.func129, Tryz.ntmps129
      go_wp2_with fail
      refine (ha _).mono ?_
      rintro e w1 ⟨rfl, k1⟩
      have hB := heap_alloc_new (w.alloc (.cells #[.int .i64 ac, .int .i64 an, .string ⟨⟨at_⟩⟩] 52)) (.cells #[.int .i64 bc, .int .i64 bn, .string ⟨⟨bt_⟩⟩] 52)
      rw [World.size_alloc] at hB
      have hB1 := k1.heap hB (fun q => q)
      have q0 := cell_of_row w1 (w.heap.size + 1) 0 _ _ _ hB1
      have q1 := cell_of_row w1 (w.heap.size + 1) 1 _ _ _ hB1
      have q2 := cell_of_row w1 (w.heap.size + 1) 2 _ _ _ hB1
      simp only [List.getElem?_toArray, List.getElem?_cons_zero, List.getElem?_cons_succ] at q0 q1 q2
      clear hB hB1
      go_wp2_with fail
      refine (hb _).mono ?_
      rintro e w2 ⟨rfl, k2⟩
      have kk : Hid (Kept (fun _ => False) w w2) := (((Kept.refl _ w).alloc _).alloc _).trans (k1.trans k2)
      clear k1 k2
      go_wp2_with fail
      go_quiet ((go_at_call 141; exact Calls.quiet_of_same (hcs _)))
      go_wp2_with fail
      go_ret
      exact ⟨rfl, Kept.trans kk ((Kept.refl _ _).drewN _)⟩
end Go.Proofs.YtballmombklalaaGreat
