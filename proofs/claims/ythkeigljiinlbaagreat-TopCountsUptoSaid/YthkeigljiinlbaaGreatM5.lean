/- Picked out of the text U of TopExprs. -/
import Derived.Test.YthkeigljiinlbaaGreatM4
namespace Go.Proofs.YthkeigljiinlbaaGreat
open Go.RowKit

/-- A jump. -/
structure Jp where
  a : Int
  n : Int
deriving DecidableEq
def encJ (x : Jp) : List Value := [.int .i64 x.a, .int .i64 x.n]
theorem encJ_len (x : Jp) : (encJ x).length = 2 := rfl
theorem encJ_one : ∀ x, ∀ u ∈ encJ x, u.oneCell' = true := by simp [encJ, Value.oneCell']
theorem Src.cells2 {w : World} {N : Nat → Prop} {A : Option Addr} {L : List Jp} (h : Src encJ 2 w N A L) {i : Nat} {o : Jp} (hi : L[i]? = some o) :
    ∃ b off, A = some ⟨b, off, none⟩ ∧ ¬ N b ∧ w.cell? ⟨b, off + i * 2, none⟩ = some (.int .i64 o.a) ∧ w.cell? ⟨b, off + i * 2 + 1, none⟩ = some (.int .i64 o.n) := by
  obtain ⟨b, off, e, hb, hc⟩ := h i o hi
  exact ⟨b, off, e, hb, hc 0 _ rfl, hc 1 _ rfl⟩

/-- Do jumps rise behind a place, and may each be? -/
def risesF : List Jp → Int → Bool
  | [], _ => true
  | x :: r, last => if x.a ≤ last ∨ 1125899906842624 ≤ x.a ∨ x.n = 0 ∨ fairB x.n = false then false else risesF r x.a
def stepMayB (L : List Jp) : Bool := if 1024 < L.length then false else risesF L (-2)

set_option maxHeartbeats 1000000 in
set_option maxRecDepth 100000 in
theorem stepMay_any (L : List Jp) (A : Option Addr) (c : Nat) (w : World) (h : Src encJ 2 w (fun _ => False) A L) (hl : L.length ≤ maxLen) :
    Calls Tryz.prog 23 #[.slice A L.length c] w fun e w' => e = .returned (.bool (stepMayB L)) ∧ Kept (fun _ => False) w w' := by
  unfold maxLen at hl
  unfold stepMayB
  by_cases hb : 1024 < L.length
  · rw [if_pos hb]
    have hb' : decide (1024 < (L.length : Int)) = true := by simp; omega
    go_enter Tryz.func23, Tryz.ntmps23
    go_wp2_with fail
    go_ret
    exact ⟨rfl, Kept.refl _ w⟩
  · rw [if_neg hb]
    have hb' : decide (1024 < (L.length : Int)) = false := by simp; omega
    generalize hR0 : risesF L (-2) = R
    go_enter Tryz.func23, Tryz.ntmps23
    go_wp2_with fail
    go_loopg [3, 11] L.length (fun k lv iv wr => ∃ (n : Nat) (last : Int), n + k = L.length ∧ iv = .int .i64 n ∧ lv = .int .i64 last ∧ risesF (L.drop n) last = R ∧ Kept (fun _ => False) w wr)
    case atStart => exact ⟨0, -2, by omega, rfl, rfl, hR0, Kept.refl _ w⟩
    case round =>
      obtain ⟨n, last, hk, rfl, rfl, hsf, hkept⟩ := hrel
      by_cases hlt : n < L.length
      · obtain ⟨o, ho⟩ : ∃ o, L[n]? = some o := ⟨L[n], List.getElem?_eq_getElem hlt⟩
        have hdr : L.drop n = o :: L.drop (n + 1) := by
          rw [List.drop_eq_getElem_cons hlt]
          congr 1
          rw [List.getElem?_eq_getElem hlt] at ho
          injection ho
        rw [hdr, risesF] at hsf
        obtain ⟨b, off, hA, _, x0, x1⟩ := (h.same hkept).cells2 ho
        subst hA
        have hf := fun wx => fair_any o.n wx
        obtain ⟨oa, on⟩ := o
        simp only at x0 x1 hf hsf
        clear hdr ho hR0
        have k0 : Kept (fun _ => False) w (wr.alloc (.cells #[.int .i64 oa, .int .i64 on] 80)) := hkept.alloc _
        by_cases g1 : oa ≤ last
        · rw [if_pos (.inl g1)] at hsf
          subst hsf
          go_wp2_with fail
          go_ret
          exact ⟨rfl, k0⟩
        · by_cases g2 : 1125899906842624 ≤ oa
          · rw [if_pos (.inr (.inl g2))] at hsf
            subst hsf
            have g1' : decide (oa ≤ last) = false := by simp; omega
            clear g1
            go_wp2_with fail
            go_ret
            exact ⟨rfl, k0⟩
          · have g1' : decide (oa ≤ last) = false := by simp; omega
            have g2' : decide (1125899906842624 ≤ oa) = false := by simp; omega
            by_cases g3 : on = 0
            · rw [if_pos (.inr (.inr (.inl g3)))] at hsf
              subst hsf
              have g3' : (on == 0) = true := by simpa using g3
              subst g3
              clear g1 g2
              go_wp2_with fail
              go_ret
              exact ⟨rfl, k0⟩
            · have g3' : (on == 0) = false := by simpa using g3
              cases g4 : fairB on with
              | false =>
                rw [if_pos (.inr (.inr (.inr g4)))] at hsf
                subst hsf
                rw [g4] at hf
                clear g1 g2 g3 g4
                go_wp2_with fail
                refine (hf _).mono ?_
                rintro e w' ⟨rfl, rfl⟩
                go_wp2_with fail
                go_ret
                exact ⟨rfl, k0⟩
              | true =>
                rw [if_neg (by rw [g4]; simp; omega)] at hsf
                rw [g4] at hf
                have hsf' : Hid (risesF (L.drop (n + 1)) oa = R) := hsf
                clear g1 g2 g3 g4 hsf
                go_wp2_with fail
                refine (hf _).mono ?_
                rintro e w' ⟨rfl, rfl⟩
                go_wp2_with fail
                go_roundg (gk - 1)
                case measure => omega
                case rel => exact ⟨n + 1, oa, by omega, int_eq (by omega), rfl, hsf', k0⟩
      · have e : n = L.length := by omega
        subst e
        rw [List.drop_length, risesF] at hsf
        subst hsf
        go_wp2_with fail
        go_ret
        exact ⟨rfl, hkept⟩
end Go.Proofs.YthkeigljiinlbaaGreat

/- Picked out of the text V of TopExprs. -/
namespace Go.Proofs.YthkeigljiinlbaaGreat
open Go.RowKit

set_option maxHeartbeats 1000000 in
set_option maxRecDepth 100000 in
theorem rcopy_any (L : List Wd) (A : Option Addr) (c : Nat) (w : World) (hA : A = none → L = [] ∧ c = 0) (h : Src encW 3 w (fun _ => False) A L) (hl : L.length ≤ 1048576) :
    Calls Tryz.prog 22 #[.slice A L.length c] w fun e w' => ∃ v, e = .returned v ∧ New encW 3 48 w w' v L := by
  obtain ⟨i0, hi1, hi2, hi3, hi4⟩ := info_parts (P := Tryz.prog) (e := 48) (z := .agg #[.int .i64 0, .int .i64 0, .string ByteArray.empty]) (size := 3) (bytes := 32) (by kernel_rfl)
  have tok := True.intro
  have tok2 := True.intro
  go_enter Tryz.func22, Tryz.ntmps22
  go_wp2_with (first
    | (at_make; go_loud (
       have _t := tok
       refine wpList_make_own _ rfl _ _ 43 rfl w.heap.size 48 i0 (.agg #[.int .i64 0, .int .i64 0, .string ByteArray.empty]) 3 Tryz.underlying43 hi1 hi2 hi3 .i64 .i64 _ L.length rfl rfl rfl (by rw [hi4]; omega) (by simp only [maxLen]; omega) (Nat.le_refl _) ?_
       intro w3 hown0 hgrow0
       obtain ⟨hrow0, hown1⟩ := owns_zero hown0
       have hk3 : Kept (fun _ => False) w w3 := (Kept.refl _ w).grown hgrow0 (fun k hk _ => by cases hk)
       have hr3 : Row encW 3 48 w3 (.slice (some ⟨w.heap.size, 0, none⟩) 0 L.length) ([] : List Wd) := hrow0
       obtain ⟨A', c', w4, hrun0, q1, q2, q3⟩ := app_src (P := Tryz.prog) (enc := encW) (sz := 3) (M := L) (N := fun _ => False) 43 43 (.agg #[.int .i64 0, .int .i64 0, .string ByteArray.empty]) 32 Tryz.underlying43 (by kernel_rfl) rfl (by decide) encW_len encW_one hr3 A c hA (h.same hk3) (by simp only [maxLen, List.length_nil]; omega) (by simp only [List.length_nil]; omega)
       rw [List.length_nil, Nat.zero_add] at hrun0
       have hrun : Hid _ := hrun0
       have hnew : Hid (New encW 3 48 w w4 (.slice A' L.length c') L) := ⟨q1, fun j hj => by
           have hj2 : (Value.slice A' (([] : List Wd).length + L.length) c').ownBlock = some j := by rw [List.length_nil, Nat.zero_add]; exact hj
           rcases q3 j hj2 with q | q
           · exact hown1 j q
           · exact Nat.le_trans hk3.size q, hk3.trans' q2 (fun _ _ q => q) (fun i hi q => absurd (hown1 i q) (by omega))⟩
       clear hrun0 q1 q2 q3 hr3 hk3 hrow0 hown1 hown0 hgrow0 tok))
    | (at_builtin; have _t := tok2; refine wpList_run rfl _ _ _ rfl rfl rfl hrun ?_; clear tok2))
  go_ret
  have hn : New encW 3 48 w w4 (.slice A' L.length c') L := hnew
  exact ⟨_, rfl, by first | exact hn | simpa using hn⟩
end Go.Proofs.YthkeigljiinlbaaGreat

/- Picked out of the text W of TopExprs. -/
namespace Go.Proofs.YthkeigljiinlbaaGreat
open Go.RowKit

/-- A value as a thing. -/
def thingV (v : Wd) : Value :=
  if v.c = 1 ∧ v.t = [] then .iface 186 (.int .i64 v.n)
  else if v.c = 2 ∧ v.n = 0 ∧ v.t.length ≤ 64 then .iface 190 (.string ⟨⟨v.t⟩⟩) else Value.nilIface
def valB (v : Wd) : Bool := decide ((v.c = 1 ∧ v.t = []) ∨ (v.c = 2 ∧ v.n = 0 ∧ v.t.length ≤ 64))

theorem of_any (v : Wd) (w : World) : Calls Tryz.prog 101 #[aggW v] w fun e w' => e = .returned (.tuple #[thingV v, .bool (valB v)]) ∧ Kept (fun _ => False) w w' := by
  obtain ⟨c, n, t⟩ := v
  unfold aggW thingV valB
  simp only
  have k0 := fun o => (Kept.refl (fun _ => False) w).alloc o
  by_cases h1 : c = 1
  · subst h1
    by_cases h2 : t = []
    · subst h2
      go_enter Tryz.func101, Tryz.ntmps101
      go_wp2_with fail
      go_ret2
      exact ⟨rfl, k0 _⟩
    · have g2 : (t == []) = false := by simpa using h2
      rw [if_neg (fun q => h2 q.2), if_neg (fun q => by omega)]
      have hv : decide (((1 : Int) = 1 ∧ t = []) ∨ ((1 : Int) = 2 ∧ n = 0 ∧ t.length ≤ 64)) = false := by simp [h2]
      rw [hv]
      clear h2 hv
      go_enter Tryz.func101, Tryz.ntmps101
      go_wp2_with fail
      go_ret2
      exact ⟨rfl, k0 _⟩
  · have g1 : (c == 1) = false := by simpa using h1
    rw [if_neg (fun q => h1 q.1)]
    by_cases h2 : c = 2 ∧ n = 0 ∧ t.length ≤ 64
    · have hv : decide ((c = 1 ∧ t = []) ∨ (c = 2 ∧ n = 0 ∧ t.length ≤ 64)) = true := by simp [h2]
      rw [if_pos h2, hv]
      obtain ⟨rfl, rfl, h3⟩ := h2
      have g3 : decide ((t.length : Int) ≤ 64) = true := by simp; omega
      clear hv h1
      go_enter Tryz.func101, Tryz.ntmps101
      go_wp2_with fail
      go_ret2
      exact ⟨rfl, k0 _⟩
    · have hv : decide ((c = 1 ∧ t = []) ∨ (c = 2 ∧ n = 0 ∧ t.length ≤ 64)) = false := by
        rw [decide_eq_false_iff_not]
        rintro (q | q)
        · exact h1 q.1
        · exact h2 q
      rw [if_neg h2, hv]
      clear hv
      by_cases h3 : c = 2
      · subst h3
        by_cases h4 : n = 0
        · subst h4
          have g3 : decide ((t.length : Int) ≤ 64) = false := by simp; omega
          clear h1 h2
          go_enter Tryz.func101, Tryz.ntmps101
          go_wp2_with fail
          go_ret2
          exact ⟨rfl, k0 _⟩
        · have g3 : (n == 0) = false := by simpa using h4
          clear h1 h2 h4
          go_enter Tryz.func101, Tryz.ntmps101
          go_wp2_with fail
          go_ret2
          exact ⟨rfl, k0 _⟩
      · have g3 : (c == 2) = false := by simpa using h3
        clear h1 h2 h3
        go_enter Tryz.func101, Tryz.ntmps101
        go_wp2_with fail
        go_ret2
        exact ⟨rfl, k0 _⟩

theorem vmay_any (v : Wd) (w : World) : Calls Tryz.prog 62 #[aggW v] w fun e w' => e = .returned (.bool (valB v)) ∧ Kept (fun _ => False) w w' := by
  have ho := fun wx => of_any v wx
  obtain ⟨c, n, t⟩ := v
  unfold aggW at *
  simp only at ho ⊢
  go_enter Tryz.func62, Tryz.ntmps62
  go_wp2_with fail
  refine (ho _).mono ?_
  rintro e w' ⟨rfl, k⟩
  go_wp2_with fail
  go_ret
  exact ⟨rfl, ((Kept.refl _ w).alloc _).trans k⟩
end Go.Proofs.YthkeigljiinlbaaGreat
