/- The plain law: words that the parser makes; steps that are enough; Expr. -/
import Derived.Test.YtballmombklalaaGreatM20
import Derived.Test.YtballmombklalaaGreatM30
import Derived.Test.YtballmombklalaaGreatM32
namespace Go.Proofs.YtballmombklalaaGreat
open Go.RowKit

/-- A word's number is one, and its column there. -/
def WOK (S : List Cl) (o : Wd) : Prop := I64 o.n ∧ (o.c = 3 → o.n < S.length)
theorem index_lt : ∀ (L : List Cl) (t : List UInt8) (n : Nat), indexC L t n < (n + L.length : Nat) ∨ indexC L t n = -1
  | [], _, _ => .inr rfl
  | x :: r, t, n => by
    rw [indexC]
    split
    · left; simp only [List.length_cons]; omega
    · rcases index_lt r t (n + 1) with h | h
      · left; simp only [List.length_cons] at *; omega
      · exact .inr h
theorem readS_I64 (s : List UInt8) : I64 (readS s).1 := by
  unfold readS
  split <;> exact readD_bd _ _
theorem I64_zero : I64 0 := by unfold I64; omega
theorem codeI_ne3 (k : Int) (s : List UInt8) : codeI k s ≠ 3 := by unfold codeI; (repeat' split) <;> decide
theorem numP_wok {S : List Cl} {s : List UInt8} {ts : List Tok} {q : List Wd × List Tok} (h : numP s ts = .ok q) : ∀ o ∈ q.1, WOK S o := by
  cases ts with
  | nil => cases h
  | cons t r =>
    rw [numP] at h
    split at h
    · injection h with h
      subst h
      intro o ho
      simp only [List.mem_singleton] at ho
      subst ho
      exact ⟨readS_I64 _, fun e => by simp at e⟩
    · cases h
theorem preP_wok {S : List Cl} {c : Int} {R : PR} {q : List Wd × List Tok} (hc : c ≠ 3) (h : preP c R = .ok q) (hR : ∀ q', R = .ok q' → ∀ o ∈ q'.1, WOK S o) : ∀ o ∈ q.1, WOK S o := by
  cases R with
  | error e => cases h
  | ok q' =>
    injection h with h
    subst h
    intro o ho
    rw [List.mem_append, List.mem_singleton] at ho
    rcases ho with ho | rfl
    · exact hR q' rfl o ho
    · exact ⟨I64_zero, fun e => absurd e hc⟩
def mdOK (S : List Cl) : Md → Prop
  | .lv _ => True
  | .ch _ x => ∀ o ∈ x, WOK S o
theorem par_wok (S : List Cl) (hS : S.length ≤ 8) : ∀ (n : Nat) (md : Md) (ts : List Tok) (d : Nat) (q : List Wd × List Tok), par S n md ts d = .ok q → mdOK S md → ∀ o ∈ q.1, WOK S o
  | 0, md, ts, d, q, h, _ => by cases h
  | n + 1, .ch k x, ts, d, q, h, hm => by
    rw [par] at h
    split at h
    · injection h with h; subst h; exact hm
    · split at h
      · cases h
      · rename_i q1 h1
        refine par_wok S hS n _ _ _ _ h ?_
        intro o ho
        simp only [List.mem_append, List.mem_singleton] at ho
        rcases ho with (ho | ho) | rfl
        · exact hm o ho
        · exact par_wok S hS n _ _ _ _ h1 trivial o ho
        · exact ⟨I64_zero, fun e => absurd e (codeI_ne3 _ _)⟩
  | n + 1, .lv k, ts, d, q, h, _ => by
    have inn : ∀ (md : Nat) (R : PR), R = (if 128 ≤ d then .error 6 else par S n (.lv md) ts.tail (d + 1)) → ∀ q', R = .ok q' → ∀ o ∈ q'.1, WOK S o := by
      intro md R hR q' hq
      rw [hR] at hq
      split at hq
      · cases hq
      · exact par_wok S hS n _ _ _ _ hq trivial
    rw [par] at h
    split at h
    · split at h
      · cases h
      · rename_i q1 h1
        exact par_wok S hS n _ _ _ _ h (par_wok S hS n _ _ _ _ h1 trivial)
    · split at h
      · split at h
        · exact preP_wok (by decide) h (inn 3 _ rfl)
        · exact par_wok S hS n _ _ _ _ h trivial
      · split at h
        · split at h
          · cases h
          · rename_i q1 h1
            split at h
            · injection h with h; subst h; exact par_wok S hS n _ _ _ _ h1 trivial
            · split at h
              · cases h
              · rename_i q2 h2
                injection h with h
                subst h
                intro o ho
                simp only [List.mem_append, List.mem_singleton] at ho
                rcases ho with (ho | ho) | rfl
                · exact par_wok S hS n _ _ _ _ h1 trivial o ho
                · exact par_wok S hS n _ _ _ _ h2 trivial o ho
                · exact ⟨I64_zero, fun e => absurd e (codeI_ne3 4 (nextS q1.2))⟩
        · split at h
          · split at h
            · exact numP_wok h
            · split at h
              · exact preP_wok (by decide) h (inn 7 _ rfl)
              · split at h
                · exact preP_wok (by decide) h (inn 7 _ rfl)
                · exact par_wok S hS n _ _ _ _ h trivial
          · unfold atomP at h
            split at h
            · cases h
            · split at h
              · exact numP_wok h
              · split at h
                · split at h
                  · injection h with h
                    subst h
                    intro o ho
                    simp only [List.mem_singleton] at ho
                    subst ho
                    exact ⟨I64_zero, fun e => by simp at e⟩
                  · cases h
                · split at h
                  · split at h
                    · cases h
                    · split at h
                      · rename_i hi
                        injection h with h
                        subst h
                        intro o ho
                        simp only [List.mem_singleton] at ho
                        subst ho
                        rename_i t _ _ _ _ _
                        have hx := index_lt S t.t 0
                        unfold WOK I64
                        simp only
                        refine ⟨⟨by omega, by omega⟩, fun _ => by omega⟩
                      · cases h
                  · split at h
                    · split at h
                      · cases h
                      · dsimp only at h
                        rename_i r _ _ _ _ _
                        cases hp : par S n (.lv 1) r (d + 1) with
                        | error e => rw [hp] at h; cases h
                        | ok q' =>
                          rw [hp] at h
                          have := par_wok S hS n _ _ _ _ hp trivial
                          unfold closeP at h
                          simp only at h
                          split at h
                          · cases h
                          · split at h
                            · injection h with h; subst h; exact this
                            · cases h
                    · cases h

def needM (md : Md) (m : Nat) : Nat := match md with
  | .lv k => needL k m
  | .ch _ _ => needC m
def lvOK : Md → Prop
  | .lv k => 1 ≤ k ∧ k ≤ 8
  | .ch k _ => k = 1 ∨ k = 2 ∨ k = 5 ∨ k = 6
theorem subL_ok {k : Nat} (h : k = 1 ∨ k = 2 ∨ k = 5 ∨ k = 6) : subL k = k + 1 := by rcases h with rfl | rfl | rfl | rfl <;> rfl
/-- So many steps are enough. -/
theorem par_enough (S : List Cl) : ∀ (n : Nat) (md : Md) (ts : List Tok) (d : Nat) (q : List Wd × List Tok), par S n md ts d = .ok q → lvOK md → ∀ m, needM md ts.length ≤ m → par S m md ts d = .ok q
  | 0, md, ts, d, q, h, _, m, _ => by cases h
  | n + 1, .ch k x, ts, d, q, h, hk, m, hm => by
    have hm' : 20 * ts.length + 11 ≤ m := hm
    obtain ⟨m, rfl⟩ : ∃ m', m = m' + 1 := ⟨m - 1, by omega⟩
    have hk' : k = 1 ∨ k = 2 ∨ k = 5 ∨ k = 6 := hk
    rw [par] at h ⊢
    split at h
    · rename_i hc
      rw [if_pos hc]; exact h
    · rename_i hc
      have hp := code_pos hc
      rw [if_neg hc]
      split at h
      · cases h
      · rename_i q1 h1
        have hl := par_len S n _ _ _ _ h1
        have hl : q1.2.length < ts.tail.length := hl
        rw [List.length_tail] at hl
        rw [par_enough S n _ _ _ _ h1 (by rw [subL_ok hk']; exact ⟨by omega, by omega⟩) m (by show needL (subL k) ts.tail.length ≤ m; unfold needL; rw [List.length_tail]; omega)]
        exact par_enough S n _ _ _ _ h hk m (by show needC q1.2.length ≤ m; unfold needC; omega)
  | n + 1, .lv k, ts, d, q, h, hk, m, hm => by
    obtain ⟨hk1, hk8⟩ : 1 ≤ k ∧ k ≤ 8 := hk
    have hm' : 20 * ts.length + 12 - k ≤ m := hm
    obtain ⟨m, rfl⟩ : ∃ m', m = m' + 1 := ⟨m - 1, by omega⟩
    have pre : ∀ (c : Int) (md : Nat) (q : List Wd × List Tok), 1 ≤ md ∧ md ≤ 8 → 0 < ts.length → preP c (if 128 ≤ d then .error 6 else par S n (.lv md) ts.tail (d + 1)) = .ok q → preP c (if 128 ≤ d then .error 6 else par S m (.lv md) ts.tail (d + 1)) = .ok q := by
      intro c md q hmd hp h
      split at h
      · cases h
      · rename_i hd
        rw [if_neg hd]
        cases hpp : par S n (.lv md) ts.tail (d + 1) with
        | error e => rw [hpp] at h; cases h
        | ok q' => rw [hpp] at h; rw [par_enough S n _ _ _ _ hpp hmd m (by show needL md ts.tail.length ≤ m; unfold needL; rw [List.length_tail]; omega)]; exact h
    have lvup : ∀ (k' : Nat) (q : List Wd × List Tok), k < k' → k' ≤ 8 → par S n (.lv k') ts d = .ok q → par S m (.lv k') ts d = .ok q := fun k' q h1 h2 hp =>
      par_enough S n _ _ _ _ hp ⟨by omega, h2⟩ m (by show needL k' ts.length ≤ m; unfold needL; omega)
    rw [par] at h ⊢
    split at h
    · rename_i hkk
      rw [if_pos hkk]
      split at h
      · cases h
      · rename_i q1 h1
        have hl : q1.2.length < ts.length := par_len S n _ _ _ _ h1
        rw [subL_ok hkk] at h1 ⊢
        rw [lvup (k + 1) q1 (by omega) (by omega) h1]
        exact par_enough S n _ _ _ _ h hkk m (by show needC q1.2.length ≤ m; unfold needC; omega)
    · rename_i hkk
      rw [if_neg hkk]
      split at h
      · rename_i hk3
        rw [if_pos hk3]
        split at h
        · rename_i hn
          rw [if_pos hn]
          exact pre _ _ _ ⟨by omega, by omega⟩ (nextS_len hn (by simp)) h
        · rename_i hn
          rw [if_neg hn]
          exact lvup 4 q (by omega) (by omega) h
      · rename_i hk3
        rw [if_neg hk3]
        split at h
        · rename_i hk4
          rw [if_pos hk4]
          split at h
          · cases h
          · rename_i q1 h1
            have hl : q1.2.length < ts.length := par_len S n _ _ _ _ h1
            rw [lvup 5 q1 (by omega) (by omega) h1]
            simp only
            split at h
            · rename_i hc
              rw [if_pos hc]; exact h
            · rename_i hc
              rw [if_neg hc]
              split at h
              · cases h
              · rename_i q2 h2
                rw [par_enough S n _ _ _ _ h2 ⟨by omega, by omega⟩ m (by show needL 5 q1.2.tail.length ≤ m; unfold needL; rw [List.length_tail]; omega)]
                exact h
        · rename_i hk4
          rw [if_neg hk4]
          split at h
          · rename_i hk7
            rw [if_pos hk7]
            split at h
            · rename_i hb
              rw [if_pos hb]; exact h
            · rename_i hb
              rw [if_neg hb]
              split at h
              · rename_i hm2
                rw [if_pos hm2]; exact pre _ _ _ ⟨by omega, by omega⟩ (nextS_len hm2 (by simp)) h
              · rename_i hm2
                rw [if_neg hm2]
                split at h
                · rename_i hl
                  rw [if_pos hl]; exact pre _ _ _ ⟨by omega, by omega⟩ (nextS_len hl (by simp)) h
                · rename_i hl
                  rw [if_neg hl]
                  exact lvup 8 q (by omega) (by omega) h
          · rename_i hk7
            rw [if_neg hk7]
            unfold atomP at h ⊢
            split at h
            · cases h
            · rename_i t r
              simp only [List.length_cons] at hm'
              simp only
              split at h
              · rename_i g; rw [if_pos g]; exact h
              · rename_i g
                rw [if_neg g]
                split at h
                · rename_i g2; rw [if_pos g2]; exact h
                · rename_i g2
                  rw [if_neg g2]
                  split at h
                  · rename_i g3; rw [if_pos g3]; exact h
                  · rename_i g3
                    rw [if_neg g3]
                    split at h
                    · rename_i g4
                      rw [if_pos g4]
                      split at h
                      · cases h
                      · rename_i hd
                        rw [if_neg hd]
                        dsimp only at h
                        cases hp : par S n (.lv 1) r (d + 1) with
                        | error e => rw [hp] at h; cases h
                        | ok q' => rw [hp] at h; rw [par_enough S n _ _ _ _ hp ⟨by omega, by omega⟩ m (by show needL 1 r.length ≤ m; unfold needL; omega)]; exact h
                    · cases h

theorem numP_err {s : List UInt8} {ts : List Tok} {e : Int} (h : numP s ts = .error e) (hp : 0 < ts.length) : e ≠ 0 := by
  cases ts with
  | nil => simp at hp
  | cons t r =>
    rw [numP] at h
    split at h
    · cases h
    · rename_i hn
      injection h with h
      subst h
      exact hn
/-- With so many steps, what is wrong is told. -/
theorem par_err (S : List Cl) : ∀ (n : Nat) (md : Md) (ts : List Tok) (d : Nat) (e : Int), par S n md ts d = .error e → lvOK md → needM md ts.length ≤ n → e ≠ 0
  | 0, .lv k, ts, d, e, h, hk, hm => by
    have hm' : 20 * ts.length + 12 - k ≤ 0 := hm
    have hk' : 1 ≤ k ∧ k ≤ 8 := hk
    omega
  | 0, .ch k x, ts, d, e, h, hk, hm => by
    have hm' : 20 * ts.length + 11 ≤ 0 := hm
    omega
  | n + 1, .ch k x, ts, d, e, h, hk, hm => by
    have hm' : 20 * ts.length + 11 ≤ n + 1 := hm
    have hk' : k = 1 ∨ k = 2 ∨ k = 5 ∨ k = 6 := hk
    rw [par] at h
    split at h
    · cases h
    · rename_i hc
      have hp := code_pos hc
      split at h
      · rename_i e1 h1
        injection h with h
        subst h
        exact par_err S n _ _ _ _ h1 (by rw [subL_ok hk']; exact ⟨by omega, by omega⟩) (by show needL (subL k) ts.tail.length ≤ n; unfold needL; rw [List.length_tail]; omega)
      · rename_i q1 h1
        have hl := par_len S n _ _ _ _ h1
        have hl : q1.2.length < ts.tail.length := hl
        rw [List.length_tail] at hl
        exact par_err S n _ _ _ _ h hk (by show needC q1.2.length ≤ n; unfold needC; omega)
  | n + 1, .lv k, ts, d, e, h, hk, hm => by
    obtain ⟨hk1, hk8⟩ : 1 ≤ k ∧ k ≤ 8 := hk
    have hm' : 20 * ts.length + 12 - k ≤ n + 1 := hm
    have pre : ∀ (c : Int) (md : Nat) (e : Int), 1 ≤ md ∧ md ≤ 8 → 0 < ts.length → preP c (if 128 ≤ d then .error 6 else par S n (.lv md) ts.tail (d + 1)) = .error e → e ≠ 0 := by
      intro c md e hmd hp h
      split at h
      · injection h with h; subst h; decide
      · cases hpp : par S n (.lv md) ts.tail (d + 1) with
        | error e' =>
          rw [hpp] at h
          injection h with h
          subst h
          exact par_err S n _ _ _ _ hpp hmd (by show needL md ts.tail.length ≤ n; unfold needL; rw [List.length_tail]; omega)
        | ok q' => rw [hpp] at h; cases h
    have lvup : ∀ (k' : Nat) (e : Int), k < k' → k' ≤ 8 → par S n (.lv k') ts d = .error e → e ≠ 0 := fun k' e h1 h2 hp =>
      par_err S n _ _ _ _ hp ⟨by omega, h2⟩ (by show needL k' ts.length ≤ n; unfold needL; omega)
    rw [par] at h
    split at h
    · rename_i hkk
      rw [subL_ok hkk] at h
      split at h
      · rename_i e1 h1
        injection h with h
        subst h
        exact lvup (k + 1) _ (by omega) (by omega) h1
      · rename_i q1 h1
        have hl : q1.2.length < ts.length := par_len S n _ _ _ _ h1
        exact par_err S n _ _ _ _ h hkk (by show needC q1.2.length ≤ n; unfold needC; omega)
    · split at h
      · split at h
        · rename_i hn
          exact pre _ _ _ ⟨by omega, by omega⟩ (nextS_len hn (by simp)) h
        · exact lvup 4 e (by omega) (by omega) h
      · split at h
        · split at h
          · rename_i e1 h1
            injection h with h
            subst h
            exact lvup 5 _ (by omega) (by omega) h1
          · rename_i q1 h1
            have hl : q1.2.length < ts.length := par_len S n _ _ _ _ h1
            split at h
            · cases h
            · split at h
              · rename_i e2 h2
                injection h with h
                subst h
                exact par_err S n _ _ _ _ h2 ⟨by omega, by omega⟩ (by show needL 5 q1.2.tail.length ≤ n; unfold needL; rw [List.length_tail]; omega)
              · cases h
        · split at h
          · split at h
            · rename_i hb
              refine numP_err h ?_
              unfold belowB at hb
              simp only [Bool.and_eq_true] at hb
              cases ts with
              | nil => simp [digitsNext] at hb
              | cons a r => cases r with
                | nil => simp [digitsNext] at hb
                | cons b r => simp
            · split at h
              · rename_i hm2
                exact pre _ _ _ ⟨by omega, by omega⟩ (nextS_len hm2 (by simp)) h
              · split at h
                · rename_i hl
                  exact pre _ _ _ ⟨by omega, by omega⟩ (nextS_len hl (by simp)) h
                · exact lvup 8 e (by omega) (by omega) h
          · unfold atomP at h
            split at h
            · injection h with h; subst h; decide
            · rename_i t r
              simp only [List.length_cons] at hm'
              split at h
              · exact numP_err h (by simp)
              · split at h
                · split at h
                  · cases h
                  · rename_i hq
                    injection h with h; subst h; exact hq
                · split at h
                  · split at h
                    · injection h with h; subst h; decide
                    · split at h
                      · cases h
                      · injection h with h; subst h; decide
                  · split at h
                    · split at h
                      · injection h with h; subst h; decide
                      · dsimp only at h
                        cases hp : par S n (.lv 1) r (d + 1) with
                        | error e' =>
                          rw [hp] at h
                          injection h with h
                          subst h
                          exact par_err S n _ _ _ _ hp ⟨by omega, by omega⟩ (by show needL 1 r.length ≤ n; unfold needL; omega)
                        | ok q' =>
                          rw [hp] at h
                          unfold closeP at h
                          simp only at h
                          split at h
                          · injection h with h; subst h; decide
                          · split at h
                            · cases h
                            · injection h with h; subst h; decide
                    · injection h with h; subst h; decide
theorem pexS_err {s : List UInt8} {S : List Cl} (h : (pexS s S).2 ≠ 0) : (pexS s S).1 = [] := by
  unfold pexS at h ⊢
  split
  · rfl
  · rename_i g1
    rw [if_neg g1] at h
    split
    · rename_i g2
      rw [if_pos g2] at h
      split
      · rename_i g3
        rw [if_pos g3] at h
        split
        · rfl
        · rename_i g4
          rw [if_neg g4] at h
          exact absurd rfl h
      · rfl
    · rfl
theorem pexS_ok {s : List UInt8} {S : List Cl} {x : List Wd} (h : pexS s S = (x, 0)) (hne : (pexS s S).2 = 0) : schB S = true ∧ formI x = 0 ∧ ∀ o ∈ x, WOK S o := by
  unfold pexS at h
  split at h
  · injection h with _ h; exact absurd h (by decide)
  · rename_i g1
    have g1' : schB S = true := by simpa using g1
    have h8 : S.length ≤ 8 := by
      unfold schB at g1'
      simp only [Bool.and_eq_true, decide_eq_true_eq] at g1'
      omega
    refine ⟨g1', ?_⟩
    split at h
    · split at h
      · rename_i g3
        split at h
        · injection h with _ h; exact absurd h (by decide)
        · injection h with h _
          unfold begS at h g3
          rw [if_neg (by simpa using g1')] at h g3
          split at h
          · rename_i g5
            rw [if_pos g5] at g3
            exact absurd g3 (by decide)
          · rename_i g5
            rw [if_neg g5] at g3
            split at h
            · rename_i k hp
              rw [hp] at g3
              exact absurd g3 (par_err S _ _ _ _ _ hp ⟨Nat.le_refl _, by omega⟩ (Nat.le_refl _))
            · rename_i q hp
              rw [hp] at g3
              simp only at g3
              split at h
              · rename_i hf
                simp only at h
                subst h
                exact ⟨hf, par_wok S h8 _ _ _ _ _ hp trivial⟩
              · rename_i hf
                rw [if_neg hf] at g3
                exact absurd g3 (by decide)
      · rename_i g3
        injection h with _ h
        exact absurd h g3
    · rename_i g2
      injection h with _ h
      exact absurd h g2
end Go.Proofs.YtballmombklalaaGreat
