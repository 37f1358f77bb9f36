/- The plain law: what is written is read again. The parser over the tokens of a tree. -/
import Derived.Test.YtballmombklalaaGreatM16
namespace Go.Proofs.YtballmombklalaaGreat
open Go.RowKit

theorem par_mono (S : List Cl) : ∀ (n : Nat) (md : Md) (ts : List Tok) (d : Nat) (q : List Wd × List Tok), par S n md ts d = .ok q → ∀ m, n ≤ m → par S m md ts d = .ok q
  | 0, md, ts, d, q, h, m, _ => by cases h
  | n + 1, md, ts, d, q, h, 0, hm => by omega
  | n + 1, .ch k x, ts, d, q, h, m + 1, hm => by
    rw [par] at h ⊢
    split at h
    · rename_i hc
      rw [if_pos hc]; exact h
    · rename_i hc
      rw [if_neg hc]
      split at h
      · cases h
      · rename_i q1 h1
        rw [par_mono S n _ _ _ _ h1 m (by omega)]
        exact par_mono S n _ _ _ _ h m (by omega)
  | n + 1, .lv k, ts, d, q, h, m + 1, hm => by
    have pre : ∀ (c : Int) (md : Nat) (q : List Wd × List Tok), preP c (if 128 ≤ d then .error 6 else par S n (.lv md) ts.tail (d + 1)) = .ok q → preP c (if 128 ≤ d then .error 6 else par S m (.lv md) ts.tail (d + 1)) = .ok q := by
      intro c md q h
      split at h
      · cases h
      · rename_i hd
        rw [if_neg hd]
        cases hp : par S n (.lv md) ts.tail (d + 1) with
        | error e => rw [hp] at h; cases h
        | ok q' => rw [hp] at h; rw [par_mono S n _ _ _ _ hp m (by omega)]; exact h
    rw [par] at h ⊢
    split at h
    · rename_i hk
      rw [if_pos hk]
      split at h
      · cases h
      · rename_i q1 h1
        rw [par_mono S n _ _ _ _ h1 m (by omega)]
        exact par_mono S n _ _ _ _ h m (by omega)
    · rename_i hk
      rw [if_neg hk]
      split at h
      · rename_i hk3
        rw [if_pos hk3]
        split at h
        · rename_i hn
          rw [if_pos hn]
          exact pre _ _ _ h
        · rename_i hn
          rw [if_neg hn]
          exact par_mono S n _ _ _ _ h m (by omega)
      · rename_i hk3
        rw [if_neg hk3]
        split at h
        · rename_i hk4
          rw [if_pos hk4]
          split at h
          · cases h
          · rename_i q1 h1
            rw [par_mono S n _ _ _ _ h1 m (by omega)]
            simp only
            split at h
            · rename_i hc
              rw [if_pos hc]; exact h
            · rename_i hc
              rw [if_neg hc]
              split at h
              · cases h
              · rename_i q2 h2
                rw [par_mono S n _ _ _ _ h2 m (by omega)]
                exact h
        · rename_i hk4
          rw [if_neg hk4]
          split at h
          · rename_i hk7
            rw [if_pos hk7]
            split at h
            · rename_i hb
              rw [if_pos hb]; exact h
            · rename_i hb
              rw [if_neg hb]
              split at h
              · rename_i hm'
                rw [if_pos hm']; exact pre _ _ _ h
              · rename_i hm'
                rw [if_neg hm']
                split at h
                · rename_i hl
                  rw [if_pos hl]; exact pre _ _ _ h
                · rename_i hl
                  rw [if_neg hl]
                  exact par_mono S n _ _ _ _ h m (by omega)
          · rename_i hk7
            rw [if_neg hk7]
            unfold atomP at h ⊢
            split at h
            · cases h
            · rename_i t r
              simp only
              split at h
              · rename_i g; rw [if_pos g]; exact h
              · rename_i g
                rw [if_neg g]
                split at h
                · rename_i g2; rw [if_pos g2]; exact h
                · rename_i g2
                  rw [if_neg g2]
                  split at h
                  · rename_i g3; rw [if_pos g3]; exact h
                  · rename_i g3
                    rw [if_neg g3]
                    split at h
                    · rename_i g4
                      rw [if_pos g4]
                      split at h
                      · cases h
                      · rename_i hd
                        rw [if_neg hd]
                        dsimp only at h
                        cases hp : par S n (.lv 1) r (d + 1) with
                        | error e => rw [hp] at h; cases h
                        | ok q' => rw [hp] at h; rw [par_mono S n _ _ _ _ hp m (by omega)]; exact h
                    · cases h

/-- The parser reads this, with enough steps. -/
def Pa (S : List Cl) (md : Md) (ts : List Tok) (d : Nat) (q : List Wd × List Tok) : Prop := ∃ n, par S n md ts d = .ok q
section
variable {S : List Cl} {ts rest : List Tok} {d k : Nat} {x : List Wd} {q q' : List Wd × List Tok}
theorem Pa.chain (hk : k = 1 ∨ k = 2 ∨ k = 5 ∨ k = 6) (h1 : Pa S (.lv (subL k)) ts d q) (h2 : Pa S (.ch k q.1) q.2 d q') : Pa S (.lv k) ts d q' := by
  obtain ⟨n, h1⟩ := h1
  obtain ⟨m, h2⟩ := h2
  refine ⟨n + m + 1, ?_⟩
  rw [par, if_pos hk, par_mono S n _ _ _ _ h1 (n + m) (by omega)]
  exact par_mono S m _ _ _ _ h2 (n + m) (by omega)
theorem Pa.stop (h : codeI k (nextS ts) = 0) : Pa S (.ch k x) ts d (x, ts) := ⟨1, by rw [par, if_pos h]⟩
theorem Pa.step {c : Int} (hc : codeI k (nextS ts) = c) (h0 : c ≠ 0) (h1 : Pa S (.lv (subL k)) ts.tail d q) (h2 : Pa S (.ch k (x ++ q.1 ++ [⟨c, 0, []⟩])) q.2 d q') : Pa S (.ch k x) ts d q' := by
  obtain ⟨n, h1⟩ := h1
  obtain ⟨m, h2⟩ := h2
  refine ⟨n + m + 1, ?_⟩
  rw [par, if_neg (by rw [hc]; exact h0), par_mono S n _ _ _ _ h1 (n + m) (by omega), hc]
  exact par_mono S m _ _ _ _ h2 (n + m) (by omega)
theorem Pa.not (hn : nextS ts = [110, 111, 116]) (hd : d < 128) (h : Pa S (.lv 3) ts.tail (d + 1) q) : Pa S (.lv 3) ts d (q.1 ++ [⟨5, 0, []⟩], q.2) := by
  obtain ⟨n, h⟩ := h
  refine ⟨n + 1, ?_⟩
  rw [par, if_neg (by omega), if_pos rfl, if_pos hn, if_neg (by omega), h]
  rfl
theorem Pa.up3 (hn : nextS ts ≠ [110, 111, 116]) (h : Pa S (.lv 4) ts d q) : Pa S (.lv 3) ts d q := by
  obtain ⟨n, h⟩ := h
  refine ⟨n + 1, ?_⟩
  rw [par, if_neg (by omega), if_pos rfl, if_neg hn]
  exact h
theorem Pa.up4 (h : Pa S (.lv 5) ts d q) (hc : codeI 4 (nextS q.2) = 0) : Pa S (.lv 4) ts d q := by
  obtain ⟨n, h⟩ := h
  refine ⟨n + 1, ?_⟩
  rw [par, if_neg (by omega), if_neg (by omega), if_pos rfl, h]
  simp only
  rw [if_pos hc]
theorem Pa.cmp {c : Int} (h1 : Pa S (.lv 5) ts d q) (hc : codeI 4 (nextS q.2) = c) (h0 : c ≠ 0) (h2 : Pa S (.lv 5) q.2.tail d q') : Pa S (.lv 4) ts d (q.1 ++ q'.1 ++ [⟨c, 0, []⟩], q'.2) := by
  obtain ⟨n, h1⟩ := h1
  obtain ⟨m, h2⟩ := h2
  refine ⟨n + m + 1, ?_⟩
  rw [par, if_neg (by omega), if_neg (by omega), if_pos rfl, par_mono S n _ _ _ _ h1 (n + m) (by omega)]
  simp only
  rw [if_neg (by rw [hc]; exact h0), par_mono S m _ _ _ _ h2 (n + m) (by omega)]
  simp only
  rw [hc]
theorem Pa.below (hb : belowB ts = true) (h : numP [45] ts.tail = .ok q) : Pa S (.lv 7) ts d q := by
  refine ⟨1, ?_⟩
  rw [par, if_neg (by omega), if_neg (by omega), if_neg (by omega), if_pos rfl, if_pos hb, h]
theorem Pa.neg (hb : belowB ts = false) (hn : nextS ts = [45]) (hd : d < 128) (h : Pa S (.lv 7) ts.tail (d + 1) q) : Pa S (.lv 7) ts d (q.1 ++ [⟨4, 0, []⟩], q.2) := by
  obtain ⟨n, h⟩ := h
  refine ⟨n + 1, ?_⟩
  rw [par, if_neg (by omega), if_neg (by omega), if_neg (by omega), if_pos rfl, if_neg (by rw [hb]; simp), if_pos hn, if_neg (by omega), h]
  rfl
theorem Pa.len (hn : nextS ts = [108, 101, 110]) (hd : d < 128) (h : Pa S (.lv 7) ts.tail (d + 1) q) : Pa S (.lv 7) ts d (q.1 ++ [⟨6, 0, []⟩], q.2) := by
  obtain ⟨n, h⟩ := h
  refine ⟨n + 1, ?_⟩
  rw [par, if_neg (by omega), if_neg (by omega), if_neg (by omega), if_pos rfl, if_neg (by unfold belowB; rw [hn]; simp), if_neg (by rw [hn]; decide), if_pos hn, if_neg (by omega), h]
  rfl
theorem Pa.up7 (h1 : nextS ts ≠ [45]) (h2 : nextS ts ≠ [108, 101, 110]) (h : Pa S (.lv 8) ts d q) : Pa S (.lv 7) ts d q := by
  obtain ⟨n, h⟩ := h
  refine ⟨n + 1, ?_⟩
  rw [par, if_neg (by omega), if_neg (by omega), if_neg (by omega), if_pos rfl, if_neg (by unfold belowB; rw [decide_eq_false h1]; simp), if_neg h1, if_neg h2]
  exact h
theorem Pa.brack {r r2 : List Tok} (hd : d < 128) (h : Pa S (.lv 1) r (d + 1) (x, ⟨4, [41]⟩ :: r2)) : Pa S (.lv 8) (⟨4, [40]⟩ :: r) d (x, r2) := by
  obtain ⟨n, h⟩ := h
  refine ⟨n + 1, ?_⟩
  rw [par, if_neg (by omega), if_neg (by omega), if_neg (by omega), if_neg (by omega), atomP]
  simp only
  rw [if_neg (by decide), if_neg (by decide), if_neg (by decide), if_pos trivial, if_neg (by omega), h]
  simp [closeP, nextS]
end

/-- What follows does not go on at this level, nor at a later one. -/
def okR (k : Nat) (rest : List Tok) : Prop := ∀ j : Nat, k ≤ j → (j = 1 ∨ j = 2 ∨ j = 4 ∨ j = 5 ∨ j = 6) → codeI (j : Int) (nextS rest) = 0
theorem okR.mono {k k' : Nat} {rest : List Tok} (h : okR k rest) (hk : k ≤ k') : okR k' rest := fun j hj => h j (Nat.le_trans hk hj)
theorem okR_close (rest : List Tok) : okR 1 (⟨4, [41]⟩ :: rest) := by
  rintro j _ (rfl | rfl | rfl | rfl | rfl) <;> rfl

/-- From level 7 down to where it is to be read: what begins with no 'not'. -/
theorem Pa.down {S : List Cl} {ts rest : List Tok} {d : Nat} {x : List Wd} {K : Nat} (hn : nextS ts ≠ [110, 111, 116]) (hK : 4 ≤ K) (h : Pa S (.lv K) ts d (x, rest)) : ∀ (m k : Nat), m = K - k → 1 ≤ k → k ≤ K → K ≤ 7 → okR k rest → Pa S (.lv k) ts d (x, rest) := by
  intro m
  induction m with
  | zero => intro k hm h1 h2 h7 _; have : k = K := by omega
            subst this; exact h
  | succ m ih =>
    intro k hm h1 h2 h7 hr
    have hk : k = 1 ∨ k = 2 ∨ k = 3 ∨ k = 4 ∨ k = 5 ∨ k = 6 := by omega
    have nxt := ih (k + 1) (by omega) (by omega) (by omega) h7 (hr.mono (by omega))
    rcases hk with rfl | rfl | rfl | rfl | rfl | rfl
    · exact .chain (.inl rfl) nxt (.stop (hr 1 (by omega) (by omega)))
    · exact .chain (.inr (.inl rfl)) nxt (.stop (hr 2 (by omega) (by omega)))
    · exact .up3 hn nxt
    · exact .up4 nxt (hr 4 (by omega) (by omega))
    · exact .chain (.inr (.inr (.inl rfl))) nxt (.stop (hr 5 (by omega) (by omega)))
    · exact .chain (.inr (.inr (.inr rfl))) nxt (.stop (hr 6 (by omega) (by omega)))
theorem Pa.down3 {S : List Cl} {ts rest : List Tok} {d : Nat} {x : List Wd} {K : Nat} (hK : K ≤ 3) (h : Pa S (.lv K) ts d (x, rest)) : ∀ (k : Nat), 1 ≤ k → k ≤ K → okR k rest → Pa S (.lv k) ts d (x, rest) := by
  intro k h1 h2 hr
  have hk : (K = k) ∨ (K = 2 ∧ k = 1) ∨ (K = 3 ∧ k = 2) ∨ (K = 3 ∧ k = 1) := by omega
  rcases hk with rfl | ⟨rfl, rfl⟩ | ⟨rfl, rfl⟩ | ⟨rfl, rfl⟩
  · exact h
  · exact .chain (.inl rfl) h (.stop (hr 1 (by omega) (by omega)))
  · exact .chain (.inr (.inl rfl)) h (.stop (hr 2 (by omega) (by omega)))
  · exact .chain (.inl rfl) (.chain (.inr (.inl rfl)) h (.stop (hr 2 (by omega) (by omega)))) (.stop (hr 1 (by omega) (by omega)))
end Go.Proofs.YtballmombklalaaGreat
