/- The plain law: a written expression is read again. -/
import Derived.Test.YtballmombklalaaGreatM31
import Derived.Test.YtballmombklalaaGreatM33
import Derived.Test.YtballmombklalaaGreatM25
namespace Go.Proofs.YtballmombklalaaGreat
open Go.RowKit

theorem allI_at {α : Type} (p : Nat → α → Bool) : ∀ (L : List α) (n i : Nat) (x : α), allI p L n = true → L[i]? = some x → p (n + i) x = true
  | [], n, i, x, _, h => by simp at h
  | y :: L, n, 0, x, h, hi => by
    simp at hi
    subst hi
    rw [allI] at h
    simp only [Bool.and_eq_true] at h
    exact h.1
  | y :: L, n, i + 1, x, h, hi => by
    rw [allI] at h
    simp only [Bool.and_eq_true] at h
    have := allI_at p L (n + 1) i x h.2 (by simpa using hi)
    rw [show n + (i + 1) = n + 1 + i by omega]
    exact this
theorem name_facts {s : List UInt8} (h : nameB s = true) : s ≠ [] ∧ letterB (s.headD 0) = true ∧ s.all lodB = true ∧ wordB s = false := by
  unfold nameB at h
  simp only [Bool.and_eq_true, decide_eq_true_eq, Bool.not_eq_true'] at h
  exact ⟨by intro e; subst e; simp at h, h.1.1.2, h.1.2, h.2⟩
theorem col_at {S : List Cl} (h : schB S = true) {o : Wd} (hc : 0 ≤ o.n) (hn : o.n < S.length) : ∃ x, S[o.n.toNat]? = some x ∧ nmS S o = x.n ∧ nameB x.n = true ∧ indexC S x.n 0 = o.n := by
  unfold schB at h
  simp only [Bool.and_eq_true] at h
  have hlt : o.n.toNat < S.length := by omega
  have hx : S[o.n.toNat]? = some S[o.n.toNat] := List.getElem?_eq_getElem hlt
  have := allI_at (colB S) S 0 o.n.toNat _ h.2 hx
  unfold colB at this
  simp only [Bool.and_eq_true, decide_eq_true_eq] at this
  refine ⟨_, hx, ?_, this.1, ?_⟩
  · unfold nmS
    simp [List.getD, hx]
  · rw [this.2.2]; omega
theorem leaf_ok {S : List Cl} (h : schB S = true) {o : Wd} (hw : wdB o = true) (ho : WOK S o) : LeafOK S o := by
  obtain ⟨_, _, c2, c3⟩ := wd_bd hw
  refine ⟨fun e => ?_, fun e => quote_par (c2 e), fun e => show_read ho.1, fun e hn => show_neg hn⟩
  obtain ⟨x, hx, e1, e2, e3⟩ := col_at h (c3 e).1 (ho.2 e)
  obtain ⟨f1, f2, f3, f4⟩ := name_facts e2
  rw [e1]
  refine ⟨f4, e3, ?_, (c3 e).1⟩
  intro q
  rw [q] at f2
  revert f2
  decide
theorem may_of {x : Tok} (h0 : x.t ≠ []) (h : firstS x.t = (x, 0)) : mayT x = true := by
  unfold mayT
  rw [h]
  simp [h0]
theorem tw_full (p : UInt8 → Bool) (s : List UInt8) (h : s.all p = true) : s.takeWhile p = s := by
  have := tw_app p s [] h (.inl rfl)
  rwa [List.append_nil] at this
theorem may_name {s : List UInt8} (h : nameB s = true) : mayT ⟨1, s⟩ = true := by
  obtain ⟨f1, f2, f3, _⟩ := name_facts h
  refine may_of f1 ?_
  unfold firstS
  rw [if_pos f2, tw_full lodB s f3]
theorem may_digits {D : List UInt8} (h : D.all digitB = true) (h0 : D ≠ []) : mayT ⟨2, D⟩ = true := by
  refine may_of h0 ?_
  obtain ⟨c, r, e, hc⟩ := digit_head h h0
  unfold firstS
  have hh : D.headD 0 = c := by rw [e]; rfl
  have hl : letterB c = false := by
    unfold digitB at hc
    unfold letterB
    simp at hc ⊢
    omega
  rw [hh, if_neg (by rw [hl]; simp), if_pos hc, tw_full digitB D h]
theorem index_last : ∀ (l : List UInt8), (39 : UInt8) ∉ l → Lib.indexByte (l ++ [39]) 39 = l.length
  | [], _ => by decide
  | b :: l, h => by
    have hb : (b == 39) = false := by
      rw [beq_eq_false_iff_ne]
      intro e
      exact h (by simp [e])
    have ih := index_last l (fun q => h (by simp [q]))
    rw [List.cons_append, Lib.indexByte, hb, ih]
    rw [if_neg (by simp), if_neg (by simp)]
    simp
theorem dg_ne {n : Nat} (h : n ≤ 15) : dgU n ≠ 39 := by
  intro e
  have := dgU_toNat h
  rw [e] at this
  unfold digI at this
  have h39 : ((39 : UInt8).toNat : Int) = 39 := rfl
  split at this <;> omega
theorem esc_no (t : List UInt8) : (39 : UInt8) ∉ t.flatMap escB := by
  intro h
  rw [List.mem_flatMap] at h
  obtain ⟨c, _, h⟩ := h
  have hc := c.toNat_lt
  unfold escB at h
  split at h
  · rename_i hp
    rw [List.mem_singleton] at h
    subst h
    revert hp
    decide
  · simp only [List.mem_cons, List.not_mem_nil, or_false] at h
    rcases h with h | h | h
    · revert h; decide
    · exact dg_ne (by omega) h.symm
    · exact dg_ne (by omega) h.symm
theorem may_quoteS (t : List UInt8) : mayT ⟨3, quoteS t⟩ = true := by
  have hq : quoteS t = 39 :: (t.flatMap escB ++ [39]) := rfl
  refine may_of (by rw [hq]; simp) ?_
  unfold firstS
  rw [hq]
  simp only [List.headD_cons, List.drop_succ_cons, List.drop_zero]
  rw [if_neg (by decide), if_neg (by decide), if_pos trivial, index_last _ (esc_no t), if_neg (by omega)]
  have hlen : (((t.flatMap escB).length : Int) + 2).toNat = (39 :: (t.flatMap escB ++ [39]) : List UInt8).length := by simp; omega
  rw [hlen, List.take_length]
theorem may_sign {c : Int} (h : 4 ≤ c ∧ c ≤ 20) : mayT (signT c) = true := by
  have hc : c = 4 ∨ c = 5 ∨ c = 6 ∨ c = 7 ∨ c = 8 ∨ c = 9 ∨ c = 10 ∨ c = 11 ∨ c = 12 ∨ c = 13 ∨ c = 14 ∨ c = 15 ∨ c = 16 ∨ c = 17 ∨ c = 18 ∨ c = 19 ∨ c = 20 := by omega
  rcases hc with rfl | rfl | rfl | rfl | rfl | rfl | rfl | rfl | rfl | rfl | rfl | rfl | rfl | rfl | rfl | rfl | rfl <;> decide
theorem may_open : mayT ⟨4, [40]⟩ = true := by decide
theorem may_close : mayT ⟨4, [41]⟩ = true := by decide
theorem leaf_may {S : List Cl} (h : schB S = true) {o : Wd} (hw : wdB o = true) (ho : WOK S o) : ∀ x ∈ leafT S o, mayT x = true := by
  obtain ⟨_, _, c2, c3⟩ := wd_bd hw
  intro x hx
  unfold leafT at hx
  split at hx
  · rename_i e
    rw [List.mem_singleton] at hx
    subst hx
    obtain ⟨y, _, e1, e2, _⟩ := col_at h (c3 e).1 (ho.2 e)
    have e1' : (S.map Cl.n).getD o.n.toNat [] = y.n := e1
    rw [e1']
    exact may_name e2
  · split at hx
    · rw [List.mem_singleton] at hx
      subst hx
      exact may_quoteS _
    · obtain ⟨D, a1, a2, _, _, _, e⟩ := show_spec ho.1
      split at hx
      · rename_i hn
        rw [e, if_pos hn] at hx
        simp only [List.tail_cons, List.mem_cons, List.not_mem_nil, or_false] at hx
        rcases hx with rfl | rfl
        · decide
        · exact may_digits a1 a2
      · rename_i hn
        rw [e, if_neg hn, List.mem_singleton] at hx
        subst hx
        exact may_digits a1 a2
theorem part_may {c : Int} {i : Nat} {r : Wd} {l : List Tok} (h : ∀ x ∈ l, mayT x = true) : ∀ x ∈ partT c i r l, mayT x = true := by
  intro x hx
  unfold partT at hx
  split at hx
  · exact h x hx
  · simp only [List.mem_cons, List.mem_append, List.not_mem_nil, or_false] at hx
    rcases hx with rfl | hx | rfl
    · exact may_open
    · exact h x hx
    · exact may_close
theorem takes_bin {o : Wd} (hw : wdB o = true) (ht : takesI o.c = 1 ∨ takesI o.c = 2) : 4 ≤ o.c ∧ o.c ≤ 20 := by
  have := wd_bd hw
  unfold takesI at ht
  refine ⟨?_, this.2.1⟩
  by_cases h : o.c ≤ 3
  · rw [if_pos (by omega)] at ht; omega
  · omega
theorem toks_may {S : List Cl} (h : schB S = true) (t : Ex) (hg : t.good) (ho : ∀ o ∈ t.flat, WOK S o) : ∀ x ∈ toksX S t, mayT x = true := by
  induction t with
  | leaf o => exact leaf_may h hg.1 (ho o (by simp [Ex.flat]))
  | un o a ih =>
    intro x hx
    rw [toksX, List.mem_cons] at hx
    rcases hx with rfl | hx
    · exact may_sign (takes_bin hg.1 (.inl hg.2.1))
    · exact part_may (ih hg.2.2 (fun w hw => ho w (by simp [Ex.flat, hw]))) x hx
  | bin o a b iha ihb =>
    intro x hx
    rw [toksX, List.mem_append, List.mem_cons] at hx
    rcases hx with hx | rfl | hx
    · exact part_may (iha hg.2.2.1 (fun w hw => ho w (by simp [Ex.flat, hw]))) x hx
    · exact may_sign (takes_bin hg.1 (.inr hg.2.1))
    · exact part_may (ihb hg.2.2.2 (fun w hw => ho w (by simp [Ex.flat, hw]))) x hx
theorem join_eq (T : List Tok) : joinS T = joinW T := by cases T <;> rfl
theorem good_words {t : Ex} (hg : t.good) : ∀ o ∈ t.flat, wdB o = true := by
  induction t with
  | leaf o => intro w hw; simp only [Ex.flat, List.mem_singleton] at hw; subst hw; exact hg.1
  | un o a ih =>
    intro w hw
    simp only [Ex.flat, List.mem_append, List.mem_singleton] at hw
    rcases hw with hw | rfl
    · exact ih hg.2.2 w hw
    · exact hg.1
  | bin o a b iha ihb =>
    intro w hw
    simp only [Ex.flat, List.mem_append, List.mem_singleton] at hw
    rcases hw with hw | hw | rfl
    · exact iha hg.2.2.1 w hw
    · exact ihb hg.2.2.2 w hw
    · exact hg.1

/-- What is written is read again. -/
theorem show_parse {S : List Cl} (h : schB S = true) (t : Ex) (hg : t.good) (ho : ∀ o ∈ t.flat, WOK S o) (hl : t.flat.length ≤ 64) : pexS (joinS (toksX S t)) S = (t.flat, 0) := by
  have hlo : ∀ o ∈ t.flat, LeafOK S o := fun o hm => leaf_ok h (good_words hg o hm) (ho o hm)
  have hmay := toks_may h t hg ho
  have hsp := split_join (toksX S t) hmay
  rw [← join_eq] at hsp
  obtain ⟨n, hp⟩ := (tree_par S t hg hlo).1 1 [] 0 (Nat.le_refl _) (level_bd _).1 (by omega) (by rintro j _ (rfl | rfl | rfl | rfl | rfl) <;> rfl) (by omega)
  rw [List.append_nil] at hp
  have hp2 := par_enough S _ _ _ _ _ hp ⟨Nat.le_refl _, by omega⟩ (needL 1 (toksX S t).length) (Nat.le_refl _)
  have hb : begS (toksX S t) S = (t.flat, ((toksX S t).length : Int), 0) := by
    unfold begS
    rw [if_neg (by rw [h]; simp), if_neg (by
      intro q
      rw [List.any_eq_true] at q
      obtain ⟨x, hx, q⟩ := q
      rw [hmay x hx] at q
      cases q), hp2]
    simp only
    rw [if_pos (t.form hg hl)]
    simp
  unfold pexS
  rw [if_neg (by rw [h]; simp), hsp]
  simp only
  rw [if_pos trivial, hb]
  simp
theorem show_ne {S : List Cl} (h : schB S = true) (t : Ex) (hg : t.good) (ho : ∀ o ∈ t.flat, WOK S o) : joinS (toksX S t) ≠ [] := by
  obtain ⟨x, tl, e, _⟩ := head_ok S t hg (fun o hm => leaf_ok h (good_words hg o hm) (ho o hm))
  have := (may_first (toks_may h t hg ho x (by rw [e]; simp))).1
  rw [e]
  simp [joinS, this]
end Go.Proofs.YtballmombklalaaGreat

/- The plain law: an expression's text is short. -/
namespace Go.Proofs.YtballmombklalaaGreat
open Go.RowKit

theorem name_of {S : List Cl} (h : schB S = true) (i : Nat) : ((S.map Cl.n).getD i []).length ≤ 16 := by
  rw [List.getD_eq_getElem?_getD]
  cases hi : (S.map Cl.n)[i]? with
  | none => simp
  | some t =>
    rw [List.getElem?_map] at hi
    cases hs : S[i]? with
    | none => rw [hs] at hi; cases hi
    | some x =>
      rw [hs] at hi
      injection hi with hi
      subst hi
      unfold schB at h
      rw [Bool.and_eq_true] at h
      have := allI_at (colB S) S 0 i x h.2 hs
      unfold colB nameB at this
      simp only [Bool.and_eq_true, decide_eq_true_eq] at this
      simpa using this.1.1.1.1.2
theorem mark_len (c : Int) : (markS c).length ≤ 3 := by
  unfold markS
  repeat (first | (split; · simp) | simp)
theorem sign_len (c : Int) : (signT c).t.length ≤ 3 := by
  unfold signT
  split
  · simp
  · split
    · simp
    · split
      · simp
      · split
        · simp
        · exact mark_len c
theorem leaf_len {S : List Cl} (h : schB S = true) {o : Wd} (hw : wdB o = true) (ho : I64 o.n) : ∀ x ∈ leafT S o, x.t.length ≤ 200 := by
  intro x hx
  obtain ⟨D, _, _, d3, _, _, de⟩ := show_spec ho
  have hs : (showN o.n).length ≤ 20 := by
    rw [de]
    split
    · rw [List.length_cons]; omega
    · omega
  unfold leafT at hx
  split at hx
  · rw [List.mem_singleton] at hx
    subst hx
    have := name_of h o.n.toNat
    simp only
    omega
  · split at hx
    · rename_i h2
      rw [List.mem_singleton] at hx
      subst hx
      have h64 := (wd_bd hw).2.2.1 h2
      have := esc_lens o.t
      simp only [quoteS, List.length_append, List.length_cons, List.length_nil]
      omega
    · split at hx
      · simp only [List.mem_cons, List.not_mem_nil, or_false] at hx
        rcases hx with rfl | rfl
        · simp
        · simp only [List.length_tail]; omega
      · rw [List.mem_singleton] at hx
        subst hx
        simp only
        omega
theorem part_tok {c : Int} {i : Nat} {r : Wd} {l : List Tok} (h : ∀ x ∈ l, x.t.length ≤ 200) : ∀ x ∈ partT c i r l, x.t.length ≤ 200 := by
  intro x hx
  unfold partT at hx
  split at hx
  · exact h x hx
  · simp only [List.mem_cons, List.mem_append, List.not_mem_nil, or_false] at hx
    rcases hx with rfl | hx | rfl
    · simp
    · exact h x hx
    · simp
theorem toks_tok {S : List Cl} (h : schB S = true) : ∀ t : Ex, t.good → (∀ o ∈ t.flat, I64 o.n) → ∀ x ∈ toksX S t, x.t.length ≤ 200
  | .leaf o, hg, ho => leaf_len h hg.1 (ho o (by simp [Ex.flat]))
  | .un o a, hg, ho => by
    intro x hx
    rw [toksX, List.mem_cons] at hx
    rcases hx with rfl | hx
    · have := sign_len o.c; omega
    · exact part_tok (toks_tok h a hg.2.2 (fun w hw => ho w (by simp [Ex.flat, hw]))) x hx
  | .bin o a b, hg, ho => by
    intro x hx
    rw [toksX, List.mem_append, List.mem_cons] at hx
    rcases hx with hx | rfl | hx
    · exact part_tok (toks_tok h a hg.2.2.1 (fun w hw => ho w (by simp [Ex.flat, hw]))) x hx
    · have := sign_len o.c; omega
    · exact part_tok (toks_tok h b hg.2.2.2 (fun w hw => ho w (by simp [Ex.flat, hw]))) x hx
theorem join_len (m : Nat) : ∀ (l : List Tok), (∀ x ∈ l, x.t.length ≤ m) → (joinS l).length ≤ l.length * (m + 1)
  | [], _ => by simp [joinS]
  | t :: r, h => by
    have ht := h t (List.mem_cons_self ..)
    have hr : ∀ (r : List Tok), (∀ x ∈ r, x.t.length ≤ m) → (r.flatMap (fun x => 32 :: x.t)).length ≤ r.length * (m + 1) := by
      intro r
      induction r with
      | nil => simp
      | cons y r ih =>
        intro h
        have hy := h y (List.mem_cons_self ..)
        have := ih (fun x hx => h x (List.mem_cons_of_mem _ hx))
        rw [List.flatMap_cons, List.length_append, List.length_cons, List.length_cons, Nat.add_mul]
        omega
    have := hr r (fun x hx => h x (List.mem_cons_of_mem _ hx))
    rw [joinS, List.length_append, List.length_cons, Nat.add_mul]
    omega
theorem show_len {S : List Cl} (h : schB S = true) (t : Ex) (hg : t.good) (ho : ∀ o ∈ t.flat, WOK S o) (hl : t.flat.length ≤ 64) : (joinS (toksX S t)).length ≤ 1048576 := by
  have h1 := join_len 200 (toksX S t) (toks_tok h t hg (fun o hm => (ho o hm).1))
  have h2 := toks_len S t
  have : (toksX S t).length * 201 ≤ 320 * 201 := Nat.mul_le_mul_right _ (by omega)
  omega
end Go.Proofs.YtballmombklalaaGreat
