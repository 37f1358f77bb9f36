/- The plain law: the parser over the tokens of a tree. -/
import Derived.Test.YtballmombklalaaGreatM30
import Derived.Test.YtballmombklalaaGreatM23
namespace Go.Proofs.YtballmombklalaaGreat
open Go.RowKit

def nmS (S : List Cl) (o : Wd) : List UInt8 := (S.map Cl.n).getD o.n.toNat []
/-- A leaf that is read as it is written. -/
structure LeafOK (S : List Cl) (o : Wd) : Prop where
  get : o.c = 3 → wordB (nmS S o) = false ∧ indexC S (nmS S o) 0 = o.n ∧ nmS S o ≠ [45] ∧ 0 ≤ o.n
  str : o.c = 2 → parQ (quoteS o.t) = (o.t, 0)
  num : o.c = 1 → readS (showN o.n) = (o.n, 0)
  neg : o.c = 1 → o.n < 0 → 45 :: (showN o.n).tail = showN o.n

theorem wd_eq {o : Wd} (h : wdB o = true) : (o.c = 1 → o = ⟨1, o.n, []⟩) ∧ (o.c = 2 → o = ⟨2, 0, o.t⟩) ∧ (o.c = 3 → o = ⟨3, o.n, []⟩) ∧ (4 ≤ o.c → o = ⟨o.c, 0, []⟩) := by
  obtain ⟨c, n, t⟩ := o
  unfold wdB at h
  simp only at h ⊢
  refine ⟨fun e => ?_, fun e => ?_, fun e => ?_, fun e => ?_⟩
  · subst e; simp at h; simp [h]
  · subst e; simp at h; simp [h]
  · subst e; simp at h; simp [h]
  · rw [if_neg (by omega), if_neg (by omega), if_neg (by omega)] at h
    simp at h
    simp [h]

theorem nextS_name (k : Int) (s : List UInt8) (r : List Tok) (h : k = 1 ∨ k = 4) : nextS (⟨k, s⟩ :: r) = s := by rw [nextS]; exact if_pos h
theorem nextS_other (k : Int) (s : List UInt8) (r : List Tok) (h : ¬ (k = 1 ∨ k = 4)) : nextS (⟨k, s⟩ :: r) = [] := by rw [nextS]; exact if_neg h
theorem word_not {s : List UInt8} (h : wordB s = false) : s ≠ [110, 111, 116] ∧ s ≠ [108, 101, 110] := by
  unfold wordB at h
  rw [decide_eq_false_iff_not] at h
  exact ⟨fun e => h (.inr (.inr (.inl e))), fun e => h (.inr (.inr (.inr e)))⟩

theorem leaf_par {S : List Cl} {o : Wd} (hw : wdB o = true) (ht : takesI o.c = 0) (h : LeafOK S o) (rest : List Tok) (d : Nat) : Pa S (.lv 7) (leafT S o ++ rest) d ([o], rest) := by
  obtain ⟨c1, c2, _, c4⟩ := wd_bd hw
  obtain ⟨e1, e2, e3, _⟩ := wd_eq hw
  have hc : o.c = 1 ∨ o.c = 2 ∨ o.c = 3 := by
    unfold takesI at ht
    (repeat' split at ht) <;> omega
  rcases hc with hc | hc | hc
  · have hr := h.num hc
    unfold leafT
    rw [if_neg (by omega), if_neg (by omega)]
    split
    · rename_i hn
      have hs := h.neg hc hn
      refine Pa.below ?_ ?_
      · show belowB (⟨4, [45]⟩ :: ⟨2, (showN o.n).tail⟩ :: rest) = true
        unfold belowB
        rw [nextS_name 4 _ _ (.inr rfl)]
        rfl
      · show numP [45] (⟨2, (showN o.n).tail⟩ :: rest) = _
        rw [numP]
        simp only [List.cons_append, List.nil_append]
        rw [hs, hr, if_pos rfl]
        rw [← e1 hc]
    · refine Pa.up7 ?_ ?_ ⟨1, ?_⟩
      · show nextS (⟨2, showN o.n⟩ :: rest) ≠ _
        rw [nextS_other 2 _ _ (by omega)]; simp
      · show nextS (⟨2, showN o.n⟩ :: rest) ≠ _
        rw [nextS_other 2 _ _ (by omega)]; simp
      · show par S 1 (.lv 8) (⟨2, showN o.n⟩ :: rest) d = _
        rw [par, if_neg (by omega), if_neg (by omega), if_neg (by omega), if_neg (by omega), atomP]
        simp only
        rw [if_pos trivial, numP]
        simp only [List.nil_append]
        rw [hr, if_pos rfl]
        rw [← e1 hc]
  · have hr := h.str hc
    unfold leafT
    rw [if_neg (by omega), if_pos hc]
    refine Pa.up7 ?_ ?_ ⟨1, ?_⟩
    · show nextS (⟨3, quoteS o.t⟩ :: rest) ≠ _
      rw [nextS_other 3 _ _ (by omega)]; simp
    · show nextS (⟨3, quoteS o.t⟩ :: rest) ≠ _
      rw [nextS_other 3 _ _ (by omega)]; simp
    · show par S 1 (.lv 8) (⟨3, quoteS o.t⟩ :: rest) d = _
      rw [par, if_neg (by omega), if_neg (by omega), if_neg (by omega), if_neg (by omega), atomP]
      simp only
      rw [if_neg (by decide), if_pos trivial, hr, if_pos rfl]
      rw [← e2 hc]
  · obtain ⟨h1, h2, h3, h4⟩ := h.get hc
    obtain ⟨g1, g2⟩ := word_not h1
    unfold leafT
    rw [if_pos hc]
    refine Pa.up7 ?_ ?_ ⟨1, ?_⟩
    · show nextS (⟨1, nmS S o⟩ :: rest) ≠ _
      rw [nextS_name 1 _ _ (.inl rfl)]; exact h3
    · show nextS (⟨1, nmS S o⟩ :: rest) ≠ _
      rw [nextS_name 1 _ _ (.inl rfl)]; exact g2
    · show par S 1 (.lv 8) (⟨1, nmS S o⟩ :: rest) d = _
      rw [par, if_neg (by omega), if_neg (by omega), if_neg (by omega), if_neg (by omega), atomP]
      simp only
      rw [if_neg (by decide), if_neg (by decide), if_pos trivial, if_neg (by rw [h1]; simp), h2, if_pos h4]
      rw [← e3 hc]

/-- What a tree's tokens begin with. -/
def headOK (S : List Cl) (t : Ex) : Prop := ∃ h tl, toksX S t = h :: tl ∧ (4 ≤ levelI t.root.c → ∀ r, nextS (h :: r) ≠ [110, 111, 116]) ∧ (7 ≤ levelI t.root.c → h.k = 2 → t.root.c = 1 ∧ 0 ≤ t.root.n)
theorem part_head {S : List Cl} {a : Ex} (c : Int) (i : Nat) (h : headOK S a) : ∃ h tl, partT c i a.root (toksX S a) = h :: tl ∧ (4 ≤ levelI a.root.c → ∀ r, nextS (h :: r) ≠ [110, 111, 116]) ∧ (bareB c i a.root = false → h = ⟨4, [40]⟩) ∧ (bareB c i a.root = true → 7 ≤ levelI a.root.c → h.k = 2 → a.root.c = 1 ∧ 0 ≤ a.root.n) := by
  obtain ⟨x, tl, e, h1, h2⟩ := h
  unfold partT
  cases hb : bareB c i a.root with
  | true => exact ⟨x, tl, by rw [if_pos rfl]; exact e, h1, (fun q => by cases q), fun _ => h2⟩
  | false => exact ⟨⟨4, [40]⟩, _, by rw [if_neg (by simp)], fun _ r => by rw [nextS_name 4 _ _ (.inr rfl)]; decide, fun _ => rfl, (fun q => by cases q)⟩
theorem level_cases {c : Int} (h : 1 ≤ c ∧ c ≤ 20) : (c = 20 ∧ levelI c = 1) ∨ (c = 19 ∧ levelI c = 2) ∨ (c = 5 ∧ levelI c = 3) ∨ (13 ≤ c ∧ c ≤ 18 ∧ levelI c = 4) ∨ ((c = 7 ∨ c = 8 ∨ c = 12) ∧ levelI c = 5) ∨ ((c = 9 ∨ c = 10 ∨ c = 11) ∧ levelI c = 6) ∨ ((c = 4 ∨ c = 6) ∧ levelI c = 7) ∨ (c ≤ 3 ∧ levelI c = 8) := by
  unfold levelI
  (repeat' split) <;> omega
theorem bare_level {c : Int} {i : Nat} {r : Wd} (h : bareB c i r = true) : (if i = 0 then (mustI c).1 else (mustI c).2) ≤ levelI r.c := by
  unfold bareB at h
  simp only [Bool.and_eq_true, decide_eq_true_eq] at h
  exact h.1
theorem must_of {c L : Int} (h : levelI c = L) : mustI c = if L = 4 then (5, 5) else if L = 3 ∨ L = 7 then (L, L) else (L, L + 1) := by unfold mustI; rw [h]

theorem head_ok (S : List Cl) (t : Ex) (hg : t.good) (hl : ∀ o ∈ t.flat, LeafOK S o) : headOK S t := by
  induction t with
  | leaf o =>
    obtain ⟨c1, c2, _, c4⟩ := wd_bd hg.1
    have hc : o.c = 1 ∨ o.c = 2 ∨ o.c = 3 := by
      have ht := hg.2
      unfold takesI at ht
      (repeat' split at ht) <;> omega
    have hlo := hl o (by simp [Ex.flat])
    unfold headOK
    simp only [toksX, Ex.root, leafT]
    rcases hc with hc | hc | hc
    · rw [if_neg (by omega), if_neg (by omega)]
      split
      · exact ⟨_, _, rfl, fun _ r => by rw [nextS_name 4 _ _ (.inr rfl)]; decide, fun _ q => by simp at q⟩
      · exact ⟨_, _, rfl, fun _ r => by rw [nextS_other 2 _ _ (by omega)]; decide, fun _ _ => ⟨hc, by omega⟩⟩
    · rw [if_neg (by omega), if_pos hc]
      exact ⟨_, _, rfl, fun _ r => by rw [nextS_other 3 _ _ (by omega)]; decide, fun _ q => by simp at q⟩
    · rw [if_pos hc]
      exact ⟨_, _, rfl, fun _ r => by rw [nextS_name 1 _ _ (.inl rfl)]; exact (word_not (hlo.get hc).1).1, fun _ q => by simp at q⟩
  | un o a ih =>
    have hw := (wd_bd hg.1)
    have ht := hg.2.1
    have hc : o.c = 4 ∨ o.c = 5 ∨ o.c = 6 := by
      unfold takesI at ht
      (repeat' split at ht) <;> omega
    refine ⟨signT o.c, partT o.c 0 a.root (toksX S a), rfl, fun h4 r => ?_, fun _ q => ?_⟩
    · rcases hc with hc | hc | hc
      · rw [hc]; show nextS (⟨4, [45]⟩ :: r) ≠ _; rw [nextS_name 4 _ _ (.inr rfl)]; decide
      · simp only [Ex.root] at h4; rw [hc] at h4; exact absurd h4 (by decide)
      · rw [hc]; show nextS (⟨1, [108, 101, 110]⟩ :: r) ≠ _; rw [nextS_name 1 _ _ (.inl rfl)]; decide
    · rcases hc with hc | hc | hc <;> (rw [hc] at q; exact absurd q (by decide))
  | bin o a b iha ihb =>
    have hw := (wd_bd hg.1)
    have ht := hg.2.1
    have hc : 7 ≤ o.c := by
      unfold takesI at ht
      (repeat' split at ht) <;> omega
    obtain ⟨x, tl, e, h1, h2, h3⟩ := part_head o.c 0 (iha hg.2.2.1 (fun w hw => hl w (by simp [Ex.flat, hw])))
    refine ⟨x, tl ++ signT o.c :: partT o.c 1 b.root (toksX S b), by rw [toksX, e]; rfl, fun h4 r => ?_, fun h7 _ => ?_⟩
    · simp only [Ex.root] at h4
      cases hb : bareB o.c 0 a.root with
      | true =>
        have hbl := bare_level hb
        rw [if_pos rfl] at hbl
        refine h1 ?_ r
        have hm : 4 ≤ (mustI o.c).1 := by
          rcases level_cases ⟨hw.1, hw.2.1⟩ with ⟨q, e⟩ | ⟨q, e⟩ | ⟨q, e⟩ | ⟨q, q', e⟩ | ⟨q, e⟩ | ⟨q, e⟩ | ⟨q, e⟩ | ⟨q, e⟩ <;> (rw [must_of e]; simp; try omega)
        omega
      | false =>
        rw [h2 hb, nextS_name 4 _ _ (.inr rfl)]; decide
    · simp only [Ex.root] at h7
      exfalso
      rcases level_cases ⟨hw.1, hw.2.1⟩ with ⟨q, e⟩ | ⟨q, e⟩ | ⟨q, e⟩ | ⟨q, q', e⟩ | ⟨q, e⟩ | ⟨q, e⟩ | ⟨q, e⟩ | ⟨q, e⟩ <;> omega

theorem sign_next (c : Int) (r : List Tok) (h : 4 ≤ c ∧ c ≤ 20) : nextS (signT c :: r) = (signT c).t := by
  unfold signT
  (repeat' split) <;> first | exact nextS_name 1 _ _ (.inl rfl) | exact nextS_name 4 _ _ (.inr rfl)
theorem sign_code {c : Int} (h : 7 ≤ c ∧ c ≤ 20) (r : List Tok) : codeI (levelI c) (nextS (signT c :: r)) = c ∧ (∀ j : Int, levelI c < j → (j = 1 ∨ j = 2 ∨ j = 4 ∨ j = 5 ∨ j = 6) → codeI j (nextS (signT c :: r)) = 0) := by
  rw [sign_next c r (by omega)]
  have hc : c = 7 ∨ c = 8 ∨ c = 9 ∨ c = 10 ∨ c = 11 ∨ c = 12 ∨ c = 13 ∨ c = 14 ∨ c = 15 ∨ c = 16 ∨ c = 17 ∨ c = 18 ∨ c = 19 ∨ c = 20 := by omega
  rcases hc with rfl | rfl | rfl | rfl | rfl | rfl | rfl | rfl | rfl | rfl | rfl | rfl | rfl | rfl
  all_goals
    refine ⟨by decide, ?_⟩
    rintro j hj (rfl | rfl | rfl | rfl | rfl) <;> first | decide | (exfalso; revert hj; decide)

def T1 (S : List Cl) (t : Ex) : Prop := ∀ (k : Nat) (rest : List Tok) (d : Nat), 1 ≤ k → (k : Int) ≤ levelI t.root.c → k ≤ 7 → okR k rest → d + 2 * t.flat.length ≤ 128 → Pa S (.lv k) (toksX S t ++ rest) d (t.flat, rest)
def T2 (S : List Cl) (t : Ex) : Prop := ∀ (k : Nat) (rest : List Tok) (d : Nat) (q : List Wd × List Tok), (k = 1 ∨ k = 2 ∨ k = 5 ∨ k = 6) → levelI t.root.c = k → okR (k + 1) rest → d + 2 * t.flat.length ≤ 128 → Pa S (.ch k t.flat) rest d q → Pa S (.lv k) (toksX S t ++ rest) d q
theorem brack_par {S : List Cl} {a : Ex} (h : T1 S a) (k : Nat) (rest : List Tok) (d : Nat) (h1 : 1 ≤ k) (h7 : k ≤ 7) (hr : okR k rest) (hd : d + 2 * a.flat.length + 1 ≤ 128) : Pa S (.lv k) (⟨4, [40]⟩ :: (toksX S a ++ [⟨4, [41]⟩]) ++ rest) d (a.flat, rest) := by
  have hp := a.flat_pos
  have hi := h 1 (⟨4, [41]⟩ :: rest) (d + 1) (Nat.le_refl _) (level_bd _).1 (by omega) (okR_close rest) (by omega)
  have hb := Pa.brack (by omega) hi
  have e : ⟨4, [40]⟩ :: (toksX S a ++ [⟨4, [41]⟩]) ++ rest = (⟨4, [40]⟩ : Tok) :: (toksX S a ++ ⟨4, [41]⟩ :: rest) := by simp
  rw [e]
  have hn : nextS ((⟨4, [40]⟩ : Tok) :: (toksX S a ++ ⟨4, [41]⟩ :: rest)) = [40] := nextS_name 4 _ _ (.inr rfl)
  have h8 := Pa.up7 (by rw [hn]; decide) (by rw [hn]; decide) hb
  exact Pa.down (by rw [hn]; decide) (by omega) h8 _ k rfl h1 h7 (Nat.le_refl _) hr
theorem part_par {S : List Cl} {a : Ex} (h : T1 S a) (c : Int) (i k : Nat) (rest : List Tok) (d : Nat) (h1 : 1 ≤ k) (h7 : k ≤ 7) (hm : (k : Int) ≤ (if i = 0 then (mustI c).1 else (mustI c).2)) (hr : okR k rest) (hd : d + 2 * a.flat.length + 1 ≤ 128) : Pa S (.lv k) (partT c i a.root (toksX S a) ++ rest) d (a.flat, rest) := by
  unfold partT
  cases hb : bareB c i a.root with
  | true =>
    rw [if_pos rfl]
    have := bare_level hb
    exact h k rest d h1 (by omega) h7 hr (by omega)
  | false =>
    rw [if_neg (by simp)]
    exact brack_par h k rest d h1 h7 hr hd
theorem subL_eq {k : Nat} (h : k = 1 ∨ k = 2 ∨ k = 5 ∨ k = 6) : subL k = k + 1 := by rcases h with rfl | rfl | rfl | rfl <;> rfl
theorem chain_part {S : List Cl} {a : Ex} (h1 : T1 S a) (h2 : T2 S a) (c : Int) (k : Nat) (rest : List Tok) (d : Nat) (q : List Wd × List Tok) (hk : k = 1 ∨ k = 2 ∨ k = 5 ∨ k = 6) (hm : (mustI c).1 = k) (hr : okR (k + 1) rest) (hd : d + 2 * a.flat.length + 1 ≤ 128) (hc : Pa S (.ch k a.flat) rest d q) :
    Pa S (.lv k) (partT c 0 a.root (toksX S a) ++ rest) d q := by
  unfold partT
  cases hb : bareB c 0 a.root with
  | true =>
    rw [if_pos rfl]
    have hbl := bare_level hb
    rw [if_pos rfl, hm] at hbl
    by_cases he : levelI a.root.c = k
    · exact h2 k rest d q hk he hr (by omega) hc
    · refine Pa.chain hk (q := (a.flat, rest)) ?_ hc
      rw [subL_eq hk]
      exact h1 (k + 1) rest d (by omega) (by omega) (by omega) hr (by omega)
  | false =>
    rw [if_neg (by simp)]
    refine Pa.chain hk (q := (a.flat, rest)) ?_ hc
    rw [subL_eq hk]
    exact brack_par h1 (k + 1) rest d (by omega) (by omega) hr hd

theorem okR7 (rest : List Tok) : okR 7 rest := fun j hj h => by omega

/-- A tree is read as it is written. -/
theorem tree_par (S : List Cl) (t : Ex) (hg : t.good) (hl : ∀ o ∈ t.flat, LeafOK S o) : T1 S t ∧ T2 S t := by
  induction t with
  | leaf o =>
    have hlo := hl o (by simp [Ex.flat])
    have hc : o.c = 1 ∨ o.c = 2 ∨ o.c = 3 := by
      have ht := hg.2
      have := wd_bd hg.1
      unfold takesI at ht
      (repeat' split at ht) <;> omega
    refine ⟨fun k rest d h1 h2 h7 hr hd => ?_, fun k rest d q hk he => ?_⟩
    · obtain ⟨x, tl, e, hx, _⟩ := head_ok S (.leaf o) hg hl
      have h4 : 4 ≤ levelI (Ex.leaf o).root.c := by
        show 4 ≤ levelI o.c
        rcases level_cases ⟨(wd_bd hg.1).1, (wd_bd hg.1).2.1⟩ with ⟨q, e⟩ | ⟨q, e⟩ | ⟨q, e⟩ | ⟨q, q', e⟩ | ⟨q, e⟩ | ⟨q, e⟩ | ⟨q, e⟩ | ⟨q, e⟩ <;> omega
      have hnn : nextS (toksX S (.leaf o) ++ rest) ≠ [110, 111, 116] := by rw [e]; exact hx h4 _
      exact Pa.down hnn (by omega) (leaf_par hg.1 hg.2 hlo rest d) _ k rfl h1 h7 (Nat.le_refl _) hr
    · exfalso
      have he : levelI o.c = (k : Int) := he
      rcases level_cases ⟨(wd_bd hg.1).1, (wd_bd hg.1).2.1⟩ with ⟨q, e⟩ | ⟨q, e⟩ | ⟨q, e⟩ | ⟨q, q', e⟩ | ⟨q, e⟩ | ⟨q, e⟩ | ⟨q, e⟩ | ⟨q, e⟩ <;> omega
  | un o a ih =>
    obtain ⟨i1, i2⟩ := ih hg.2.2 (fun w hw => hl w (by simp [Ex.flat, hw]))
    have hw := wd_bd hg.1
    obtain ⟨_, _, _, e4⟩ := wd_eq hg.1
    have hc : o.c = 4 ∨ o.c = 5 ∨ o.c = 6 := by
      have ht := hg.2.1
      unfold takesI at ht
      (repeat' split at ht) <;> omega
    have hoe := e4 (by omega)
    have hha := head_ok S a hg.2.2 (fun w hw => hl w (by simp [Ex.flat, hw]))
    have hlen : (Ex.un o a).flat.length = a.flat.length + 1 := by simp [Ex.flat]
    have hap := a.flat_pos
    have hfl : (Ex.un o a).flat = a.flat ++ [⟨o.c, 0, []⟩] := by rw [← hoe]; rfl
    refine ⟨fun k rest d h1 h2 h7 hr hd => ?_, fun k rest d q hk he => ?_⟩
    · rw [hlen] at hd
      have h2 : (k : Int) ≤ levelI o.c := h2
      rw [hfl]
      show Pa S (.lv k) (signT o.c :: (partT o.c 0 a.root (toksX S a) ++ rest)) d _
      rcases hc with hc | hc | hc
      · have hlv : levelI o.c = 7 := by rw [hc]; rfl
        have hn : nextS (signT o.c :: (partT o.c 0 a.root (toksX S a) ++ rest)) = [45] := by rw [hc]; exact nextS_name 4 _ _ (.inr rfl)
        have hp := part_par i1 o.c 0 7 rest (d + 1) (by omega) (Nat.le_refl _) (by rw [if_pos rfl, must_of hlv]; simp) (okR7 rest) (by omega)
        have hbel : belowB (signT o.c :: (partT o.c 0 a.root (toksX S a) ++ rest)) = false := by
          obtain ⟨x, tl, e, _, q2, q3⟩ := part_head o.c 0 hha
          rw [e]
          unfold belowB
          have : x.k ≠ 2 := by
            intro hk
            cases hb : bareB o.c 0 a.root with
            | false => rw [q2 hb] at hk; exact absurd hk (by decide)
            | true =>
              have hbl := bare_level hb
              rw [if_pos rfl, must_of hlv] at hbl
              obtain ⟨z1, z2⟩ := q3 hb (by simpa using hbl) hk
              unfold bareB at hb
              rw [hc, z1] at hb
              simp [z2] at hb
          show (_ && decide (x.k = 2)) = false
          rw [decide_eq_false this, Bool.and_false]
        have h8 := Pa.neg hbel hn (by omega) hp
        rw [hc]
        exact Pa.down (by rw [← hc, hn]; decide) (by omega) (by rw [← hc]; rw [hc] at *; exact h8) _ k rfl h1 h7 (Nat.le_refl _) hr
      · have hlv : levelI o.c = 3 := by rw [hc]; rfl
        have hn : nextS (signT o.c :: (partT o.c 0 a.root (toksX S a) ++ rest)) = [110, 111, 116] := by rw [hc]; exact nextS_name 1 _ _ (.inl rfl)
        have hp := part_par i1 o.c 0 3 rest (d + 1) (by omega) (by omega) (by rw [if_pos rfl, must_of hlv]; simp) (hr.mono (by omega)) (by omega)
        have h8 := Pa.not hn (by omega) hp
        rw [hc] at h8 ⊢
        exact Pa.down3 (by omega) h8 k h1 (by omega) hr
      · have hlv : levelI o.c = 7 := by rw [hc]; rfl
        have hn : nextS (signT o.c :: (partT o.c 0 a.root (toksX S a) ++ rest)) = [108, 101, 110] := by rw [hc]; exact nextS_name 1 _ _ (.inl rfl)
        have hp := part_par i1 o.c 0 7 rest (d + 1) (by omega) (Nat.le_refl _) (by rw [if_pos rfl, must_of hlv]; simp) (okR7 rest) (by omega)
        have h8 := Pa.len hn (by omega) hp
        have hnn : nextS (signT o.c :: (partT o.c 0 a.root (toksX S a) ++ rest)) ≠ [110, 111, 116] := by rw [hn]; decide
        rw [hc] at h8 hnn ⊢
        exact Pa.down hnn (by omega) h8 _ k rfl h1 h7 (Nat.le_refl _) hr
    · exfalso
      have he : levelI o.c = (k : Int) := he
      rcases level_cases ⟨hw.1, hw.2.1⟩ with ⟨q, e⟩ | ⟨q, e⟩ | ⟨q, e⟩ | ⟨q, q', e⟩ | ⟨q, e⟩ | ⟨q, e⟩ | ⟨q, e⟩ | ⟨q, e⟩ <;> omega
  | bin o a b iha ihb =>
    obtain ⟨a1, a2⟩ := iha hg.2.2.1 (fun w hw => hl w (by simp [Ex.flat, hw]))
    obtain ⟨b1, b2⟩ := ihb hg.2.2.2 (fun w hw => hl w (by simp [Ex.flat, hw]))
    have hw := wd_bd hg.1
    obtain ⟨_, _, _, e4⟩ := wd_eq hg.1
    have hc : 7 ≤ o.c ∧ o.c ≤ 20 := by
      have ht := hg.2.1
      unfold takesI at ht
      (repeat' split at ht) <;> omega
    have hoe := e4 (by omega)
    have hlen : (Ex.bin o a b).flat.length = a.flat.length + b.flat.length + 1 := by simp [Ex.flat]; omega
    have hap := a.flat_pos
    have hbp := b.flat_pos
    have hfl : (Ex.bin o a b).flat = a.flat ++ b.flat ++ [⟨o.c, 0, []⟩] := by rw [← hoe]; simp [Ex.flat]
    have htk : ∀ rest, toksX S (.bin o a b) ++ rest = partT o.c 0 a.root (toksX S a) ++ (signT o.c :: (partT o.c 1 b.root (toksX S b) ++ rest)) := fun rest => by simp [toksX]
    have t2 : T2 S (.bin o a b) := by
      intro k rest d q hk he hr hd hq
      have he : levelI o.c = (k : Int) := he
      rw [hlen] at hd
      rw [hfl] at hq
      rw [htk]
      have hm : mustI o.c = ((k : Int), (k : Int) + 1) := by rw [must_of he, if_neg (by omega), if_neg (by omega)]
      obtain ⟨s1, s2⟩ := sign_code hc (partT o.c 1 b.root (toksX S b) ++ rest)
      rw [he] at s1 s2
      have hp := part_par b1 o.c 1 (k + 1) rest d (by omega) (by omega) (by rw [if_neg (by decide), hm]; simp) hr (by omega)
      refine chain_part a1 a2 o.c k _ d q hk (by rw [hm]) (fun j hj hjj => s2 j (by omega) (by omega)) (by omega) ?_
      refine Pa.step s1 (by omega) (q := (b.flat, rest)) ?_ hq
      rw [subL_eq hk]
      exact hp
    refine ⟨fun k rest d h1 h2 h7 hr hd => ?_, t2⟩
    have h2 : (k : Int) ≤ levelI o.c := h2
    obtain ⟨x, tl, ex, hx, _⟩ := head_ok S (.bin o a b) hg hl
    have hd0 := hd
    rw [hlen] at hd
    rcases level_cases ⟨hw.1, hw.2.1⟩ with ⟨q, e⟩ | ⟨q, e⟩ | ⟨q, e⟩ | ⟨q, q', e⟩ | ⟨q, e⟩ | ⟨q, e⟩ | ⟨q, e⟩ | ⟨q, e⟩
    · have hh := t2 1 rest d ((Ex.bin o a b).flat, rest) (by omega) e
      have : okR 2 rest → codeI (1 : Nat) (nextS rest) = 0 → Pa S (.lv 1) (toksX S (.bin o a b) ++ rest) d ((Ex.bin o a b).flat, rest) := fun u v => hh u hd0 (.stop v)
      have hk1 : k = 1 := by omega
      subst hk1
      exact this (hr.mono (by omega)) (hr 1 (by omega) (by omega))
    · have hh := t2 2 rest d ((Ex.bin o a b).flat, rest) (by omega) e (hr.mono (by omega)) hd0 (.stop (hr 2 (by omega) (by omega)))
      exact Pa.down3 (by omega) hh k h1 (by omega) hr
    · omega
    · obtain ⟨s1, s2⟩ := sign_code hc (partT o.c 1 b.root (toksX S b) ++ rest)
      rw [e] at s1 s2
      have hm : mustI o.c = (5, 5) := by rw [must_of e]; rfl
      have hpa := part_par a1 o.c 0 5 (signT o.c :: (partT o.c 1 b.root (toksX S b) ++ rest)) d (by omega) (by omega) (by rw [if_pos rfl, hm]; simp) (fun j hj hjj => s2 j (by omega) (by omega)) (by omega)
      have hpb := part_par b1 o.c 1 5 rest d (by omega) (by omega) (by rw [if_neg (by decide), hm]; simp) (hr.mono (by omega)) (by omega)
      have h8 := Pa.cmp hpa s1 (by omega) hpb
      rw [hfl]
      refine Pa.down (K := 4) ?_ (by omega) ?_ _ k rfl h1 (by omega) (by omega) hr
      · rw [ex]; exact hx (by show 4 ≤ levelI o.c; omega) _
      · rw [htk]; exact h8
    · have hh := t2 5 rest d ((Ex.bin o a b).flat, rest) (by omega) e (hr.mono (by omega)) hd0 (.stop (hr 5 (by omega) (by omega)))
      refine Pa.down (K := 5) ?_ (by omega) hh _ k rfl h1 (by omega) (by omega) hr
      rw [ex]; exact hx (by show 4 ≤ levelI o.c; omega) _
    · have hh := t2 6 rest d ((Ex.bin o a b).flat, rest) (by omega) e (hr.mono (by omega)) hd0 (.stop (hr 6 (by omega) (by omega)))
      refine Pa.down (K := 6) ?_ (by omega) hh _ k rfl h1 (by omega) (by omega) hr
      rw [ex]; exact hx (by show 4 ≤ levelI o.c; omega) _
    · omega
    · omega
end Go.Proofs.YtballmombklalaaGreat
