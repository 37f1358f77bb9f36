/- The plain law: tokens, numbers and texts are read as they are written. -/
import Derived.Test.YtballmombklalaaGreatM16
namespace Go.Proofs.YtballmombklalaaGreat
open Go.RowKit

theorem digs_spec : ∀ (k x : Nat) (s : List UInt8), 0 < k → x < 10 ^ k → ∃ D : List UInt8, digs k x s = D ++ s ∧ D.all digitB = true ∧ D ≠ [] ∧ D.length ≤ k ∧ val D = x ∧ (D[0]? = some 48 → x = 0 ∧ D.length = 1)
  | 0, _, _, h, _ => by omega
  | k + 1, x, s, _, hx => by
    have dg : ∀ y : Nat, y < 10 → digitB (48 + y).toUInt8 = true ∧ (((48 + y).toUInt8.toNat : Nat) : Int) = 48 + y := by
      intro y hy
      have e : (48 + y).toUInt8.toNat = 48 + y := Lib.toUInt8_toNat (by omega)
      refine ⟨?_, by rw [e]; omega⟩
      unfold digitB
      rw [e]
      simp
      omega
    rw [digs]
    split
    · rename_i h10
      obtain ⟨d1, d2⟩ := dg x h10
      refine ⟨[(48 + x).toUInt8], rfl, by rw [List.all_cons, d1]; rfl, by simp, by simp, ?_, ?_⟩
      · simp only [val, List.foldl_cons, List.foldl_nil]; omega
      · intro h
        simp only [List.getElem?_cons_zero, Option.some.injEq] at h
        rw [h] at d2
        have : ((48 : UInt8).toNat : Int) = 48 := rfl
        exact ⟨by omega, rfl⟩
    · rename_i h10
      have hk : 0 < k := by
        rcases Nat.eq_zero_or_pos k with rfl | h
        · simp at hx; omega
        · exact h
      have hx' : x / 10 < 10 ^ k := by
        rw [Nat.pow_succ] at hx
        exact Nat.div_lt_of_lt_mul (by rw [Nat.mul_comm]; exact hx)
      obtain ⟨d1, d2⟩ := dg (x % 10) (Nat.mod_lt x (by decide : 10 > 0))
      obtain ⟨D, e, h1, h2, h3, h4, h5⟩ := digs_spec k (x / 10) ((48 + x % 10).toUInt8 :: s) hk hx'
      refine ⟨D ++ [(48 + x % 10).toUInt8], by rw [e]; simp, by rw [List.all_append, h1, List.all_cons, d1]; rfl, by simp, by rw [List.length_append]; simp; omega, ?_, ?_⟩
      · rw [val_app, h4, d2]; omega
      · intro h
        rw [List.getElem?_append_left (by cases D with | nil => exact absurd rfl h2 | cons a b => simp)] at h
        have := (h5 h).1
        omega
theorem show_spec {n : Int} (h : I64 n) : ∃ D : List UInt8, D.all digitB = true ∧ D ≠ [] ∧ D.length ≤ 19 ∧ val D = absI n ∧ (D[0]? = some 48 → absI n = 0 ∧ D.length = 1) ∧ showN n = (if n < 0 then 45 :: D else D) := by
  obtain ⟨h1, h2⟩ := absI_bd h
  obtain ⟨D, e, a1, a2, a3, a4, a5⟩ := digs_spec 19 (absI n).toNat [] (by omega) (by omega)
  rw [List.append_nil] at e
  refine ⟨D, a1, a2, a3, by rw [a4]; omega, fun q => ⟨by have := (a5 q).1; omega, (a5 q).2⟩, ?_⟩
  unfold showN
  rw [e]
theorem digit_head {D : List UInt8} (h : D.all digitB = true) (h0 : D ≠ []) : ∃ c r, D = c :: r ∧ digitB c = true := by
  cases D with
  | nil => exact absurd rfl h0
  | cons c r => exact ⟨c, r, rfl, by simp at h; exact h.1⟩
theorem show_read {n : Int} (h : I64 n) : readS (showN n) = (n, 0) := by
  obtain ⟨D, a1, a2, a3, a4, a5, e⟩ := show_spec h
  have hlen : ¬ D.length = 0 := by simpa using a2
  unfold I64 at h
  rw [e]
  split
  · rename_i hn
    have ha : absI n = -n := by unfold absI; rw [if_pos hn]
    unfold readS
    rw [if_pos (by rfl)]
    show readD true D = _
    unfold readD
    rw [if_neg (by rintro (q | ⟨q, _⟩); exact hlen q; have := (a5 q).1; omega), if_pos a1, if_neg (by omega), a4, signedS_tt (by omega)]
    rw [ha]; simp
  · rename_i hn
    have ha : absI n = n := by unfold absI; rw [if_neg hn]
    obtain ⟨c, r, hD, hc⟩ := digit_head a1 a2
    unfold readS
    rw [if_neg (by rw [hD]; simp; rintro rfl; revert hc; decide)]
    unfold readD
    rw [if_neg (by rintro (q | ⟨q, q2⟩); exact hlen q; have := (a5 q).2; rcases q2 with q2 | q2; omega; cases q2), if_pos a1, if_neg (by omega), a4, signedS_ft (by omega), ha]
theorem show_neg {n : Int} (hn : n < 0) : 45 :: (showN n).tail = showN n := by
  unfold showN
  rw [if_pos hn]
  rfl

theorem hex_dg (n : Nat) (h : n ≤ 15) : hexI ((dgU n).toNat : Int) = n := by
  rw [dgU_toNat h]
  unfold digI hexI
  (repeat' split) <;> omega
theorem two_dg (c : UInt8) : twoU (dgU (c.toNat / 16)) (dgU (c.toNat % 16)) = c := by
  have hc := c.toNat_lt
  unfold twoU
  rw [hex_dg _ (by omega), hex_dg _ (by omega)]
  have : ((c.toNat / 16 : Nat) : Int) * 16 + ((c.toNat % 16 : Nat) : Int) = (c.toNat : Int) := by omega
  rw [this, Int.toNat_natCast]
  exact UInt8.ofNat_toNat
theorem unq_esc : ∀ (t : List UInt8) (n : Nat) (acc : List UInt8), (t.flatMap escB).length < n → unqF n (t.flatMap escB) acc = some (acc ++ t)
  | [], n, acc, h => by
    cases n with
    | zero => simp at h
    | succ n => simp [unqF]
  | c :: t, n, acc, h => by
    cases n with
    | zero => simp at h
    | succ n =>
      rw [List.flatMap_cons] at h ⊢
      unfold escB at h ⊢
      cases hp : plainB c with
      | true =>
        rw [hp, if_pos rfl] at h
        rw [if_pos rfl]
        simp only [List.cons_append, List.nil_append] at h ⊢
        have h92 : ¬ c = 92 := by rintro rfl; revert hp; decide
        rw [unqF, if_neg h92, if_pos hp]
        have := unq_esc t n (acc ++ [c]) (by simp only [List.length_cons] at h; unfold escB; omega)
        unfold escB at this
        rw [this]; simp
      | false =>
        rw [hp, if_neg (by simp)] at h
        rw [if_neg (by simp)]
        simp only [List.cons_append, List.nil_append] at h ⊢
        have hc := c.toNat_lt
        rw [unqF, if_pos rfl]
        have e : unqE (dgU (c.toNat / 16) :: dgU (c.toNat % 16) :: t.flatMap fun c => if plainB c = true then [c] else [92, dgU (c.toNat / 16), dgU (c.toNat % 16)]) = some (c, t.flatMap fun c => if plainB c = true then [c] else [92, dgU (c.toNat / 16), dgU (c.toNat % 16)]) := by
          rw [unqE, hex_dg _ (by omega), hex_dg _ (by omega), if_neg (by omega), if_neg (by omega), two_dg, if_neg (by rw [hp]; simp)]
        rw [e]
        simp only
        have := unq_esc t n (acc ++ [c]) (by simp only [List.length_cons] at h; unfold escB; omega)
        unfold escB at this
        rw [this]; simp
theorem quote_par {t : List UInt8} (h : t.length ≤ 64) : parQ (quoteS t) = (t, 0) := by
  have hq : quoteS t = 39 :: (t.flatMap escB ++ [39]) := rfl
  have hu : unqS (quoteS t) = some t := by
    unfold unqS
    rw [hq]
    rw [if_neg (by simp)]
    have hlen : (39 :: (t.flatMap escB ++ [39]) : List UInt8).length = (t.flatMap escB).length + 2 := by simp
    rw [hlen, if_pos (by simp)]
    have : ((39 :: (t.flatMap escB ++ [39]) : List UInt8).drop 1).take ((t.flatMap escB).length + 2 - 2) = t.flatMap escB := by simp
    rw [this]
    have := unq_esc t ((t.flatMap escB).length + 2 + 1) [] (by omega)
    rw [this]; simp
  unfold parQ
  rw [hu]
  simp only
  rw [if_pos h]

/-- A first token is told by what ends at a blank. -/
theorem index_app : ∀ (l r : List UInt8) (c : UInt8), 0 ≤ Lib.indexByte l c → Lib.indexByte (l ++ r) c = Lib.indexByte l c
  | [], r, c, h => by simp [Lib.indexByte] at h
  | b :: l, r, c, h => by
    rw [List.cons_append, Lib.indexByte, Lib.indexByte]
    rw [Lib.indexByte] at h
    split
    · rfl
    · rename_i hb
      rw [if_neg hb] at h
      split at h
      · omega
      · rename_i hn
        have hge := Lib.indexByte_ge l c
        have hn' : ¬ Lib.indexByte l c = -1 := by simpa using hn
        have ih := index_app l r c (by omega)
        rw [ih, if_neg hn]
theorem tw_app (p : UInt8 → Bool) : ∀ (s r : List UInt8), s.all p = true → (r = [] ∨ ∃ x r', r = x :: r' ∧ p x = false) → (s ++ r).takeWhile p = s
  | [], r, _, h => by
    rcases h with rfl | ⟨x, r', rfl, hx⟩
    · rfl
    · simp [hx]
  | c :: s, r, ha, h => by
    simp at ha
    rw [List.cons_append, List.takeWhile_cons_of_pos ha.1, tw_app p s r (by simpa using ha.2) h]
theorem tw_all (p : UInt8 → Bool) : ∀ (s : List UInt8), s.takeWhile p = s → s.all p = true
  | [], _ => rfl
  | c :: s, h => by
    rw [List.takeWhile_cons] at h
    split at h
    · rename_i hc
      injection h with _ h
      simp [hc]
      simpa using tw_all p s h
    · cases h
theorem first_app {k : Int} {t r : List UInt8} (h0 : t ≠ []) (h : firstS t = (⟨k, t⟩, 0)) (hr : r = [] ∨ ∃ r', r = 32 :: r') : firstS (t ++ r) = (⟨k, t⟩, 0) := by
  obtain ⟨c, s, hs⟩ : ∃ c s, t = c :: s := by cases t with | nil => exact absurd rfl h0 | cons c s => exact ⟨c, s, rfl⟩
  have hh : (t ++ r).headD 0 = t.headD 0 := by rw [hs]; rfl
  have hblank : ∀ p : UInt8 → Bool, p 32 = false → (r = [] ∨ ∃ x r', r = x :: r' ∧ p x = false) := by
    intro p hp
    rcases hr with rfl | ⟨r', rfl⟩
    · exact .inl rfl
    · exact .inr ⟨32, r', rfl, hp⟩
  unfold firstS at h ⊢
  rw [hh]
  split at h
  · rename_i g
    rw [if_pos g]
    injection h with h _
    injection h with hk ht
    rw [tw_app lodB t r (tw_all _ _ ht) (hblank _ (by decide)), hk]
  · rename_i g
    rw [if_neg g]
    split at h
    · rename_i g2
      rw [if_pos g2]
      injection h with h _
      injection h with hk ht
      rw [tw_app digitB t r (tw_all _ _ ht) (hblank _ (by decide)), hk]
    · rename_i g2
      rw [if_neg g2]
      split at h
      · rename_i g3
        rw [if_pos g3]
        have hd : (t ++ r).drop 1 = t.drop 1 ++ r := by rw [hs]; rfl
        rw [hd]
        split at h
        · injection h with h _; injection h with _ h; exact absurd h.symm h0
        · rename_i hi
          injection h with h _
          injection h with hk ht
          rw [index_app _ _ _ (by omega), if_neg hi, hk]
          have hle : (Lib.indexByte (t.drop 1) 39 + 2).toNat ≤ t.length := by
            have := congrArg List.length ht
            rw [List.length_take] at this
            have hb := index_bd (t.drop 1) 39
            rw [hs] at hb ⊢
            simp only [List.drop_succ_cons, List.drop_zero, List.length_cons] at hb ⊢
            omega
          rw [List.take_append_of_le_length hle, ht]
      · rename_i g3
        rw [if_neg g3]
        split at h
        · injection h with h _; injection h with _ h; exact absurd h.symm h0
        · rename_i hn
          injection h with h _
          injection h with hk ht
          have hsg : signN (t ++ r) = signN t := by
            have hle : signN t ≤ t.length := signN_le t (by rw [hs]; simp)
            have htl := congrArg List.length ht
            rw [List.length_take] at htl
            unfold signN at hn htl hle ⊢
            rw [hh]
            split at htl
            · rename_i g4
              rw [if_pos ⟨by rw [List.length_append]; omega, by rw [List.take_append_of_le_length g4.1]; exact g4.2⟩, if_pos g4]
            · rename_i g4
              split at htl
              · rename_i g5
                rw [if_pos g5]
                have hl1 : t.length = 1 := by omega
                have hts : s = [] := by rw [hs] at hl1; simpa using hl1
                have g6 : ¬ (2 ≤ (t ++ r).length ∧ two4 ((t ++ r).take 2) = true) := by
                  rintro ⟨g7, g8⟩
                  rcases hr with rfl | ⟨r', rfl⟩
                  · rw [List.append_nil] at g7; omega
                  · rw [hs, hts] at g8
                    simp only [List.cons_append, List.nil_append, List.take_succ_cons, List.take_zero] at g8
                    unfold two4 at g8
                    simp at g8
                rw [if_neg g6, if_neg g4]
              · rename_i g5
                rw [if_neg g4, if_neg g5] at hn
                exact absurd rfl hn
          rw [hsg, if_neg hn, hk, List.take_append_of_le_length (signN_le t (by rw [hs]; simp)), ht]
theorem first_blank {k : Int} {t : List UInt8} (h0 : t ≠ []) (h : firstS t = (⟨k, t⟩, 0)) : t.headD 0 ≠ 32 := by
  intro e
  have hs : signN t = 0 ∨ signN t ≠ 0 := by omega
  unfold firstS at h
  rw [e] at h
  rw [if_neg (by decide), if_neg (by decide), if_neg (by decide)] at h
  split at h
  · injection h with _ h; cases h
  · rename_i hn
    apply hn
    unfold signN
    rw [e]
    obtain ⟨c, s, rfl⟩ : ∃ c s, t = c :: s := by cases t with | nil => exact absurd rfl h0 | cons c s => exact ⟨c, s, rfl⟩
    simp at e
    subst e
    rw [if_neg (by rintro ⟨_, h⟩; unfold two4 at h; cases s <;> simp at h), if_neg (by decide)]

theorem may_first {x : Tok} (h : mayT x = true) : x.t ≠ [] ∧ firstS x.t = (⟨x.k, x.t⟩, 0) := by
  unfold mayT at h
  simp only [Bool.and_eq_true, decide_eq_true_eq, Bool.not_eq_true', beq_eq_false_iff_ne] at h
  exact ⟨h.1, Prod.ext h.2.2 h.2.1⟩
theorem split_blank (n : Nat) (q : List UInt8) (acc : List Tok) : splitF (n + 1) (32 :: q) acc = splitF n q acc := by rw [splitF, if_pos rfl]
theorem split_tail : ∀ (T : List Tok) (n : Nat) (acc : List Tok), (∀ x ∈ T, mayT x = true) → (T.flatMap fun x => 32 :: x.t).length < n → splitF n (T.flatMap fun x => 32 :: x.t) acc = (acc ++ T, 0)
  | [], n, acc, _, h => by
    cases n with
    | zero => simp at h
    | succ n => simp [splitF]
  | x :: T, n, acc, hm, h => by
    obtain ⟨h0, hf⟩ := may_first (hm x (by simp))
    rw [List.flatMap_cons] at h ⊢
    obtain ⟨c, s, hs⟩ : ∃ c s, x.t = c :: s := by cases hx : x.t with | nil => exact absurd hx h0 | cons c s => exact ⟨c, s, rfl⟩
    simp only [List.cons_append, List.length_cons, List.length_append] at h
    have hx0 : 0 < x.t.length := by rw [hs]; simp
    obtain ⟨m, rfl⟩ : ∃ m, n = m + 2 := ⟨n - 2, by omega⟩
    rw [List.cons_append, split_blank]
    have hr : (T.flatMap fun x => 32 :: x.t) = [] ∨ ∃ r', (T.flatMap fun x => 32 :: x.t) = 32 :: r' := by
      cases T with
      | nil => exact .inl rfl
      | cons y T => exact .inr ⟨_, by rw [List.flatMap_cons, List.cons_append]⟩
    have hfa := first_app h0 hf hr
    have hb := first_blank h0 hf
    have ih := split_tail T m (acc ++ [x]) (fun y hy => hm y (by simp [hy])) (by omega)
    have hdrop : (x.t ++ T.flatMap fun x => 32 :: x.t).drop x.t.length = T.flatMap fun x => 32 :: x.t := by simp
    rw [hs] at hfa hb hdrop ⊢
    rw [List.cons_append] at hfa hdrop ⊢
    rw [splitF, if_neg (by simpa using hb), hfa, if_pos rfl]
    simp only
    rw [hdrop]
    have hxe : (⟨x.k, c :: s⟩ : Tok) = x := by rw [← hs]
    rw [hxe, ih]
    simp
def joinW : List Tok → List UInt8
  | [] => []
  | t :: r => t.t ++ r.flatMap (fun x => 32 :: x.t)
theorem split_join (T : List Tok) (h : ∀ x ∈ T, mayT x = true) : splitS (joinW T) = (T, 0) := by
  unfold splitS
  cases T with
  | nil => simp [joinW, splitF]
  | cons x T =>
    have := split_tail (x :: T) ((joinW (x :: T)).length + 2) [] h (by simp [joinW])
    rw [List.flatMap_cons, List.cons_append, split_blank] at this
    simpa [joinW] using this
end Go.Proofs.YtballmombklalaaGreat
