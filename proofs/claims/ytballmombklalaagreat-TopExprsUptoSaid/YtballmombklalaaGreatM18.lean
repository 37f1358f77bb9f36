/- parse: chains. -/
import Derived.Test.YtballmombklalaaGreatM17
namespace Go.Proofs.YtballmombklalaaGreat
open Go.RowKit

/-- So many words at most. -/
def wordsOf : Md → Nat
  | .lv _ => 0
  | .ch _ x => x.length
theorem numP_words {s : List UInt8} {ts : List Tok} {q : List Wd × List Tok} (h : numP s ts = .ok q) : q.1.length + q.2.length ≤ ts.length := by
  cases ts with
  | nil => cases h
  | cons t r =>
    rw [numP] at h
    split at h
    · injection h with h; subst h; simp; omega
    · cases h
theorem preP_words {c : Int} {R : PR} {q : List Wd × List Tok} {m : Nat} (h : preP c R = .ok q) (hR : ∀ q', R = .ok q' → q'.1.length + q'.2.length + 1 ≤ m) : q.1.length + q.2.length ≤ m := by
  cases R with
  | error e => cases h
  | ok q' => injection h with h; subst h; have := hR q' rfl; simp only [List.length_append, List.length_singleton]; omega
theorem par_words (S : List Cl) : ∀ (n : Nat) (md : Md) (ts : List Tok) (d : Nat) (q : List Wd × List Tok), par S n md ts d = .ok q → q.1.length + q.2.length ≤ wordsOf md + ts.length
  | 0, md, ts, d, q, h => by cases h
  | n + 1, .ch k x, ts, d, q, h => by
    rw [par] at h
    split at h
    · injection h with h; subst h; exact Nat.le_refl _
    · rename_i hc
      have hp := code_pos hc
      split at h
      · cases h
      · rename_i q1 h1
        have l1 := par_words S n _ _ _ _ h1
        have l2 := par_words S n _ _ _ _ h
        simp only [wordsOf, List.length_tail, List.length_append, List.length_singleton] at l1 l2 ⊢
        omega
  | n + 1, .lv k, ts, d, q, h => by
    show q.1.length + q.2.length ≤ 0 + ts.length
    rw [Nat.zero_add]
    have inn : ∀ (md : Nat) (R : PR), R = (if 128 ≤ d then .error 6 else par S n (.lv md) ts.tail (d + 1)) → 0 < ts.length → ∀ q', R = .ok q' → q'.1.length + q'.2.length + 1 ≤ ts.length := by
      intro md R hR hp q' hq
      rw [hR] at hq
      split at hq
      · cases hq
      · have := par_words S n _ _ _ _ hq
        simp only [wordsOf, List.length_tail] at this
        omega
    rw [par] at h
    split at h
    · split at h
      · cases h
      · rename_i q1 h1
        have l1 := par_words S n _ _ _ _ h1
        have l2 := par_words S n _ _ _ _ h
        simp only [wordsOf] at l1 l2
        omega
    · split at h
      · split at h
        · rename_i hn
          exact preP_words h (inn 3 _ rfl (nextS_len hn (by simp)))
        · have := par_words S n _ _ _ _ h; simp only [wordsOf] at this; omega
      · split at h
        · split at h
          · cases h
          · rename_i q1 h1
            have l1 := par_words S n _ _ _ _ h1
            simp only [wordsOf] at l1
            split at h
            · injection h with h; subst h; omega
            · rename_i hc
              have hp := code_pos hc
              split at h
              · cases h
              · rename_i q2 h2
                have l2 := par_words S n _ _ _ _ h2
                simp only [wordsOf, List.length_tail] at l2
                injection h with h; subst h
                simp only [List.length_append, List.length_singleton]
                omega
        · split at h
          · split at h
            · have := numP_words h
              rw [List.length_tail] at this
              omega
            · split at h
              · rename_i hn
                exact preP_words h (inn 7 _ rfl (nextS_len hn (by simp)))
              · split at h
                · rename_i hn
                  exact preP_words h (inn 7 _ rfl (nextS_len hn (by simp)))
                · have := par_words S n _ _ _ _ h; simp only [wordsOf] at this; omega
          · cases ts with
            | nil => cases h
            | cons t r =>
              rw [atomP] at h
              split at h
              · exact numP_words h
              · split at h
                · split at h
                  · injection h with h; subst h; simp; omega
                  · cases h
                · split at h
                  · split at h
                    · cases h
                    · split at h
                      · injection h with h; subst h; simp; omega
                      · cases h
                  · split at h
                    · unfold closeP at h
                      split at h
                      · cases h
                      · rename_i q1 h1
                        have l1 := inn 1 _ rfl (by simp) q1 h1
                        split at h
                        · cases h
                        · split at h
                          · injection h with h; subst h
                            simp only [List.length_tail]; omega
                          · cases h
                    · cases h

set_option maxHeartbeats 4000000 in
set_option maxRecDepth 100000 in
theorem chain_p (n k g : Nat) (hk : k = 1 ∨ k = 2 ∨ k = 5 ∨ k = 6) (p : Nat) (T : List Tok) (S : List Cl) (eg : ∀ args w, (callFunc g args).run Tryz.prog w = .ok (.enter g args) w)
    (ih : ∀ (m i d : Nat) (w : World), m ≤ n → PS w p T S i d → needL (subL k) (T.length - i) ≤ m → Calls Tryz.prog g #[.pointer (some ⟨p, 0, none⟩)] w (ParPost p T S d w (par S m (.lv (subL k)) (T.drop i) d)))
    (i d : Nat) (w : World) (h : PS w p T S i d) (hn : needL k (T.length - i) ≤ n + 1) :
    Calls Tryz.prog 77 #[.pointer (some ⟨p, 0, none⟩), .int .i64 k, .func (.func g) #[.pointer (some ⟨p, 0, none⟩)] #[]] w (ParPost p T S d w (par S (n + 1) (.lv k) (T.drop i) d)) := by
  obtain ⟨R, hR⟩ : ∃ R : PR, par S (n + 1) (.lv k) (T.drop i) d = R := ⟨_, rfl⟩
  rw [hR]
  have hsub : k < subL k ∧ subL k ≤ 8 := by rcases hk with rfl | rfl | rfl | rfl <;> decide
  have hk5 : (k : Int) = 1 ∨ (k : Int) = 2 ∨ (k : Int) = 4 ∨ (k : Int) = 5 ∨ (k : Int) = 6 := by omega
  have hcode := fun s wx => code_any (k : Int) s wx hk5
  rw [par, if_pos hk] at hR
  have hsm := h.small
  have hp := h.cells.choose_spec.choose_spec.choose_spec.choose_spec.2.2.2.2.2.2.2.2.2
  have h0 := ih n i d w (Nat.le_refl _) h (by unfold needL at hn ⊢; omega)
  cases hres : par S n (.lv (subL k)) (T.drop i) d with
  | error ee =>
    rw [hres] at h0 hR
    simp only at hR
    have HR := Lib.hid hR
    clear hR hres ih
    go_enter Tryz.func77, Tryz.ntmps77
    go_wp2_with fail
    refine h0.mono ?_
    rintro e w1 ⟨rfl, k1⟩
    exact ⟨rfl, by rw [← HR.out]; exact ⟨rfl, k1⟩⟩
  | ok q =>
    rw [hres] at h0 hR
    simp only at hR
    have hw := par_words S _ _ _ _ _ hres
    have hlq := par_len S _ _ _ _ _ hres
    simp only [wordsOf, restOf, List.length_drop] at hw hlq
    have HR := Lib.hid hR
    clear hR hres
    obtain ⟨x, r⟩ := q
    simp only at hw hlq HR
    go_enter Tryz.func77, Tryz.ntmps77
    go_wp2_with fail
    refine h0.mono ?_
    rintro e w1 ⟨v, i1, rfl, hnew, hps, hdr⟩
    have hi1 := hps.le
    have hdr' : T.drop i1 = r := hdr
    have hlr : r.length = T.length - i1 := by rw [← hdr', List.length_drop]
    subst hdr'
    clear h0 hdr
    have hS : ∀ j, (fun j => j = p) j → j < w.heap.size := fun j q => by subst q; exact hp
    go_wp2_with fail
    go_loopg [7] n (fun m xv wr => ∃ (x : List Wd) (i1 : Nat), NewS (fun j => j = p) encW 3 62 w wr xv x ∧ PS wr p T S i1 d ∧ par S m (.ch k x) (T.drop i1) d = R ∧ needC (T.length - i1) ≤ m ∧ x.length + (T.length - i1) ≤ T.length ∧ m ≤ n)
    case atStart => exact ⟨x, i1, hnew, hps, HR.out, by unfold needC needL at *; omega, by omega, Nat.le_refl _⟩
    case round =>
      clear hnew hps HR hlr hw hlq hi1 x i1 h
      obtain ⟨x, i1, hnew, hps, hR, hneed, hxl, hmn⟩ := hrel
      obtain ⟨m, rfl⟩ : ∃ m, gk = m + 1 := ⟨gk - 1, by unfold needC at hneed; omega⟩
      have hi1 := hps.le
      have hnx := next_p wr p T S i1 d hps
      obtain ⟨A, cp, rfl, _, _⟩ := hnew.row.shape
      rw [par] at hR
      by_cases hc0 : codeI k (nextS (T.drop i1)) = 0
      · rw [if_pos hc0] at hR
        have HR := Lib.hid hR
        have hcd := hcode (nextS (T.drop i1))
        rw [hc0] at hcd
        clear hR hc0
        generalize nextS (T.drop i1) = nx at *
        go_wp2_with fail
        refine hnx.mono ?_
        rintro e w2 ⟨rfl, k2⟩
        go_wp2_with fail
        refine (hcd _).mono ?_
        rintro e w3 ⟨rfl, rfl⟩
        go_wp2_with fail
        go_ret
        rw [← HR.out]
        exact ⟨_, i1, rfl, hnew.step hS (k2.mono (fun _ _ q => q.elim)), hps.same k2, rfl⟩
      · rw [if_neg hc0, List.tail_drop] at hR
        have hpos := code_pos hc0
        rw [List.length_drop] at hpos
        have hcb : (codeI k (nextS (T.drop i1)) == 0) = false := by simpa using hc0
        have hcd := hcode (nextS (T.drop i1))
        generalize hcc : codeI k (nextS (T.drop i1)) = cc at *
        generalize nextS (T.drop i1) = nx at *
        cases hres : par S m (.lv (subL k)) (T.drop (i1 + 1)) d with
        | error ee =>
          rw [hres] at hR
          simp only at hR
          have HR := Lib.hid hR
          have ihm := fun wx hx => ih m (i1 + 1) d wx (by omega) hx (by unfold needL needC at *; omega)
          rw [hres] at ihm
          clear hR hc0 hres hcc ih
          go_wp2_with fail
          refine hnx.mono ?_
          rintro e w2 ⟨rfl, k2⟩
          have hps2 := hps.same k2
          obtain ⟨A1, c1, B1, e1, _, _, _, y0, y1, y2, y3, f1, f2, _⟩ := hps2.cells
          obtain ⟨p3, k3⟩ := hps2.at ((i1 : Int) + 1) (i1 + 1) (by omega) (by omega)
          have P3 := Lib.hid p3
          have K3 := Lib.hid ((k2.mono (fun _ _ q => q.elim) : Kept (fun j => j = p) wr w2).trans k3)
          clear p3 k3 hps2
          go_wp2_with fail
          refine (hcd _).mono ?_
          rintro e w3 ⟨rfl, rfl⟩
          go_wp2_with fail
          refine (ihm _ P3.out).mono ?_
          rintro e w4 ⟨rfl, k4⟩
          exact ⟨rfl, by rw [← HR.out]; exact ⟨rfl, (hnew.kept.trans K3.out).trans k4⟩⟩
        | ok q =>
          obtain ⟨y, r2⟩ := q
          have hw2 := par_words S _ _ _ _ _ hres
          have hl2 := par_len S _ _ _ _ _ hres
          simp only [wordsOf, restOf, List.length_drop] at hw2 hl2
          rw [hres] at hR
          simp only at hR
          have HR := Lib.hid hR
          have ihm := fun wx hx => ih m (i1 + 1) d wx (by omega) hx (by unfold needL needC at *; omega)
          rw [hres] at ihm
          clear hR hc0 hres hcc ih
          go_wp2_with fail
          refine hnx.mono ?_
          rintro e w2 ⟨rfl, k2⟩
          have hps2 := hps.same k2
          obtain ⟨A1, c1, B1, e1, _, _, _, y0, y1, y2, y3, f1, f2, _⟩ := hps2.cells
          obtain ⟨p3, k3⟩ := hps2.at ((i1 : Int) + 1) (i1 + 1) (by omega) (by omega)
          have P3 := Lib.hid p3
          have K3 := Lib.hid ((k2.mono (fun _ _ q => q.elim) : Kept (fun j => j = p) wr w2).trans k3)
          clear p3 k3 hps2
          go_wp2_with fail
          refine (hcd _).mono ?_
          rintro e w3 ⟨rfl, rfl⟩
          go_wp2_with fail
          refine (ihm _ P3.out).mono ?_
          rintro e w4 ⟨vy, i2, rfl, hny, hp4, hd4⟩
          have hd4' : T.drop i2 = r2 := hd4
          have hlr2 : r2.length = T.length - i2 := by rw [← hd4', List.length_drop]
          have hi2 := hp4.le
          obtain ⟨A2, c2, rfl, hA2, hs2⟩ := hny.row.asSrc encW_len
          have hx4 := hnew.step hS (K3.out.trans hny.kept)
          simp only at hny hA2 hs2
          obtain ⟨v5, w5, hrun5, A5, c5, rfl, hn5, k5⟩ := NewS.src (P := Tryz.prog) (sz := 3) 26 26 (.agg #[.int .i64 0, .int .i64 0, .string ByteArray.empty]) 32 Tryz.underlying26 (by kernel_rfl) rfl (by decide) encW_len encW_one hx4 hS (Kept.refl _ w4) y A2 c2 hA2 hs2 (by simp only [maxLen]; omega) (by omega)
          have hp5 : Hid (PS w5 p T S i2 d) := hp4.keep k5 (fun j q => by omega)
          have hlen5 : (x ++ y).length ≤ T.length := by rw [List.length_append]; omega
          have tok1 := True.intro
          go_wp2_with (first
            | (at_builtin; have _t := tok1; refine wpList_run2 rfl _ _ _ _ rfl rfl rfl hrun5 ?_; clear tok1)
            | (at_builtin; refine wpList_ex rfl _ _ _ _ rfl rfl rfl (NewS.lit (sz := 3) _ _ (.agg #[.int .i64 0, .int .i64 0, .string ByteArray.empty]) 32 Tryz.underlying26 (by kernel_rfl) rfl (by decide) encW_len encW_one hn5 hS ((Kept.refl _ _).alloc _) [⟨cc, 0, []⟩] _ _ (heap_alloc_new _ _) (by simp only [maxLen, List.length_singleton]; omega) (by simp only [List.length_singleton]; omega)) ?_; rintro v6 w6 ⟨A6, c6, rfl, hn6, k6⟩))
          have hp6 : Hid (PS w6 p T S i2 d) := (hp5.out.same ((Kept.refl _ _).alloc _)).keep k6 (fun j q => by omega)
          rw [List.length_append, List.length_singleton] at hn6
          go_roundg m
          case measure => omega
          case rel => exact ⟨_, i2, hn6, hp6.out, by rw [hd4']; exact HR.out, by unfold needC at hneed ⊢; omega, by simp only [List.length_append, List.length_singleton]; omega, by omega⟩
end Go.Proofs.YtballmombklalaaGreat

/- parse: inner, prefix. -/
namespace Go.Proofs.YtballmombklalaaGreat
open Go.RowKit

set_option maxHeartbeats 4000000 in
set_option maxRecDepth 100000 in
theorem inner_p (n k g : Nat) (p : Nat) (T : List Tok) (S : List Cl) (eg : ∀ args w, (callFunc g args).run Tryz.prog w = .ok (.enter g args) w)
    (ih : ∀ (i d : Nat) (w : World), PS w p T S i d → needL k (T.length - i) ≤ n → Calls Tryz.prog g #[.pointer (some ⟨p, 0, none⟩)] w (ParPost p T S d w (par S n (.lv k) (T.drop i) d)))
    (i d : Nat) (w : World) (h : PS w p T S i d) (hi : i < T.length) (hn : needL k (T.length - (i + 1)) ≤ n) :
    Calls Tryz.prog 142 #[.pointer (some ⟨p, 0, none⟩), .func (.func g) #[.pointer (some ⟨p, 0, none⟩)] #[]] w (ParPost p T S d w (if 128 ≤ d then .error 6 else par S n (.lv k) (T.drop (i + 1)) (d + 1))) := by
  obtain ⟨R, hR⟩ : ∃ R : PR, (if 128 ≤ d then .error 6 else par S n (.lv k) (T.drop (i + 1)) (d + 1)) = R := ⟨_, rfl⟩
  rw [hR]
  have hsm := h.small
  have hdp := h.deep
  obtain ⟨A, c, B, e, hb, hT, hS, c0, c1, c2, c3, f1, f2, hp⟩ := h.cells
  by_cases hd : 128 ≤ d
  · rw [if_pos hd] at hR
    subst hR
    obtain rfl : d = 128 := by omega
    have y2 := cell_of_row _ p 2 _ _ _ (blk_set hb 2 (.int .i64 129))
    simp only [Array.setIfInBounds, List.size_toArray, List.length_cons, List.length_nil] at y2
    have k1 := (Kept.refl (fun j => j = p) w).setCell (p := ⟨p, 2, none⟩) (fun _ => rfl) (.int .i64 129)
    have K1 := Lib.hid k1
    have hnd := fun wx => need_no 6 wx
    clear hb hT hS h k1 ih
    go_enter Tryz.func142, Tryz.ntmps142
    go_wp2_with fail
    refine (hnd _).mono ?_
    rintro e w1 ⟨rfl, rfl⟩
    exact ⟨rfl, rfl, K1.out⟩
  · rw [if_neg hd] at hR
    have e1 : ((d + 1 : Nat) : Int) = (d : Int) + 1 := by omega
    obtain ⟨p1, k1⟩ := h.dp ((d : Int) + 1) (d + 1) (by omega) (by omega)
    obtain ⟨W1, hW1⟩ : ∃ W1, w.setCell ⟨p, 2, none⟩ (.int .i64 ((d : Int) + 1)) = W1 := ⟨_, rfl⟩
    rw [hW1] at p1 k1
    obtain ⟨A1, a1, B1, b1, _, _, _, y0, y1, y2, y3, g1, g2, _⟩ := p1.cells
    obtain ⟨p2, k2⟩ := p1.at ((i : Int) + 1) (i + 1) (by omega) (by omega)
    obtain ⟨W2, hW2⟩ : ∃ W2, W1.setCell ⟨p, 1, none⟩ (.int .i64 ((i : Int) + 1)) = W2 := ⟨_, rfl⟩
    rw [hW2] at p2 k2
    have hnd := fun wx => need_yes 6 wx
    have h2 := ih (i + 1) (d + 1) W2 p2 hn
    have hK : Hid (Kept (fun j => j = p) w W2) := k1.trans k2
    have hd' : (d : Int) + 1 ≤ 128 := by omega
    rw [e1] at y2
    clear hb hT hS h k1 k2 p1 p2 ih
    cases hres : par S n (.lv k) (T.drop (i + 1)) (d + 1) with
    | error ee =>
      rw [hres] at h2 hR
      subst hR
      clear hres
      go_enter Tryz.func142, Tryz.ntmps142
      go_wp2_with fail
      refine (hnd _).mono ?_
      rintro e w1 ⟨rfl, rfl⟩
      go_wp2_with fail
      refine h2.mono ?_
      rintro e w1 ⟨rfl, k3⟩
      exact ⟨rfl, rfl, Kept.trans hK.out k3⟩
    | ok q =>
      rw [hres] at h2 hR
      subst hR
      clear hres
      go_enter Tryz.func142, Tryz.ntmps142
      go_wp2_with fail
      refine (hnd _).mono ?_
      rintro e w1 ⟨rfl, rfl⟩
      go_wp2_with fail
      refine h2.mono ?_
      rintro e w1 ⟨v, i1, rfl, hnew, hps, hdr⟩
      obtain ⟨A3, a3, B3, b3, _, _, _, z0, z1, z2, z3, f1', f2', _⟩ := hps.cells
      obtain ⟨p4, k4⟩ := hps.dp (d : Int) d rfl (by omega)
      rw [e1] at z2
      have hn4 := (hnew.step (fun j q => by subst q; have := hK.out.size; omega) k4).from hK.out
      have HN := Lib.hid hn4
      have HP := Lib.hid p4
      clear hn4 p4 k4 hnew hps
      go_wp2_with fail
      go_ret
      exact ⟨v, i1, rfl, HN.out, HP.out, hdr⟩
end Go.Proofs.YtballmombklalaaGreat

/- parse: prefix, the levels but atom. -/
namespace Go.Proofs.YtballmombklalaaGreat
open Go.RowKit

theorem ParPost.from {p : Nat} {T : List Tok} {S : List Cl} {d : Nat} {w0 w w' : World} {R : PR} {e : Ending} (h : ParPost p T S d w R e w') (k : Kept (fun j => j = p) w0 w) : ParPost p T S d w0 R e w' := by
  cases R with
  | error ee => exact ⟨h.1, k.trans h.2⟩
  | ok q =>
    obtain ⟨v, i1, h1, h2, h3, h4⟩ := h
    exact ⟨v, i1, h1, h2.from k, h3, h4⟩

set_option maxHeartbeats 2000000 in
set_option maxRecDepth 100000 in
theorem prefix_p (c : Int) (g p : Nat) (T : List Tok) (S : List Cl) (d : Nat) (w : World) (X : PR) (hp : p < w.heap.size) (hX : ∀ q, X = .ok q → q.1.length ≤ 1048576)
    (hin : Calls Tryz.prog 142 #[.pointer (some ⟨p, 0, none⟩), .func (.func g) #[.pointer (some ⟨p, 0, none⟩)] #[]] w (ParPost p T S d w X)) :
    Calls Tryz.prog 132 #[.pointer (some ⟨p, 0, none⟩), .int .i64 c, .func (.func g) #[.pointer (some ⟨p, 0, none⟩)] #[]] w (ParPost p T S d w (preP c X)) := by
  cases X with
  | error ee =>
    clear hX
    go_enter Tryz.func132, Tryz.ntmps132
    go_wp2_with fail
    refine hin.mono ?_
    rintro e w1 ⟨rfl, k1⟩
    exact ⟨rfl, rfl, k1⟩
  | ok q =>
    have hq := hX q rfl
    clear hX
    obtain ⟨x, r⟩ := q
    simp only at hq
    have hS : ∀ j, (fun j => j = p) j → j < w.heap.size := fun j q => by subst q; exact hp
    go_enter Tryz.func132, Tryz.ntmps132
    go_wp2_with fail
    refine hin.mono ?_
    rintro e w1 ⟨v, i1, rfl, hnew, hps, hdr⟩
    obtain ⟨A, cp, rfl, _, _⟩ := hnew.row.shape
    go_wp2_with (at_builtin; refine wpList_ex rfl _ _ _ _ rfl rfl rfl (NewS.lit (sz := 3) _ _ (.agg #[.int .i64 0, .int .i64 0, .string ByteArray.empty]) 32 Tryz.underlying26 (by kernel_rfl) rfl (by decide) encW_len encW_one hnew hS ((Kept.refl _ _).alloc _) [⟨c, 0, []⟩] _ _ (heap_alloc_new _ _) (by simp only [maxLen, List.length_singleton]; omega) (by simp only [List.length_singleton]; omega)) ?_; rintro v6 w6 ⟨A6, c6, rfl, hn6, k6⟩)
    go_ret
    exact ⟨_, i1, rfl, hn6, (hps.same ((Kept.refl _ _).alloc _)).keep k6 (fun j q => by omega), hdr⟩

theorem or_p (p : Nat) (T : List Tok) (S : List Cl) (d : Nat) (w : World) (X : PR)
    (hch : Calls Tryz.prog 77 #[.pointer (some ⟨p, 0, none⟩), .int .i64 1, .func (.func 78) #[.pointer (some ⟨p, 0, none⟩)] #[]] w (ParPost p T S d w X)) :
    Calls Tryz.prog 44 #[.pointer (some ⟨p, 0, none⟩)] w (ParPost p T S d w X) := by
  have hmf : ∀ (fn : Fn) (first cap : Array Value) (w : World), (Instr.makeFunc fn first cap).run Tryz.prog w = .ok (.func fn first cap) w := fun _ _ _ _ => rfl
  cases X with
  | error ee =>
    go_enter Tryz.func44, Tryz.ntmps44
    go_wp2_with fail
    refine hch.mono ?_
    rintro e w1 ⟨rfl, k1⟩
    exact ⟨rfl, rfl, k1⟩
  | ok q =>
    go_enter Tryz.func44, Tryz.ntmps44
    go_wp2_with fail
    refine hch.mono ?_
    rintro e w1 ⟨v, i1, rfl, h1, h2, h3⟩
    go_wp2_with fail
    go_ret
    exact ⟨v, i1, rfl, h1, h2, h3⟩

theorem and_p (p : Nat) (T : List Tok) (S : List Cl) (d : Nat) (w : World) (X : PR)
    (hch : Calls Tryz.prog 77 #[.pointer (some ⟨p, 0, none⟩), .int .i64 2, .func (.func 111) #[.pointer (some ⟨p, 0, none⟩)] #[]] w (ParPost p T S d w X)) :
    Calls Tryz.prog 78 #[.pointer (some ⟨p, 0, none⟩)] w (ParPost p T S d w X) := by
  have hmf : ∀ (fn : Fn) (first cap : Array Value) (w : World), (Instr.makeFunc fn first cap).run Tryz.prog w = .ok (.func fn first cap) w := fun _ _ _ _ => rfl
  cases X with
  | error ee =>
    go_enter Tryz.func78, Tryz.ntmps78
    go_wp2_with fail
    refine hch.mono ?_
    rintro e w1 ⟨rfl, k1⟩
    exact ⟨rfl, rfl, k1⟩
  | ok q =>
    go_enter Tryz.func78, Tryz.ntmps78
    go_wp2_with fail
    refine hch.mono ?_
    rintro e w1 ⟨v, i1, rfl, h1, h2, h3⟩
    go_wp2_with fail
    go_ret
    exact ⟨v, i1, rfl, h1, h2, h3⟩

theorem sum_p (p : Nat) (T : List Tok) (S : List Cl) (d : Nat) (w : World) (X : PR)
    (hch : Calls Tryz.prog 77 #[.pointer (some ⟨p, 0, none⟩), .int .i64 5, .func (.func 147) #[.pointer (some ⟨p, 0, none⟩)] #[]] w (ParPost p T S d w X)) :
    Calls Tryz.prog 143 #[.pointer (some ⟨p, 0, none⟩)] w (ParPost p T S d w X) := by
  have hmf : ∀ (fn : Fn) (first cap : Array Value) (w : World), (Instr.makeFunc fn first cap).run Tryz.prog w = .ok (.func fn first cap) w := fun _ _ _ _ => rfl
  cases X with
  | error ee =>
    go_enter Tryz.func143, Tryz.ntmps143
    go_wp2_with fail
    refine hch.mono ?_
    rintro e w1 ⟨rfl, k1⟩
    exact ⟨rfl, rfl, k1⟩
  | ok q =>
    go_enter Tryz.func143, Tryz.ntmps143
    go_wp2_with fail
    refine hch.mono ?_
    rintro e w1 ⟨v, i1, rfl, h1, h2, h3⟩
    go_wp2_with fail
    go_ret
    exact ⟨v, i1, rfl, h1, h2, h3⟩

theorem term_p (p : Nat) (T : List Tok) (S : List Cl) (d : Nat) (w : World) (X : PR)
    (hch : Calls Tryz.prog 77 #[.pointer (some ⟨p, 0, none⟩), .int .i64 6, .func (.func 149) #[.pointer (some ⟨p, 0, none⟩)] #[]] w (ParPost p T S d w X)) :
    Calls Tryz.prog 147 #[.pointer (some ⟨p, 0, none⟩)] w (ParPost p T S d w X) := by
  have hmf : ∀ (fn : Fn) (first cap : Array Value) (w : World), (Instr.makeFunc fn first cap).run Tryz.prog w = .ok (.func fn first cap) w := fun _ _ _ _ => rfl
  cases X with
  | error ee =>
    go_enter Tryz.func147, Tryz.ntmps147
    go_wp2_with fail
    refine hch.mono ?_
    rintro e w1 ⟨rfl, k1⟩
    exact ⟨rfl, rfl, k1⟩
  | ok q =>
    go_enter Tryz.func147, Tryz.ntmps147
    go_wp2_with fail
    refine hch.mono ?_
    rintro e w1 ⟨v, i1, rfl, h1, h2, h3⟩
    go_wp2_with fail
    go_ret
    exact ⟨v, i1, rfl, h1, h2, h3⟩

set_option maxHeartbeats 2000000 in
set_option maxRecDepth 100000 in
theorem not_p (p : Nat) (T : List Tok) (S : List Cl) (i d : Nat) (w : World) (X Y : PR) (h : PS w p T S i d)
    (hX : nextS (T.drop i) = [110, 111, 116] → ∀ wx, PS wx p T S i d → Calls Tryz.prog 132 #[.pointer (some ⟨p, 0, none⟩), .int .i64 5, .func (.func 111) #[.pointer (some ⟨p, 0, none⟩)] #[]] wx (ParPost p T S d wx X))
    (hY : ∀ wx, PS wx p T S i d → Calls Tryz.prog 133 #[.pointer (some ⟨p, 0, none⟩)] wx (ParPost p T S d wx Y)) :
    Calls Tryz.prog 111 #[.pointer (some ⟨p, 0, none⟩)] w (ParPost p T S d w (if nextS (T.drop i) = [110, 111, 116] then X else Y)) := by
  have hmf : ∀ (fn : Fn) (first cap : Array Value) (w : World), (Instr.makeFunc fn first cap).run Tryz.prog w = .ok (.func fn first cap) w := fun _ _ _ _ => rfl
  have hn := next_p w p T S i d h
  obtain ⟨R, hR⟩ : ∃ R : PR, (if nextS (T.drop i) = [110, 111, 116] then X else Y) = R := ⟨_, rfl⟩
  rw [hR]
  generalize nextS (T.drop i) = nx at *
  by_cases g : nx = [110, 111, 116]
  · rw [if_pos g] at hR
    have HR : Hid (R = X) := hR.symm
    have hX' := hX g
    subst g
    clear hX hR hY
    go_enter Tryz.func111, Tryz.ntmps111
    go_wp2_with fail
    refine hn.mono ?_
    rintro e w1 ⟨rfl, k1⟩
    have hps := h.same k1
    cases X with
    | error ee =>
      go_wp2_with fail
      refine (hX' _ hps).mono ?_
      intro e w9 hpost
      have hpost2 := hpost.from (k1.mono (fun _ _ q => q.elim))
      obtain ⟨rfl, k9⟩ := hpost2
      exact ⟨rfl, by rw [HR.out]; exact ⟨rfl, k9⟩⟩
    | ok q =>
      go_wp2_with fail
      refine (hX' _ hps).mono ?_
      intro e w9 hpost
      have hpost2 := hpost.from (k1.mono (fun _ _ q => q.elim))
      obtain ⟨v, i1, rfl, h1, h2, h3⟩ := hpost2
      go_wp2_with fail
      go_ret
      rw [HR.out]
      exact ⟨v, i1, rfl, h1, h2, h3⟩
  · rw [if_neg g] at hR
    have HR : Hid (R = Y) := hR.symm
    have gb : (nx == [110, 111, 116]) = false := by simpa using g
    clear hX hR g
    go_enter Tryz.func111, Tryz.ntmps111
    go_wp2_with fail
    refine hn.mono ?_
    rintro e w1 ⟨rfl, k1⟩
    have hps := h.same k1
    cases Y with
    | error ee =>
      go_wp2_with fail
      refine (hY _ hps).mono ?_
      intro e w9 hpost
      have hpost2 := hpost.from (k1.mono (fun _ _ q => q.elim))
      obtain ⟨rfl, k9⟩ := hpost2
      exact ⟨rfl, by rw [HR.out]; exact ⟨rfl, k9⟩⟩
    | ok q =>
      go_wp2_with fail
      refine (hY _ hps).mono ?_
      intro e w9 hpost
      have hpost2 := hpost.from (k1.mono (fun _ _ q => q.elim))
      obtain ⟨v, i1, rfl, h1, h2, h3⟩ := hpost2
      go_wp2_with fail
      go_ret
      rw [HR.out]
      exact ⟨v, i1, rfl, h1, h2, h3⟩

set_option maxHeartbeats 2000000 in
set_option maxRecDepth 100000 in
theorem unary_p (p : Nat) (T : List Tok) (S : List Cl) (i d : Nat) (w : World) (X Y Z U : PR) (h : PS w p T S i d)
    (hX : belowB (T.drop i) = true → ∀ wx, PS wx p T S (i + 1) d → Calls Tryz.prog 151 #[.pointer (some ⟨p, 0, none⟩), .string ⟨#[45]⟩] wx (ParPost p T S d wx X))
    (hY : nextS (T.drop i) = [45] → ∀ wx, PS wx p T S i d → Calls Tryz.prog 132 #[.pointer (some ⟨p, 0, none⟩), .int .i64 4, .func (.func 149) #[.pointer (some ⟨p, 0, none⟩)] #[]] wx (ParPost p T S d wx Y))
    (hZ : nextS (T.drop i) = [108, 101, 110] → ∀ wx, PS wx p T S i d → Calls Tryz.prog 132 #[.pointer (some ⟨p, 0, none⟩), .int .i64 6, .func (.func 149) #[.pointer (some ⟨p, 0, none⟩)] #[]] wx (ParPost p T S d wx Z))
    (hU : ∀ wx, PS wx p T S i d → Calls Tryz.prog 152 #[.pointer (some ⟨p, 0, none⟩)] wx (ParPost p T S d wx U)) :
    Calls Tryz.prog 149 #[.pointer (some ⟨p, 0, none⟩)] w (ParPost p T S d w (if belowB (T.drop i) = true then X else if nextS (T.drop i) = [45] then Y else if nextS (T.drop i) = [108, 101, 110] then Z else U)) := by
  have hmf : ∀ (fn : Fn) (first cap : Array Value) (w : World), (Instr.makeFunc fn first cap).run Tryz.prog w = .ok (.func fn first cap) w := fun _ _ _ _ => rfl
  have hb := below_p w p T S i d h
  have hn := fun wx hx => next_p wx p T S i d hx
  obtain ⟨R, hR⟩ : ∃ R : PR, (if belowB (T.drop i) = true then X else if nextS (T.drop i) = [45] then Y else if nextS (T.drop i) = [108, 101, 110] then Z else U) = R := ⟨_, rfl⟩
  rw [hR]
  cases gb : belowB (T.drop i) with
  | true =>
    rw [gb] at hb
    rw [if_pos gb] at hR
    have HR : Hid (R = X) := hR.symm
    have hlt : i < T.length := by
      rcases Nat.lt_or_ge i T.length with q | q
      · exact q
      · rw [List.drop_eq_nil_of_le q] at gb; cases gb
    have hX' := hX gb
    have hsm := h.small
    clear hX hR hY hZ hU gb hn
    go_enter Tryz.func149, Tryz.ntmps149
    go_wp2_with fail
    refine hb.mono ?_
    rintro e w1 ⟨rfl, k1⟩
    have hps1 := h.same k1
    obtain ⟨A, c, B, e, _, _, _, c0, c1, c2, c3, f1, f2, _⟩ := hps1.cells
    obtain ⟨p2, k2⟩ := hps1.at ((i : Int) + 1) (i + 1) (by omega) (by omega)
    have HP := Lib.hid p2
    have HK := Lib.hid ((k1.mono (fun _ _ q => q.elim) : Kept (fun j => j = p) w w1).trans k2)
    clear p2 k2 hps1
    cases X with
    | error ee =>
      go_wp2_with fail
      refine (hX' _ HP.out).mono ?_
      intro e w9 hpost
      have hpost2 := hpost.from (HK.out)
      obtain ⟨rfl, k9⟩ := hpost2
      exact ⟨rfl, by rw [HR.out]; exact ⟨rfl, k9⟩⟩
    | ok q =>
      go_wp2_with fail
      refine (hX' _ HP.out).mono ?_
      intro e w9 hpost
      have hpost2 := hpost.from (HK.out)
      obtain ⟨v, i1, rfl, h1, h2, h3⟩ := hpost2
      go_wp2_with fail
      go_ret
      rw [HR.out]
      exact ⟨v, i1, rfl, h1, h2, h3⟩
  | false =>
    rw [gb] at hb
    rw [if_neg (by rw [gb]; simp)] at hR
    clear hX gb
    generalize nextS (T.drop i) = nx at *
    by_cases g1 : nx = [45]
    · rw [if_pos g1] at hR
      have HR : Hid (R = Y) := hR.symm
      have hY' := hY g1
      subst g1
      clear hR hY hZ hU
      go_enter Tryz.func149, Tryz.ntmps149
      go_wp2_with fail
      refine hb.mono ?_
      rintro e w1 ⟨rfl, k1⟩
      go_wp2_with fail
      refine (hn _ (h.same k1)).mono ?_
      rintro e w2 ⟨rfl, k2⟩
      have hps := (h.same k1).same k2
      cases Y with
      | error ee =>
        go_wp2_with fail
        refine (hY' _ hps).mono ?_
        intro e w9 hpost
        have hpost2 := hpost.from ((k1.trans k2).mono (fun _ _ q => q.elim))
        obtain ⟨rfl, k9⟩ := hpost2
        exact ⟨rfl, by rw [HR.out]; exact ⟨rfl, k9⟩⟩
      | ok q =>
        go_wp2_with fail
        refine (hY' _ hps).mono ?_
        intro e w9 hpost
        have hpost2 := hpost.from ((k1.trans k2).mono (fun _ _ q => q.elim))
        obtain ⟨v, i1, rfl, h1, h2, h3⟩ := hpost2
        go_wp2_with fail
        go_ret
        rw [HR.out]
        exact ⟨v, i1, rfl, h1, h2, h3⟩
    · rw [if_neg g1] at hR
      have gb1 : (nx == [45]) = false := by simpa using g1
      by_cases g2 : nx = [108, 101, 110]
      · rw [if_pos g2] at hR
        have HR : Hid (R = Z) := hR.symm
        have hZ' := hZ g2
        subst g2
        clear hR hY hZ hU g1 gb1
        go_enter Tryz.func149, Tryz.ntmps149
        go_wp2_with fail
        refine hb.mono ?_
        rintro e w1 ⟨rfl, k1⟩
        go_wp2_with fail
        refine (hn _ (h.same k1)).mono ?_
        rintro e w2 ⟨rfl, k2⟩
        go_wp2_with fail
        refine (hn _ ((h.same k1).same k2)).mono ?_
        rintro e w3 ⟨rfl, k3⟩
        have hps := ((h.same k1).same k2).same k3
        cases Z with
        | error ee =>
          go_wp2_with fail
          refine (hZ' _ hps).mono ?_
          intro e w9 hpost
          have hpost2 := hpost.from (((k1.trans k2).trans k3).mono (fun _ _ q => q.elim))
          obtain ⟨rfl, k9⟩ := hpost2
          exact ⟨rfl, by rw [HR.out]; exact ⟨rfl, k9⟩⟩
        | ok q =>
          go_wp2_with fail
          refine (hZ' _ hps).mono ?_
          intro e w9 hpost
          have hpost2 := hpost.from (((k1.trans k2).trans k3).mono (fun _ _ q => q.elim))
          obtain ⟨v, i1, rfl, h1, h2, h3⟩ := hpost2
          go_wp2_with fail
          go_ret
          rw [HR.out]
          exact ⟨v, i1, rfl, h1, h2, h3⟩
      · rw [if_neg g2] at hR
        have gb2 : (nx == [108, 101, 110]) = false := by simpa using g2
        have HR : Hid (R = U) := hR.symm
        clear hR hY hZ g1 g2
        go_enter Tryz.func149, Tryz.ntmps149
        go_wp2_with fail
        refine hb.mono ?_
        rintro e w1 ⟨rfl, k1⟩
        go_wp2_with fail
        refine (hn _ (h.same k1)).mono ?_
        rintro e w2 ⟨rfl, k2⟩
        go_wp2_with fail
        refine (hn _ ((h.same k1).same k2)).mono ?_
        rintro e w3 ⟨rfl, k3⟩
        have hps := ((h.same k1).same k2).same k3
        cases U with
        | error ee =>
          go_wp2_with fail
          refine (hU _ hps).mono ?_
          intro e w9 hpost
          have hpost2 := hpost.from (((k1.trans k2).trans k3).mono (fun _ _ q => q.elim))
          obtain ⟨rfl, k9⟩ := hpost2
          exact ⟨rfl, by rw [HR.out]; exact ⟨rfl, k9⟩⟩
        | ok q =>
          go_wp2_with fail
          refine (hU _ hps).mono ?_
          intro e w9 hpost
          have hpost2 := hpost.from (((k1.trans k2).trans k3).mono (fun _ _ q => q.elim))
          obtain ⟨v, i1, rfl, h1, h2, h3⟩ := hpost2
          go_wp2_with fail
          go_ret
          rw [HR.out]
          exact ⟨v, i1, rfl, h1, h2, h3⟩
end Go.Proofs.YtballmombklalaaGreat

/- parse: compare. -/
namespace Go.Proofs.YtballmombklalaaGreat
open Go.RowKit

set_option maxHeartbeats 4000000 in
set_option maxRecDepth 100000 in
theorem compare_p (n p : Nat) (T : List Tok) (S : List Cl)
    (ih : ∀ (i d : Nat) (w : World), PS w p T S i d → needL 5 (T.length - i) ≤ n → Calls Tryz.prog 143 #[.pointer (some ⟨p, 0, none⟩)] w (ParPost p T S d w (par S n (.lv 5) (T.drop i) d)))
    (i d : Nat) (w : World) (h : PS w p T S i d) (hn : needL 4 (T.length - i) ≤ n + 1) :
    Calls Tryz.prog 133 #[.pointer (some ⟨p, 0, none⟩)] w (ParPost p T S d w (par S (n + 1) (.lv 4) (T.drop i) d)) := by
  obtain ⟨R, hR⟩ : ∃ R : PR, par S (n + 1) (.lv 4) (T.drop i) d = R := ⟨_, rfl⟩
  rw [hR]
  have hcode := fun s wx => code_any 4 s wx (by omega)
  rw [par, if_neg (by omega), if_neg (by omega), if_pos rfl] at hR
  have hsm := h.small
  have hp := h.cells.choose_spec.choose_spec.choose_spec.choose_spec.2.2.2.2.2.2.2.2.2
  have h0 := ih i d w h (by unfold needL at hn ⊢; omega)
  cases hres : par S n (.lv 5) (T.drop i) d with
  | error ee =>
    rw [hres] at h0 hR
    simp only at hR
    have HR := Lib.hid hR
    clear hR hres ih
    go_enter Tryz.func133, Tryz.ntmps133
    go_wp2_with fail
    refine h0.mono ?_
    rintro e w1 ⟨rfl, k1⟩
    exact ⟨rfl, by rw [← HR.out]; exact ⟨rfl, k1⟩⟩
  | ok q =>
    rw [hres] at h0 hR
    simp only at hR
    have hw := par_words S _ _ _ _ _ hres
    have hlq := par_len S _ _ _ _ _ hres
    simp only [wordsOf, restOf, List.length_drop] at hw hlq
    obtain ⟨x, r⟩ := q
    simp only at hw hlq hR
    have hS : ∀ j, (fun j => j = p) j → j < w.heap.size := fun j q => by subst q; exact hp
    clear hres
    by_cases hc0 : codeI 4 (nextS r) = 0
    · rw [if_pos hc0] at hR
      have HR := Lib.hid hR
      have hcd := hcode (nextS r)
      rw [hc0] at hcd
      clear hR hc0
      go_enter Tryz.func133, Tryz.ntmps133
      go_wp2_with fail
      refine h0.mono ?_
      rintro e w1 ⟨v, i1, rfl, hnew, hps, hdr⟩
      have hdr' : T.drop i1 = r := hdr
      have hnx := next_p w1 p T S i1 d hps
      rw [hdr'] at hnx
      generalize nextS r = nx at *
      go_wp2_with fail
      refine hnx.mono ?_
      rintro e w2 ⟨rfl, k2⟩
      go_wp2_with fail
      refine (hcd _).mono ?_
      rintro e w3 ⟨rfl, rfl⟩
      go_wp2_with fail
      go_ret
      rw [← HR.out]
      exact ⟨v, i1, rfl, hnew.step hS (k2.mono (fun _ _ q => q.elim)), hps.same k2, hdr⟩
    · rw [if_neg hc0] at hR
      have hpos := code_pos hc0
      have hcb : (codeI 4 (nextS r) == 0) = false := by simpa using hc0
      have hcd := hcode (nextS r)
      generalize hcc : codeI 4 (nextS r) = cc at *
      clear hc0 hcc
      cases hres : par S n (.lv 5) r.tail d with
      | error ee =>
        rw [hres] at hR
        simp only at hR
        have HR := Lib.hid hR
        clear hR
        go_enter Tryz.func133, Tryz.ntmps133
        go_wp2_with fail
        refine h0.mono ?_
        rintro e w1 ⟨v, i1, rfl, hnew, hps, hdr⟩
        have hdr' : T.drop i1 = r := hdr
        have hi1 := hps.le
        have hlr : r.length = T.length - i1 := by rw [← hdr', List.length_drop]
        have hnx := next_p w1 p T S i1 d hps
        rw [hdr'] at hnx
        rw [← hdr', List.tail_drop] at hres
        have ihm := fun wx hx => ih (i1 + 1) d wx hx (by unfold needL at *; omega)
        rw [hres] at ihm
        generalize nextS r = nx at *
        clear hres hdr hdr' ih
        go_wp2_with fail
        refine hnx.mono ?_
        rintro e w2 ⟨rfl, k2⟩
        have hps2 := hps.same k2
        obtain ⟨A1, c1, B1, e1, _, _, _, y0, y1, y2, y3, f1, f2, _⟩ := hps2.cells
        obtain ⟨p3, k3⟩ := hps2.at ((i1 : Int) + 1) (i1 + 1) (by omega) (by omega)
        have P3 := Lib.hid p3
        have K3 := Lib.hid ((k2.mono (fun _ _ q => q.elim) : Kept (fun j => j = p) w1 w2).trans k3)
        clear p3 k3 hps2
        go_wp2_with fail
        refine (hcd _).mono ?_
        rintro e w3 ⟨rfl, rfl⟩
        go_wp2_with fail
        refine (ihm _ P3.out).mono ?_
        rintro e w4 ⟨rfl, k4⟩
        exact ⟨rfl, by rw [← HR.out]; exact ⟨rfl, (hnew.kept.trans K3.out).trans k4⟩⟩
      | ok q =>
        obtain ⟨y, r2⟩ := q
        have hw2 := par_words S _ _ _ _ _ hres
        have hl2 := par_len S _ _ _ _ _ hres
        simp only [wordsOf, restOf, List.length_tail] at hw2 hl2
        rw [hres] at hR
        simp only at hR
        have HR := Lib.hid hR
        clear hR
        go_enter Tryz.func133, Tryz.ntmps133
        go_wp2_with fail
        refine h0.mono ?_
        rintro e w1 ⟨v, i1, rfl, hnew, hps, hdr⟩
        have hdr' : T.drop i1 = r := hdr
        have hi1 := hps.le
        have hlr : r.length = T.length - i1 := by rw [← hdr', List.length_drop]
        have hnx := next_p w1 p T S i1 d hps
        rw [hdr'] at hnx
        rw [← hdr', List.tail_drop] at hres
        have ihm := fun wx hx => ih (i1 + 1) d wx hx (by unfold needL at *; omega)
        rw [hres] at ihm
        generalize nextS r = nx at *
        obtain ⟨A, cp, rfl, _, _⟩ := hnew.row.shape
        clear hres hdr hdr' ih
        go_wp2_with fail
        refine hnx.mono ?_
        rintro e w2 ⟨rfl, k2⟩
        have hps2 := hps.same k2
        obtain ⟨A1, c1, B1, e1, _, _, _, y0, y1, y2, y3, f1, f2, _⟩ := hps2.cells
        obtain ⟨p3, k3⟩ := hps2.at ((i1 : Int) + 1) (i1 + 1) (by omega) (by omega)
        have P3 := Lib.hid p3
        have K3 := Lib.hid ((k2.mono (fun _ _ q => q.elim) : Kept (fun j => j = p) w1 w2).trans k3)
        clear p3 k3 hps2
        go_wp2_with fail
        refine (hcd _).mono ?_
        rintro e w3 ⟨rfl, rfl⟩
        go_wp2_with fail
        refine (ihm _ P3.out).mono ?_
        rintro e w4 ⟨vy, i2, rfl, hny, hp4, hd4⟩
        have hd4' : T.drop i2 = r2 := hd4
        have hlr2 : r2.length = T.length - i2 := by rw [← hd4', List.length_drop]
        have hi2 := hp4.le
        obtain ⟨A2, c2, rfl, hA2, hs2⟩ := hny.row.asSrc encW_len
        have hx4 := hnew.step hS (K3.out.trans hny.kept)
        simp only at hny hA2 hs2
        obtain ⟨v5, w5, hrun5, A5, c5, rfl, hn5, k5⟩ := NewS.src (P := Tryz.prog) (sz := 3) 26 26 (.agg #[.int .i64 0, .int .i64 0, .string ByteArray.empty]) 32 Tryz.underlying26 (by kernel_rfl) rfl (by decide) encW_len encW_one hx4 hS (Kept.refl _ w4) y A2 c2 hA2 hs2 (by simp only [maxLen]; omega) (by omega)
        have hp5 : Hid (PS w5 p T S i2 d) := hp4.keep k5 (fun j q => by omega)
        have hlen5 : (x ++ y).length ≤ T.length := by rw [List.length_append]; omega
        have tok1 := True.intro
        go_wp2_with (first
          | (at_builtin; have _t := tok1; refine wpList_run2 rfl _ _ _ _ rfl rfl rfl hrun5 ?_; clear tok1)
          | (at_builtin; refine wpList_ex rfl _ _ _ _ rfl rfl rfl (NewS.lit (sz := 3) _ _ (.agg #[.int .i64 0, .int .i64 0, .string ByteArray.empty]) 32 Tryz.underlying26 (by kernel_rfl) rfl (by decide) encW_len encW_one hn5 hS ((Kept.refl _ _).alloc _) [⟨cc, 0, []⟩] _ _ (heap_alloc_new _ _) (by simp only [maxLen, List.length_singleton]; omega) (by simp only [List.length_singleton]; omega)) ?_; rintro v6 w6 ⟨A6, c6, rfl, hn6, k6⟩))
        have hp6 : Hid (PS w6 p T S i2 d) := (hp5.out.same ((Kept.refl _ _).alloc _)).keep k6 (fun j q => by omega)
        rw [List.length_append, List.length_singleton] at hn6
        go_ret
        rw [← HR.out]
        exact ⟨_, i2, rfl, hn6, hp6.out, hd4'⟩
end Go.Proofs.YtballmombklalaaGreat
