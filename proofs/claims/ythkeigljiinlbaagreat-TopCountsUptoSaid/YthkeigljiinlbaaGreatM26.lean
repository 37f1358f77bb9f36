/- slices.SortStableFunc of edges. -/
import Derived.Test.YthkeigljiinlbaaGreatM25
import Derived.Test.YthkeigljiinlbaaGreatM21
namespace Go.Proofs.YthkeigljiinlbaaGreat
open Go.RowKit

set_option maxRecDepth 100000 in
theorem ins0E (W : World) (v : Value) (a : Nat) (f : Value) (ha : a ≤ 1048576) : Calls Tryz.prog 134 #[v, .int .i64 a, .int .i64 a, f] W fun e w' => e = .returned (.tuple #[]) ∧ w' = W := by
  go_enter Tryz.func134, Tryz.ntmps134
  have b1 : decide ((a : Int) + 1 < (a : Int)) = false := by simp; omega
  go_wp2_with fail
  go_loopg [8] 0 (fun k iv wr => iv = .int .i64 ((a : Int) + 1) ∧ W = wr)
  case atStart => exact ⟨rfl, rfl⟩
  case round =>
    obtain ⟨rfl, rfl⟩ := hrel
    go_wp2_with fail
    go_end0
    exact ⟨rfl, rfl⟩

/-- Chunks in order, and a shorter rest in order. -/
def ChkE {w : World} {g : Nat} (bs : Nat) (C : List (List (PX w g))) : Prop := ∀ c ∈ C, c.length = bs ∧ Srt keyE c
theorem ChkE.len {w : World} {g : Nat} {bs : Nat} {C : List (List (PX w g))} (h : ChkE bs C) : C.flatten.length = C.length * bs := flat_len (fun c hc => (h c hc).1)
theorem ChkE.snoc {w : World} {g : Nat} {bs : Nat} {C : List (List (PX w g))} (h : ChkE bs C) {Z : List (PX w g)} (hl : Z.length = bs) (hs : Srt keyE Z) : ChkE bs (C ++ [Z]) := fun c hc => by
  rcases List.mem_append.1 hc with hc | hc
  · exact h c hc
  · rw [List.mem_singleton] at hc; subst hc; exact ⟨hl, hs⟩

set_option maxHeartbeats 4000000 in
set_option maxRecDepth 100000 in
theorem stableE_any (g cap : Nat) (w : World) (D : List (PX w g)) (W : World) (N : Nat) (hN : N = D.length) (hN2 : N ≤ 1048576) (h : Arr encX 3 50 w W g cap D) :
    Calls Tryz.prog 90 #[.slice (some ⟨g, 0, none⟩) N cap, .int .i64 N, .func (.func 47) #[] #[]] W fun e w' => e = .returned (.tuple #[]) ∧ ∃ Z : List (PX w g), Z.Perm D ∧ Srt keyE Z ∧ Arr encX 3 50 w w' g cap Z := by
  have HN := Lib.hid hN
  have HH := Lib.hid h
  clear hN h
  go_enter Tryz.func90, Tryz.ntmps90
  go_wp2_with fail
  go_loopg [7, 8] N (fun k av bv wr => ∃ (a b : Nat) (C : List (List (PX w g))) (R : List (PX w g)), av = .int .i64 a ∧ bv = .int .i64 b ∧ b = a + 20 ∧ a ≤ N ∧ N - a ≤ k ∧ Hid (a = C.flatten.length ∧ ChkE 20 C ∧ (C.flatten ++ R).Perm D) ∧ Hid (Arr encX 3 50 w wr g cap (C.flatten ++ R)))
  case atStart => exact ⟨0, 20, [], D, rfl, rfl, rfl, Nat.zero_le _, by omega, ⟨rfl, (fun c hc => by cases hc), List.Perm.refl _⟩, HH.out⟩
  case round =>
    obtain ⟨a, b, C, R, rfl, rfl, hb, haN, hk, HC, HR⟩ := hrel
    have HL : Hid (a + R.length = N) := by
      have h1 := HC.out.2.2.length_eq
      rw [List.length_append] at h1
      have := HC.out.1
      have := HN.out
      unfold Hid
      omega
    by_cases hlt : b ≤ N
    · obtain ⟨R1, R2, hR, hR1⟩ := part_at (X := R) (k := 20) (by have := HL.out; omega)
      obtain ⟨x0, X, rfl⟩ : ∃ x0 X, R1 = x0 :: X := by
        cases R1 with
        | nil => cases hR1
        | cons x X => exact ⟨x, X, rfl⟩
      have hc := insE_any g cap w C.flatten x0 X R2 wr a b N HC.out.1 (by have := HC.out.1; rw [List.length_cons] at hR1; omega) (by
        have h1 := HL.out
        have h2 := HC.out.1
        have h3 := congrArg List.length hR
        simp only [List.length_append, List.length_cons] at h3 ⊢
        omega) hN2 (by have := HR.out; rw [hR] at this; simpa using this)
      have HRR := Lib.hid hR
      have HR1 := Lib.hid hR1
      have b1 : decide ((b : Int) ≤ (N : Int)) = true := by simp; omega
      have HB := Lib.hid hb
      clear hR hR1 hb
      go_wp2_with fail
      refine hc.mono ?_
      rintro e w1 ⟨rfl, Z, p1, s1, hr1⟩
      have HZ := Lib.hid (show _ ∧ _ ∧ _ from ⟨p1, s1, hr1⟩)
      clear p1 s1 hr1 hc
      go_wp2_with fail
      go_roundg (N - b)
      case measure => have := HB.out; omega
      case rel =>
        obtain ⟨p1, s1, hr1⟩ := HZ.out
        obtain ⟨c1, c2, c3⟩ := HC.out
        have hz : Z.length = 20 := by rw [p1.length_eq]; exact HR1.out
        refine ⟨b, b + 20, C ++ [Z], R2, rfl, int_eq (by omega), rfl, hlt, Nat.le_refl _, ⟨?_, c2.snoc hz s1, ?_⟩, ?_⟩
        · rw [List.flatten_append, List.length_append]; simp only [List.flatten_cons, List.flatten_nil, List.append_nil]; have := HB.out; omega
        · refine List.Perm.trans ?_ c3
          rw [HRR.out, List.flatten_append]
          simp only [List.flatten_cons, List.flatten_nil, List.append_nil, List.append_assoc]
          exact List.Perm.append_left _ (p1.append_right R2)
        · rw [List.flatten_append]
          simp only [List.flatten_cons, List.flatten_nil, List.append_nil, List.append_assoc]
          exact hr1
    · have hins : Calls Tryz.prog 134 #[.slice (some ⟨g, 0, none⟩) N cap, .int .i64 a, .int .i64 N, .func (.func 47) #[] #[]] wr fun e w' => e = .returned (.tuple #[]) ∧ ∃ Z : List (PX w g), Z.Perm R ∧ Srt keyE Z ∧ Arr encX 3 50 w w' g cap (C.flatten ++ Z) := by
        cases R with
        | nil =>
          have e : N = a := by have := HL.out; simp at this; omega
          rw [e]
          refine (ins0E wr _ a _ (by omega)).mono ?_
          rintro e w' ⟨he, rfl⟩
          exact ⟨he, [], List.Perm.refl _, Srt.nil, HR.out⟩
        | cons x0 X =>
          have hl := HL.out
          rw [List.length_cons] at hl
          have hr := HR.out
          rw [← List.append_nil (x0 :: X)] at hr
          refine (insE_any g cap w C.flatten x0 X [] wr a N N HC.out.1 (by have := HC.out.1; omega) (by have := HC.out.1; simp only [List.length_append, List.length_cons, List.length_nil]; omega) hN2 hr).mono ?_
          rintro e w' ⟨he, Z, p1, s1, hr1⟩
          exact ⟨he, Z, p1, s1, by simpa using hr1⟩
      have b1 : decide (b ≤ N) = false := by simp; omega
      have b2 : ¬ ((b : Int) ≤ (N : Int)) := by omega
      have HB := Lib.hid (show b = a + 20 ∧ N < b from ⟨hb, by omega⟩)
      clear hb
      go_wp2_with fail
      refine hins.mono ?_
      rintro e w1 ⟨rfl, Z, p1, s1, hr1⟩
      have HZ := Lib.hid (show _ ∧ _ ∧ _ from ⟨p1, s1, hr1⟩)
      clear p1 s1 hr1 hins
      go_wp2_with fail
      go_loopg [6, 7, 8, 9] N (fun k sv av bv mv wr => ∃ (bs : Nat) (C : List (List (PX w g))) (R : List (PX w g)), sv = .int .i64 bs ∧ 0 < bs ∧ bs ≤ 2 * N + 20 ∧ N - bs ≤ k ∧ Hid (ChkE bs C ∧ Srt keyE R ∧ R.length < bs ∧ (C.flatten ++ R).Perm D) ∧ Hid (Arr encX 3 50 w wr g cap (C.flatten ++ R)))
      case atStart =>
        obtain ⟨p1, s1, hr1⟩ := HZ.out
        obtain ⟨c1, c2, c3⟩ := HC.out
        exact ⟨20, C, Z, rfl, by omega, by omega, by omega, ⟨c2, s1, by rw [p1.length_eq]; have := HL.out; have := HB.out; omega, (List.Perm.append_left _ p1).trans c3⟩, hr1⟩
      case round =>
        clear HC HR HZ HB HL
        obtain ⟨bs, C, R, rfl, hbs, hbs2, hk, HC, HR⟩ := hrel
        have HL : Hid (C.length * bs + R.length = N) := by
          obtain ⟨c1, _, _, c4⟩ := HC.out
          have h1 := c4.length_eq
          rw [List.length_append, c1.len] at h1
          have := HN.out
          unfold Hid
          omega
        by_cases hlt : bs < N
        · obtain ⟨b2, hb2⟩ : ∃ b2, b2 = 2 * bs := ⟨_, rfl⟩
          have e2 : (2 : Int) * (bs : Int) = (b2 : Int) := by omega
          have e3 : (bs : Int) * 2 = (b2 : Int) := by omega
          have HB2 := Lib.hid (show b2 = 2 * bs ∧ bs < N from ⟨hb2, hlt⟩)
          obtain ⟨G, HG⟩ : ∃ G, Hid (N - b2 = G ∧ G < gk) := ⟨_, rfl, by omega⟩
          have hbb : b2 ≤ 2097192 := by omega
          have b1 : decide (bs < N) = true := by simp; omega
          clear hb2
          go_wp2_with fail
          clear b1 hlt
          go_loopg [7, 8] N (fun k av bv wr => ∃ (a b : Nat) (C1 C2 : List (List (PX w g))), av = .int .i64 a ∧ bv = .int .i64 b ∧ b = a + b2 ∧ a ≤ N ∧ N - a ≤ k ∧ Hid (a = C1.flatten.length ∧ ChkE b2 C1 ∧ ChkE bs C2 ∧ (C1.flatten ++ (C2.flatten ++ R)).Perm D) ∧ Hid (Arr encX 3 50 w wr g cap (C1.flatten ++ (C2.flatten ++ R))))
          case atStart =>
            obtain ⟨c1, _, _, c4⟩ := HC.out
            exact ⟨0, b2, [], C, rfl, rfl, by omega, Nat.zero_le _, by omega, ⟨rfl, (fun c hc => by cases hc), c1, c4⟩, HR.out⟩
          case round =>
            clear HR
            obtain ⟨a, b, C1, C2, rfl, rfl, hb, haN, hk2, HCC, HR⟩ := hrel
            have HLL : Hid (a + C2.length * bs + R.length = N) := by
              obtain ⟨q1, _, q3, q4⟩ := HCC.out
              have h1 := q4.length_eq
              rw [List.length_append, List.length_append, q3.len] at h1
              have := HN.out
              unfold Hid
              omega
            by_cases hlt : b ≤ N
            · obtain ⟨c, d, C2', hC⟩ : ∃ c d C', C2 = c :: d :: C' := by
                have hl := HLL.out
                have h2 := HB2.out
                have h3 := HC.out.2.2.1
                match C2, hl with
                | [], hl => simp only [List.length_nil, Nat.zero_mul] at hl; omega
                | [c], hl => simp only [List.length_cons, List.length_nil, Nat.zero_add, Nat.one_mul] at hl; omega
                | c :: d :: C', _ => exact ⟨c, d, C', rfl⟩
              subst hC
              obtain ⟨am, ham⟩ : ∃ am, a + bs = am := ⟨_, rfl⟩
              have e4 : (a : Int) + (bs : Int) = (am : Int) := by omega
              obtain ⟨q1, q2, q3, q4⟩ := HCC.out
              have qc := q3 c (by simp)
              have qd := q3 d (by simp)
              have hc := symE g cap w N hN2 (c.length + d.length) C1.flatten c d (C2'.flatten ++ R) wr a am b (Nat.le_refl _) (by omega) (by omega) qc.2 qd.2 q1 (by omega) (by have := HB2.out; omega) (by
                have h1 := HLL.out
                simp only [List.length_cons] at h1
                have h2 : (C2'.length + 1 + 1) * bs = C2'.length * bs + bs + bs := by rw [Nat.add_mul, Nat.add_mul]; omega
                have h3 : ChkE bs C2' := fun x hx => q3 x (by simp [hx])
                rw [List.length_append, h3.len]
                omega) (by have := HR.out; simpa using this)
              have QC := Lib.hid (show c.length = bs ∧ d.length = bs from ⟨qc.1, qd.1⟩)
              have b1 : decide (b ≤ N) = true := by simp; omega
              have b3 : (b : Int) ≤ (N : Int) := by omega
              have HB := Lib.hid hb
              clear hb ham q1 q2 q3 q4 qc qd
              go_wp2_with fail
              refine hc.mono ?_
              rintro e w2 ⟨rfl, Z2, p2, s2, hr2⟩
              have HZ2 := Lib.hid (show _ ∧ _ ∧ _ from ⟨p2, s2, hr2⟩)
              clear p2 s2 hr2 hc
              go_wp2_with fail
              go_roundg (N - b)
              case measure => have := HB.out; have := HB2.out; omega
              case rel =>
                obtain ⟨p2, s2, hr2⟩ := HZ2.out
                obtain ⟨q1, q2, q3, q4⟩ := HCC.out
                obtain ⟨l1, l2⟩ := QC.out
                have hz : Z2.length = b2 := by rw [p2.length_eq, List.length_append]; have := HB2.out; omega
                refine ⟨b, b + b2, C1 ++ [Z2], C2', rfl, int_eq (by omega), rfl, hlt, Nat.le_refl _, ⟨?_, q2.snoc hz s2, fun x hx => q3 x (by simp [hx]), ?_⟩, ?_⟩
                · rw [List.flatten_append, List.length_append]; simp only [List.flatten_cons, List.flatten_nil, List.append_nil]; have := HB.out; omega
                · refine List.Perm.trans ?_ q4
                  simp only [List.flatten_append, List.flatten_cons, List.flatten_nil, List.append_nil, List.append_assoc]
                  refine List.Perm.append_left _ ?_
                  rw [← List.append_assoc c d]
                  exact p2.append_right _
                · simp only [List.flatten_append, List.flatten_cons, List.flatten_nil, List.append_nil, List.append_assoc]
                  exact hr2
            · have b1 : decide (b ≤ N) = false := by simp; omega
              have b3 : ¬ ((b : Int) ≤ (N : Int)) := by omega
              obtain ⟨am, ham⟩ : ∃ am, a + bs = am := ⟨_, rfl⟩
              have e4 : (a : Int) + (bs : Int) = (am : Int) := by omega
              have HAM := Lib.hid (show am = a + bs ∧ N < a + b2 ∧ b2 = 2 * bs from ⟨ham.symm, by omega, HB2.out.1⟩)
              have nxt : ∀ (R' : List (PX w g)) (wx : World), R'.length < b2 → Srt keyE R' → (C1.flatten ++ R').Perm D → Arr encX 3 50 w wx g cap (C1.flatten ++ R') → ∃ (bs : Nat) (C : List (List (PX w g))) (R : List (PX w g)), Value.int .i64 b2 = .int .i64 bs ∧ 0 < bs ∧ bs ≤ 2 * N + 20 ∧ N - bs ≤ G ∧ Hid (ChkE bs C ∧ Srt keyE R ∧ R.length < bs ∧ (C.flatten ++ R).Perm D) ∧ Hid (Arr encX 3 50 w wx g cap (C.flatten ++ R)) := fun R' wx q1 q2 q3 q4 =>
                ⟨b2, C1, R', rfl, by have := HB2.out; omega, by have := HB2.out; omega, Nat.le_of_eq HG.out.1, ⟨HCC.out.2.1, q2, q1, q3⟩, q4⟩
              have NX := Lib.hid nxt
              by_cases hm : am < N
              · obtain ⟨c, hC⟩ : ∃ c, C2 = [c] := by
                  have hl := HLL.out
                  have h2 := HAM.out
                  have h3 := HC.out.2.2.1
                  match C2, hl with
                  | [], hl => simp only [List.length_nil, Nat.zero_mul] at hl; omega
                  | [c], hl => exact ⟨c, rfl⟩
                  | c :: d :: C', hl =>
                    simp only [List.length_cons] at hl
                    have : (C'.length + 1 + 1) * bs = C'.length * bs + bs + bs := by rw [Nat.add_mul, Nat.add_mul]; omega
                    omega
                subst hC
                obtain ⟨q1, q2, q3, q4⟩ := HCC.out
                have qc := q3 c (by simp)
                have hl := HLL.out
                simp only [List.length_cons, List.length_nil, Nat.zero_add, Nat.one_mul] at hl
                have hc := symE g cap w N hN2 (c.length + R.length) C1.flatten c R [] wr a am N (Nat.le_refl _) (by omega) (by omega) qc.2 HC.out.2.1 q1 (by omega) (by omega) (by rw [List.length_nil]; omega) (by have := HR.out; simpa using this)
                have b4 : decide (am < N) = true := by simp; omega
                have b5 : (am : Int) < (N : Int) := by omega
                clear hb ham q1 q2 q3 q4 qc hl hm nxt hlt
                go_wp2_with fail
                refine hc.mono ?_
                rintro e w2 ⟨rfl, Z2, p2, s2, hr2⟩
                have HZ2 := Lib.hid (show _ ∧ _ ∧ _ from ⟨p2, s2, hr2⟩)
                clear p2 s2 hr2 hc
                go_wp2_with fail
                go_roundg G
                case measure => exact HG.out.2
                case rel =>
                  obtain ⟨p2, s2, hr2⟩ := HZ2.out
                  obtain ⟨q1, q2, q3, q4⟩ := HCC.out
                  refine NX.out Z2 _ ?_ s2 ?_ (by simpa using hr2)
                  · rw [p2.length_eq, List.length_append, (q3 c (by simp)).1]; have := HC.out.2.2.1; have := HAM.out; omega
                  · refine List.Perm.trans ?_ q4
                    simp only [List.flatten_cons, List.flatten_nil, List.append_nil]
                    exact List.Perm.append_left _ p2
              · have b4 : decide (am < N) = false := by simp; omega
                have b5 : ¬ ((am : Int) < (N : Int)) := by omega
                have HM := Lib.hid hm
                clear hb ham nxt
                go_wp2_with fail
                go_roundg G
                case measure => exact HG.out.2
                case rel =>
                  obtain ⟨q1, q2, q3, q4⟩ := HCC.out
                  have hl := HLL.out
                  have h2 := HAM.out
                  have h3 := HC.out.2.2.1
                  have h4 := HM.out
                  have hr := HR.out
                  match C2, hl, q3, q4, hr with
                  | [], hl, q3, q4, hr => exact NX.out R _ (by omega) HC.out.2.1 (by simpa using q4) (by simpa using hr)
                  | [c], hl, q3, q4, hr =>
                    simp only [List.length_cons, List.length_nil, Nat.zero_add, Nat.one_mul] at hl
                    have hR : R = [] := List.eq_nil_of_length_eq_zero (by omega)
                    rw [hR] at q4 hr
                    exact NX.out c _ (by have := (q3 c (by simp)).1; omega) (q3 c (by simp)).2 (by simpa using q4) (by simpa using hr)
                  | c :: d :: C', hl, _, _, _ =>
                    simp only [List.length_cons] at hl
                    have : (C'.length + 1 + 1) * bs = C'.length * bs + bs + bs := by rw [Nat.add_mul, Nat.add_mul]; omega
                    omega
        · have b1 : decide (bs < N) = false := by simp; omega
          have b2 : ¬ ((bs : Int) < (N : Int)) := by omega
          have HLT := Lib.hid hlt
          go_wp2_with fail
          go_end0
          obtain ⟨c1, c2, c3, c4⟩ := HC.out
          refine ⟨rfl, _, c4, ?_, HR.out⟩
          have hl := HL.out
          have hlt := HLT.out
          match C, c1, hl with
          | [], _, _ => simpa using c2
          | [c], c1, hl =>
            simp only [List.length_cons, List.length_nil, Nat.zero_add, Nat.one_mul] at hl
            have : R = [] := List.eq_nil_of_length_eq_zero (by omega)
            subst this
            simpa using (c1 c (by simp)).2
          | c :: d :: C, _, hl =>
            simp only [List.length_cons] at hl
            have : (C.length + 1 + 1) * bs = C.length * bs + bs + bs := by rw [Nat.add_mul, Nat.add_mul]; omega
            omega
end Go.Proofs.YthkeigljiinlbaaGreat

/- edge.Norm: what is asked ahead, the copy, the order; step.Norm as it is called. -/
namespace Go.Proofs.YthkeigljiinlbaaGreat
open Go.RowKit

/-- A row of one number. -/
def One (r : List Wd) : Prop := ∃ n : Int, r = [⟨1, n, []⟩]
theorem One.may {r : List Wd} (h : One r) : rowB r = true := by
  obtain ⟨n, rfl⟩ := h
  simp [rowB, valB]
theorem One.len {r : List Wd} (h : One r) : r.length = 1 := by
  obtain ⟨n, rfl⟩ := h
  rfl
/-- An edge that may be put in order here. -/
def OkN (x : Ed) : Prop := One x.r ∧ (-1 ≤ x.a ∧ x.a ≤ 1125899906842624) ∧ -1 ≤ x.n ∧ x.n ≤ 1

set_option maxRecDepth 100000 in
theorem norm1E_any (x : Ed) (B : Option Addr) (d : Nat) (w : World) (h : OkN x) (hs : Src encW 3 w (fun _ => False) B x.r) :
    Calls Tryz.prog 43 #[.agg #[.slice B x.r.length d, .int .i64 x.a, .int .i64 x.n]] w fun e w' => e = .returned (.bool false) ∧ Kept (fun _ => False) w w' := by
  obtain ⟨r, a, n⟩ := x
  obtain ⟨h1, h2, h3, h4⟩ := h
  simp only at h1 h2 h3 h4 hs ⊢
  have hmay := fun wx hx => rowMay_any r B d wx hx (by rw [h1.len]; unfold maxLen; omega)
  rw [h1.may] at hmay
  have b1 : decide (1048576 < n) = false := by simp; omega
  have b2 : decide (n < -1048576) = false := by simp; omega
  have b3 : ¬ (1048576 < n) := by omega
  have b4 : ¬ (n < -1048576) := by omega
  have k0 := (Kept.refl (fun _ => False) w).alloc (.cells #[.slice B r.length d, .int .i64 a, .int .i64 n] 50)
  have a0 := heap_alloc_new w (.cells #[.slice B r.length d, .int .i64 a, .int .i64 n] 50)
  have hs0 := hs.same k0
  clear h1 h2 h3 h4
  go_enter Tryz.func43, Tryz.ntmps43
  go_wp2_with fail
  refine (hmay _ hs0).mono ?_
  rintro e w1 ⟨rfl, k1⟩
  have c2 := cell_of_row _ _ 2 _ _ _ (k1.heap a0 (fun q => q))
  simp only [List.getElem?_toArray, List.getElem?_cons_zero, List.getElem?_cons_succ] at c2
  go_wp2_with fail
  go_ret
  exact ⟨rfl, k0.trans k1⟩
set_option maxRecDepth 100000 in
theorem norm2E_any (x : Ed) (B : Option Addr) (d : Nat) (w : World) (h : OkN x) :
    Calls Tryz.prog 44 #[.agg #[.slice B x.r.length d, .int .i64 x.a, .int .i64 x.n]] w fun e w' => e = .returned (.bool false) ∧ Kept (fun _ => False) w w' := by
  obtain ⟨r, a, n⟩ := x
  obtain ⟨h1, ⟨h2, h3⟩, h4, h5⟩ := h
  simp only at h1 h2 h3 ⊢
  have b1 : decide (a < -1) = false := by simp; omega
  have b2 : decide (1125899906842624 < a) = false := by simp; omega
  have b3 : ¬ (a < -1) := by omega
  have b4 : ¬ (1125899906842624 < a) := by omega
  go_enter Tryz.func44, Tryz.ntmps44
  go_wp2_with fail
  go_ret
  exact ⟨rfl, (Kept.refl _ w).alloc _⟩

set_option maxRecDepth 100000 in
theorem cloneE_any (L : List PE) (A : Option Addr) (c : Nat) (w : World) (hA : A = none → L = [] ∧ c = 0) (hs : Src encE 3 w (fun _ => False) A L) (hl : L.length ≤ 1048576) :
    Calls Tryz.prog 45 #[.slice A L.length c] w fun e w' => ∃ v, e = .returned v ∧ New encE 3 50 w w' v L := by
  cases A with
  | none =>
    obtain ⟨rfl, rfl⟩ := hA rfl
    have hnil : ∀ w, (binOp .eql 22 (.slice none 0 0) (.slice none 0 0)).run Tryz.prog w = .ok (.bool true) w := fun _ => rfl
    go_enter Tryz.func45, Tryz.ntmps45
    go_wp2_with fail
    go_ret
    exact ⟨_, rfl, Row.ofNil w, (fun j hj => by cases hj), Kept.refl _ w⟩
  | some a =>
    have hnil : ∀ w, (binOp .eql 22 (.slice (some a) L.length c) (.slice none 0 0)).run Tryz.prog w = .ok (.bool false) w := fun _ => rfl
    go_enter Tryz.func45, Tryz.ntmps45
    have hn0 := New.mkL encE_len w ([] : List PE) (by simp [maxLen]) (T := 50) #[] rfl 0 rfl
    go_wp2_with (at_builtin; refine wpList_ex rfl _ _ _ _ rfl rfl rfl (New.src (sz := 3) _ _ (.agg #[.slice none 0 0, .int .i64 0, .int .i64 0]) 40 Tryz.underlying22 (by kernel_rfl) rfl (by decide) encE_len encE_one hn0 (Kept.refl _ _) L _ _ hA (hs.same hn0.kept) (by simp only [List.length_nil, maxLen]; omega) (by simp only [List.length_nil]; omega)) ?_; rintro v' w2 ⟨A', c', rfl, hn2⟩)
    go_ret
    exact ⟨_, rfl, by simpa using hn2⟩

set_option maxHeartbeats 1000000 in
set_option maxRecDepth 100000 in
theorem stable0E (v : Value) (f : Value) (W : World) :
    Calls Tryz.prog 90 #[v, .int .i64 0, f] W fun e w' => e = .returned (.tuple #[]) ∧ w' = W := by
  have hi := fun wx => ins0E wx v 0 f (by omega)
  go_enter Tryz.func90, Tryz.ntmps90
  go_wp2_with fail
  go_loopg [7, 8] 0 (fun k av bv wr => av = .int .i64 0 ∧ bv = .int .i64 20 ∧ W = wr)
  case atStart => exact ⟨rfl, rfl, rfl⟩
  case round =>
    obtain ⟨rfl, rfl, rfl⟩ := hrel
    go_wp2_with fail
    refine (hi _).mono ?_
    rintro e w1 ⟨rfl, rfl⟩
    go_wp2_with fail
    go_loopg [6] 0 (fun k sv wr => sv = .int .i64 20 ∧ w1 = wr)
    case atStart => exact ⟨rfl, rfl⟩
    case round =>
      obtain ⟨rfl, rfl⟩ := hrel
      go_wp2_with fail
      go_end0
      exact ⟨rfl, rfl⟩

def keyP (p : PE) : Int := (p.2.r.headD ⟨0, 0, []⟩).n * 4503599627370496 + p.2.a
def PX.v {w : World} {g : Nat} (p : PX w g) : PE := p.1
def PX.mk {w : World} {g : Nat} (p : PE) (h : OkE w g p) : PX w g := ⟨p, h⟩
theorem cells_val {w : World} {g : Nat} (D : List (PX w g)) : cellsOf encX D = cellsOf encE (D.map PX.v) := by
  induction D with
  | nil => rfl
  | cons x D ih =>
    show encX x ++ cellsOf encX D = encE x.1 ++ cellsOf encE (D.map PX.v)
    rw [ih]
    rfl
theorem row_val {w W : World} {g : Nat} {T : TypeId} {v : Value} (D : List (PX w g)) : Row encX 3 T W v D ↔ Row encE 3 T W v (D.map PX.v) := by
  unfold Row
  rw [cells_val, List.length_map]
/-- Putting edges of rows of one number in order. -/
theorem sortE_any (M : List PE) (v : Value) (w0 w : World) (h : EdN w0 w v M) (hl : M.length ≤ 1048576) (hok : ∀ p ∈ M, OkN p.2) :
    Calls Tryz.prog 46 #[v, .func (.func 47) #[] #[]] w fun e w' => e = .returned (.tuple #[]) ∧ ∃ Z : List PE, Z.Perm M ∧ Srt keyP Z ∧ EdN w0 w' v Z ∧ Kept (fun j => v.ownBlock = some j) w w' := by
  have hr0 := h.row
  rcases hr0.2 with ⟨hv, hn⟩ | ⟨g, cap, cur, hv, _, hgc, _⟩
  · have hD : M = [] := List.eq_nil_of_length_eq_zero hn
    subst hv hD
    have hs := fun wx => stable0E (.slice none 0 0) (.func (.func 47) #[] #[]) wx
    go_enter Tryz.func46, Tryz.ntmps46
    go_wp2_with fail
    refine (hs _).mono ?_
    rintro e w1 ⟨rfl, rfl⟩
    go_wp2_with fail
    go_end0
    exact ⟨rfl, [], List.Perm.refl _, Srt.nil, h, Kept.refl _ _⟩
  · subst hv
    have hOk : ∀ p ∈ M, OkE w g p := fun p hp => by
      obtain ⟨hr, ho⟩ := h.rows p hp
      obtain ⟨hone, hat, _⟩ := hok p hp
      have hg : (slE p).ownBlock ≠ some g := hr.other hgc (by decide)
      obtain ⟨A, c, e, h1, h2, h3⟩ := hr.src encW_len (fun j => j = g) (fun j hj q => hg (by rw [hj, q]))
      have e' := e
      unfold slE at e'
      injection e' with e1 _ e3
      rw [hone.len] at h1
      exact ⟨hone, hat, by rw [e1]; exact h3, by omega, by omega⟩
    obtain ⟨D, hD⟩ : ∃ D : List (PX w g), D.map PX.v = M := ⟨M.attach.map (fun q => PX.mk q.1 (hOk q.1 q.2)), by rw [List.map_map]; exact List.attach_map_subtype_val M⟩
    have hDl : D.length = M.length := by rw [← hD, List.length_map]
    have hrw : Row encX 3 50 w (.slice (some ⟨g, 0, none⟩) D.length cap) D := by
      rw [row_val, hD, hDl]; exact h.row
    have hs := stableE_any g cap w D w M.length hDl.symm (by omega) (Arr.new hrw rfl)
    have hrow := h.row
    have HE := Lib.hid h
    have HD := Lib.hid hD
    go_enter Tryz.func46, Tryz.ntmps46
    go_wp2_with fail
    refine hs.mono ?_
    rintro e w1 ⟨rfl, Z, p1, s1, h1⟩
    go_wp2_with fail
    go_end0
    have hp : (Z.map PX.v).Perm M := by rw [← HD.out]; exact p1.map _
    have hk : Kept (fun j => (Value.slice (some ⟨g, 0, none⟩) M.length cap).ownBlock = some j) w w1 := h1.kept.mono (fun k _ q => by subst q; rfl)
    refine ⟨rfl, Z.map PX.v, hp, ?_, ⟨?_, HE.out.own, fun p hpm => ?_, HE.out.kept.trans' hk (fun _ _ q => q) (fun j hj q => absurd (HE.out.own j q) (by omega))⟩, hk⟩
    · unfold Srt at s1 ⊢
      rw [List.pairwise_map]
      exact s1
    · have h2 := h1.row
      rw [row_val] at h2
      have : Z.length = M.length := by rw [p1.length_eq, hDl]
      rw [this] at h2
      exact h2
    · obtain ⟨hr, ho⟩ := HE.out.rows p (hp.mem_iff.1 hpm)
      refine ⟨hr.kept hk (fun b hb q => ?_), ho⟩
      exact hr.other hgc (by decide) (by rw [hb, ← q]; rfl)

set_option maxRecDepth 100000 in
theorem norm4_any (L : List Jp) (A : Option Addr) (c : Nat) (w : World) (hA : A = none → L = [] ∧ c = 0) (hs : Src encJ 2 w (fun _ => False) A L) (hl : L.length ≤ 1000) (hb : ∀ x ∈ L, (-1 ≤ x.a ∧ x.a ≤ 1125899906842624) ∧ -1 ≤ x.n ∧ x.n ≤ 1) :
    Calls Tryz.prog 51 #[.slice A L.length c] w fun e w' => ∃ v R, e = .returned (.tuple #[v, .int .i64 0]) ∧ New encJ 2 80 w w' v R ∧ NormI L R := by
  have hst := fun wx hx => stepNorm_any L A c wx hA hx hl hb
  go_enter Tryz.func51, Tryz.ntmps51
  go_wp2_with fail
  refine (hst _ hs).mono ?_
  rintro e w1 ⟨v, R, rfl, hn, hI⟩
  go_wp2_with fail
  go_ret2
  exact ⟨v, R, rfl, hn, hI⟩
end Go.Proofs.YthkeigljiinlbaaGreat
