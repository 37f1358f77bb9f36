/- slices.SortStableFunc of jumps. -/
import Derived.Test.YthkeigljiinlbaaGreatM19
namespace Go.Proofs.YthkeigljiinlbaaGreat
open Go.RowKit

theorem flat_len {α : Type} {k : Nat} : ∀ {C : List (List α)}, (∀ c ∈ C, c.length = k) → C.flatten.length = C.length * k
  | [], _ => by simp
  | c :: C, h => by
    rw [List.flatten_cons, List.length_append, h c (List.mem_cons_self ..), flat_len (C := C) (fun d hd => h d (List.mem_cons_of_mem _ hd)), List.length_cons, Nat.add_mul]
    omega

set_option maxRecDepth 100000 in
theorem ins0J (W : World) (v : Value) (a : Nat) (f : Value) (ha : a ≤ 1048576) : Calls Tryz.prog 156 #[v, .int .i64 a, .int .i64 a, f] W fun e w' => e = .returned (.tuple #[]) ∧ w' = W := by
  go_enter Tryz.func156, Tryz.ntmps156
  have b1 : decide ((a : Int) + 1 < (a : Int)) = false := by simp; omega
  go_wp2_with fail
  go_loopg [8] 0 (fun k iv wr => iv = .int .i64 ((a : Int) + 1) ∧ W = wr)
  case atStart => exact ⟨rfl, rfl⟩
  case round =>
    obtain ⟨rfl, rfl⟩ := hrel
    go_wp2_with fail
    go_end0
    exact ⟨rfl, rfl⟩

/-- Chunks in order, and a shorter rest in order. -/
def Chk (bs : Nat) (C : List (List Jp)) : Prop := ∀ c ∈ C, c.length = bs ∧ Srt keyJ c
theorem Chk.len {bs : Nat} {C : List (List Jp)} (h : Chk bs C) : C.flatten.length = C.length * bs := flat_len (fun c hc => (h c hc).1)
theorem Chk.snoc {bs : Nat} {C : List (List Jp)} (h : Chk bs C) {Z : List Jp} (hl : Z.length = bs) (hs : Srt keyJ Z) : Chk bs (C ++ [Z]) := fun c hc => by
  rcases List.mem_append.1 hc with hc | hc
  · exact h c hc
  · rw [List.mem_singleton] at hc; subst hc; exact ⟨hl, hs⟩

set_option maxHeartbeats 4000000 in
set_option maxRecDepth 100000 in
theorem stableJ_any (g cap : Nat) (w : World) (D : List Jp) (W : World) (N : Nat) (hN : N = D.length) (hN2 : N ≤ 1048576) (h : Arr encJ 2 80 w W g cap D) :
    Calls Tryz.prog 137 #[.slice (some ⟨g, 0, none⟩) N cap, .int .i64 N, .func (.func 98) #[] #[]] W fun e w' => e = .returned (.tuple #[]) ∧ ∃ Z : List Jp, Z.Perm D ∧ Srt keyJ Z ∧ Arr encJ 2 80 w w' g cap Z := by
  have HN := Lib.hid hN
  have HH := Lib.hid h
  clear hN h
  go_enter Tryz.func137, Tryz.ntmps137
  go_wp2_with fail
  go_loopg [7, 8] N (fun k av bv wr => ∃ (a b : Nat) (C : List (List Jp)) (R : List Jp), av = .int .i64 a ∧ bv = .int .i64 b ∧ b = a + 20 ∧ a ≤ N ∧ N - a ≤ k ∧ Hid (a = C.flatten.length ∧ Chk 20 C ∧ (C.flatten ++ R).Perm D) ∧ Hid (Arr encJ 2 80 w wr g cap (C.flatten ++ R)))
  case atStart => exact ⟨0, 20, [], D, rfl, rfl, rfl, Nat.zero_le _, by omega, ⟨rfl, (fun c hc => by cases hc), List.Perm.refl _⟩, HH.out⟩
  case round =>
    obtain ⟨a, b, C, R, rfl, rfl, hb, haN, hk, HC, HR⟩ := hrel
    have HL : Hid (a + R.length = N) := by
      have h1 := HC.out.2.2.length_eq
      rw [List.length_append] at h1
      have := HC.out.1
      have := HN.out
      unfold Hid
      omega
    by_cases hlt : b ≤ N
    · obtain ⟨R1, R2, hR, hR1⟩ := part_at (X := R) (k := 20) (by have := HL.out; omega)
      obtain ⟨x0, X, rfl⟩ : ∃ x0 X, R1 = x0 :: X := by
        cases R1 with
        | nil => cases hR1
        | cons x X => exact ⟨x, X, rfl⟩
      have hc := insJ_any g cap w C.flatten x0 X R2 wr a b N HC.out.1 (by have := HC.out.1; rw [List.length_cons] at hR1; omega) (by
        have h1 := HL.out
        have h2 := HC.out.1
        have h3 := congrArg List.length hR
        simp only [List.length_append, List.length_cons] at h3 ⊢
        omega) hN2 (by have := HR.out; rw [hR] at this; simpa using this)
      have HRR := Lib.hid hR
      have HR1 := Lib.hid hR1
      have b1 : decide ((b : Int) ≤ (N : Int)) = true := by simp; omega
      have HB := Lib.hid hb
      clear hR hR1 hb
      go_wp2_with fail
      refine hc.mono ?_
      rintro e w1 ⟨rfl, Z, p1, s1, hr1⟩
      have HZ := Lib.hid (show _ ∧ _ ∧ _ from ⟨p1, s1, hr1⟩)
      clear p1 s1 hr1 hc
      go_wp2_with fail
      go_roundg (N - b)
      case measure => have := HB.out; omega
      case rel =>
        obtain ⟨p1, s1, hr1⟩ := HZ.out
        obtain ⟨c1, c2, c3⟩ := HC.out
        have hz : Z.length = 20 := by rw [p1.length_eq]; exact HR1.out
        refine ⟨b, b + 20, C ++ [Z], R2, rfl, int_eq (by omega), rfl, hlt, Nat.le_refl _, ⟨?_, c2.snoc hz s1, ?_⟩, ?_⟩
        · rw [List.flatten_append, List.length_append]; simp only [List.flatten_cons, List.flatten_nil, List.append_nil]; have := HB.out; omega
        · refine List.Perm.trans ?_ c3
          rw [HRR.out, List.flatten_append]
          simp only [List.flatten_cons, List.flatten_nil, List.append_nil, List.append_assoc]
          exact List.Perm.append_left _ (p1.append_right R2)
        · rw [List.flatten_append]
          simp only [List.flatten_cons, List.flatten_nil, List.append_nil, List.append_assoc]
          exact hr1
    · have hins : Calls Tryz.prog 156 #[.slice (some ⟨g, 0, none⟩) N cap, .int .i64 a, .int .i64 N, .func (.func 98) #[] #[]] wr fun e w' => e = .returned (.tuple #[]) ∧ ∃ Z : List Jp, Z.Perm R ∧ Srt keyJ Z ∧ Arr encJ 2 80 w w' g cap (C.flatten ++ Z) := by
        cases R with
        | nil =>
          have e : N = a := by have := HL.out; simp at this; omega
          rw [e]
          refine (ins0J wr _ a _ (by omega)).mono ?_
          rintro e w' ⟨he, rfl⟩
          exact ⟨he, [], List.Perm.refl _, Srt.nil, HR.out⟩
        | cons x0 X =>
          have hl := HL.out
          rw [List.length_cons] at hl
          have hr := HR.out
          rw [← List.append_nil (x0 :: X)] at hr
          refine (insJ_any g cap w C.flatten x0 X [] wr a N N HC.out.1 (by have := HC.out.1; omega) (by have := HC.out.1; simp only [List.length_append, List.length_cons, List.length_nil]; omega) hN2 hr).mono ?_
          rintro e w' ⟨he, Z, p1, s1, hr1⟩
          exact ⟨he, Z, p1, s1, by simpa using hr1⟩
      have b1 : decide (b ≤ N) = false := by simp; omega
      have b2 : ¬ ((b : Int) ≤ (N : Int)) := by omega
      have HB := Lib.hid (show b = a + 20 ∧ N < b from ⟨hb, by omega⟩)
      clear hb
      go_wp2_with fail
      refine hins.mono ?_
      rintro e w1 ⟨rfl, Z, p1, s1, hr1⟩
      have HZ := Lib.hid (show _ ∧ _ ∧ _ from ⟨p1, s1, hr1⟩)
      clear p1 s1 hr1 hins
      go_wp2_with fail
      go_loopg [6, 7, 8, 9] N (fun k sv av bv mv wr => ∃ (bs : Nat) (C : List (List Jp)) (R : List Jp), sv = .int .i64 bs ∧ 0 < bs ∧ bs ≤ 2 * N + 20 ∧ N - bs ≤ k ∧ Hid (Chk bs C ∧ Srt keyJ R ∧ R.length < bs ∧ (C.flatten ++ R).Perm D) ∧ Hid (Arr encJ 2 80 w wr g cap (C.flatten ++ R)))
      case atStart =>
        obtain ⟨p1, s1, hr1⟩ := HZ.out
        obtain ⟨c1, c2, c3⟩ := HC.out
        exact ⟨20, C, Z, rfl, by omega, by omega, by omega, ⟨c2, s1, by rw [p1.length_eq]; have := HL.out; have := HB.out; omega, (List.Perm.append_left _ p1).trans c3⟩, hr1⟩
      case round =>
        clear HC HR HZ HB HL
        obtain ⟨bs, C, R, rfl, hbs, hbs2, hk, HC, HR⟩ := hrel
        have HL : Hid (C.length * bs + R.length = N) := by
          obtain ⟨c1, _, _, c4⟩ := HC.out
          have h1 := c4.length_eq
          rw [List.length_append, c1.len] at h1
          have := HN.out
          unfold Hid
          omega
        by_cases hlt : bs < N
        · obtain ⟨b2, hb2⟩ : ∃ b2, b2 = 2 * bs := ⟨_, rfl⟩
          have e2 : (2 : Int) * (bs : Int) = (b2 : Int) := by omega
          have e3 : (bs : Int) * 2 = (b2 : Int) := by omega
          have HB2 := Lib.hid (show b2 = 2 * bs ∧ bs < N from ⟨hb2, hlt⟩)
          obtain ⟨G, HG⟩ : ∃ G, Hid (N - b2 = G ∧ G < gk) := ⟨_, rfl, by omega⟩
          have hbb : b2 ≤ 2097192 := by omega
          have b1 : decide (bs < N) = true := by simp; omega
          clear hb2
          go_wp2_with fail
          clear b1 hlt
          go_loopg [7, 8] N (fun k av bv wr => ∃ (a b : Nat) (C1 C2 : List (List Jp)), av = .int .i64 a ∧ bv = .int .i64 b ∧ b = a + b2 ∧ a ≤ N ∧ N - a ≤ k ∧ Hid (a = C1.flatten.length ∧ Chk b2 C1 ∧ Chk bs C2 ∧ (C1.flatten ++ (C2.flatten ++ R)).Perm D) ∧ Hid (Arr encJ 2 80 w wr g cap (C1.flatten ++ (C2.flatten ++ R))))
          case atStart =>
            obtain ⟨c1, _, _, c4⟩ := HC.out
            exact ⟨0, b2, [], C, rfl, rfl, by omega, Nat.zero_le _, by omega, ⟨rfl, (fun c hc => by cases hc), c1, c4⟩, HR.out⟩
          case round =>
            clear HR
            obtain ⟨a, b, C1, C2, rfl, rfl, hb, haN, hk2, HCC, HR⟩ := hrel
            have HLL : Hid (a + C2.length * bs + R.length = N) := by
              obtain ⟨q1, _, q3, q4⟩ := HCC.out
              have h1 := q4.length_eq
              rw [List.length_append, List.length_append, q3.len] at h1
              have := HN.out
              unfold Hid
              omega
            by_cases hlt : b ≤ N
            · obtain ⟨c, d, C2', hC⟩ : ∃ c d C', C2 = c :: d :: C' := by
                have hl := HLL.out
                have h2 := HB2.out
                have h3 := HC.out.2.2.1
                match C2, hl with
                | [], hl => simp only [List.length_nil, Nat.zero_mul] at hl; omega
                | [c], hl => simp only [List.length_cons, List.length_nil, Nat.zero_add, Nat.one_mul] at hl; omega
                | c :: d :: C', _ => exact ⟨c, d, C', rfl⟩
              subst hC
              obtain ⟨am, ham⟩ : ∃ am, a + bs = am := ⟨_, rfl⟩
              have e4 : (a : Int) + (bs : Int) = (am : Int) := by omega
              obtain ⟨q1, q2, q3, q4⟩ := HCC.out
              have qc := q3 c (by simp)
              have qd := q3 d (by simp)
              have hc := symJ g cap w N hN2 (c.length + d.length) C1.flatten c d (C2'.flatten ++ R) wr a am b (Nat.le_refl _) (by omega) (by omega) qc.2 qd.2 q1 (by omega) (by have := HB2.out; omega) (by
                have h1 := HLL.out
                simp only [List.length_cons] at h1
                have h2 : (C2'.length + 1 + 1) * bs = C2'.length * bs + bs + bs := by rw [Nat.add_mul, Nat.add_mul]; omega
                have h3 : Chk bs C2' := fun x hx => q3 x (by simp [hx])
                rw [List.length_append, h3.len]
                omega) (by have := HR.out; simpa using this)
              have QC := Lib.hid (show c.length = bs ∧ d.length = bs from ⟨qc.1, qd.1⟩)
              have b1 : decide (b ≤ N) = true := by simp; omega
              have b3 : (b : Int) ≤ (N : Int) := by omega
              have HB := Lib.hid hb
              clear hb ham q1 q2 q3 q4 qc qd
              go_wp2_with fail
              refine hc.mono ?_
              rintro e w2 ⟨rfl, Z2, p2, s2, hr2⟩
              have HZ2 := Lib.hid (show _ ∧ _ ∧ _ from ⟨p2, s2, hr2⟩)
              clear p2 s2 hr2 hc
              go_wp2_with fail
              go_roundg (N - b)
              case measure => have := HB.out; have := HB2.out; omega
              case rel =>
                obtain ⟨p2, s2, hr2⟩ := HZ2.out
                obtain ⟨q1, q2, q3, q4⟩ := HCC.out
                obtain ⟨l1, l2⟩ := QC.out
                have hz : Z2.length = b2 := by rw [p2.length_eq, List.length_append]; have := HB2.out; omega
                refine ⟨b, b + b2, C1 ++ [Z2], C2', rfl, int_eq (by omega), rfl, hlt, Nat.le_refl _, ⟨?_, q2.snoc hz s2, fun x hx => q3 x (by simp [hx]), ?_⟩, ?_⟩
                · rw [List.flatten_append, List.length_append]; simp only [List.flatten_cons, List.flatten_nil, List.append_nil]; have := HB.out; omega
                · refine List.Perm.trans ?_ q4
                  simp only [List.flatten_append, List.flatten_cons, List.flatten_nil, List.append_nil, List.append_assoc]
                  refine List.Perm.append_left _ ?_
                  rw [← List.append_assoc c d]
                  exact p2.append_right _
                · simp only [List.flatten_append, List.flatten_cons, List.flatten_nil, List.append_nil, List.append_assoc]
                  exact hr2
            · have b1 : decide (b ≤ N) = false := by simp; omega
              have b3 : ¬ ((b : Int) ≤ (N : Int)) := by omega
              obtain ⟨am, ham⟩ : ∃ am, a + bs = am := ⟨_, rfl⟩
              have e4 : (a : Int) + (bs : Int) = (am : Int) := by omega
              have HAM := Lib.hid (show am = a + bs ∧ N < a + b2 ∧ b2 = 2 * bs from ⟨ham.symm, by omega, HB2.out.1⟩)
              have nxt : ∀ (R' : List Jp) (wx : World), R'.length < b2 → Srt keyJ R' → (C1.flatten ++ R').Perm D → Arr encJ 2 80 w wx g cap (C1.flatten ++ R') → ∃ (bs : Nat) (C : List (List Jp)) (R : List Jp), Value.int .i64 b2 = .int .i64 bs ∧ 0 < bs ∧ bs ≤ 2 * N + 20 ∧ N - bs ≤ G ∧ Hid (Chk bs C ∧ Srt keyJ R ∧ R.length < bs ∧ (C.flatten ++ R).Perm D) ∧ Hid (Arr encJ 2 80 w wx g cap (C.flatten ++ R)) := fun R' wx q1 q2 q3 q4 =>
                ⟨b2, C1, R', rfl, by have := HB2.out; omega, by have := HB2.out; omega, Nat.le_of_eq HG.out.1, ⟨HCC.out.2.1, q2, q1, q3⟩, q4⟩
              have NX := Lib.hid nxt
              by_cases hm : am < N
              · obtain ⟨c, hC⟩ : ∃ c, C2 = [c] := by
                  have hl := HLL.out
                  have h2 := HAM.out
                  have h3 := HC.out.2.2.1
                  match C2, hl with
                  | [], hl => simp only [List.length_nil, Nat.zero_mul] at hl; omega
                  | [c], hl => exact ⟨c, rfl⟩
                  | c :: d :: C', hl =>
                    simp only [List.length_cons] at hl
                    have : (C'.length + 1 + 1) * bs = C'.length * bs + bs + bs := by rw [Nat.add_mul, Nat.add_mul]; omega
                    omega
                subst hC
                obtain ⟨q1, q2, q3, q4⟩ := HCC.out
                have qc := q3 c (by simp)
                have hl := HLL.out
                simp only [List.length_cons, List.length_nil, Nat.zero_add, Nat.one_mul] at hl
                have hc := symJ g cap w N hN2 (c.length + R.length) C1.flatten c R [] wr a am N (Nat.le_refl _) (by omega) (by omega) qc.2 HC.out.2.1 q1 (by omega) (by omega) (by rw [List.length_nil]; omega) (by have := HR.out; simpa using this)
                have b4 : decide (am < N) = true := by simp; omega
                have b5 : (am : Int) < (N : Int) := by omega
                clear hb ham q1 q2 q3 q4 qc hl hm nxt hlt
                go_wp2_with fail
                refine hc.mono ?_
                rintro e w2 ⟨rfl, Z2, p2, s2, hr2⟩
                have HZ2 := Lib.hid (show _ ∧ _ ∧ _ from ⟨p2, s2, hr2⟩)
                clear p2 s2 hr2 hc
                go_wp2_with fail
                go_roundg G
                case measure => exact HG.out.2
                case rel =>
                  obtain ⟨p2, s2, hr2⟩ := HZ2.out
                  obtain ⟨q1, q2, q3, q4⟩ := HCC.out
                  refine NX.out Z2 _ ?_ s2 ?_ (by simpa using hr2)
                  · rw [p2.length_eq, List.length_append, (q3 c (by simp)).1]; have := HC.out.2.2.1; have := HAM.out; omega
                  · refine List.Perm.trans ?_ q4
                    simp only [List.flatten_cons, List.flatten_nil, List.append_nil]
                    exact List.Perm.append_left _ p2
              · have b4 : decide (am < N) = false := by simp; omega
                have b5 : ¬ ((am : Int) < (N : Int)) := by omega
                have HM := Lib.hid hm
                clear hb ham nxt
                go_wp2_with fail
                go_roundg G
                case measure => exact HG.out.2
                case rel =>
                  obtain ⟨q1, q2, q3, q4⟩ := HCC.out
                  have hl := HLL.out
                  have h2 := HAM.out
                  have h3 := HC.out.2.2.1
                  have h4 := HM.out
                  have hr := HR.out
                  match C2, hl, q3, q4, hr with
                  | [], hl, q3, q4, hr => exact NX.out R _ (by omega) HC.out.2.1 (by simpa using q4) (by simpa using hr)
                  | [c], hl, q3, q4, hr =>
                    simp only [List.length_cons, List.length_nil, Nat.zero_add, Nat.one_mul] at hl
                    have hR : R = [] := List.eq_nil_of_length_eq_zero (by omega)
                    rw [hR] at q4 hr
                    exact NX.out c _ (by have := (q3 c (by simp)).1; omega) (q3 c (by simp)).2 (by simpa using q4) (by simpa using hr)
                  | c :: d :: C', hl, _, _, _ =>
                    simp only [List.length_cons] at hl
                    have : (C'.length + 1 + 1) * bs = C'.length * bs + bs + bs := by rw [Nat.add_mul, Nat.add_mul]; omega
                    omega
        · have b1 : decide (bs < N) = false := by simp; omega
          have b2 : ¬ ((bs : Int) < (N : Int)) := by omega
          have HLT := Lib.hid hlt
          go_wp2_with fail
          go_end0
          obtain ⟨c1, c2, c3, c4⟩ := HC.out
          refine ⟨rfl, _, c4, ?_, HR.out⟩
          have hl := HL.out
          have hlt := HLT.out
          match C, c1, hl with
          | [], _, _ => simpa using c2
          | [c], c1, hl =>
            simp only [List.length_cons, List.length_nil, Nat.zero_add, Nat.one_mul] at hl
            have : R = [] := List.eq_nil_of_length_eq_zero (by omega)
            subst this
            simpa using (c1 c (by simp)).2
          | c :: d :: C, _, hl =>
            simp only [List.length_cons] at hl
            have : (C.length + 1 + 1) * bs = C.length * bs + bs + bs := by rw [Nat.add_mul, Nat.add_mul]; omega
            omega
end Go.Proofs.YthkeigljiinlbaaGreat

/- IndexFunc and ContainsFunc at jumps and at edges. -/
namespace Go.Proofs.YthkeigljiinlbaaGreat
open Go.RowKit

def aggJ (x : Jp) : Value := .agg #[.int .i64 x.a, .int .i64 x.n]
set_option maxHeartbeats 1000000 in
set_option maxRecDepth 100000 in
theorem idxJ_any (L : List Jp) (A : Option Addr) (c : Nat) (w : World) (g : Nat) (lb : Array Value) (p : Nat → Jp → Bool) (J : Nat → World → Prop) (hl : L.length ≤ maxLen)
    (eg : ∀ args w, (callFunc g args).run Tryz.prog w = .ok (.enter g args) w) (hs : ∀ n W, J n W → Src encJ 2 W (fun _ => False) A L)
    (hf : ∀ n x W, J n W → L[n]? = some x → Calls Tryz.prog g (#[aggJ x] ++ lb) W fun e W' => e = .returned (.bool (p n x)) ∧ J (n + 1) W') (h0 : J 0 w) :
    Calls Tryz.prog 136 #[.slice A L.length c, .func (.func g) #[] lb] w fun e w' => ∃ n, e = .returned (.int .i64 (findI p L 0)) ∧ J n w' := by
  unfold maxLen at hl
  generalize hR0 : findI p L 0 = R
  go_enter Tryz.func136, Tryz.ntmps136
  go_wp2_with fail
  go_loopg [8] L.length (fun k iv wr => ∃ n : Nat, n + k = L.length ∧ iv = .int .i64 n ∧ findI p (L.drop n) n = R ∧ J n wr)
  case atStart => exact ⟨0, by omega, rfl, hR0, h0⟩
  case round =>
    obtain ⟨n, hk, rfl, hsf, hj⟩ := hrel
    clear hR0
    by_cases hlt : n < L.length
    · obtain ⟨o, ho⟩ : ∃ o, L[n]? = some o := ⟨L[n], List.getElem?_eq_getElem hlt⟩
      have hdr : L.drop n = o :: L.drop (n + 1) := by
        rw [List.drop_eq_getElem_cons hlt]
        congr 1
        rw [List.getElem?_eq_getElem hlt] at ho
        injection ho
      rw [hdr, findI] at hsf
      obtain ⟨b, off, hA, _, x0, x1⟩ := (hs n wr hj).cells2 ho
      subst hA
      have hfx := hf n o wr hj ho
      unfold aggJ at hfx
      clear hdr ho hs hf hj
      cases hp : p n o with
      | true =>
        rw [hp] at hfx hsf
        rw [if_pos rfl] at hsf
        subst hsf
        clear hp
        go_wp2_with fail
        refine hfx.mono ?_
        rintro e w' ⟨rfl, hj'⟩
        go_wp2_with fail
        go_ret
        exact ⟨_, rfl, hj'⟩
      | false =>
        rw [hp] at hfx hsf
        rw [if_neg (by simp)] at hsf
        have hsf' : Hid (findI p (L.drop (n + 1)) (n + 1) = R) := hsf
        clear hp hsf
        go_wp2_with fail
        refine hfx.mono ?_
        rintro e w' ⟨rfl, hj'⟩
        go_wp2_with fail
        go_roundg (gk - 1)
        case measure => omega
        case rel => exact ⟨n + 1, by omega, int_eq (by omega), hsf', hj'⟩
    · have e : n = L.length := by omega
      subst e
      rw [List.drop_length, findI] at hsf
      subst hsf
      clear hs hf
      go_wp2_with fail
      go_ret
      exact ⟨_, rfl, hj⟩
theorem contJ_any (L : List Jp) (A : Option Addr) (c : Nat) (w : World) (g : Nat) (lb : Array Value) (p : Nat → Jp → Bool) (J : Nat → World → Prop) (hl : L.length ≤ maxLen)
    (eg : ∀ args w, (callFunc g args).run Tryz.prog w = .ok (.enter g args) w) (hs : ∀ n W, J n W → Src encJ 2 W (fun _ => False) A L)
    (hf : ∀ n x W, J n W → L[n]? = some x → Calls Tryz.prog g (#[aggJ x] ++ lb) W fun e W' => e = .returned (.bool (p n x)) ∧ J (n + 1) W') (h0 : J 0 w) :
    Calls Tryz.prog 93 #[.slice A L.length c, .func (.func g) #[] lb] w fun e w' => ∃ n, e = .returned (.bool (decide (0 ≤ findI p L 0))) ∧ J n w' := by
  have hi := idxJ_any L A c w g lb p J hl eg hs hf h0
  have hb := findI_bd p L 0
  generalize findI p L 0 = R at *
  clear hs hf h0 eg
  go_enter Tryz.func93, Tryz.ntmps93
  go_wp2_with fail
  refine hi.mono ?_
  rintro e w' ⟨n, rfl, hj⟩
  go_wp2_with fail
  go_ret
  exact ⟨_, rfl, hj⟩

set_option maxHeartbeats 1000000 in
set_option maxRecDepth 100000 in
theorem idxE_any (L : List Ed) (A : Option Addr) (c : Nat) (w : World) (g : Nat) (lb : Array Value) (p : Nat → Ed → Bool) (J : Nat → World → Prop) (hl : L.length ≤ maxLen)
    (eg : ∀ args w, (callFunc g args).run Tryz.prog w = .ok (.enter g args) w) (hs : ∀ n W, J n W → EdS W (fun _ => False) A L)
    (hf : ∀ n x W B d, J n W → L[n]? = some x → (B = none → x.r = [] ∧ d = 0) → Src encW 3 W (fun _ => False) B x.r → x.r.length ≤ 1048576 → Calls Tryz.prog g (#[.agg #[.slice B x.r.length d, .int .i64 x.a, .int .i64 x.n]] ++ lb) W fun e W' => e = .returned (.bool (p n x)) ∧ J (n + 1) W') (h0 : J 0 w) :
    Calls Tryz.prog 72 #[.slice A L.length c, .func (.func g) #[] lb] w fun e w' => ∃ n, e = .returned (.int .i64 (findI p L 0)) ∧ J n w' := by
  unfold maxLen at hl
  generalize hR0 : findI p L 0 = R
  go_enter Tryz.func72, Tryz.ntmps72
  go_wp2_with fail
  go_loopg [8] L.length (fun k iv wr => ∃ n : Nat, n + k = L.length ∧ iv = .int .i64 n ∧ findI p (L.drop n) n = R ∧ J n wr)
  case atStart => exact ⟨0, by omega, rfl, hR0, h0⟩
  case round =>
    obtain ⟨n, hk, rfl, hsf, hj⟩ := hrel
    clear hR0
    by_cases hlt : n < L.length
    · obtain ⟨o, ho⟩ : ∃ o, L[n]? = some o := ⟨L[n], List.getElem?_eq_getElem hlt⟩
      have hdr : L.drop n = o :: L.drop (n + 1) := by
        rw [List.drop_eq_getElem_cons hlt]
        congr 1
        rw [List.getElem?_eq_getElem hlt] at ho
        injection ho
      rw [hdr, findI] at hsf
      obtain ⟨b, off, B, d, hA, _, x0, x1, x2, hB, hsr, hrl⟩ := hs n wr hj n o ho
      subst hA
      have hfx := hf n o wr B d hj ho hB hsr hrl
      clear hB hsr hrl hdr ho hs hf hj
      cases hp : p n o with
      | true =>
        rw [hp] at hfx hsf
        rw [if_pos rfl] at hsf
        subst hsf
        clear hp
        go_wp2_with fail
        refine hfx.mono ?_
        rintro e w' ⟨rfl, hj'⟩
        go_wp2_with fail
        go_ret
        exact ⟨_, rfl, hj'⟩
      | false =>
        rw [hp] at hfx hsf
        rw [if_neg (by simp)] at hsf
        have hsf' : Hid (findI p (L.drop (n + 1)) (n + 1) = R) := hsf
        clear hp hsf
        go_wp2_with fail
        refine hfx.mono ?_
        rintro e w' ⟨rfl, hj'⟩
        go_wp2_with fail
        go_roundg (gk - 1)
        case measure => omega
        case rel => exact ⟨n + 1, by omega, int_eq (by omega), hsf', hj'⟩
    · have e : n = L.length := by omega
      subst e
      rw [List.drop_length, findI] at hsf
      subst hsf
      clear hs hf
      go_wp2_with fail
      go_ret
      exact ⟨_, rfl, hj⟩
theorem contE_any (L : List Ed) (A : Option Addr) (c : Nat) (w : World) (g : Nat) (lb : Array Value) (p : Nat → Ed → Bool) (J : Nat → World → Prop) (hl : L.length ≤ maxLen)
    (eg : ∀ args w, (callFunc g args).run Tryz.prog w = .ok (.enter g args) w) (hs : ∀ n W, J n W → EdS W (fun _ => False) A L)
    (hf : ∀ n x W B d, J n W → L[n]? = some x → (B = none → x.r = [] ∧ d = 0) → Src encW 3 W (fun _ => False) B x.r → x.r.length ≤ 1048576 → Calls Tryz.prog g (#[.agg #[.slice B x.r.length d, .int .i64 x.a, .int .i64 x.n]] ++ lb) W fun e W' => e = .returned (.bool (p n x)) ∧ J (n + 1) W') (h0 : J 0 w) :
    Calls Tryz.prog 32 #[.slice A L.length c, .func (.func g) #[] lb] w fun e w' => ∃ n, e = .returned (.bool (decide (0 ≤ findI p L 0))) ∧ J n w' := by
  have hi := idxE_any L A c w g lb p J hl eg hs hf h0
  have hb := findI_bd p L 0
  generalize findI p L 0 = R at *
  clear hs hf h0 eg
  go_enter Tryz.func32, Tryz.ntmps32
  go_wp2_with fail
  refine hi.mono ?_
  rintro e w' ⟨n, rfl, hj⟩
  go_wp2_with fail
  go_ret
  exact ⟨_, rfl, hj⟩

end Go.Proofs.YthkeigljiinlbaaGreat

/- step.Norm: what is asked ahead, the copy, the order. -/
namespace Go.Proofs.YthkeigljiinlbaaGreat
open Go.RowKit

def farB (a : Int) : Bool := decide (a < -1) || decide (1125899906842624 < a)
set_option maxRecDepth 100000 in
theorem norm1J_any (x : Jp) (w : World) : Calls Tryz.prog 94 #[aggJ x] w fun e w' => e = .returned (.bool (!fairB x.n)) ∧ Kept (fun _ => False) w w' := by
  have hf := fun wx => fair_any x.n wx
  generalize fairB x.n = b at *
  unfold aggJ
  go_enter Tryz.func94, Tryz.ntmps94
  go_wp2_with fail
  refine (hf _).mono ?_
  rintro e w1 ⟨rfl, rfl⟩
  go_wp2_with fail
  go_ret
  exact ⟨rfl, (Kept.refl _ w).alloc _⟩
set_option maxRecDepth 100000 in
theorem norm2J_any (x : Jp) (w : World) (h : -1 ≤ x.a) (h2 : x.a ≤ 1125899906842624) : Calls Tryz.prog 95 #[aggJ x] w fun e w' => e = .returned (.bool false) ∧ Kept (fun _ => False) w w' := by
  have b1 : decide (x.a < -1) = false := by simp; omega
  have b2 : decide (1125899906842624 < x.a) = false := by simp; omega
  have b3 : ¬ (x.a < -1) := by omega
  have b4 : ¬ (1125899906842624 < x.a) := by omega
  unfold aggJ
  go_enter Tryz.func95, Tryz.ntmps95
  go_wp2_with fail
  go_ret
  exact ⟨rfl, (Kept.refl _ w).alloc _⟩

set_option maxRecDepth 100000 in
theorem cloneJ_any (L : List Jp) (A : Option Addr) (c : Nat) (w : World) (hA : A = none → L = [] ∧ c = 0) (hs : Src encJ 2 w (fun _ => False) A L) (hl : L.length ≤ 1048576) :
    Calls Tryz.prog 96 #[.slice A L.length c] w fun e w' => ∃ v, e = .returned v ∧ New encJ 2 80 w w' v L := by
  cases A with
  | none =>
    obtain ⟨rfl, rfl⟩ := hA rfl
    have hnil : ∀ w, (binOp .eql 52 (.slice none 0 0) (.slice none 0 0)).run Tryz.prog w = .ok (.bool true) w := fun _ => rfl
    go_enter Tryz.func96, Tryz.ntmps96
    go_wp2_with fail
    go_ret
    exact ⟨_, rfl, Row.ofNil w, (fun j hj => by cases hj), Kept.refl _ w⟩
  | some a =>
    have hnil : ∀ w, (binOp .eql 52 (.slice (some a) L.length c) (.slice none 0 0)).run Tryz.prog w = .ok (.bool false) w := fun _ => rfl
    go_enter Tryz.func96, Tryz.ntmps96
    have hn0 := New.mkL encJ_len w ([] : List Jp) (by simp [maxLen]) (T := 80) #[] rfl 0 rfl
    go_wp2_with (at_builtin; refine wpList_ex rfl _ _ _ _ rfl rfl rfl (New.src (sz := 2) _ _ (.agg #[.int .i64 0, .int .i64 0]) 16 Tryz.underlying52 (by kernel_rfl) rfl (by decide) encJ_len encJ_one hn0 (Kept.refl _ _) L _ _ hA (hs.same hn0.kept) (by simp only [List.length_nil, maxLen]; omega) (by simp only [List.length_nil]; omega)) ?_; rintro v' w2 ⟨A', c', rfl, hn2⟩)
    go_ret
    exact ⟨_, rfl, by simpa using hn2⟩

set_option maxHeartbeats 1000000 in
set_option maxRecDepth 100000 in
theorem stable0J (v : Value) (f : Value) (W : World) :
    Calls Tryz.prog 137 #[v, .int .i64 0, f] W fun e w' => e = .returned (.tuple #[]) ∧ w' = W := by
  have hi := fun wx => ins0J wx v 0 f (by omega)
  go_enter Tryz.func137, Tryz.ntmps137
  go_wp2_with fail
  go_loopg [7, 8] 0 (fun k av bv wr => av = .int .i64 0 ∧ bv = .int .i64 20 ∧ W = wr)
  case atStart => exact ⟨rfl, rfl, rfl⟩
  case round =>
    obtain ⟨rfl, rfl, rfl⟩ := hrel
    go_wp2_with fail
    refine (hi _).mono ?_
    rintro e w1 ⟨rfl, rfl⟩
    go_wp2_with fail
    go_loopg [6] 0 (fun k sv wr => sv = .int .i64 20 ∧ w1 = wr)
    case atStart => exact ⟨rfl, rfl⟩
    case round =>
      obtain ⟨rfl, rfl⟩ := hrel
      go_wp2_with fail
      go_end0
      exact ⟨rfl, rfl⟩
/-- Putting jumps in order. -/
theorem sortJ_any (D : List Jp) (v : Value) (w : World) (hr : Row encJ 2 80 w v D) (hl : D.length ≤ 1048576) :
    Calls Tryz.prog 97 #[v, .func (.func 98) #[] #[]] w fun e w' => e = .returned (.tuple #[]) ∧ ∃ Z : List Jp, Z.Perm D ∧ Srt keyJ Z ∧ Row encJ 2 80 w' v Z ∧ Kept (fun j => v.ownBlock = some j) w w' := by
  have hr0 := hr
  rcases hr0.2 with ⟨hv, hn⟩ | ⟨g, cap, cur, hv, _⟩
  · have hD : D = [] := List.eq_nil_of_length_eq_zero hn
    subst hv hD
    have hs := fun wx => stable0J (.slice none 0 0) (.func (.func 98) #[] #[]) wx
    go_enter Tryz.func97, Tryz.ntmps97
    go_wp2_with fail
    refine (hs _).mono ?_
    rintro e w1 ⟨rfl, rfl⟩
    go_wp2_with fail
    go_end0
    exact ⟨rfl, [], List.Perm.refl _, Srt.nil, hr, Kept.refl _ _⟩
  · subst hv
    have hs := stableJ_any g cap w D w D.length rfl hl (Arr.new hr rfl)
    go_enter Tryz.func97, Tryz.ntmps97
    go_wp2_with fail
    refine hs.mono ?_
    rintro e w1 ⟨rfl, Z, p1, s1, h1⟩
    go_wp2_with fail
    go_end0
    exact ⟨rfl, Z, p1, s1, by have := h1.row; rw [p1.length_eq] at this; exact this, h1.kept.mono (fun k _ q => by subst q; rfl)⟩
end Go.Proofs.YthkeigljiinlbaaGreat
