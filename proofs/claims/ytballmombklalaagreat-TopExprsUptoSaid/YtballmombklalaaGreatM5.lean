/- Small functions on texts: pick, code, Name. -/
import Derived.Test.YtballmombklalaaGreatM3
import Derived.Test.YtballmombklalaaGreatM4
namespace Go.Proofs.YtballmombklalaaGreat
open Go.RowKit

def pickI (s t : List UInt8) (n : Int) : Int := if s = t then n else 0
theorem pickI_bd (s t : List UInt8) {n : Int} (h : 0 ≤ n) : 0 ≤ pickI s t n ∧ pickI s t n ≤ n := by unfold pickI; split <;> omega
theorem pick_any (s t : List UInt8) (n : Int) (w : World) : Calls Tryz.prog 131 #[.string ⟨⟨s⟩⟩, .string ⟨⟨t⟩⟩, .int .i64 n] w fun e w' => e = .returned (.int .i64 (pickI s t n)) ∧ w' = w := by
  go_enter Tryz.func131, Tryz.ntmps131
  go_wp2
  all_goals go_ret
  all_goals refine ⟨ret_int ?_, rfl⟩
  all_goals simp_all [pickI]

/-- A word's code between two things, at a level. -/
def codeI (level : Int) (s : List UInt8) : Int :=
  if level = 1 then (if s = [111, 114] then 20 else 0)
  else if level = 2 then (if s = [97, 110, 100] then 19 else 0)
  else if level = 4 then (if s = [61] then 13 else if s = [60, 62] then 14 else if s = [60] then 15 else if s = [60, 61] then 16 else if s = [62] then 17 else if s = [62, 61] then 18 else 0)
  else if level = 5 then (if s = [43] then 7 else if s = [45] then 8 else if s = [43, 43] then 12 else 0)
  else if level = 6 then (if s = [42] then 9 else if s = [47] then 10 else if s = [37] then 11 else 0)
  else 0
theorem code1 (s : List UInt8) : pickI s [111, 114] 20 = codeI 1 s := by unfold pickI codeI; simp
theorem code2 (s : List UInt8) : pickI s [97, 110, 100] 19 = codeI 2 s := by unfold pickI codeI; simp
theorem code4 (s : List UInt8) : pickI s [61] 13 + pickI s [60, 62] 14 + pickI s [60] 15 + pickI s [60, 61] 16 + pickI s [62] 17 + pickI s [62, 61] 18 = codeI 4 s := by
  unfold pickI codeI; simp; (repeat' split) <;> simp_all
theorem code5 (s : List UInt8) : pickI s [43] 7 + pickI s [45] 8 + pickI s [43, 43] 12 = codeI 5 s := by
  unfold pickI codeI; simp; (repeat' split) <;> simp_all
theorem code6 (s : List UInt8) : pickI s [42] 9 + pickI s [47] 10 + pickI s [37] 11 = codeI 6 s := by
  unfold pickI codeI; simp; (repeat' split) <;> simp_all

theorem code_any (k : Int) (s : List UInt8) (w : World) (hk : k = 1 ∨ k = 2 ∨ k = 4 ∨ k = 5 ∨ k = 6) : Calls Tryz.prog 109 #[.int .i64 k, .string ⟨⟨s⟩⟩] w fun e w' => e = .returned (.int .i64 (codeI k s)) ∧ w' = w := by
  have hp : ∀ (t : List UInt8) (n : Int), Calls Tryz.prog 131 #[.string ⟨⟨s⟩⟩, .string ⟨⟨t⟩⟩, .int .i64 n] w fun e w' => e = .returned (.int .i64 (pickI s t n)) ∧ w' = w := fun t n => pick_any s t n w
  rcases hk with rfl | rfl | rfl | rfl | rfl
  · go_enter Tryz.func109, Tryz.ntmps109
    go_wp2_with (refine (hp _ _).mono ?_; rintro e w' ⟨rfl, rfl⟩)
    go_ret
    exact ⟨ret_int (code1 s), rfl⟩
  · go_enter Tryz.func109, Tryz.ntmps109
    go_wp2_with (refine (hp _ _).mono ?_; rintro e w' ⟨rfl, rfl⟩)
    go_ret
    exact ⟨ret_int (code2 s), rfl⟩
  · have c4 := code4 s
    have b1 := pickI_bd s [61] (n := 13) (by omega)
    have b2 := pickI_bd s [60, 62] (n := 14) (by omega)
    have b3 := pickI_bd s [60] (n := 15) (by omega)
    have b4 := pickI_bd s [60, 61] (n := 16) (by omega)
    have b5 := pickI_bd s [62] (n := 17) (by omega)
    have b6 := pickI_bd s [62, 61] (n := 18) (by omega)
    rw [← c4]
    clear c4
    go_enter Tryz.func109, Tryz.ntmps109
    go_wp2_with (refine (hp _ _).mono ?_; rintro e w' ⟨rfl, rfl⟩)
    go_ret
    refine ⟨ret_int ?_, rfl⟩
    try simp only [wrap64]
    try omega
  · have c4 := code5 s
    have b1 := pickI_bd s [43] (n := 7) (by omega)
    have b2 := pickI_bd s [45] (n := 8) (by omega)
    have b3 := pickI_bd s [43, 43] (n := 12) (by omega)
    rw [← c4]
    clear c4
    go_enter Tryz.func109, Tryz.ntmps109
    go_wp2_with (refine (hp _ _).mono ?_; rintro e w' ⟨rfl, rfl⟩)
    go_ret
    refine ⟨ret_int ?_, rfl⟩
    try simp only [wrap64]
    try omega
  · have c4 := code6 s
    have b1 := pickI_bd s [42] (n := 9) (by omega)
    have b2 := pickI_bd s [47] (n := 10) (by omega)
    have b3 := pickI_bd s [37] (n := 11) (by omega)
    rw [← c4]
    clear c4
    go_enter Tryz.func109, Tryz.ntmps109
    go_wp2_with (refine (hp _ _).mono ?_; rintro e w' ⟨rfl, rfl⟩)
    go_ret
    refine ⟨ret_int ?_, rfl⟩
    try simp only [wrap64]
    try omega

def lodB (c : UInt8) : Bool := letterB c || digitB c
def wordB (s : List UInt8) : Bool := decide (s = [97, 110, 100] ∨ s = [111, 114] ∨ s = [110, 111, 116] ∨ s = [108, 101, 110])
/-- Is it a name? -/
def nameB (s : List UInt8) : Bool := decide (1 ≤ s.length ∧ s.length ≤ 16) && letterB (s.headD 0) && s.all lodB && !wordB s
theorem name_len {s : List UInt8} (h : ¬ (1 ≤ s.length ∧ s.length ≤ 16)) : nameB s = false := by unfold nameB; simp [h]
theorem name_word {s : List UInt8} (h : wordB s = true) : nameB s = false := by unfold nameB; simp [h]

set_option maxHeartbeats 1000000 in
theorem name_any (s : List UInt8) (w : World) : Calls Tryz.prog 36 #[.string ⟨⟨s⟩⟩] w fun e w' => e = .returned (.bool (nameB s)) ∧ w' = w := by
  by_cases hl : 1 ≤ s.length ∧ s.length ≤ 16
  · obtain ⟨h1, h2⟩ := hl
    obtain ⟨c, q, hs⟩ : ∃ c q, s = c :: q := by cases s with | nil => simp at h1 | cons c q => exact ⟨c, q, rfl⟩
    have h0 : ∀ h, (⟨⟨s⟩⟩ : ByteArray)[0]'h = c := by subst hs; exact fun _ => rfl
    have hc : c.toNat < 256 := c.toNat_lt
    have hg : ∀ i (h : i < (⟨⟨s⟩⟩ : ByteArray).size), (⟨⟨s⟩⟩ : ByteArray)[i]'h = s[i]'h := fun i h => rfl
    have hh : Hid (s.headD 0 = c) := by subst hs; rfl
    clear hs
    by_cases hlo : (c.toNat : Int) < 97
    · have hn : Hid (nameB s = false) := by
        unfold Hid nameB
        rw [show s.headD 0 = c from hh]
        have : letterB c = false := by unfold letterB; simp; omega
        simp [this]
      clear hg
      go_enter Tryz.func36, Tryz.ntmps36
      go_wp2
      go_ret
      exact ⟨ret_bool hn.symm, rfl⟩
    · have hlo' : 97 ≤ (c.toNat : Int) := by omega
      go_enter Tryz.func36, Tryz.ntmps36
      go_upto_region 3 with fail
      clear h0
      go_wp2_with fail
      go_loopg [3, 4, 20] s.length (fun k _ _ i wr => ∃ n : Nat, n + k = s.length ∧ i = .int .i64 n ∧ (s.take n).all lodB = true ∧ w = wr)
      case atStart => exact ⟨0, by omega, rfl, rfl, rfl⟩
      case round =>
        obtain ⟨n, hk, rfl, hall, rfl⟩ := hrel
        by_cases hlt : n < s.length
        · obtain ⟨x, hx⟩ : ∃ x, s[n]? = some x := ⟨s[n], List.getElem?_eq_getElem hlt⟩
          have hx' : s[n] = x := by rw [List.getElem?_eq_getElem hlt] at hx; injection hx
          have htk := List.take_add_one (l := s) (i := n)
          have hsome : (some x).toList = [x] := rfl
          rw [hx, hsome] at htk
          have hmem : x ∈ s := by rw [← hx']; exact List.getElem_mem hlt
          cases hlod : lodB x with
          | true =>
            have hall2 : Hid ((s.take (n + 1)).all lodB = true) := by unfold Hid; rw [htk, List.all_append, hall]; simp [hlod]
            have hcs : (97 ≤ (x.toNat : Int) ∧ (x.toNat : Int) ≤ 122) ∨ (48 ≤ (x.toNat : Int) ∧ (x.toNat : Int) ≤ 57) := by
              simp [lodB, letterB, digitB] at hlod; omega
            clear hx hall hmem htk hlod hsome
            rcases hcs with ⟨d1, d2⟩ | ⟨d1, d2⟩
            · go_wp2_with fail
              go_roundg (gk - 1)
              case measure => omega
              case rel => exact ⟨n + 1, by omega, int_eq (by omega), hall2, rfl⟩
            · have d3 : (x.toNat : Int) < 97 := by omega
              go_wp2_with fail
              go_roundg (gk - 1)
              case measure => omega
              case rel => exact ⟨n + 1, by omega, int_eq (by omega), hall2, rfl⟩
          | false =>
            have hn : Hid (nameB s = false) := by
              unfold Hid nameB
              have : s.all lodB = false := by
                rw [Bool.eq_false_iff]; intro h
                rw [List.all_eq_true] at h
                rw [h x hmem] at hlod; cases hlod
              simp [this]
            have hcs : (122 < (x.toNat : Int)) ∨ (57 < (x.toNat : Int) ∧ (x.toNat : Int) < 97) ∨ ((x.toNat : Int) < 48) := by
              simp [lodB, letterB, digitB] at hlod; omega
            clear hx hall hmem htk hlod hsome
            rcases hcs with d1 | ⟨d1, d2⟩ | d1
            · have d2 : 97 ≤ (x.toNat : Int) := by omega
              have d3 : 48 ≤ (x.toNat : Int) := by omega
              have d4 : 57 < (x.toNat : Int) := by omega
              have d5 : decide ((x.toNat : Int) ≤ 122) = false := by simp; omega
              go_wp2_with fail
              go_ret
              exact ⟨ret_bool hn.symm, rfl⟩
            · have d3 : 48 ≤ (x.toNat : Int) := by omega
              go_wp2_with fail
              go_ret
              exact ⟨ret_bool hn.symm, rfl⟩
            · have d3 : (x.toNat : Int) < 97 := by omega
              go_wp2_with fail
              go_ret
              exact ⟨ret_bool hn.symm, rfl⟩
        · have e : n = s.length := by omega
          subst e
          rw [List.take_length] at hall
          have hn : Hid (nameB s = !wordB s) := by
            unfold Hid nameB
            rw [show s.headD 0 = c from hh]
            have : letterB c = true := by
              have hm : lodB c = true := by
                rw [List.all_eq_true] at hall
                refine hall c ?_
                have h3 : s.headD 0 = c := hh
                cases s with
                | nil => simp at h1
                | cons a b => simp at h3; subst h3; simp
              simp [lodB, letterB, digitB] at hm
              unfold letterB; simp; omega
            simp [this, hall, h1, h2]
          have hw : wordB s = ((s == [97, 110, 100]) || (s == [111, 114]) || (s == [110, 111, 116]) || (s == [108, 101, 110])) := by
            unfold wordB; rw [Bool.eq_iff_iff]; simp [or_assoc]
          have hn2 : Hid (nameB s = !((s == [97, 110, 100]) || (s == [111, 114]) || (s == [110, 111, 116]) || (s == [108, 101, 110]))) := by rw [← hw]; exact hn
          clear hall hh hlo hlo' hw hn
          cases b1 : (s == [97, 110, 100]) with
          | true =>
            have hn3 : Hid (nameB s = false) := by unfold Hid; rw [show nameB s = _ from hn2, b1]; rfl
            go_wp2_with fail
            go_ret
            exact ⟨ret_bool hn3.symm, rfl⟩
          | false =>
            cases b2 : (s == [111, 114]) with
            | true =>
              have hn3 : Hid (nameB s = false) := by unfold Hid; rw [show nameB s = _ from hn2, b1, b2]; rfl
              go_wp2_with fail
              go_ret
              exact ⟨ret_bool hn3.symm, rfl⟩
            | false =>
              cases b3 : (s == [110, 111, 116]) with
              | true =>
                have hn3 : Hid (nameB s = false) := by unfold Hid; rw [show nameB s = _ from hn2, b1, b2, b3]; rfl
                go_wp2_with fail
                go_ret
                exact ⟨ret_bool hn3.symm, rfl⟩
              | false =>
                cases b4 : (s == [108, 101, 110]) with
                | true =>
                  have hn3 : Hid (nameB s = false) := by unfold Hid; rw [show nameB s = _ from hn2, b1, b2, b3, b4]; rfl
                  go_wp2_with fail
                  go_ret
                  exact ⟨ret_bool hn3.symm, rfl⟩
                | false =>
                  have hn3 : Hid (nameB s = true) := by unfold Hid; rw [show nameB s = _ from hn2, b1, b2, b3, b4]; rfl
                  go_wp2_with fail
                  go_ret
                  exact ⟨ret_bool hn3.symm, rfl⟩
  · rw [name_len hl]
    by_cases h1 : s.length < 1
    · have h1' : decide ((s.length : Int) < 1) = true := by simp; omega
      go_enter Tryz.func36, Tryz.ntmps36
      go_wp2_with fail
      go_ret
      exact ⟨rfl, rfl⟩
    · have h1' : decide ((s.length : Int) < 1) = false := by simp; omega
      have h2' : decide (16 < (s.length : Int)) = true := by simp; omega
      go_enter Tryz.func36, Tryz.ntmps36
      go_wp2_with fail
      go_ret
      exact ⟨rfl, rfl⟩
end Go.Proofs.YtballmombklalaaGreat

/- lex: runs of bytes, signs. -/
namespace Go.Proofs.YtballmombklalaaGreat
open Go.RowKit

theorem lod_any (c : UInt8) (w : World) : Calls Tryz.prog 72 #[bt c] w fun e w' => e = .returned (.bool (lodB c)) ∧ w' = w := by
  have h1 : Calls Tryz.prog 70 #[.int .u8 (c.toNat : Int)] w _ := letter_any c w
  have h2 : Calls Tryz.prog 73 #[.int .u8 (c.toNat : Int)] w _ := digit_any c w
  unfold bt lodB
  cases hb : letterB c with
  | true =>
    rw [hb] at h1
    go_enter Tryz.func72, Tryz.ntmps72
    go_wp2_with fail
    refine h1.mono ?_
    rintro e w' ⟨rfl, rfl⟩
    go_wp2_with fail
    go_ret
    exact ⟨rfl, rfl⟩
  | false =>
    rw [hb] at h1
    rw [Bool.false_or]
    go_enter Tryz.func72, Tryz.ntmps72
    go_wp2_with fail
    refine h1.mono ?_
    rintro e w' ⟨rfl, rfl⟩
    go_wp2_with fail
    refine h2.mono ?_
    rintro e w' ⟨rfl, rfl⟩
    go_wp2_with fail
    go_ret
    exact ⟨rfl, rfl⟩

theorem tw_len (p : UInt8 → Bool) : ∀ (s : List UInt8) (n : Nat), n ≤ s.length → (s.take n).all p = true → (n = s.length ∨ ∃ x, s[n]? = some x ∧ p x = false) → (s.takeWhile p).length = n
  | [], n, h, _, _ => by simp at h; subst h; rfl
  | a :: s, 0, _, _, h => by
    rcases h with h | ⟨x, h, hp⟩
    · simp at h
    · simp at h; subst h; simp [hp]
  | a :: s, n + 1, h, ha, hx => by
    simp at ha h
    rw [List.takeWhile_cons, ha.1]
    simp only [if_true, List.length_cons]
    rw [tw_len p s n h (by simpa using ha.2) (by simpa using hx)]

theorem run_any (g : Nat) (is : UInt8 → Bool) (s : List UInt8) (w : World) (hl : s.length ≤ maxLen)
    (eg : ∀ args w, (callFunc g args).run Tryz.prog w = .ok (.enter g args) w)
    (hg : ∀ (c : UInt8) (w : World), Calls Tryz.prog g #[.int .u8 (c.toNat : Int)] w fun e w' => e = .returned (.bool (is c)) ∧ w' = w) :
    Calls Tryz.prog 71 #[.string ⟨⟨s⟩⟩, .func (.func g) #[] #[]] w fun e w' => e = .returned (.int .i64 ((s.takeWhile is).length : Nat)) ∧ w' = w := by
  unfold maxLen at hl
  have hgs : ∀ i (h : i < (⟨⟨s⟩⟩ : ByteArray).size), (⟨⟨s⟩⟩ : ByteArray)[i]'h = s[i]'h := fun i h => rfl
  go_enter Tryz.func71, Tryz.ntmps71
  go_wp2_with fail
  go_loopg [5] s.length (fun k i wr => ∃ n : Nat, n + k = s.length ∧ i = .int .i64 n ∧ (s.take n).all is = true ∧ w = wr)
  case atStart => exact ⟨0, by omega, rfl, rfl, rfl⟩
  case round =>
    obtain ⟨n, hk, rfl, hall, rfl⟩ := hrel
    by_cases hlt : n < s.length
    · obtain ⟨x, hx⟩ : ∃ x, s[n]? = some x := ⟨s[n], List.getElem?_eq_getElem hlt⟩
      have hx' : s[n] = x := by rw [List.getElem?_eq_getElem hlt] at hx; injection hx
      have htk := List.take_add_one (l := s) (i := n)
      have hsome : (some x).toList = [x] := rfl
      rw [hx, hsome] at htk
      have hgx := hg x w
      cases hb : is x with
      | true =>
        rw [hb] at hgx
        have hall2 : Hid ((s.take (n + 1)).all is = true) := by unfold Hid; rw [htk, List.all_append, hall]; simp [hb]
        clear hall htk hsome hx hb
        go_wp2_with fail
        refine hgx.mono ?_
        rintro e w' ⟨rfl, rfl⟩
        go_wp2_with fail
        go_roundg (gk - 1)
        case measure => omega
        case rel => exact ⟨n + 1, by omega, int_eq (by omega), hall2, rfl⟩
      | false =>
        rw [hb] at hgx
        have hn : Hid ((s.takeWhile is).length = n) := tw_len is s n (by omega) hall (.inr ⟨x, hx, hb⟩)
        clear hall htk hsome hx hb
        go_wp2_with fail
        refine hgx.mono ?_
        rintro e w' ⟨rfl, rfl⟩
        go_wp2_with fail
        go_ret
        exact ⟨ret_int (by rw [show (s.takeWhile is).length = n from hn]), rfl⟩
    · have e : n = s.length := by omega
      subst e
      have hn : Hid ((s.takeWhile is).length = s.length) := tw_len is s _ (by omega) hall (.inl rfl)
      clear hall
      go_wp2_with fail
      go_ret
      exact ⟨ret_int (by rw [show (s.takeWhile is).length = s.length from hn]), rfl⟩

/-- The bytes of the signs of one byte. -/
def signB (c : UInt8) : Bool := decide (0 ≤ Lib.indexByte [61, 60, 62, 43, 45, 42, 47, 37, 40, 41, 44] c)
def two4 (t : List UInt8) : Bool := (t == [60, 62]) || (t == [60, 61]) || (t == [62, 61]) || (t == [43, 43])
/-- How many bytes the sign has that a text begins with. -/
def signN (s : List UInt8) : Nat := if 2 ≤ s.length ∧ two4 (s.take 2) = true then 2 else if signB (s.headD 0) = true then 1 else 0
theorem sign_any (s : List UInt8) (w : World) (hp : 0 < s.length) : Calls Tryz.prog 75 #[.string ⟨⟨s⟩⟩] w fun e w' => e = .returned (.int .i64 (signN s : Nat)) ∧ w' = w := by
  obtain ⟨c, q, hs⟩ : ∃ c q, s = c :: q := by cases s with | nil => simp at hp | cons c q => exact ⟨c, q, rfl⟩
  have h0 : ∀ h, (⟨⟨s⟩⟩ : ByteArray)[0]'h = c := by subst hs; exact fun _ => rfl
  have hh : s.headD 0 = c := by subst hs; rfl
  have hix : ∀ (wx : World), Calls Tryz.prog 74 #[.string ⟨⟨[61, 60, 62, 43, 45, 42, 47, 37, 40, 41, 44]⟩⟩, .int .u8 (c.toNat : Int)] wx fun e w' => e = .returned (.int .i64 (Lib.indexByte [61, 60, 62, 43, 45, 42, 47, 37, 40, 41, 44] c)) ∧ w' = wx := by
    intro wx
    have := Tryz.strings_IndexByte ⟨⟨[61, 60, 62, 43, 45, 42, 47, 37, 40, 41, 44]⟩⟩ (c.toNat : Int) wx
    simpa using this
  have hsb : signB c = decide (0 ≤ Lib.indexByte [61, 60, 62, 43, 45, 42, 47, 37, 40, 41, 44] c) := rfl
  have h2 := fun h => slice_hi (P := Tryz.prog) 9 Tryz.underlying9 s 2 (by omega) h
  have e2 : (2 : Int).toNat = 2 := rfl
  rw [e2] at h2
  unfold signN
  rw [hh, hsb]
  unfold two4
  generalize Lib.indexByte [61, 60, 62, 43, 45, 42, 47, 37, 40, 41, 44] c = ix at *
  clear hs hh hsb e2
  by_cases hl : 2 ≤ s.length
  · have h3 := h2 (by omega)
    clear h2
    generalize s.take 2 = t at *
    go_enter Tryz.func75, Tryz.ntmps75
    go_wp2_with (refine (hix _).mono ?_; rintro e w' ⟨rfl, rfl⟩)
    all_goals go_ret
    all_goals refine ⟨ret_int ?_, rfl⟩
    all_goals first | (simp_all; done) | (simp_all; omega)
  · rw [if_neg (fun h => hl h.1)]
    clear h2
    go_enter Tryz.func75, Tryz.ntmps75
    go_wp2_with (refine (hix _).mono ?_; rintro e w' ⟨rfl, rfl⟩)
    all_goals go_ret
    all_goals refine ⟨ret_int ?_, rfl⟩
    all_goals first | (simp_all; done) | (simp_all; omega)
end Go.Proofs.YtballmombklalaaGreat
