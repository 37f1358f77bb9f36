/- num.Read: the number that digits stand for. Texts are kept as lists of bytes. -/
import Derived.Test.YtballmombklalaaGreatM2
import Derived.Laws.Strings3
import Derived.Deep.LoopGhost
import Derived.Deep.CutRange
import Derived.Deep.DeepCutAuto
namespace Go.Proofs.YtballmombklalaaGreat
open Go.RowKit

def st (l : List UInt8) : Value := .string ⟨⟨l⟩⟩
theorem str_get (l : List UInt8) (i : Nat) (h : i < (⟨⟨l⟩⟩ : ByteArray).size) : (⟨⟨l⟩⟩ : ByteArray)[i]'h = l[i]'h := rfl
theorem str_extract (l : List UInt8) (a b : Nat) : (⟨⟨l⟩⟩ : ByteArray).extract a b = ⟨⟨(l.drop a).take (b - a)⟩⟩ := ByteArray.extract_mk l a b
theorem slice_lo {P : Program} (t : TypeId) (hu : P.underlying t = some .string) (l : List UInt8) (a : Int) (h0 : 0 ≤ a) (h1 : a ≤ l.length) (w : World) :
    (Instr.slice t (.string ⟨⟨l⟩⟩) (some (.int .i64 a)) none none).run P w = .ok (.string ⟨⟨l.drop a.toNat⟩⟩) w := by
  have hs : (⟨⟨l⟩⟩ : ByteArray).size = l.length := rfl
  rw [run_slice_string_from_if w t ⟨⟨l⟩⟩ .i64 a hu, if_pos (by rw [hs]; exact ⟨h0, h1⟩), str_extract, List.take_of_length_le (by simp [hs])]
theorem slice_hi {P : Program} (t : TypeId) (hu : P.underlying t = some .string) (l : List UInt8) (a : Int) (h0 : 0 ≤ a) (h1 : a ≤ l.length) (w : World) :
    (Instr.slice t (.string ⟨⟨l⟩⟩) none (some (.int .i64 a)) none).run P w = .ok (.string ⟨⟨l.take a.toNat⟩⟩) w := by
  have hs : (⟨⟨l⟩⟩ : ByteArray).size = l.length := rfl
  rw [run_slice_string_to_if w t ⟨⟨l⟩⟩ .i64 a hu, if_pos (by rw [hs]; exact ⟨h0, h1⟩), str_extract]
  simp
theorem slice_lohi {P : Program} (t : TypeId) (hu : P.underlying t = some .string) (l : List UInt8) (a b : Int) (h0 : 0 ≤ a) (h1 : a ≤ b) (h2 : b ≤ l.length) (w : World) :
    (Instr.slice t (.string ⟨⟨l⟩⟩) (some (.int .i64 a)) (some (.int .i64 b)) none).run P w = .ok (.string ⟨⟨(l.drop a.toNat).take (b.toNat - a.toNat)⟩⟩) w := by
  rw [run_slice_string w t ⟨⟨l⟩⟩ .i64 .i64 a b hu h0 h1 h2, str_extract]

def digitB (c : UInt8) : Bool := !(decide ((c.toNat : Int) < 48) || decide (57 < (c.toNat : Int)))
def val (d : List UInt8) : Int := d.foldl (fun x c => x * 10 + ((c.toNat : Int) - 48)) 0
theorem val_app (d : List UInt8) (c : UInt8) : val (d ++ [c]) = val d * 10 + ((c.toNat : Int) - 48) := by simp [val, List.foldl_append]
theorem digitB_bd {c : UInt8} (h : digitB c = true) : 48 ≤ (c.toNat : Int) ∧ (c.toNat : Int) ≤ 57 := by
  unfold digitB at h; simp at h; omega
theorem pow10 {n m : Nat} (h : n ≤ m) : (10 : Int) ^ n ≤ 10 ^ m := by
  have := Nat.pow_le_pow_right (n := 10) (by decide) h
  exact_mod_cast this
theorem val_bd : ∀ (n : Nat) (d : List UInt8), d.length = n → d.all digitB = true → 0 ≤ val d ∧ val d < (10 : Int) ^ n := by
  intro n
  induction n with
  | zero => intro d hd _; have : d = [] := List.eq_nil_of_length_eq_zero hd; subst this; simp [val]
  | succ n ih =>
    intro d hd ha
    obtain ⟨p, c, rfl⟩ : ∃ p c, d = p ++ [c] := ⟨d.dropLast, d.getLast (by intro e; subst e; simp at hd), (List.dropLast_concat_getLast _).symm⟩
    simp at hd
    rw [List.all_append] at ha
    simp at ha
    obtain ⟨h1, h2⟩ := ih p hd (by simpa using ha.1)
    have := digitB_bd ha.2
    rw [val_app, Int.pow_succ]
    omega

/-- The number that digits, of which the sign is told, stand for. -/
def readD (below : Bool) (d : List UInt8) : Int × Int :=
  if d.length = 0 ∨ (d[0]? = some 48 ∧ (1 < d.length ∨ below = true)) then (0, 4)
  else if d.all digitB = true then (if 19 < d.length then (0, 10) else signedS (val d) below) else (0, 4)
def readS (l : List UInt8) : Int × Int := if l[0]? = some 45 then readD true (l.drop 1) else readD false l
theorem readD_bd (b : Bool) (d : List UInt8) : I64 (readD b d).1 := by
  unfold readD
  split
  · simp [I64]
  · split
    · split
      · simp [I64]
      · rename_i h1 h2 h3
        exact signedS_bd _ _ (val_bd _ d rfl h2).1
    · simp [I64]
theorem readS_bd (d : List UInt8) : I64 (readS d).1 := by unfold readS; split <;> exact readD_bd _ _

theorem u8_ne {a b : UInt8} {n : Int} (h : a ≠ b) (e : (b.toNat : Int) = n) : ((a.toNat : Int) == n) = false := by
  have : a.toNat ≠ b.toNat := fun e => h (UInt8.toNat_inj.1 e)
  simp; omega

def badB (below : Bool) (d : List UInt8) : Bool := decide (d.length = 0) || (decide (d[0]? = some 48) && (decide (1 < d.length) || below))
theorem readD_bad {below : Bool} {d : List UInt8} (h : badB below d = true) : readD below d = (0, 4) := by
  unfold readD
  rw [if_pos (by simpa [badB] using h)]
theorem readD_nondig {below : Bool} {d : List UInt8} (h : badB below d = false) (k : ¬ d.all digitB = true) : readD below d = (0, 4) := by
  unfold readD
  rw [if_neg (by intro q; have : badB below d = true := by simpa [badB] using q
                 rw [this] at h; cases h), if_neg k]
theorem readD_long {below : Bool} {d : List UInt8} (h : badB below d = false) (k : d.all digitB = true) (l : 19 < d.length) : readD below d = (0, 10) := by
  unfold readD
  rw [if_neg (by intro q; have : badB below d = true := by simpa [badB] using q
                 rw [this] at h; cases h), if_pos k, if_pos l]
theorem readD_ok {below : Bool} {d : List UInt8} (h : badB below d = false) (k : d.all digitB = true) (l : ¬ 19 < d.length) : readD below d = signedS (val d) below := by
  unfold readD
  rw [if_neg (by intro q; have : badB below d = true := by simpa [badB] using q
                 rw [this] at h; cases h), if_pos k, if_neg l]

set_option maxHeartbeats 1000000 in
theorem read_any (l : List UInt8) (w : World) (hl : l.length ≤ maxLen) : Calls Tryz.prog 153 #[st l] w fun e w' => e = .returned (.tuple #[.int .i64 (readS l).1, .int .i64 (readS l).2]) ∧ w' = w := by
  unfold maxLen at hl
  unfold st
  cases l with
  | nil =>
    go_enter Tryz.func153, Tryz.ntmps153
    go_wp2
    go_ret2
    exact ⟨rfl, rfl⟩
  | cons c q =>
    have hret : ∀ (r : Int × Int) (a : Int) (b : Int), r = (a, b) → Ending.returned (.tuple #[.int .i64 a, .int .i64 b]) = Ending.returned (.tuple #[.int .i64 r.1, .int .i64 r.2]) := by
      rintro r a b rfl; rfl
    by_cases hc : c = 45
    · subst hc
      have e : readS (45 :: q) = readD true q := by simp [readS]
      rw [e]
      clear e
      have hd : q.length ≤ 9223372036854775807 := by simp only [List.length_cons] at hl; omega
      clear hl
      have hu := slice_lo (P := Tryz.prog) 9 Tryz.underlying9 (45 :: q) 1 (by omega) (by simp only [List.length_cons]; omega)
      have h0 : ∀ h, (⟨⟨45 :: q⟩⟩ : ByteArray)[0]'h = 45 := fun _ => rfl
      simp only [Int.toNat_one, List.drop_succ_cons, List.drop_zero] at hu
      have hsg := fun h => signed_any (val q) true w h
      have hgd : ∀ i (h : i < (⟨⟨q⟩⟩ : ByteArray).size), (⟨⟨q⟩⟩ : ByteArray)[i]'h = q[i]'h := fun i h => rfl
      go_enter Tryz.func153, Tryz.ntmps153
      go_upto_region 5 with fail
      go_cut [36] (fun v wc => v = .bool (badB true q) ∧ wc = w)
      case first =>
        clear hsg
        by_cases hn : q.length = 0
        · have hn' : ((q.length : Int) == 0) = true := by simp [hn]
          have hb : badB true q = true := by simp [badB, hn]
          go_wp2_with fail
          go_meet
          case rel => exact ⟨by rw [hb], rfl⟩
        · have hn' : ((q.length : Int) == 0) = false := by simp; exact fun e => hn (by rw [e]; rfl)
          obtain ⟨c2, h2⟩ : ∃ c2, q[0]? = some c2 := ⟨q[0]'(by omega), List.getElem?_eq_getElem (by omega)⟩
          have h02 : ∀ h, (⟨⟨q⟩⟩ : ByteArray)[0]'h = c2 := fun h => by have h2' := h2; rw [List.getElem?_eq_getElem h] at h2'; injection h2'
          have hp : 0 < q.length := by omega
          by_cases h48 : c2 = 48
          · subst h48
            by_cases h1 : 1 < q.length
            · have hb : badB true q = true := by simp [badB, h2, h1]
              clear h2 hgd
              go_wp2_with fail
              go_meet
              case rel => exact ⟨by first | (rw [hb]; done) | (rw [hb]; simp; omega), rfl⟩
            · have hb : badB true q = true := by simp [badB, h2, h1, hn]
              clear h2 hgd
              go_wp2_with fail
              go_meet
              case rel => exact ⟨by first | (rw [hb]; done) | (rw [hb]; simp; omega), rfl⟩
          · have hne : ((c2.toNat : Int) == 48) = false := u8_ne h48 rfl
            have hb : badB true q = false := by simp [badB, h2, h48, hn]
            clear h2 hgd
            go_wp2_with fail
            go_meet
            case rel => exact ⟨by rw [hb], rfl⟩
      case rest =>
        obtain ⟨hv, rfl⟩ := hcut
        cases hbad : badB true q with
        | true =>
          rw [hbad] at hv
          subst hv
          go_wp2_with fail
          go_ret2
          exact ⟨hret _ _ _ (readD_bad hbad), rfl⟩
        | false =>
          rw [hbad] at hv
          subst hv
          go_wp2_with fail
          go_loopg [6, 39] q.length (fun k _ i wr => ∃ n : Nat, n + k = q.length ∧ i = .int .i64 n ∧ (q.take n).all digitB = true ∧ wc = wr)
          case atStart => exact ⟨0, by omega, rfl, rfl, rfl⟩
          case round =>
            obtain ⟨n, hk, rfl, hall, rfl⟩ := hrel
            by_cases hlt : n < q.length
            · obtain ⟨x, hx⟩ : ∃ x, q[n]? = some x := ⟨q[n], List.getElem?_eq_getElem hlt⟩
              have hx' : q[n] = x := by rw [List.getElem?_eq_getElem hlt] at hx; injection hx
              have htk := List.take_add_one (l := q) (i := n)
              rw [hx] at htk
              have hmem : x ∈ q := by rw [← hx']; exact List.getElem_mem hlt
              by_cases hdg : digitB x = true
              · obtain ⟨d1, d2⟩ := digitB_bd hdg
                have hall2 : Hid ((q.take (n + 1)).all digitB = true) := by unfold Hid; rw [htk, List.all_append, hall]; simp [hdg]
                clear hx hall hmem htk hdg
                go_wp2_with fail
                go_roundg (gk - 1)
                case measure => omega
                case rel => exact ⟨n + 1, by omega, int_eq (by omega), hall2, rfl⟩
              · rw [Bool.not_eq_true] at hdg
                have hno : Hid (¬ q.all digitB = true) := by
                  unfold Hid
                  intro h
                  rw [List.all_eq_true] at h
                  rw [h x hmem] at hdg
                  cases hdg
                have hd2 : (x.toNat : Int) < 48 ∨ 48 ≤ (x.toNat : Int) ∧ 57 < (x.toNat : Int) := by
                  unfold digitB at hdg
                  simp at hdg
                  omega
                clear hx hall hmem htk hdg
                rcases hd2 with d1 | ⟨d1, d2⟩
                · go_wp2_with fail
                  go_ret2
                  exact ⟨hret _ _ _ (readD_nondig hbad hno), rfl⟩
                · go_wp2_with fail
                  go_ret2
                  exact ⟨hret _ _ _ (readD_nondig hbad hno), rfl⟩
            · have e : n = q.length := by omega
              subst e
              rw [List.take_length] at hall
              have hall2 : Hid (q.all digitB = true) := hall
              clear hall
              by_cases h19 : 19 < q.length
              · have hlong : Hid (readD true q = (0, 10)) := readD_long hbad hall2 h19
                go_wp2_with fail
                go_ret2
                exact ⟨hret _ _ _ hlong, rfl⟩
              · have hok : Hid (readD true q = signedS (val q) true) := readD_ok hbad hall2 h19
                go_wp2_with fail
                go_loopg [7, 8, 58] q.length (fun k x _ i wr => ∃ n : Nat, n + k = q.length ∧ i = .int .i64 n ∧ x = .int .u64 (val (q.take n)) ∧ wc = wr)
                case atStart => exact ⟨0, by omega, rfl, rfl, rfl⟩
                case round =>
                  obtain ⟨n, hk, rfl, rfl, rfl⟩ := hrel
                  by_cases hlt : n < q.length
                  · obtain ⟨x, hx⟩ : ∃ x, q[n]? = some x := ⟨q[n], List.getElem?_eq_getElem hlt⟩
                    have hx' : q[n] = x := by rw [List.getElem?_eq_getElem hlt] at hx; injection hx
                    have htk := List.take_add_one (l := q) (i := n)
                    rw [hx] at htk
                    have hmem : x ∈ q := by rw [← hx']; exact List.getElem_mem hlt
                    have hdg : digitB x = true := List.all_eq_true.1 hall2 x hmem
                    obtain ⟨d1, d2⟩ := digitB_bd hdg
                    have hsome : (some x).toList = [x] := rfl
                    rw [hsome] at htk
                    have hv : Hid (val (q.take (n + 1)) = val (q.take n) * 10 + ((x.toNat : Int) - 48)) := by unfold Hid; rw [htk, val_app]
                    have hb := val_bd n (q.take n) (by rw [List.length_take]; omega) (by rw [List.all_eq_true]; intro y hy; exact List.all_eq_true.1 hall2 y (List.mem_of_mem_take hy))
                    have h18 : (10 : Int) ^ n ≤ 10 ^ 18 := pow10 (by omega)
                    have hbb : 0 ≤ val (q.take n) ∧ val (q.take n) < 1000000000000000000 := ⟨hb.1, by have := hb.2; omega⟩
                    clear hb h18 hx hmem htk hdg hsome
                    generalize val (q.take n) = y at *
                    have e1 : IntKind.u8.wrap ((x.toNat : Int) - 48) = (x.toNat : Int) - 48 := by rw [IntKind.wrap_u8]; omega
                    have e2 : IntKind.u64.wrap ((x.toNat : Int) - 48) = (x.toNat : Int) - 48 := by rw [IntKind.wrap_u64]; omega
                    have e3 : IntKind.u64.wrap (y * 10) = y * 10 := by rw [IntKind.wrap_u64]; omega
                    have e4 : IntKind.u64.wrap (y * 10 + ((x.toNat : Int) - 48)) = y * 10 + ((x.toNat : Int) - 48) := by rw [IntKind.wrap_u64]; omega
                    go_wp2_with fail
                    go_roundg (gk - 1)
                    case measure => omega
                    case rel => exact ⟨n + 1, by omega, int_eq (by omega), int_eq hv.symm, rfl⟩
                  · have e : n = q.length := by omega
                    subst e
                    rw [List.take_length]
                    have hb := val_bd _ q rfl hall2
                    have h19 : (10 : Int) ^ q.length ≤ 10 ^ 19 := pow10 (by omega)
                    have hg := hsg ⟨hb.1, by have := hb.2; omega⟩
                    rw [show signedS (val q) true = readD true q from hok.symm] at hg
                    clear hb h19 hsg
                    generalize val q = y at *
                    go_wp2_with fail
                    refine hg.mono ?_
                    rintro e w3 ⟨rfl, rfl⟩
                    go_wp2_with fail
                    go_ret2
                    exact ⟨rfl, rfl⟩

    · have e : readS (c :: q) = readD false (c :: q) := by simp [readS, hc]
      rw [e]
      clear e
      have hD0 : ∀ h, (⟨⟨c :: q⟩⟩ : ByteArray)[0]'h = c := fun _ => rfl
      have hp0 : 0 < (c :: q).length := by simp
      have hne0 : ((c.toNat : Int) == 45) = false := u8_ne hc rfl
      generalize c :: q = D at *
      have hsg := fun h => signed_any (val D) false w h
      have hgd : ∀ i (h : i < (⟨⟨D⟩⟩ : ByteArray).size), (⟨⟨D⟩⟩ : ByteArray)[i]'h = D[i]'h := fun i h => rfl
      go_enter Tryz.func153, Tryz.ntmps153
      go_upto_region 5 with fail
      go_cut [36] (fun v wc => v = .bool (badB false D) ∧ wc = w)
      case first =>
        clear hsg hD0 hne0
        by_cases hn : D.length = 0
        · have hn' : ((D.length : Int) == 0) = true := by simp [hn]
          have hb : badB false D = true := by simp [badB, hn]
          go_wp2_with fail
          go_meet
          case rel => exact ⟨by rw [hb], rfl⟩
        · have hn' : ((D.length : Int) == 0) = false := by simp; exact fun e => hn (by rw [e]; rfl)
          obtain ⟨c2, h2⟩ : ∃ c2, D[0]? = some c2 := ⟨D[0]'(by omega), List.getElem?_eq_getElem (by omega)⟩
          have h02 : ∀ h, (⟨⟨D⟩⟩ : ByteArray)[0]'h = c2 := fun h => by have h2' := h2; rw [List.getElem?_eq_getElem h] at h2'; injection h2'
          have hp : 0 < D.length := by omega
          by_cases h48 : c2 = 48
          · subst h48
            by_cases h1 : 1 < D.length
            · have hb : badB false D = true := by simp [badB, h2, h1]
              clear h2 hgd
              go_wp2_with fail
              go_meet
              case rel => exact ⟨by first | (rw [hb]; done) | (rw [hb]; simp; omega), rfl⟩
            · have hb : badB false D = false := by simp [badB, h2, h1, hn]
              clear h2 hgd
              go_wp2_with fail
              go_meet
              case rel => exact ⟨by first | (rw [hb]; done) | (rw [hb]; simp; omega), rfl⟩
          · have hne : ((c2.toNat : Int) == 48) = false := u8_ne h48 rfl
            have hb : badB false D = false := by simp [badB, h2, h48, hn]
            clear h2 hgd
            go_wp2_with fail
            go_meet
            case rel => exact ⟨by rw [hb], rfl⟩
      case rest =>
        obtain ⟨hv, rfl⟩ := hcut
        cases hbad : badB false D with
        | true =>
          rw [hbad] at hv
          subst hv
          go_wp2_with fail
          go_ret2
          exact ⟨hret _ _ _ (readD_bad hbad), rfl⟩
        | false =>
          rw [hbad] at hv
          subst hv
          go_wp2_with fail
          go_loopg [6, 39] D.length (fun k _ i wr => ∃ n : Nat, n + k = D.length ∧ i = .int .i64 n ∧ (D.take n).all digitB = true ∧ wc = wr)
          case atStart => exact ⟨0, by omega, rfl, rfl, rfl⟩
          case round =>
            obtain ⟨n, hk, rfl, hall, rfl⟩ := hrel
            by_cases hlt : n < D.length
            · obtain ⟨x, hx⟩ : ∃ x, D[n]? = some x := ⟨D[n], List.getElem?_eq_getElem hlt⟩
              have hx' : D[n] = x := by rw [List.getElem?_eq_getElem hlt] at hx; injection hx
              have htk := List.take_add_one (l := D) (i := n)
              rw [hx] at htk
              have hmem : x ∈ D := by rw [← hx']; exact List.getElem_mem hlt
              by_cases hdg : digitB x = true
              · obtain ⟨d1, d2⟩ := digitB_bd hdg
                have hall2 : Hid ((D.take (n + 1)).all digitB = true) := by unfold Hid; rw [htk, List.all_append, hall]; simp [hdg]
                clear hx hall hmem htk hdg
                go_wp2_with fail
                go_roundg (gk - 1)
                case measure => omega
                case rel => exact ⟨n + 1, by omega, int_eq (by omega), hall2, rfl⟩
              · rw [Bool.not_eq_true] at hdg
                have hno : Hid (¬ D.all digitB = true) := by
                  unfold Hid
                  intro h
                  rw [List.all_eq_true] at h
                  rw [h x hmem] at hdg
                  cases hdg
                have hd2 : (x.toNat : Int) < 48 ∨ 48 ≤ (x.toNat : Int) ∧ 57 < (x.toNat : Int) := by
                  unfold digitB at hdg
                  simp at hdg
                  omega
                clear hx hall hmem htk hdg
                rcases hd2 with d1 | ⟨d1, d2⟩
                · go_wp2_with fail
                  go_ret2
                  exact ⟨hret _ _ _ (readD_nondig hbad hno), rfl⟩
                · go_wp2_with fail
                  go_ret2
                  exact ⟨hret _ _ _ (readD_nondig hbad hno), rfl⟩
            · have e : n = D.length := by omega
              subst e
              rw [List.take_length] at hall
              have hall2 : Hid (D.all digitB = true) := hall
              clear hall
              by_cases h19 : 19 < D.length
              · have hlong : Hid (readD false D = (0, 10)) := readD_long hbad hall2 h19
                go_wp2_with fail
                go_ret2
                exact ⟨hret _ _ _ hlong, rfl⟩
              · have hok : Hid (readD false D = signedS (val D) false) := readD_ok hbad hall2 h19
                go_wp2_with fail
                go_loopg [7, 8, 58] D.length (fun k x _ i wr => ∃ n : Nat, n + k = D.length ∧ i = .int .i64 n ∧ x = .int .u64 (val (D.take n)) ∧ wc = wr)
                case atStart => exact ⟨0, by omega, rfl, rfl, rfl⟩
                case round =>
                  obtain ⟨n, hk, rfl, rfl, rfl⟩ := hrel
                  by_cases hlt : n < D.length
                  · obtain ⟨x, hx⟩ : ∃ x, D[n]? = some x := ⟨D[n], List.getElem?_eq_getElem hlt⟩
                    have hx' : D[n] = x := by rw [List.getElem?_eq_getElem hlt] at hx; injection hx
                    have htk := List.take_add_one (l := D) (i := n)
                    rw [hx] at htk
                    have hmem : x ∈ D := by rw [← hx']; exact List.getElem_mem hlt
                    have hdg : digitB x = true := List.all_eq_true.1 hall2 x hmem
                    obtain ⟨d1, d2⟩ := digitB_bd hdg
                    have hsome : (some x).toList = [x] := rfl
                    rw [hsome] at htk
                    have hv : Hid (val (D.take (n + 1)) = val (D.take n) * 10 + ((x.toNat : Int) - 48)) := by unfold Hid; rw [htk, val_app]
                    have hb := val_bd n (D.take n) (by rw [List.length_take]; omega) (by rw [List.all_eq_true]; intro y hy; exact List.all_eq_true.1 hall2 y (List.mem_of_mem_take hy))
                    have h18 : (10 : Int) ^ n ≤ 10 ^ 18 := pow10 (by omega)
                    have hbb : 0 ≤ val (D.take n) ∧ val (D.take n) < 1000000000000000000 := ⟨hb.1, by have := hb.2; omega⟩
                    clear hb h18 hx hmem htk hdg hsome
                    generalize val (D.take n) = y at *
                    have e1 : IntKind.u8.wrap ((x.toNat : Int) - 48) = (x.toNat : Int) - 48 := by rw [IntKind.wrap_u8]; omega
                    have e2 : IntKind.u64.wrap ((x.toNat : Int) - 48) = (x.toNat : Int) - 48 := by rw [IntKind.wrap_u64]; omega
                    have e3 : IntKind.u64.wrap (y * 10) = y * 10 := by rw [IntKind.wrap_u64]; omega
                    have e4 : IntKind.u64.wrap (y * 10 + ((x.toNat : Int) - 48)) = y * 10 + ((x.toNat : Int) - 48) := by rw [IntKind.wrap_u64]; omega
                    go_wp2_with fail
                    go_roundg (gk - 1)
                    case measure => omega
                    case rel => exact ⟨n + 1, by omega, int_eq (by omega), int_eq hv.symm, rfl⟩
                  · have e : n = D.length := by omega
                    subst e
                    rw [List.take_length]
                    have hb := val_bd _ D rfl hall2
                    have h19 : (10 : Int) ^ D.length ≤ 10 ^ 19 := pow10 (by omega)
                    have hg := hsg ⟨hb.1, by have := hb.2; omega⟩
                    rw [show signedS (val D) false = readD false D from hok.symm] at hg
                    clear hb h19 hsg
                    generalize val D = y at *
                    go_wp2_with fail
                    refine hg.mono ?_
                    rintro e w3 ⟨rfl, rfl⟩
                    go_wp2_with fail
                    go_ret2
                    exact ⟨rfl, rfl⟩

end Go.Proofs.YtballmombklalaaGreat

/- Small functions on bytes, codes and texts: plain, hex, digit, letter, pick, code, kind, Takes, level. -/
namespace Go.Proofs.YtballmombklalaaGreat
open Go.RowKit

def bt (c : UInt8) : Value := .int .u8 (c.toNat : Int)

def plainB (c : UInt8) : Bool := decide (32 ≤ (c.toNat : Int) ∧ (c.toNat : Int) ≤ 126 ∧ (c.toNat : Int) ≠ 39 ∧ (c.toNat : Int) ≠ 92)
theorem plain_any (c : UInt8) (w : World) : Calls Tryz.prog 161 #[bt c] w fun e w' => e = .returned (.bool (plainB c)) ∧ w' = w := by
  unfold bt plainB
  generalize (c.toNat : Int) = n
  go_enter Tryz.func161, Tryz.ntmps161
  go_wp2
  all_goals go_ret
  all_goals refine ⟨ret_bool ?_, rfl⟩
  all_goals rw [Bool.eq_iff_iff]
  all_goals simp
  all_goals omega

def letterB (c : UInt8) : Bool := decide (97 ≤ (c.toNat : Int) ∧ (c.toNat : Int) ≤ 122)
theorem letter_any (c : UInt8) (w : World) : Calls Tryz.prog 70 #[bt c] w fun e w' => e = .returned (.bool (letterB c)) ∧ w' = w := by
  unfold bt letterB
  generalize (c.toNat : Int) = n
  go_enter Tryz.func70, Tryz.ntmps70
  go_wp2
  all_goals go_ret
  all_goals refine ⟨ret_bool ?_, rfl⟩
  all_goals rw [Bool.eq_iff_iff]
  all_goals simp
  all_goals omega
theorem digit_any (c : UInt8) (w : World) : Calls Tryz.prog 73 #[bt c] w fun e w' => e = .returned (.bool (digitB c)) ∧ w' = w := by
  unfold bt digitB
  generalize (c.toNat : Int) = n
  go_enter Tryz.func73, Tryz.ntmps73
  go_wp2
  all_goals go_ret
  all_goals refine ⟨ret_bool ?_, rfl⟩
  all_goals rw [Bool.eq_iff_iff]
  all_goals simp
  all_goals omega

/-- A digit's number, or 16. -/
def hexI (n : Int) : Int := if 48 ≤ n ∧ n ≤ 57 then n - 48 else if 97 ≤ n ∧ n ≤ 102 then n - 87 else 16
theorem hex_any (c : UInt8) (w : World) : Calls Tryz.prog 160 #[bt c] w fun e w' => e = .returned (.int .u8 (hexI c.toNat)) ∧ w' = w := by
  unfold bt
  have hb : 0 ≤ (c.toNat : Int) ∧ (c.toNat : Int) ≤ 255 := by have := c.toNat_lt; omega
  generalize (c.toNat : Int) = n at *
  obtain ⟨h1, h2⟩ := hb
  go_enter Tryz.func160, Tryz.ntmps160
  go_wp2
  all_goals go_ret
  all_goals refine ⟨ret_int ?_, rfl⟩
  all_goals unfold hexI
  all_goals try simp only [IntKind.wrap_u8]
  all_goals (repeat' split) <;> omega

/-- A digit of the base 16. -/
def digI (n : Int) : Int := if n < 10 then 48 + n else 87 + n
theorem dig_any (n : Int) (w : World) (h : 0 ≤ n ∧ n ≤ 15) : Calls Tryz.prog 184 #[.int .u8 n] w fun e w' => e = .returned (.int .u8 (digI n)) ∧ w' = w := by
  obtain ⟨h1, h2⟩ := h
  go_enter Tryz.func184, Tryz.ntmps184
  go_wp2
  all_goals go_ret
  all_goals refine ⟨ret_int ?_, rfl⟩
  all_goals unfold digI
  all_goals try simp only [IntKind.wrap_u8]
  all_goals (repeat' split) <;> omega

theorem kind_any (k : Int) (w : World) : Calls Tryz.prog 37 #[.int .i64 k] w fun e w' => e = .returned (.bool (decide (k = 1 ∨ k = 2))) ∧ w' = w := by
  go_enter Tryz.func37, Tryz.ntmps37
  go_wp2
  all_goals go_ret
  all_goals refine ⟨ret_bool ?_, rfl⟩
  all_goals rw [Bool.eq_iff_iff]
  all_goals simp
  all_goals omega

/-- How many things a word takes. -/
def takesI (c : Int) : Int := if 1 ≤ c ∧ c ≤ 3 then 0 else if 4 ≤ c ∧ c ≤ 6 then 1 else if 7 ≤ c ∧ c ≤ 20 then 2 else -1
theorem takes_any (c : Int) (w : World) : Calls Tryz.prog 51 #[.int .i64 c] w fun e w' => e = .returned (.int .i64 (takesI c)) ∧ w' = w := by
  go_enter Tryz.func51, Tryz.ntmps51
  go_wp2
  all_goals go_ret
  all_goals refine ⟨ret_int ?_, rfl⟩
  all_goals unfold takesI
  all_goals (repeat' split) <;> omega

/-- A word's level. -/
def levelI (c : Int) : Int := if c = 20 then 1 else if c = 19 then 2 else if c = 5 then 3 else if 13 ≤ c ∧ c ≤ 18 then 4 else if c = 7 ∨ c = 8 ∨ c = 12 then 5 else if c = 9 ∨ c = 10 ∨ c = 11 then 6 else if c = 4 ∨ c = 6 then 7 else 8
set_option maxHeartbeats 1000000 in
theorem level_any (c : Int) (w : World) : Calls Tryz.prog 124 #[.int .i64 c] w fun e w' => e = .returned (.int .i64 (levelI c)) ∧ w' = w := by
  go_enter Tryz.func124, Tryz.ntmps124
  go_wp2
  all_goals go_ret
  all_goals refine ⟨ret_int ?_, rfl⟩
  all_goals try simp only [beq_iff_eq, beq_eq_false_iff_ne, ne_eq] at *
  all_goals unfold levelI
  all_goals (repeat' split) <;> omega

def fairB (n : Int) : Bool := decide (-1048576 ≤ n ∧ n ≤ 1048576)
theorem fair_any (n : Int) (w : World) : Calls Tryz.prog 105 #[.int .i64 n] w fun e w' => e = .returned (.bool (fairB n)) ∧ w' = w := by
  unfold fairB
  go_enter Tryz.func105, Tryz.ntmps105
  go_wp2
  all_goals go_ret
  all_goals refine ⟨ret_bool ?_, rfl⟩
  all_goals rw [Bool.eq_iff_iff]
  all_goals simp
  all_goals omega

end Go.Proofs.YtballmombklalaaGreat
