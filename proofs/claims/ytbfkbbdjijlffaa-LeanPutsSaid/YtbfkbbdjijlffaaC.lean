/- Contracts of the given program's leans: Put, Parts, Spun, Join. -/
import Derived.Test.YtbfkbbdjijlffaaB
namespace Go.Proofs.Ytbfkbbdjijlffaa
open Go.RowKit Fl

def tkE (X Y U V : Int) : Int := if farB (X + U) (Y + V) then 10 else 0
def tkX (X Y U V : Int) : Int := if farB (X + U) (Y + V) then X else X + U
def tkY (X Y U V : Int) : Int := if farB (X + U) (Y + V) then Y else Y + V

/-- Both parts are not too far. -/
def Small (X Y : Int) : Prop := -1125899906842624 ≤ X ∧ X ≤ 1125899906842624 ∧ -1125899906842624 ≤ Y ∧ Y ≤ 1125899906842624

theorem Small.take {X Y : Int} (h : Small X Y) (U V : Int) : Small (tkX X Y U V) (tkY X Y U V) := by
  unfold tkX tkY
  cases hf : farB (X + U) (Y + V) with
  | true => simpa using h
  | false =>
    simp only [farB, decide_eq_false_iff_not] at hf
    simp only [Small]
    simp
    omega

theorem Small.rot {X Y : Int} (h : Small X Y) (q : Int) : Small (rotX q X Y) (rotY q X Y) := by
  unfold Small rotX rotY at *
  split
  · exact h
  · split
    · omega
    · split <;> omega

theorem take_any (w : World) (b d e : Nat) (X Y U V : Int) (h : At w b X Y) (hd : FI d U) (he : FI e V) (hs : Small X Y) (hu : Small U V) :
    Calls Try.prog 16 #[.pointer (some ⟨b, 0, none⟩), .complex .f64 d e] w (PostAt b (.int .i64 (tkE X Y U V)) (tkX X Y U V) (tkY X Y U V) w) := by
  unfold Small at hs hu
  unfold tkE tkX tkY
  cases hf : farB (X + U) (Y + V) with
  | true =>
    have := take_far w b d e X Y U V h hd he (by omega) (by omega) (by omega) (by omega) hf
    simpa using this
  | false =>
    have := take_ok w b d e X Y U V h hd he (by omega) (by omega) (by omega) (by omega) hf
    simpa using this

def bigB (n : Int) : Bool := decide (n > 1048576 ∨ n < -1048576)
def putE (X Y v n : Int) : Int := if bigB n then 2 else tkE X Y (rotX v n 0) (rotY v n 0)
def putX (X Y v n : Int) : Int := if bigB n then X else tkX X Y (rotX v n 0) (rotY v n 0)
def putY (X Y v n : Int) : Int := if bigB n then Y else tkY X Y (rotX v n 0) (rotY v n 0)

theorem Small.put {X Y : Int} (h : Small X Y) (v n : Int) : Small (putX X Y v n) (putY X Y v n) := by
  unfold putX putY
  cases bigB n with
  | true => simpa using h
  | false => simpa using h.take _ _

theorem rot_small {n : Int} (v : Int) (h : -1048576 ≤ n ∧ n ≤ 1048576) : Small (rotX v n 0) (rotY v n 0) := by
  refine Small.rot ?_ v
  unfold Small; omega

theorem put_any (w : World) (b : Nat) (X Y v n : Int) (h : At w b X Y) (hs : Small X Y) :
    Calls Try.prog 8 #[.pointer (some ⟨b, 0, none⟩), .int .i64 v, .int .i64 n] w (PostAt b (.int .i64 (putE X Y v n)) (putX X Y v n) (putY X Y v n) w) := by
  unfold putE putX putY
  cases hb : bigB n with
  | true =>
    simp only [if_true]
    simp only [bigB, decide_eq_true_eq] at hb
    by_cases h1 : 1048576 < n
    · clear hb
      go_enter Try.func8, Try.ntmps8
      go_wp2
      go_ret
      exact ⟨rfl, h, Kept.refl _ _, rfl⟩
    · have h2 : n < -1048576 := by omega
      clear hb
      go_enter Try.func8, Try.ntmps8
      go_wp2
      go_ret
      exact ⟨rfl, h, Kept.refl _ _, rfl⟩
  | false =>
    simp only [Bool.false_eq_true, if_false]
    simp only [bigB, decide_eq_false_iff_not] at hb
    have h1 : n ≤ 1048576 := by omega
    have h2 : -1048576 ≤ n := by omega
    have hr := rot_small v ⟨h2, h1⟩
    clear hb
    go_enter Try.func8, Try.ntmps8
    go_wp2_with (first | (go_at_call 17; refine (spin_any _ _ v n 0 _ (of_FI (by omega)) FI_zero).mono ?_; rintro e w' ⟨d, c, rfl, hd, hc, rfl⟩) | (go_at_call 16; refine (take_any _ _ _ _ _ _ _ _ h hd hc hs hr).mono ?_; rintro e w' ⟨rfl, q1, q2, q3⟩))
    go_ret
    exact ⟨rfl, q1, q2, q3⟩

theorem parts_at (w : World) (b : Nat) (X Y : Int) (h : At w b X Y) :
    Calls Try.prog 10 #[.pointer (some ⟨b, 0, none⟩)] w (Ret2 X Y w) := by
  obtain ⟨a, c, h1, h2, h3, h4⟩ := h
  go_enter Try.func10, Try.ntmps10
  go_wp2_with (go_at_call 18; refine (parts_any _ _ _ _ _ h3 h4).mono ?_; rintro e w' ⟨rfl, rfl⟩)
  go_ret2
  exact ⟨rfl, rfl⟩

theorem spun_at (w : World) (b : Nat) (X Y q : Int) (h : At w b X Y) :
    Calls Try.prog 9 #[.pointer (some ⟨b, 0, none⟩), .int .i64 q] w (PostNew (rotX q X Y) (rotY q X Y) w) := by
  obtain ⟨a, c, h1, h2, h3, h4⟩ := h
  go_enter Try.func9, Try.ntmps9
  go_wp2_with (go_at_call 17; refine (spin_any _ _ q X Y _ h3 h4).mono ?_; rintro e w' ⟨d, c', rfl, hd, hc, rfl⟩)
  go_ret
  exact ⟨rfl, ⟨d, c', by simp, by simp, hd, hc⟩, (Kept.refl _ _).alloc _, by simp⟩

theorem join_at (w : World) (b b' : Nat) (X Y U V : Int) (h : At w b X Y) (h' : At w b' U V) (hs : Small X Y) (hu : Small U V) :
    Calls Try.prog 15 #[.pointer (some ⟨b, 0, none⟩), .pointer (some ⟨b', 0, none⟩)] w (PostAt b (.int .i64 (tkE X Y U V)) (tkX X Y U V) (tkY X Y U V) w) := by
  obtain ⟨a, c, h1, h2, h3, h4⟩ := h'
  go_enter Try.func15, Try.ntmps15
  go_wp2_with (go_at_call 16; refine (take_any _ _ _ _ _ _ _ _ h h3 h4 hs hu).mono ?_; rintro e w' ⟨rfl, q1, q2, q3⟩)
  go_ret
  exact ⟨rfl, q1, q2, q3⟩
end Go.Proofs.Ytbfkbbdjijlffaa
