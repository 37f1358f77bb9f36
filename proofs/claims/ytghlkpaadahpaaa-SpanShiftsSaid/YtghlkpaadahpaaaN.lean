/- Plain laws of how spans stand. -/
import Derived.Test.YtghlkpaadahpaaaG
import Derived.Test.YtghlkpaadahpaaaB
import Derived.Test.YtghlkpaadahpaaaE
namespace Go.Proofs.Ytghlkpaadahpaaa

theorem rel1 {a b c d : Int} (_h1 : a < b) (_h2 : c < d) (_q0 : b < c) : relI a b c d = 1 := by
  unfold relI
  rw [if_pos (by omega)]
theorem rel2 {a b c d : Int} (_h1 : a < b) (_h2 : c < d) (_q0 : b = c) : relI a b c d = 2 := by
  unfold relI
  rw [if_neg (by omega), if_pos (by omega)]
theorem rel12 {a b c d : Int} (_h1 : a < b) (_h2 : c < d) (_q0 : a = d) : relI a b c d = 12 := by
  unfold relI
  rw [if_neg (by omega), if_neg (by omega), if_pos (by omega)]
theorem rel13 {a b c d : Int} (_h1 : a < b) (_h2 : c < d) (_q0 : d < a) : relI a b c d = 13 := by
  unfold relI
  rw [if_neg (by omega), if_neg (by omega), if_neg (by omega), if_pos (by omega)]
theorem rel3 {a b c d : Int} (_h1 : a < b) (_h2 : c < d) (_q0 : c < b) (_q1 : a < d) (_q2 : a < c) (_q3 : b < d) : relI a b c d = 3 := by
  unfold relI
  rw [if_neg (by omega), if_neg (by omega), if_neg (by omega), if_neg (by omega), sgn_pos (x := c - a) (by omega), sgn_pos (x := d - b) (by omega)]
  rfl
theorem rel4 {a b c d : Int} (_h1 : a < b) (_h2 : c < d) (_q0 : c < b) (_q1 : a < d) (_q2 : a < c) (_q3 : b = d) : relI a b c d = 4 := by
  unfold relI
  rw [if_neg (by omega), if_neg (by omega), if_neg (by omega), if_neg (by omega), sgn_pos (x := c - a) (by omega), sgn_zero (x := d - b) (by omega)]
  rfl
theorem rel5 {a b c d : Int} (_h1 : a < b) (_h2 : c < d) (_q0 : c < b) (_q1 : a < d) (_q2 : a < c) (_q3 : d < b) : relI a b c d = 5 := by
  unfold relI
  rw [if_neg (by omega), if_neg (by omega), if_neg (by omega), if_neg (by omega), sgn_pos (x := c - a) (by omega), sgn_neg (x := d - b) (by omega)]
  rfl
theorem rel6 {a b c d : Int} (_h1 : a < b) (_h2 : c < d) (_q0 : c < b) (_q1 : a < d) (_q2 : a = c) (_q3 : b < d) : relI a b c d = 6 := by
  unfold relI
  rw [if_neg (by omega), if_neg (by omega), if_neg (by omega), if_neg (by omega), sgn_zero (x := c - a) (by omega), sgn_pos (x := d - b) (by omega)]
  rfl
theorem rel7 {a b c d : Int} (_h1 : a < b) (_h2 : c < d) (_q0 : c < b) (_q1 : a < d) (_q2 : a = c) (_q3 : b = d) : relI a b c d = 7 := by
  unfold relI
  rw [if_neg (by omega), if_neg (by omega), if_neg (by omega), if_neg (by omega), sgn_zero (x := c - a) (by omega), sgn_zero (x := d - b) (by omega)]
  rfl
theorem rel8 {a b c d : Int} (_h1 : a < b) (_h2 : c < d) (_q0 : c < b) (_q1 : a < d) (_q2 : a = c) (_q3 : d < b) : relI a b c d = 8 := by
  unfold relI
  rw [if_neg (by omega), if_neg (by omega), if_neg (by omega), if_neg (by omega), sgn_zero (x := c - a) (by omega), sgn_neg (x := d - b) (by omega)]
  rfl
theorem rel9 {a b c d : Int} (_h1 : a < b) (_h2 : c < d) (_q0 : c < b) (_q1 : a < d) (_q2 : c < a) (_q3 : b < d) : relI a b c d = 9 := by
  unfold relI
  rw [if_neg (by omega), if_neg (by omega), if_neg (by omega), if_neg (by omega), sgn_neg (x := c - a) (by omega), sgn_pos (x := d - b) (by omega)]
  rfl
theorem rel10 {a b c d : Int} (_h1 : a < b) (_h2 : c < d) (_q0 : c < b) (_q1 : a < d) (_q2 : c < a) (_q3 : b = d) : relI a b c d = 10 := by
  unfold relI
  rw [if_neg (by omega), if_neg (by omega), if_neg (by omega), if_neg (by omega), sgn_neg (x := c - a) (by omega), sgn_zero (x := d - b) (by omega)]
  rfl
theorem rel11 {a b c d : Int} (_h1 : a < b) (_h2 : c < d) (_q0 : c < b) (_q1 : a < d) (_q2 : c < a) (_q3 : d < b) : relI a b c d = 11 := by
  unfold relI
  rw [if_neg (by omega), if_neg (by omega), if_neg (by omega), if_neg (by omega), sgn_neg (x := c - a) (by omega), sgn_neg (x := d - b) (by omega)]
  rfl
theorem rel_cases (a b c d : Int) (h1 : a < b) (h2 : c < d) :
    (b < c ∧ relI a b c d = 1 ∧ relI c d a b = 13) ∨ (b = c ∧ relI a b c d = 2 ∧ relI c d a b = 12) ∨ (a = d ∧ relI a b c d = 12 ∧ relI c d a b = 2) ∨ (d < a ∧ relI a b c d = 13 ∧ relI c d a b = 1) ∨ (c < b ∧ a < d ∧ a < c ∧ b < d ∧ relI a b c d = 3 ∧ relI c d a b = 11) ∨ (c < b ∧ a < d ∧ a < c ∧ b = d ∧ relI a b c d = 4 ∧ relI c d a b = 10) ∨ (c < b ∧ a < d ∧ a < c ∧ d < b ∧ relI a b c d = 5 ∧ relI c d a b = 9) ∨ (c < b ∧ a < d ∧ a = c ∧ b < d ∧ relI a b c d = 6 ∧ relI c d a b = 8) ∨ (c < b ∧ a < d ∧ a = c ∧ b = d ∧ relI a b c d = 7 ∧ relI c d a b = 7) ∨ (c < b ∧ a < d ∧ a = c ∧ d < b ∧ relI a b c d = 8 ∧ relI c d a b = 6) ∨ (c < b ∧ a < d ∧ c < a ∧ b < d ∧ relI a b c d = 9 ∧ relI c d a b = 5) ∨ (c < b ∧ a < d ∧ c < a ∧ b = d ∧ relI a b c d = 10 ∧ relI c d a b = 4) ∨ (c < b ∧ a < d ∧ c < a ∧ d < b ∧ relI a b c d = 11 ∧ relI c d a b = 3) := by
  by_cases q1 : b < c
  · exact (.inl ⟨by omega, rel1 (by omega) (by omega) (by omega), rel13 (a := c) (b := d) (c := a) (d := b) (by omega) (by omega) (by omega)⟩)
  by_cases q2 : b = c
  · exact (.inr (.inl ⟨by omega, rel2 (by omega) (by omega) (by omega), rel12 (a := c) (b := d) (c := a) (d := b) (by omega) (by omega) (by omega)⟩))
  by_cases q12 : a = d
  · exact (.inr (.inr (.inl ⟨by omega, rel12 (by omega) (by omega) (by omega), rel2 (a := c) (b := d) (c := a) (d := b) (by omega) (by omega) (by omega)⟩)))
  by_cases q13 : d < a
  · exact (.inr (.inr (.inr (.inl ⟨by omega, rel13 (by omega) (by omega) (by omega), rel1 (a := c) (b := d) (c := a) (d := b) (by omega) (by omega) (by omega)⟩))))
  have hab : a < c ∨ a = c ∨ c < a := by omega
  have hbd : b < d ∨ b = d ∨ d < b := by omega
  rcases hab with h5 | h5 | h5 <;> rcases hbd with h6 | h6 | h6
  · exact (.inr (.inr (.inr (.inr (.inl ⟨by omega, by omega, by omega, by omega, rel3 (by omega) (by omega) (by omega) (by omega) (by omega) (by omega), rel11 (a := c) (b := d) (c := a) (d := b) (by omega) (by omega) (by omega) (by omega) (by omega) (by omega)⟩)))))
  · exact (.inr (.inr (.inr (.inr (.inr (.inl ⟨by omega, by omega, by omega, by omega, rel4 (by omega) (by omega) (by omega) (by omega) (by omega) (by omega), rel10 (a := c) (b := d) (c := a) (d := b) (by omega) (by omega) (by omega) (by omega) (by omega) (by omega)⟩))))))
  · exact (.inr (.inr (.inr (.inr (.inr (.inr (.inl ⟨by omega, by omega, by omega, by omega, rel5 (by omega) (by omega) (by omega) (by omega) (by omega) (by omega), rel9 (a := c) (b := d) (c := a) (d := b) (by omega) (by omega) (by omega) (by omega) (by omega) (by omega)⟩)))))))
  · exact (.inr (.inr (.inr (.inr (.inr (.inr (.inr (.inl ⟨by omega, by omega, by omega, by omega, rel6 (by omega) (by omega) (by omega) (by omega) (by omega) (by omega), rel8 (a := c) (b := d) (c := a) (d := b) (by omega) (by omega) (by omega) (by omega) (by omega) (by omega)⟩))))))))
  · exact (.inr (.inr (.inr (.inr (.inr (.inr (.inr (.inr (.inl ⟨by omega, by omega, by omega, by omega, rel7 (by omega) (by omega) (by omega) (by omega) (by omega) (by omega), rel7 (a := c) (b := d) (c := a) (d := b) (by omega) (by omega) (by omega) (by omega) (by omega) (by omega)⟩)))))))))
  · exact (.inr (.inr (.inr (.inr (.inr (.inr (.inr (.inr (.inr (.inl ⟨by omega, by omega, by omega, by omega, rel8 (by omega) (by omega) (by omega) (by omega) (by omega) (by omega), rel6 (a := c) (b := d) (c := a) (d := b) (by omega) (by omega) (by omega) (by omega) (by omega) (by omega)⟩))))))))))
  · exact (.inr (.inr (.inr (.inr (.inr (.inr (.inr (.inr (.inr (.inr (.inl ⟨by omega, by omega, by omega, by omega, rel9 (by omega) (by omega) (by omega) (by omega) (by omega) (by omega), rel5 (a := c) (b := d) (c := a) (d := b) (by omega) (by omega) (by omega) (by omega) (by omega) (by omega)⟩)))))))))))
  · exact (.inr (.inr (.inr (.inr (.inr (.inr (.inr (.inr (.inr (.inr (.inr (.inl ⟨by omega, by omega, by omega, by omega, rel10 (by omega) (by omega) (by omega) (by omega) (by omega) (by omega), rel4 (a := c) (b := d) (c := a) (d := b) (by omega) (by omega) (by omega) (by omega) (by omega) (by omega)⟩))))))))))))
  · exact (.inr (.inr (.inr (.inr (.inr (.inr (.inr (.inr (.inr (.inr (.inr (.inr ⟨by omega, by omega, by omega, by omega, rel11 (by omega) (by omega) (by omega) (by omega) (by omega) (by omega), rel3 (a := c) (b := d) (c := a) (d := b) (by omega) (by omega) (by omega) (by omega) (by omega) (by omega)⟩))))))))))))

theorem rel_facts {a b c d : Int} (h1 : mayB a b = true) (h2 : mayB c d = true) :
    1 ≤ relI a b c d ∧ relI a b c d ≤ 13 ∧ relI c d a b = 14 - relI a b c d ∧ (relI a b c d = 7 ↔ a = c ∧ b = d) := by
  have k1 := may_iff.1 h1
  have k2 := may_iff.1 h2
  rcases rel_cases a b c d (by omega) (by omega) with h | h | h | h | h | h | h | h | h | h | h | h | h <;> (refine ⟨?_, ?_, ?_, ?_⟩ <;> omega)

end Go.Proofs.Ytghlkpaadahpaaa
