/- Heaps of things with turns, in plain lists: what up and down keep, and what the first one is. -/
namespace Go.Proofs.Ytagcfomjbnecdaa

/-- A jump, and when it was pushed. -/
structure It where
  a : Int
  n : Int
  t : Int
deriving DecidableEq, Inhabited

def lt (x y : It) : Prop := x.a < y.a ∨ (x.a = y.a ∧ x.t < y.t)
instance (x y : It) : Decidable (lt x y) := by unfold lt; infer_instance
def ltB (x y : It) : Bool := decide (lt x y)
theorem lt_trans {x y z : It} (h : lt x y) (k : lt y z) : lt x z := by unfold lt at *; omega
theorem nlt_trans {x y z : It} (h : ¬ lt y x) (k : ¬ lt z y) : ¬ lt z x := by unfold lt at *; omega
theorem nlt_of_lt {x y : It} (h : lt x y) : ¬ lt y x := by unfold lt at *; omega
theorem nlt_self (x : It) : ¬ lt x x := by unfold lt; omega

def g (H : List It) (i : Nat) : It := H.getD i ⟨0, 0, 0⟩
theorem g_eq {H : List It} {i : Nat} (h : i < H.length) : g H i = H[i] := by unfold g; rw [List.getD_eq_getElem?_getD, List.getElem?_eq_getElem h]; rfl
theorem g_set (H : List It) (i j : Nat) (x : It) (hi : i < H.length) : g (H.set i x) j = if i = j then x else g H j := by
  unfold g
  rw [List.getD_eq_getElem?_getD, List.getElem?_set]
  by_cases h : i = j
  · subst h; simp [hi]
  · rw [if_neg h, if_neg h, List.getD_eq_getElem?_getD]
theorem g_app_left (H K : List It) (i : Nat) (h : i < H.length) : g (H ++ K) i = g H i := by
  unfold g; rw [List.getD_eq_getElem?_getD, List.getD_eq_getElem?_getD, List.getElem?_append_left h]
theorem g_snoc (H : List It) (x : It) : g (H ++ [x]) H.length = x := by
  unfold g; rw [List.getD_eq_getElem?_getD, List.getElem?_append_right (Nat.le_refl _)]; simp

def swap (H : List It) (i j : Nat) : List It := (H.set i (g H j)).set j (g H i)
theorem swap_len (H : List It) (i j : Nat) : (swap H i j).length = H.length := by simp [swap]
theorem g_swap (H : List It) (i j k : Nat) (hi : i < H.length) (hj : j < H.length) : g (swap H i j) k = if k = j then g H i else if k = i then g H j else g H k := by
  unfold swap
  rw [g_set _ _ _ _ (by simpa using hj), g_set _ _ _ _ hi]
  simp only [eq_comm (a := k)]
theorem swap_perm (H : List It) (i j : Nat) (hi : i < H.length) (hj : j < H.length) : (swap H i j).Perm H := by
  unfold swap
  rw [g_eq hi, g_eq hj]
  exact List.set_set_perm hi hj

/-- No thing is ahead of the one halfway below it. -/
def Heap (H : List It) : Prop := ∀ j, 0 < j → j < H.length → ¬ lt (g H j) (g H ((j - 1) / 2))
/-- But for the one at i, which may have to go up. -/
def UpI (H : List It) (i : Nat) : Prop :=
  (∀ j, 0 < j → j < H.length → j ≠ i → ¬ lt (g H j) (g H ((j - 1) / 2))) ∧ (∀ j, 0 < i → 0 < j → j < H.length → (j - 1) / 2 = i → ¬ lt (g H j) (g H ((i - 1) / 2)))
/-- But for the one at i, which may have to go down. -/
def DownI (H : List It) (i : Nat) : Prop :=
  (∀ j, 0 < j → j < H.length → (j - 1) / 2 ≠ i → ¬ lt (g H j) (g H ((j - 1) / 2))) ∧ (∀ j, 0 < i → 0 < j → j < H.length → (j - 1) / 2 = i → ¬ lt (g H j) (g H ((i - 1) / 2)))

theorem up_swap {H : List It} {i : Nat} (h : UpI H i) (h0 : 0 < i) (hi : i < H.length) (hlt : lt (g H i) (g H ((i - 1) / 2))) : UpI (swap H i ((i - 1) / 2)) ((i - 1) / 2) := by
  have hp : (i - 1) / 2 < i := by omega
  have hpl : (i - 1) / 2 < H.length := by omega
  refine ⟨fun j j0 jl jp => ?_, fun j p0 j0 jl hj => ?_⟩
  · rw [swap_len] at jl
    rw [g_swap _ _ _ _ hi hpl, g_swap _ _ _ _ hi hpl, if_neg jp]
    by_cases hji : j = i
    · subst hji
      rw [if_pos rfl, if_pos rfl]
      exact nlt_of_lt hlt
    · rw [if_neg hji]
      by_cases h1 : (j - 1) / 2 = (i - 1) / 2
      · rw [if_pos h1]
        have := h.1 j j0 jl hji
        rw [h1] at this
        exact nlt_trans (nlt_of_lt hlt) this
      · rw [if_neg h1]
        by_cases h2 : (j - 1) / 2 = i
        · rw [if_pos h2]
          exact h.2 j h0 j0 jl h2
        · rw [if_neg h2]
          exact h.1 j j0 jl hji
  · rw [swap_len] at jl
    rw [g_swap _ _ _ _ hi hpl, g_swap _ _ _ _ hi hpl]
    have e1 : ¬ ((i - 1) / 2 - 1) / 2 = (i - 1) / 2 := by omega
    have e2 : ¬ ((i - 1) / 2 - 1) / 2 = i := by omega
    have e3 : ¬ j = (i - 1) / 2 := by omega
    rw [if_neg e1, if_neg e2, if_neg e3]
    have hpp := h.1 ((i - 1) / 2) p0 hpl (by omega)
    by_cases hji : j = i
    · rw [if_pos hji]
      exact hpp
    · rw [if_neg hji]
      have := h.1 j j0 jl hji
      rw [hj] at this
      exact nlt_trans hpp this

theorem up_stop {H : List It} {i : Nat} (h : UpI H i) (hs : i = 0 ∨ ¬ lt (g H i) (g H ((i - 1) / 2))) : Heap H := by
  intro j j0 jl
  by_cases hji : j = i
  · subst hji
    rcases hs with e | e
    · omega
    · exact e
  · exact h.1 j j0 jl hji

theorem up_start {H : List It} (h : Heap H) (x : It) : UpI (H ++ [x]) H.length := by
  refine ⟨fun j j0 jl hj => ?_, fun j h0 j0 jl hj => ?_⟩
  · rw [List.length_append] at jl
    simp only [List.length_cons, List.length_nil] at jl
    rw [g_app_left _ _ _ (by omega), g_app_left _ _ _ (by omega)]
    exact h j j0 (by omega)
  · rw [List.length_append] at jl
    simp only [List.length_cons, List.length_nil] at jl
    omega

/-- Of i and its two children k is the first one. -/
def First (H : List It) (i k : Nat) : Prop := (k = i ∨ k = 2 * i + 1 ∨ k = 2 * i + 2) ∧ k < H.length ∧ ¬ lt (g H i) (g H k) ∧ ∀ j, 0 < j → j < H.length → (j - 1) / 2 = i → ¬ lt (g H j) (g H k)

theorem down_swap {H : List It} {i k : Nat} (h : DownI H i) (hi : i < H.length) (hf : First H i k) (hk : k ≠ i) (hlt : lt (g H k) (g H i)) : DownI (swap H i k) k := by
  obtain ⟨f1, kl, f2, f3⟩ := hf
  have hpk : (k - 1) / 2 = i := by omega
  have k0 : 0 < k := by omega
  refine ⟨fun j j0 jl jp => ?_, fun j p0 j0 jl hj => ?_⟩
  · rw [swap_len] at jl
    rw [g_swap _ _ _ _ hi kl, g_swap _ _ _ _ hi kl, if_neg jp]
    by_cases hjk : j = k
    · subst hjk
      rw [if_pos rfl, if_pos hpk]
      exact nlt_of_lt hlt
    · rw [if_neg hjk]
      by_cases hji : j = i
      · subst hji
        have e : ¬ (j - 1) / 2 = j := by omega
        rw [if_pos rfl, if_neg e]
        exact h.2 k j0 k0 kl hpk
      · rw [if_neg hji]
        by_cases h1 : (j - 1) / 2 = i
        · rw [if_pos h1]
          exact f3 j j0 jl h1
        · rw [if_neg h1]
          exact h.1 j j0 jl h1
  · rw [swap_len] at jl
    rw [g_swap _ _ _ _ hi kl, g_swap _ _ _ _ hi kl]
    have e1 : ¬ (k - 1) / 2 = k := by omega
    have e2 : ¬ j = k := by omega
    have e3 : ¬ j = i := by omega
    rw [if_neg e1, if_pos hpk, if_neg e2, if_neg e3]
    have := h.1 j j0 jl (by omega)
    rw [hj] at this
    exact this

theorem down_stop {H : List It} {i : Nat} (h : DownI H i) (hf : First H i i) : Heap H := by
  intro j j0 jl
  by_cases hji : (j - 1) / 2 = i
  · have := hf.2.2.2 j j0 jl hji
    rw [hji]
    exact this
  · exact h.1 j j0 jl hji
theorem down_none {H : List It} {i : Nat} (h : DownI H i) (hi : H.length ≤ i) : Heap H := by
  intro j j0 jl
  exact h.1 j j0 jl (by omega)

/-- The last one is put first. -/
theorem down_start {H : List It} (h : Heap H) (x : It) (n : Nat) (hn : n < H.length) : DownI ((H.set 0 x).take n) 0 := by
  refine ⟨fun j j0 jl jp => ?_, fun j h0 j0 jl hj => absurd h0 (by omega)⟩
  rw [List.length_take, List.length_set] at jl
  have hg : ∀ k, k < n → g ((H.set 0 x).take n) k = if 0 = k then x else g H k := by
    intro k hk
    rw [← g_set H 0 k x (by omega)]
    unfold g
    rw [List.getD_eq_getElem?_getD, List.getD_eq_getElem?_getD, List.getElem?_take, if_pos hk]
  rw [hg j (by omega), hg ((j - 1) / 2) (by omega), if_neg (by omega), if_neg (by omega)]
  exact h j j0 (by omega)

theorem pop_perm {H : List It} {n : Nat} (hn : H.length = n + 1) : (g H 0 :: (H.set 0 (g H n)).take n).Perm H := by
  match H, hn with
  | x :: R, hn =>
    have hR : R.length = n := by simpa using hn
    match n, hR with
    | 0, hR =>
      have : R = [] := List.eq_nil_of_length_eq_zero hR
      subst this
      simp [g]
    | n + 1, hR =>
      have e1 : (x :: R).set 0 (g (x :: R) (n + 1)) = R[n]'(by omega) :: R := by
        rw [List.set_cons_zero, g_eq (by simp; omega)]
        rfl
      rw [e1]
      have e2 : (R[n]'(by omega) :: R).take (n + 1) = R[n]'(by omega) :: R.take n := rfl
      rw [e2]
      have e3 : g (x :: R) 0 = x := rfl
      rw [e3]
      refine List.Perm.cons _ ?_
      have e4 : R = R.take n ++ [R[n]'(by omega)] := by
        have h1 := List.take_append_drop n R
        rw [List.drop_eq_getElem_cons (by omega), List.drop_eq_nil_of_le (by omega)] at h1
        exact h1.symm
      have h5 : (R[n]'(by omega) :: R.take n).Perm (R.take n ++ [R[n]'(by omega)]) := by
        have := List.perm_append_comm (l₁ := [R[n]'(by omega)]) (l₂ := R.take n)
        exact this
      exact h5.trans (by rw [← e4])

theorem heap_min {H : List It} (h : Heap H) : ∀ j, j < H.length → ¬ lt (g H j) (g H 0) := by
  intro j
  induction j using Nat.strongRecOn with
  | ind j ih =>
    intro hj
    rcases Nat.eq_zero_or_pos j with e | e
    · subst e
      exact nlt_self _
    · exact nlt_trans (ih ((j - 1) / 2) (by omega) (by omega)) (h j e hj)

theorem heap_min_mem {H : List It} (h : Heap H) : ∀ x ∈ H, ¬ lt x (g H 0) := by
  intro x hx
  obtain ⟨j, hj, rfl⟩ := List.mem_iff_getElem.1 hx
  rw [← g_eq hj]
  exact heap_min h j hj

end Go.Proofs.Ytagcfomjbnecdaa
