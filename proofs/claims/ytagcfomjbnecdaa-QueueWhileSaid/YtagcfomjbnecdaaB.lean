/- The queue that the document means, in plain lists: the first one, and what is left. -/
import Derived.Test.YtagcfomjbnecdaaA
namespace Go.Proofs.Ytagcfomjbnecdaa

abbrev J := Int × Int
def It.j (x : It) : J := (x.a, x.n)
def jumps (K : List It) : List J := K.map It.j
theorem jumps_len (K : List It) : (jumps K).length = K.length := by simp [jumps]
def gj (L : List J) (i : Nat) : J := L.getD i (0, 0)
theorem gj_eq {L : List J} {i : Nat} (h : i < L.length) : gj L i = L[i] := by unfold gj; rw [List.getD_eq_getElem?_getD, List.getElem?_eq_getElem h]; rfl
theorem gj_jumps (K : List It) (i : Nat) (h : i < K.length) : gj (jumps K) i = (g K i).j := by
  rw [gj_eq (by rw [jumps_len]; exact h), g_eq h]; simp [jumps]

/-- k is the place of the first one. -/
def IsFirst (L : List J) (k : Nat) : Prop := k < L.length ∧ (∀ j, j < k → (gj L k).1 < (gj L j).1) ∧ ∀ j, j < L.length → (gj L k).1 ≤ (gj L j).1
theorem IsFirst.uniq {L : List J} {k m : Nat} (h : IsFirst L k) (h' : IsFirst L m) : k = m := by
  rcases Nat.lt_trichotomy k m with e | e | e
  · have := h'.2.1 k e
    have := h.2.2 m h'.1
    omega
  · exact e
  · have := h.2.1 m e
    have := h'.2.2 k h.1
    omega

def fst : List J → Nat
  | [] => 0
  | x :: r => if r ≠ [] ∧ (gj r (fst r)).1 < x.1 then fst r + 1 else 0
theorem fst_first : ∀ {L : List J}, L ≠ [] → IsFirst L (fst L)
  | [], h => absurd rfl h
  | x :: r, _ => by
    unfold fst
    by_cases hr : r = []
    · subst hr
      rw [if_neg (by simp)]
      refine ⟨by simp, fun j hj => absurd hj (by omega), fun j hj => ?_⟩
      have : j = 0 := by simp at hj; omega
      subst this
      exact Int.le_refl _
    · obtain ⟨f1, f2, f3⟩ := fst_first hr
      have e : ∀ i, gj (x :: r) (i + 1) = gj r i := fun i => rfl
      have e0 : gj (x :: r) 0 = x := rfl
      by_cases hc : (gj r (fst r)).1 < x.1
      · rw [if_pos ⟨hr, hc⟩]
        refine ⟨by simpa using f1, fun j hj => ?_, fun j hj => ?_⟩
        · cases j with
          | zero => rw [e, e0]; exact hc
          | succ j => rw [e, e]; exact f2 j (by omega)
        · cases j with
          | zero => rw [e, e0]; omega
          | succ j => rw [e, e]; exact f3 j (by simpa using hj)
      · rw [if_neg (fun q => hc q.2)]
        refine ⟨by simp, fun j hj => absurd hj (by omega), fun j hj => ?_⟩
        cases j with
        | zero => exact Int.le_refl _
        | succ j =>
          rw [e, e0]
          have := f3 j (by simpa using hj)
          omega

/-- The heap H holds what K does: K is in the order in which things were pushed; the next one gets turn T. -/
structure Rel (H : List It) (T : Int) (K : List It) : Prop where
  perm : H.Perm K
  sorted : K.Pairwise (fun x y => x.t < y.t)
  below : ∀ x ∈ K, x.t < T

theorem Rel.len {H K : List It} {T : Int} (h : Rel H T K) : H.length = K.length := h.perm.length_eq
theorem Rel.nil : Rel [] 0 [] := ⟨List.Perm.refl _, List.Pairwise.nil, fun x hx => by cases hx⟩

theorem Rel.push {H K H' : List It} {T : Int} (h : Rel H T K) (a n : Int) (hp : H'.Perm (H ++ [⟨a, n, T⟩])) : Rel H' (T + 1) (K ++ [⟨a, n, T⟩]) := by
  refine ⟨hp.trans (h.perm.append_right _), ?_, ?_⟩
  · rw [List.pairwise_append]
    refine ⟨h.sorted, List.pairwise_singleton _ _, fun x hx y hy => ?_⟩
    rw [List.mem_singleton] at hy
    subst hy
    exact h.below x hx
  · intro x hx
    rcases List.mem_append.1 hx with q | q
    · have := h.below x q
      omega
    · rw [List.mem_singleton] at q
      subst q
      simp only
      omega

theorem sorted_get {K : List It} (h : K.Pairwise (fun x y => x.t < y.t)) {i j : Nat} (hi : i < j) (hj : j < K.length) : (g K i).t < (g K j).t := by
  rw [g_eq (by omega), g_eq hj]
  exact List.pairwise_iff_getElem.1 h i j (by omega) hj hi

theorem Rel.first {H K : List It} {T : Int} (h : Rel H T K) (hH : Heap H) (hn : K ≠ []) : g H 0 = g K (fst (jumps K)) := by
  have hj : jumps K ≠ [] := by simpa [jumps] using hn
  obtain ⟨f1, f2, f3⟩ := fst_first hj
  generalize fst (jumps K) = k at *
  rw [jumps_len] at f1
  have hlen := h.len
  have h0 : 0 < H.length := by omega
  have hm : g H 0 ∈ K := h.perm.mem_iff.1 (by rw [g_eq h0]; exact List.getElem_mem h0)
  obtain ⟨j, hjl, hjv⟩ := List.mem_iff_getElem.1 hm
  have hk : g K k ∈ H := h.perm.mem_iff.2 (by rw [g_eq f1]; exact List.getElem_mem f1)
  have hmin := heap_min_mem hH _ hk
  rw [← g_eq hjl] at hjv
  rw [← hjv] at hmin ⊢
  rcases Nat.lt_trichotomy j k with e | e | e
  · have := f2 j e
    rw [gj_jumps _ _ f1, gj_jumps _ _ hjl] at this
    exact absurd (Or.inl this) hmin
  · rw [e]
  · have h3 := f3 j (by rw [jumps_len]; exact hjl)
    rw [gj_jumps _ _ f1, gj_jumps _ _ hjl] at h3
    have h4 := sorted_get h.sorted e hjl
    exfalso
    unfold lt at hmin
    simp only [It.j] at h3
    omega

theorem erase_perm (K : List It) (k : Nat) (hk : k < K.length) : (g K k :: K.eraseIdx k).Perm K := by
  have e : K = K.take k ++ g K k :: K.drop (k + 1) := by
    rw [g_eq hk, ← List.drop_eq_getElem_cons hk, List.take_append_drop]
  rw [List.eraseIdx_eq_take_drop_succ]
  have h1 := (List.perm_middle (a := g K k) (l₁ := K.take k) (l₂ := K.drop (k + 1))).symm
  exact h1.trans (by rw [← e])

theorem Rel.pop {H H' K : List It} {T : Int} (h : Rel H T K) (hH : Heap H) (hn : K ≠ []) (hp : (g H 0 :: H').Perm H) : Rel H' T (K.eraseIdx (fst (jumps K))) := by
  have hf := h.first hH hn
  have hj : jumps K ≠ [] := by simpa [jumps] using hn
  obtain ⟨f1, _, _⟩ := fst_first hj
  rw [jumps_len] at f1
  generalize fst (jumps K) = k at *
  have hsub := List.eraseIdx_sublist K k
  refine ⟨?_, h.sorted.sublist hsub, fun x hx => h.below x (hsub.mem hx)⟩
  have h1 := erase_perm K k f1
  rw [← hf] at h1
  exact List.Perm.cons_inv ((hp.trans h.perm).trans h1.symm)

theorem jumps_erase (K : List It) (k : Nat) : jumps (K.eraseIdx k) = (jumps K).take k ++ (jumps K).drop (k + 1) := by
  rw [List.eraseIdx_eq_take_drop_succ]
  simp [jumps, List.map_take, List.map_drop]

end Go.Proofs.Ytagcfomjbnecdaa
