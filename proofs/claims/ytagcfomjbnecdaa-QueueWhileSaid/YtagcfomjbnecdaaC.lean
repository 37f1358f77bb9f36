/- What is taken out below a bound; what is popped rises; counting. -/
import Derived.Test.YtagcfomjbnecdaaB
namespace Go.Proofs.Ytagcfomjbnecdaa

/-- What is taken out as long as it is below b, and what is left. -/
def wh (b : Int) : Nat → List J → List J × List J
  | 0, L => ([], L)
  | n + 1, L => if (gj L (fst L)).1 < b then (gj L (fst L) :: (wh b n (L.eraseIdx (fst L))).1, (wh b n (L.eraseIdx (fst L))).2) else ([], L)

theorem erase_len {L : List J} {n : Nat} (h : L.length = n + 1) : (L.eraseIdx (fst L)).length = n := by
  have hn : L ≠ [] := fun e => by subst e; simp at h
  have := (fst_first hn).1
  rw [List.length_eraseIdx, if_pos this]
  omega

theorem wh_len (b : Int) : ∀ (n : Nat) (L : List J), L.length = n → (wh b n L).1.length + (wh b n L).2.length = n
  | 0, L, h => by simp [wh, h]
  | n + 1, L, h => by
    unfold wh
    by_cases hc : (gj L (fst L)).1 < b
    · rw [if_pos hc]
      have := wh_len b n _ (erase_len h)
      simp only [List.length_cons]
      omega
    · rw [if_neg hc]
      simpa using h

/-- A round of taking out: the first one is below b. -/
theorem wh_step {b : Int} {L : List J} (hn : L ≠ []) (hc : (gj L (fst L)).1 < b) : wh b L.length L = (gj L (fst L) :: (wh b (L.eraseIdx (fst L)).length (L.eraseIdx (fst L))).1, (wh b (L.eraseIdx (fst L)).length (L.eraseIdx (fst L))).2) := by
  obtain ⟨n, h⟩ : ∃ n, L.length = n + 1 := ⟨L.length - 1, by have := List.length_pos_iff.2 hn; omega⟩
  rw [erase_len h, h]
  show (if _ then _ else _) = _
  rw [if_pos hc]
theorem wh_stop {b : Int} {L : List J} (hc : ¬ (L ≠ [] ∧ (gj L (fst L)).1 < b)) : wh b L.length L = ([], L) := by
  by_cases hn : L = []
  · subst hn; rfl
  · obtain ⟨n, h⟩ : ∃ n, L.length = n + 1 := ⟨L.length - 1, by have := List.length_pos_iff.2 hn; omega⟩
    rw [h]
    show (if _ then _ else _) = _
    rw [if_neg (fun q => hc ⟨hn, q⟩)]

/-- Some have been popped: out; H holds the others. -/
structure Pops (K0 : List It) (out : List It) (H : List It) : Prop where
  perm : (out ++ H).Perm K0
  rise : ∀ x ∈ H, ∀ y ∈ out.getLast?, y.a ≤ x.a

theorem Pops.start {K0 H : List It} (h : H.Perm K0) : Pops K0 [] H := ⟨by simpa using h, fun _ _ y hy => by cases hy⟩
theorem Pops.next {K0 out H H' : List It} (h : Pops K0 out H) (hH : Heap H) (hp : (g H 0 :: H').Perm H) : Pops K0 (out ++ [g H 0]) H' := by
  refine ⟨?_, fun x hx y hy => ?_⟩
  · rw [List.append_assoc]
    exact (List.Perm.append_left out hp).trans h.perm
  · rw [List.getLast?_append] at hy
    simp at hy
    subst hy
    have hm : x ∈ H := hp.mem_iff.1 (List.mem_cons_of_mem _ hx)
    have := heap_min_mem hH x hm
    unfold lt at this
    omega
theorem Pops.rises {K0 out H : List It} (h : Pops K0 out H) (hn : 0 < H.length) (i : Nat) (hi : out.length = i + 1) : (gj (jumps out) i).1 ≤ (g H 0).a := by
  have h0 : g H 0 ∈ H := by rw [g_eq hn]; exact List.getElem_mem hn
  rw [gj_jumps _ _ (by omega)]
  refine h.rise _ h0 (g out i) ?_
  rw [List.getLast?_eq_getElem?, hi, g_eq (by omega)]
  exact List.getElem?_eq_getElem (by omega)

def cnt (x : J) (L : List J) : Int := (L.count x : Nat)
theorem cnt_take (x : J) (L : List J) (i : Nat) (h : i < L.length) : cnt x (L.take (i + 1)) = cnt x (L.take i) + if gj L i = x then 1 else 0 := by
  unfold cnt
  rw [List.take_succ_eq_append_getElem h, List.count_append, gj_eq h, List.count_singleton]
  by_cases e : L[i] = x
  · simp [e]
  · have e2 : (L[i] == x) = false := by simpa using e
    rw [e2, if_neg e]
    simp
theorem Pops.end_ {K0 out : List It} (h : Pops K0 out []) (x : J) : cnt x (jumps out) = cnt x (jumps K0) := by
  have hp := h.perm
  rw [List.append_nil] at hp
  unfold cnt jumps
  rw [(hp.map It.j).count_eq]

end Go.Proofs.Ytagcfomjbnecdaa
