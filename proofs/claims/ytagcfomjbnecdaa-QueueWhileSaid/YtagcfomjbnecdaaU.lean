/- QueueSorts' walk. -/
import Derived.Test.YtagcfomjbnecdaaT
namespace Go.Proofs.Ytagcfomjbnecdaa
open Go.RowKit

theorem JS.weak {w w' : World} {N N' : Nat → Prop} {A : Option Addr} {L : List J} (h : JS w N A L) (k : Kept (fun _ => False) w w') (hN : ∀ j, N' j → N j) : JS w' N' A L := by
  intro i hi
  obtain ⟨b, off, e, hb, c0, c1⟩ := h i hi
  exact ⟨b, off, e, fun q => hb (hN b q), k.cell c0 (fun q => q), k.cell c1 (fun q => q)⟩

/-- All that was pushed: some have been popped, out; H holds the others. -/
structure SortI (w : World) (c : Nat) (wr : World) (k : Nat) (K0 : List It) (T : Int) (H : List It) (vH : Value) (out : List It) (vO : Value) : Prop where
  q : QM wr c vH H T
  heap : Heap H
  pops : Pops K0 out H
  len : out.length = k
  row : JR wr vO (jumps out)
  oc : ∀ j, Own c vH j → w.heap.size ≤ j
  oo : ∀ j, vO.ownBlock = some j → w.heap.size ≤ j ∧ ¬ Own c vH j
  kept : Kept (fun _ => False) w wr

theorem SortI.all {w wr : World} {c k : Nat} {K0 : List It} {T : Int} {H : List It} {vH : Value} {out : List It} {vO : Value} (I : SortI w c wr k K0 T H vH out vO) : k + H.length = K0.length := by
  have := I.pops.perm.length_eq
  rw [List.length_append, I.len] at this
  exact this

theorem SortI.next {w wr w2 w3 w4 : World} {c k : Nat} {K0 : List It} {T : Int} {H : List It} {vH : Value} {out : List It} {vO : Value} (I : SortI w c wr k K0 T H vH out vO)
    {H2 : List It} {vH2 : Value} (h1 : (g H 0 :: H2).Perm H) (h2 : Heap H2) (h3 : QM w2 c vH2 H2 T) (h4 : Kept (Own c vH) wr w2) (h5 : vH2.ownBlock = vH.ownBlock) (kB : Kept (fun _ => False) w2 w3)
    {vO2 : Value} (r : JR w4 vO2 (jumps (out ++ [g H 0]))) (kg : Kept (fun j => vO.ownBlock = some j) w3 w4) (hn : ∀ j, vO2.ownBlock = some j → vO.ownBlock = some j ∨ w3.heap.size ≤ j) :
    SortI w c w4 (k + 1) K0 T H2 vH2 (out ++ [g H 0]) vO2 := by
  have s1 := I.kept.size
  have s2 := h4.size
  have s3 := kB.size
  have eq : ∀ j, Own c vH2 j ↔ Own c vH j := fun j => by unfold Own; rw [h5]
  have cl : ∀ j, Own c vH j → j < wr.heap.size := fun j hj => I.q.ownlt hj
  refine ⟨(h3.kept kB (fun _ _ q => q)).kept kg (fun j hj q => (I.oo j q).2 ((eq j).1 hj)), h2, I.pops.next I.heap h1, by rw [List.length_append, I.len]; rfl, r, fun j hj => I.oc j ((eq j).1 hj), fun j hj => ?_, ?_⟩
  · rcases hn j hj with q | q
    · exact ⟨(I.oo j q).1, fun e => (I.oo j q).2 ((eq j).1 e)⟩
    · exact ⟨by omega, fun e => by have := cl j ((eq j).1 e); omega⟩
  · refine ((I.kept.trans' h4 (fun _ _ q => q) (fun j hj q => ?_)).trans kB).trans' kg (fun _ _ q => q) (fun j hj q => ?_)
    · have := I.oc j q; omega
    · have := (I.oo j q).1; omega

theorem cnt_bd (x : J) (L : List J) (j : Nat) : 0 ≤ cnt x (L.take j) ∧ cnt x (L.take j) ≤ j := by
  unfold cnt
  have h1 := List.count_le_length (a := x) (l := L.take j)
  have h2 : (L.take j).length ≤ j := List.length_take_le _ _
  omega

theorem jne2 {x y : J} (h : ¬ x = y) : (x.1 == y.1) = false ∨ (x.1 = y.1 ∧ (x.2 == y.2) = false) := by
  by_cases h1 : x.1 = y.1
  · refine .inr ⟨h1, ?_⟩
    have : ¬ x.2 = y.2 := fun h2 => h (Prod.ext h1 h2)
    simpa using this
  · exact .inl (by simpa using h1)

theorem jumps_snoc (out : List It) (x : It) : jumps (out ++ [x]) = jumps out ++ [(x.a, x.n)] := by simp [jumps, It.j]

end Go.Proofs.Ytagcfomjbnecdaa
