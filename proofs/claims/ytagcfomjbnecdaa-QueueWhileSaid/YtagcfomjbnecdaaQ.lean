/- The queue and the reference's one, side by side. -/
import Derived.Test.YtagcfomjbnecdaaP
namespace Go.Proofs.Ytagcfomjbnecdaa
open Go.RowKit

theorem RM.push {w w2 : World} {r : Nat} {vL vL2 : Value} {L L2 : List J} (Q : RM w r vL L) (o : Obj) (row : JR w2 vL2 L2) (hg : (w.alloc o).grownBy w2 vL.ownBlock) (hn : NewOr (w.alloc o) vL vL2) :
    RM (w2.setCell ⟨r, 0, none⟩ vL2) r vL2 L2 ∧ Kept (Own r vL) w (w2.setCell ⟨r, 0, none⟩ vL2) ∧ ∀ j, Own r vL2 j → Own r vL j ∨ w.heap.size ≤ j := by
  have k0 : Kept (fun j => vL.ownBlock = some j) w w2 := ((Kept.refl _ w).alloc o).grown hg (fun j hj _ => hj)
  have nr : vL.ownBlock ≠ some r := Q.row.other Q.blk (by decide)
  have hb := k0.heap Q.blk nr
  have hB' : ¬ vL2.ownBlock = some r := row.other hb (by decide)
  have ks : Kept (· = r) w2 (w2.setCell ⟨r, 0, none⟩ vL2) := (Kept.refl (· = r) w2).setCell (p := ⟨r, 0, none⟩) (fun _ => rfl) _
  refine ⟨⟨blk_set hb 0 _, row.kept ks (fun j hj e => hB' (by rw [hj, e]))⟩, k0.trans' ks (fun j _ hj => .inr hj) (fun j _ hj => .inl hj), fun j hj => ?_⟩
  rcases hj with q | q
  · exact .inl (.inl q)
  · rcases hn with e | ⟨k', e, hk'⟩
    · exact .inl (.inr (by rw [← e]; exact q))
    · rw [q] at e
      injection e with e
      have : (w.alloc o).heap.size = w.heap.size + 1 := by simp
      exact .inr (by omega)

/-- Both queues hold the same. -/
structure Two (w : World) (c r : Nat) (wr : World) (k : Nat) (H : List It) (vH : Value) (K : List It) (T : Int) (vL : Value) : Prop where
  q : QM wr c vH H T
  heap : Heap H
  rel : Rel H T K
  ref : RM wr r vL (jumps K)
  oc : ∀ j, Own c vH j → w.heap.size ≤ j
  or_ : ∀ j, Own r vL j → w.heap.size ≤ j
  dis : ∀ j, Own c vH j → ¬ Own r vL j
  kept : Kept (fun _ => False) w wr
  small : H.length ≤ k
  t0 : 0 ≤ T
  t1 : T ≤ k

section
variable {w wr : World} {c r k : Nat} {H : List It} {vH : Value} {K : List It} {T : Int} {vL : Value}
theorem Two.kept2 (I : Two w c r wr k H vH K T vL) {w2 : World} (h : Kept (fun _ => False) wr w2) : Two w c r w2 k H vH K T vL :=
  ⟨I.q.kept h (fun _ _ q => q), I.heap, I.rel, I.ref.kept h (fun _ _ q => q), I.oc, I.or_, I.dis, I.kept.trans h, I.small, I.t0, I.t1⟩
theorem Two.more (I : Two w c r wr k H vH K T vL) {k2 : Nat} (h : k ≤ k2) : Two w c r wr k2 H vH K T vL :=
  ⟨I.q, I.heap, I.rel, I.ref, I.oc, I.or_, I.dis, I.kept, by have := I.small; omega, I.t0, by have := I.t1; omega⟩

/-- One more has been pushed into the first, and put behind the second. -/
theorem Two.push (I : Two w c r wr k H vH K T vL) {x : J} {wa w2 w4 : World} (kA : Kept (fun _ => False) wr wa) {H2 : List It} {vH2 : Value} {K2 : List It} (h1 : Heap H2) (h2 : Rel H2 (T + 1) K2) (h3 : jumps K2 = jumps K ++ [x]) (h4 : QM w2 c vH2 H2 (T + 1))
    (h5 : Kept (Own c vH) wa w2) (h6 : ∀ j, Own c vH2 j → Own c vH j ∨ wa.heap.size ≤ j) {vL2 : Value} (g1 : RM w4 r vL2 (jumps K ++ [x])) (g2 : Kept (Own r vL) w2 w4) (g3 : ∀ j, Own r vL2 j → Own r vL j ∨ w2.heap.size ≤ j) :
    Two w c r w4 (k + 1) H2 vH2 K2 (T + 1) vL2 := by
  have s1 := I.kept.size
  have s2 := kA.size
  have s3 := h5.size
  have rl : ∀ j, Own r vL j → j < wr.heap.size := fun j hj => I.ref.ownlt hj
  have nd : ∀ j, Own c vH2 j → ¬ Own r vL j := fun j hj q => by
    rcases h6 j hj with e | e
    · exact I.dis j e q
    · have := rl j q; omega
  refine ⟨h4.kept g2 nd, h1, h2, by rw [h3]; exact g1, fun j hj => ?_, fun j hj => ?_, fun j hj q => ?_, ?_, ?_, by have := I.t0; omega, by have := I.t1; omega⟩
  · rcases h6 j hj with e | e
    · exact I.oc j e
    · omega
  · rcases g3 j hj with e | e
    · exact I.or_ j e
    · omega
  · rcases g3 j q with e | e
    · exact nd j hj e
    · have := h4.ownlt hj; omega
  · refine ((I.kept.trans kA).trans' h5 (fun _ _ q => q) (fun j hj q => ?_)).trans' g2 (fun _ _ q => q) (fun j hj q => ?_)
    · have := I.oc j q; omega
    · have := I.or_ j q; omega
  · have e1 := h2.len
    have e2 := I.rel.len
    have e3 := congrArg List.length h3
    rw [jumps_len, List.length_append, jumps_len] at e3
    have := I.small
    simp only [List.length_cons, List.length_nil] at e3
    omega

/-- The first one has been taken out of both. -/
theorem Two.pop (I : Two w c r wr k H vH K T vL) (hn : K ≠ []) {w2 w3 w4 : World} {H2 : List It} {vH2 : Value} (h1 : (g H 0 :: H2).Perm H) (h2 : Heap H2) (h3 : QM w2 c vH2 H2 T) (h4 : Kept (Own c vH) wr w2) (h5 : vH2.ownBlock = vH.ownBlock)
    (kB : Kept (fun _ => False) w2 w3) {vL2 : Value} (g1 : RM w4 r vL2 ((jumps K).take (fst (jumps K)) ++ (jumps K).drop (fst (jumps K) + 1))) (g2 : Kept (fun j => j = r) w3 w4) (g3 : ∀ j, vL2.ownBlock = some j → w3.heap.size ≤ j) :
    Two w c r w4 k H2 vH2 (K.eraseIdx (fst (jumps K))) T vL2 := by
  have s1 := I.kept.size
  have s2 := h4.size
  have s3 := kB.size
  have eq : ∀ j, Own c vH2 j ↔ Own c vH j := fun j => by unfold Own; rw [h5]
  have cl : ∀ j, Own c vH j → j < wr.heap.size := fun j hj => I.q.ownlt hj
  refine ⟨(h3.kept kB (fun _ _ q => q)).kept g2 (fun j hj q => I.dis j ((eq j).1 hj) (.inl q)), h2, I.rel.pop I.heap hn h1, by rw [jumps_erase]; exact g1, fun j hj => I.oc j ((eq j).1 hj), fun j hj => ?_, fun j hj q => ?_, ?_, ?_, I.t0, I.t1⟩
  · rcases hj with q | q
    · exact I.or_ j (.inl q)
    · have := g3 j q; omega
  · have hj := (eq j).1 hj
    rcases q with q | q
    · exact I.dis j hj (.inl q)
    · have := g3 j q
      have := cl j hj
      omega
  · refine ((I.kept.trans' h4 (fun _ _ q => q) (fun j hj q => ?_)).trans kB).trans' g2 (fun _ _ q => q) (fun j hj q => ?_)
    · have := I.oc j q; omega
    · have := I.or_ j (.inl q); omega
  · have := h1.length_eq
    have := I.small
    simp only [List.length_cons] at *
    omega

theorem Two.empty (I : Two w c r wr k H vH [] T vL) : H = [] := List.eq_nil_of_length_eq_zero (by rw [I.rel.len]; rfl)
theorem Two.some_ (I : Two w c r wr k H vH K T vL) (hn : K ≠ []) : H ≠ [] := fun e => hn (List.eq_nil_of_length_eq_zero (by rw [← I.rel.len, e]; rfl))
end

/-- The ops at A read as P. -/
def OpsR (w : World) (A : Option Addr) (P : List (Int × J)) : Prop :=
  ∀ i x, P[i]? = some x → ∃ b off, A = some ⟨b, off, none⟩ ∧ w.cell? ⟨b, off + i * 3, none⟩ = some (.int .i64 x.1) ∧ w.cell? ⟨b, off + i * 3 + 1, none⟩ = some (.int .i64 x.2.1) ∧ w.cell? ⟨b, off + i * 3 + 2, none⟩ = some (.int .i64 x.2.2)

end Go.Proofs.Ytagcfomjbnecdaa
