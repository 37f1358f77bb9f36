/- FrameSplits: two cutters, of which one gets two pieces and the other both as one. -/
import Derived.Test.YtfminplenemfnaaY
namespace Go.Proofs.Ytfminplenemfnaa
open Go.RowKit

theorem FR.other {w : World} {v : Value} {vs : List (Value × Int)} (h : FR w v vs) {c : Nat} {cs : Array Value} {T : TypeId} (hc : w.heap[c]? = some (.cells cs T (0, 0))) (hT : T ≠ 41) : v.ownBlock ≠ some c := by
  intro he
  rcases h.2 with ⟨rfl, _⟩ | ⟨g, cap, cur, rfl, _, hg, _⟩
  · cases he
  · simp [Value.ownBlock] at he
    subst he
    rw [hg] at hc
    injection hc with hc
    injection hc with _ h2 _
    exact hT h2.symm

theorem SlA.toN2 {w0 w : World} {g : Nat} {v : Value} {l : List Int} (h : SlA w0 g v l) (k : Kept (fun _ => False) w0 w) (N : Nat → Prop) (hN : ∀ j, N j → w0.heap.size ≤ j ∧ j < w.heap.size) : ∃ g', ¬ N g' ∧ SlN w g' v l := by
  rcases h with ⟨rfl, rfl⟩ | ⟨a, cap, rfl, rfl⟩ | h
  · exact ⟨w.heap.size, fun q => by have := hN _ q; omega, ⟨none, 0, rfl, Nat.le_refl _, fun q => absurd rfl q⟩⟩
  · exact ⟨w.heap.size, fun q => by have := hN _ q; omega, ⟨some a, cap, rfl, Nat.zero_le _, fun q => absurd rfl q⟩⟩
  · have hg : g < w0.heap.size := by obtain ⟨o, cap, _, _, h3, _⟩ := h; exact h3
    exact ⟨g, fun q => by have := hN _ q; omega, SlA.toN (.inr (.inr (h.kept k (fun q => q))))⟩

/-- The first cutter has got t, the second one nothing. -/
structure SpI (w : World) (c d : Nat) (wr : World) (t : List Int) (vG vL vB : Value) (vs : List (Value × Int)) : Prop where
  st : St wr c vL vB (parse t).2
  own : ∀ j, Own c vL vB j → w.heap.size ≤ j
  g : FR wr vG vs
  gown : ∀ j, vG.ownBlock = some j → w.heap.size ≤ j ∧ ¬ Own c vL vB j
  fits : Fits wr (fun j => Own c vL vB j ∨ vG.ownBlock = some j ∨ j = d) vs (parse t).1
  cutd : Cut wr d (.slice none 0 0) (.slice none 0 0) [] [] 0
  dne : ¬ Own c vL vB d
  gd : vG.ownBlock ≠ some d
  dge : w.heap.size ≤ d
  kept : Kept (fun _ => False) w wr

theorem own_nil {c : Nat} {j : Nat} (h : Own c (.slice none 0 0) (.slice none 0 0) j) : j = c := by
  rcases h with q | q | q
  · exact q
  · cases q
  · cases q

/-- A cutter's block is not among another one's. -/
theorem Cut.apart2 {w : World} {c d : Nat} {vL vB : Value} {hd body : List Int} {got : Int} (h : Cut w c vL vB hd body got) (k : Cut w d (.slice none 0 0) (.slice none 0 0) [] [] 0) (hne : d ≠ c) : ¬ Own c vL vB d := by
  rintro (q | q | q)
  · exact hne q
  · exact h.rowL.other k.blk (by decide) q
  · exact h.rowB.other k.blk (by decide) q

theorem SpI.first {w w2 w3 : World} {c d : Nat} {t : List Int} {vO vL2 vB2 : Value} {vs : List (Value × Int)} (hc : w.heap.size ≤ c) (hd : w.heap.size ≤ d) (hcd : d ≠ c) (k : Kept (fun _ => False) w w2)
    (D : Cut w2 d (.slice none 0 0) (.slice none 0 0) [] [] 0) (R : FR w3 vO vs) (O : ∀ k, vO.ownBlock = some k → w2.heap.size ≤ k ∧ ¬ Own c vL2 vB2 k)
    (F : Fits w3 (fun k => Own c vL2 vB2 k ∨ vO.ownBlock = some k ∨ ¬ (Own c (.slice none 0 0) (.slice none 0 0) k ∨ w2.heap.size ≤ k)) vs (parse ([] ++ t)).1)
    (S : St w3 c vL2 vB2 (parse ([] ++ t)).2) (K : Kept (Own c (.slice none 0 0) (.slice none 0 0)) w2 w3) (J : ∀ k, Own c vL2 vB2 k → Own c (.slice none 0 0) (.slice none 0 0) k ∨ w2.heap.size ≤ k) :
    SpI w c d w3 t vO vL2 vB2 vs := by
  have s0 := k.size
  have dl := D.lt
  have D3 := D.kept K (fun g hg q => hcd (by rw [← own_nil hg, own_nil q]))
  rw [List.nil_append] at F S
  refine ⟨S, ?_, R, ?_, F.kept (Kept.refl (fun _ => False) w3) (fun _ _ q => q.elim) (fun j hj q => ?_), D3, S.apart2 D3 hcd, R.other D3.blk (by decide), hd, ?_⟩
  · intro j hj
    rcases J j hj with q | q
    · rw [own_nil q]; exact hc
    · omega
  · intro j hj
    exact ⟨by have := (O j hj).1; omega, (O j hj).2⟩
  · rcases q with q | q | q
    · exact .inl q
    · exact .inr (.inl q)
    · refine .inr (.inr ?_)
      subst q
      rintro (q | q)
      · exact hcd (own_nil q)
      · omega
  · refine k.trans' K (fun _ _ q => q) (fun j hj q => ?_)
    rw [own_nil q] at hj
    omega

theorem SpI.next {w wr w2 w3 : World} {c d : Nat} {t l : List Int} {vG vL vB vO vG' vL2 vB2 : Value} {vs vs2 : List (Value × Int)} (I : SpI w c d wr t vG vL vB vs)
    (F2 : Fits w2 (fun k => Own c vL2 vB2 k ∨ vO.ownBlock = some k ∨ ¬ (Own c vL vB k ∨ wr.heap.size ≤ k)) vs2 (parse ((parse t).2 ++ l)).1)
    (S2 : St w2 c vL2 vB2 (parse ((parse t).2 ++ l)).2) (K2 : Kept (Own c vL vB) wr w2) (J2 : ∀ k, Own c vL2 vB2 k → Own c vL vB k ∨ wr.heap.size ≤ k)
    (R3 : FR w3 vG' (vs ++ vs2)) (g3 : w2.grownBy w3 vG.ownBlock) (n3 : NewOr w2 vG vG') : SpI w c d w3 (t ++ l) vG' vL2 vB2 (vs ++ vs2) := by
  have s2 := K2.size
  have K3 : Kept (fun j => vG.ownBlock = some j) w2 w3 := (Kept.refl _ w2).grown g3 (fun _ hj _ => hj)
  have s3 := K3.size
  have s0 := I.kept.size
  have gl : ∀ j, vG.ownBlock = some j → j < wr.heap.size := fun j hj => (World.ownsRow.lt I.g j hj).2
  have dl := I.cutd.lt
  have gN : ∀ j, vG.ownBlock = some j → ¬ Own c vL2 vB2 j := fun j hj q => by
    rcases J2 j q with q | q
    · exact (I.gown j hj).2 q
    · have := gl j hj; omega
  have g' : ∀ j, vG'.ownBlock = some j → vG.ownBlock = some j ∨ w2.heap.size ≤ j := fun j hj => by
    rcases n3 with e | ⟨j', e, hj'⟩
    · exact .inl (by rw [← e]; exact hj)
    · rw [hj] at e; injection e with e; exact .inr (by omega)
  have o2 : ∀ j, Own c vL2 vB2 j → j < w2.heap.size := fun j hj => Own.lt S2 hj
  have KB : Kept (fun j => Own c vL vB j ∨ vG.ownBlock = some j) wr w3 := (K2.mono (fun _ _ q => Or.inl q)).trans (K3.mono (fun _ _ q => Or.inr q))
  have KC : Kept (fun _ => False) w w3 := I.kept.trans' KB (fun _ _ q => q) (fun j hj q => by
    rcases q with q | q
    · have := I.own j q; omega
    · have := (I.gown j q).1; omega)
  have D2 := I.cutd.kept K2 (fun g hg q => I.dne (by rw [← own_nil hg]; exact q))
  have D3 := D2.kept K3 (fun g hg q => I.gd (by rw [← own_nil hg]; exact q))
  have S3 : St w3 c vL2 vB2 (parse ((parse t).2 ++ l)).2 := Cut.kept S2 K3 (fun j hj q => gN j q hj)
  have dn : ¬ Own c vL2 vB2 d := fun q => (J2 d q).elim I.dne (fun q => by omega)
  have hp := parse_app t l
  refine ⟨?_, ?_, R3, ?_, ?_, D3, dn, R3.other D3.blk (by decide), I.dge, KC⟩
  · rw [hp]; exact S3
  · intro j hj
    rcases J2 j hj with q | q
    · exact I.own j q
    · omega
  · intro j hj
    rcases g' j hj with e | e
    · exact ⟨(I.gown j e).1, gN j e⟩
    · exact ⟨by omega, fun q => by have := o2 j q; omega⟩
  · rw [hp]
    refine Fits.app (I.fits.kept KB (fun j _ q => q.elim Or.inl (fun q => .inr (.inl q))) (fun j hj q => ?_)) (F2.kept K3 (fun j hj q => ?_) (fun j hj q => ?_))
    · rcases q with q | q | q
      · exact .inl ((J2 j q).resolve_right (by omega))
      · exact .inr (.inl ((g' j q).resolve_right (by omega)))
      · exact .inr (.inr q)
    · refine .inr (.inr ?_)
      rintro (r | r)
      · exact (I.gown j q).2 r
      · have := gl j q; omega
    · rcases q with q | q | q
      · exact .inl q
      · have q := (g' j q).resolve_right (by omega)
        refine .inr (.inr ?_)
        rintro (r | r)
        · exact (I.gown j q).2 r
        · have := gl j q; omega
      · refine .inr (.inr ?_)
        subst q
        rintro (r | r)
        · exact I.dne r
        · omega

theorem SpI.kept2 {w wr w2 : World} {c d : Nat} {t : List Int} {vG vL vB : Value} {vs : List (Value × Int)} (I : SpI w c d wr t vG vL vB vs) (k : Kept (fun _ => False) wr w2) : SpI w c d w2 t vG vL vB vs :=
  ⟨Cut.kept I.st k (fun _ _ q => q), I.own, I.g.kept k (fun _ _ q => q), I.gown, I.fits.kept k (fun _ _ q => q.elim) (fun _ _ q => q), I.cutd.kept k (fun _ _ q => q), I.dne, I.gd, I.dge, I.kept.trans k⟩

/-- Behind the second cutter's Feed. -/
theorem SpI.last {w wr w2 : World} {c d : Nat} {t : List Int} {vG vL vB : Value} {vs : List (Value × Int)} (I : SpI w c d wr t vG vL vB vs) (k : Kept (Own d (.slice none 0 0) (.slice none 0 0)) wr w2) :
    St w2 c vL vB (parse t).2 ∧ FR w2 vG vs ∧ Fits w2 (fun _ => False) vs (parse t).1 ∧ Kept (fun _ => False) w w2 := by
  refine ⟨Cut.kept I.st k (fun g hg q => I.dne (by rw [← own_nil q]; exact hg)), I.g.kept k (fun g hg q => I.gd (by rw [← own_nil q]; exact hg)), I.fits.kept k (fun j _ q => .inr (.inr (own_nil q))) (fun _ _ q => q.elim), I.kept.trans' k (fun _ _ q => q) (fun j hj q => ?_)⟩
  rw [own_nil q] at hj
  have := I.dge
  omega

end Go.Proofs.Ytfminplenemfnaa
