/- FrameCuts: behind each piece the frames that ended are those of all bytes together. -/
import Derived.Test.YtfminplenemfnaaW
namespace Go.Proofs.Ytfminplenemfnaa
open Go.RowKit

theorem Own.lt {w : World} {c : Nat} {vL vB : Value} {r : List Int} (h : St w c vL vB r) {j : Nat} (hj : Own c vL vB j) : j < w.heap.size := by
  rcases hj with q | q | q
  · have := Cut.lt h; omega
  · exact h.rowL.lt j q
  · exact h.rowB.lt j q

theorem held_st (w : World) (c : Nat) (vL vB : Value) (r : List Int) (h : St w c vL vB r) (hl : r.length ≤ 70000) :
    Calls Try.prog 14 #[.pointer (some ⟨c, 0, none⟩)] w fun e w' => e = .returned (.int .i64 r.length) ∧ ∃ n, w' = w.drewN n := by
  have h0 := held_any w c vL vB _ _ _ h (by rw [List.length_take]; omega) (by unfold gotOf; omega)
  refine h0.mono fun e w' ⟨he, hn⟩ => ⟨?_, hn⟩
  rw [he]
  have : ((r.take 2).length : Int) + gotOf r = r.length := by unfold gotOf; rw [List.length_take]; omega
  rw [this]

theorem opn_len {r : List Int} (ho : Opn r) (hb : Bytes r) : r.length ≤ 70000 := by
  match r, ho, hb with
  | [], _, _ => simp
  | [_], _, _ => simp
  | a :: b :: t, ho, hb =>
    have ha := hb a (by simp)
    have hb := hb b (by simp)
    simp only [List.length_cons]
    rcases ho with h | h
    · simp only [List.length_cons] at h
      omega
    · rw [wantN_two] at h
      simp only [List.length_cons] at h
      omega

/-- What holds at the head of FrameCuts' loop: t came. -/
structure CutsI (w : World) (c : Nat) (wr : World) (t : List Int) (vG vA vL vB : Value) (vs : List (Value × Int)) : Prop where
  st : St wr c vL vB (parse t).2
  own : ∀ j, Own c vL vB j → w.heap.size ≤ j
  g : FR wr vG vs
  gown : ∀ j, vG.ownBlock = some j → w.heap.size ≤ j ∧ ¬ Own c vL vB j
  a : OR wr vA t
  aown : ∀ j, vA.ownBlock = some j → w.heap.size ≤ j ∧ ¬ Own c vL vB j ∧ vG.ownBlock ≠ some j
  fits : Fits wr (fun j => Own c vL vB j ∨ vG.ownBlock = some j ∨ vA.ownBlock = some j) vs (parse t).1
  kept : Kept (fun _ => False) w wr

/-- A piece l has been fed, its frames and its bytes have been put behind. -/
theorem CutsI.next {w wr w1 w2 w3 w4 w5 : World} {c : Nat} {t l : List Int} {vG vA vL vB vO vG' vA' vL2 vB2 : Value} {vs vs2 : List (Value × Int)} (I : CutsI w c wr t vG vA vL vB vs)
    (k1 : Kept (fun _ => False) wr w1)
    (F2 : Fits w2 (fun k => Own c vL2 vB2 k ∨ vO.ownBlock = some k ∨ ¬ (Own c vL vB k ∨ w1.heap.size ≤ k)) vs2 (parse ((parse t).2 ++ l)).1)
    (S2 : St w2 c vL2 vB2 (parse ((parse t).2 ++ l)).2) (K2 : Kept (Own c vL vB) w1 w2) (J2 : ∀ k, Own c vL2 vB2 k → Own c vL vB k ∨ w1.heap.size ≤ k)
    (R3 : FR w3 vG' (vs ++ vs2)) (g3 : w2.grownBy w3 vG.ownBlock) (n3 : NewOr w2 vG vG')
    (R4 : OR w4 vA' (t ++ l)) (g4 : w3.grownBy w4 vA.ownBlock) (n4 : NewOr w3 vA vA') (k5 : Kept (fun _ => False) w4 w5) :
    CutsI w c w5 (t ++ l) vG' vA' vL2 vB2 (vs ++ vs2) := by
  have s1 := k1.size
  have s2 := K2.size
  have K3 : Kept (fun j => vG.ownBlock = some j) w2 w3 := (Kept.refl _ w2).grown g3 (fun j hj _ => hj)
  have K4 : Kept (fun j => vA.ownBlock = some j) w3 w4 := (Kept.refl _ w3).grown g4 (fun j hj _ => hj)
  have s3 := K3.size
  have s4 := K4.size
  have s5 := k5.size
  have s0 := I.kept.size
  have gl : ∀ j, vG.ownBlock = some j → j < wr.heap.size := fun j hj => (World.ownsRow.lt I.g j hj).2
  have al : ∀ j, vA.ownBlock = some j → j < wr.heap.size := fun j hj => I.a.lt j hj
  have gN : ∀ j, vG.ownBlock = some j → ¬ Own c vL2 vB2 j := fun j hj q => by
    rcases J2 j q with q | q
    · exact (I.gown j hj).2 q
    · have := gl j hj; omega
  have aN : ∀ j, vA.ownBlock = some j → ¬ Own c vL2 vB2 j := fun j hj q => by
    rcases J2 j q with q | q
    · exact (I.aown j hj).2.1 q
    · have := al j hj; omega
  have g' : ∀ j, vG'.ownBlock = some j → vG.ownBlock = some j ∨ w2.heap.size ≤ j := fun j hj => by
    rcases n3 with e | ⟨j', e, hj'⟩
    · exact .inl (by rw [← e]; exact hj)
    · rw [hj] at e; injection e with e; exact .inr (by omega)
  have a' : ∀ j, vA'.ownBlock = some j → vA.ownBlock = some j ∨ w3.heap.size ≤ j := fun j hj => by
    rcases n4 with e | ⟨j', e, hj'⟩
    · exact .inl (by rw [← e]; exact hj)
    · rw [hj] at e; injection e with e; exact .inr (by omega)
  have o2 : ∀ j, Own c vL2 vB2 j → j < w2.heap.size := fun j hj => Own.lt S2 hj
  have g3l : ∀ j, vG'.ownBlock = some j → j < w3.heap.size := fun j hj => (World.ownsRow.lt R3 j hj).2
  have KA : Kept (fun j => vG.ownBlock = some j ∨ vA.ownBlock = some j) w2 w5 := ((K3.mono (fun _ _ q => Or.inl q)).trans (K4.mono (fun _ _ q => Or.inr q))).trans (k5.mono (fun _ _ q => q.elim))
  have KB : Kept (fun j => Own c vL vB j ∨ vG.ownBlock = some j ∨ vA.ownBlock = some j) wr w5 := ((k1.mono (fun _ _ q => q.elim)).trans (K2.mono (fun _ _ q => Or.inl q))).trans (KA.mono (fun _ _ q => Or.inr q))
  have KC : Kept (fun _ => False) w w5 := I.kept.trans' KB (fun _ _ q => q) (fun j hj q => by
    rcases q with q | q | q
    · have := I.own j q; omega
    · have := (I.gown j q).1; omega
    · have := (I.aown j q).1; omega)
  have hp := parse_app t l
  refine ⟨?_, ?_, ?_, ?_, ?_, ?_, ?_, KC⟩
  · rw [hp]
    exact Cut.kept S2 KA (fun j hj q => q.elim (fun q => gN j q hj) (fun q => aN j q hj))
  · intro j hj
    rcases J2 j hj with q | q
    · exact I.own j q
    · omega
  · refine (R3.kept K4 (fun j hj q => ?_)).kept k5 (fun _ _ q => q)
    rcases g' j hj with e | e
    · exact (I.aown j q).2.2 e
    · have := al j q; omega
  · intro j hj
    rcases g' j hj with e | e
    · exact ⟨(I.gown j e).1, gN j e⟩
    · exact ⟨by omega, fun q => by have := o2 j q; omega⟩
  · exact R4.kept k5 (fun _ _ q => q)
  · intro j hj
    rcases a' j hj with e | e
    · refine ⟨(I.aown j e).1, aN j e, fun q => ?_⟩
      rcases g' j q with q | q
      · exact (I.aown j e).2.2 q
      · have := al j e; omega
    · exact ⟨by omega, fun q => by have := o2 j q; omega, fun q => by have := g3l j q; omega⟩
  · rw [hp]
    refine Fits.app (I.fits.kept KB (fun _ _ q => q) (fun j hj q => ?_)) (F2.kept KA (fun j hj q => ?_) (fun j hj q => ?_))
    · rcases q with q | q | q
      · exact .inl ((J2 j q).resolve_right (by omega))
      · exact .inr (.inl ((g' j q).resolve_right (by omega)))
      · exact .inr (.inr ((a' j q).resolve_right (by omega)))
    · refine .inr (.inr ?_)
      rcases q with q | q
      · rintro (r | r)
        · exact (I.gown j q).2 r
        · have := gl j q; omega
      · rintro (r | r)
        · exact (I.aown j q).2.1 r
        · have := al j q; omega
    · rcases q with q | q | q
      · exact .inl q
      · have q := (g' j q).resolve_right (by omega)
        refine .inr (.inr ?_)
        rintro (r | r)
        · exact (I.gown j q).2 r
        · have := gl j q; omega
      · have q := (a' j q).resolve_right (by omega)
        refine .inr (.inr ?_)
        rintro (r | r)
        · exact (I.aown j q).2.1 r
        · have := al j q; omega

theorem CutsI.drewN {w wr : World} {c : Nat} {t : List Int} {vG vA vL vB : Value} {vs : List (Value × Int)} (I : CutsI w c wr t vG vA vL vB vs) (n : Nat) : CutsI w c (wr.drewN n) t vG vA vL vB vs :=
  ⟨Cut.drewN I.st n, I.own, I.g, I.gown, I.a, I.aown, I.fits, I.kept.drewN n⟩

section
variable {w wr w1 w2 w3 : World} {c : Nat} {t : List Int} {vG vA vL vB : Value} {vs : List (Value × Int)} (I : CutsI w c wr t vG vA vL vB vs) (k1 : Kept (fun _ => False) wr w1) (K2 : Kept (Own c vL vB) w1 w2)
include I k1 K2
theorem CutsI.rowG : FR w2 vG vs := (I.g.kept k1 (fun _ _ q => q)).kept K2 (fun j hj => (I.gown j hj).2)
theorem CutsI.rowA (g3 : w2.grownBy w3 vG.ownBlock) : OR w3 vA t :=
  ((I.a.kept k1 (fun _ _ q => q)).kept K2 (fun j hj => (I.aown j hj).2.1)).kept ((Kept.refl (fun j => vG.ownBlock = some j) w2).grown g3 (fun _ hj _ => hj)) (fun j hj => (I.aown j hj).2.2)
theorem CutsI.args (g3 : w2.grownBy w3 vG.ownBlock) : Kept (fun _ => False) w w3 := by
  have s0 := I.kept.size
  refine I.kept.trans' ((k1.mono (T := fun j => Own c vL vB j ∨ vG.ownBlock = some j) (fun _ _ q => q.elim)).trans ((K2.mono (fun _ _ q => Or.inl q)).trans (((Kept.refl (fun j => vG.ownBlock = some j) w2).grown g3 (fun _ hj _ => hj)).mono (fun _ _ q => Or.inr q)))) (fun _ _ q => q) (fun j hj q => ?_)
  rcases q with q | q
  · have := I.own j q; omega
  · have := (I.gown j q).1; omega
end

theorem NewOr.fresh {w w1 : World} {v v' : Value} (h : NewOr w1 v v') (hv : ∀ k, v.ownBlock = some k → w.heap.size ≤ k) (hw : w.heap.size ≤ w1.heap.size) : ∀ k, v'.ownBlock = some k → w.heap.size ≤ k := h.ge hv hw

theorem OR.toN2 {w : World} {v : Value} {l : List Int} (h : OR w v l) (N : Nat → Prop) (hN : ∀ j, N j → j < w.heap.size) (hv : ∀ k, v.ownBlock = some k → ¬ N k) : ∃ g, ¬ N g ∧ SlN w g v l := by
  rcases h.reads with ⟨rfl, rfl⟩ | ⟨g, hg, hs⟩
  · exact ⟨w.heap.size, fun q => by have := hN _ q; omega, ⟨Option.none, 0, rfl, Nat.le_refl _, fun q => absurd rfl q⟩⟩
  · exact ⟨g, hv g hg, SlA.toN (.inr (.inr hs))⟩

end Go.Proofs.Ytfminplenemfnaa
