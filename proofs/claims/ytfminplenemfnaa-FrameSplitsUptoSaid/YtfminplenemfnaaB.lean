/- Contracts of New and take. -/
import Derived.Test.YtfminplenemfnaaA
import Derived.Test.YtfminplenemfnaaO
import Derived.Deep.RegionLaw
namespace Go.Proofs.Ytfminplenemfnaa
open Go.RowKit

theorem new_any (w : World) : Calls Try.prog 10 #[] w fun e w' => ∃ c, e = .returned (.pointer (some ⟨c, 0, none⟩)) ∧ w.heap.size ≤ c ∧ Cut w' c (.slice none 0 0) (.slice none 0 0) [] [] 0 ∧ Kept (fun _ => False) w w' := by
  go_enter Try.func10, Try.ntmps10
  go_wp2
  go_ret
  exact ⟨_, rfl, Nat.le_refl _, ⟨heap_alloc_new w _, OR.none _, OR.none _, fun k h => by cases h⟩, (Kept.refl _ _).alloc _⟩

theorem take_get {l : List Int} {n j : Nat} {u : Int} (h : (l.take n)[j]? = some u) : l[j]? = some u := by
  rw [List.getElem?_take] at h
  split at h
  · exact h
  · cases h

theorem blk_c0 {w : World} {c : Nat} {x y z : Value} {T : TypeId} {f : Nat × Nat} (h : w.heap[c]? = some (.cells #[x, y, z] T f)) : w.cell? ⟨c, 0, none⟩ = some x := by rw [cell_of_row w c 0 _ T f h]; rfl
theorem blk_c1 {w : World} {c : Nat} {x y z : Value} {T : TypeId} {f : Nat × Nat} (h : w.heap[c]? = some (.cells #[x, y, z] T f)) : w.cell? ⟨c, 1, none⟩ = some y := by rw [cell_of_row w c 1 _ T f h]; rfl
theorem blk_c2 {w : World} {c : Nat} {x y z : Value} {T : TypeId} {f : Nat × Nat} (h : w.heap[c]? = some (.cells #[x, y, z] T f)) : w.cell? ⟨c, 2, none⟩ = some z := by rw [cell_of_row w c 2 _ T f h]; rfl

theorem Cut.notL {w : World} {c : Nat} {vL vB : Value} {hd body : List Int} {got : Int} (h : Cut w c vL vB hd body got) : ¬ vL.ownBlock = some c := h.rowL.other h.blk (by decide)
theorem Cut.notB {w : World} {c : Nat} {vL vB : Value} {hd body : List Int} {got : Int} (h : Cut w c vL vB hd body got) : ¬ vB.ownBlock = some c := h.rowB.other h.blk (by decide)

theorem one_get {w : World} {g o : Nat} {x : Int} (hx : w.cell? ⟨g, o, none⟩ = some (.int .u8 x)) : ∀ j u, [x][j]? = some u → w.cell? ⟨g, o + j, none⟩ = some (.int .u8 u) := by
  intro j u hj
  cases j with
  | zero => injection hj with hj; subst hj; exact hx
  | succ n => cases hj

theorem pre_get {s l : List Int} {j : Nat} {u : Int} (h : s[j]? = some u) : (s ++ l)[j]? = some u := by
  rw [List.getElem?_append_left]
  · exact h
  · exact (List.getElem?_eq_some_iff.1 h).1

/-- What the cutter owns behind two steps, and what has changed. -/
theorem own_next {c : Nat} {vL vB vL1 vB1 vL2 vB2 : Value} {w w1 w2 : World} (k1 : Kept (Own c vL vB) w w1) (j1 : ∀ k, Own c vL1 vB1 k → Own c vL vB k ∨ w.heap.size ≤ k) (k2 : Kept (Own c vL1 vB1) w1 w2) (j2 : ∀ k, Own c vL2 vB2 k → Own c vL1 vB1 k ∨ w1.heap.size ≤ k) :
    Kept (Own c vL vB) w w2 ∧ (∀ k, Own c vL2 vB2 k → Own c vL vB k ∨ w.heap.size ≤ k) := by
  refine ⟨k1.trans' k2 (fun _ _ x => x) (fun i hi hx => (j1 i hx).resolve_right (by omega)), fun k hk => ?_⟩
  rcases j2 k hk with h | h
  · exact j1 k h
  · exact .inr (Nat.le_trans k1.size h)

theorem drop_reads {S : Nat → Prop} {w W : World} {g o o' d : Nat} {l : List Int} (hx : ∀ i x, l[i]? = some x → w.cell? ⟨g, o + i, none⟩ = some (.int .u8 x)) (k : Kept S w W) (hn : ¬ S g) (h : o' = o + d ∨ l.length ≤ d) :
    ∀ i x, (l.drop d)[i]? = some x → W.cell? ⟨g, o' + i, none⟩ = some (.int .u8 x) := by
  intro i x hi
  rcases h with rfl | h
  · rw [List.getElem?_drop] at hi
    have := k.cell (p := ⟨g, o + (d + i), none⟩) (hx _ _ hi) hn
    rw [Nat.add_assoc]
    exact this
  · rw [List.drop_eq_nil_of_le h] at hi
    cases hi

/-- The block that the cutter's body has been appended to, stored. -/
theorem Cut.body_next {w w' : World} {c : Nat} {vL vB vB' : Value} {hd body body' : List Int} {got : Int} (got' : Int) (h : Cut w c vL vB hd body got) (k0 : Kept (fun k => vB.ownBlock = some k) w w') (k1 : OR w' vB' body') (k3 : NewOr w vB vB') :
    Cut ((w'.setCell ⟨c, 1, none⟩ vB').setCell ⟨c, 2, none⟩ (.int .i64 got')) c vL vB' hd body' got' ∧ Kept (Own c vL vB) w ((w'.setCell ⟨c, 1, none⟩ vB').setCell ⟨c, 2, none⟩ (.int .i64 got')) ∧ (∀ k, Own c vL vB' k → Own c vL vB k ∨ w.heap.size ≤ k) := by
  have hb := k0.heap h.blk h.notB
  have hB' : ¬ vB'.ownBlock = some c := k1.other hb (by decide)
  have ks : Kept (· = c) w' ((w'.setCell ⟨c, 1, none⟩ vB').setCell ⟨c, 2, none⟩ (.int .i64 got')) := ((Kept.refl (· = c) w').setCell (p := ⟨c, 1, none⟩) (fun _ => rfl) _).setCell (p := ⟨c, 2, none⟩) (fun _ => rfl) _
  refine ⟨⟨blk_set (blk_set hb 1 _) 2 _, (h.rowL.kept k0 (fun g hg => h.apart g hg)).kept ks (fun g hg e => h.notL (by rw [hg, e])), k1.kept ks (fun g hg e => hB' (by rw [hg, e])), ?_⟩, ?_, ?_⟩
  · intro k hk
    rcases k3 with e | ⟨k', e, hk'⟩
    · rw [e]
      exact h.apart k hk
    · intro e2
      rw [e] at e2
      injection e2 with e2
      have := h.rowL.lt k hk
      omega
  · exact k0.trans' ks (fun i _ hi => .inr (.inr hi)) (fun i _ hi => .inl hi)
  · rintro k (hk | hk | hk)
    · exact .inl (.inl hk)
    · exact .inl (.inr (.inl hk))
    · rcases k3 with e | ⟨k', e, hk'⟩
      · exact .inl (.inr (.inr (by rw [← e]; exact hk)))
      · rw [hk] at e
        injection e with e
        exact .inr (by omega)

/-- The length's bytes likewise. -/
theorem Cut.head_next {w w' : World} {c : Nat} {vL vB vL' : Value} {hd body hd' : List Int} {got : Int} (h : Cut w c vL vB hd body got) (k0 : Kept (fun k => vL.ownBlock = some k) w w') (k1 : OR w' vL' hd') (k3 : NewOr w vL vL') :
    Cut (w'.setCell ⟨c, 0, none⟩ vL') c vL' vB hd' body got ∧ Kept (Own c vL vB) w (w'.setCell ⟨c, 0, none⟩ vL') ∧ (∀ k, Own c vL' vB k → Own c vL vB k ∨ w.heap.size ≤ k) := by
  have hb := k0.heap h.blk h.notL
  have hB' : ¬ vL'.ownBlock = some c := k1.other hb (by decide)
  have ks : Kept (· = c) w' (w'.setCell ⟨c, 0, none⟩ vL') := (Kept.refl (· = c) w').setCell (p := ⟨c, 0, none⟩) (fun _ => rfl) _
  refine ⟨⟨blk_set hb 0 _, k1.kept ks (fun g hg e => hB' (by rw [hg, e])), (h.rowB.kept k0 (fun g hg e => h.apart g e hg)).kept ks (fun g hg e => h.notB (by rw [hg, e])), ?_⟩, ?_, ?_⟩
  · intro k hk e2
    rcases k3 with e | ⟨k', e, hk'⟩
    · rw [e] at hk
      exact h.apart k hk e2
    · rw [hk] at e
      injection e with e
      have := h.rowB.lt k e2
      omega
  · exact k0.trans' ks (fun i _ hi => .inr (.inl hi)) (fun i _ hi => .inl hi)
  · rintro k (hk | hk | hk)
    · exact .inl (.inl hk)
    · rcases k3 with e | ⟨k', e, hk'⟩
      · exact .inl (.inr (.inl (by rw [← e]; exact hk)))
      · rw [hk] at e
        injection e with e
        exact .inr (by omega)
    · exact .inl (.inr (.inr hk))

/-- Only what came is counted. -/
theorem Cut.got_next {w : World} {c : Nat} {vL vB : Value} {hd body : List Int} {got : Int} (got' : Int) (h : Cut w c vL vB hd body got) :
    Cut (w.setCell ⟨c, 2, none⟩ (.int .i64 got')) c vL vB hd body got' ∧ Kept (Own c vL vB) w (w.setCell ⟨c, 2, none⟩ (.int .i64 got')) := by
  have ks : Kept (· = c) w (w.setCell ⟨c, 2, none⟩ (.int .i64 got')) := (Kept.refl (· = c) w).setCell (p := ⟨c, 2, none⟩) (fun _ => rfl) _
  exact ⟨⟨blk_set h.blk 2 _, h.rowL.kept ks (fun g hg e => h.notL (by rw [hg, e])), h.rowB.kept ks (fun g hg e => h.notB (by rw [hg, e])), h.apart⟩, ks.mono (fun k _ hk => .inl hk)⟩

/-- The cutter took some of the bytes of l; rest is left of them, and it ended or not. -/
def PostTake (c g : Nat) (vL vB : Value) (w : World) (hd body : List Int) (got : Int) (rest : List Int) (ended : Bool) (e : Ending) (w' : World) : Prop :=
  ∃ o cap vL' vB', e = .returned (.tuple #[.slice (some ⟨g, o, none⟩) rest.length cap, .bool ended]) ∧ rest.length ≤ cap ∧ (∀ i x, rest[i]? = some x → w'.cell? ⟨g, o + i, none⟩ = some (.int .u8 x)) ∧
    Cut w' c vL' vB' hd body got ∧ Kept (Own c vL vB) w w' ∧ (∀ k, Own c vL' vB' k → Own c vL vB k ∨ w.heap.size ≤ k)

end Go.Proofs.Ytfminplenemfnaa
