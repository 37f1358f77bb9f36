/- Picked out of the text AG of TopExprs. -/
import Derived.Test.YthkeigljiinlbaaGreatM9
import Derived.Deep.RegionHeld
import Derived.Deep.OwnRows
namespace Go.Proofs.YthkeigljiinlbaaGreat
open Go.RowKit

/-- v is a row of things that the call has made; of what there was it has written S alone. -/
structure NewS {α : Type} (S : Nat → Prop) (enc : α → List Value) (sz : Nat) (T : TypeId) (w0 w : World) (v : Value) (L : List α) : Prop where
  row : Row enc sz T w v L
  own : ∀ j, v.ownBlock = some j → w0.heap.size ≤ j
  kept : Kept S w0 w
section
variable {P : Program} {α : Type} {enc : α → List Value} {sz : Nat} {S : Nat → Prop} {w0 wr W w2 : World} {L L' M : List α} {T : TypeId} {v v' : Value}
theorem NewS.app (h : NewS S enc sz T w0 wr v L) (hS : ∀ j, S j → j < w0.heap.size) (k : Kept S wr W)
    (hh : Row enc sz T w2 v' L' ∧ Kept (fun j => v.ownBlock = some j) W w2 ∧ (∀ j, v'.ownBlock = some j → v.ownBlock = some j ∨ W.heap.size ≤ j)) : NewS S enc sz T w0 w2 v' L' :=
  ⟨hh.1, fun j hj => by
    rcases hh.2.2 j hj with q | q
    · exact h.own j q
    · exact Nat.le_trans (h.kept.trans k).size q,
   (h.kept.trans k).trans' hh.2.1 (fun _ _ q => q) (fun i hi q => absurd (h.own i q) (by omega))⟩
theorem NewS.step (h : NewS S enc sz T w0 wr v L) (hS : ∀ j, S j → j < w0.heap.size) (k : Kept S wr W) : NewS S enc sz T w0 W v L :=
  ⟨h.row.kept k (fun g hg q => by have := h.own g hg; have := hS g q; omega), h.own, h.kept.trans k⟩
theorem NewS.from (h : NewS S enc sz T wr W v L) (k : Kept S w0 wr) : NewS S enc sz T w0 W v L := ⟨h.row, fun j hj => Nat.le_trans k.size (h.own j hj), k.trans h.kept⟩
/-- An append of things that lie in a block. -/
theorem NewS.lit (t ty : TypeId) (z : Value) (bytes : Nat) (ht : P.underlying t = some (.slice T)) (hi : (P.info? T).map (fun i => (i.zero, i.size, i.bytes)) = some (some z, sz, bytes)) (hzs : z.cells.size = sz) (hsz : 0 < sz)
    (hlen : ∀ x, (enc x).length = sz) (hone : ∀ x, ∀ u ∈ enc x, u.oneCell' = true) (h : NewS S enc sz T w0 wr v L) (hS : ∀ j, S j → j < w0.heap.size) (k : Kept S wr W) (M : List α) (B c : Nat) {T' : TypeId} {f : Nat × Nat} (hB : W.heap[B]? = some (.cells (cellsOf enc M).toArray T' f))
    (h63 : L.length + M.length ≤ maxLen) (hb : (L.length + M.length) * bytes ≤ 140737488355328) :
    ∃ v' w', Hid ((Builtin.append_ #[t, t] ty #[v, .slice (some ⟨B, 0, none⟩) M.length c]).run P W = .ok v' w') ∧ (∃ A' c', v' = .slice A' (L.length + M.length) c' ∧ NewS S enc sz T w0 w' v' (L ++ M) ∧ Kept (fun j => w0.heap.size ≤ j) W w') := by
  obtain ⟨A', c', w', h1, h2, h3, h4⟩ := app_src (P := P) (M := M) (N := fun _ => False) t ty z bytes ht hi hzs hsz hlen hone (h.step hS k).row (some ⟨B, 0, none⟩) c (by simp) (Src.many hlen hB (fun q => q)) h63 hb
  rw [List.length_append] at h2
  exact ⟨_, w', h1, A', c', rfl, h.app hS k ⟨h2, h3, h4⟩, h3.mono (fun j _ q => h.own j q)⟩
/-- An append of what lies somewhere. -/
theorem NewS.src (t ty : TypeId) (z : Value) (bytes : Nat) (ht : P.underlying t = some (.slice T)) (hi : (P.info? T).map (fun i => (i.zero, i.size, i.bytes)) = some (some z, sz, bytes)) (hzs : z.cells.size = sz) (hsz : 0 < sz)
    (hlen : ∀ x, (enc x).length = sz) (hone : ∀ x, ∀ u ∈ enc x, u.oneCell' = true) (h : NewS S enc sz T w0 wr v L) (hS : ∀ j, S j → j < w0.heap.size) (k : Kept S wr W) (M : List α) (A : Option Addr) (c : Nat) (hA : A = none → M = [] ∧ c = 0) (hs : Src enc sz W (fun _ => False) A M)
    (h63 : L.length + M.length ≤ maxLen) (hb : (L.length + M.length) * bytes ≤ 140737488355328) :
    ∃ v' w', Hid ((Builtin.append_ #[t, t] ty #[v, .slice A M.length c]).run P W = .ok v' w') ∧ (∃ A' c', v' = .slice A' (L.length + M.length) c' ∧ NewS S enc sz T w0 w' v' (L ++ M) ∧ Kept (fun j => w0.heap.size ≤ j) W w') := by
  obtain ⟨A', c', w', h1, h2, h3, h4⟩ := app_src (P := P) (M := M) (N := fun _ => False) t ty z bytes ht hi hzs hsz hlen hone (h.step hS k).row A c hA hs h63 hb
  rw [List.length_append] at h2
  exact ⟨_, w', h1, A', c', rfl, h.app hS k ⟨h2, h3, h4⟩, h3.mono (fun j _ q => h.own j q)⟩
/-- A row's things as an append's source. -/
theorem Row.asSrc (hlen : ∀ x, (enc x).length = sz) (h : Row enc sz T W v M) : ∃ A c, v = .slice A M.length c ∧ (A = none → M = [] ∧ c = 0) ∧ Src enc sz W (fun _ => False) A M := by
  have h' := h
  rcases h.2 with ⟨rfl, hz⟩ | ⟨g, cap, cur, rfl, _⟩
  · have : M = [] := List.eq_nil_of_length_eq_zero hz
    subst this
    exact ⟨none, 0, rfl, fun _ => ⟨rfl, rfl⟩, Src.nil⟩
  · obtain ⟨A, c, hv, _, _, hs⟩ := h'.src hlen (fun _ => False) (fun _ _ q => q)
    injection hv with h1 _ h2
    subst h1 h2
    exact ⟨_, _, rfl, (fun q => by cases q), hs⟩
end

end Go.Proofs.YthkeigljiinlbaaGreat

/- Picked out of the text AR of TopExprs. -/
namespace Go.Proofs.YthkeigljiinlbaaGreat
open Go.RowKit

inductive Ex where
  | leaf (o : Wd)
  | un (o : Wd) (a : Ex)
  | bin (o : Wd) (a b : Ex)
def Ex.flat : Ex → List Wd
  | .leaf o => [o]
  | .un o a => a.flat ++ [o]
  | .bin o a b => a.flat ++ (b.flat ++ [o])
/-- v holds the rows of the words of these. -/
def Held (w : World) (v : Value) (ks : List Ex) : Prop := ∃ b c, v = .slice (some ⟨b, 0, none⟩) ks.length c ∧ ∀ (i : Nat) (k : Ex), ks[i]? = some k → ∃ D d, w.cell? ⟨b, i, none⟩ = some (.slice (some D) k.flat.length d) ∧ k.flat.length ≤ d ∧ Src encW 3 w (fun _ => False) (some D) k.flat
theorem Held.same {w w' : World} {v : Value} {ks : List Ex} (h : Held w v ks) (k : Kept (fun _ => False) w w') : Held w' v ks := by
  obtain ⟨b, c, e, hc⟩ := h
  refine ⟨b, c, e, fun i x hi => ?_⟩
  obtain ⟨D, d, q1, q3, q2⟩ := hc i x hi
  exact ⟨D, d, k.cell q1 (fun q => q), q3, q2.same k⟩
end Go.Proofs.YthkeigljiinlbaaGreat

/- Picked out of the text AW of TopExprs. -/
namespace Go.Proofs.YthkeigljiinlbaaGreat
open Go.RowKit

/-- A thing that may be. -/
def thB (x : Wd) : Prop := (x.c = 1 ∧ I64 x.n ∧ x.t = []) ∨ (x.c = 2 ∧ x.n = 0 ∧ x.t.length ≤ 64)

end Go.Proofs.YthkeigljiinlbaaGreat
