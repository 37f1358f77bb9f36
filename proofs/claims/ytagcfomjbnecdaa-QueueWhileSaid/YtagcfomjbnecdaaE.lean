/- Two things change places in memory. -/
import Derived.Test.YtagcfomjbnecdaaM
import Derived.BigRegion
import Derived.BigQuiet
import Derived.Deep.QuietTactic
namespace Go.Proofs.Ytagcfomjbnecdaa
open Go.RowKit

/-- Three cells of block b are written, from o on. -/
def set3 (w : World) (b o : Nat) (x : It) : World := ((w.setCell ⟨b, o, none⟩ (.int .i64 x.a)).setCell ⟨b, o + 1, none⟩ (.int .i64 x.n)).setCell ⟨b, o + 2, none⟩ (.int .i64 x.t)

theorem set3_row {w : World} {b cap : Nat} {H : List It} (h : IR w (.slice (some ⟨b, 0, none⟩) H.length cap) H) (i : Nat) (hi : i < H.length) (x : It) : IR (set3 w b (i * 3) x) (.slice (some ⟨b, 0, none⟩) H.length cap) (H.set i x) := by
  obtain ⟨h1, h2⟩ := h
  unfold IR
  rw [List.length_set]
  refine ⟨by rw [irow_len, List.length_set], .inr ?_⟩
  rcases h2 with ⟨e, _⟩ | ⟨b', cap', cur, e, hb, hg, hc, hm, hs, ht⟩
  · cases e
  · injection e with e1 _ e3
    injection e1 with e1
    injection e1 with e1
    subst e1 e3
    refine ⟨b, cap, ((cur.setIfInBounds (i * 3) (.int .i64 x.a)).setIfInBounds (i * 3 + 1) (.int .i64 x.n)).setIfInBounds (i * 3 + 2) (.int .i64 x.t), rfl, hb, ?_, hc, hm, by simpa using hs, ?_⟩
    · unfold set3
      simp only [World.setCell, Array.getElem?_modify, if_true, hg, Option.map_some]
      rfl
    · rw [irow_set _ _ _ hi, ← ht]
      simp only [Array.toList_setIfInBounds, List.take_set]
theorem IR.at_ {w : World} {b n cap : Nat} {H : List It} (h : IR w (.slice (some ⟨b, 0, none⟩) n cap) H) : (∀ i, i < H.length → w.cell? ⟨b, i * 3, none⟩ = some (.int .i64 (g H i).a) ∧ w.cell? ⟨b, i * 3 + 1, none⟩ = some (.int .i64 (g H i).n) ∧ w.cell? ⟨b, i * 3 + 2, none⟩ = some (.int .i64 (g H i).t)) ∧
    (∀ k, w.frozen? ⟨b, k, none⟩ = false) ∧ b < w.heap.size ∧ n ≤ cap := by
  have h' := h
  rcases h'.2 with ⟨e, _⟩ | ⟨b', cap', cur, e, _, hg, hc, _⟩
  · cases e
  · injection e with e1 e2 e3
    injection e1 with e1
    injection e1 with e1
    subst e1 e2 e3
    refine ⟨fun i hi => ?_, fun k => frozen_of hg k, (Array.getElem?_eq_some_iff.1 hg).1, hc⟩
    obtain ⟨e0, e1, e2⟩ := irow_get H i hi
    exact ⟨by rw [World.ownsRow.cellAt h (i * 3) (by omega)]; exact e0, by rw [World.ownsRow.cellAt h (i * 3 + 1) (by omega)]; exact e1, by rw [World.ownsRow.cellAt h (i * 3 + 2) (by omega)]; exact e2⟩

theorem set3_kept {S : Nat → Prop} {a w : World} (h : Kept S a w) {b : Nat} (hb : b < a.heap.size → S b) (o : Nat) (x : It) : Kept S a (set3 w b o x) := ((h.setCell (p := ⟨b, o, none⟩) hb _).setCell (p := ⟨b, o + 1, none⟩) hb _).setCell (p := ⟨b, o + 2, none⟩) hb _

/-- Two things of the queue have changed places. -/
theorem QM.swap {w : World} {c b cap n : Nat} {H : List It} {T : Int} (h : QM w c (.slice (some ⟨b, 0, none⟩) n cap) H T) (hn : H.length = n) {i j : Nat} (hi : i < H.length) (hj : j < H.length) :
    QM (set3 (set3 w b (i * 3) (g H j)) b (j * 3) (g H i)) c (.slice (some ⟨b, 0, none⟩) n cap) (swap H i j) T ∧ Kept (fun k => k = b) w (set3 (set3 w b (i * 3) (g H j)) b (j * 3) (g H i)) := by
  subst hn
  have k : Kept (fun k => k = b) w (set3 (set3 w b (i * 3) (g H j)) b (j * 3) (g H i)) := set3_kept (S := fun k => k = b) (set3_kept (S := fun k => k = b) (Kept.refl _ w) (fun _ => rfl) _ _) (fun _ => rfl) _ _
  have hcb : c ≠ b := fun e => h.notR (by rw [e]; rfl)
  refine ⟨⟨k.heap h.blk hcb, ?_⟩, k⟩
  have r1 := set3_row h.row i hi (g H j)
  have hl : H.length = (H.set i (g H j)).length := by simp
  rw [hl] at r1
  have r2 := set3_row r1 j (by simpa using hj) (g H i)
  have hl2 : (H.set i (g H j)).length = H.length := by simp
  rw [hl2] at r2
  exact r2

end Go.Proofs.Ytagcfomjbnecdaa
