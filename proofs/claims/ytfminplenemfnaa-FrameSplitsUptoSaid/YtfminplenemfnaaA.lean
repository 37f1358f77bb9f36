/- Contracts of the cutter's small methods: want, New, Held. -/
import Derived.Test.YtfminplenemfnaaM
import Derived.BigQuiet
import Derived.Deep.QuietTactic
namespace Go.Proofs.Ytfminplenemfnaa
open Go.RowKit

/-- The cutter in block c: its two rows, and how many bytes of the body came. -/
structure Cut (w : World) (c : Nat) (vL vB : Value) (hd body : List Int) (got : Int) : Prop where
  blk : w.heap[c]? = some (.cells #[vL, vB, .int .i64 got] 45 (0, 0))
  rowL : OR w vL hd
  rowB : OR w vB body
  apart : ∀ k, vL.ownBlock = some k → vB.ownBlock ≠ some k

/-- The blocks that the cutter owns. -/
def Own (c : Nat) (vL vB : Value) (k : Nat) : Prop := k = c ∨ vL.ownBlock = some k ∨ vB.ownBlock = some k

theorem Cut.lt {w : World} {c : Nat} {vL vB : Value} {hd body : List Int} {got : Int} (h : Cut w c vL vB hd body got) : c < w.heap.size := (Array.getElem?_eq_some_iff.1 h.blk).1
theorem Cut.c0 {w : World} {c : Nat} {vL vB : Value} {hd body : List Int} {got : Int} (h : Cut w c vL vB hd body got) : w.cell? ⟨c, 0, none⟩ = some vL := by rw [cell_of_row w c 0 _ 45 (0, 0) h.blk]; rfl
theorem Cut.c1 {w : World} {c : Nat} {vL vB : Value} {hd body : List Int} {got : Int} (h : Cut w c vL vB hd body got) : w.cell? ⟨c, 1, none⟩ = some vB := by rw [cell_of_row w c 1 _ 45 (0, 0) h.blk]; rfl
theorem Cut.c2 {w : World} {c : Nat} {vL vB : Value} {hd body : List Int} {got : Int} (h : Cut w c vL vB hd body got) : w.cell? ⟨c, 2, none⟩ = some (.int .i64 got) := by rw [cell_of_row w c 2 _ 45 (0, 0) h.blk]; rfl
theorem frozen_of {w : World} {c : Nat} {cs : Array Value} {T : TypeId} (h : w.heap[c]? = some (.cells cs T (0, 0))) (i : Nat) : w.frozen? ⟨c, i, none⟩ = false := by
  simp [World.frozen?, h]

theorem Cut.kept {S : Nat → Prop} {w w' : World} {c : Nat} {vL vB : Value} {hd body : List Int} {got : Int} (h : Cut w c vL vB hd body got) (k : Kept S w w') (hn : ∀ g, Own c vL vB g → ¬ S g) : Cut w' c vL vB hd body got :=
  ⟨k.heap h.blk (hn c (.inl rfl)), h.rowL.kept k (fun g hg => hn g (.inr (.inl hg))), h.rowB.kept k (fun g hg => hn g (.inr (.inr hg))), h.apart⟩

def wantI (hd : List Int) : Int := hd.getD 0 0 * 256 + hd.getD 1 0

theorem or_low (x y : Int) (hx : 0 ≤ x) (hx' : x ≤ 255) (hy : 0 ≤ y) (hy' : y ≤ 255) : bits .or .i64 (x * 256) y = x * 256 + y := by
  refine bits_join .i64 63 (by decide) (fun n h1 h2 => ?_) 8 (x * 256) y (by omega) (by omega) (by omega) hy (by omega) (by omega)
  exact IntWalk.i64_in n (by omega)

theorem want_any (w : World) (c : Nat) (vL vB : Value) (h0 h1 : Int) (body : List Int) (got : Int) (h : Cut w c vL vB [h0, h1] body got) (b0 : 0 ≤ h0 ∧ h0 ≤ 255) (b1 : 0 ≤ h1 ∧ h1 ≤ 255) :
    Calls Try.prog 17 #[.pointer (some ⟨c, 0, none⟩)] w fun e w' => e = .returned (.int .i64 (h0 * 256 + h1)) ∧ ∃ n, w' = w.drewN n := by
  have c0 := h.c0
  rcases h.rowL.reads with ⟨_, hl⟩ | ⟨g, _, o, cap, rfl, hcap, _, hx⟩
  · cases hl
  · have x0 := hx 0 h0 rfl
    have x1 := hx 1 h1 rfl
    have hor := or_low h0 h1 b0.1 b0.2 b1.1 b1.2
    obtain ⟨p0, p1⟩ := b0
    obtain ⟨p2, p3⟩ := b1
    clear hx h
    simp only [List.length_cons, List.length_nil, Nat.zero_add, Nat.add_zero, Nat.reduceAdd] at *
    go_enter Try.func17, Try.ntmps17
    go_wp2
    go_quiet (fail)
    go_wp2
    go_ret
    exact ⟨rfl, nq, rfl⟩

theorem held_any (w : World) (c : Nat) (vL vB : Value) (hd body : List Int) (got : Int) (h : Cut w c vL vB hd body got) (hl : hd.length ≤ 2) (hg : 0 ≤ got ∧ got ≤ 70000) :
    Calls Try.prog 14 #[.pointer (some ⟨c, 0, none⟩)] w fun e w' => e = .returned (.int .i64 (hd.length + got)) ∧ ∃ n, w' = w.drewN n := by
  have c0 := h.c0
  have c2 := h.c2
  obtain ⟨a, n, rfl⟩ := h.rowL.shape
  obtain ⟨g1, g2⟩ := hg
  clear h
  generalize hd.length = m at *
  have hb1 : -(2 : Int) ^ 63 ≤ (m : Int) + got := by omega
  have hb2 : (m : Int) + got < 2 ^ 63 := by omega
  go_enter Try.func14, Try.ntmps14
  go_wp2
  go_quiet (fail)
  go_wp2
  go_ret
  exact ⟨rfl, nq, rfl⟩

def errI (h0 h1 : Int) : Int := if 4096 < h0 * 256 + h1 then 6 else 0

/-- A frame is returned; the cutter is as new. -/
def PostDone (c : Nat) (vB : Value) (err : Int) (w : World) (e : Ending) (w' : World) : Prop :=
  e = .returned (.agg #[vB, .int .i64 err]) ∧ Cut w' c (.slice none 0 0) (.slice none 0 0) [] [] 0 ∧ Kept (· = c) w w'

theorem OR.none (w : World) : OR w (.slice none 0 0) [] := ⟨rfl, .inl ⟨rfl, rfl⟩⟩

theorem done_world {w wm : World} {c b : Nat} {u0 u1 u2 x0 x1 : Value} (hc : wm.heap[c]? = some (.cells #[u0, u1, u2] 45 (0, 0))) (hb0 : wm.cell? ⟨b, 0, none⟩ = some x0) (hb1 : wm.cell? ⟨b, 1, none⟩ = some x1)
    (k : Kept (· = c) w wm) (hcl : c < w.heap.size) (hbw : w.heap.size ≤ b) (y0 y1 : Value) (W : World)
    (hW : W = ((((wm.setCell ⟨c, 0, none⟩ (.slice none 0 0)).setCell ⟨c, 1, none⟩ (.slice none 0 0)).setCell ⟨c, 2, none⟩ (.int .i64 0)).setCell ⟨b, 0, none⟩ y0).setCell ⟨b, 1, none⟩ y1) :
    W.cell? ⟨b, 0, none⟩ = some y0 ∧ W.cell? ⟨b, 1, none⟩ = some y1 ∧ Cut W c (.slice none 0 0) (.slice none 0 0) [] [] 0 ∧ Kept (· = c) w W := by
  have hcb : b ≠ c := by omega
  subst hW
  have n0 : ∀ i : Nat, (⟨c, i, none⟩ : Addr) ≠ ⟨b, 0, none⟩ := fun i h => hcb (congrArg Addr.block h).symm
  have n1 : ∀ i : Nat, (⟨c, i, none⟩ : Addr) ≠ ⟨b, 1, none⟩ := fun i h => hcb (congrArg Addr.block h).symm
  refine ⟨?_, ?_, ⟨?_, OR.none _, OR.none _, fun k h => by cases h⟩, ?_⟩
  · rw [World.cell?_setCell_other _ _ _ _ (by simp)]
    refine World.cell?_setCell_same (u := x0) _ _ _ ?_
    rw [World.cell?_setCell_other _ _ _ _ (n0 2), World.cell?_setCell_other _ _ _ _ (n0 1), World.cell?_setCell_other _ _ _ _ (n0 0)]
    exact hb0
  · refine World.cell?_setCell_same (u := x1) _ _ _ ?_
    rw [World.cell?_setCell_other _ _ _ _ (by simp), World.cell?_setCell_other _ _ _ _ (n1 2), World.cell?_setCell_other _ _ _ _ (n1 1), World.cell?_setCell_other _ _ _ _ (n1 0)]
    exact hb1
  · exact blk_set_other (blk_set_other (blk_set (blk_set (blk_set hc 0 _) 1 _) 2 _) hcb _) hcb _
  · exact ((((k.setCell (fun _ => rfl) _).setCell (fun _ => rfl) _).setCell (fun _ => rfl) _).setCell (fun h => absurd h (by simp only; omega)) _).setCell (fun h => absurd h (by simp only; omega)) _

theorem done_any (w : World) (c : Nat) (vL vB : Value) (h0 h1 : Int) (body : List Int) (got : Int) (h : Cut w c vL vB [h0, h1] body got) (b0 : 0 ≤ h0 ∧ h0 ≤ 255) (b1 : 0 ≤ h1 ∧ h1 ≤ 255) :
    Calls Try.prog 16 #[.pointer (some ⟨c, 0, none⟩)] w (PostDone c vB (errI h0 h1) w) := by
  unfold errI
  have hlt := h.lt
  have c0 := h.c0
  have c1 := h.c1
  have c2 := h.c2
  have f0 := frozen_of h.blk 0
  have f1 := frozen_of h.blk 1
  have f2 := frozen_of h.blk 2
  obtain ⟨aB, cB, rfl⟩ := h.rowB.shape
  have H2 := ((h.kept (S := fun _ => False) ((Kept.refl _ _).alloc (.cells #[.slice none 0 0, .int .i64 0] 41)) (fun _ _ x => x)).kept (S := fun _ => False) ((Kept.refl _ _).alloc (.cells #[.slice aB body.length cB, .int .i64 0] 41)) (fun _ _ x => x))
  by_cases hw : 4096 < h0 * 256 + h1
  · rw [if_pos hw]
    go_enter Try.func16, Try.ntmps16
    go_wp2_with fail
    refine (want_any _ _ _ _ _ _ _ _ H2 b0 b1).mono ?_
    rintro e w' ⟨rfl, n, rfl⟩
    go_wp2_with fail
    have hk : Kept (· = c) w ((w.alloc (Obj.cells #[Value.slice none 0 0, Value.int IntKind.i64 0] 41)).alloc (Obj.cells #[Value.slice aB body.length cB, Value.int IntKind.i64 0] 41)) := ((Kept.refl _ _).alloc _).alloc _
    obtain ⟨q0, q1, q2, q3⟩ := done_world (w := w) (wm := ((((w.alloc (Obj.cells #[Value.slice none 0 0, Value.int IntKind.i64 0] 41)).alloc (Obj.cells #[Value.slice aB body.length cB, Value.int IntKind.i64 0] 41)).drewN n).setCell { block := w.heap.size + 1, off := 1 } (Value.int IntKind.i64 6))) (b := w.heap.size) (u0 := vL) (u1 := .slice aB body.length cB) (u2 := .int .i64 got) (x0 := .slice none 0 0) (x1 := .int .i64 0) (blk_set_other H2.blk (by simp only; omega) _) (by first | (simp; done) | (rw [World.cell?_setCell_other _ _ _ _ (by simp)]; simp)) (by first | (simp; done) | (rw [World.cell?_setCell_other _ _ _ _ (by simp)]; simp)) ((hk.drewN n).setCell (fun h => absurd h (by simp only; omega)) _) hlt (Nat.le_refl _) (.slice aB body.length cB) (.int .i64 6) _ rfl
    exact bodyPost_ret (v := .agg #[.slice aB body.length cB, .int .i64 6]) (by simp [results, Try.results16, go_sem, q0, q1]) rfl ⟨rfl, q2, q3⟩
  · rw [if_neg hw]
    go_enter Try.func16, Try.ntmps16
    go_wp2_with fail
    refine (want_any _ _ _ _ _ _ _ _ H2 b0 b1).mono ?_
    rintro e w' ⟨rfl, n, rfl⟩
    go_wp2_with fail
    have hk : Kept (· = c) w ((w.alloc (Obj.cells #[Value.slice none 0 0, Value.int IntKind.i64 0] 41)).alloc (Obj.cells #[Value.slice aB body.length cB, Value.int IntKind.i64 0] 41)) := ((Kept.refl _ _).alloc _).alloc _
    obtain ⟨q0, q1, q2, q3⟩ := done_world (w := w) (wm := (((w.alloc (Obj.cells #[Value.slice none 0 0, Value.int IntKind.i64 0] 41)).alloc (Obj.cells #[Value.slice aB body.length cB, Value.int IntKind.i64 0] 41)).drewN n)) (b := w.heap.size) (u0 := vL) (u1 := .slice aB body.length cB) (u2 := .int .i64 got) (x0 := .slice none 0 0) (x1 := .int .i64 0) H2.blk (by simp) (by simp) (hk.drewN n) hlt (Nat.le_refl _) (.slice aB body.length cB) (.int .i64 0) _ rfl
    exact bodyPost_ret (v := .agg #[.slice aB body.length cB, .int .i64 0]) (by simp [results, Try.results16, go_sem, q0, q1]) rfl ⟨rfl, q2, q3⟩
end Go.Proofs.Ytfminplenemfnaa
