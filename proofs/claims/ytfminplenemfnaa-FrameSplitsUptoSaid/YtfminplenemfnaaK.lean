/- Rows of frames that are read; live. -/
import Derived.Test.YtfminplenemfnaaH
import Derived.Laws.BytesArg
namespace Go.Proofs.Ytfminplenemfnaa
open Go.RowKit

theorem conv_Sl {w : World} {g : Nat} {v : Value} {l : List Int} (h : Sl w g v l) : (convert 22 9 v).run Try.prog w = .ok (.string (strOfNums l)) w := by
  obtain ⟨o, cap, rfl, _, _, hx⟩ := h
  refine run_convert_bytes_arg (P := Try.prog) w 22 5 Try.underlying22 Try.underlying5 g o l.length cap l rfl (fun i hi => ?_) 9 Try.underlying9
  refine hx i _ ?_
  rw [List.getD_eq_getElem?_getD, List.getElem?_eq_getElem hi]
  rfl
theorem conv_nil (w : World) : (convert 22 9 (.slice none 0 0)).run Try.prog w = .ok (.string (strOfNums [])) w :=
  run_convert_bytes_nil (P := Try.prog) w 22 5 Try.underlying22 Try.underlying5 0 0 9 Try.underlying9
theorem conv_zero (w : World) (a : Addr) (cap : Nat) : (convert 22 9 (.slice (some a) 0 cap)).run Try.prog w = .ok (.string (strOfNums [])) w := by
  rw [run_convert_bytes_string w 22 9 5 _ 0 cap Try.underlying22 Try.underlying5 Try.underlying9]
  simp [Conv.bytesToString]
  rfl
theorem conv_OR {w : World} {v : Value} {l : List Int} (h : OR w v l) : (convert 22 9 v).run Try.prog w = .ok (.string (strOfNums l)) w := by
  rcases h.reads with ⟨rfl, rfl⟩ | ⟨g, _, h⟩
  · exact conv_nil w
  · exact conv_Sl h
theorem conv_Fr {w : World} {N : Nat → Prop} {v : Value} {l : List Int} (h : FrOK w N v l) : (convert 22 9 v).run Try.prog w = .ok (.string (strOfNums l)) w := by
  rcases h with ⟨rfl, rfl⟩ | ⟨g, _, h⟩
  · exact conv_nil w
  · exact conv_Sl h
theorem conv_A {w : World} {g : Nat} {v : Value} {l : List Int} (h : SlA w g v l) : (convert 22 9 v).run Try.prog w = .ok (.string (strOfNums l)) w := by
  rcases h with ⟨rfl, rfl⟩ | ⟨a, cap, rfl, rfl⟩ | h
  · exact conv_nil w
  · exact conv_zero w a cap
  · exact conv_Sl h

theorem frow_get (vs : List (Value × Int)) : ∀ (i : Nat) (p : Value × Int), vs[i]? = some p → (frow vs)[i * 2]? = some p.1 ∧ (frow vs)[i * 2 + 1]? = some (.int .i64 p.2) := by
  induction vs with
  | nil => intro i p h; cases h
  | cons a l ih =>
    intro i p h
    cases i with
    | zero => injection h with h; subst h; exact ⟨rfl, rfl⟩
    | succ i =>
      have := ih i p h
      rw [Nat.succ_mul]
      exact this

theorem FR.cells {w : World} {v : Value} {vs : List (Value × Int)} (h : FR w v vs) (hn : vs ≠ []) : ∃ g cap, v = .slice (some ⟨g, 0, none⟩) vs.length cap ∧ vs.length ≤ cap ∧
    ∀ (i : Nat) (p : Value × Int), vs[i]? = some p → w.cell? ⟨g, i * 2, none⟩ = some p.1 ∧ w.cell? ⟨g, i * 2 + 1, none⟩ = some (.int .i64 p.2) := by
  have h' := h
  rcases h'.2 with ⟨_, hz⟩ | ⟨g, cap, cur, rfl, _, _, hc, _⟩
  · exact absurd (List.eq_nil_of_length_eq_zero hz) hn
  · refine ⟨g, cap, rfl, hc, fun i p hp => ?_⟩
    have hi : i < vs.length := (List.getElem?_eq_some_iff.1 hp).1
    obtain ⟨e0, e1⟩ := frow_get vs i p hp
    exact ⟨by rw [World.ownsRow.cellAt h (i * 2) (by omega)]; exact e0, by rw [World.ownsRow.cellAt h (i * 2 + 1) (by omega)]; exact e1⟩

theorem lit_Sl (w : World) (l : List Int) : Sl (w.alloc (.cells (u8s l).toArray 5)) w.heap.size (.slice (some ⟨w.heap.size, 0, none⟩) l.length l.length) l := by
  refine ⟨0, l.length, rfl, Nat.le_refl _, by simp, fun i x hx => ?_⟩
  rw [Nat.zero_add, cell_of_row _ w.heap.size i _ 5 (0, 0) (heap_alloc_new w _)]
  simp [u8s_get, hx]

instance (l : List Int) : Decidable (Bytes l) := by unfold Bytes; infer_instance

set_option maxHeartbeats 2000000 in
theorem live_any (w : World) : Calls Try.prog 8 #[] w fun e w' => e = .returned (.bool true) ∧ Kept (fun _ => False) w w' := by
  go_enter Try.func8, Try.ntmps8
  go_wp2_with fail
  have hs1 : SlA (w.alloc (.cells #[.int .u8 7, .int .u8 8] 5)) w.heap.size (.slice (some ⟨w.heap.size, 0, none⟩) 2 2) [7, 8] := .inr (.inr ⟨0, 2, rfl, by simp, by simp, two_get 7 8⟩)
  refine (wrap_short _ w.heap.size _ _ hs1 (by simp)).mono ?_
  rintro e w1 ⟨vW, rfl, r1, k1, j1⟩
  go_wp2_with fail
  refine (new_any _).mono ?_
  rintro e w2 ⟨c, rfl, hc, C2, k2⟩
  go_wp2_with fail
  obtain ⟨s3, a3⟩ : Sl (w2.alloc (.cells #[.int .u8 0, .int .u8 2, .int .u8 7] 5)) w2.heap.size (.slice (some ⟨w2.heap.size, 0, none⟩) 3 3) [0, 2, 7] ∧ Kept (fun _ => False) w2 (w2.alloc (.cells #[.int .u8 0, .int .u8 2, .int .u8 7] 5)) := ⟨lit_Sl w2 [0, 2, 7], (Kept.refl _ w2).alloc _⟩
  have hcl := C2.lt
  refine (feed_any _ c _ _ [] w2.heap.size _ [0, 2, 7] (C2.kept a3 (fun _ _ q => q)) ?_ (fun x hx => by cases hx) (by decide) (.inl (by decide)) (by decide) (SlA.toN (.inr (.inr s3)))).mono ?_
  · rintro (q | q | q)
    · omega
    · cases q
    · cases q
  rintro e w3 ⟨vO3, vs3, vL3, vB3, rfl, R3, O3, F3, S3, K3, J3⟩
  have hp3 : parse ([] ++ [0, 2, 7]) = ([], [0, 2, 7]) := parse_opn (.inr (by decide))
  rw [hp3] at F3 S3
  go_wp2_with fail
  obtain ⟨s4, a4⟩ : Sl (w3.alloc (.cells #[.int .u8 8, .int .u8 0] 5)) w3.heap.size (.slice (some ⟨w3.heap.size, 0, none⟩) 2 2) [8, 0] ∧ Kept (fun _ => False) w3 (w3.alloc (.cells #[.int .u8 8, .int .u8 0] 5)) := ⟨lit_Sl w3 [8, 0], (Kept.refl _ w3).alloc _⟩
  refine (feed_any _ c _ _ [0, 2, 7] w3.heap.size _ [8, 0] (S3.kept a4 (fun _ _ q => q)) ?_ (by decide) (by decide) (.inr (by decide)) (by decide) (SlA.toN (.inr (.inr s4)))).mono ?_
  · rintro (q | q | q)
    · have := Cut.lt S3; omega
    · have := S3.rowL.lt _ q; omega
    · have := S3.rowB.lt _ q; omega
  rintro e w4 ⟨vO4, vs4, vL4, vB4, rfl, R4, O4, F4, S4, K4, J4⟩
  have hp4 : parse ([0, 2, 7] ++ [8, 0]) = ([([7, 8], 0)], [0]) := by
    have h1 := parse_full (r := [0, 2, 7, 8]) (s := [0]) (by decide) (by decide)
    rw [parse_opn (t := [0]) (.inl (by decide))] at h1
    exact h1
  rw [hp4] at F4 S4
  have kA : Kept (fun k => w1.heap.size ≤ k) w1 w4 := by
    have z2 := k2.size
    have z3 := a3.size
    refine (((k2.mono (fun _ _ q => q.elim)).trans (a3.mono (fun _ _ q => q.elim))).trans (K3.mono ?_)).trans ((a4.mono (fun _ _ q => q.elim)).trans (K4.mono ?_))
    · rintro k _ (q | q | q)
      · omega
      · cases q
      · cases q
    · intro k _ q
      rcases J3 k q with (q | q | q) | q
      · omega
      · cases q
      · cases q
      · omega
  have rW : OR w4 vW [0, 2, 7, 8] := OR.kept (l := [0, 2, 7, 8]) r1 kA (fun g hg q => by have := r1.lt g hg; omega)
  have kF : Kept (fun _ => False) w w4 := (((Kept.refl _ w).alloc (.cells #[.int .u8 7, .int .u8 8] 5)).trans k1).trans' kA (fun _ _ q => q) (fun i hi q => by have := k1.size; simp only [World.alloc] at this; simp at this; omega)
  have hvs3 : vs3 = [] := List.eq_nil_of_length_eq_zero F3.1
  subst hvs3
  obtain ⟨aO3, cO3, hO3⟩ := R3.shape
  subst hO3
  obtain ⟨x, n, rfl⟩ : ∃ x n, vs4 = [(x, n)] := by
    match vs4, F4.1 with
    | [(x, n)], _ => exact ⟨x, n, rfl⟩
  obtain ⟨g4, cap4, rfl, hc4, hcells⟩ := R4.cells (by simp)
  obtain ⟨hn, hx⟩ := F4.2 0 (x, n) ([7, 8], 0) rfl rfl
  simp only at hn hx
  subst hn
  have hcell := (hcells 0 _ rfl).1
  simp only [Nat.zero_mul] at hcell
  have hcv1 := conv_OR rW
  have hcv2 := conv_Fr hx
  rw [show strOfNums [0, 2, 7, 8] = { data := #[0, 2, 7, 8] } from rfl] at hcv1
  rw [show strOfNums [7, 8] = { data := #[7, 8] } from rfl] at hcv2
  have C4 : Cut w4 c vL4 vB4 [0] [] 0 := by unfold St at S4; rw [bodyOf_one] at S4; exact S4
  have hh := held_any w4 c vL4 vB4 _ _ _ C4 (by decide) (by decide)
  clear F4 R4 hcells hx O4 J4 K4 F3 R3 O3 J3 K3 S3
  go_wp2_with fail
  refine hh.mono ?_
  rintro e w5 ⟨rfl, n, rfl⟩
  go_wp2_with fail
  go_ret
  exact ⟨rfl, kF.drewN _⟩
end Go.Proofs.Ytfminplenemfnaa
