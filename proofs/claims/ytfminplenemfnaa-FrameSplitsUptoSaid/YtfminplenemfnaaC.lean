/- The cases of take (full). Printed by gen/frameC.py. -/
import Derived.Test.YtfminplenemfnaaB
namespace Go.Proofs.Ytfminplenemfnaa
open Go.RowKit

set_option maxHeartbeats 4000000 in
theorem take_full1 (w : World) (c : Nat) (vL vB : Value) (h0 h1 : Int) (body : List Int) (gn d : Nat) (g o cap : Nat) (l : List Int) (h : Cut w c vL vB [h0, h1] body gn) (hg : ¬ Own c vL vB g) (b0 : 0 ≤ h0 ∧ h0 ≤ 255) (b1 : 0 ≤ h1 ∧ h1 ≤ 255)
    (hd : h0 * 256 + h1 = gn + d) (hbody : body.length ≤ 4096)
    (hcap : l.length ≤ cap) (hlen : l.length ≤ 140737488351232) (hx : ∀ i x, l[i]? = some x → w.cell? ⟨g, o + i, none⟩ = some (.int .u8 x)) (hw : h0 * 256 + h1 ≤ 4096) (he : d ≤ l.length) :
    Calls Try.prog 15 #[.pointer (some ⟨c, 0, none⟩), .slice (some ⟨g, o, none⟩) l.length cap] w (PostTake c g vL vB w [h0, h1] (body ++ (l.take d)) ↑(gn + d) (l.drop d) true) := by
  have c0 := h.c0
  have c1 := h.c1
  have c2 := h.c2
  have f0 := frozen_of h.blk 0
  have f1 := frozen_of h.blk 1
  have f2 := frozen_of h.blk 2
  obtain ⟨aL, cL, rfl⟩ := h.rowL.shape
  obtain ⟨aB, cB, rfl⟩ := h.rowB.shape
  have want (n : Nat) := Calls.quiet_of (want_any (w.drewN n) _ _ _ _ _ _ _ (h.kept ((Kept.refl (fun _ => False) w).drewN n) (fun _ _ x => x)) b0 b1)
  have want2 (n : Nat) := want_any (w.drewN n) _ _ _ _ _ _ _ (h.kept ((Kept.refl (fun _ => False) w).drewN n) (fun _ _ x => x)) b0 b1
  have hcd : (d : Int) ≤ (cap : Int) := by omega
  have hLB : (body ++ (l.take d)).length = body.length + d := by (simp only [List.length_append, List.length_take]; omega)
  rw [hd] at want want2 hw
  go_enter Try.func15, Try.ntmps15
  go_wp2
  go_quiet ((go_at_call 17; exact want _))
  rw [show (gn : Int) + d - gn = d by omega]
  go_wp2_with fail
  refine (want2 _).mono ?_
  rintro e w' ⟨rfl, n, rfl⟩
  go_wp2_with fail
  go_region_law ((refine step_append_u8 _ rfl _ _ (by rfl) (.slice aB body.length cB) body (by rfl) h.rowB g o cap d (l.take d) (by rfl) (by rw [List.length_take]; omega) (fun j u hj => hx j u (take_get hj)) (by omega) ?_; intro vB' w1 k1 k2 k3; obtain ⟨aB2, cB2, hs2⟩ := k1.shape; rw [hLB] at hs2; subst hs2; have k0 : Kept (fun k => (Value.slice aB body.length cB).ownBlock = some k) w w1 := ((Kept.refl _ _).drewN _).grown k2 (fun k hk _ => hk); have q0 := k0.heap h.blk h.notB; have q1 := blk_c1 q0; have q2 := blk_c2 q0; have q3 := frozen_of q0 1; have q4 := frozen_of q0 2))
  obtain ⟨H3, H4, H5⟩ := h.body_next (gn + d) k0 k1 k3
  have want3 (n : Nat) := Calls.quiet_of (want_any (World.drewN _ n) _ _ _ _ _ _ _ (H3.kept ((Kept.refl (fun _ => False) _).drewN n) (fun _ _ x => x)) b0 b1)
  have d2 := H3.c2
  rw [hd] at want3
  go_wp2_with fail
  go_quiet ((go_at_call 17; exact want3 _))
  go_wp2_with fail
  all_goals go_ret2
  all_goals refine ⟨_, _, _, _, (by rw [List.length_drop]; rfl), ?_, ?_, H3.kept ((Kept.refl (fun _ => False) _).drewN _) (fun _ _ x => x), H4.drewN _, H5⟩
  all_goals first
    | (rw [List.length_drop]; omega)
    | exact drop_reads hx (H4.drewN _) hg (by first | exact .inl rfl | exact .inr (by omega))

set_option maxHeartbeats 4000000 in
theorem take_full2 (w : World) (c : Nat) (vL vB : Value) (h0 h1 : Int) (body : List Int) (gn d : Nat) (g o cap : Nat) (l : List Int) (h : Cut w c vL vB [h0, h1] body gn) (hg : ¬ Own c vL vB g) (b0 : 0 ≤ h0 ∧ h0 ≤ 255) (b1 : 0 ≤ h1 ∧ h1 ≤ 255)
    (hd : h0 * 256 + h1 = gn + d) (hbody : body.length ≤ 4096)
    (hcap : l.length ≤ cap) (hlen : l.length ≤ 140737488351232) (hx : ∀ i x, l[i]? = some x → w.cell? ⟨g, o + i, none⟩ = some (.int .u8 x)) (hw : h0 * 256 + h1 ≤ 4096) (he : l.length < d) :
    Calls Try.prog 15 #[.pointer (some ⟨c, 0, none⟩), .slice (some ⟨g, o, none⟩) l.length cap] w (PostTake c g vL vB w [h0, h1] (body ++ l) ↑(gn + l.length) [] false) := by
  have c0 := h.c0
  have c1 := h.c1
  have c2 := h.c2
  have f0 := frozen_of h.blk 0
  have f1 := frozen_of h.blk 1
  have f2 := frozen_of h.blk 2
  obtain ⟨aL, cL, rfl⟩ := h.rowL.shape
  obtain ⟨aB, cB, rfl⟩ := h.rowB.shape
  have want (n : Nat) := Calls.quiet_of (want_any (w.drewN n) _ _ _ _ _ _ _ (h.kept ((Kept.refl (fun _ => False) w).drewN n) (fun _ _ x => x)) b0 b1)
  have want2 (n : Nat) := want_any (w.drewN n) _ _ _ _ _ _ _ (h.kept ((Kept.refl (fun _ => False) w).drewN n) (fun _ _ x => x)) b0 b1
  have hcd : (l.length : Int) ≤ (cap : Int) := by omega
  have hLB : (body ++ l).length = body.length + l.length := by (simp only [List.length_append])
  rw [hd] at want want2 hw
  go_enter Try.func15, Try.ntmps15
  go_wp2
  go_quiet ((go_at_call 17; exact want _))
  rw [show (gn : Int) + d - gn = d by omega]
  go_wp2_with fail
  refine (want2 _).mono ?_
  rintro e w' ⟨rfl, n, rfl⟩
  go_wp2_with fail
  go_region_law ((refine step_append_u8 _ rfl _ _ (by rfl) (.slice aB body.length cB) body (by rfl) h.rowB g o cap l.length l (by rfl) (by rfl) (hx) (by omega) ?_; intro vB' w1 k1 k2 k3; obtain ⟨aB2, cB2, hs2⟩ := k1.shape; rw [hLB] at hs2; subst hs2; have k0 : Kept (fun k => (Value.slice aB body.length cB).ownBlock = some k) w w1 := ((Kept.refl _ _).drewN _).grown k2 (fun k hk _ => hk); have q0 := k0.heap h.blk h.notB; have q1 := blk_c1 q0; have q2 := blk_c2 q0; have q3 := frozen_of q0 1; have q4 := frozen_of q0 2))
  obtain ⟨H3, H4, H5⟩ := h.body_next (gn + l.length) k0 k1 k3
  have want3 (n : Nat) := Calls.quiet_of (want_any (World.drewN _ n) _ _ _ _ _ _ _ (H3.kept ((Kept.refl (fun _ => False) _).drewN n) (fun _ _ x => x)) b0 b1)
  have d2 := H3.c2
  rw [hd] at want3
  go_wp2_with fail
  have hbe : (((gn : Int) + (l.length : Int)) == ((gn : Int) + (d : Int))) = false := by (simp only [beq_eq_false_iff_ne, ne_eq]; omega)
  go_quiet ((go_at_call 17; exact want3 _))
  go_wp2_with fail
  all_goals go_ret2
  all_goals exact ⟨_, _, _, _, rfl, Nat.zero_le _, (fun i x hi => by cases hi), H3.kept ((Kept.refl (fun _ => False) _).drewN _) (fun _ _ x => x), H4.drewN _, H5⟩

set_option maxHeartbeats 4000000 in
theorem take_full3 (w : World) (c : Nat) (vL vB : Value) (h0 h1 : Int) (body : List Int) (gn d : Nat) (g o cap : Nat) (l : List Int) (h : Cut w c vL vB [h0, h1] body gn) (hg : ¬ Own c vL vB g) (b0 : 0 ≤ h0 ∧ h0 ≤ 255) (b1 : 0 ≤ h1 ∧ h1 ≤ 255)
    (hd : h0 * 256 + h1 = gn + d) (_hbody : body.length ≤ 4096)
    (hcap : l.length ≤ cap) (hlen : l.length ≤ 140737488351232) (hx : ∀ i x, l[i]? = some x → w.cell? ⟨g, o + i, none⟩ = some (.int .u8 x)) (hw : 4096 < h0 * 256 + h1) (he : d ≤ l.length) :
    Calls Try.prog 15 #[.pointer (some ⟨c, 0, none⟩), .slice (some ⟨g, o, none⟩) l.length cap] w (PostTake c g vL vB w [h0, h1] body ↑(gn + d) (l.drop d) true) := by
  have c0 := h.c0
  have c1 := h.c1
  have c2 := h.c2
  have f0 := frozen_of h.blk 0
  have f1 := frozen_of h.blk 1
  have f2 := frozen_of h.blk 2
  obtain ⟨aL, cL, rfl⟩ := h.rowL.shape
  obtain ⟨aB, cB, rfl⟩ := h.rowB.shape
  have want (n : Nat) := Calls.quiet_of (want_any (w.drewN n) _ _ _ _ _ _ _ (h.kept ((Kept.refl (fun _ => False) w).drewN n) (fun _ _ x => x)) b0 b1)
  have want2 (n : Nat) := want_any (w.drewN n) _ _ _ _ _ _ _ (h.kept ((Kept.refl (fun _ => False) w).drewN n) (fun _ _ x => x)) b0 b1
  have hcd : (d : Int) ≤ (cap : Int) := by omega
  rw [hd] at want want2 hw
  go_enter Try.func15, Try.ntmps15
  go_wp2
  go_quiet ((go_at_call 17; exact want _))
  rw [show (gn : Int) + d - gn = d by omega]
  go_wp2_with fail
  refine (want2 _).mono ?_
  rintro e w' ⟨rfl, n, rfl⟩
  go_wp2_with fail
  obtain ⟨H3, H4⟩ := (h.kept ((Kept.refl (fun _ => False) w).drewN (nq + n)) (fun _ _ x => x)).got_next (gn + d)
  have H5 := fun k (hk : Own c (Value.slice aL [h0, h1].length cL) (Value.slice aB body.length cB) k) => (Or.inl hk : Own c (Value.slice aL [h0, h1].length cL) (Value.slice aB body.length cB) k ∨ w.heap.size ≤ k)
  replace H4 := ((Kept.refl _ w).drewN (nq + n)).trans H4
  have want3 (n : Nat) := Calls.quiet_of (want_any (World.drewN _ n) _ _ _ _ _ _ _ (H3.kept ((Kept.refl (fun _ => False) _).drewN n) (fun _ _ x => x)) b0 b1)
  have d2 := H3.c2
  rw [hd] at want3
  go_wp2_with fail
  go_quiet ((go_at_call 17; exact want3 _))
  go_wp2_with fail
  all_goals go_ret2
  all_goals refine ⟨_, _, _, _, (by rw [List.length_drop]; rfl), ?_, ?_, H3.kept ((Kept.refl (fun _ => False) _).drewN _) (fun _ _ x => x), H4.drewN _, H5⟩
  all_goals first
    | (rw [List.length_drop]; omega)
    | exact drop_reads hx (H4.drewN _) hg (by first | exact .inl rfl | exact .inr (by omega))

set_option maxHeartbeats 4000000 in
theorem take_full4 (w : World) (c : Nat) (vL vB : Value) (h0 h1 : Int) (body : List Int) (gn d : Nat) (g o cap : Nat) (l : List Int) (h : Cut w c vL vB [h0, h1] body gn) (hg : ¬ Own c vL vB g) (b0 : 0 ≤ h0 ∧ h0 ≤ 255) (b1 : 0 ≤ h1 ∧ h1 ≤ 255)
    (hd : h0 * 256 + h1 = gn + d) (_hbody : body.length ≤ 4096)
    (hcap : l.length ≤ cap) (hlen : l.length ≤ 140737488351232) (_hx : ∀ i x, l[i]? = some x → w.cell? ⟨g, o + i, none⟩ = some (.int .u8 x)) (hw : 4096 < h0 * 256 + h1) (he : l.length < d) :
    Calls Try.prog 15 #[.pointer (some ⟨c, 0, none⟩), .slice (some ⟨g, o, none⟩) l.length cap] w (PostTake c g vL vB w [h0, h1] body ↑(gn + l.length) [] false) := by
  have c0 := h.c0
  have c1 := h.c1
  have c2 := h.c2
  have f0 := frozen_of h.blk 0
  have f1 := frozen_of h.blk 1
  have f2 := frozen_of h.blk 2
  obtain ⟨aL, cL, rfl⟩ := h.rowL.shape
  obtain ⟨aB, cB, rfl⟩ := h.rowB.shape
  have want (n : Nat) := Calls.quiet_of (want_any (w.drewN n) _ _ _ _ _ _ _ (h.kept ((Kept.refl (fun _ => False) w).drewN n) (fun _ _ x => x)) b0 b1)
  have want2 (n : Nat) := want_any (w.drewN n) _ _ _ _ _ _ _ (h.kept ((Kept.refl (fun _ => False) w).drewN n) (fun _ _ x => x)) b0 b1
  have hcd : (l.length : Int) ≤ (cap : Int) := by omega
  rw [hd] at want want2 hw
  go_enter Try.func15, Try.ntmps15
  go_wp2
  go_quiet ((go_at_call 17; exact want _))
  rw [show (gn : Int) + d - gn = d by omega]
  go_wp2_with fail
  refine (want2 _).mono ?_
  rintro e w' ⟨rfl, n, rfl⟩
  go_wp2_with fail
  obtain ⟨H3, H4⟩ := (h.kept ((Kept.refl (fun _ => False) w).drewN (nq + n)) (fun _ _ x => x)).got_next (gn + l.length)
  have H5 := fun k (hk : Own c (Value.slice aL [h0, h1].length cL) (Value.slice aB body.length cB) k) => (Or.inl hk : Own c (Value.slice aL [h0, h1].length cL) (Value.slice aB body.length cB) k ∨ w.heap.size ≤ k)
  replace H4 := ((Kept.refl _ w).drewN (nq + n)).trans H4
  have want3 (n : Nat) := Calls.quiet_of (want_any (World.drewN _ n) _ _ _ _ _ _ _ (H3.kept ((Kept.refl (fun _ => False) _).drewN n) (fun _ _ x => x)) b0 b1)
  have d2 := H3.c2
  rw [hd] at want3
  go_wp2_with fail
  have hbe : (((gn : Int) + (l.length : Int)) == ((gn : Int) + (d : Int))) = false := by (simp only [beq_eq_false_iff_ne, ne_eq]; omega)
  go_quiet ((go_at_call 17; exact want3 _))
  go_wp2_with fail
  all_goals go_ret2
  all_goals exact ⟨_, _, _, _, rfl, Nat.zero_le _, (fun i x hi => by cases hi), H3.kept ((Kept.refl (fun _ => False) _).drewN _) (fun _ _ x => x), H4.drewN _, H5⟩

end Go.Proofs.Ytfminplenemfnaa
