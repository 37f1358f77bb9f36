/- Appends whose source may be nil; frames behind frames; what a stream's parts parse to. -/
import Derived.Test.YtfminplenemfnaaV
namespace Go.Proofs.Ytfminplenemfnaa
open Go.RowKit

/-- Bytes, out of whatever slice, onto a row of bytes. -/
theorem wpList_append_A (w : World) {ops : Array Oper} {rest : List Oper} {o : Oper} {a : Act} {Q : Exit → Act → World → Prop} (hgd : o.guard = none) (s x : Operand)
    (ho : o.op = .call { callee := .builtin .append, args := #[s, x], argTypes := #[22, 22] })
    (v : Value) (l : List Int) (hs : a.eval s = v) (hown : OR w v l) (g : Nat) (u : Value) (m : List Int) (hx : a.eval x = u) (hu : SlA w g u m) (hbytes : l.length + m.length ≤ 140737488355328)
    (h : ∀ v' w', OR w' v' (l ++ m) → w.grownBy w' v.ownBlock → NewOr w v v' → wpList Try.prog ops Q rest (a.put o.dst v') w') : wpList Try.prog ops Q (o :: rest) a w := by
  rcases hu with ⟨rfl, rfl⟩ | ⟨ad, cap, rfl, rfl⟩ | ⟨off, cap, rfl, hc, hg, hc2⟩
  · exact wpList_append_u8_nil w hgd s x ho v l hs hown hx (h v w (by rw [List.append_nil]; exact hown) (World.grownBy.refl w _) (.inl rfl))
  · exact wpList_append_u8_zero w hgd s x ho v l hs hown ad cap hx (by simp only [List.length_nil] at hbytes; omega) (fun v' w' h1 h2 h3 => h v' w' (by rw [List.append_nil]; exact h1) h2 h3)
  · exact wpList_append_u8 w hgd s x ho v l hs hown g off cap m.length m hx rfl hc2 hbytes h

/-- Frames behind frames. -/
theorem wpList_append_F (w : World) {ops : Array Oper} {rest : List Oper} {o : Oper} {a : Act} {Q : Exit → Act → World → Prop} (hgd : o.guard = none) (s x : Operand)
    (ho : o.op = .call { callee := .builtin .append, args := #[s, x], argTypes := #[32, 32] })
    (v : Value) (vs : List (Value × Int)) (hs : a.eval s = v) (hown : FR w v vs) (u : Value) (us : List (Value × Int)) (hx : a.eval x = u) (hu : FR w u us) (hone : ∀ p ∈ us, p.1.oneCell' = true) (hlen : vs.length + us.length ≤ 4398046511104)
    (h : ∀ v' w', FR w' v' (vs ++ us) → w.grownBy w' v.ownBlock → NewOr w v v' → wpList Try.prog ops Q rest (a.put o.dst v') w') : wpList Try.prog ops Q (o :: rest) a w := by
  obtain ⟨i0, hi, hz0, hz1, hz2⟩ := info_parts Try.info41
  have hu' := hu
  rcases hu'.2 with ⟨rfl, hn⟩ | ⟨g, cap, cur, rfl, _, hg, hc, hm, _⟩
  · have hus : us = [] := List.eq_nil_of_length_eq_zero hn
    subst hus
    refine wpList_plain hgd fun K hK => ?_
    have hr := run_append_owned_none (P := Try.prog) w 0 32 o.type 41 i0 2 Try.underlying32 hi v vs.length (frow vs) hown
    unfold Oper.wp execOp
    simp only [ho, resolve, invoke, builtin, Sem.run_bind, Sem.run_pure, Result.andThen_ok, List.map_toArray, List.map_cons, List.map_nil, hs, hx, hr]
    exact hK _ _ (h v w (by rw [List.append_nil]; exact hown) (World.grownBy.refl w _) (.inl rfl))
  · refine wpList_append_at w hgd s x 32 ho 41 i0 (.agg #[.slice none 0 0, .int .i64 0]) 2 32 Try.underlying32 hi hz0 hz1 hz2 rfl (by decide) v vs.length (frow vs) hs hown ⟨g, 0, none⟩ us.length cap (frow us) hx (frow_len us) (World.ownsRow.cells hu (g := g) rfl) ?_ (by simp only [maxLen]; omega) (by omega) ?_
    · intro y hy
      unfold frow at hy
      obtain ⟨p, hp, hy⟩ := List.mem_flatMap.1 hy
      simp only [List.mem_cons, List.not_mem_nil, or_false] at hy
      rcases hy with rfl | rfl
      · exact hone p hp
      · rfl
    · intro v' w' h1 h2 h3
      refine h v' w' ?_ h2 h3
      unfold FR
      rw [frow_app, List.length_append]
      exact h1

theorem parse_app (t s : List Int) : parse (t ++ s) = ((parse t).1 ++ (parse ((parse t).2 ++ s)).1, (parse ((parse t).2 ++ s)).2) := by
  induction h : t.length using Nat.strongRecOn generalizing t with
  | ind n ih =>
    by_cases hc : 2 ≤ t.length ∧ 2 + wantN t ≤ t.length
    · have hw : wantN (t.take (2 + wantN t)) = wantN t := by unfold wantN; rw [wantI_take hc.1]
      have hl : (t.take (2 + wantN t)).length = 2 + wantN (t.take (2 + wantN t)) := by rw [hw, List.length_take]; omega
      have h2 : 2 ≤ (t.take (2 + wantN t)).length := by rw [hl]; omega
      have e1 : t ++ s = t.take (2 + wantN t) ++ (t.drop (2 + wantN t) ++ s) := by rw [← List.append_assoc, List.take_append_drop]
      have e2 : parse t = (fr (t.take (2 + wantN t)) :: (parse (t.drop (2 + wantN t))).1, (parse (t.drop (2 + wantN t))).2) := by
        conv => lhs; rw [parse]
        rw [dif_pos hc]
      rw [e1, parse_full h2 hl, ih _ (by rw [List.length_drop]; omega) (t.drop (2 + wantN t)) rfl, e2]
      rfl
    · have e2 : parse t = ([], t) := by rw [parse, dif_neg hc]
      rw [e2]
      rfl
theorem parse_rest_opn (t : List Int) : Opn (parse t).2 := by
  induction h : t.length using Nat.strongRecOn generalizing t with
  | ind n ih =>
    by_cases hc : 2 ≤ t.length ∧ 2 + wantN t ≤ t.length
    · rw [parse, dif_pos hc]
      exact ih _ (by rw [List.length_drop]; omega) _ rfl
    · rw [parse, dif_neg hc]
      unfold Opn
      simp only
      omega
theorem parse_rest_bytes (t : List Int) (hb : Bytes t) : Bytes (parse t).2 := by
  induction h : t.length using Nat.strongRecOn generalizing t with
  | ind n ih =>
    by_cases hc : 2 ≤ t.length ∧ 2 + wantN t ≤ t.length
    · rw [parse, dif_pos hc]
      exact ih _ (by rw [List.length_drop]; omega) _ (hb.drop _) rfl
    · rw [parse, dif_neg hc]
      exact hb
theorem parse_len (t : List Int) : 2 * (parse t).1.length + (parse t).2.length ≤ t.length := by
  induction h : t.length using Nat.strongRecOn generalizing t with
  | ind n ih =>
    by_cases hc : 2 ≤ t.length ∧ 2 + wantN t ≤ t.length
    · have := ih _ (by rw [List.length_drop]; omega) (t.drop (2 + wantN t)) rfl
      rw [parse, dif_pos hc]
      simp only [List.length_cons]
      rw [List.length_drop] at this
      omega
    · rw [parse, dif_neg hc]
      simp
      omega

theorem Fits.app {w : World} {N : Nat → Prop} {vs us : List (Value × Int)} {fs gs : List (List Int × Int)} (h : Fits w N vs fs) (k : Fits w N us gs) : Fits w N (vs ++ us) (fs ++ gs) := by
  refine ⟨by simp [h.1, k.1], fun i p f hp hf => ?_⟩
  rcases Nat.lt_or_ge i vs.length with hi | hi
  · rw [List.getElem?_append_left hi] at hp
    rw [List.getElem?_append_left (by rw [← h.1]; exact hi)] at hf
    exact h.2 i p f hp hf
  · rw [List.getElem?_append_right hi] at hp
    rw [List.getElem?_append_right (by rw [← h.1]; exact hi), ← h.1] at hf
    exact k.2 _ p f hp hf
theorem Fits.one {w : World} {N : Nat → Prop} {vs : List (Value × Int)} {fs : List (List Int × Int)} (h : Fits w N vs fs) : ∀ p ∈ vs, p.1.oneCell' = true := by
  intro p hp
  obtain ⟨i, hi, rfl⟩ := List.mem_iff_getElem.1 hp
  obtain ⟨_, hx⟩ := h.2 i _ (fs[i]'(by rw [← h.1]; exact hi)) (List.getElem?_eq_getElem hi) (List.getElem?_eq_getElem _)
  rcases hx with ⟨e, _⟩ | ⟨g, _, o, cap, e, _⟩
  · rw [e]; rfl
  · rw [e]; rfl

end Go.Proofs.Ytfminplenemfnaa
