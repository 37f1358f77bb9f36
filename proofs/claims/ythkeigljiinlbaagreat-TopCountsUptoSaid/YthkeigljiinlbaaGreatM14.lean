/- Picked out of the text BO of TopExprs. -/
import Derived.Test.YthkeigljiinlbaaGreatM13
import Derived.Test.YthkeigljiinlbaaGreatRows
namespace Go.Proofs.YthkeigljiinlbaaGreat
open Go.RowKit

/-! A region that draws, within a round of a range over a function. -/
def noDefer (o : Oper) : Bool := match o.op with | .defer _ => false | _ => true
theorem noDefer_ne {o : Oper} (h : noDefer o = true) (c : Call) : o.op ≠ .defer c := by
  intro e
  unfold noDefer at h
  rw [e] at h
  cases h
theorem wp_inRound {P : Program} {l n : Nat} {o : Oper} {a : Act} {w : World} {K K' : Act → World → Prop} {Q : Exit → Act → World → Prop} (hd : noDefer o = true) (hK : ∀ a w, K a w → K' a w) (h : o.wp P a w K Q) :
    o.wpIn (Fence.wide.inRound l) n P a w K' Q := by
  unfold Oper.wpIn
  refine ⟨fun _ _ => trivial, ?_⟩
  rw [Oper.semAt_plain _ _ _ (noDefer_ne hd)]
  unfold Oper.wp at h
  generalize (execOp a.eval o).run P w = r at *
  cases r with
  | ok x w' =>
    cases x <;> simp only [Oper.upon] at h <;> simp only [Oper.uponIn]
    case value => exact hK _ _ h
    case skip => exact hK _ _ h
    case defer => exact hK _ _ h
    case enter => exact ⟨fun q => by simp [Fence.inRound, Fence.wide] at q, CallsIn.inRound l (callsIn_wide.2 (h.mono (fun e w'' he => by cases e <;> first | exact hK _ _ he | exact he)))⟩
    case row => exact ⟨fun q => by simp [Fence.inRound, Fence.wide] at q, fun c cs hr => by
      obtain ⟨v, w2, h1, h2⟩ := h c cs
      exact ⟨v, w2, hK _ _ h1, stepsIn_wide.2 h2⟩⟩
  | halt x w' => cases x <;> simp only [Oper.upon] at h <;> simp only [Oper.uponIn] <;> exact h
theorem wpOp_inRound {P : Program} {l n : Nat} {ops : Array Oper} {Q : Exit → Act → World → Prop} {i : Nat} {a : Act} {w : World} {K K' : Act → World → Prop} (hd : ops.all noDefer = true) (hQ : ¬ LetsOut Q) (hK : ∀ a w, K a w → K' a w) (h : wpOp P ops Q i K a w) :
    wpOpIn (Fence.wide.inRound l) n P ops Q i K' a w := by
  unfold wpOp at h
  unfold wpOpIn
  cases ho : ops[i]? with
  | none => rw [ho] at h; exact hK _ _ h
  | some o =>
    rw [ho] at h
    simp only at h ⊢
    have hdo : noDefer o = true := by
      obtain ⟨hi, he⟩ := Array.getElem?_eq_some_iff.1 ho
      rw [Array.all_eq_true] at hd
      have := hd i hi
      rw [he] at this
      exact this
    by_cases hw : Region.wanted o (yielded ops a.tmps) = true
    · rw [if_pos hw] at h ⊢
      rcases h with h | ⟨_, h⟩
      · exact wp_inRound hdo hK h
      · exact absurd h hQ
    · rw [if_neg hw] at h ⊢
      exact ⟨fun _ _ => trivial, hK _ _ h⟩
theorem wpAny_inRound {P : Program} {l n : Nat} {md : Region.Mode} {ops : Array Oper} {Q : Exit → Act → World → Prop} (hd : ops.all noDefer = true) (hQ : ¬ LetsOut Q) : ∀ (fuel : Nat) (listed : Array Bool) (a : Act) (w : World), wpAny P md ops Q fuel listed a w →
    wpAnyIn (Fence.wide.inRound l) n P md ops Q fuel listed a w
  | 0, _, _, _, h => h
  | fuel + 1, listed, a, w, h => ⟨h.1, fun i hi => wpOp_inRound hd hQ (fun a w q => wpAny_inRound hd hQ fuel _ a w q) (h.2 i hi)⟩
theorem region_inRound {P : Program} {l n id : Nat} {ops : Array Oper} {Q : Exit → Act → World → Prop} {a : Act} {w : World} (hm : P.follows .mixedOrders = true) (hd : ops.all noDefer = true) (hQ : ¬ LetsOut Q)
    (h : wpAny P .any ops Q ops.size (Array.replicate ops.size false) a w.drew) : (Code.region id ops true).wpIn (Fence.wide.inRound l) n P Q a w :=
  wpIn_region_any hm (wpAny_inRound hd hQ _ _ _ _ h)

/-! Another row of edges behind a row of edges. -/
theorem EdN.cat {P : Program} {w0 wr w1 W : World} {v u : Value} {M M2 : List PE} (t ty : TypeId) (z : Value) (bytes : Nat) (ht : P.underlying t = some (.slice 50)) (hi : (P.info? 50).map (fun i => (i.zero, i.size, i.bytes)) = some (some z, 3, bytes)) (hzs : z.cells.size = 3)
    (h : EdN w0 wr v M) (k : Kept (fun _ => False) wr w1) (h2 : EdN w1 W u M2)
    (h63 : M.length + M2.length ≤ maxLen) (hb : (M.length + M2.length) * bytes ≤ 140737488355328) :
    ∃ v' w', Hid ((Builtin.append_ #[t, t] ty #[v, u]).run P W = .ok v' w') ∧ (∃ A' c', v' = .slice A' (M.length + M2.length) c' ∧ EdN w0 w' v' (M ++ M2) ∧ Kept (fun j => v.ownBlock = some j) wr w' ∧ (∀ j, v'.ownBlock = some j → v.ownBlock = some j ∨ wr.heap.size ≤ j) ∧
      ∀ p ∈ M2, ∀ j, (slE p).ownBlock = some j → wr.heap.size ≤ j) := by
  obtain ⟨B, c, hu, hB, hsr⟩ := h2.row.asSrc encE_len
  have k2 : Kept (fun _ => False) wr W := k.trans h2.kept
  obtain ⟨A', c', w', h1, hr2, h3, h4⟩ := app_src (P := P) (M := M2) (N := fun _ => False) t ty z bytes ht hi hzs (by decide) encE_len encE_one (h.row.same k2) B c hB hsr h63 hb
  rw [← hu] at h1
  rw [List.length_append] at hr2
  have kk := h.kept.trans k2
  have hw1 : wr.heap.size ≤ w1.heap.size := k.size
  have hr : ∀ q ∈ M ++ M2, Row encW 3 48 W (slE q) q.2.r ∧ (∀ j, (slE q).ownBlock = some j → w0.heap.size ≤ j) := by
    intro q hq
    rw [List.mem_append] at hq
    rcases hq with hq | hq
    · exact ⟨(h.rows q hq).1.same k2, (h.rows q hq).2⟩
    · exact ⟨(h2.rows q hq).1, fun j hj => Nat.le_trans (h.kept.trans k).size ((h2.rows q hq).2 j hj)⟩
  refine ⟨_, w', h1, A', c', rfl, ⟨hr2, fun j hj => ?_, fun q hq => ⟨(hr q hq).1.kept h3 (fun g hg e => ?_), (hr q hq).2⟩, kk.trans' h3 (fun _ _ q => q) (fun i hi q => absurd (h.own i q) (by omega))⟩, k2.trans' h3 (fun _ _ q => q.elim) (fun _ _ q => q), fun j hj => ?_, fun p hp j hj => Nat.le_trans hw1 ((h2.rows p hp).2 j hj)⟩
  · rcases h4 j hj with q | q
    · exact h.own j q
    · exact Nat.le_trans kk.size q
  · obtain ⟨cs, e1⟩ := row_cells (hr q hq).1 hg
    obtain ⟨cs2, e2⟩ := row_cells (h.row.same k2) e
    rw [e1] at e2
    injection e2 with e2
    injection e2 with _ e2 _
    exact absurd e2 (by decide)
  · rcases h4 j hj with q | q
    · exact .inl q
    · exact .inr (Nat.le_trans k2.size q)
theorem EdN.keptX {w0 w w2 : World} {v : Value} {M : List PE} {X : Nat → Prop} (h : EdN w0 w v M) (k : Kept X w w2) (h0 : ∀ j, X j → w0.heap.size ≤ j) (hv : ∀ j, v.ownBlock = some j → ¬ X j) (hM : ∀ p ∈ M, ∀ j, (slE p).ownBlock = some j → ¬ X j) : EdN w0 w2 v M :=
  ⟨h.row.kept k hv, h.own, fun p hp => ⟨(h.rows p hp).1.kept k (hM p hp), (h.rows p hp).2⟩, h.kept.trans' k (fun _ _ q => q) (fun j hj q => absurd (h0 j q) (by omega))⟩

/-! What Filter tells. -/
theorem eachB_mem : ∀ (gs : List (List Wd × List Jp)) (last : Option (List Wd)), eachB gs last = true → ∀ p ∈ gs, rowB p.1 = true ∧ stepMayB p.2 = true
  | [], _, _, p, hp => by cases hp
  | q :: gs, last, h, p, hp => by
    rw [eachB] at h
    by_cases hb : (rowB q.1 && (riseB last q.1 && stepMayB q.2)) = true
    · rw [if_pos hb] at h
      rcases List.mem_cons.1 hp with rfl | hp
      · simp only [Bool.and_eq_true] at hb
        exact ⟨hb.1, hb.2.2⟩
      · exact eachB_mem gs _ h p hp
    · rw [if_neg hb] at h
      cases h
theorem runsF_mem : ∀ (n : Nat) (L : List Ed), ∀ p ∈ runsF n L, (∃ x ∈ L, p.1 = x.r) ∧ p.2.length ≤ L.length
  | 0, L, p, hp => by simp [runsF] at hp
  | n + 1, [], p, hp => by simp [runsF] at hp
  | n + 1, x :: L, p, hp => by
    rw [runsF] at hp
    rcases List.mem_cons.1 hp with rfl | hp
    · refine ⟨⟨x, List.mem_cons_self .., rfl⟩, ?_⟩
      simp only [List.length_map]
      exact (List.takeWhile_sublist _).length_le
    · obtain ⟨⟨y, hy, he⟩, hl⟩ := runsF_mem n _ p hp
      have hs : ((x :: L).dropWhile (fun y => y.r == x.r)).Sublist (x :: L) := List.dropWhile_sublist _
      exact ⟨⟨y, hs.subset hy, he⟩, Nat.le_trans hl hs.length_le⟩
theorem runsF_len : ∀ (n : Nat) (L : List Ed), (runsF n L).length ≤ n
  | 0, L => by simp [runsF]
  | n + 1, [] => by simp [runsF]
  | n + 1, x :: L => by
    rw [runsF, List.length_cons]
    exact Nat.succ_le_succ (runsF_len n _)
theorem runs_len (L : List Ed) : (runsL L).length ≤ L.length := runsF_len _ _
theorem runs_mem {L : List Ed} {p : List Wd × List Jp} (h : p ∈ runsL L) : (∃ x ∈ L, p.1 = x.r) ∧ p.2.length ≤ L.length := runsF_mem _ _ _ h
theorem edMay_len {L : List Ed} (h : edMay L = true) : L.length ≤ 4096 := by
  unfold edMay at h
  rw [Bool.and_eq_true, decide_eq_true_eq] at h
  exact h.1
end Go.Proofs.YthkeigljiinlbaaGreat

/- Picked out of the text BR of TopExprs. -/
namespace Go.Proofs.YthkeigljiinlbaaGreat
open Go.RowKit

set_option maxRecDepth 100000 in
theorem cols_any (w : World) : Calls Tryz.prog 6 #[] w fun e w' => ∃ B, e = .returned (.slice (some ⟨B, 0, none⟩) 1 1) ∧ Src encC 2 w' (fun _ => False) (some ⟨B, 0, none⟩) [⟨[97], 1⟩] ∧ Kept (fun _ => False) w w' := by
  go_enter Tryz.func6, Tryz.ntmps6
  go_wp2_with fail
  go_ret
  exact ⟨_, rfl, Src.one (heap_alloc_new w _) (fun q => q), (Kept.refl _ w).alloc _⟩
set_option maxRecDepth 100000 in
theorem five_any (w : World) : Calls Tryz.prog 10 #[] w fun e w' => ∃ B, e = .returned (.slice (some ⟨B, 0, none⟩) 1 1) ∧ Src encW 3 w' (fun _ => False) (some ⟨B, 0, none⟩) [⟨1, 5, []⟩] ∧ Kept (fun _ => False) w w' := by
  go_enter Tryz.func10, Tryz.ntmps10
  go_wp2_with fail
  go_ret
  exact ⟨_, rfl, Src.one (heap_alloc_new w _) (fun q => q), (Kept.refl _ w).alloc _⟩

end Go.Proofs.YthkeigljiinlbaaGreat

/- What the bound on the bulk of what is read gives. Began as the page's text on it. -/
namespace Go.Proofs.YthkeigljiinlbaaGreat.bulks

theorem one_le {H : Type} (d : DataW H) : 1 ≤ Rows.uptoBulk d := by
  cases d with
  | lit l => cases l <;> simp [Rows.uptoBulk]
  | nil => simp [Rows.uptoBulk]
  | ptr d => simp [Rows.uptoBulk]
  | slice elems spare => simp [Rows.uptoBulk]
  | agg parts => simp [Rows.uptoBulk]
  | iface t d => simp [Rows.uptoBulk]
  | map entries => simp [Rows.uptoBulk]
  | held h => simp [Rows.uptoBulk]

/-- a part's bulk is at most the whole's -/
theorem part_le {H : Type} {d : DataW H} {l : List (DataW H)} (h : d ∈ l) : Rows.uptoBulk d ≤ Rows.uptoBulkAll l := by
  induction l with
  | nil => cases h
  | cons x r ih =>
    simp only [Rows.uptoBulkAll]
    cases List.mem_cons.1 h with
    | inl e => subst e; omega
    | inr e => have := ih e; omega

theorem append {H : Type} (l r : List (DataW H)) : Rows.uptoBulkAll (l ++ r) = Rows.uptoBulkAll l + Rows.uptoBulkAll r := by
  induction l with
  | nil => simp [Rows.uptoBulkAll]
  | cons x l ih => simp only [List.cons_append, Rows.uptoBulkAll, ih]; omega

/-- so many values at the most -/
theorem length_le {H : Type} (l : List (DataW H)) : l.length ≤ Rows.uptoBulkAll l := by
  induction l with
  | nil => simp [Rows.uptoBulkAll]
  | cons x r ih => have := one_le x; simp only [Rows.uptoBulkAll, List.length_cons]; omega

/-- a slice's places, and what they hold -/
theorem slice_le {H : Type} (elems spare : List (DataW H)) : elems.length + spare.length + 1 ≤ Rows.uptoBulk (.slice elems spare) := by
  have h1 := length_le elems
  have h2 := length_le spare
  simp only [Rows.uptoBulk]
  omega
theorem slice_elems {H : Type} (elems spare : List (DataW H)) : Rows.uptoBulkAll elems + 1 ≤ Rows.uptoBulk (.slice elems spare) := by
  simp only [Rows.uptoBulk]
  omega

/-- a string's letters -/
theorem string_eq {H : Type} (bytes : List UInt8) : Rows.uptoBulk (DataW.lit (H := H) (.string bytes)) = bytes.length + 1 := by
  simp [Rows.uptoBulk]

/-- THE BOUND, as the builder hands it over ('hk') -/
theorem bound {H : Type} {l : List (DataW H)} (hk : Rows.uptoSmall H l = true) : Rows.uptoBulkAll l ≤ 1048576 := by
  simpa [Rows.uptoSmall] using hk

/-- ROOM: a slice of n elements of b bytes, grown by append: below the 2^48 bytes that append, make and a Builder bear. Here n up to 2^21, b up to 4,096: put your own numbers. -/
theorem room {n b : Nat} (hn : n ≤ 2097152) (hb : b ≤ 4096) : (n + n / 4 + 192) * b ≤ 281474976710656 := by
  have h : (n + n / 4 + 192) * b ≤ 2621632 * 4096 := Nat.mul_le_mul (by omega) hb
  omega

end Go.Proofs.YthkeigljiinlbaaGreat.bulks
