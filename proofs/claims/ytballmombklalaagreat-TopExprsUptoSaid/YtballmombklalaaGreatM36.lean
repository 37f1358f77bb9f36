/- linear.Filter: what it computes; a region that draws its order within a round. -/
import Derived.Test.YtballmombklalaaGreatM35
import Derived.Test.YtballmombklalaaGreatM28
import Derived.Test.YtballmombklalaaGreatM20
namespace Go.Proofs.YtballmombklalaaGreat
open Go.RowKit

/-! A region that draws, within a round of a range over a function. -/
def noDefer (o : Oper) : Bool := match o.op with | .defer _ => false | _ => true
theorem noDefer_ne {o : Oper} (h : noDefer o = true) (c : Call) : o.op ≠ .defer c := by
  intro e
  unfold noDefer at h
  rw [e] at h
  cases h
theorem wp_inRound {P : Program} {l n : Nat} {o : Oper} {a : Act} {w : World} {K K' : Act → World → Prop} {Q : Exit → Act → World → Prop} (hd : noDefer o = true) (hK : ∀ a w, K a w → K' a w) (h : o.wp P a w K Q) :
    o.wpIn (Fence.wide.inRound l) n P a w K' Q := by
  unfold Oper.wpIn
  refine ⟨fun _ _ => trivial, ?_⟩
  rw [Oper.semAt_plain _ _ _ (noDefer_ne hd)]
  unfold Oper.wp at h
  generalize (execOp a.eval o).run P w = r at *
  cases r with
  | ok x w' =>
    cases x <;> simp only [Oper.upon] at h <;> simp only [Oper.uponIn]
    case value => exact hK _ _ h
    case skip => exact hK _ _ h
    case defer => exact hK _ _ h
    case enter => exact ⟨fun q => by simp [Fence.inRound, Fence.wide] at q, CallsIn.inRound l (callsIn_wide.2 (h.mono (fun e w'' he => by cases e <;> first | exact hK _ _ he | exact he)))⟩
    case row => exact ⟨fun q => by simp [Fence.inRound, Fence.wide] at q, fun c cs hr => by
      obtain ⟨v, w2, h1, h2⟩ := h c cs
      exact ⟨v, w2, hK _ _ h1, stepsIn_wide.2 h2⟩⟩
  | halt x w' => cases x <;> simp only [Oper.upon] at h <;> simp only [Oper.uponIn] <;> exact h
theorem wpOp_inRound {P : Program} {l n : Nat} {ops : Array Oper} {Q : Exit → Act → World → Prop} {i : Nat} {a : Act} {w : World} {K K' : Act → World → Prop} (hd : ops.all noDefer = true) (hQ : ¬ LetsOut Q) (hK : ∀ a w, K a w → K' a w) (h : wpOp P ops Q i K a w) :
    wpOpIn (Fence.wide.inRound l) n P ops Q i K' a w := by
  unfold wpOp at h
  unfold wpOpIn
  cases ho : ops[i]? with
  | none => rw [ho] at h; exact hK _ _ h
  | some o =>
    rw [ho] at h
    simp only at h ⊢
    have hdo : noDefer o = true := by
      obtain ⟨hi, he⟩ := Array.getElem?_eq_some_iff.1 ho
      rw [Array.all_eq_true] at hd
      have := hd i hi
      rw [he] at this
      exact this
    by_cases hw : Region.wanted o (yielded ops a.tmps) = true
    · rw [if_pos hw] at h ⊢
      rcases h with h | ⟨_, h⟩
      · exact wp_inRound hdo hK h
      · exact absurd h hQ
    · rw [if_neg hw] at h ⊢
      exact ⟨fun _ _ => trivial, hK _ _ h⟩
theorem wpAny_inRound {P : Program} {l n : Nat} {md : Region.Mode} {ops : Array Oper} {Q : Exit → Act → World → Prop} (hd : ops.all noDefer = true) (hQ : ¬ LetsOut Q) : ∀ (fuel : Nat) (listed : Array Bool) (a : Act) (w : World), wpAny P md ops Q fuel listed a w →
    wpAnyIn (Fence.wide.inRound l) n P md ops Q fuel listed a w
  | 0, _, _, _, h => h
  | fuel + 1, listed, a, w, h => ⟨h.1, fun i hi => wpOp_inRound hd hQ (fun a w q => wpAny_inRound hd hQ fuel _ a w q) (h.2 i hi)⟩
theorem region_inRound {P : Program} {l n id : Nat} {ops : Array Oper} {Q : Exit → Act → World → Prop} {a : Act} {w : World} (hm : P.follows .mixedOrders = true) (hd : ops.all noDefer = true) (hQ : ¬ LetsOut Q)
    (h : wpAny P .any ops Q ops.size (Array.replicate ops.size false) a w.drew) : (Code.region id ops true).wpIn (Fence.wide.inRound l) n P Q a w :=
  wpIn_region_any hm (wpAny_inRound hd hQ _ _ _ _ h)

/-! Another row of edges behind a row of edges. -/
theorem EdN.cat {P : Program} {w0 wr w1 W : World} {v u : Value} {M M2 : List PE} (t ty : TypeId) (z : Value) (bytes : Nat) (ht : P.underlying t = some (.slice 84)) (hi : (P.info? 84).map (fun i => (i.zero, i.size, i.bytes)) = some (some z, 3, bytes)) (hzs : z.cells.size = 3)
    (h : EdN w0 wr v M) (k : Kept (fun _ => False) wr w1) (h2 : EdN w1 W u M2)
    (h63 : M.length + M2.length ≤ maxLen) (hb : (M.length + M2.length) * bytes ≤ 140737488355328) :
    ∃ v' w', Hid ((Builtin.append_ #[t, t] ty #[v, u]).run P W = .ok v' w') ∧ (∃ A' c', v' = .slice A' (M.length + M2.length) c' ∧ EdN w0 w' v' (M ++ M2) ∧ Kept (fun j => v.ownBlock = some j) wr w' ∧ (∀ j, v'.ownBlock = some j → v.ownBlock = some j ∨ wr.heap.size ≤ j) ∧
      ∀ p ∈ M2, ∀ j, (slE p).ownBlock = some j → wr.heap.size ≤ j) := by
  obtain ⟨B, c, hu, hB, hsr⟩ := h2.row.asSrc encE_len
  have k2 : Kept (fun _ => False) wr W := k.trans h2.kept
  obtain ⟨A', c', w', h1, hr2, h3, h4⟩ := app_src (P := P) (M := M2) (N := fun _ => False) t ty z bytes ht hi hzs (by decide) encE_len encE_one (h.row.same k2) B c hB hsr h63 hb
  rw [← hu] at h1
  rw [List.length_append] at hr2
  have kk := h.kept.trans k2
  have hw1 : wr.heap.size ≤ w1.heap.size := k.size
  have hr : ∀ q ∈ M ++ M2, Row encW 3 52 W (slE q) q.2.r ∧ (∀ j, (slE q).ownBlock = some j → w0.heap.size ≤ j) := by
    intro q hq
    rw [List.mem_append] at hq
    rcases hq with hq | hq
    · exact ⟨(h.rows q hq).1.same k2, (h.rows q hq).2⟩
    · exact ⟨(h2.rows q hq).1, fun j hj => Nat.le_trans (h.kept.trans k).size ((h2.rows q hq).2 j hj)⟩
  refine ⟨_, w', h1, A', c', rfl, ⟨hr2, fun j hj => ?_, fun q hq => ⟨(hr q hq).1.kept h3 (fun g hg e => ?_), (hr q hq).2⟩, kk.trans' h3 (fun _ _ q => q) (fun i hi q => absurd (h.own i q) (by omega))⟩, k2.trans' h3 (fun _ _ q => q.elim) (fun _ _ q => q), fun j hj => ?_, fun p hp j hj => Nat.le_trans hw1 ((h2.rows p hp).2 j hj)⟩
  · rcases h4 j hj with q | q
    · exact h.own j q
    · exact Nat.le_trans kk.size q
  · obtain ⟨cs, e1⟩ := row_cells (hr q hq).1 hg
    obtain ⟨cs2, e2⟩ := row_cells (h.row.same k2) e
    rw [e1] at e2
    injection e2 with e2
    injection e2 with _ e2 _
    exact absurd e2 (by decide)
  · rcases h4 j hj with q | q
    · exact .inl q
    · exact .inr (Nat.le_trans k2.size q)
theorem EdN.keptX {w0 w w2 : World} {v : Value} {M : List PE} {X : Nat → Prop} (h : EdN w0 w v M) (k : Kept X w w2) (h0 : ∀ j, X j → w0.heap.size ≤ j) (hv : ∀ j, v.ownBlock = some j → ¬ X j) (hM : ∀ p ∈ M, ∀ j, (slE p).ownBlock = some j → ¬ X j) : EdN w0 w2 v M :=
  ⟨h.row.kept k hv, h.own, fun p hp => ⟨(h.rows p hp).1.kept k (hM p hp), (h.rows p hp).2⟩, h.kept.trans' k (fun _ _ q => q) (fun j hj q => absurd (h0 j q) (by omega))⟩

/-! What Filter tells. -/
def filL (x : List Wd) (gs : List (List Wd × List Jp)) : List Ed := gs.flatMap (fun p => if (holdsS x p.1).1 = true then putL p.1 p.2 else [])
def filS (L : List Ed) (x : List Wd) : List Ed × Int :=
  if edMay L = true then (if formI x = 0 then (match (runsL L).find? (fun p => (holdsS x p.1).2 != 0) with | some p => ([], (holdsS x p.1).2) | none => (filL x (runsL L), 0)) else ([], formI x)) else ([], 2)
theorem eachB_mem : ∀ (gs : List (List Wd × List Jp)) (last : Option (List Wd)), eachB gs last = true → ∀ p ∈ gs, rowB p.1 = true ∧ stepMayB p.2 = true
  | [], _, _, p, hp => by cases hp
  | q :: gs, last, h, p, hp => by
    rw [eachB] at h
    by_cases hb : (rowB q.1 && (riseB last q.1 && stepMayB q.2)) = true
    · rw [if_pos hb] at h
      rcases List.mem_cons.1 hp with rfl | hp
      · simp only [Bool.and_eq_true] at hb
        exact ⟨hb.1, hb.2.2⟩
      · exact eachB_mem gs _ h p hp
    · rw [if_neg hb] at h
      cases h
theorem runsF_mem : ∀ (n : Nat) (L : List Ed), ∀ p ∈ runsF n L, (∃ x ∈ L, p.1 = x.r) ∧ p.2.length ≤ L.length
  | 0, L, p, hp => by simp [runsF] at hp
  | n + 1, [], p, hp => by simp [runsF] at hp
  | n + 1, x :: L, p, hp => by
    rw [runsF] at hp
    rcases List.mem_cons.1 hp with rfl | hp
    · refine ⟨⟨x, List.mem_cons_self .., rfl⟩, ?_⟩
      simp only [List.length_map]
      exact (List.takeWhile_sublist _).length_le
    · obtain ⟨⟨y, hy, he⟩, hl⟩ := runsF_mem n _ p hp
      have hs : ((x :: L).dropWhile (fun y => y.r == x.r)).Sublist (x :: L) := List.dropWhile_sublist _
      exact ⟨⟨y, hs.subset hy, he⟩, Nat.le_trans hl hs.length_le⟩
theorem runsF_len : ∀ (n : Nat) (L : List Ed), (runsF n L).length ≤ n
  | 0, L => by simp [runsF]
  | n + 1, [] => by simp [runsF]
  | n + 1, x :: L => by
    rw [runsF, List.length_cons]
    exact Nat.succ_le_succ (runsF_len n _)
theorem runs_len (L : List Ed) : (runsL L).length ≤ L.length := runsF_len _ _
theorem runs_mem {L : List Ed} {p : List Wd × List Jp} (h : p ∈ runsL L) : (∃ x ∈ L, p.1 = x.r) ∧ p.2.length ≤ L.length := runsF_mem _ _ _ h
theorem filL_len (x : List Wd) (m : Nat) : ∀ (gs : List (List Wd × List Jp)), (∀ p ∈ gs, p.2.length ≤ m) → (filL x gs).length ≤ gs.length * m
  | [], _ => by simp [filL]
  | q :: gs, h => by
    have ih := filL_len x m gs (fun p hp => h p (List.mem_cons_of_mem _ hp))
    have hq := h q (List.mem_cons_self ..)
    have e : filL x (q :: gs) = (if (holdsS x q.1).1 = true then putL q.1 q.2 else []) ++ filL x gs := by unfold filL; rw [List.flatMap_cons]
    rw [e, List.length_append, List.length_cons, Nat.add_mul, Nat.one_mul]
    have : (if (holdsS x q.1).1 = true then putL q.1 q.2 else []).length ≤ m := by
      split
      · unfold putL; rw [List.length_map]; exact hq
      · simp
    omega
theorem filL_next {x : List Wd} {gs : List (List Wd × List Jp)} {k : Nat} {p : List Wd × List Jp} (h : gs[k]? = some p) : filL x (gs.take (k + 1)) = filL x (gs.take k) ++ (if (holdsS x p.1).1 = true then putL p.1 p.2 else []) := by
  unfold filL
  rw [List.take_add_one, h, List.flatMap_append]
  simp
theorem find_none {α : Type} {q : α → Bool} {gs : List α} (h : ∀ i p, i < gs.length → gs[i]? = some p → q p = false) : gs.find? q = none := by
  rw [List.find?_eq_none]
  intro p hp
  obtain ⟨i, hi, he⟩ := List.getElem_of_mem hp
  have := h i p hi (by rw [List.getElem?_eq_getElem hi, he])
  simp [this]
theorem find_at {α : Type} {q : α → Bool} : ∀ {gs : List α} {k : Nat} {p : α}, gs[k]? = some p → q p = true → (∀ i x, i < k → gs[i]? = some x → q x = false) → gs.find? q = some p
  | a :: gs, 0, p, h, hp, _ => by
    injection h with h
    subst h
    simp [List.find?_cons, hp]
  | a :: gs, k + 1, p, h, hp, hb => by
    have h0 := hb 0 a (by omega) rfl
    rw [List.find?_cons, h0]
    exact find_at (gs := gs) (k := k) (by simpa using h) hp (fun i x hi hx => hb (i + 1) x (by omega) (by simpa using hx))
theorem filL_rows {x : List Wd} {gs : List (List Wd × List Jp)} {y : Ed} (h : y ∈ filL x gs) : ∃ p ∈ gs, y.r = p.1 := by
  unfold filL at h
  rw [List.mem_flatMap] at h
  obtain ⟨p, hp, hy⟩ := h
  refine ⟨p, hp, ?_⟩
  split at hy
  · unfold putL at hy
    rw [List.mem_map] at hy
    obtain ⟨j, _, rfl⟩ := hy
    rfl
  · cases hy
theorem filS_rows {L : List Ed} {x : List Wd} {y : Ed} (h : y ∈ (filS L x).1) : ∃ z ∈ L, y.r = z.r := by
  unfold filS at h
  split at h
  · split at h
    · split at h
      · cases h
      · obtain ⟨p, hp, he⟩ := filL_rows h
        obtain ⟨⟨z, hz, e⟩, _⟩ := runs_mem hp
        exact ⟨z, hz, by rw [he, e]⟩
    · cases h
  · cases h
theorem edMay_len {L : List Ed} (h : edMay L = true) : L.length ≤ 4096 := by
  unfold edMay at h
  rw [Bool.and_eq_true, decide_eq_true_eq] at h
  exact h.1
theorem runs_fil_len {L : List Ed} (h : edMay L = true) (x : List Wd) (k : Nat) : (filL x ((runsL L).take k)).length ≤ 16777216 := by
  have h1 := edMay_len h
  have h2 := filL_len x 4096 ((runsL L).take k) (fun p hp => Nat.le_trans (runs_mem (List.mem_of_mem_take hp)).2 h1)
  have h3 : ((runsL L).take k).length ≤ 4096 := by rw [List.length_take]; have := runs_len L; omega
  have : ((runsL L).take k).length * 4096 ≤ 4096 * 4096 := Nat.mul_le_mul_right _ h3
  omega
theorem filS_len (L : List Ed) (x : List Wd) : (filS L x).1.length ≤ 16777216 := by
  unfold filS
  split
  · rename_i hm
    split
    · split
      · simp
      · have := runs_fil_len hm x (runsL L).length
        rw [List.take_length] at this
        exact this
    · simp
  · simp
end Go.Proofs.YtballmombklalaaGreat

/- rescindtop: cols, five, asked. -/
namespace Go.Proofs.YtballmombklalaaGreat
open Go.RowKit

set_option maxRecDepth 100000 in
theorem cols_any (w : World) : Calls Tryz.prog 16 #[] w fun e w' => ∃ B, e = .returned (.slice (some ⟨B, 0, none⟩) 1 1) ∧ Src encC 2 w' (fun _ => False) (some ⟨B, 0, none⟩) [⟨[97], 1⟩] ∧ Kept (fun _ => False) w w' := by
  go_enter Tryz.func16, Tryz.ntmps16
  go_wp2_with fail
  go_ret
  exact ⟨_, rfl, Src.one (heap_alloc_new w _) (fun q => q), (Kept.refl _ w).alloc _⟩
set_option maxRecDepth 100000 in
theorem five_any (w : World) : Calls Tryz.prog 18 #[] w fun e w' => ∃ B, e = .returned (.slice (some ⟨B, 0, none⟩) 1 1) ∧ Src encW 3 w' (fun _ => False) (some ⟨B, 0, none⟩) [⟨1, 5, []⟩] ∧ Kept (fun _ => False) w w' := by
  go_enter Tryz.func18, Tryz.ntmps18
  go_wp2_with fail
  go_ret
  exact ⟨_, rfl, Src.one (heap_alloc_new w _) (fun q => q), (Kept.refl _ w).alloc _⟩

theorem pex_asked : pexS [97, 32, 43, 32, 49, 32, 42, 32, 50] [⟨[97], 1⟩] = ([⟨3, 0, []⟩, ⟨1, 1, []⟩, ⟨1, 2, []⟩, ⟨9, 0, []⟩, ⟨7, 0, []⟩], 0) := by decide +kernel
theorem eval_asked : evalS [⟨3, 0, []⟩, ⟨1, 1, []⟩, ⟨1, 2, []⟩, ⟨9, 0, []⟩, ⟨7, 0, []⟩] [⟨1, 5, []⟩] = (⟨1, 7, []⟩, 0) := by decide +kernel

set_option maxRecDepth 100000 in
theorem asked_any (w : World) : Calls Tryz.prog 5 #[] w fun e w' => e = .returned (.bool true) ∧ Kept (fun _ => False) w w' := by
  have hc := fun wx => cols_any wx
  have hf := fun wx => five_any wx
  have hp := fun B wx hS => pexpr_any [97, 32, 43, 32, 49, 32, 42, 32, 50] [⟨[97], 1⟩] B 1 wx hS (by decide) (by unfold maxLen; decide)
  have he := fun A B c wx hx hy => eval_any [⟨3, 0, []⟩, ⟨1, 1, []⟩, ⟨1, 2, []⟩, ⟨9, 0, []⟩, ⟨7, 0, []⟩] [⟨1, 5, []⟩] A B c 1 wx hx hy (by decide) (by decide) (by simp [I64]) (by simp [I64])
  rw [pex_asked] at hp
  rw [eval_asked] at he
  simp only [List.length_cons, List.length_nil, Nat.reduceAdd, aggW] at hp he
  go_enter Tryz.func5, Tryz.ntmps5
  go_wp2_with fail
  refine (hc _).mono ?_
  rintro e w1 ⟨B, rfl, hS, k1⟩
  go_wp2_with fail
  refine (hp _ _ hS).mono ?_
  rintro e w2 ⟨v, rfl, hn⟩
  obtain ⟨A2, c2, rfl, _, _, hsrc⟩ := hn.row.src encW_len (fun _ => False) (fun _ _ q => q)
  simp only [List.length_cons, List.length_nil, Nat.reduceAdd] at hsrc hn ⊢
  have kn := Lib.hid hn.kept
  clear hn
  go_wp2_with fail
  refine (hf _).mono ?_
  rintro e w3 ⟨B3, rfl, hr, k3⟩
  go_wp2_with fail
  refine (he _ _ _ _ (hsrc.same k3) hr).mono ?_
  rintro e w4 ⟨rfl, k4⟩
  go_wp2_with fail
  go_ret
  exact ⟨rfl, (((k1.trans kn.out).trans k3).trans k4).alloc _⟩
end Go.Proofs.YtballmombklalaaGreat
