/- Picked out of the text AD of TopExprs. -/
import Derived.Test.YthkeigljiinlbaaGreatM7
import Derived.RangeFuncNested
import Derived.RangeFuncBound
import Derived.RangeFuncCalls
import Derived.RangeFuncLeaves
import Derived.OwnWalkIn
import Derived.TacticsInMore
import Derived.LoopNIn
import Derived.LoopIn
namespace Go.Proofs.YthkeigljiinlbaaGreat
open Go.RowKit

theorem Kept.putObj {S : Nat → Prop} {a w : World} (h : Kept S a w) (l : Nat) (o : Obj) (hp : l < a.heap.size → S l) : Kept S a (w.putObj l o) :=
  ⟨h.os, h.tape, h.output, by rw [World.putObj_size]; exact h.size, fun k hk hn => by
    have hne : k ≠ l := fun e => hn (by subst e; exact hp hk)
    rw [World.putObj_heap_other hne]
    exact h.block k hk hn⟩

/-- What holds between rounds, and what the caller owns then: nothing else matters but what lay below s. -/
def Stable (s : Nat) (J : Nat → (Nat → Prop) → World → Prop) : Prop :=
  ∀ k O A B X, J k O A → Kept X A B → (∀ j, X j → s ≤ j ∧ ¬ O j) → J k O B
theorem Stable.mono {s s' : Nat} {J : Nat → (Nat → Prop) → World → Prop} (h : Stable s J) (hs : s ≤ s') : Stable s' J :=
  fun k O A B X hJ hK hX => h k O A B X hJ hK (fun j q => ⟨Nat.le_trans hs (hX j q).1, (hX j q).2⟩)

/-- The end of a round: what is owned grows by new blocks, and by those that were handed over (X), alone; nothing else is written. -/
def Turn (X : Nat → Prop) (O : Nat → Prop) (A : World) (R : (Nat → Prop) → World → Prop) (B : World) : Prop :=
  ∃ O', R O' B ∧ Kept O A B ∧ (∀ j, O' j → O j ∨ A.heap.size ≤ j ∨ X j) ∧ (∀ j, O' j → j < B.heap.size)

/-- An iterator that tells the things L, one behind the other; how each stands in memory when it is told: G; the blocks that it hands over with it: H. -/
def Iter {β γ : Type} (P : Program) (g : Nat) (lb : Array Value) (encs : γ → Array Value) (L : List β) (G : Nat → β → γ → World → Prop) (H : γ → Nat → Prop) (O0 : Nat → Prop) (w0 : World) : Prop :=
  ∀ (l : Nat) (J Jx : Nat → (Nat → Prop) → World → Prop) (O : Nat → Prop) (W : World), Kept (fun _ => False) w0 W → (∀ j, O j → (O0 j ∨ w0.heap.size ≤ j) ∧ j < W.heap.size) →
    Stable W.heap.size J → Stable W.heap.size Jx →
    (∀ k x v O A, J k O A → L[k]? = some x → G k x v A → (∀ j, O j → j < A.heap.size) → W.heap.size ≤ A.heap.size → YieldAt Fence.wide 0 P l (encs v) A fun e B =>
      (e = .returned (.bool true) ∧ Turn (H v) O A (J (k + 1)) B) ∨ (e = .returned (.bool false) ∧ Turn (H v) O A (Jx k) B)) →
    J 0 O W → Calls P g (#[.func (.yield l) #[] #[]] ++ lb) W fun e B => (∃ v, e = .returned v) ∧ ((∃ O', J L.length O' B) ∨ (∃ k O', k < L.length ∧ Jx k O' B))

/-- How the body of a round may be left. -/
def roundEnd (I : Nat → (Nat → Prop) → World → Prop) (Ix : Code → Nat → (Nat → Prop) → World → Prop) (k : Nat) (X : Nat → Prop) (O : Nat → Prop) (A : World) : Exit → Act → World → Prop
  | .normal, _, B => Turn X O A (I (k + 1)) B
  | .ret, _, B => Turn X O A (Ix .ret k) B
  | .exit id, _, B => Turn X O A (Ix (.exit id) k) B
  | .goto t, _, B => Turn X O A (Ix (.goto t) k) B
  | .panic _, _, _ => False
  | .outgrown, _, _ => False

theorem calls_marks {P : Program} {f : FuncId} {fn : Func} {c : Code} {args : Array Value} {w : World} {R : Ending → World → Prop} (hf : P.funcs[f]? = some fn) (hb : fn.body = some c)
    (h : c.wpIn Fence.wide 0 P (bodyPostM Fence.wide 0 P fn R) { tmps := args ++ Array.replicate (fn.ntmps - args.size) undef, defers := [] } w) : Calls P f args w R :=
  callsIn_wide.1 (callsIn_of_wp_marks (n := 0) hf hb trivial h)

set_option maxHeartbeats 1000000 in
/-- The law of the statement. -/
theorem range_wp {β γ : Type} {P : Program} {g : Operand} {ps : Array Tmp} {assign body : Code} {Q : Exit → Act → World → Prop} {a : Act} {w : World}
    {gf : Nat} {lb : Array Value} (hg : a.eval g = .func (.func gf) #[] lb) (eg : ∀ args w, (callFunc gf args).run P w = .ok (.enter gf args) w)
    {encs : γ → Array Value} {L : List β} {G : Nat → β → γ → World → Prop} {H : γ → Nat → Prop} {O0 : Nat → Prop} (hit : Iter P gf lb encs L G H O0 w) (hps : ∀ v, (encs v).size = ps.size)
    (hG : ∀ k x v A B l, G k x v A → Kept (fun j => j = l) A B → (∀ cs T f, A.heap[l]? ≠ some (.cells cs T f)) → G k x v B)
    (hH : ∀ k x v A j, G k x v A → H v j → ∃ cs T f, A.heap[j]? = some (.cells cs T f))
    (I : Nat → (Nat → Prop) → World → Prop) (Ix : Code → Nat → (Nat → Prop) → World → Prop) (hI : Stable w.heap.size I) (hIx : ∀ c, Stable w.heap.size (Ix c)) (h0 : I 0 O0 w) (hO0 : ∀ j, O0 j → j < w.heap.size) (a₁ : γ → Act)
    (hassign : ∀ (l : Nat) (v : γ) (W : World) (K : Act → World → Prop), K (a₁ v) W →
      assign.wpIn (Fence.wide.inRound l) 0 P (Exit.then K (fun _ _ _ => False)) { tmps := (ps.zip (encs v)).foldl (fun t (p, v) => t.setIfInBounds p v) a.tmps, defers := [] } W)
    (hbody : ∀ (l k : Nat) (x : β) (v : γ) (O : Nat → Prop) (A : World), I k O A → L[k]? = some x → G k x v A → (∀ j, O j → j < A.heap.size) → w.heap.size + 2 ≤ A.heap.size →
      body.wpIn (Fence.wide.inRound l) 0 P (roundEnd I Ix k (H v) O A) (a₁ v) A)
    (hdone : ∀ (D : Nat) (O : Nat → Prop) (W : World), I L.length O W → W.heap[D]? = some (.deferred (some [])) → w.heap.size ≤ D → ¬ O D → Q .normal { a with defers := { target := .collected D, args := #[] } :: a.defers } W)
    (hstop : ∀ (D : Nat) (c : Code) (k : Nat) (O : Nat → Prop) (W : World), k < L.length → Ix c k O W → W.heap[D]? = some (.deferred (some [])) → w.heap.size ≤ D → ¬ O D → c.wpIn Fence.wide 0 P Q { a with defers := { target := .collected D, args := #[] } :: a.defers } W) :
    (Code.rangeFunc g ps assign body).wpIn Fence.wide 0 P Q a w := by
  refine wpIn_rangeFunc ?_
  intro fn hfn
  obtain ⟨rec, hrec⟩ : ∃ rec : LoopState → Option Code → Loop, rec = fun st pe => { state := st, pending := pe, fn, tmps := a.tmps, params := ps, assign, body, defers := w.heap.size } := ⟨_, rfl⟩
  obtain ⟨W1, hW1⟩ : ∃ W1, (w.alloc (.deferred (some []))).alloc (.loop (rec .ready none)) = W1 := ⟨_, rfl⟩
  have hs1 : W1.heap.size = w.heap.size + 2 := by rw [← hW1]; simp
  have hL1 : W1.heap[w.heap.size + 1]? = some (.loop (rec .ready none)) := by
    rw [← hW1]; have := World.alloc_heap_new (w.alloc (.deferred (some []))) (.loop (rec .ready none)); rwa [World.size_alloc] at this
  have hK1 : W1.heap[w.heap.size]? = some (.deferred (some [])) := by
    rw [← hW1]; exact (Below.heap_alloc _ _ _ (by simp)).trans (World.alloc_heap_new w _)
  have kW1 : Kept (fun _ => False) w W1 := by rw [← hW1]; exact ((Kept.refl _ w).alloc _).alloc _
  have hI1 : I 0 O0 W1 := hI 0 O0 w W1 _ h0 kW1 (fun j q => q.elim)
  refine ⟨w.heap.size + 1, [{ target := .collected w.heap.size, args := #[] }], W1, { target := .fn (.func gf) lb, args := #[.func (.yield (w.heap.size + 1)) #[] #[]] }, W1, gf,
    #[.func (.yield (w.heap.size + 1)) #[] #[]] ++ lb, W1, ?_, ?_, ?_, ?_, fun q => by simp [Fence.wide] at q, ?_⟩
  · rw [← hW1, hrec]; exact run_enterLoop_outer _ _ _ _ _
  · simp only [resolve, hg]
    simp [go_sem]
  · intro f' _; trivial
  · simp [invoke, go_sem, eg]
  · refine callsIn_wide.2 ((hit (w.heap.size + 1)
      (fun k O W => ∃ O1, I k O1 W ∧ (∀ j, O1 j → O j) ∧ (∀ j, O j → O1 j ∨ j = w.heap.size + 1) ∧ O (w.heap.size + 1) ∧ ¬ O1 (w.heap.size + 1) ∧ ¬ O1 w.heap.size ∧ (∀ j, O1 j → j < W.heap.size) ∧ w.heap.size + 2 ≤ W.heap.size ∧
        W.heap[w.heap.size + 1]? = some (.loop (rec .ready none)) ∧ W.heap[w.heap.size]? = some (.deferred (some [])))
      (fun k O W => ∃ O1 c, Ix c k O1 W ∧ (∀ j, O1 j → O j) ∧ (∀ j, O j → O1 j ∨ j = w.heap.size + 1) ∧ O (w.heap.size + 1) ∧ ¬ O1 (w.heap.size + 1) ∧ ¬ O1 w.heap.size ∧
        W.heap[w.heap.size + 1]? = some (.loop (rec .done (some c))) ∧ W.heap[w.heap.size]? = some (.deferred (some [])))
      (fun j => O0 j ∨ j = w.heap.size + 1) W1 kW1 (fun j q => ⟨by rcases q with q | q; exact .inl q; exact .inr (by omega), by rcases q with q | q; have := hO0 j q; omega; omega⟩) ?_ ?_ ?_
      ⟨O0, hI1, fun j q => .inl q, fun j q => q, .inr rfl, fun q => by have := hO0 _ q; omega, fun q => by have := hO0 _ q; omega, fun j q => by have := hO0 j q; omega, by omega, hL1, hK1⟩).mono ?_)
    · rintro k O A B X ⟨O1, hi, h1, h2, h3, h4, h5, h6, h7, hl, hk⟩ hX hXX
      have hx : ∀ j, X j → w.heap.size ≤ j ∧ ¬ O1 j := fun j q => ⟨by have := (hXX j q).1; omega, fun q2 => (hXX j q).2 (h1 j q2)⟩
      refine ⟨O1, hI k O1 A B X hi hX hx, h1, h2, h3, h4, h5, fun j q => Nat.lt_of_lt_of_le (h6 j q) hX.size, Nat.le_trans h7 hX.size, hX.heap hl (fun q => (hXX _ q).2 h3), hX.heap hk (fun q => by have := (hXX _ q).1; omega)⟩
    · rintro k O A B X ⟨O1, c, hi, h1, h2, h3, h4, h5, hl, hk⟩ hX hXX
      have hx : ∀ j, X j → w.heap.size ≤ j ∧ ¬ O1 j := fun j q => ⟨by have := (hXX j q).1; omega, fun q2 => (hXX j q).2 (h1 j q2)⟩
      exact ⟨O1, c, hIx c k O1 A B X hi hX hx, h1, h2, h3, h4, h5, hX.heap hl (fun q => (hXX _ q).2 h3), hX.heap hk (fun q => by have := (hXX _ q).1; omega)⟩
    · rintro k x v O A ⟨O1, hi, h1, h2, h3, h4, h5, h6, h7, hl, hk⟩ hx hgx hOA hsA
      have hlt : w.heap.size + 1 < A.heap.size := (Array.getElem?_eq_some_iff.1 hl).1
      have hy := run_yield (P := P) (args := encs v) hl (by rw [hrec]; exact hps v)
      rw [hrec] at hy
      refine ⟨fn, _, assign, body, hy, roundIn_of_wpIn (n := 0) hfn (hassign _ v A _ ⟨_, run_beginRound hl (by rw [hrec]), ?_⟩)⟩
      obtain ⟨A2, hA2⟩ : ∃ A2, A.putObj (w.heap.size + 1) (.loop { rec .ready none with state := .busy }) = A2 := ⟨_, rfl⟩
      rw [hA2]
      have kA : Kept (fun j => j = w.heap.size + 1) A A2 := by rw [← hA2]; exact (Kept.refl (fun j => j = w.heap.size + 1) A).putObj _ _ (fun _ => rfl)
      have hsz2 : A2.heap.size = A.heap.size := by rw [← hA2, World.putObj_size]
      have hl2 : A2.heap[w.heap.size + 1]? = some (.loop { rec .ready none with state := .busy }) := by rw [← hA2]; exact World.putObj_heap_same hlt
      have hk2 : A2.heap[w.heap.size]? = some (.deferred (some [])) := kA.heap hk (by omega)
      have hi2 : I k O1 A2 := hI k O1 A A2 _ hi kA (fun j q => ⟨by omega, by subst q; exact h4⟩)
      have hg2 := hG k x v A A2 _ hgx kA (fun cs T f q => by rw [hl] at q; injection q with q; cases q)
      have hH1 : ¬ H v (w.heap.size + 1) := fun q => by obtain ⟨cs, T, f, q⟩ := hH k x v A2 _ hg2 q; rw [hl2] at q; injection q with q; cases q
      have hH2 : ¬ H v w.heap.size := fun q => by obtain ⟨cs, T, f, q⟩ := hH k x v A2 _ hg2 q; rw [hk2] at q; injection q with q; cases q
      refine wpIn_mono (hbody _ k x v O1 A2 hi2 hx (hG k x v A A2 _ hgx kA (fun cs T f q => by rw [hl] at q; injection q with q; cases q)) (fun j q => by rw [hsz2]; exact h6 j q) (by rw [hsz2]; exact h7)) ?_
      have fin : ∀ (jump : Option Code) (R : (Nat → Prop) → World → Prop) (B : World) (hR : ∀ O' A B X, R O' A → Kept X A B → (∀ j, X j → w.heap.size ≤ j ∧ ¬ O' j) → R O' B), Turn (H v) O1 A2 R B →
          (Instr.endRound (w.heap.size + 1) jump).run P B = .ok (.bool jump.isNone) (B.putObj (w.heap.size + 1) (.loop (rec (if jump.isNone then .ready else .done) jump))) ∧
          ∃ O1', R O1' (B.putObj (w.heap.size + 1) (.loop (rec (if jump.isNone then .ready else .done) jump))) ∧ ¬ O1' (w.heap.size + 1) ∧ ¬ O1' w.heap.size ∧ (∀ j, O1' j → j < B.heap.size) ∧ w.heap.size + 2 ≤ B.heap.size ∧
          (B.putObj (w.heap.size + 1) (.loop (rec (if jump.isNone then .ready else .done) jump))).heap[w.heap.size + 1]? = some (.loop (rec (if jump.isNone then .ready else .done) jump)) ∧
          (B.putObj (w.heap.size + 1) (.loop (rec (if jump.isNone then .ready else .done) jump))).heap[w.heap.size]? = some (.deferred (some [])) ∧
          Kept O A (B.putObj (w.heap.size + 1) (.loop (rec (if jump.isNone then .ready else .done) jump))) ∧ (∀ j, O1' j → O1 j ∨ A.heap.size ≤ j ∨ H v j) := by
        rintro jump R B hR ⟨O1', hr, hkB, hgr, hlt'⟩
        have n1 : ¬ O1' (w.heap.size + 1) := fun q => by rcases hgr _ q with q | q | q; exact h4 q; omega; exact hH1 q
        have n2 : ¬ O1' w.heap.size := fun q => by rcases hgr _ q with q | q | q; exact h5 q; omega; exact hH2 q
        have hl3 := hkB.heap hl2 h4
        have hk3 := hkB.heap hk2 h5
        have hrun := run_endRound (P := P) jump hl3
        rw [hrec] at hrun ⊢
        have kp : Kept (fun j => j = w.heap.size + 1) B (B.putObj (w.heap.size + 1) (.loop { state := if jump.isNone then .ready else .done, pending := jump, fn, tmps := a.tmps, params := ps, assign, body, defers := w.heap.size })) :=
          (Kept.refl (fun j => j = w.heap.size + 1) B).putObj _ _ (fun _ => rfl)
        refine ⟨hrun, O1', hR O1' B _ _ hr kp (fun j q => ⟨by omega, by subst q; exact n1⟩), n1, n2, hlt', by have := hkB.size; omega, World.putObj_heap_same (Array.getElem?_eq_some_iff.1 hl3).1, kp.heap hk3 (by omega), ?_, fun j q => by rcases hgr j q with q | q | q; exact .inl q; exact .inr (.inl (by omega)); exact .inr (.inr q)⟩
        refine (kA.trans' hkB (T := O1) (U := O) (fun j _ q => by subst q; exact h3) (fun j _ q => h1 j q)).trans' kp (fun j _ q => q) (fun j _ q => by subst q; exact h3)
      have pack : ∀ (R : (Nat → Prop) → World → Prop) (O1' : Nat → Prop) (B : World), True := fun _ _ _ => trivial
      rintro e a3 B hp
      cases e with
      | normal =>
        obtain ⟨hr, O1', hi3, n1, n2, hb, hsB, hl4, hk4, hkk, hgr⟩ := fin none (I (k + 1)) B (fun O' A B X => hI (k + 1) O' A B X) hp
        refine ⟨_, _, hr, .inl ⟨rfl, fun j => O1' j ∨ j = w.heap.size + 1, ⟨O1', hi3, fun j q => .inl q, fun j q => q, .inr rfl, n1, n2, fun j q => by rw [World.putObj_size]; exact hb j q, by rw [World.putObj_size]; exact hsB, hl4, hk4⟩, hkk, ?_, ?_⟩⟩
        · intro j q
          rcases q with q | q
          · rcases hgr j q with q | q | q
            · exact .inl (h1 j q)
            · exact .inr (.inl q)
            · exact .inr (.inr q)
          · subst q; exact .inl h3
        · intro j q
          rw [World.putObj_size]
          rcases q with q | q
          · exact hb j q
          · omega
      | ret =>
        obtain ⟨hr, O1', hi3, n1, n2, hb, hsB, hl4, hk4, hkk, hgr⟩ := fin (some .ret) (Ix .ret k) B (fun O' A B X => hIx .ret k O' A B X) hp
        refine ⟨_, _, hr, .inr ⟨rfl, fun j => O1' j ∨ j = w.heap.size + 1, ⟨O1', .ret, hi3, fun j q => .inl q, fun j q => q, .inr rfl, n1, n2, hl4, hk4⟩, hkk, ?_, ?_⟩⟩
        · intro j q
          rcases q with q | q
          · rcases hgr j q with q | q | q
            · exact .inl (h1 j q)
            · exact .inr (.inl q)
            · exact .inr (.inr q)
          · subst q; exact .inl h3
        · intro j q
          rw [World.putObj_size]
          rcases q with q | q
          · exact hb j q
          · omega
      | exit id =>
        obtain ⟨hr, O1', hi3, n1, n2, hb, hsB, hl4, hk4, hkk, hgr⟩ := fin (some (.exit id)) (Ix (.exit id) k) B (fun O' A B X => hIx (.exit id) k O' A B X) hp
        refine ⟨_, _, hr, .inr ⟨rfl, fun j => O1' j ∨ j = w.heap.size + 1, ⟨O1', .exit id, hi3, fun j q => .inl q, fun j q => q, .inr rfl, n1, n2, hl4, hk4⟩, hkk, ?_, ?_⟩⟩
        · intro j q
          rcases q with q | q
          · rcases hgr j q with q | q | q
            · exact .inl (h1 j q)
            · exact .inr (.inl q)
            · exact .inr (.inr q)
          · subst q; exact .inl h3
        · intro j q
          rw [World.putObj_size]
          rcases q with q | q
          · exact hb j q
          · omega
      | goto t =>
        obtain ⟨hr, O1', hi3, n1, n2, hb, hsB, hl4, hk4, hkk, hgr⟩ := fin (some (.goto t)) (Ix (.goto t) k) B (fun O' A B X => hIx (.goto t) k O' A B X) hp
        refine ⟨_, _, hr, .inr ⟨rfl, fun j => O1' j ∨ j = w.heap.size + 1, ⟨O1', .goto t, hi3, fun j q => .inl q, fun j q => q, .inr rfl, n1, n2, hl4, hk4⟩, hkk, ?_, ?_⟩⟩
        · intro j q
          rcases q with q | q
          · rcases hgr j q with q | q | q
            · exact .inl (h1 j q)
            · exact .inr (.inl q)
            · exact .inr (.inr q)
          · subst q; exact .inl h3
        · intro j q
          rw [World.putObj_size]
          rcases q with q | q
          · exact hb j q
          · omega
      | panic ch => exact hp.elim
      | outgrown => exact hp.elim
    · rintro e W2 ⟨⟨v, rfl⟩, (⟨O', O1, hi, h1, h2, h3, h4, h5, h6, h7, hl, hk⟩ | ⟨k, O', hkl, O1, c, hi, h1, h2, h3, h4, h5, hl, hk⟩)⟩
      · have kp : Kept (fun j => j = w.heap.size + 1) W2 (W2.putObj (w.heap.size + 1) (.loop { rec .ready none with state := .exhausted })) := (Kept.refl (fun j => j = w.heap.size + 1) W2).putObj _ _ (fun _ => rfl)
        exact ⟨none, _, by have := run_endLoop (P := P) hl (by rw [hrec]; simp); rw [hrec] at this ⊢; exact this, hdone _ O1 _ (hI _ _ _ _ _ hi kp (fun j q => ⟨by omega, by subst q; exact h4⟩)) (kp.heap hk (by omega)) (Nat.le_refl _) h5⟩
      · have kp : Kept (fun j => j = w.heap.size + 1) W2 (W2.putObj (w.heap.size + 1) (.loop { rec .done (some c) with state := .exhausted })) := (Kept.refl (fun j => j = w.heap.size + 1) W2).putObj _ _ (fun _ => rfl)
        exact ⟨some c, _, by have := run_endLoop (P := P) hl (by rw [hrec]; simp); rw [hrec] at this ⊢; exact this, hstop _ c k O1 _ hkl (hIx c _ _ _ _ _ hi kp (fun j q => ⟨by omega, by subst q; exact h4⟩)) (kp.heap hk (by omega)) (Nat.le_refl _) h5⟩
end Go.Proofs.YthkeigljiinlbaaGreat
