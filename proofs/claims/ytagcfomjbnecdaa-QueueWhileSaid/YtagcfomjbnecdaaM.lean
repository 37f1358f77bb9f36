/- Memory of the queue's laws: what a call keeps; rows that are owned; the queue's block. -/
import Derived.Test.YtagcfomjbnecdaaChecked
import Derived.Test.YtagcfomjbnecdaaC
import Derived.WalkKit
import Derived.WalkLawsBesides
import Derived.Lib.Hide
import Derived.KernelRfl
import Derived.Carry
import Derived.Deep.Draws
import Derived.OwnWalk
namespace Go.Proofs.Ytagcfomjbnecdaa
open Go.RowKit

/-- Of the blocks that were there only those of S may have changed. -/
structure Kept (S : Nat → Prop) (w w' : World) : Prop where
  os : w'.os = w.os
  tape : w'.tape = w.tape
  output : w'.output = w.output
  size : w.heap.size ≤ w'.heap.size
  block : ∀ k, k < w.heap.size → ¬ S k → w'.heap[k]? = w.heap[k]?

theorem Kept.refl (S : Nat → Prop) (w : World) : Kept S w w := ⟨rfl, rfl, rfl, Nat.le_refl _, fun _ _ _ => rfl⟩
theorem Kept.trans' {S T U : Nat → Prop} {a b c : World} (h : Kept S a b) (k : Kept T b c) (hS : ∀ i, i < a.heap.size → S i → U i) (hT : ∀ i, i < a.heap.size → T i → U i) : Kept U a c :=
  ⟨k.os.trans h.os, k.tape.trans h.tape, k.output.trans h.output, Nat.le_trans h.size k.size,
    fun i hi hn => (k.block i (Nat.lt_of_lt_of_le hi h.size) (fun t => hn (hT i hi t))).trans (h.block i hi (fun s => hn (hS i hi s)))⟩
theorem Kept.trans {S : Nat → Prop} {a b c : World} (h : Kept S a b) (k : Kept S b c) : Kept S a c := h.trans' k (fun _ _ x => x) (fun _ _ x => x)
theorem Kept.mono {S T : Nat → Prop} {w w' : World} (h : Kept S w w') (hS : ∀ k, k < w.heap.size → S k → T k) : Kept T w w' :=
  ⟨h.os, h.tape, h.output, h.size, fun k hk hn => h.block k hk (fun hs => hn (hS k hk hs))⟩
theorem Kept.drew {S : Nat → Prop} {a w : World} (h : Kept S a w) : Kept S a w.drew := ⟨h.os, h.tape, h.output, h.size, h.block⟩
theorem Kept.drewN {S : Nat → Prop} {a w : World} (h : Kept S a w) (n : Nat) : Kept S a (w.drewN n) := ⟨h.os, h.tape, h.output, h.size, h.block⟩
theorem Kept.alloc {S : Nat → Prop} {a w : World} (h : Kept S a w) (o : Obj) : Kept S a (w.alloc o) :=
  h.trans ⟨rfl, rfl, rfl, by simp, fun k hk _ => Below.heap_alloc _ _ _ hk⟩
theorem Kept.setCell {S : Nat → Prop} {a w : World} (h : Kept S a w) {p : Addr} (hp : p.block < a.heap.size → S p.block) (u : Value) : Kept S a (w.setCell p u) :=
  ⟨h.os, h.tape, h.output, by simpa [World.setCell] using h.size, fun k hk hn => by
    have hne : k ≠ p.block := fun e => hn (by subst e; exact hp hk)
    rw [Below.heap_setCell _ _ _ _ hne]
    exact h.block k hk hn⟩
theorem Kept.grown {S : Nat → Prop} {a w w' : World} {row : Option Nat} (h : Kept S a w) (hg : w.grownBy w' row) (hr : ∀ k, row = some k → k < a.heap.size → S k) : Kept S a w' :=
  ⟨hg.os.trans h.os, hg.tape.trans h.tape, hg.output.trans h.output, Nat.le_trans h.size hg.size,
    fun k hk hn => (hg.block k (Nat.lt_of_lt_of_le hk h.size) (fun e => hn (hr k e.symm hk))).trans (h.block k hk hn)⟩
theorem Kept.below {S : Nat → Prop} {B : Nat} {w w' : World} (h : Kept S w w') (hB : B ≤ w.heap.size) (hS : ∀ k, k < B → ¬ S k) : Below B w w' :=
  ⟨h.os, h.tape, h.output, h.size, fun k hk => h.block k (Nat.lt_of_lt_of_le hk hB) (hS k hk)⟩
theorem Kept.cell {S : Nat → Prop} {w w' : World} (h : Kept S w w') {p : Addr} {v : Value} (hv : w.cell? p = some v) (hn : ¬ S p.block) : w'.cell? p = some v := by
  have hb := World.block_lt_of_cell? (w := w) (a := p) hv
  rw [World.cell?_of_block (w := w) (h.block p.block hb hn)]
  exact hv
theorem Kept.heap {S : Nat → Prop} {w w' : World} (h : Kept S w w') {k : Nat} {o : Obj} (hv : w.heap[k]? = some o) (hn : ¬ S k) : w'.heap[k]? = some o := by
  rw [h.block k (Array.getElem?_eq_some_iff.1 hv).1 hn]; exact hv

theorem blk_set {w : World} {c : Nat} {cs : Array Value} {T : TypeId} {f : Nat × Nat} (h : w.heap[c]? = some (.cells cs T f)) (i : Nat) (v : Value) : (w.setCell ⟨c, i, none⟩ v).heap[c]? = some (.cells (cs.setIfInBounds i v) T f) := by
  simp only [World.setCell, Array.getElem?_modify, if_true, h, Option.map_some]
  rfl
theorem blk_set_other {w : World} {c : Nat} {o : Obj} (h : w.heap[c]? = some o) {p : Addr} (hp : p.block ≠ c) (v : Value) : (w.setCell p v).heap[c]? = some o := by
  rw [Below.heap_setCell _ _ _ _ (fun e => hp e.symm)]; exact h


def NewOr (w : World) (v v' : Value) : Prop := v'.ownBlock = v.ownBlock ∨ ∃ k, v'.ownBlock = some k ∧ w.heap.size ≤ k

theorem run_append_at {P : Program} (w : World) (t ty e : TypeId) (i : TypeInfo) (z : Value) (size bytes : Nat) (ht : P.underlying t = some (.slice e)) (hi : P.info? e = some i) (hz : i.zero = some z)
    (hsize : i.size = size) (hby : i.bytes = bytes) (hzs : z.cells.size = size) (hsz : 0 < size)
    (v : Value) (n : Nat) (xs : List Value) (hown : w.ownsRow 0 e size v n xs)
    (a : Addr) (m c : Nat) (news : List Value) (hl : news.length = m * size) (hnews : ∀ j u, news[j]? = some u → w.cell? (a.add j) = some u) (h1 : ∀ u ∈ news, u.oneCell' = true)
    (h63 : n + m ≤ maxLen) (hbytes : (n + m) * bytes ≤ 140737488355328) :
    ∃ v' w', (Builtin.append_ #[t, t] ty #[v, .slice (some a) m c]).run P w = .ok v' w' ∧ w'.ownsRow 0 e size v' (n + m) (xs ++ news) ∧ w.grownBy w' v.ownBlock ∧ NewOr w v v' := by
  obtain ⟨v', w', hr, h2, h3, h4⟩ := run_append_own (P := P) w 0 t ty e i z size bytes ht hi hz hsize hby hzs hsz v n xs hown a m c news hl hnews h1 h63 hbytes (Nat.zero_le _)
  refine ⟨v', w', hr, h2, h3, ?_⟩
  have hsmall : n + m ≤ 9223372036854775807 := by simp only [maxLen] at h63; omega
  subst hsize
  subst hby
  rcases hown.2 with ⟨rfl, rfl⟩ | ⟨g, cap, cur, rfl, hbg, hg, hnc, hcm, hcs, htake⟩
  · by_cases hm : m = 0
    · rw [h4.2 ⟨rfl, hm⟩]
      exact .inl rfl
    · have hr2 := run_append_nil (P := P) w t ty e i z ht hi hz a m c news hl hnews (by omega) (by omega) (by have hb := hbytes; simp only [Nat.zero_add] at hb; omega)
      rw [hr2] at hr
      injection hr with hr _
      subst hr
      exact .inr ⟨_, rfl, Nat.le_refl _⟩
  · by_cases hroom : n + m ≤ cap
    · obtain ⟨w2, hr2, _, _⟩ := run_append_fits (P := P) w 0 t ty e i i.size ht hi rfl g n cap xs hown a m c news hl hnews h1 hroom
      rw [hr2] at hr
      injection hr with hr _
      subst hr
      exact .inl rfl
    · have holds : ∀ j u, xs[j]? = some u → w.cell? ((⟨g, 0, none⟩ : Addr).add j) = some u := hown.cells (g := g) rfl
      have hr2 := run_append_grow (P := P) w t ty e i z ht hi hz ⟨g, 0, none⟩ n cap xs hown.1 holds a m c news hl hnews (by omega) (by omega) (growslice_fits (by omega) hbytes)
      rw [hr2] at hr
      injection hr with hr _
      subst hr
      exact .inr ⟨_, rfl, Nat.le_refl _⟩

theorem wpList_append_at {P : Program} (w : World) {ops : Array Oper} {rest : List Oper} {o : Oper} {a : Act} {Q : Exit → Act → World → Prop} (hgd : o.guard = none) (s x : Operand) (t : TypeId)
    (ho : o.op = .call { callee := .builtin .append, args := #[s, x], argTypes := #[t, t] })
    (e : TypeId) (i : TypeInfo) (z : Value) (size bytes : Nat) (ht : P.underlying t = some (.slice e)) (hi : P.info? e = some i) (hz : i.zero = some z)
    (hsize : i.size = size) (hby : i.bytes = bytes) (hzs : z.cells.size = size) (hsz : 0 < size)
    (v : Value) (n : Nat) (xs : List Value) (hs : a.eval s = v) (hown : w.ownsRow 0 e size v n xs)
    (ad : Addr) (m c : Nat) (news : List Value) (hx : a.eval x = .slice (some ad) m c) (hl : news.length = m * size) (hnews : ∀ j u, news[j]? = some u → w.cell? (ad.add j) = some u) (h1 : ∀ u ∈ news, u.oneCell' = true)
    (h63 : n + m ≤ maxLen) (hbytes : (n + m) * bytes ≤ 140737488355328)
    (h : ∀ v' w', w'.ownsRow 0 e size v' (n + m) (xs ++ news) → w.grownBy w' v.ownBlock → NewOr w v v' → wpList P ops Q rest (a.put o.dst v') w') : wpList P ops Q (o :: rest) a w := by
  refine wpList_plain hgd fun K hK => ?_
  obtain ⟨v', w', hr, h2, h3, h4⟩ := run_append_at (P := P) w t o.type e i z size bytes ht hi hz hsize hby hzs hsz v n xs hown ad m c news hl hnews h1 h63 hbytes
  unfold Oper.wp execOp
  simp only [ho, resolve, invoke, builtin, Sem.run_bind, Sem.run_pure, Result.andThen_ok, List.map_toArray, List.map_cons, List.map_nil, hs, hx, hr]
  exact hK _ _ (h v' w' h2 h3 h4)

theorem NewOr.ge {w w1 : World} {v v' : Value} (h : NewOr w1 v v') (hv : ∀ k, v.ownBlock = some k → w.heap.size ≤ k) (hw : w.heap.size ≤ w1.heap.size) : ∀ k, v'.ownBlock = some k → w.heap.size ≤ k := by
  intro k hk
  rcases h with e | ⟨k', e, hk'⟩
  · exact hv k (by rw [← e]; exact hk)
  · rw [hk] at e
    injection e with e
    omega


/-- The cells of things, of jumps. -/
def irow (H : List It) : List Value := H.flatMap fun x => [.int .i64 x.a, .int .i64 x.n, .int .i64 x.t]
def jrow (L : List J) : List Value := L.flatMap fun x => [.int .i64 x.1, .int .i64 x.2]
theorem irow_len (H : List It) : (irow H).length = H.length * 3 := by
  induction H with
  | nil => rfl
  | cons a l ih => simp only [irow, List.flatMap_cons, List.length_append, List.length_cons, List.length_nil] at ih ⊢; omega
theorem jrow_len (H : List J) : (jrow H).length = H.length * 2 := by
  induction H with
  | nil => rfl
  | cons a l ih => simp only [jrow, List.flatMap_cons, List.length_append, List.length_cons, List.length_nil] at ih ⊢; omega
theorem irow_app (H K : List It) : irow (H ++ K) = irow H ++ irow K := by simp [irow]
theorem jrow_app (H K : List J) : jrow (H ++ K) = jrow H ++ jrow K := by simp [jrow]
theorem irow_get : ∀ (H : List It) (i : Nat), i < H.length → (irow H)[i * 3]? = some (.int .i64 (g H i).a) ∧ (irow H)[i * 3 + 1]? = some (.int .i64 (g H i).n) ∧ (irow H)[i * 3 + 2]? = some (.int .i64 (g H i).t)
  | [], i, h => by simp at h
  | x :: H, 0, _ => ⟨rfl, rfl, rfl⟩
  | x :: H, i + 1, h => by
    have := irow_get H i (by simpa using h)
    rw [Nat.succ_mul]
    exact this
theorem jrow_get : ∀ (H : List J) (i : Nat), i < H.length → (jrow H)[i * 2]? = some (.int .i64 (gj H i).1) ∧ (jrow H)[i * 2 + 1]? = some (.int .i64 (gj H i).2)
  | [], i, h => by simp at h
  | x :: H, 0, _ => ⟨rfl, rfl⟩
  | x :: H, i + 1, h => by
    have := jrow_get H i (by simpa using h)
    rw [Nat.succ_mul]
    exact this
theorem irow_set : ∀ (H : List It) (i : Nat) (y : It), i < H.length → irow (H.set i y) = (((irow H).set (i * 3) (.int .i64 y.a)).set (i * 3 + 1) (.int .i64 y.n)).set (i * 3 + 2) (.int .i64 y.t)
  | [], i, _, h => by simp at h
  | x :: H, 0, _, _ => rfl
  | x :: H, i + 1, y, h => by
    have := irow_set H i y (by simpa using h)
    rw [Nat.succ_mul]
    show [_, _, _] ++ irow (H.set i y) = _
    rw [this]
    rfl

/-- v is a row of things, of jumps, of the call's own. -/
def IR (w : World) (v : Value) (H : List It) : Prop := w.ownsRow 0 49 3 v H.length (irow H)
def JR (w : World) (v : Value) (L : List J) : Prop := w.ownsRow 0 27 2 v L.length (jrow L)

theorem own_kept {S : Nat → Prop} {w w' : World} {e : TypeId} {sz n : Nat} {v : Value} {xs : List Value} (h : w.ownsRow 0 e sz v n xs) (k : Kept S w w') (hn : ∀ g, v.ownBlock = some g → ¬ S g) : w'.ownsRow 0 e sz v n xs := by
  obtain ⟨h1, h2⟩ := h
  refine ⟨h1, ?_⟩
  rcases h2 with h2 | ⟨g, cap, cur, rfl, hb, hg, r⟩
  · exact .inl h2
  · exact .inr ⟨g, cap, cur, rfl, hb, k.heap hg (hn g rfl), r⟩
theorem IR.kept {S : Nat → Prop} {w w' : World} {v : Value} {H : List It} (h : IR w v H) (k : Kept S w w') (hn : ∀ g, v.ownBlock = some g → ¬ S g) : IR w' v H := own_kept h k hn
theorem JR.kept {S : Nat → Prop} {w w' : World} {v : Value} {H : List J} (h : JR w v H) (k : Kept S w w') (hn : ∀ g, v.ownBlock = some g → ¬ S g) : JR w' v H := own_kept h k hn
theorem IR.shape {w : World} {v : Value} {H : List It} (h : IR w v H) : ∃ A c, v = .slice A H.length c ∧ H.length ≤ c ∧ c ≤ maxLen := by
  rcases h.2 with ⟨rfl, hn⟩ | ⟨g, cap, cur, rfl, _, _, h1, h2, _⟩
  · exact ⟨none, 0, by rw [hn], by omega, Nat.zero_le _⟩
  · exact ⟨_, _, rfl, h1, h2⟩
theorem JR.shape {w : World} {v : Value} {H : List J} (h : JR w v H) : ∃ A c, v = .slice A H.length c ∧ H.length ≤ c ∧ c ≤ maxLen := by
  rcases h.2 with ⟨rfl, hn⟩ | ⟨g, cap, cur, rfl, _, _, h1, h2, _⟩
  · exact ⟨none, 0, by rw [hn], by omega, Nat.zero_le _⟩
  · exact ⟨_, _, rfl, h1, h2⟩
theorem IR.cells {w : World} {v : Value} {H : List It} (h : IR w v H) (hn : H ≠ []) : ∃ b c, v = .slice (some ⟨b, 0, none⟩) H.length c ∧ H.length ≤ c ∧ c ≤ maxLen ∧ b < w.heap.size ∧ w.frozen? ⟨b, 0, none⟩ = false ∧
    ∀ i, i < H.length → w.cell? ⟨b, i * 3, none⟩ = some (.int .i64 (g H i).a) ∧ w.cell? ⟨b, i * 3 + 1, none⟩ = some (.int .i64 (g H i).n) ∧ w.cell? ⟨b, i * 3 + 2, none⟩ = some (.int .i64 (g H i).t) := by
  have h' := h
  rcases h'.2 with ⟨_, hz⟩ | ⟨b, cap, cur, rfl, _, hg, hc, hm, _⟩
  · exact absurd (List.eq_nil_of_length_eq_zero hz) hn
  · refine ⟨b, cap, rfl, hc, hm, (Array.getElem?_eq_some_iff.1 hg).1, by simp [World.frozen?, hg], fun i hi => ?_⟩
    obtain ⟨e0, e1, e2⟩ := irow_get H i hi
    exact ⟨by rw [World.ownsRow.cellAt h (i * 3) (by omega)]; exact e0, by rw [World.ownsRow.cellAt h (i * 3 + 1) (by omega)]; exact e1, by rw [World.ownsRow.cellAt h (i * 3 + 2) (by omega)]; exact e2⟩
theorem JR.cells {w : World} {v : Value} {H : List J} (h : JR w v H) (hn : H ≠ []) : ∃ b c, v = .slice (some ⟨b, 0, none⟩) H.length c ∧ H.length ≤ c ∧ c ≤ maxLen ∧ b < w.heap.size ∧
    ∀ i, i < H.length → w.cell? ⟨b, i * 2, none⟩ = some (.int .i64 (gj H i).1) ∧ w.cell? ⟨b, i * 2 + 1, none⟩ = some (.int .i64 (gj H i).2) := by
  have h' := h
  rcases h'.2 with ⟨_, hz⟩ | ⟨b, cap, cur, rfl, _, hg, hc, hm, _⟩
  · exact absurd (List.eq_nil_of_length_eq_zero hz) hn
  · refine ⟨b, cap, rfl, hc, hm, (Array.getElem?_eq_some_iff.1 hg).1, fun i hi => ?_⟩
    obtain ⟨e0, e1⟩ := jrow_get H i hi
    exact ⟨by rw [World.ownsRow.cellAt h (i * 2) (by omega)]; exact e0, by rw [World.ownsRow.cellAt h (i * 2 + 1) (by omega)]; exact e1⟩
theorem IR.other {w : World} {v : Value} {H : List It} (h : IR w v H) {c : Nat} {cs : Array Value} {T : TypeId} (hc : w.heap[c]? = some (.cells cs T (0, 0))) (hT : T ≠ 49) : v.ownBlock ≠ some c := by
  intro he
  rcases h.2 with ⟨rfl, _⟩ | ⟨g, cap, cur, rfl, _, hg, _⟩
  · cases he
  · simp [Value.ownBlock] at he
    subst he
    rw [hg] at hc
    injection hc with hc
    injection hc with _ h2 _
    exact hT h2.symm

/-- The order by At. -/
abbrev lessV : Value := .func (.func 8) #[] #[]

/-- The queue in block c: its heap, and how many turns there were. -/
structure QM (w : World) (c : Nat) (vH : Value) (H : List It) (T : Int) : Prop where
  blk : w.heap[c]? = some (.cells #[vH, lessV, .int .i64 T] 47 (0, 0))
  row : IR w vH H
def Own (c : Nat) (vH : Value) (k : Nat) : Prop := k = c ∨ vH.ownBlock = some k
theorem QM.lt {w : World} {c : Nat} {vH : Value} {H : List It} {T : Int} (h : QM w c vH H T) : c < w.heap.size := (Array.getElem?_eq_some_iff.1 h.blk).1
theorem QM.c0 {w : World} {c : Nat} {vH : Value} {H : List It} {T : Int} (h : QM w c vH H T) : w.cell? ⟨c, 0, none⟩ = some vH := by rw [cell_of_row w c 0 _ 47 (0, 0) h.blk]; rfl
theorem QM.c1 {w : World} {c : Nat} {vH : Value} {H : List It} {T : Int} (h : QM w c vH H T) : w.cell? ⟨c, 1, none⟩ = some lessV := by rw [cell_of_row w c 1 _ 47 (0, 0) h.blk]; rfl
theorem QM.c2 {w : World} {c : Nat} {vH : Value} {H : List It} {T : Int} (h : QM w c vH H T) : w.cell? ⟨c, 2, none⟩ = some (.int .i64 T) := by rw [cell_of_row w c 2 _ 47 (0, 0) h.blk]; rfl
theorem frozen_of {w : World} {c : Nat} {cs : Array Value} {T : TypeId} (h : w.heap[c]? = some (.cells cs T (0, 0))) (i : Nat) : w.frozen? ⟨c, i, none⟩ = false := by simp [World.frozen?, h]
theorem QM.notR {w : World} {c : Nat} {vH : Value} {H : List It} {T : Int} (h : QM w c vH H T) : vH.ownBlock ≠ some c := h.row.other h.blk (by decide)
theorem QM.kept {S : Nat → Prop} {w w' : World} {c : Nat} {vH : Value} {H : List It} {T : Int} (h : QM w c vH H T) (k : Kept S w w') (hn : ∀ j, Own c vH j → ¬ S j) : QM w' c vH H T :=
  ⟨k.heap h.blk (hn c (.inl rfl)), h.row.kept k (fun j hj => hn j (.inr hj))⟩
theorem QM.ownlt {w : World} {c : Nat} {vH : Value} {H : List It} {T : Int} (h : QM w c vH H T) {j : Nat} (hj : Own c vH j) : j < w.heap.size := by
  rcases hj with q | q
  · have := h.lt; omega
  · exact (World.ownsRow.lt h.row j q).2
theorem QM.drewN {w : World} {c : Nat} {vH : Value} {H : List It} {T : Int} (h : QM w c vH H T) (n : Nat) : QM (w.drewN n) c vH H T := h.kept ((Kept.refl (fun _ => False) w).drewN n) (fun _ _ q => q)

end Go.Proofs.Ytagcfomjbnecdaa
