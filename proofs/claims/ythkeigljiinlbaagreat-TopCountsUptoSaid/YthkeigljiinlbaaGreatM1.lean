/- Picked out of the text M of TopExprs. -/
import Derived.Test.YthkeigljiinlbaaGreatChecked
import Derived.WalkKit
import Derived.WalkLawsBesides
import Derived.WalkSpells
import Derived.Lib.Hide
import Derived.KernelRfl
import Derived.Carry
import Derived.Deep.Draws
import Derived.Deep.AppendLies
import Derived.Deep.RegionLaw
import Derived.Deep.QuietTactic
import Derived.BigQuiet
import Derived.BigRegion
import Derived.OwnWalk
import Derived.IntWalk
import Derived.Laws.Bits64
import Derived.Lib.Mul64
import Derived.Shelf.Bits.Mul64
import Derived.Laws.Strings3
import Derived.Deep.LoopGhost
import Derived.Deep.CutRange
import Derived.Deep.DeepCutAuto
namespace Go.Proofs.YthkeigljiinlbaaGreat
open Go.RowKit

/-- Of the blocks that were there only those of S may have changed. -/
structure Kept (S : Nat → Prop) (w w' : World) : Prop where
  os : w'.os = w.os
  tape : w'.tape = w.tape
  output : w'.output = w.output
  size : w.heap.size ≤ w'.heap.size
  block : ∀ k, k < w.heap.size → ¬ S k → w'.heap[k]? = w.heap[k]?

theorem Kept.refl (S : Nat → Prop) (w : World) : Kept S w w := ⟨rfl, rfl, rfl, Nat.le_refl _, fun _ _ _ => rfl⟩
theorem Kept.trans' {S T U : Nat → Prop} {a b c : World} (h : Kept S a b) (k : Kept T b c) (hS : ∀ i, i < a.heap.size → S i → U i) (hT : ∀ i, i < a.heap.size → T i → U i) : Kept U a c :=
  ⟨k.os.trans h.os, k.tape.trans h.tape, k.output.trans h.output, Nat.le_trans h.size k.size,
    fun i hi hn => (k.block i (Nat.lt_of_lt_of_le hi h.size) (fun t => hn (hT i hi t))).trans (h.block i hi (fun s => hn (hS i hi s)))⟩
theorem Kept.trans {S : Nat → Prop} {a b c : World} (h : Kept S a b) (k : Kept S b c) : Kept S a c := h.trans' k (fun _ _ x => x) (fun _ _ x => x)
theorem Kept.mono {S T : Nat → Prop} {w w' : World} (h : Kept S w w') (hS : ∀ k, k < w.heap.size → S k → T k) : Kept T w w' :=
  ⟨h.os, h.tape, h.output, h.size, fun k hk hn => h.block k hk (fun hs => hn (hS k hk hs))⟩
theorem Kept.drew {S : Nat → Prop} {a w : World} (h : Kept S a w) : Kept S a w.drew := ⟨h.os, h.tape, h.output, h.size, h.block⟩
theorem Kept.drewN {S : Nat → Prop} {a w : World} (h : Kept S a w) (n : Nat) : Kept S a (w.drewN n) := ⟨h.os, h.tape, h.output, h.size, h.block⟩
theorem Kept.alloc {S : Nat → Prop} {a w : World} (h : Kept S a w) (o : Obj) : Kept S a (w.alloc o) :=
  h.trans ⟨rfl, rfl, rfl, by simp, fun k hk _ => Below.heap_alloc _ _ _ hk⟩
theorem Kept.setCell {S : Nat → Prop} {a w : World} (h : Kept S a w) {p : Addr} (hp : p.block < a.heap.size → S p.block) (u : Value) : Kept S a (w.setCell p u) :=
  ⟨h.os, h.tape, h.output, by simpa [World.setCell] using h.size, fun k hk hn => by
    have hne : k ≠ p.block := fun e => hn (by subst e; exact hp hk)
    rw [Below.heap_setCell _ _ _ _ hne]
    exact h.block k hk hn⟩
theorem Kept.grown {S : Nat → Prop} {a w w' : World} {row : Option Nat} (h : Kept S a w) (hg : w.grownBy w' row) (hr : ∀ k, row = some k → k < a.heap.size → S k) : Kept S a w' :=
  ⟨hg.os.trans h.os, hg.tape.trans h.tape, hg.output.trans h.output, Nat.le_trans h.size hg.size,
    fun k hk hn => (hg.block k (Nat.lt_of_lt_of_le hk h.size) (fun e => hn (hr k e.symm hk))).trans (h.block k hk hn)⟩
theorem Kept.cell {S : Nat → Prop} {w w' : World} (h : Kept S w w') {p : Addr} {v : Value} (hv : w.cell? p = some v) (hn : ¬ S p.block) : w'.cell? p = some v := by
  have hb := World.block_lt_of_cell? (w := w) (a := p) hv
  rw [World.cell?_of_block (w := w) (h.block p.block hb hn)]
  exact hv
theorem Kept.heap {S : Nat → Prop} {w w' : World} (h : Kept S w w') {k : Nat} {o : Obj} (hv : w.heap[k]? = some o) (hn : ¬ S k) : w'.heap[k]? = some o := by
  rw [h.block k (Array.getElem?_eq_some_iff.1 hv).1 hn]; exact hv

theorem blk_set {w : World} {c : Nat} {cs : Array Value} {T : TypeId} {f : Nat × Nat} (h : w.heap[c]? = some (.cells cs T f)) (i : Nat) (v : Value) : (w.setCell ⟨c, i, none⟩ v).heap[c]? = some (.cells (cs.setIfInBounds i v) T f) := by
  simp only [World.setCell, Array.getElem?_modify, if_true, h, Option.map_some]
  rfl
theorem blk_set_other {w : World} {c : Nat} {o : Obj} (h : w.heap[c]? = some o) {p : Addr} (hp : p.block ≠ c) (v : Value) : (w.setCell p v).heap[c]? = some o := by
  rw [Below.heap_setCell _ _ _ _ (fun e => hp e.symm)]; exact h


def NewOr (w : World) (v v' : Value) : Prop := v'.ownBlock = v.ownBlock ∨ ∃ k, v'.ownBlock = some k ∧ w.heap.size ≤ k

theorem run_append_at {P : Program} (w : World) (t ty e : TypeId) (i : TypeInfo) (z : Value) (size bytes : Nat) (ht : P.underlying t = some (.slice e)) (hi : P.info? e = some i) (hz : i.zero = some z)
    (hsize : i.size = size) (hby : i.bytes = bytes) (hzs : z.cells.size = size) (hsz : 0 < size)
    (v : Value) (n : Nat) (xs : List Value) (hown : w.ownsRow 0 e size v n xs)
    (a : Addr) (m c : Nat) (news : List Value) (hl : news.length = m * size) (hnews : ∀ j u, news[j]? = some u → w.cell? (a.add j) = some u) (h1 : ∀ u ∈ news, u.oneCell' = true)
    (h63 : n + m ≤ maxLen) (hbytes : (n + m) * bytes ≤ 140737488355328) :
    ∃ v' w', (Builtin.append_ #[t, t] ty #[v, .slice (some a) m c]).run P w = .ok v' w' ∧ w'.ownsRow 0 e size v' (n + m) (xs ++ news) ∧ w.grownBy w' v.ownBlock ∧ NewOr w v v' := by
  obtain ⟨v', w', hr, h2, h3, h4⟩ := run_append_own (P := P) w 0 t ty e i z size bytes ht hi hz hsize hby hzs hsz v n xs hown a m c news hl hnews h1 h63 hbytes (Nat.zero_le _)
  refine ⟨v', w', hr, h2, h3, ?_⟩
  have hsmall : n + m ≤ 9223372036854775807 := by simp only [maxLen] at h63; omega
  subst hsize
  subst hby
  rcases hown.2 with ⟨rfl, rfl⟩ | ⟨g, cap, cur, rfl, hbg, hg, hnc, hcm, hcs, htake⟩
  · by_cases hm : m = 0
    · rw [h4.2 ⟨rfl, hm⟩]
      exact .inl rfl
    · have hr2 := run_append_nil (P := P) w t ty e i z ht hi hz a m c news hl hnews (by omega) (by omega) (by have hb := hbytes; simp only [Nat.zero_add] at hb; omega)
      rw [hr2] at hr
      injection hr with hr _
      subst hr
      exact .inr ⟨_, rfl, Nat.le_refl _⟩
  · by_cases hroom : n + m ≤ cap
    · obtain ⟨w2, hr2, _, _⟩ := run_append_fits (P := P) w 0 t ty e i i.size ht hi rfl g n cap xs hown a m c news hl hnews h1 hroom
      rw [hr2] at hr
      injection hr with hr _
      subst hr
      exact .inl rfl
    · have holds : ∀ j u, xs[j]? = some u → w.cell? ((⟨g, 0, none⟩ : Addr).add j) = some u := hown.cells (g := g) rfl
      have hr2 := run_append_grow (P := P) w t ty e i z ht hi hz ⟨g, 0, none⟩ n cap xs hown.1 holds a m c news hl hnews (by omega) (by omega) (growslice_fits (by omega) hbytes)
      rw [hr2] at hr
      injection hr with hr _
      subst hr
      exact .inr ⟨_, rfl, Nat.le_refl _⟩

theorem own_kept {S : Nat → Prop} {w w' : World} {e : TypeId} {sz n : Nat} {v : Value} {xs : List Value} (h : w.ownsRow 0 e sz v n xs) (k : Kept S w w') (hn : ∀ g, v.ownBlock = some g → ¬ S g) : w'.ownsRow 0 e sz v n xs := by
  obtain ⟨h1, h2⟩ := h
  refine ⟨h1, ?_⟩
  rcases h2 with h2 | ⟨g, cap, cur, rfl, hb, hg, r⟩
  · exact .inl h2
  · exact .inr ⟨g, cap, cur, rfl, hb, k.heap hg (hn g rfl), r⟩
theorem frozen_of {w : World} {c : Nat} {cs : Array Value} {T : TypeId} (h : w.heap[c]? = some (.cells cs T (0, 0))) (i : Nat) : w.frozen? ⟨c, i, none⟩ = false := by simp [World.frozen?, h]
theorem addr_add (b off i : Nat) : (⟨b, off, none⟩ : Addr).add i = ⟨b, off + i, none⟩ := by unfold Addr.add; split <;> simp_all
theorem ret_bool {a b : Bool} (h : a = b) : Ending.returned (.bool a) = .returned (.bool b) := by rw [h]
theorem ret_int {k : IntKind} {a b : Int} (h : a = b) : Ending.returned (.int k a) = .returned (.int k b) := by rw [h]
theorem int_eq {k : IntKind} {a b : Int} (h : a = b) : Value.int k a = .int k b := by rw [h]
theorem drew_kept (w : World) (n : Nat) : Kept (fun _ => False) w (w.drewN n) := (Kept.refl _ w).drewN n

section
variable {α : Type} (enc : α → List Value) (sz : Nat)
def cellsOf (L : List α) : List Value := L.flatMap enc
theorem cells_len (h : ∀ x, (enc x).length = sz) (L : List α) : (cellsOf enc L).length = L.length * sz := by
  induction L with
  | nil => simp [cellsOf]
  | cons x L ih =>
    have : cellsOf enc (x :: L) = enc x ++ cellsOf enc L := rfl
    rw [this, List.length_append, ih, h, List.length_cons, Nat.succ_mul]
    omega
theorem cells_app (L M : List α) : cellsOf enc (L ++ M) = cellsOf enc L ++ cellsOf enc M := by simp [cellsOf]
theorem cells_get (h : ∀ x, (enc x).length = sz) : ∀ (L : List α) (i : Nat) (x : α) (j : Nat) (u : Value), L[i]? = some x → (enc x)[j]? = some u → (cellsOf enc L)[i * sz + j]? = some u
  | [], i, x, j, u, hi, _ => by cases hi
  | y :: L, 0, x, j, u, hi, hj => by
    injection hi with hi
    subst hi
    have hl : j < (enc y).length := (List.getElem?_eq_some_iff.1 hj).1
    have : cellsOf enc (y :: L) = enc y ++ cellsOf enc L := rfl
    rw [this, Nat.zero_mul, Nat.zero_add, List.getElem?_append_left hl]
    exact hj
  | y :: L, i + 1, x, j, u, hi, hj => by
    have ih := cells_get h L i x j u hi hj
    have : cellsOf enc (y :: L) = enc y ++ cellsOf enc L := rfl
    rw [this, List.getElem?_append_right (by rw [h, Nat.succ_mul]; omega), h, Nat.succ_mul]
    rw [show i * sz + sz + j - sz = i * sz + j by omega]
    exact ih

/-- The things at A read as L; they do not lie in N. -/
def Src (w : World) (N : Nat → Prop) (A : Option Addr) (L : List α) : Prop :=
  ∀ i x, L[i]? = some x → ∃ b off, A = some ⟨b, off, none⟩ ∧ ¬ N b ∧ ∀ j u, (enc x)[j]? = some u → w.cell? ⟨b, off + i * sz + j, none⟩ = some u

/-- v is a row of things of the call's own. -/
def Row (T : TypeId) (w : World) (v : Value) (L : List α) : Prop := w.ownsRow 0 T sz v L.length (cellsOf enc L)
end

section
variable {α : Type} {enc : α → List Value} {sz : Nat} {w w' : World} {L : List α} {A : Option Addr} {N : Nat → Prop} {T : TypeId} {v : Value}
theorem Src.kept {S N' : Nat → Prop} (h : Src enc sz w N A L) (k : Kept S w w') (hS : ∀ j, S j → N j) (hN : ∀ j, N' j → N j) : Src enc sz w' N' A L := by
  intro i x hi
  obtain ⟨b, off, e, hb, hc⟩ := h i x hi
  exact ⟨b, off, e, fun q => hb (hN b q), fun j u hu => k.cell (hc j u hu) (fun q => hb (hS b q))⟩
theorem Src.same (h : Src enc sz w N A L) (k : Kept (fun _ => False) w w') : Src enc sz w' N A L := h.kept k (fun _ q => q.elim) (fun _ q => q)
theorem Src.nil : Src enc sz w N A [] := fun i x hi => by cases hi
theorem Src.news (h : ∀ x, (enc x).length = sz) {ad : Addr} (hs : Src enc sz w N (some ad) L) : ∀ j u, (cellsOf enc L)[j]? = some u → w.cell? (ad.add j) = some u := by
  intro j u hj
  have hl : j < L.length * sz := by
    have := (List.getElem?_eq_some_iff.1 hj).1
    rw [cells_len enc sz h] at this
    exact this
  have hsz : 0 < sz := by
    rcases Nat.eq_zero_or_pos sz with e | e
    · subst e; simp at hl
    · exact e
  have hi : j / sz < L.length := Nat.div_lt_of_lt_mul (by rw [Nat.mul_comm]; exact hl)
  have hx : L[j / sz]? = some L[j / sz] := List.getElem?_eq_getElem hi
  obtain ⟨b, off, e, _, hc⟩ := hs _ _ hx
  injection e with e
  subst e
  have hm : j % sz < (enc L[j / sz]).length := by rw [h]; exact Nat.mod_lt _ hsz
  have hu : (enc L[j / sz])[j % sz]? = some (enc L[j / sz])[j % sz] := List.getElem?_eq_getElem hm
  have hg := cells_get enc sz h L _ _ _ _ hx hu
  have ej : j / sz * sz + j % sz = j := Nat.div_add_mod' j sz
  rw [ej] at hg
  rw [hj] at hg
  injection hg with hg
  have := hc _ _ hu
  rw [Nat.add_assoc, ej] at this
  rw [addr_add, this, hg]
theorem Row.kept {S : Nat → Prop} (h : Row enc sz T w v L) (k : Kept S w w') (hn : ∀ g, v.ownBlock = some g → ¬ S g) : Row enc sz T w' v L := own_kept h k hn
theorem Row.same (h : Row enc sz T w v L) (k : Kept (fun _ => False) w w') : Row enc sz T w' v L := h.kept k (fun _ _ q => q)
theorem Row.shape (h : Row enc sz T w v L) : ∃ A c, v = .slice A L.length c ∧ L.length ≤ c ∧ c ≤ maxLen := by
  rcases h.2 with ⟨rfl, hn⟩ | ⟨g, cap, cur, rfl, _, _, h1, h2, _⟩
  · exact ⟨none, 0, by rw [hn], by omega, Nat.zero_le _⟩
  · exact ⟨_, _, rfl, h1, h2⟩
theorem Row.lt (h : Row enc sz T w v L) : ∀ j, v.ownBlock = some j → j < w.heap.size := fun j hj => (World.ownsRow.lt h j hj).2
theorem Row.src (h : ∀ x, (enc x).length = sz) (hr : Row enc sz T w v L) (N : Nat → Prop) (hN : ∀ j, v.ownBlock = some j → ¬ N j) : ∃ A c, v = .slice A L.length c ∧ L.length ≤ c ∧ c ≤ maxLen ∧ Src enc sz w N A L := by
  have hr' := hr
  rcases hr'.2 with ⟨rfl, hz⟩ | ⟨b, cap, cur, rfl, _, hg, hc, hm, _⟩
  · have : L = [] := List.eq_nil_of_length_eq_zero hz
    subst this
    exact ⟨none, 0, rfl, Nat.le_refl _, Nat.zero_le _, Src.nil⟩
  · refine ⟨_, cap, rfl, hc, hm, fun i x hi => ⟨b, 0, rfl, hN b rfl, fun j u hu => ?_⟩⟩
    have hg' := cells_get enc sz h L i x j u hi hu
    have hl : i * sz + j < (cellsOf enc L).length := (List.getElem?_eq_some_iff.1 hg').1
    rw [cells_len enc sz h] at hl
    rw [Nat.zero_add, World.ownsRow.cellAt hr (i * sz + j) (by omega)]
    exact hg'
theorem Row.other (h : Row enc sz T w v L) {c : Nat} {cs : Array Value} {T' : TypeId} (hc : w.heap[c]? = some (.cells cs T' (0, 0))) (hT : T' ≠ T) : v.ownBlock ≠ some c := by
  intro he
  rcases h.2 with ⟨rfl, _⟩ | ⟨g, cap, cur, rfl, _, hg, _⟩
  · cases he
  · simp [Value.ownBlock] at he
    subst he
    rw [hg] at hc
    injection hc with hc
    injection hc with _ h2 _
    exact hT h2.symm
theorem Row.ofNil (w : World) : Row enc sz T w (.slice none 0 0) ([] : List α) := ⟨by simp [cellsOf], .inl ⟨rfl, rfl⟩⟩
theorem Row.new (w : World) : Row enc sz T (w.alloc (.cells #[] T)) (.slice (some ⟨w.heap.size, 0, none⟩) 0 0) ([] : List α) := by
  have := World.ownsRow_lit (e := T) (size := sz) (base := 0) w #[] 0 (Nat.zero_le _) (Nat.zero_le _) (by simp)
  exact this
end

section
variable {P : Program} {α : Type} {enc : α → List Value} {sz : Nat} {w : World} {L M : List α} {N : Nat → Prop} {T : TypeId} {v : Value}
theorem Src.one {x : α} {B : Nat} {T' : TypeId} {f : Nat × Nat} (h : w.heap[B]? = some (.cells (enc x).toArray T' f)) (hn : ¬ N B) : Src enc sz w N (some ⟨B, 0, none⟩) [x] := by
  intro i y hi
  cases i with
  | zero =>
    injection hi with hi
    subst hi
    refine ⟨B, 0, rfl, hn, fun j u hu => ?_⟩
    rw [Nat.zero_mul, Nat.zero_add, cell_of_row w B j _ _ _ h]
    simpa using hu
  | succ i => cases hi

/-- What an append to a row of the call's own yields. -/
theorem app_src (t ty : TypeId) (z : Value) (bytes : Nat) (ht : P.underlying t = some (.slice T)) (hi : (P.info? T).map (fun i => (i.zero, i.size, i.bytes)) = some (some z, sz, bytes)) (hzs : z.cells.size = sz) (hsz : 0 < sz)
    (hlen : ∀ x, (enc x).length = sz) (hone : ∀ x, ∀ u ∈ enc x, u.oneCell' = true) (hrow : Row enc sz T w v L) (A : Option Addr) (c : Nat) (hA : A = none → M = [] ∧ c = 0) (hsrc : Src enc sz w N A M)
    (h63 : L.length + M.length ≤ maxLen) (hb : (L.length + M.length) * bytes ≤ 140737488355328) :
    ∃ A' c' w', (Builtin.append_ #[t, t] ty #[v, .slice A M.length c]).run P w = .ok (.slice A' (L.length + M.length) c') w' ∧ Row enc sz T w' (.slice A' (L ++ M).length c') (L ++ M) ∧ Kept (fun j => v.ownBlock = some j) w w' ∧
      (∀ j, (Value.slice A' (L.length + M.length) c').ownBlock = some j → v.ownBlock = some j ∨ w.heap.size ≤ j) := by
  obtain ⟨i, h1, h2, h3, h4⟩ := info_parts hi
  cases A with
  | none =>
    obtain ⟨rfl, rfl⟩ := hA rfl
    obtain ⟨A, c, hv, _, _⟩ := hrow.shape
    refine ⟨A, c, w, ?_, ?_, Kept.refl _ w, ?_⟩
    · have := run_append_owned_none (P := P) w 0 t ty T i sz ht h1 v _ _ hrow
      rw [List.length_nil, this, hv, Nat.add_zero]
    · rw [List.append_nil, ← hv]; exact hrow
    · intro j hj
      rw [List.length_nil, Nat.add_zero, ← hv] at hj
      exact .inl hj
  | some ad =>
    obtain ⟨v', w', hr, h5, h6, h7⟩ := run_append_at (P := P) w t ty T i z sz bytes ht h1 h2 h3 h4 hzs hsz v _ _ hrow ad M.length c (cellsOf enc M) (cells_len enc sz hlen M) (hsrc.news hlen)
      (fun u hu => by
        unfold cellsOf at hu
        rw [List.mem_flatMap] at hu
        obtain ⟨x, _, hx⟩ := hu
        exact hone x u hx) h63 hb
    have hrow' : Row enc sz T w' v' (L ++ M) := by
      unfold Row
      rw [cells_app, List.length_append]
      exact h5
    obtain ⟨A', c', hv', _, _⟩ := hrow'.shape
    refine ⟨A', c', w', ?_, ?_, ?_, ?_⟩
    · rw [hr, hv', List.length_append]
    · rw [← hv']; exact hrow'
    · exact (Kept.refl _ w).grown h6 (fun k hk _ => hk)
    · intro j hj
      rw [← List.length_append, ← hv'] at hj
      rcases h7 with e | ⟨k, e, hk⟩
      · exact .inl (by rw [← e]; exact hj)
      · rw [hj] at e
        injection e with e
        exact .inr (by omega)
end

end Go.Proofs.YthkeigljiinlbaaGreat

/- Picked out of the text A of TopExprs. -/
namespace Go.Proofs.YthkeigljiinlbaaGreat
open Go.RowKit

def I64 (a : Int) : Prop := -9223372036854775808 ≤ a ∧ a ≤ 9223372036854775807
end Go.Proofs.YthkeigljiinlbaaGreat

/- Picked out of the text B of TopExprs. -/
namespace Go.Proofs.YthkeigljiinlbaaGreat
open Go.RowKit

def st (l : List UInt8) : Value := .string ⟨⟨l⟩⟩
def digitB (c : UInt8) : Bool := !(decide ((c.toNat : Int) < 48) || decide (57 < (c.toNat : Int)))
end Go.Proofs.YthkeigljiinlbaaGreat
