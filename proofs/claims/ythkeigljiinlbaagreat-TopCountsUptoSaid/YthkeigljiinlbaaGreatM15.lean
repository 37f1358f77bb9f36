/- Picked out of the text BT of TopExprs. -/
import Derived.Test.YthkeigljiinlbaaGreatM14
import Derived.Deep.Slices
import Derived.Deep.Fields
import Derived.ChangeSame
namespace Go.Proofs.YthkeigljiinlbaaGreat
open Go.ChangeShapes Go.WideShapes Go.Deep Go.RowKit

section
variable {H : Type} {enc : TypeId × Value → H} {P : Program} {w : World} {base : Nat} {spare : Nat → Bool} {held : Bool}
theorem open_fields {t e : TypeId} {fs : Array Field} {fuel : Nat} {cs : List Value} {x : DataW H × List MemPlace} (ht : P.underlying t = some (.slice e)) (he : P.underlying e = some (.struct fs))
    (hone : oneCellFields P fs = true) (hC : P.cellsOf e = fs.size) (h : DataW.trod enc P w base spare held fuel t cs = some x) :
    (cs = [.slice none 0 0] ∧ x = (.nil, [])) ∨
    ∃ (a : Addr) (len cap m : Nat) (D : Nat → DataW H) (Pl : Nat → List MemPlace), cs = [.slice (some a) len cap] ∧ base ≤ a.block ∧ len ≤ cap ∧ cap ≤ maxLen ∧ m = (if spare a.block then cap else len) ∧
      x = (.slice ((List.range len).map D) ((List.range (m - len)).map fun j => D (len + j)), MemPlace.row a (m * fs.size) ++ (List.range m).flatMap Pl) ∧
      ∀ i, i < m → ∃ (ys : List (DataW H × List MemPlace)) (n : Nat), D i = .agg (ys.map (·.1)) ∧ Pl i = ys.flatMap (·.2) ∧ ys.length = fs.size ∧
        ∀ (j : Nat) (f : Field), fs[j]? = some f → ∃ (v : Value) (y : DataW H × List MemPlace), w.cell? (a.add (i * fs.size + j)) = some v ∧ ys[j]? = some y ∧ DataW.trod enc P w base spare held n f.type [v] = some y := by
  rcases open_slice ht h with h0 | ⟨a, len, cap, m, n, D, Pl, hcs, hb, hl, hm, hmm, hx, hi⟩
  · exact .inl h0
  · refine .inr ⟨a, len, cap, m, D, Pl, hcs, hb, hl, hm, hmm, by rw [hC] at hx; exact hx, fun i him => ?_⟩
    obtain ⟨cs', hc, ht'⟩ := hi i him
    rw [hC] at hc
    obtain ⟨ys, n', hn', hy, hlen, hyl, hf⟩ := DataW.trod_struct he ht'
    obtain ⟨_, hcl, hat⟩ := World.cells?_some hc
    simp only [Prod.mk.injEq] at hy
    refine ⟨ys, n', hy.1, hy.2, hyl, fun j f hj => ?_⟩
    obtain ⟨ho, hk⟩ := hone_of hone j f hj
    have hjl : j < fs.size := (Array.getElem?_eq_some_iff.1 hj).1
    have hcell := hat j hjl
    have hv : cs'[j]? = some (cs'[j]'(by omega)) := List.getElem?_eq_getElem (by omega)
    have h1 := hf j f hj
    rw [ho, hk] at h1
    have hone' : (cs'.drop j).take 1 = [cs'[j]'(by omega)] := by
      rw [List.drop_eq_getElem_cons (by omega)]
      rfl
    rw [hone'] at h1
    have hys : ys[j]? = some (ys[j]'(by omega)) := List.getElem?_eq_getElem (by omega)
    refine ⟨_, _, ?_, hys, h1.trans hys⟩
    rw [← Go.Deep.add_add, hcell, hv]
end

theorem list_of {α : Type} {Q : Nat → α → Prop} : ∀ (n : Nat), (∀ i, i < n → ∃ x, Q i x) → ∃ L : List α, L.length = n ∧ ∀ (i : Nat) (x : α), L[i]? = some x → Q i x
  | 0, _ => ⟨[], rfl, fun i x hi => by cases hi⟩
  | n + 1, h => by
    obtain ⟨L, hl, hL⟩ := list_of n (fun i hi => h i (by omega))
    obtain ⟨x, hx⟩ := h n (by omega)
    refine ⟨L ++ [x], by rw [List.length_append, hl]; rfl, fun i y hi => ?_⟩
    rcases Nat.lt_or_ge i n with q | q
    · rw [List.getElem?_append_left (by omega)] at hi
      exact hL i y hi
    · have hin : i < (L ++ [x]).length := (List.getElem?_eq_some_iff.1 hi).1
      rw [List.length_append, hl] at hin
      simp only [List.length_cons, List.length_nil] at hin
      have : i = n := by omega
      subst this
      rw [List.getElem?_append_right (by omega), hl, Nat.sub_self] at hi
      injection hi with hi
      subst hi
      exact hx
theorem add_plain0 (b off i : Nat) : (⟨b, off, none⟩ : Addr).add i = ⟨b, off + i, none⟩ := by unfold Addr.add; split <;> simp_all
theorem spot_none {W : World} {a : Addr} {k : Nat} {v : Value} (h : W.cell? (a.add (0 * k)) = some v) : ∃ b off, a = ⟨b, off, none⟩ := by
  obtain ⟨b, off, spot⟩ := a
  have : spot = none := by
    have := World.cell?_spot h
    unfold Addr.add at this
    simpa using this
  subst this
  exact ⟨b, off, rfl⟩
theorem i64_wf {n : Int} (h : (Lit.int .i64 n).wf = true) : I64 n := by
  have e1 : IntKind.min .i64 = -9223372036854775808 := by decide
  have e2 : IntKind.max .i64 = 9223372036854775807 := by decide
  unfold I64
  simp [Lit.wf, e1, e2] at h
  omega
theorem zero_get {α : Type} {L : List α} {i : Nat} {c : α} (h : L[i]? = some c) : ∃ c0, L[0]? = some c0 := by
  have := (List.getElem?_eq_some_iff.1 h).1
  exact ⟨_, List.getElem?_eq_getElem (by omega)⟩

variable {H : Type} {enc : TypeId × Value → H} {W : World} {held : Bool}
theorem schema_open {fuel : Nat} {a : Option Addr} {len cap : Nat} {x : DataW H × List MemPlace} (h : DataW.trod enc Tryz.prog W 0 (fun _ => true) held fuel 28 [.slice a len cap] = some x) :
    ∃ S : List Cl, S.length = len ∧ len ≤ maxLen ∧ Src encC 2 W (fun _ => False) a S := by
  rcases open_fields Tryz.underlying28 Tryz.underlying69 (by kernel_rfl) (by kernel_rfl) h with ⟨hcs, _⟩ | ⟨ad, len', cap', m, D, Pl, hcs, _, hl, hm, hmm, hx, hi⟩
  · injection hcs with hcs
    injection hcs with h1 h2 h3
    subst h1 h2 h3
    exact ⟨[], rfl, Nat.zero_le _, Src.nil⟩
  · injection hcs with hcs
    injection hcs with h1 h2 h3
    subst h1 h2 h3
    simp only [if_true] at hmm
    subst hmm
    obtain ⟨L, hL, hQ⟩ := list_of (α := Cl) (Q := fun i c => W.cell? (ad.add (i * 2)) = some (.string ⟨⟨c.n⟩⟩) ∧ W.cell? (ad.add (i * 2 + 1)) = some (.int .i64 c.k)) len (fun i hil => by
      obtain ⟨ys, n, _, _, _, hf⟩ := hi i (by omega)
      obtain ⟨v0, y0, c0, _, t0⟩ := hf 0 _ rfl
      obtain ⟨v1, y1, c1, _, t1⟩ := hf 1 _ rfl
      obtain ⟨s, e0, _, _⟩ := DataW.trod_string Tryz.underlying9 t0
      obtain ⟨k, e1, _, _⟩ := DataW.trod_int Tryz.underlying46 t1
      injection e0 with e0
      injection e1 with e1
      subst e0 e1
      exact ⟨⟨s.data.toList, k⟩, c0, c1⟩)
    refine ⟨L, hL, by omega, fun i c hc => ?_⟩
    obtain ⟨c0, c1⟩ := hQ i c hc
    obtain ⟨z, hz⟩ := zero_get hc
    obtain ⟨b, off, rfl⟩ := spot_none (hQ 0 z hz).1
    rw [add_plain0] at c0 c1
    refine ⟨b, off, rfl, fun q => q, fun j u hu => ?_⟩
    match j, hu with
    | 0, hu => injection hu with hu; subst hu; exact c0
    | 1, hu => injection hu with hu; subst hu; rw [Nat.add_assoc]; exact c1
theorem row_open {fuel : Nat} {a : Option Addr} {len cap : Nat} {x : DataW H × List MemPlace} (h : DataW.trod enc Tryz.prog W 0 (fun _ => true) held fuel 43 [.slice a len cap] = some x) :
    ∃ R : List Wd, R.length = len ∧ (a = none → R = [] ∧ cap = 0) ∧ Src encW 3 W (fun _ => False) a R ∧ (∀ v ∈ R, I64 v.n) ∧ R.length ≤ Rows.uptoBulk x.1 := by
  rcases open_fields Tryz.underlying43 Tryz.underlying48 (by kernel_rfl) (by kernel_rfl) h with ⟨hcs, _⟩ | ⟨ad, len', cap', m, D, Pl, hcs, _, hl, hm, hmm, hx, hi⟩
  · injection hcs with hcs
    injection hcs with h1 h2 h3
    subst h1 h2 h3
    exact ⟨[], rfl, fun _ => ⟨rfl, rfl⟩, Src.nil, (fun v hv => by cases hv), Nat.zero_le _⟩
  · injection hcs with hcs
    injection hcs with h1 h2 h3
    subst h1 h2 h3
    simp only [if_true] at hmm
    subst hmm
    obtain ⟨L, hL, hQ⟩ := list_of (α := Wd) (Q := fun i c => (W.cell? (ad.add (i * 3)) = some (.int .i64 c.c) ∧ W.cell? (ad.add (i * 3 + 1)) = some (.int .i64 c.n) ∧ W.cell? (ad.add (i * 3 + 2)) = some (.string ⟨⟨c.t⟩⟩)) ∧ I64 c.n) len (fun i hil => by
      obtain ⟨ys, n, _, _, _, hf⟩ := hi i (by omega)
      obtain ⟨v0, y0, c0, _, t0⟩ := hf 0 _ rfl
      obtain ⟨v1, y1, c1, _, t1⟩ := hf 1 _ rfl
      obtain ⟨v2, y2, c2, _, t2⟩ := hf 2 _ rfl
      obtain ⟨k, e0, _, _⟩ := DataW.trod_int Tryz.underlying46 t0
      obtain ⟨n1, e1, _, hw⟩ := DataW.trod_int Tryz.underlying3 t1
      obtain ⟨s, e2, _, _⟩ := DataW.trod_string Tryz.underlying9 t2
      injection e0 with e0
      injection e1 with e1
      injection e2 with e2
      subst e0 e1 e2
      exact ⟨⟨k, n1, s.data.toList⟩, ⟨c0, c1, c2⟩, i64_wf hw⟩)
    refine ⟨L, hL, (fun q => by cases q), fun i c hc => ?_, fun v hv => ?_, ?_⟩
    · obtain ⟨⟨c0, c1, c2⟩, _⟩ := hQ i c hc
      obtain ⟨z, hz⟩ := zero_get hc
      obtain ⟨b, off, rfl⟩ := spot_none (hQ 0 z hz).1.1
      rw [add_plain0] at c0 c1 c2
      refine ⟨b, off, rfl, fun q => q, fun j u hu => ?_⟩
      match j, hu with
      | 0, hu => injection hu with hu; subst hu; exact c0
      | 1, hu => injection hu with hu; subst hu; rw [Nat.add_assoc]; exact c1
      | 2, hu => injection hu with hu; subst hu; rw [Nat.add_assoc]; exact c2
    · obtain ⟨i, hi, rfl⟩ := List.getElem_of_mem hv
      exact (hQ i _ (List.getElem?_eq_getElem hi)).2
    · rw [hx]
      have := bulks.slice_le ((List.range len).map D) ((List.range (m - len)).map fun j => D (len + j))
      rw [List.length_map, List.length_range] at this
      simp only
      omega
theorem edges_open {fuel : Nat} {a : Option Addr} {len cap : Nat} {x : DataW H × List MemPlace} (h : DataW.trod enc Tryz.prog W 0 (fun _ => true) held fuel 22 [.slice a len cap] = some x) (hb : Rows.uptoBulk x.1 ≤ 1048576) :
    ∃ L : List Ed, L.length = len ∧ len ≤ 1048576 ∧ EdS W (fun _ => False) a L ∧ (∀ y ∈ L, ∀ v ∈ y.r, I64 v.n) := by
  rcases open_fields Tryz.underlying22 Tryz.underlying50 (by kernel_rfl) (by kernel_rfl) h with ⟨hcs, _⟩ | ⟨ad, len', cap', m, D, Pl, hcs, _, hl, hm, hmm, hx, hi⟩
  · injection hcs with hcs
    injection hcs with h1 h2 h3
    subst h1 h2 h3
    exact ⟨[], rfl, Nat.zero_le _, (fun i x hi => by cases hi), (fun v hv => by cases hv)⟩
  · injection hcs with hcs
    injection hcs with h1 h2 h3
    subst h1 h2 h3
    simp only [if_true] at hmm
    subst hmm
    have hbl := bulks.slice_le ((List.range len).map D) ((List.range (m - len)).map fun j => D (len + j))
    have hbe := bulks.slice_elems ((List.range len).map D) ((List.range (m - len)).map fun j => D (len + j))
    rw [List.length_map, List.length_range] at hbl
    rw [hx] at hb
    simp only at hb
    obtain ⟨L, hL, hQ⟩ := list_of (α := Ed) (Q := fun i c => (∃ B d, W.cell? (ad.add (i * 3)) = some (.slice B c.r.length d) ∧ W.cell? (ad.add (i * 3 + 1)) = some (.int .i64 c.a) ∧ W.cell? (ad.add (i * 3 + 2)) = some (.int .i64 c.n) ∧ (B = none → c.r = [] ∧ d = 0) ∧ Src encW 3 W (fun _ => False) B c.r ∧ c.r.length ≤ 1048576) ∧ ∀ v ∈ c.r, I64 v.n) len (fun i hil => by
      obtain ⟨ys, n, hD, _, _, hf⟩ := hi i (by omega)
      obtain ⟨v0, y0, c0, hy0, t0⟩ := hf 0 _ rfl
      obtain ⟨v1, y1, c1, _, t1⟩ := hf 1 _ rfl
      obtain ⟨v2, y2, c2, _, t2⟩ := hf 2 _ rfl
      obtain ⟨n1, e1, _, _⟩ := DataW.trod_int Tryz.underlying3 t1
      obtain ⟨n2, e2, _, _⟩ := DataW.trod_int Tryz.underlying3 t2
      injection e1 with e1
      injection e2 with e2
      subst e1 e2
      have hsl : ∃ B l d, v0 = .slice B l d := by
        rcases open_slice Tryz.underlying43 t0 with ⟨q, _⟩ | ⟨b2, l2, d2, _, _, _, _, q, _⟩
        · injection q with q; exact ⟨_, _, _, q⟩
        · injection q with q; exact ⟨_, _, _, q⟩
      obtain ⟨B, l, d, rfl⟩ := hsl
      obtain ⟨R, hR, hRn, hRs, hRi, hRb⟩ := row_open t0
      subst hR
      have h1 : Rows.uptoBulk y0.1 ≤ Rows.uptoBulkAll (ys.map (·.1)) := bulks.part_le (List.mem_map_of_mem (List.mem_of_getElem? hy0))
      have h2 : Rows.uptoBulkAll (ys.map (·.1)) ≤ Rows.uptoBulk (D i) := by rw [hD]; simp only [Rows.uptoBulk]; omega
      have h3 : Rows.uptoBulk (D i) ≤ Rows.uptoBulkAll ((List.range len).map D) := bulks.part_le (List.mem_map_of_mem (List.mem_range.2 hil))
      exact ⟨⟨R, n1, n2⟩, ⟨B, d, c0, c1, c2, hRn, hRs, by simp only; omega⟩, hRi⟩)
    refine ⟨L, hL, by omega, fun i c hc => ?_, fun v hv => ?_⟩
    · obtain ⟨⟨B, d, c0, c1, c2, h4, h5, h6⟩, _⟩ := hQ i c hc
      obtain ⟨z, hz⟩ := zero_get hc
      obtain ⟨⟨_, _, z0, _⟩, _⟩ := hQ 0 z hz
      obtain ⟨b, off, rfl⟩ := spot_none z0
      rw [add_plain0] at c0 c1 c2
      exact ⟨b, off, B, d, rfl, fun q => q, c0, by rw [Nat.add_assoc]; exact c1, by rw [Nat.add_assoc]; exact c2, h4, h5, h6⟩
    · obtain ⟨i, hi, rfl⟩ := List.getElem_of_mem hv
      exact (hQ i _ (List.getElem?_eq_getElem hi)).2
end Go.Proofs.YthkeigljiinlbaaGreat

/- Sorting, in plain lists: what a sort, a merge, a turn and an exchange make of a list. -/
namespace Go.Proofs.YthkeigljiinlbaaGreat

section
variable {α : Type} (key : α → Int)
/-- In order. -/
def Srt (L : List α) : Prop := L.Pairwise (fun x y => key x ≤ key y)
/-- The key at a place. -/
def kd (D : List α) (i : Nat) : Int := match D[i]? with | some x => key x | none => 0
variable {key}
theorem kd_of {D : List α} {i : Nat} {x : α} (h : D[i]? = some x) : kd key D i = key x := by unfold kd; rw [h]
theorem Srt.nil : Srt key ([] : List α) := List.Pairwise.nil
theorem Srt.one (x : α) : Srt key [x] := by unfold Srt; simp
theorem srt_append {X Y : List α} : Srt key (X ++ Y) ↔ Srt key X ∧ Srt key Y ∧ ∀ x ∈ X, ∀ y ∈ Y, key x ≤ key y := List.pairwise_append
theorem Srt.perm_le {X X' Y Y' : List α} (hX : X'.Perm X) (hY : Y'.Perm Y) (sX : Srt key X') (sY : Srt key Y') (h : ∀ x ∈ X, ∀ y ∈ Y, key x ≤ key y) : Srt key (X' ++ Y') :=
  srt_append.2 ⟨sX, sY, fun x hx y hy => h x (hX.mem_iff.1 hx) y (hY.mem_iff.1 hy)⟩
theorem Srt.kd {A X B : List α} (h : Srt key X) {i j : Nat} (h1 : A.length ≤ i) (h2 : i ≤ j) (h3 : j < A.length + X.length) : kd key (A ++ (X ++ B)) i ≤ kd key (A ++ (X ++ B)) j := by
  have e : ∀ i, A.length ≤ i → i < A.length + X.length → ∃ x, X[i - A.length]? = some x ∧ (A ++ (X ++ B))[i]? = some x := fun i a b => by
    have hi : i - A.length < X.length := by omega
    refine ⟨X[i - A.length], List.getElem?_eq_getElem hi, ?_⟩
    rw [List.getElem?_append_right a, List.getElem?_append_left hi]
    exact List.getElem?_eq_getElem hi
  obtain ⟨x, x1, x2⟩ := e i h1 (by omega)
  obtain ⟨y, y1, y2⟩ := e j (by omega) h3
  rw [kd_of x2, kd_of y2]
  rcases Nat.lt_or_eq_of_le h2 with q | q
  · unfold Srt at h
    rw [List.pairwise_iff_getElem] at h
    obtain ⟨p1, e1⟩ := List.getElem?_eq_some_iff.1 x1
    obtain ⟨p2, e2⟩ := List.getElem?_eq_some_iff.1 y1
    have := h (i - A.length) (j - A.length) p1 p2 (by omega)
    rw [e1, e2] at this
    exact this
  · subst q
    rw [x2] at y2
    injection y2 with y2
    rw [y2]
    exact Int.le_refl _
end

section
variable {α : Type}
theorem set_app (A : List α) (x y : α) (B : List α) : (A ++ x :: B).set A.length y = A ++ y :: B := by
  rw [List.set_append_right _ _ (Nat.le_refl _), Nat.sub_self]; rfl
theorem set_app' {A : List α} {i : Nat} (x y : α) (B : List α) (h : i = A.length) : (A ++ x :: B).set i y = A ++ y :: B := by subst h; exact set_app A x y B
theorem get_app (A : List α) (x : α) (B : List α) : (A ++ x :: B)[A.length]? = some x := by simp
theorem get_app' {A : List α} {i : Nat} (x : α) (B : List α) (h : i = A.length) : (A ++ x :: B)[i]? = some x := by subst h; exact get_app A x B
/-- Two places change. -/
theorem swap_app (A : List α) (x : α) (C : List α) (y : α) (B : List α) : ((A ++ x :: (C ++ y :: B)).set A.length y).set (A.length + 1 + C.length) x = A ++ y :: (C ++ x :: B) := by
  rw [set_app]
  have e : A ++ y :: (C ++ y :: B) = (A ++ y :: C) ++ y :: B := by simp
  rw [e, set_app' y x B (by simp; omega)]
  simp
theorem swap_app2 (A : List α) (x : α) (C : List α) (y : α) (B : List α) : ((A ++ x :: (C ++ y :: B)).set (A.length + 1 + C.length) x).set A.length y = A ++ y :: (C ++ x :: B) := by
  have e : A ++ x :: (C ++ y :: B) = (A ++ x :: C) ++ y :: B := by simp
  rw [e, set_app' y x B (by simp; omega)]
  have e2 : (A ++ x :: C) ++ x :: B = A ++ x :: (C ++ x :: B) := by simp
  rw [e2, set_app]
end
end Go.Proofs.YthkeigljiinlbaaGreat

/- An array of the call's own whose things are put elsewhere. -/
namespace Go.Proofs.YthkeigljiinlbaaGreat
open Go.RowKit

section
variable {α : Type} {enc : α → List Value} {sz : Nat} {T : TypeId} {w W : World} {g cap : Nat} {L : List α}
/-- The things L lie in block g, and nothing older than w but that block is touched. -/
structure Arr (enc : α → List Value) (sz : Nat) (T : TypeId) (w W : World) (g cap : Nat) (L : List α) : Prop where
  row : Row enc sz T W (.slice (some ⟨g, 0, none⟩) L.length cap) L
  kept : Kept (fun j => j = g) w W
theorem Arr.same {W' : World} (h : Arr enc sz T w W g cap L) (k : Kept (fun _ => False) W W') : Arr enc sz T w W' g cap L := ⟨h.row.same k, h.kept.trans' k (fun _ _ q => q) (fun _ _ q => q.elim)⟩
theorem Arr.drew (h : Arr enc sz T w W g cap L) : Arr enc sz T w W.drew g cap L := h.same (drew_kept W 1)
theorem Arr.cell (hlen : ∀ x, (enc x).length = sz) (h : Arr enc sz T w W g cap L) {i : Nat} {x : α} (hx : L[i]? = some x) {j : Nat} {u : Value} (hu : (enc x)[j]? = some u) : W.cell? ⟨g, i * sz + j, none⟩ = some u := by
  have hj : i * sz + j < L.length * sz := by
    have h1 := (List.getElem?_eq_some_iff.1 hx).1
    have h2 := (List.getElem?_eq_some_iff.1 hu).1
    rw [hlen] at h2
    have : (i + 1) * sz ≤ L.length * sz := Nat.mul_le_mul_right _ h1
    rw [Nat.add_mul, Nat.one_mul] at this
    omega
  rw [World.ownsRow.cellAt h.row _ hj]
  exact cells_get enc sz hlen L i x j u hx hu
theorem Arr.frozen (h : Arr enc sz T w W g cap L) (j : Nat) : W.frozen? ⟨g, j, none⟩ = false := World.ownsRow.frozenAt h.row j
theorem Arr.le (h : Arr enc sz T w W g cap L) : L.length ≤ cap ∧ cap ≤ maxLen := by
  obtain ⟨A, c, e, h1, h2⟩ := h.row.shape
  injection e with _ _ e
  subst e
  exact ⟨h1, h2⟩
theorem Arr.new {W : World} {v : Value} (hr : Row enc sz T W v L) {g cap : Nat} (hv : v = .slice (some ⟨g, 0, none⟩) L.length cap) : Arr enc sz T W W g cap L := ⟨hv ▸ hr, Kept.refl _ W⟩
theorem cells_set2 (hlen : ∀ x, (enc x).length = 2) {y : α} {u0 u1 : Value} (hy : enc y = [u0, u1]) {i : Nat} (hi : i < L.length) : ((cellsOf enc L).set (i * 2) u0).set (i * 2 + 1) u1 = cellsOf enc (L.set i y) := by
  obtain ⟨A, x, B, rfl, rfl⟩ : ∃ A x B, L = A ++ x :: B ∧ i = A.length := ⟨L.take i, L[i], L.drop (i + 1), by rw [← List.drop_eq_getElem_cons hi, List.take_append_drop], by rw [List.length_take]; omega⟩
  obtain ⟨a, b, hx⟩ : ∃ a b, enc x = [a, b] := by
    have := hlen x
    match enc x, this with
    | [a, b], _ => exact ⟨a, b, rfl⟩
  rw [set_app, cells_app, cells_app]
  have e1 : cellsOf enc (x :: B) = a :: b :: cellsOf enc B := by show enc x ++ _ = _; rw [hx]; rfl
  have e2 : cellsOf enc (y :: B) = u0 :: u1 :: cellsOf enc B := by show enc y ++ _ = _; rw [hy]; rfl
  rw [e1, e2]
  have hl := cells_len enc 2 hlen A
  rw [set_app' a u0 _ hl.symm]
  have e3 : cellsOf enc A ++ u0 :: b :: cellsOf enc B = (cellsOf enc A ++ [u0]) ++ b :: cellsOf enc B := by simp
  rw [e3, set_app' b u1 _ (by rw [List.length_append, hl]; rfl)]
  simp
theorem cells_set3 (hlen : ∀ x, (enc x).length = 3) {y : α} {u0 u1 u2 : Value} (hy : enc y = [u0, u1, u2]) {i : Nat} (hi : i < L.length) : (((cellsOf enc L).set (i * 3) u0).set (i * 3 + 1) u1).set (i * 3 + 2) u2 = cellsOf enc (L.set i y) := by
  obtain ⟨A, x, B, rfl, rfl⟩ : ∃ A x B, L = A ++ x :: B ∧ i = A.length := ⟨L.take i, L[i], L.drop (i + 1), by rw [← List.drop_eq_getElem_cons hi, List.take_append_drop], by rw [List.length_take]; omega⟩
  obtain ⟨a, b, c, hx⟩ : ∃ a b c, enc x = [a, b, c] := by
    have := hlen x
    match enc x, this with
    | [a, b, c], _ => exact ⟨a, b, c, rfl⟩
  rw [set_app, cells_app, cells_app]
  have e1 : cellsOf enc (x :: B) = a :: b :: c :: cellsOf enc B := by show enc x ++ _ = _; rw [hx]; rfl
  have e2 : cellsOf enc (y :: B) = u0 :: u1 :: u2 :: cellsOf enc B := by show enc y ++ _ = _; rw [hy]; rfl
  rw [e1, e2]
  have hl := cells_len enc 3 hlen A
  rw [set_app' a u0 _ hl.symm]
  have e3 : cellsOf enc A ++ u0 :: b :: c :: cellsOf enc B = (cellsOf enc A ++ [u0]) ++ b :: (c :: cellsOf enc B) := by simp
  rw [e3, set_app' b u1 _ (by rw [List.length_append, hl]; rfl)]
  have e4 : (cellsOf enc A ++ [u0]) ++ u1 :: (c :: cellsOf enc B) = (cellsOf enc A ++ [u0, u1]) ++ c :: cellsOf enc B := by simp
  rw [e4, set_app' c u2 _ (by rw [List.length_append, hl]; rfl)]
  simp
theorem Arr.set2 (hlen : ∀ x, (enc x).length = 2) (h : Arr enc 2 T w W g cap L) {y : α} {u0 u1 : Value} (hy : enc y = [u0, u1]) {i : Nat} (hi : i < L.length) :
    Arr enc 2 T w ((W.setCell ⟨g, i * 2, none⟩ u0).setCell ⟨g, i * 2 + 1, none⟩ u1) g cap (L.set i y) := by
  obtain ⟨r1, _⟩ := World.ownsRow.stored h.row (i * 2) u0
  obtain ⟨r2, _⟩ := World.ownsRow.stored r1 (i * 2 + 1) u1
  rw [cells_set2 hlen hy hi] at r2
  refine ⟨?_, (h.kept.setCell (p := ⟨g, i * 2, none⟩) (fun _ => rfl) u0).setCell (p := ⟨g, i * 2 + 1, none⟩) (fun _ => rfl) u1⟩
  unfold Row
  rw [List.length_set]
  exact r2
theorem Arr.set3 (hlen : ∀ x, (enc x).length = 3) (h : Arr enc 3 T w W g cap L) {y : α} {u0 u1 u2 : Value} (hy : enc y = [u0, u1, u2]) {i : Nat} (hi : i < L.length) :
    Arr enc 3 T w (((W.setCell ⟨g, i * 3, none⟩ u0).setCell ⟨g, i * 3 + 1, none⟩ u1).setCell ⟨g, i * 3 + 2, none⟩ u2) g cap (L.set i y) := by
  obtain ⟨r1, _⟩ := World.ownsRow.stored h.row (i * 3) u0
  obtain ⟨r2, _⟩ := World.ownsRow.stored r1 (i * 3 + 1) u1
  obtain ⟨r3, _⟩ := World.ownsRow.stored r2 (i * 3 + 2) u2
  rw [cells_set3 hlen hy hi] at r3
  refine ⟨?_, ((h.kept.setCell (p := ⟨g, i * 3, none⟩) (fun _ => rfl) u0).setCell (p := ⟨g, i * 3 + 1, none⟩) (fun _ => rfl) u1).setCell (p := ⟨g, i * 3 + 2, none⟩) (fun _ => rfl) u2⟩
  unfold Row
  rw [List.length_set]
  exact r3
end
end Go.Proofs.YthkeigljiinlbaaGreat
